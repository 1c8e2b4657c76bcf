
/- Plain words for memory: a slice that reads as a list of integers ('Rd'), a block that is known whole ('Blk'). No program in sight. -/
import Derived.WalkKit
import Derived.WalkSpells
import Derived.Lib.Hide
import Derived.Deep.Draws
import Derived.Laws.BitsAllLaws
import Derived.Laws.BitsLemmas
namespace Go.Proofs.Ytjogfeichnkffaa
open Go.RowKit

theorem bcell {W w1 : World} (hb : Below W.heap.size W w1) : (∀ b o, b < W.heap.size → w1.cell? ⟨b, o, none⟩ = W.cell? ⟨b, o, none⟩) ∧ (∀ b o, b < W.heap.size → w1.frozen? ⟨b, o, none⟩ = W.frozen? ⟨b, o, none⟩) :=
  ⟨fun b o h => hb.cell (p := ⟨b, o, none⟩) h, fun b o h => hb.frozen (p := ⟨b, o, none⟩) h⟩

theorem still_of {P : Program} {f : Nat} {args : Array Value} {w : World} {v : Value} (h : Calls P f args w fun e w' => e = .returned v ∧ w = w') : Calls P f args w fun e w' => e = .returned v ∧ w' = w :=
  h.mono fun _ _ h => ⟨h.1, h.2.symm⟩
theorem ret_bool {a b : Bool} (h : a = b) : Ending.returned (.bool a) = .returned (.bool b) := by rw [h]
theorem ret_int {k : IntKind} {a b : Int} (h : a = b) : Ending.returned (.int k a) = .returned (.int k b) := by rw [h]

/-- Block g is just the cells cs of element type t, none frozen. -/
def Blk (w : World) (g : Nat) (t : TypeId) (cs : Array Value) : Prop := w.heap[g]? = some (.cells cs t (0, 0))

section
variable {w w' : World} {g : Nat} {t : TypeId} {cs : Array Value}
theorem Blk.lt (h : Blk w g t cs) : g < w.heap.size := by
  rcases Nat.lt_or_ge g w.heap.size with hlt | hge
  · exact hlt
  · unfold Blk at h; rw [Array.getElem?_eq_none hge] at h; cases h
theorem Blk.cell (h : Blk w g t cs) (i : Nat) : w.cell? ⟨g, i, none⟩ = cs[i]? := cell_of_row w g i cs t (0, 0) h
theorem Blk.frozen (h : Blk w g t cs) (i : Nat) : w.frozen? ⟨g, i, none⟩ = false := by
  unfold Blk at h
  simp [World.frozen?, h]
theorem Blk.new (w : World) (t : TypeId) (cs : Array Value) : Blk (w.alloc (.cells cs t)) w.heap.size t cs := heap_alloc_new w _
theorem Blk.drew (h : Blk w g t cs) : Blk w.drew g t cs := h
theorem Blk.drewN (h : Blk w g t cs) (n : Nat) : Blk (w.drewN n) g t cs := h
theorem Blk.alloc (h : Blk w g t cs) (o : Obj) : Blk (w.alloc o) g t cs := (Below.heap_alloc w o g h.lt).trans h
theorem Blk.set_ (h : Blk w g t cs) (i : Nat) (u : Value) : Blk (w.setCell ⟨g, i, none⟩ u) g t (cs.setIfInBounds i u) := by
  unfold Blk at h ⊢
  simp [World.setCell, Array.getElem?_modify, h]
theorem Blk.far (h : Blk w g t cs) {p : Addr} (hp : g ≠ p.block) (u : Value) : Blk (w.setCell p u) g t cs := (Below.heap_setCell w p u g hp).trans h
theorem Blk.below {B : Nat} (h : Blk w g t cs) (hb : Below B w w') (hg : g < B) : Blk w' g t cs := (hb.block g hg).trans h
theorem Blk.next (h : Blk w g t cs) (hb : Below w.heap.size w w') : Blk w' g t cs := h.below hb h.lt
theorem Blk.grown (h : Blk w g t cs) {row : Option Nat} (hb : w.grownBy w' row) (hg : some g ≠ row) : Blk w' g t cs := (hb.block g h.lt hg).trans h
end

theorem heap_at2 (w : World) (o : Obj) (t : TypeId) (cs : Array Value) : Blk ((w.alloc o).alloc (.cells cs t)) (w.heap.size + 1) t cs := by
  have h := Blk.new (w.alloc o) t cs
  rw [World.size_alloc] at h; exact h

/-- the cells of a list of integers -/
def ints (xs : List Int) : Array Value := (xs.map (Value.int .i64)).toArray
theorem ints_get (xs : List Int) (k : Nat) : (ints xs)[k]? = xs[k]?.map (Value.int .i64) := by simp [ints]
theorem ints_size (xs : List Int) : (ints xs).size = xs.length := by simp [ints]
theorem ints_set (xs : List Int) (k : Nat) (y : Int) : (ints xs).setIfInBounds k (.int .i64 y) = ints (xs.set k y) := by
  unfold ints
  apply Array.ext'
  simp [List.map_set]

theorem made_ints (n : Nat) : madeCells #[Value.int IntKind.i64 0] n = ints (List.replicate n 0) := by
  apply Array.ext'
  apply List.ext_getElem
  · simp [madeCells, ints]
  · intro i h1 h2
    simp [madeCells, ints, Nat.mod_one]
section
variable {w w' : World} {g k : Nat} {xs : List Int}
theorem Blk.icell (h : Blk w g 3 (ints xs)) (hk : k < xs.length) : w.cell? ⟨g, k, none⟩ = some (.int .i64 (xs[k]?.getD 0)) := by
  rw [h.cell, ints_get]; simp [List.getElem?_eq_getElem hk]
theorem Blk.iset (h : Blk w g 3 (ints xs)) (k : Nat) (y : Int) : Blk (w.setCell ⟨g, k, none⟩ (.int .i64 y)) g 3 (ints (xs.set k y)) := by
  rw [← ints_set]; exact h.set_ k _
end

/-- The slice at A of n integers reads as xs. -/
def Rd (w : World) (A : Option Addr) (n : Nat) (xs : List Int) : Prop :=
  xs.length = n ∧ (0 < n → ∃ b off, A = some ⟨b, off, none⟩ ∧ b < w.heap.size ∧ ∀ k x, xs[k]? = some x → w.cell? ⟨b, off + k, none⟩ = some (.int .i64 x))

section
variable {w w' : World} {A : Option Addr} {n : Nat} {xs : List Int}
theorem Rd.nil_ : Rd w A 0 [] := ⟨rfl, fun h => absurd h (by omega)⟩
theorem Rd.at_ {k : Nat} (h : Rd w A n xs) (hk : k < n) : ∃ b off, A = some ⟨b, off, none⟩ ∧ b < w.heap.size ∧ w.cell? ⟨b, off + k, none⟩ = some (.int .i64 (xs[k]?.getD 0)) := by
  obtain ⟨b, off, e, hb, hc⟩ := h.2 (by omega)
  have hl : k < xs.length := by have := h.1; omega
  refine ⟨b, off, e, hb, ?_⟩
  rw [hc k xs[k] (List.getElem?_eq_getElem hl)]
  simp [List.getElem?_eq_getElem hl]
theorem Rd.keep (h : Rd w A n xs) (hs : w.heap.size ≤ w'.heap.size) (hk : ∀ p : Addr, p.block < w.heap.size → w'.cell? p = w.cell? p) : Rd w' A n xs :=
  ⟨h.1, fun hn => by
    obtain ⟨b, off, e, hb, hc⟩ := h.2 hn
    exact ⟨b, off, e, by omega, fun k x hx => (hk _ hb).trans (hc k x hx)⟩⟩
theorem Rd.next (h : Rd w A n xs) (hb : Below w.heap.size w w') : Rd w' A n xs := h.keep hb.size fun _ hp => hb.cell hp
theorem Rd.drew (h : Rd w A n xs) : Rd w.drew A n xs := h
theorem Rd.alloc (h : Rd w A n xs) (o : Obj) : Rd (w.alloc o) A n xs := h.next ((Below.refl _ _).alloc (Nat.le_refl _) o)
theorem Rd.of_blk {g : Nat} {cs : List Int} (h : Blk w g 3 (ints cs)) : Rd w (some ⟨g, 0, none⟩) cs.length cs :=
  ⟨rfl, fun _ => ⟨g, 0, rfl, h.lt, fun k x hx => by rw [h.cell]; simp [ints_get, hx]⟩⟩
end

/-- The slice at A of n integers, in memory of one's own from block lo on, holds xs. -/
def Own (w : World) (lo : Nat) (A : Option Addr) (n : Nat) (xs : List Int) : Prop :=
  xs.length = n ∧ (0 < n → ∃ (g : Nat) (cs : Array Value), A = some ⟨g, 0, none⟩ ∧ lo ≤ g ∧ Blk w g 3 cs ∧ ∀ (k : Nat) (x : Int), xs[k]? = some x → cs[k]? = some (.int .i64 x))

section
variable {w w' : World} {lo lo' : Nat} {A : Option Addr} {n : Nat} {xs : List Int}
theorem Own.nil_ (w : World) (lo : Nat) (A : Option Addr) : Own w lo A 0 [] := ⟨rfl, fun h => absurd h (by omega)⟩
theorem Own.of_blk {g : Nat} (h : Blk w g 3 (ints xs)) (hl : lo ≤ g) (hn : xs.length = n) : Own w lo (some ⟨g, 0, none⟩) n xs :=
  ⟨hn, fun _ => ⟨g, _, rfl, hl, h, fun k x hx => by simp [ints_get, hx]⟩⟩
theorem Own.blk (h : Own w lo A n xs) : (n = 0 ∧ xs = []) ∨ ∃ g, A = some ⟨g, 0, none⟩ ∧ lo ≤ g ∧ g < w.heap.size := by
  rcases Nat.eq_zero_or_pos n with h0 | h0
  · exact .inl ⟨h0, List.eq_nil_of_length_eq_zero (by rw [h.1, h0])⟩
  · obtain ⟨g, cs, e, hl, hb, _⟩ := h.2 h0
    exact .inr ⟨g, e, hl, hb.lt⟩
theorem Own.mono (h : Own w lo A n xs) (hl : lo' ≤ lo) : Own w lo' A n xs :=
  ⟨h.1, fun hn => by obtain ⟨g, cs, e, h1, h2, h3⟩ := h.2 hn; exact ⟨g, cs, e, by omega, h2, h3⟩⟩
theorem Own.next (h : Own w lo A n xs) (hb : Below w.heap.size w w') : Own w' lo A n xs :=
  ⟨h.1, fun hn => by obtain ⟨g, cs, e, h1, h2, h3⟩ := h.2 hn; exact ⟨g, cs, e, h1, h2.next hb, h3⟩⟩
theorem Own.drew (h : Own w lo A n xs) : Own w.drew lo A n xs := h
theorem Own.alloc (h : Own w lo A n xs) (o : Obj) : Own (w.alloc o) lo A n xs := h.next ((Below.refl _ _).alloc (Nat.le_refl _) o)
theorem Own.grown (h : Own w lo A n xs) {row : Option Nat} (hb : w.grownBy w' row) (hg : ∀ g, A = some ⟨g, 0, none⟩ → row ≠ some g) : Own w' lo A n xs :=
  ⟨h.1, fun hn => by obtain ⟨g, cs, e, h1, h2, h3⟩ := h.2 hn; exact ⟨g, cs, e, h1, h2.grown hb (fun e' => hg g e e'.symm), h3⟩⟩
theorem Own.far (h : Own w lo A n xs) {p : Addr} (hp : ∀ g, A = some ⟨g, 0, none⟩ → g ≠ p.block) (u : Value) : Own (w.setCell p u) lo A n xs :=
  ⟨h.1, fun hn => by obtain ⟨g, cs, e, h1, h2, h3⟩ := h.2 hn; exact ⟨g, cs, e, h1, h2.far (hp g e) u, h3⟩⟩
theorem Own.far_lo (h : Own w lo A n xs) {p : Addr} (hp : p.block < lo) (u : Value) : Own (w.setCell p u) lo A n xs :=
  ⟨h.1, fun hn => by obtain ⟨g, cs, e, h1, h2, h3⟩ := h.2 hn; exact ⟨g, cs, e, h1, h2.far (by omega) u, h3⟩⟩
theorem Own.grown_lo (h : Own w lo A n xs) {row : Option Nat} (hb : w.grownBy w' row) (hg : ∀ g, row = some g → g < lo) : Own w' lo A n xs :=
  ⟨h.1, fun hn => by obtain ⟨g, cs, e, h1, h2, h3⟩ := h.2 hn; exact ⟨g, cs, e, h1, h2.grown hb (fun e' => by have := hg g e'.symm; omega), h3⟩⟩
theorem Own.rd (h : Own w lo A n xs) : Rd w A n xs :=
  ⟨h.1, fun hn => by
    obtain ⟨g, cs, e, h1, h2, h3⟩ := h.2 hn
    exact ⟨g, 0, e, h2.lt, fun k x hx => by rw [h2.cell]; simpa using h3 k x hx⟩⟩
theorem Own.at_ {k : Nat} (h : Own w lo A n xs) (hk : k < n) : ∃ g, A = some ⟨g, 0, none⟩ ∧ lo ≤ g ∧ g < w.heap.size ∧ w.cell? ⟨g, k, none⟩ = some (.int .i64 (xs[k]?.getD 0)) ∧ w.frozen? ⟨g, k, none⟩ = false ∧
    ∀ y, Own (w.setCell ⟨g, k, none⟩ (.int .i64 y)) lo A n (xs.set k y) := by
  obtain ⟨g, cs, e, h1, h2, h3⟩ := h.2 (by omega)
  have hl : k < xs.length := by have := h.1; omega
  refine ⟨g, e, h1, h2.lt, ?_, h2.frozen k, fun y => ⟨by simp [h.1], fun _ => ⟨g, _, e, h1, h2.set_ k _, ?_⟩⟩⟩
  · rw [h2.cell, h3 k xs[k] (List.getElem?_eq_getElem hl)]; simp [List.getElem?_eq_getElem hl]
  · intro i x hx
    rw [List.getElem?_set] at hx
    by_cases hik : k = i
    · subst hik
      have : k < cs.size := by
        rcases Nat.lt_or_ge k cs.size with h' | h'
        · exact h'
        · have := h3 k _ (List.getElem?_eq_getElem hl); rw [Array.getElem?_eq_none h'] at this; cases this
      simp [hl] at hx
      simp [this, hx]
    · rw [if_neg hik] at hx
      rw [Array.getElem?_setIfInBounds_ne hik]
      exact h3 i x hx
end

theorem grown_set {w : World} {g k : Nat} (u : Value) : w.grownBy (w.setCell ⟨g, k, none⟩ u) (some g) :=
  ⟨rfl, rfl, rfl, by simp [World.setCell], fun i _ hn => Below.heap_setCell _ _ _ _ (fun e => hn (by rw [e]))⟩
theorem grown_trans {a b c : World} {row : Option Nat} (h : a.grownBy b row) (k : b.grownBy c row) : a.grownBy c row :=
  ⟨k.os.trans h.os, k.tape.trans h.tape, k.output.trans h.output, Nat.le_trans h.size k.size, fun i hi hn => (k.block i (Nat.lt_of_lt_of_le hi h.size) hn).trans (h.block i hi hn)⟩
theorem grown_alloc {w : World} (o : Obj) (row : Option Nat) : w.grownBy (w.alloc o) row :=
  ⟨rfl, rfl, rfl, by simp, fun i hi _ => Below.heap_alloc _ _ _ hi⟩
theorem below_drewN {B : Nat} {a w : World} (h : Below B a w) (n : Nat) : Below B a (w.drewN n) := ⟨h.os, h.tape, h.output, h.size, h.block⟩
theorem grown_drew {w : World} (row : Option Nat) : w.grownBy w.drew row := ⟨rfl, rfl, rfl, Nat.le_refl _, fun _ _ _ => rfl⟩
theorem grown_of_below {a w : World} (h : Below a.heap.size a w) (row : Option Nat) : a.grownBy w row := ⟨h.os, h.tape, h.output, h.size, fun i hi _ => h.block i hi⟩
theorem below_of_grown {w w' : World} {row : Option Nat} {B : Nat} (h : w.grownBy w' row) (hB : B ≤ w.heap.size) (hr : ∀ g, row = some g → B ≤ g) : Below B w w' := (Below.refl B w).grown h hB hr

theorem lo_alloc {a w : World} (h : Below a.heap.size a w) (o : Obj) : Below a.heap.size a (w.alloc o) := h.alloc h.size o
theorem lo_trans {a b c : World} (h : Below a.heap.size a b) (k : Below b.heap.size b c) : Below a.heap.size a c := h.trans (k.mono h.size)
theorem lo_set {a w : World} (h : Below a.heap.size a w) {p : Addr} (hp : a.heap.size ≤ p.block) (u : Value) : Below a.heap.size a (w.setCell p u) := h.setCell hp u
theorem lo_grown {a b c : World} {row : Option Nat} (h : Below a.heap.size a b) (k : b.grownBy c row) (hr : ∀ g, row = some g → a.heap.size ≤ g) : Below a.heap.size a c := h.grown k h.size hr
theorem size_setCell (w : World) (p : Addr) (u : Value) : (w.setCell p u).heap.size = w.heap.size := by simp [World.setCell]

/-- the block that a store through the slice A of n elements may write -/
def rowOf (A : Option Addr) (n : Nat) : Option Nat := if n = 0 then none else A.map (·.block)
theorem rowOf_some {g i n : Nat} (h : i < n) : rowOf (some ⟨g, 0, none⟩) n = some g := by
  unfold rowOf; rw [if_neg (by omega)]; rfl
theorem Own.row {w : World} {lo : Nat} {A : Option Addr} {n : Nat} {xs : List Int} (h : Own w lo A n xs) : ∀ g, rowOf A n = some g → lo ≤ g ∧ g < w.heap.size := by
  intro g hg
  unfold rowOf at hg
  by_cases h0 : n = 0
  · rw [if_pos h0] at hg; cases hg
  · rw [if_neg h0] at hg
    obtain ⟨g', cs, e, h1, h2, _⟩ := h.2 (by omega)
    subst e
    obtain rfl : g' = g := by injection hg
    exact ⟨h1, h2.lt⟩
/-- w' is w with new blocks, and with writes to one block from lo on and below hi -/
def Wr (lo hi : Nat) (w w' : World) : Prop := ∃ row, w.grownBy w' row ∧ ∀ g, row = some g → lo ≤ g ∧ g < hi
theorem Wr.size {lo hi : Nat} {w w' : World} (h : Wr lo hi w w') : w.heap.size ≤ w'.heap.size := by obtain ⟨_, h, _⟩ := h; exact h.size
theorem lo_wr {a b c : World} {lo hi : Nat} (h : Below a.heap.size a b) (k : Wr lo hi b c) (hl : a.heap.size ≤ lo) : Below a.heap.size a c := by
  obtain ⟨row, k, hr⟩ := k
  exact lo_grown h k (fun g hg => by have := hr g hg; omega)
theorem Own.wr {w w' : World} {lo lo' hi n : Nat} {A : Option Addr} {xs : List Int} (h : Own w lo' A n xs) (k : Wr lo hi w w') (hl : hi ≤ lo') : Own w' lo' A n xs := by
  obtain ⟨row, k, hr⟩ := k
  exact h.grown_lo k (fun g hg => by have := hr g hg; omega)
theorem Blk.wr {w w' : World} {lo hi g : Nat} {t : TypeId} {cs : Array Value} (h : Blk w g t cs) (k : Wr lo hi w w') (hl : g < lo ∨ hi ≤ g) : Blk w' g t cs := by
  obtain ⟨row, k, hr⟩ := k
  exact h.grown k (fun e => by have := hr g e.symm; omega)

/-- The slice at A of n bytes can be read (of the bytes no more is said than that they are bytes). -/
def RdB (w : World) (A : Option Addr) (n : Nat) : Prop :=
  0 < n → ∃ b off, A = some ⟨b, off, none⟩ ∧ b < w.heap.size ∧ ∀ k, k < n → ∃ x : Int, 0 ≤ x ∧ x ≤ 255 ∧ w.cell? ⟨b, off + k, none⟩ = some (.int .u8 x)
theorem RdB.keep {w w' : World} {A : Option Addr} {n : Nat} (h : RdB w A n) (hs : w.heap.size ≤ w'.heap.size) (hk : ∀ b off, A = some ⟨b, off, none⟩ → ∀ k, w'.cell? ⟨b, off + k, none⟩ = w.cell? ⟨b, off + k, none⟩) : RdB w' A n := fun hn => by
  obtain ⟨b, off, e, hb, hc⟩ := h hn
  exact ⟨b, off, e, by omega, fun k hk' => by obtain ⟨x, h1, h2, h3⟩ := hc k hk'; exact ⟨x, h1, h2, (hk b off e k).trans h3⟩⟩
theorem RdB.next {w w' : World} {A : Option Addr} {n : Nat} (h : RdB w A n) (hb : Below w.heap.size w w') : RdB w' A n := fun hn => by
  obtain ⟨b, off, e, hb', hc⟩ := h hn
  exact ⟨b, off, e, by have := hb.size; omega, fun k hk' => by obtain ⟨x, h1, h2, h3⟩ := hc k hk'; exact ⟨x, h1, h2, (hb.cell (p := ⟨b, off + k, none⟩) hb').trans h3⟩⟩

theorem ofInt_i64 (a : Nat) (ha : a < 9223372036854775808) : (BitVec.ofInt 64 (a : Int)).toNat = a := by
  rw [BitVec.ofInt_natCast, BitVec.toNat_ofNat]; exact Nat.mod_eq_of_lt (by omega)
theorem i64_and_nat (a b : Nat) (ha : a < 9223372036854775808) (hb : b < 9223372036854775808) : bits .and .i64 (a : Int) (b : Int) = ((a &&& b : Nat) : Int) := by
  have hx : a &&& b < 2 ^ 63 := Nat.and_lt_two_pow _ (by omega)
  show IntKind.i64.wrap ((BitVec.ofInt 64 (a : Int) &&& BitVec.ofInt 64 (b : Int)).toNat : Int) = _
  rw [BitVec.toNat_and, ofInt_i64 a ha, ofInt_i64 b hb, IntKind.wrap_i64]
  omega
theorem i64_or_nat (a b : Nat) (ha : a < 9223372036854775808) (hb : b < 9223372036854775808) : bits .or .i64 (a : Int) (b : Int) = ((a ||| b : Nat) : Int) := by
  have hx : a ||| b < 2 ^ 63 := Nat.or_lt_two_pow (by omega) (by omega)
  show IntKind.i64.wrap ((BitVec.ofInt 64 (a : Int) ||| BitVec.ofInt 64 (b : Int)).toNat : Int) = _
  rw [BitVec.toNat_or, ofInt_i64 a ha, ofInt_i64 b hb, IntKind.wrap_i64]
  omega
theorem i64_xor_nat (a b : Nat) (ha : a < 9223372036854775808) (hb : b < 9223372036854775808) : bits .xor .i64 (a : Int) (b : Int) = ((a ^^^ b : Nat) : Int) := by
  have hx : a ^^^ b < 2 ^ 63 := Nat.xor_lt_two_pow (by omega) (by omega)
  show IntKind.i64.wrap ((BitVec.ofInt 64 (a : Int) ^^^ BitVec.ofInt 64 (b : Int)).toNat : Int) = _
  rw [BitVec.toNat_xor, ofInt_i64 a ha, ofInt_i64 b hb, IntKind.wrap_i64]
  omega
end Go.Proofs.Ytjogfeichnkffaa
