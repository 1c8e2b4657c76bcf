/- Plain facts and walks that the law's proof uses; each says its own conditions. -/
import Derived.WalkKit
import Derived.WalkSpells
import Derived.Lib.Hide
import Derived.Deep.Draws
import Derived.Laws.BitsAllLaws
import Derived.Laws.BitsLemmas
-- Plain facts and walks that the law's proof uses; each says its own conditions.
namespace Go.Proofs.YtpeiolimdglmhaaGreatDoor
open Go.RowKit

theorem bcell {W w1 : World} (hb : Below W.heap.size W w1) : (∀ b o, b < W.heap.size → w1.cell? ⟨b, o, none⟩ = W.cell? ⟨b, o, none⟩) ∧ (∀ b o, b < W.heap.size → w1.frozen? ⟨b, o, none⟩ = W.frozen? ⟨b, o, none⟩) :=
  ⟨fun b o h => hb.cell (p := ⟨b, o, none⟩) h, fun b o h => hb.frozen (p := ⟨b, o, none⟩) h⟩

theorem still_of {P : Program} {f : Nat} {args : Array Value} {w : World} {v : Value} (h : Calls P f args w fun e w' => e = .returned v ∧ w = w') : Calls P f args w fun e w' => e = .returned v ∧ w' = w :=
  h.mono fun _ _ h => ⟨h.1, h.2.symm⟩
theorem ret_bool {a b : Bool} (h : a = b) : Ending.returned (.bool a) = .returned (.bool b) := by rw [h]
theorem ret_int {k : IntKind} {a b : Int} (h : a = b) : Ending.returned (.int k a) = .returned (.int k b) := by rw [h]

/-- Block g is just the cells cs of element type t, none frozen. -/
def Blk (w : World) (g : Nat) (t : TypeId) (cs : Array Value) : Prop := w.heap[g]? = some (.cells cs t (0, 0))

section
variable {w w' : World} {g : Nat} {t : TypeId} {cs : Array Value}
theorem Blk.lt (h : Blk w g t cs) : g < w.heap.size := by
  rcases Nat.lt_or_ge g w.heap.size with hlt | hge
  · exact hlt
  · unfold Blk at h; rw [Array.getElem?_eq_none hge] at h; cases h
theorem Blk.cell (h : Blk w g t cs) (i : Nat) : w.cell? ⟨g, i, none⟩ = cs[i]? := cell_of_row w g i cs t (0, 0) h
theorem Blk.frozen (h : Blk w g t cs) (i : Nat) : w.frozen? ⟨g, i, none⟩ = false := by
  unfold Blk at h
  simp [World.frozen?, h]
theorem Blk.new (w : World) (t : TypeId) (cs : Array Value) : Blk (w.alloc (.cells cs t)) w.heap.size t cs := heap_alloc_new w _
theorem Blk.drew (h : Blk w g t cs) : Blk w.drew g t cs := h
theorem Blk.drewN (h : Blk w g t cs) (n : Nat) : Blk (w.drewN n) g t cs := h
theorem Blk.alloc (h : Blk w g t cs) (o : Obj) : Blk (w.alloc o) g t cs := (Below.heap_alloc w o g h.lt).trans h
theorem Blk.set_ (h : Blk w g t cs) (i : Nat) (u : Value) : Blk (w.setCell ⟨g, i, none⟩ u) g t (cs.setIfInBounds i u) := by
  unfold Blk at h ⊢
  simp [World.setCell, Array.getElem?_modify, h]
theorem Blk.far (h : Blk w g t cs) {p : Addr} (hp : g ≠ p.block) (u : Value) : Blk (w.setCell p u) g t cs := (Below.heap_setCell w p u g hp).trans h
theorem Blk.below {B : Nat} (h : Blk w g t cs) (hb : Below B w w') (hg : g < B) : Blk w' g t cs := (hb.block g hg).trans h
theorem Blk.next (h : Blk w g t cs) (hb : Below w.heap.size w w') : Blk w' g t cs := h.below hb h.lt
theorem Blk.grown (h : Blk w g t cs) {row : Option Nat} (hb : w.grownBy w' row) (hg : some g ≠ row) : Blk w' g t cs := (hb.block g h.lt hg).trans h
end

theorem heap_at2 (w : World) (o : Obj) (t : TypeId) (cs : Array Value) : Blk ((w.alloc o).alloc (.cells cs t)) (w.heap.size + 1) t cs := by
  have h := Blk.new (w.alloc o) t cs
  rw [World.size_alloc] at h; exact h

/-- the cells of a list of integers -/
def ints (xs : List Int) : Array Value := (xs.map (Value.int .i64)).toArray
theorem ints_get (xs : List Int) (k : Nat) : (ints xs)[k]? = xs[k]?.map (Value.int .i64) := by simp [ints]
theorem ints_size (xs : List Int) : (ints xs).size = xs.length := by simp [ints]
theorem ints_set (xs : List Int) (k : Nat) (y : Int) : (ints xs).setIfInBounds k (.int .i64 y) = ints (xs.set k y) := by
  unfold ints
  apply Array.ext'
  simp [List.map_set]

theorem made_ints (n : Nat) : madeCells #[Value.int IntKind.i64 0] n = ints (List.replicate n 0) := by
  apply Array.ext'
  apply List.ext_getElem
  · simp [madeCells, ints]
  · intro i h1 h2
    simp [madeCells, ints, Nat.mod_one]
section
variable {w w' : World} {g k : Nat} {xs : List Int}
theorem Blk.icell (h : Blk w g 3 (ints xs)) (hk : k < xs.length) : w.cell? ⟨g, k, none⟩ = some (.int .i64 (xs[k]?.getD 0)) := by
  rw [h.cell, ints_get]; simp [List.getElem?_eq_getElem hk]
theorem Blk.iset (h : Blk w g 3 (ints xs)) (k : Nat) (y : Int) : Blk (w.setCell ⟨g, k, none⟩ (.int .i64 y)) g 3 (ints (xs.set k y)) := by
  rw [← ints_set]; exact h.set_ k _
end

/-- The slice at A of n integers reads as xs. -/
def Rd (w : World) (A : Option Addr) (n : Nat) (xs : List Int) : Prop :=
  xs.length = n ∧ (0 < n → ∃ b off, A = some ⟨b, off, none⟩ ∧ b < w.heap.size ∧ ∀ k x, xs[k]? = some x → w.cell? ⟨b, off + k, none⟩ = some (.int .i64 x))

section
variable {w w' : World} {A : Option Addr} {n : Nat} {xs : List Int}
theorem Rd.nil_ : Rd w A 0 [] := ⟨rfl, fun h => absurd h (by omega)⟩
theorem Rd.at_ {k : Nat} (h : Rd w A n xs) (hk : k < n) : ∃ b off, A = some ⟨b, off, none⟩ ∧ b < w.heap.size ∧ w.cell? ⟨b, off + k, none⟩ = some (.int .i64 (xs[k]?.getD 0)) := by
  obtain ⟨b, off, e, hb, hc⟩ := h.2 (by omega)
  have hl : k < xs.length := by have := h.1; omega
  refine ⟨b, off, e, hb, ?_⟩
  rw [hc k xs[k] (List.getElem?_eq_getElem hl)]
  simp [List.getElem?_eq_getElem hl]
theorem Rd.keep (h : Rd w A n xs) (hs : w.heap.size ≤ w'.heap.size) (hk : ∀ p : Addr, p.block < w.heap.size → w'.cell? p = w.cell? p) : Rd w' A n xs :=
  ⟨h.1, fun hn => by
    obtain ⟨b, off, e, hb, hc⟩ := h.2 hn
    exact ⟨b, off, e, by omega, fun k x hx => (hk _ hb).trans (hc k x hx)⟩⟩
theorem Rd.next (h : Rd w A n xs) (hb : Below w.heap.size w w') : Rd w' A n xs := h.keep hb.size fun _ hp => hb.cell hp
theorem Rd.drew (h : Rd w A n xs) : Rd w.drew A n xs := h
theorem Rd.alloc (h : Rd w A n xs) (o : Obj) : Rd (w.alloc o) A n xs := h.next ((Below.refl _ _).alloc (Nat.le_refl _) o)
theorem Rd.of_blk {g : Nat} {cs : List Int} (h : Blk w g 3 (ints cs)) : Rd w (some ⟨g, 0, none⟩) cs.length cs :=
  ⟨rfl, fun _ => ⟨g, 0, rfl, h.lt, fun k x hx => by rw [h.cell]; simp [ints_get, hx]⟩⟩
end

/-- The slice at A of n integers, in memory of one's own from block lo on, holds xs. -/
def Own (w : World) (lo : Nat) (A : Option Addr) (n : Nat) (xs : List Int) : Prop :=
  xs.length = n ∧ (0 < n → ∃ (g : Nat) (cs : Array Value), A = some ⟨g, 0, none⟩ ∧ lo ≤ g ∧ Blk w g 3 cs ∧ ∀ (k : Nat) (x : Int), xs[k]? = some x → cs[k]? = some (.int .i64 x))

section
variable {w w' : World} {lo lo' : Nat} {A : Option Addr} {n : Nat} {xs : List Int}
theorem Own.nil_ (w : World) (lo : Nat) (A : Option Addr) : Own w lo A 0 [] := ⟨rfl, fun h => absurd h (by omega)⟩
theorem Own.of_blk {g : Nat} (h : Blk w g 3 (ints xs)) (hl : lo ≤ g) (hn : xs.length = n) : Own w lo (some ⟨g, 0, none⟩) n xs :=
  ⟨hn, fun _ => ⟨g, _, rfl, hl, h, fun k x hx => by simp [ints_get, hx]⟩⟩
theorem Own.blk (h : Own w lo A n xs) : (n = 0 ∧ xs = []) ∨ ∃ g, A = some ⟨g, 0, none⟩ ∧ lo ≤ g ∧ g < w.heap.size := by
  rcases Nat.eq_zero_or_pos n with h0 | h0
  · exact .inl ⟨h0, List.eq_nil_of_length_eq_zero (by rw [h.1, h0])⟩
  · obtain ⟨g, cs, e, hl, hb, _⟩ := h.2 h0
    exact .inr ⟨g, e, hl, hb.lt⟩
theorem Own.mono (h : Own w lo A n xs) (hl : lo' ≤ lo) : Own w lo' A n xs :=
  ⟨h.1, fun hn => by obtain ⟨g, cs, e, h1, h2, h3⟩ := h.2 hn; exact ⟨g, cs, e, by omega, h2, h3⟩⟩
theorem Own.next (h : Own w lo A n xs) (hb : Below w.heap.size w w') : Own w' lo A n xs :=
  ⟨h.1, fun hn => by obtain ⟨g, cs, e, h1, h2, h3⟩ := h.2 hn; exact ⟨g, cs, e, h1, h2.next hb, h3⟩⟩
theorem Own.drew (h : Own w lo A n xs) : Own w.drew lo A n xs := h
theorem Own.alloc (h : Own w lo A n xs) (o : Obj) : Own (w.alloc o) lo A n xs := h.next ((Below.refl _ _).alloc (Nat.le_refl _) o)
theorem Own.grown (h : Own w lo A n xs) {row : Option Nat} (hb : w.grownBy w' row) (hg : ∀ g, A = some ⟨g, 0, none⟩ → row ≠ some g) : Own w' lo A n xs :=
  ⟨h.1, fun hn => by obtain ⟨g, cs, e, h1, h2, h3⟩ := h.2 hn; exact ⟨g, cs, e, h1, h2.grown hb (fun e' => hg g e e'.symm), h3⟩⟩
theorem Own.far (h : Own w lo A n xs) {p : Addr} (hp : ∀ g, A = some ⟨g, 0, none⟩ → g ≠ p.block) (u : Value) : Own (w.setCell p u) lo A n xs :=
  ⟨h.1, fun hn => by obtain ⟨g, cs, e, h1, h2, h3⟩ := h.2 hn; exact ⟨g, cs, e, h1, h2.far (hp g e) u, h3⟩⟩
theorem Own.far_lo (h : Own w lo A n xs) {p : Addr} (hp : p.block < lo) (u : Value) : Own (w.setCell p u) lo A n xs :=
  ⟨h.1, fun hn => by obtain ⟨g, cs, e, h1, h2, h3⟩ := h.2 hn; exact ⟨g, cs, e, h1, h2.far (by omega) u, h3⟩⟩
theorem Own.grown_lo (h : Own w lo A n xs) {row : Option Nat} (hb : w.grownBy w' row) (hg : ∀ g, row = some g → g < lo) : Own w' lo A n xs :=
  ⟨h.1, fun hn => by obtain ⟨g, cs, e, h1, h2, h3⟩ := h.2 hn; exact ⟨g, cs, e, h1, h2.grown hb (fun e' => by have := hg g e'.symm; omega), h3⟩⟩
theorem Own.rd (h : Own w lo A n xs) : Rd w A n xs :=
  ⟨h.1, fun hn => by
    obtain ⟨g, cs, e, h1, h2, h3⟩ := h.2 hn
    exact ⟨g, 0, e, h2.lt, fun k x hx => by rw [h2.cell]; simpa using h3 k x hx⟩⟩
theorem Own.at_ {k : Nat} (h : Own w lo A n xs) (hk : k < n) : ∃ g, A = some ⟨g, 0, none⟩ ∧ lo ≤ g ∧ g < w.heap.size ∧ w.cell? ⟨g, k, none⟩ = some (.int .i64 (xs[k]?.getD 0)) ∧ w.frozen? ⟨g, k, none⟩ = false ∧
    ∀ y, Own (w.setCell ⟨g, k, none⟩ (.int .i64 y)) lo A n (xs.set k y) := by
  obtain ⟨g, cs, e, h1, h2, h3⟩ := h.2 (by omega)
  have hl : k < xs.length := by have := h.1; omega
  refine ⟨g, e, h1, h2.lt, ?_, h2.frozen k, fun y => ⟨by simp [h.1], fun _ => ⟨g, _, e, h1, h2.set_ k _, ?_⟩⟩⟩
  · rw [h2.cell, h3 k xs[k] (List.getElem?_eq_getElem hl)]; simp [List.getElem?_eq_getElem hl]
  · intro i x hx
    rw [List.getElem?_set] at hx
    by_cases hik : k = i
    · subst hik
      have : k < cs.size := by
        rcases Nat.lt_or_ge k cs.size with h' | h'
        · exact h'
        · have := h3 k _ (List.getElem?_eq_getElem hl); rw [Array.getElem?_eq_none h'] at this; cases this
      simp [hl] at hx
      simp [this, hx]
    · rw [if_neg hik] at hx
      rw [Array.getElem?_setIfInBounds_ne hik]
      exact h3 i x hx
end

theorem grown_set {w : World} {g k : Nat} (u : Value) : w.grownBy (w.setCell ⟨g, k, none⟩ u) (some g) :=
  ⟨rfl, rfl, rfl, by simp [World.setCell], fun i _ hn => Below.heap_setCell _ _ _ _ (fun e => hn (by rw [e]))⟩
theorem grown_trans {a b c : World} {row : Option Nat} (h : a.grownBy b row) (k : b.grownBy c row) : a.grownBy c row :=
  ⟨k.os.trans h.os, k.tape.trans h.tape, k.output.trans h.output, Nat.le_trans h.size k.size, fun i hi hn => (k.block i (Nat.lt_of_lt_of_le hi h.size) hn).trans (h.block i hi hn)⟩
theorem grown_alloc {w : World} (o : Obj) (row : Option Nat) : w.grownBy (w.alloc o) row :=
  ⟨rfl, rfl, rfl, by simp, fun i hi _ => Below.heap_alloc _ _ _ hi⟩
theorem below_drewN {B : Nat} {a w : World} (h : Below B a w) (n : Nat) : Below B a (w.drewN n) := ⟨h.os, h.tape, h.output, h.size, h.block⟩
theorem grown_drew {w : World} (row : Option Nat) : w.grownBy w.drew row := ⟨rfl, rfl, rfl, Nat.le_refl _, fun _ _ _ => rfl⟩
theorem grown_of_below {a w : World} (h : Below a.heap.size a w) (row : Option Nat) : a.grownBy w row := ⟨h.os, h.tape, h.output, h.size, fun i hi _ => h.block i hi⟩
theorem below_of_grown {w w' : World} {row : Option Nat} {B : Nat} (h : w.grownBy w' row) (hB : B ≤ w.heap.size) (hr : ∀ g, row = some g → B ≤ g) : Below B w w' := (Below.refl B w).grown h hB hr

theorem lo_alloc {a w : World} (h : Below a.heap.size a w) (o : Obj) : Below a.heap.size a (w.alloc o) := h.alloc h.size o
theorem lo_trans {a b c : World} (h : Below a.heap.size a b) (k : Below b.heap.size b c) : Below a.heap.size a c := h.trans (k.mono h.size)
theorem lo_set {a w : World} (h : Below a.heap.size a w) {p : Addr} (hp : a.heap.size ≤ p.block) (u : Value) : Below a.heap.size a (w.setCell p u) := h.setCell hp u
theorem lo_grown {a b c : World} {row : Option Nat} (h : Below a.heap.size a b) (k : b.grownBy c row) (hr : ∀ g, row = some g → a.heap.size ≤ g) : Below a.heap.size a c := h.grown k h.size hr
theorem size_setCell (w : World) (p : Addr) (u : Value) : (w.setCell p u).heap.size = w.heap.size := by simp [World.setCell]

/-- the block that a store through the slice A of n elements may write -/
def rowOf (A : Option Addr) (n : Nat) : Option Nat := if n = 0 then none else A.map (·.block)
theorem rowOf_some {g i n : Nat} (h : i < n) : rowOf (some ⟨g, 0, none⟩) n = some g := by
  unfold rowOf; rw [if_neg (by omega)]; rfl
theorem Own.row {w : World} {lo : Nat} {A : Option Addr} {n : Nat} {xs : List Int} (h : Own w lo A n xs) : ∀ g, rowOf A n = some g → lo ≤ g ∧ g < w.heap.size := by
  intro g hg
  unfold rowOf at hg
  by_cases h0 : n = 0
  · rw [if_pos h0] at hg; cases hg
  · rw [if_neg h0] at hg
    obtain ⟨g', cs, e, h1, h2, _⟩ := h.2 (by omega)
    subst e
    obtain rfl : g' = g := by injection hg
    exact ⟨h1, h2.lt⟩
/-- w' is w with new blocks, and with writes to one block from lo on and below hi -/
def Wr (lo hi : Nat) (w w' : World) : Prop := ∃ row, w.grownBy w' row ∧ ∀ g, row = some g → lo ≤ g ∧ g < hi
theorem Wr.size {lo hi : Nat} {w w' : World} (h : Wr lo hi w w') : w.heap.size ≤ w'.heap.size := by obtain ⟨_, h, _⟩ := h; exact h.size
theorem lo_wr {a b c : World} {lo hi : Nat} (h : Below a.heap.size a b) (k : Wr lo hi b c) (hl : a.heap.size ≤ lo) : Below a.heap.size a c := by
  obtain ⟨row, k, hr⟩ := k
  exact lo_grown h k (fun g hg => by have := hr g hg; omega)
theorem Own.wr {w w' : World} {lo lo' hi n : Nat} {A : Option Addr} {xs : List Int} (h : Own w lo' A n xs) (k : Wr lo hi w w') (hl : hi ≤ lo') : Own w' lo' A n xs := by
  obtain ⟨row, k, hr⟩ := k
  exact h.grown_lo k (fun g hg => by have := hr g hg; omega)
theorem Blk.wr {w w' : World} {lo hi g : Nat} {t : TypeId} {cs : Array Value} (h : Blk w g t cs) (k : Wr lo hi w w') (hl : g < lo ∨ hi ≤ g) : Blk w' g t cs := by
  obtain ⟨row, k, hr⟩ := k
  exact h.grown k (fun e => by have := hr g e.symm; omega)

/-- The slice at A of n bytes can be read (of the bytes no more is said than that they are bytes). -/
def RdB (w : World) (A : Option Addr) (n : Nat) : Prop :=
  0 < n → ∃ b off, A = some ⟨b, off, none⟩ ∧ b < w.heap.size ∧ ∀ k, k < n → ∃ x : Int, 0 ≤ x ∧ x ≤ 255 ∧ w.cell? ⟨b, off + k, none⟩ = some (.int .u8 x)
theorem RdB.keep {w w' : World} {A : Option Addr} {n : Nat} (h : RdB w A n) (hs : w.heap.size ≤ w'.heap.size) (hk : ∀ b off, A = some ⟨b, off, none⟩ → ∀ k, w'.cell? ⟨b, off + k, none⟩ = w.cell? ⟨b, off + k, none⟩) : RdB w' A n := fun hn => by
  obtain ⟨b, off, e, hb, hc⟩ := h hn
  exact ⟨b, off, e, by omega, fun k hk' => by obtain ⟨x, h1, h2, h3⟩ := hc k hk'; exact ⟨x, h1, h2, (hk b off e k).trans h3⟩⟩
theorem RdB.next {w w' : World} {A : Option Addr} {n : Nat} (h : RdB w A n) (hb : Below w.heap.size w w') : RdB w' A n := fun hn => by
  obtain ⟨b, off, e, hb', hc⟩ := h hn
  exact ⟨b, off, e, by have := hb.size; omega, fun k hk' => by obtain ⟨x, h1, h2, h3⟩ := hc k hk'; exact ⟨x, h1, h2, (hb.cell (p := ⟨b, off + k, none⟩) hb').trans h3⟩⟩

theorem ofInt_i64 (a : Nat) (ha : a < 9223372036854775808) : (BitVec.ofInt 64 (a : Int)).toNat = a := by
  rw [BitVec.ofInt_natCast, BitVec.toNat_ofNat]; exact Nat.mod_eq_of_lt (by omega)
theorem i64_and_nat (a b : Nat) (ha : a < 9223372036854775808) (hb : b < 9223372036854775808) : bits .and .i64 (a : Int) (b : Int) = ((a &&& b : Nat) : Int) := by
  have hx : a &&& b < 2 ^ 63 := Nat.and_lt_two_pow _ (by omega)
  show IntKind.i64.wrap ((BitVec.ofInt 64 (a : Int) &&& BitVec.ofInt 64 (b : Int)).toNat : Int) = _
  rw [BitVec.toNat_and, ofInt_i64 a ha, ofInt_i64 b hb, IntKind.wrap_i64]
  omega
theorem i64_or_nat (a b : Nat) (ha : a < 9223372036854775808) (hb : b < 9223372036854775808) : bits .or .i64 (a : Int) (b : Int) = ((a ||| b : Nat) : Int) := by
  have hx : a ||| b < 2 ^ 63 := Nat.or_lt_two_pow (by omega) (by omega)
  show IntKind.i64.wrap ((BitVec.ofInt 64 (a : Int) ||| BitVec.ofInt 64 (b : Int)).toNat : Int) = _
  rw [BitVec.toNat_or, ofInt_i64 a ha, ofInt_i64 b hb, IntKind.wrap_i64]
  omega
theorem i64_xor_nat (a b : Nat) (ha : a < 9223372036854775808) (hb : b < 9223372036854775808) : bits .xor .i64 (a : Int) (b : Int) = ((a ^^^ b : Nat) : Int) := by
  have hx : a ^^^ b < 2 ^ 63 := Nat.xor_lt_two_pow (by omega) (by omega)
  show IntKind.i64.wrap ((BitVec.ofInt 64 (a : Int) ^^^ BitVec.ofInt 64 (b : Int)).toNat : Int) = _
  rw [BitVec.toNat_xor, ofInt_i64 a ha, ofInt_i64 b hb, IntKind.wrap_i64]
  omega
end Go.Proofs.YtpeiolimdglmhaaGreatDoor

-- Plain mathematics of images of cells: rows as numbers. No program, no memory.
namespace Go.Proofs.YtpeiolimdglmhaaGreatDoor

/-- the row whose cell j is set as f tells, for all j below n -/
def mkRow (f : Nat → Bool) : Nat → Nat
  | 0 => 0
  | j + 1 => mkRow f j + (if f j then 2 ^ j else 0)

theorem mkRow_lt (f : Nat → Bool) (n : Nat) : mkRow f n < 2 ^ n := by
  induction n with
  | zero => simp [mkRow]
  | succ n ih =>
    simp only [mkRow, Nat.pow_succ]
    split <;> omega

theorem add_pow_testBit {r n : Nat} (h : r < 2 ^ n) (j : Nat) : (r + 2 ^ n).testBit j = (r.testBit j || decide (j = n)) := by
  rw [Nat.add_comm]
  by_cases hj : j = n
  · subst hj
    rw [Nat.testBit_two_pow_add_eq, Nat.testBit_lt_two_pow h]; simp
  · rcases Nat.lt_or_ge j n with hl | hg
    · rw [Nat.testBit_two_pow_add_gt hl]; simp [hj]
    · have h1 : r < 2 ^ j := Nat.lt_of_lt_of_le h (Nat.pow_le_pow_right (by omega) hg)
      have h2 : 2 ^ n + r < 2 ^ j := by
        have : 2 ^ (n + 1) ≤ 2 ^ j := Nat.pow_le_pow_right (by omega) (by omega)
        rw [Nat.pow_succ] at this; omega
      rw [Nat.testBit_lt_two_pow h1, Nat.testBit_lt_two_pow h2]; simp [hj]

theorem testBit_mkRow (f : Nat → Bool) (n j : Nat) : (mkRow f n).testBit j = (decide (j < n) && f j) := by
  induction n with
  | zero => simp [mkRow]
  | succ n ih =>
    simp only [mkRow]
    by_cases hf : f n = true
    · rw [if_pos hf, add_pow_testBit (mkRow_lt f n), ih]
      by_cases hj : j = n
      · subst hj; simp [hf]
      · by_cases h1 : j < n
        · simp [h1, hj, show j < n + 1 by omega]
        · simp [h1, hj, show ¬ j < n + 1 by omega]
    · rw [if_neg hf, Nat.add_zero, ih]
      by_cases hj : j = n
      · subst hj; simp [hf]
      · by_cases h1 : j < n
        · simp [h1, show j < n + 1 by omega]
        · simp [h1, show ¬ j < n + 1 by omega]

theorem row_ext {a b n : Nat} (ha : a < 2 ^ n) (hb : b < 2 ^ n) (h : ∀ j, j < n → a.testBit j = b.testBit j) : a = b := by
  apply Nat.eq_of_testBit_eq
  intro j
  rcases Nat.lt_or_ge j n with hl | hg
  · exact h j hl
  · rw [Nat.testBit_lt_two_pow (Nat.lt_of_lt_of_le ha (Nat.pow_le_pow_right (by omega) hg)), Nat.testBit_lt_two_pow (Nat.lt_of_lt_of_le hb (Nat.pow_le_pow_right (by omega) hg))]

theorem mkRow_testBit {r n : Nat} (h : r < 2 ^ n) : mkRow r.testBit n = r :=
  row_ext (mkRow_lt _ _) h fun j hj => by rw [testBit_mkRow]; simp [hj]
theorem mkRow_congr {f g : Nat → Bool} {n : Nat} (h : ∀ j, j < n → f j = g j) : mkRow f n = mkRow g n :=
  row_ext (mkRow_lt _ _) (mkRow_lt _ _) fun j hj => by rw [testBit_mkRow, testBit_mkRow, h j hj]
theorem mkRow_step_t {f : Nat → Bool} {j : Nat} (h : f j = true) : mkRow f (j + 1) = mkRow f j + 2 ^ j := by simp [mkRow, h]
theorem mkRow_step_f {f : Nat → Bool} {j : Nat} (h : f j = false) : mkRow f (j + 1) = mkRow f j := by simp [mkRow, h]
theorem mkRow_xor (f : Nat → Bool) (j : Nat) : mkRow f j ^^^ 2 ^ j = mkRow f j + 2 ^ j := by
  apply Nat.eq_of_testBit_eq
  intro i
  rw [Nat.testBit_xor, add_pow_testBit (mkRow_lt f j), Nat.testBit_two_pow]
  by_cases h : i = j
  · subst h; simp [Nat.testBit_lt_two_pow (mkRow_lt f i)]
  · simp [h, show ¬ j = i from fun e => h e.symm]
theorem mkRow_div (f : Nat → Bool) (j : Nat) : mkRow f j / 2 ^ j = 0 := Nat.div_eq_of_lt (mkRow_lt f j)
theorem mkRow_lt64 (f : Nat → Bool) (j : Nat) (h : j ≤ 6) : mkRow f j < 64 := by
  have h1 := mkRow_lt f j
  have h2 : 2 ^ j ≤ 2 ^ 6 := Nat.pow_le_pow_right (by omega) h
  omega
theorem pow_le64 {j : Nat} (h : j ≤ 6) : 2 ^ j ≤ 64 := Nat.pow_le_pow_right (n := 2) (by omega) h

theorem pow_int {j : Nat} (h : j ≤ 6) : (1 : Int) ≤ 2 ^ j ∧ (2 : Int) ^ j ≤ 64 := by
  have h1 := pow_le64 h
  have h2 : 0 < 2 ^ j := Nat.pow_pos (by omega)
  have e : ((2 ^ j : Nat) : Int) = (2 : Int) ^ j := by simp
  omega

/-- the image of h rows and w columns whose cells are set as f tells -/
def img (f : Nat → Nat → Bool) (h w : Nat) : List Int := (List.range h).map (fun k => (mkRow (f k) w : Int))
/-- the same while it is filled: all rows below i, and j cells of row i -/
def st (f : Nat → Nat → Bool) (h w i j : Nat) : List Int := (List.range h).map (fun k => if k < i then (mkRow (f k) w : Int) else if k = i then (mkRow (f k) j : Int) else 0)
theorem img_len (f : Nat → Nat → Bool) (h w : Nat) : (img f h w).length = h := by simp [img]
theorem st_len (f : Nat → Nat → Bool) (h w i j : Nat) : (st f h w i j).length = h := by simp [st]
theorem img_get {f : Nat → Nat → Bool} {h w i : Nat} (hi : i < h) : (img f h w)[i]?.getD 0 = (mkRow (f i) w : Int) := by simp [img, hi]
theorem img_get' {f : Nat → Nat → Bool} {h w i : Nat} (hi : i < h) : (img f h w)[i]? = some (mkRow (f i) w : Int) := by simp [img, hi]
theorem st_get {f : Nat → Nat → Bool} {h w i j : Nat} (hi : i < h) : (st f h w i j)[i]?.getD 0 = (mkRow (f i) j : Int) := by simp [st, hi]
theorem st_zero (f : Nat → Nat → Bool) (h w : Nat) : st f h w 0 0 = List.replicate h 0 := by
  apply List.ext_getElem
  · simp [st]
  · intro i h1 h2; simp [st, mkRow]
theorem st_next (f : Nat → Nat → Bool) (h w i : Nat) : st f h w i w = st f h w (i + 1) 0 := by
  apply List.map_congr_left
  intro k _
  by_cases h1 : k < i
  · simp [h1, show k < i + 1 by omega]
  · by_cases h2 : k = i
    · simp [h2]
    · by_cases h3 : k = i + 1
      · simp [h3, mkRow, show ¬ i + 1 < i by omega]
      · simp [h1, h2, h3, show ¬ k < i + 1 by omega]
theorem st_done (f : Nat → Nat → Bool) (h w : Nat) : st f h w h 0 = img f h w := by
  apply List.map_congr_left
  intro k hk
  simp [List.mem_range.1 hk]
theorem st_set {f : Nat → Nat → Bool} {h w i j : Nat} : (st f h w i j).set i (mkRow (f i) (j + 1) : Int) = st f h w i (j + 1) := by
  apply List.ext_getElem
  · simp [st]
  · intro k h1 h2
    rw [List.getElem_set]
    by_cases h : i = k
    · subst h; simp [st]
    · rw [if_neg h]; simp [st, show ¬ k = i from fun e => h e.symm]
theorem st_same {f : Nat → Nat → Bool} {h w i j : Nat} (hf : f i j = false) : st f h w i (j + 1) = st f h w i j := by
  apply List.map_congr_left
  intro k _
  by_cases h2 : k = i
  · subst h2; simp [mkRow_step_f hf]
  · simp [h2]
theorem img_congr {f g : Nat → Nat → Bool} {h w : Nat} (e : ∀ i, i < h → ∀ j, j < w → f i j = g i j) : img f h w = img g h w := by
  apply List.map_congr_left
  intro k hk
  rw [mkRow_congr (e k (List.mem_range.1 hk))]
/-- all numbers of a list lie in a range -/
def allIn (lo hi : Int) (p : List Int) : Bool := p.all (fun x => decide (lo ≤ x) && decide (x ≤ hi))
theorem allIn_at {lo hi : Int} {p : List Int} (h : allIn lo hi p = true) (k : Nat) (hk : k < p.length) : lo ≤ p[k]?.getD 0 ∧ p[k]?.getD 0 ≤ hi := by
  simp only [allIn, List.all_eq_true, Bool.and_eq_true, decide_eq_true_eq] at h
  simpa [List.getElem?_eq_getElem hk] using h p[k] (List.getElem_mem hk)
theorem allIn_of {lo hi : Int} {p : List Int} (h : ∀ k, k < p.length → lo ≤ p[k]?.getD 0 ∧ p[k]?.getD 0 ≤ hi) : allIn lo hi p = true := by
  simp only [allIn, List.all_eq_true, Bool.and_eq_true, decide_eq_true_eq]
  intro x hx
  obtain ⟨i, hi, rfl⟩ := List.getElem_of_mem hx
  simpa [List.getElem?_eq_getElem hi] using h i hi
theorem allIn_no {lo hi : Int} {p : List Int} {k : Nat} (hk : k < p.length) (h : ¬ (lo ≤ p[k]?.getD 0 ∧ p[k]?.getD 0 ≤ hi)) : allIn lo hi p = false := by
  cases e : allIn lo hi p with
  | false => rfl
  | true => exact absurd (allIn_at e k hk) h

/-- weights: 1 to 6 numbers from -99 to 99 -/
def wIn (p : List Int) : Bool := decide (1 ≤ p.length) && decide (p.length ≤ 6) && p.all (fun x => decide (-99 ≤ x) && decide (x ≤ 99))
def wF (p q : List Int) (i j : Nat) : Bool := decide (0 < p[i]?.getD 0 + q[j]?.getD 0)
def wSum (p q : List Int) : Bool := p.all (fun x => q.all (fun y => decide (x + y ≠ 0)))
def wOk (p q : List Int) : Bool := wIn p && wIn q && wSum p q
def wW (p q : List Int) : Int := if wOk p q then q.length else 0
def wX (p q : List Int) : List Int := if wOk p q then img (wF p q) p.length q.length else []
theorem wIn_len {p : List Int} (h : wIn p = true) : 1 ≤ p.length ∧ p.length ≤ 6 := by
  simp [wIn] at h; omega
theorem wIn_at {p : List Int} (h : wIn p = true) (k : Nat) (hk : k < p.length) : -99 ≤ p[k]?.getD 0 ∧ p[k]?.getD 0 ≤ 99 := by
  simp only [wIn, Bool.and_eq_true, List.all_eq_true, decide_eq_true_eq] at h
  have := h.2 p[k] (List.getElem_mem hk)
  simpa [List.getElem?_eq_getElem hk] using this
theorem wSum_at {p q : List Int} (h : wSum p q = true) (i j : Nat) (hi : i < p.length) (hj : j < q.length) : p[i]?.getD 0 + q[j]?.getD 0 ≠ 0 := by
  simp only [wSum, List.all_eq_true, decide_eq_true_eq] at h
  have := h p[i] (List.getElem_mem hi) q[j] (List.getElem_mem hj)
  simpa [List.getElem?_eq_getElem hi, List.getElem?_eq_getElem hj] using this
theorem wSum_of {p q : List Int} (h : ∀ i j, i < p.length → j < q.length → p[i]?.getD 0 + q[j]?.getD 0 ≠ 0) : wSum p q = true := by
  simp only [wSum, List.all_eq_true, decide_eq_true_eq]
  intro x hx y hy
  obtain ⟨i, hi, rfl⟩ := List.getElem_of_mem hx
  obtain ⟨j, hj, rfl⟩ := List.getElem_of_mem hy
  simpa [List.getElem?_eq_getElem hi, List.getElem?_eq_getElem hj] using h i j hi hj
theorem wSum_no {p q : List Int} {i j : Nat} (hi : i < p.length) (hj : j < q.length) (h : p[i]?.getD 0 + q[j]?.getD 0 = 0) : wSum p q = false := by
  cases e : wSum p q with
  | false => rfl
  | true => exact absurd h (wSum_at e i j hi hj)
theorem wIn_def (p : List Int) : wIn p = (decide (1 ≤ p.length) && decide (p.length ≤ 6) && allIn (-99) 99 p) := rfl
theorem wOk_len {p q : List Int} (h : ¬ (1 ≤ p.length ∧ p.length ≤ 6 ∧ 1 ≤ q.length ∧ q.length ≤ 6)) : wOk p q = false := by
  cases e : wOk p q with
  | false => rfl
  | true =>
    simp only [wOk, Bool.and_eq_true] at e
    have h1 := wIn_len e.1.1
    have h2 := wIn_len e.1.2
    omega
theorem wX_len (p q : List Int) : (wX p q).length ≤ 6 := by
  unfold wX
  split
  · rename_i h
    simp only [wOk, Bool.and_eq_true] at h
    rw [img_len]; exact (wIn_len h.1.1).2
  · simp
theorem wOk_all {p q : List Int} (h : allIn (-99) 99 p = false ∨ allIn (-99) 99 q = false) : wOk p q = false := by
  rcases h with h | h <;> simp [wOk, wIn_def, h]
theorem wOk_yes {p q : List Int} (h : 1 ≤ p.length ∧ p.length ≤ 6 ∧ 1 ≤ q.length ∧ q.length ≤ 6) (h1 : allIn (-99) 99 p = true) (h2 : allIn (-99) 99 q = true) : wOk p q = wSum p q := by
  simp [wOk, wIn_def, h1, h2, h]
end Go.Proofs.YtpeiolimdglmhaaGreatDoor

-- Plain mathematics: valid images.
namespace Go.Proofs.YtpeiolimdglmhaaGreatDoor

/-- ImageValid -/
def okB (W : Int) (xs : List Int) : Bool := decide (1 ≤ W) && decide (W ≤ 6) && decide (1 ≤ xs.length) && decide (xs.length ≤ 6) && allIn 0 (2 ^ W.toNat - 1) xs
theorem okB_bd {W : Int} {xs : List Int} (h : okB W xs = true) : 1 ≤ W ∧ W ≤ 6 ∧ 1 ≤ xs.length ∧ xs.length ≤ 6 := by
  simp only [okB, Bool.and_eq_true, decide_eq_true_eq] at h
  omega
theorem okB_all {W : Int} {xs : List Int} (h : okB W xs = true) : allIn 0 (2 ^ W.toNat - 1) xs = true := by
  simp only [okB, Bool.and_eq_true] at h
  exact h.2
theorem okB_no {W : Int} {xs : List Int} (h : ¬ (1 ≤ W ∧ W ≤ 6 ∧ 1 ≤ xs.length ∧ xs.length ≤ 6)) : okB W xs = false := by
  cases e : okB W xs with
  | false => rfl
  | true => exact absurd (okB_bd e) h
theorem okB_eq {W : Int} {xs : List Int} (h : 1 ≤ W ∧ W ≤ 6 ∧ 1 ≤ xs.length ∧ xs.length ≤ 6) : okB W xs = allIn 0 (2 ^ W.toNat - 1) xs := by
  obtain ⟨h1, h2, h3, h4⟩ := h
  simp [okB, h1, h2, h3, h4]
/-- a valid image's rows are the rows of a matrix of cells -/
theorem okB_rows {W : Int} {xs : List Int} (h : okB W xs = true) : ∃ m : Nat, ∃ f : Nat → Nat → Bool, W = m ∧ 1 ≤ m ∧ m ≤ 6 ∧ xs = img f xs.length m := by
  have hb := okB_bd h
  have ha := okB_all h
  obtain ⟨m, rfl⟩ := Int.eq_ofNat_of_zero_le (show 0 ≤ W by omega)
  refine ⟨m, fun i j => ((xs[i]?.getD 0).toNat).testBit j, rfl, by omega, by omega, ?_⟩
  apply List.ext_getElem
  · rw [img_len]
  · intro i h1 h2
    have hi := allIn_at ha i h1
    rw [Int.toNat_natCast] at hi
    have e : xs[i]?.getD 0 = xs[i] := by simp [List.getElem?_eq_getElem h1]
    rw [e] at hi
    have hp := pow_int (j := m) (by omega)
    have hn : (xs[i]).toNat < 2 ^ m := by
      have e2 : ((2 ^ m : Nat) : Int) = (2 : Int) ^ m := by simp
      omega
    simp only [img, List.getElem_map, List.getElem_range, List.getElem?_eq_getElem h1, Option.getD_some]
    rw [mkRow_testBit hn]
    omega
theorem okB_img {f : Nat → Nat → Bool} {h m : Nat} (h1 : 1 ≤ h) (h2 : h ≤ 6) (m1 : 1 ≤ m) (m2 : m ≤ 6) : okB m (img f h m) = true := by
  rw [okB_eq (by rw [img_len]; omega)]
  apply allIn_of
  intro k hk
  rw [img_len] at hk
  rw [img_get hk, Int.toNat_natCast]
  have := mkRow_lt (f k) m
  have e2 : ((2 ^ m : Nat) : Int) = (2 : Int) ^ m := by simp
  omega

/-- WeightsFit -/
def wFit (W : Int) (xs p q : List Int) : Bool := wOk p q && okB W xs && decide (W = wW p q) && decide (xs = wX p q)
end Go.Proofs.YtpeiolimdglmhaaGreatDoor

-- Plain mathematics: the sums of an image's rows and columns.
namespace Go.Proofs.YtpeiolimdglmhaaGreatDoor

/-- how many of the bits below 6 are set -/
def pop (r : Nat) : Nat := (List.range 6).countP (fun j => r.testBit j)
/-- RowSums of a valid image -/
def rsum (xs : List Int) : List Int := xs.map (fun x => (pop x.toNat : Int))
def rSums (W : Int) (xs : List Int) : List Int := if okB W xs then rsum xs else []
/-- ColSums of a valid image -/
def ccnt (xs : List Int) (j : Nat) : Nat := xs.countP (fun x => x.toNat.testBit j)
def csum (m : Nat) (xs : List Int) : List Int := (List.range m).map (fun j => (ccnt xs j : Int))
def cSums (W : Int) (xs : List Int) : List Int := if okB W xs then csum W.toNat xs else []
/-- while they are counted: the rows before k, and the columns before j of row k -/
def cst (m : Nat) (xs : List Int) (k j : Nat) : List Int := (List.range m).map (fun c => (ccnt (xs.take k) c : Int) + if c < j then (if (xs[k]?.getD 0).toNat.testBit c then 1 else 0) else 0)

theorem cst_len (m : Nat) (xs : List Int) (k j : Nat) : (cst m xs k j).length = m := by simp [cst]
theorem cst_zero (m : Nat) (xs : List Int) : cst m xs 0 0 = List.replicate m 0 := by
  apply List.ext_getElem
  · simp [cst]
  · intro i h1 h2; simp [cst, ccnt]
theorem cst_next {m : Nat} {xs : List Int} {k : Nat} (hk : k < xs.length) : cst m xs k m = cst m xs (k + 1) 0 := by
  apply List.map_congr_left
  intro c hc
  have hc' : c < m := List.mem_range.1 hc
  have e1 : (if c < 0 then (if (xs[k + 1]?.getD 0).toNat.testBit c then (1 : Int) else 0) else 0) = 0 := if_neg (by omega)
  rw [if_pos hc', e1]
  simp only [ccnt, List.take_succ_eq_append_getElem hk, List.countP_append, List.countP_singleton, List.getElem?_eq_getElem hk, Option.getD_some]
  split <;> simp
theorem cst_done {m : Nat} {xs : List Int} : cst m xs xs.length 0 = csum m xs := by
  apply List.map_congr_left
  intro c _
  simp
theorem cst_get {m : Nat} {xs : List Int} {k j : Nat} (hj : j < m) : (cst m xs k j)[j]?.getD 0 = (ccnt (xs.take k) j : Int) := by simp [cst, hj]
theorem cst_set {m : Nat} {xs : List Int} {k j : Nat} : (cst m xs k j).set j ((ccnt (xs.take k) j : Int) + (if (xs[k]?.getD 0).toNat.testBit j then 1 else 0)) = cst m xs k (j + 1) := by
  apply List.ext_getElem
  · simp [cst]
  · intro i h1 h2
    rw [List.getElem_set]
    by_cases h : j = i
    · subst h; simp [cst]
    · rw [if_neg h]
      simp only [cst, List.getElem_map, List.getElem_range]
      have e : (i < j) ↔ (i < j + 1) := by omega
      simp only [e]
theorem ccnt_le (xs : List Int) (j : Nat) : ccnt xs j ≤ xs.length := List.countP_le_length
end Go.Proofs.YtpeiolimdglmhaaGreatDoor

-- Plain mathematics: sums over cells; two matrices of cells with the same sums, one of which has a switch toward the other.
namespace Go.Proofs.YtpeiolimdglmhaaGreatDoor

/-- F 0 + .. + F (n-1) -/
def sumN : Nat → (Nat → Nat) → Nat
  | 0, _ => 0
  | n + 1, F => sumN n F + F n
def b1 (b : Bool) : Nat := if b then 1 else 0
theorem b1_le (b : Bool) : b1 b ≤ 1 := by cases b <;> simp [b1]
theorem sumN_congr {n : Nat} {F G : Nat → Nat} (h : ∀ i, i < n → F i = G i) : sumN n F = sumN n G := by
  induction n with
  | zero => rfl
  | succ n ih => simp only [sumN]; rw [ih (fun i hi => h i (by omega)), h n (by omega)]
theorem sumN_le {n : Nat} {F G : Nat → Nat} (h : ∀ i, i < n → F i ≤ G i) : sumN n F ≤ sumN n G := by
  induction n with
  | zero => exact Nat.le_refl _
  | succ n ih => simp only [sumN]; have := ih (fun i hi => h i (by omega)); have := h n (by omega); omega
theorem sumN_lt {n : Nat} {F G : Nat → Nat} (h : ∀ i, i < n → F i ≤ G i) {k : Nat} (hk : k < n) (hl : F k < G k) : sumN n F < sumN n G := by
  induction n with
  | zero => omega
  | succ n ih =>
    simp only [sumN]
    rcases Nat.lt_or_ge k n with h1 | h1
    · have := ih (fun i hi => h i (by omega)) h1
      have := h n (by omega)
      omega
    · obtain rfl : k = n := by omega
      have := sumN_le (fun i hi => h i (Nat.lt_succ_of_lt hi))
      omega
theorem sumN_zero {n : Nat} {F : Nat → Nat} (h : ∀ i, i < n → F i = 0) : sumN n F = 0 := by
  induction n with
  | zero => rfl
  | succ n ih => simp only [sumN]; rw [ih (fun i hi => h i (by omega)), h n (by omega)]
theorem sumN_pos {n : Nat} {F : Nat → Nat} (h : 0 < sumN n F) : ∃ i, i < n ∧ 0 < F i := by
  induction n with
  | zero => simp [sumN] at h
  | succ n ih =>
    simp only [sumN] at h
    by_cases h1 : 0 < F n
    · exact ⟨n, by omega, h1⟩
    · obtain ⟨i, hi, hp⟩ := ih (by omega)
      exact ⟨i, by omega, hp⟩
theorem sumN_one {n : Nat} {F G : Nat → Nat} {k : Nat} (hk : k < n) (h : ∀ i, i < n → i ≠ k → F i = G i) : sumN n F + G k = sumN n G + F k := by
  induction n with
  | zero => omega
  | succ n ih =>
    simp only [sumN]
    rcases Nat.lt_or_ge k n with h1 | h1
    · have := ih h1 (fun i hi => h i (by omega))
      have := h n (by omega) (by omega)
      omega
    · obtain rfl : k = n := by omega
      have := sumN_congr (n := k) (fun i hi => h i (by omega) (by omega))
      omega
theorem sumN_le_mul {n c : Nat} {F : Nat → Nat} (h : ∀ i, i < n → F i ≤ c) : sumN n F ≤ n * c := by
  induction n with
  | zero => simp [sumN]
  | succ n ih => simp only [sumN]; have := ih (fun i hi => h i (by omega)); have := h n (by omega); rw [Nat.succ_mul]; omega
theorem sumN_add (n : Nat) (F G : Nat → Nat) : sumN n (fun i => F i + G i) = sumN n F + sumN n G := by
  induction n with
  | zero => rfl
  | succ n ih => simp only [sumN]; rw [ih]; omega
theorem sumN_swap (n k : Nat) (F : Nat → Nat → Nat) : sumN n (fun i => sumN k (F i)) = sumN k (fun j => sumN n (fun i => F i j)) := by
  induction n with
  | zero => simp only [sumN]; rw [sumN_zero]; intros; rfl
  | succ n ih => simp only [sumN]; rw [ih, ← sumN_add]
/-- where one sum of bits is no more than another, and a bit is set in the first alone, another is set in the second alone -/
theorem bits_other {n : Nat} {f g : Nat → Bool} (h : sumN n (fun i => b1 (f i)) ≤ sumN n (fun i => b1 (g i))) {k : Nat} (hk : k < n) (hf : f k = true) (hg : g k = false) : ∃ j, j < n ∧ f j = false ∧ g j = true := by
  rcases Classical.em (∃ j, j < n ∧ f j = false ∧ g j = true) with h1 | h1
  · exact h1
  · have : sumN n (fun i => b1 (g i)) < sumN n (fun i => b1 (f i)) := by
      refine sumN_lt (fun i hi => ?_) hk (by simp [b1, hf, hg])
      cases hf' : f i with
      | true => simp [b1]; split <;> omega
      | false =>
        cases hg' : g i with
        | false => simp [b1]
        | true => exact absurd ⟨i, hi, hf', hg'⟩ h1
    omega

/-- how many cells of h rows and m columns are so -/
def cnt2 (h m : Nat) (p : Nat → Nat → Bool) : Nat := sumN h (fun i => sumN m (fun j => b1 (p i j)))
theorem cnt2_congr {h m : Nat} {p q : Nat → Nat → Bool} (e : ∀ i j, i < h → j < m → p i j = q i j) : cnt2 h m p = cnt2 h m q :=
  sumN_congr fun i hi => sumN_congr fun j hj => by rw [e i j hi hj]
def upd2 (p : Nat → Nat → Bool) (a c : Nat) (v : Bool) (i j : Nat) : Bool := if i = a ∧ j = c then v else p i j
theorem upd2_at (p : Nat → Nat → Bool) (a c : Nat) (v : Bool) : upd2 p a c v a c = v := by simp [upd2]
theorem upd2_no {p : Nat → Nat → Bool} {a c i j : Nat} {v : Bool} (h : i ≠ a ∨ j ≠ c) : upd2 p a c v i j = p i j := by
  unfold upd2; rw [if_neg]; omega
theorem cnt2_upd {h m : Nat} (p : Nat → Nat → Bool) {a c : Nat} (v : Bool) (ha : a < h) (hc : c < m) : cnt2 h m (upd2 p a c v) + b1 (p a c) = cnt2 h m p + b1 v := by
  have h1 := sumN_one (n := h) (k := a) (F := fun i => sumN m (fun j => b1 (upd2 p a c v i j))) (G := fun i => sumN m (fun j => b1 (p i j))) ha
    (fun i _ hne => sumN_congr fun j _ => by rw [upd2_no (.inl hne)])
  have h2 := sumN_one (n := m) (k := c) (F := fun j => b1 (upd2 p a c v a j)) (G := fun j => b1 (p a j)) hc (fun j _ hne => by simp only [upd2_no (p := p) (a := a) (c := c) (v := v) (.inr hne)])
  simp only [upd2_at] at h2
  simp only [cnt2]
  omega
/-- four cells of a square changed -/
theorem cnt2_four {h m : Nat} {p q : Nat → Nat → Bool} {a b c d : Nat} (ha : a < h) (hb : b < h) (hab : a ≠ b) (hc : c < m) (hd : d < m) (hcd : c ≠ d)
    (e : ∀ i j, i < h → j < m → ¬ ((i = a ∨ i = b) ∧ (j = c ∨ j = d)) → q i j = p i j) :
    cnt2 h m q + (b1 (p a c) + b1 (p a d) + b1 (p b c) + b1 (p b d)) = cnt2 h m p + (b1 (q a c) + b1 (q a d) + b1 (q b c) + b1 (q b d)) := by
  have h1 := cnt2_upd (h := h) (m := m) p (q a c) ha hc
  have h2 := cnt2_upd (h := h) (m := m) (upd2 p a c (q a c)) (q a d) ha hd
  have h3 := cnt2_upd (h := h) (m := m) (upd2 (upd2 p a c (q a c)) a d (q a d)) (q b c) hb hc
  have h4 := cnt2_upd (h := h) (m := m) (upd2 (upd2 (upd2 p a c (q a c)) a d (q a d)) b c (q b c)) (q b d) hb hd
  rw [upd2_no (.inr (Ne.symm hcd))] at h2
  rw [upd2_no (.inl (Ne.symm hab)), upd2_no (.inl (Ne.symm hab))] at h3
  rw [upd2_no (.inr (Ne.symm hcd)), upd2_no (.inl (Ne.symm hab)), upd2_no (.inl (Ne.symm hab))] at h4
  have h5 : cnt2 h m (upd2 (upd2 (upd2 (upd2 p a c (q a c)) a d (q a d)) b c (q b c)) b d (q b d)) = cnt2 h m q := by
    refine cnt2_congr fun i j hi hj => ?_
    unfold upd2
    split
    · rename_i x; rw [x.1, x.2]
    split
    · rename_i x; rw [x.1, x.2]
    split
    · rename_i x; rw [x.1, x.2]
    split
    · rename_i x; rw [x.1, x.2]
    · refine (e i j hi hj ?_).symm
      omega
  omega

/-- how many cells of two images are different -/
def dist2 (h m : Nat) (f g : Nat → Nat → Bool) : Nat := cnt2 h m (fun i j => f i j ^^ g i j)
theorem dist2_symm (h m : Nat) (f g : Nat → Nat → Bool) : dist2 h m f g = dist2 h m g f := cnt2_congr fun i j _ _ => by cases f i j <;> cases g i j <;> rfl
theorem dist2_zero {h m : Nat} {f g : Nat → Nat → Bool} (e : dist2 h m f g = 0) {i j : Nat} (hi : i < h) (hj : j < m) : f i j = g i j := by
  rcases Classical.em (f i j = g i j) with h1 | h1
  · exact h1
  · have h2 : 0 < b1 (f i j ^^ g i j) := by revert h1; cases f i j <;> cases g i j <;> simp [b1]
    have h3 : sumN m (fun _ => 0) < sumN m (fun j => b1 (f i j ^^ g i j)) := sumN_lt (fun _ _ => Nat.zero_le _) hj h2
    have h4 : sumN h (fun _ => 0) < sumN h (fun i => sumN m (fun j => b1 (f i j ^^ g i j))) := sumN_lt (fun _ _ => Nat.zero_le _) hi (by omega)
    simp only [dist2, cnt2] at e
    omega
theorem dist2_self {h m : Nat} {f g : Nat → Nat → Bool} (e : ∀ i j, i < h → j < m → f i j = g i j) : dist2 h m f g = 0 :=
  sumN_zero fun i hi => sumN_zero fun j hj => by simp [b1, e i j hi hj]

/-- the same sums of rows and columns -/
def Same2 (h m : Nat) (f g : Nat → Nat → Bool) : Prop :=
  (∀ i, i < h → sumN m (fun j => b1 (f i j)) = sumN m (fun j => b1 (g i j))) ∧ ∀ j, j < m → sumN h (fun i => b1 (f i j)) = sumN h (fun i => b1 (g i j))
theorem Same2.symm {h m : Nat} {f g : Nat → Nat → Bool} (s : Same2 h m f g) : Same2 h m g f := ⟨fun i hi => (s.1 i hi).symm, fun j hj => (s.2 j hj).symm⟩

/-- cells set in f alone in (a, c) and (b, d), in g alone in (a, d), and (b, c) is not one that is set in f alone -/
theorem good_four {h m : Nat} {f g : Nat → Nat → Bool} (s : Same2 h m f g) : ∀ (N a c : Nat), a < h → c < m → f a c = true → g a c = false → sumN h (fun i => b1 (f i c && !g i c)) ≤ N →
    ∃ a b c d, a < h ∧ b < h ∧ c < m ∧ d < m ∧ f a c = true ∧ g a c = false ∧ f a d = false ∧ g a d = true ∧ f b d = true ∧ g b d = false ∧ ¬ (f b c = true ∧ g b c = false) := by
  intro N
  induction N with
  | zero =>
    intro a c ha hc hf hg hN
    have h3 : sumN h (fun _ => 0) < sumN h (fun i => b1 (f i c && !g i c)) := sumN_lt (fun _ _ => Nat.zero_le _) ha (by simp [b1, hf, hg])
    omega
  | succ N ih =>
    intro a c ha hc hf hg hN
    obtain ⟨d, hd, hfd, hgd⟩ := bits_other (Nat.le_of_eq (s.1 a ha)) hc hf hg
    obtain ⟨b, hb, hgb, hfb⟩ := bits_other (Nat.le_of_eq (s.2 d hd).symm) ha hgd hfd
    rcases Classical.em (∃ b, b < h ∧ f b d = true ∧ g b d = false ∧ ¬ (f b c = true ∧ g b c = false)) with h1 | h1
    · obtain ⟨b, hb, h2, h3, h4⟩ := h1
      exact ⟨a, b, c, d, ha, hb, hc, hd, hf, hg, hfd, hgd, h2, h3, h4⟩
    · refine ih b d hb hd hfb hgb ?_
      have h2 : sumN h (fun i => b1 (f i d && !g i d)) < sumN h (fun i => b1 (f i c && !g i c)) := by
        refine sumN_lt (fun i hi => ?_) ha (by simp [b1, hf, hg, hfd])
        cases h3 : (f i d && !g i d) with
        | false => simp [b1]
        | true =>
          simp only [Bool.and_eq_true, Bool.not_eq_true'] at h3
          rcases Classical.em (f i c = true ∧ g i c = false) with h4 | h4
          · rw [h4.1, h4.2]; exact Nat.le_refl _
          · exact absurd ⟨i, hi, h3.1, h3.2, h4⟩ h1
      omega
theorem diff_cell {h m : Nat} {f g : Nat → Nat → Bool} (s : Same2 h m f g) (hd : 0 < dist2 h m f g) : ∃ a c, a < h ∧ c < m ∧ f a c = true ∧ g a c = false := by
  obtain ⟨i, hi, h1⟩ := sumN_pos hd
  obtain ⟨j, hj, h2⟩ := sumN_pos h1
  cases hf : f i j with
  | true =>
    cases hg : g i j with
    | true => simp [hf, hg, b1] at h2
    | false => exact ⟨i, j, hi, hj, hf, hg⟩
  | false =>
    cases hg : g i j with
    | false => simp [hf, hg, b1] at h2
    | true =>
      obtain ⟨k, hk, h3, h4⟩ := bits_other (Nat.le_of_eq (s.1 i hi).symm) hj hg hf
      exact ⟨i, k, hi, hk, h4, h3⟩
/-- different images with the same sums differ in four cells -/
theorem dist2_four {h m : Nat} {f g : Nat → Nat → Bool} (s : Same2 h m f g) (hd : 0 < dist2 h m f g) : 4 ≤ dist2 h m f g := by
  obtain ⟨a, c, ha, hc, hf, hg⟩ := diff_cell s hd
  obtain ⟨d, hd', hfd, hgd⟩ := bits_other (Nat.le_of_eq (s.1 a ha)) hc hf hg
  obtain ⟨b, hb, hgb, hfb⟩ := bits_other (Nat.le_of_eq (s.2 d hd').symm) ha hgd hfd
  obtain ⟨e, he, hfe, hge⟩ := bits_other (Nat.le_of_eq (s.2 c hc)) ha hf hg
  have hcd : c ≠ d := by rintro rfl; rw [hf] at hfd; cases hfd
  have hab : a ≠ b := by rintro rfl; rw [hfb] at hfd; cases hfd
  have hae : a ≠ e := by rintro rfl; rw [hf] at hfe; cases hfe
  have h1 := cnt2_upd (h := h) (m := m) (fun i j => f i j ^^ g i j) false ha hc
  have h2 := cnt2_upd (h := h) (m := m) (upd2 (fun i j => f i j ^^ g i j) a c false) false ha hd'
  have h3 := cnt2_upd (h := h) (m := m) (upd2 (upd2 (fun i j => f i j ^^ g i j) a c false) a d false) false hb hd'
  have h4 := cnt2_upd (h := h) (m := m) (upd2 (upd2 (upd2 (fun i j => f i j ^^ g i j) a c false) a d false) b d false) false he hc
  rw [upd2_no (.inr (Ne.symm hcd))] at h2
  rw [upd2_no (.inl (Ne.symm hab)), upd2_no (.inl (Ne.symm hab))] at h3
  rw [upd2_no (.inr hcd), upd2_no (.inl (Ne.symm hae)), upd2_no (.inl (Ne.symm hae))] at h4
  simp only [hf, hg, hfd, hgd, hfb, hgb, hfe, hge, Bool.xor_false, Bool.xor_true, Bool.not_false, b1, if_true, Bool.false_eq_true, if_false] at h1 h2 h3 h4
  unfold dist2
  omega
end Go.Proofs.YtpeiolimdglmhaaGreatDoor

-- Plain mathematics: the cells of an image, row by row; the image turned.
namespace Go.Proofs.YtpeiolimdglmhaaGreatDoor

/-- rows as integers -/
def nats (rs : List Nat) : List Int := rs.map (fun (x : Nat) => (x : Int))
theorem nats_img {rs : List Nat} {a c : Nat} (hl : rs.length = a) (hr : ∀ x ∈ rs, x < 2 ^ c) : nats rs = img (fun i j => (rs[i]?.getD 0).testBit j) a c := by
  apply List.ext_getElem
  · simp [nats, img_len, hl]
  · intro i h1 h2
    have hi : i < rs.length := by simpa [nats] using h1
    simp only [nats, img, List.getElem_map, List.getElem_range, List.getElem?_eq_getElem hi, Option.getD_some]
    rw [mkRow_testBit (hr _ (List.getElem_mem hi))]
theorem nats_step {rs : List Nat} {a k x : Nat} (hl : rs.length = k) (hk : k < a) : (nats rs ++ List.replicate (a - k) 0).set k (x : Int) = nats (rs ++ [x]) ++ List.replicate (a - (k + 1)) 0 := by
  rw [show a - k = (a - (k + 1)) + 1 by omega, List.replicate_succ, List.set_append_right _ _ (by simp [nats, hl])]
  simp [nats, hl]

theorem nats_get {rs : List Nat} {i : Nat} (hi : i < rs.length) : (nats rs)[i]?.getD 0 = ((rs[i]?.getD 0 : Nat) : Int) := by
  simp [nats, List.getElem?_eq_getElem hi]
theorem nats_set (rs : List Nat) (i y : Nat) : (nats rs).set i (y : Int) = nats (rs.set i y) := by simp [nats, List.map_set]
theorem nats_len (rs : List Nat) : (nats rs).length = rs.length := by simp [nats]
theorem img_nats (f : Nat → Nat → Bool) (h m : Nat) : img f h m = nats ((List.range h).map (fun k => mkRow (f k) m)) := by
  simp [img, nats]
/-- a cell of an image of h rows and m columns -/
abbrev Cell (h m : Nat) : Type := { x : Nat × Nat // x.1 < h ∧ x.2 < m }
/-- the first j cells of row i -/
def cRow (h m i j : Nat) : List (Cell h m) := (List.range j).filterMap (fun b => if e : i < h ∧ b < m then some ⟨(i, b), e⟩ else none)
/-- the cells before (i, j), row by row -/
def cUpto (h m : Nat) : Nat → Nat → List (Cell h m)
  | 0, j => cRow h m 0 j
  | i + 1, j => cUpto h m i m ++ cRow h m (i + 1) j
theorem cRow_zero (h m i : Nat) : cRow h m i 0 = [] := rfl
theorem cRow_succ {h m i j : Nat} (hi : i < h) (hj : j < m) : cRow h m i (j + 1) = cRow h m i j ++ [⟨(i, j), hi, hj⟩] := by
  simp [cRow, List.range_succ, List.filterMap_append, hi, hj]
theorem cUpto_succ {h m i j : Nat} (hi : i < h) (hj : j < m) : cUpto h m i (j + 1) = cUpto h m i j ++ [⟨(i, j), hi, hj⟩] := by
  cases i with
  | zero => simp only [cUpto]; exact cRow_succ hi hj
  | succ i => simp only [cUpto]; rw [cRow_succ hi hj, List.append_assoc]
theorem cUpto_next (h m i : Nat) : cUpto h m (i + 1) 0 = cUpto h m i m := by simp [cUpto, cRow_zero]
theorem cUpto_zero (h m : Nat) : cUpto h m 0 0 = [] := rfl
theorem cRow_len (h m i j : Nat) : (cRow h m i j).length ≤ j := by
  have := List.length_filterMap_le (fun b => if e : i < h ∧ b < m then some (⟨(i, b), e⟩ : Cell h m) else none) (List.range j)
  simpa [cRow] using this
theorem cUpto_len (h m i j : Nat) : (cUpto h m i j).length ≤ i * m + j := by
  induction i generalizing j with
  | zero => simp only [cUpto]; have := cRow_len h m 0 j; omega
  | succ i ih =>
    simp only [cUpto, List.length_append]
    have h1 := ih m
    have h2 := cRow_len h m (i + 1) j
    rw [Nat.succ_mul]; omega

/-- turning: the rows of the turned image when the cells of pre have been looked at -/
def tStep (f : Nat → Nat → Bool) {h m : Nat} (rs : List Nat) (x : Cell h m) : List Nat := if f x.1.1 x.1.2 then rs.set x.1.2 ((rs[x.1.2]?.getD 0) ^^^ 2 ^ x.1.1) else rs
def tRows (f : Nat → Nat → Bool) {h m : Nat} (pre : List (Cell h m)) : List Nat := pre.foldl (tStep f) (List.replicate m 0)
theorem tRows_snoc (f : Nat → Nat → Bool) {h m : Nat} (pre : List (Cell h m)) (x : Cell h m) : tRows f (pre ++ [x]) = tStep f (tRows f pre) x := by simp [tRows]
theorem tRows_len (f : Nat → Nat → Bool) {h m : Nat} (pre : List (Cell h m)) : (tRows f pre).length = m := by
  have key : ∀ (pre : List (Cell h m)) (rs : List Nat), rs.length = m → (pre.foldl (tStep f) rs).length = m := by
    intro pre
    induction pre with
    | nil => intro rs hrs; exact hrs
    | cons x pre ih =>
      intro rs hrs
      refine ih _ ?_
      simp only [tStep]; split <;> simp [hrs]
  exact key pre _ (by simp)
theorem tRows_lt (f : Nat → Nat → Bool) {h m : Nat} (hh : h ≤ 6) (pre : List (Cell h m)) : ∀ x ∈ tRows f pre, x < 64 := by
  have key : ∀ (pre : List (Cell h m)) (rs : List Nat), (∀ x ∈ rs, x < 64) → ∀ x ∈ pre.foldl (tStep f) rs, x < 64 := by
    intro pre
    induction pre with
    | nil => intro rs hrs; exact hrs
    | cons c pre ih =>
      intro rs hrs
      refine ih _ ?_
      simp only [tStep]
      split
      · intro x hx
        rcases List.mem_or_eq_of_mem_set hx with h1 | rfl
        · exact hrs x h1
        · have h2 : rs[c.1.2]?.getD 0 < 2 ^ 6 := by
            rcases Nat.lt_or_ge c.1.2 rs.length with hl | hl
            · rw [List.getElem?_eq_getElem hl]; exact hrs _ (List.getElem_mem hl)
            · rw [List.getElem?_eq_none hl]; simp
          have h3 : 2 ^ c.1.1 < 2 ^ 6 := Nat.pow_lt_pow_right (by omega) (by have := c.2.1; omega)
          exact Nat.xor_lt_two_pow h2 h3
      · exact hrs
  exact key pre _ (by intro x hx; rw [List.mem_replicate] at hx; omega)
/-- what the rows are in between -/
def tMid (f : Nat → Nat → Bool) (m i j : Nat) : List Nat := (List.range m).map (fun c => mkRow (fun t => f t c) (if c < j then i + 1 else i))
theorem tMid_step (f : Nat → Nat → Bool) {h m i j : Nat} (hi : i < h) (hj : j < m) : tStep f (tMid f m i j) (⟨(i, j), hi, hj⟩ : Cell h m) = tMid f m i (j + 1) := by
  simp only [tStep]
  have e0 : (tMid f m i j)[j]?.getD 0 = mkRow (fun t => f t j) i := by simp [tMid, hj]
  by_cases hf : f i j = true
  · rw [if_pos hf, e0, mkRow_xor, ← mkRow_step_t (f := fun t => f t j) hf]
    apply List.ext_getElem
    · simp [tMid]
    · intro k h1 h2
      rw [List.getElem_set]
      by_cases hk : j = k
      · subst hk; simp [tMid]
      · rw [if_neg hk]
        simp only [tMid, List.getElem_map, List.getElem_range]
        have : (k < j) ↔ (k < j + 1) := by omega
        simp only [this]
  · rw [if_neg hf]
    apply List.map_congr_left
    intro k _
    by_cases hk : k = j
    · subst hk
      rw [if_neg (by omega), if_pos (by omega), mkRow_step_f (by simpa using hf)]
    · have : (k < j) ↔ (k < j + 1) := by omega
      simp only [this]
theorem tMid_next (f : Nat → Nat → Bool) (m i : Nat) : tMid f m i m = tMid f m (i + 1) 0 := by
  apply List.map_congr_left
  intro c hc
  rw [if_pos (List.mem_range.1 hc), if_neg (by omega)]
theorem tRows_mid (f : Nat → Nat → Bool) {h m : Nat} : ∀ i j, i < h → j ≤ m → tRows f (cUpto h m i j) = tMid f m i j := by
  have inner : ∀ i, i < h → tRows f (cUpto h m i 0) = tMid f m i 0 → ∀ j, j ≤ m → tRows f (cUpto h m i j) = tMid f m i j := by
    intro i hi h0 j
    induction j with
    | zero => intro _; exact h0
    | succ j ih => intro hj; rw [cUpto_succ hi (by omega), tRows_snoc, ih (by omega), tMid_step f hi (by omega)]
  intro i
  induction i with
  | zero =>
    intro j hi hj
    refine inner 0 hi ?_ j hj
    simp only [cUpto, cRow_zero, tRows, tMid, List.foldl_nil]
    apply List.ext_getElem
    · simp
    · intro k _ _; simp [mkRow]
  | succ i ih =>
    intro j hi hj
    refine inner (i + 1) hi ?_ j hj
    rw [cUpto_next, ih m (by omega) (Nat.le_refl _), tMid_next]
/-- the image turned -/
theorem tRows_done (f : Nat → Nat → Bool) {h m : Nat} (hh : 1 ≤ h) : (tRows f (cUpto h m h 0)).map (fun (x : Nat) => (x : Int)) = img (fun c t => f t c) m h := by
  obtain ⟨k, rfl⟩ : ∃ k, h = k + 1 := ⟨h - 1, by omega⟩
  rw [cUpto_next, tRows_mid f k m (by omega) (Nat.le_refl _), tMid_next]
  simp [tMid, img]
end Go.Proofs.YtpeiolimdglmhaaGreatDoor
