/- Plain facts and walks that the law's proof uses; each says its own conditions. -/
import Derived.Test.YtpeiolimdglmhaaGreatDoorProg
import Derived.Test.YtpeiolimdglmhaaGreatDoorZ07
import Derived.Outline
import Derived.IntWalk
import Derived.Deep.QuietTactic
import Derived.BigQuiet
import Derived.Maps.AppendAt
import Derived.OwnWalk
-- Plain facts and walks that the law's proof uses; each says its own conditions.
namespace Go.Proofs.YtpeiolimdglmhaaGreatDoor
open Go.RowKit
set_option maxRecDepth 100000

theorem info3 : (Tryz.prog.info? 3).map (fun i => (i.zero, i.size, i.bytes)) = some (some (.int .i64 0), 1, 8) := by kernel_rfl

theorem make_row (n : Nat) (hn : n ≤ 1073741824) : ∀ u : World, (Instr.makeSlice 23 (.int .i64 (n : Int)) (.int .i64 (n : Int))).run Tryz.prog u =
      .ok (.slice (some ⟨u.heap.size, 0, none⟩) n n) (u.alloc (.cells (madeCells #[.int .i64 0] n) 3)) := fun u => by
  obtain ⟨i0, hi, hz0, hz1, hz2⟩ := info_parts info3
  have h := run_make (P := Tryz.prog) u 23 3 i0 (.int .i64 0) Tryz.underlying23 hi hz0 .i64 .i64 (n : Int) (n : Int) (by omega) (Int.le_refl _) (by rw [hz2]; omega) (by omega)
  simpa [hz1, Value.cells] using h

theorem copy_step (xs : List Int) (n k : Nat) (hx : xs.length = n) (hk : k < n) : (xs.take k ++ List.replicate (n - k) 0).set k (xs[k]?.getD 0) = xs.take (k + 1) ++ List.replicate (n - (k + 1)) 0 := by
  have hl : k < xs.length := by omega
  have e : n - k = (n - (k + 1)) + 1 := by omega
  rw [e, List.replicate_succ, List.set_append_right _ _ (by simp; omega), List.take_succ_eq_append_getElem hl]
  simp [List.length_take, Nat.min_eq_left (Nat.le_of_lt hl), List.getElem?_eq_getElem hl]
  rw [List.append_cons]; simp

/-- k, k+1, .. -/
def iota (k : Int) (n : Nat) : List Int := (List.range n).map (fun i : Nat => k + (i : Int))
theorem iota_get (k : Int) (n i : Nat) (h : i < n) : (iota k n)[i]?.getD 0 = k + i := by simp [iota, h]
theorem iota_len (k : Int) (n : Nat) : (iota k n).length = n := by simp [iota]
theorem take_drop_set (ys xs : List Int) (i : Nat) (v : Int) (hx : i < xs.length) (hv : ys[i]? = some v) : (ys.take i ++ xs.drop i).set i v = ys.take (i + 1) ++ xs.drop (i + 1) := by
  have hm : i < ys.length := by
    rcases Nat.lt_or_ge i ys.length with h | h
    · exact h
    · rw [List.getElem?_eq_none h] at hv; cases hv
  have hv' : ys[i] = v := by rw [List.getElem?_eq_getElem hm] at hv; injection hv
  have hl : (ys.take i).length = i := by rw [List.length_take]; omega
  rw [List.set_append_right _ _ (by omega), hl, Nat.sub_self, List.drop_eq_getElem_cons hx, List.set_cons_zero, List.take_succ_eq_append_getElem hm, hv', List.append_assoc]
  rfl
theorem iota_step (k : Int) (n i : Nat) (xs : List Int) (hx : xs.length = n) (h : i < n) : ((iota k n).take i ++ xs.drop i).set i (k + i) = (iota k n).take (i + 1) ++ xs.drop (i + 1) :=
  take_drop_set _ _ _ _ (by omega) (by simp [iota, h])

end Go.Proofs.YtpeiolimdglmhaaGreatDoor

-- A slice of integers of one's own that is appended to.
namespace Go.Proofs.YtpeiolimdglmhaaGreatDoor
open Go.RowKit
set_option maxRecDepth 100000

/-- the slice at A with capacity c is a row of one's own, from block base on, and holds xs -/
def Buf (w : World) (base : Nat) (A : Option Addr) (c : Nat) (xs : List Int) : Prop := w.ownsRow base 3 1 (.slice A xs.length c) xs.length (xs.map (Value.int .i64))

section
variable {w w' : World} {base : Nat} {A : Option Addr} {c : Nat} {xs : List Int}
theorem Buf.form (h : Buf w base A c xs) : (A = none ∧ xs = []) ∨ ∃ g cs, A = some ⟨g, 0, none⟩ ∧ base ≤ g ∧ Blk w g 3 cs ∧ ∀ (k : Nat) (x : Int), xs[k]? = some x → cs[k]? = some (.int .i64 x) := by
  rcases h.2 with ⟨hv, hn⟩ | ⟨g, cap, cur, hv, hb, hh, hn, hm, hs, ht⟩
  · injection hv with h1 h2 h3
    exact .inl ⟨h1, List.eq_nil_of_length_eq_zero h2⟩
  · injection hv with h1 h2 h3
    refine .inr ⟨g, cur, h1, hb, hh, fun k x hx => ?_⟩
    have hk : k < xs.length := by
      rcases Nat.lt_or_ge k xs.length with h | h
      · exact h
      · rw [List.getElem?_eq_none h] at hx; cases hx
    have e : (cur.toList.take (xs.length * 1))[k]? = (xs.map (Value.int .i64))[k]? := by rw [ht]
    rw [List.getElem?_take, if_pos (by omega), List.getElem?_map, hx] at e
    simpa using e
theorem Buf.own (h : Buf w base A c xs) : Own w base A xs.length xs := by
  refine ⟨rfl, fun hn => ?_⟩
  rcases h.form with ⟨_, rfl⟩ | ⟨g, cs, e, hb, hk, hx⟩
  · simp at hn
  · exact ⟨g, cs, e, hb, hk, hx⟩
theorem Buf.kept (h : Buf w base A c xs) {row : Option Nat} (hg : w.grownBy w' row) (hne : ∀ g, A = some ⟨g, 0, none⟩ → row ≠ some g) : Buf w' base A c xs := by
  refine World.ownsRow.kept h hg ?_
  rcases h.form with ⟨rfl, _⟩ | ⟨g, cs, rfl, _⟩
  · exact .inl rfl
  · exact .inr (fun e => hne g rfl e.symm)
theorem Buf.next (h : Buf w base A c xs) (hb : Below w.heap.size w w') : Buf w' base A c xs := h.kept (grown_of_below hb none) (fun _ _ e => by cases e)
theorem Buf.nil_ (w : World) (base : Nat) : Buf w base none 0 [] := World.ownsRow_nil _ _ _ _
theorem Buf.lt (h : Buf w base A c xs) : ∀ g, A = some ⟨g, 0, none⟩ → base ≤ g ∧ g < w.heap.size := by
  rintro g rfl
  rcases h.form with ⟨e, _⟩ | ⟨g', cs, e, hb, hk, _⟩
  · cases e
  · injection e with e; injection e with e; subst e
    exact ⟨hb, hk.lt⟩
theorem Buf.lit (w : World) (base : Nat) (xs : List Int) (hb : base ≤ w.heap.size) (hn : xs.length ≤ maxLen) : Buf (w.alloc (.cells (ints xs) 3)) base (some ⟨w.heap.size, 0, none⟩) xs.length xs := by
  have h := World.ownsRow_lit (e := 3) (size := 1) (base := base) w (ints xs) xs.length hb hn (by simp [ints])
  simpa [Buf, ints] using h
end

/-- the block that an append may write -/
def rowA (A : Option Addr) : Option Nat := A.map (·.block)

theorem wpl_append {ops : Array Oper} {rest : List Oper} {o : Oper} {a : Act} {Q : Exit → Act → World → Prop} {w : World} (hgd : o.guard = none) (s x : Operand)
    (ho : o.op = .call { callee := .builtin .append, args := #[s, x], argTypes := #[23, 23] })
    (base : Nat) (A : Option Addr) (c n : Nat) (xs : List Int) (hs : a.eval s = .slice A n c) (hn : n = xs.length) (hb : Buf w base A c xs)
    (B : Option Addr) (m d : Nat) (ys : List Int) (hx : a.eval x = .slice B m d) (hr : Rd w B m ys) (hm0 : 0 < m) (hlen : n + m ≤ 1048576) (hbase : base ≤ w.heap.size)
    (h : ∀ g c' w', Buf w' base (some ⟨g, 0, none⟩) c' (xs ++ ys) → w.grownBy w' (rowA A) → (A = some ⟨g, 0, none⟩ ∨ g = w.heap.size) → wpList Tryz.prog ops Q rest (a.put o.dst (.slice (some ⟨g, 0, none⟩) (n + m) c')) w') : wpList Tryz.prog ops Q (o :: rest) a w := by
  obtain ⟨i0, hi, hz0, hz1, hz2⟩ := info_parts info3
  obtain ⟨b, off, rfl, _, hc⟩ := hr.2 hm0
  subst hn
  refine wpList_append_own_at w hgd s x 23 ho base 3 i0 (.int .i64 0) 1 8 Tryz.underlying23 hi hz0 hz1 hz2 rfl (by decide) _ xs.length _ hs hb ⟨b, off, none⟩ m d (ys.map (Value.int .i64)) hx (by simp [hr.1]) ?_ (by simp [Value.oneCell']) (by unfold maxLen; omega) (by omega) hbase ?_
  · intro j u hu
    rw [List.getElem?_map, Option.map_eq_some_iff] at hu
    obtain ⟨y, hy, rfl⟩ := hu
    rw [Go.WideShapes.add_plain]
    exact hc j y hy
  · intro v' w' hown hg _ hat
    rcases hown.2 with ⟨hv, hn⟩ | ⟨g, cap, cur, rfl, hb', hh, hn, hm, hsz, ht⟩
    · omega
    · refine h g cap w' ?_ (by cases A <;> exact hg) ?_
      · have e : (xs ++ ys).length = xs.length + m := by rw [List.length_append, hr.1]
        unfold Buf
        rw [e, List.map_append]
        exact hown
      · rcases hat with h1 | h1
        · cases A with
          | none => simp [Value.ownBlock] at h1
          | some a =>
            rcases hb.form with ⟨e, _⟩ | ⟨g', cs, e, _⟩
            · cases e
            · injection e with e; subst e
              simp [Value.ownBlock] at h1
              exact .inl (by rw [h1])
        · simp [Value.ownBlock] at h1
          exact .inr h1
end Go.Proofs.YtpeiolimdglmhaaGreatDoor

-- Slices of images.
namespace Go.Proofs.YtpeiolimdglmhaaGreatDoor
open Go.RowKit
set_option maxRecDepth 100000

theorem infoImg : ((Tryz.prog.info? 25).map fun i => (i.zero, i.size, i.bytes)) = some (some (.agg #[.int .i64 0, .slice none 0 0]), 2, 32) := by kernel_rfl

/-- an image as an element of a slice -/
structure El where
  W : Int
  A : Option Addr
  c : Nat
  xs : List Int
def El.cells (e : El) : List Value := [.int .i64 e.W, .slice e.A e.xs.length e.c]
def elCells (es : List El) : List Value := es.flatMap El.cells
theorem elCells_len (es : List El) : (elCells es).length = es.length * 2 := by
  induction es with
  | nil => rfl
  | cons e es ih =>
    have e1 : elCells (e :: es) = e.cells ++ elCells es := rfl
    rw [e1, List.length_append, ih, List.length_cons]; simp [El.cells]; omega
theorem elCells_snoc (es : List El) (e : El) : elCells (es ++ [e]) = elCells es ++ e.cells := by simp [elCells, List.flatMap_append]
theorem elCells_get : ∀ {es : List El} {k : Nat} {e : El}, es[k]? = some e → (elCells es)[2 * k]? = some (.int .i64 e.W) ∧ (elCells es)[2 * k + 1]? = some (.slice e.A e.xs.length e.c)
  | e' :: es, 0, e, h => by
    simp at h; subst h; exact ⟨rfl, rfl⟩
  | e' :: es, k + 1, e, h => by
    have e1 : elCells (e' :: es) = .int .i64 e'.W :: .slice e'.A e'.xs.length e'.c :: elCells es := rfl
    have := elCells_get (es := es) (k := k) (e := e) (by simpa using h)
    rw [e1, show 2 * (k + 1) = 2 * k + 1 + 1 by omega, List.getElem?_cons_succ, List.getElem?_cons_succ, List.getElem?_cons_succ, List.getElem?_cons_succ]
    exact this
theorem elCells_one (es : List El) : ∀ u ∈ elCells es, u.oneCell' = true := by
  intro u hu
  simp only [elCells, List.mem_flatMap, El.cells, List.mem_cons, List.not_mem_nil, or_false] at hu
  obtain ⟨e, _, rfl | rfl⟩ := hu <;> rfl

/-- the slice at A of n images can be read -/
def RdI (w : World) (A : Option Addr) (n : Nat) (es : List El) : Prop :=
  es.length = n ∧ (0 < n → ∃ b off, A = some ⟨b, off, none⟩ ∧ b < w.heap.size ∧ ∀ k e, es[k]? = some e → w.cell? ⟨b, off + 2 * k, none⟩ = some (.int .i64 e.W) ∧ w.cell? ⟨b, off + 2 * k + 1, none⟩ = some (.slice e.A e.xs.length e.c)) ∧
  ∀ e ∈ es, Rd w e.A e.xs.length e.xs

section
variable {w w' : World} {base : Nat} {A : Option Addr} {n c : Nat} {es : List El}
theorem RdI.next (h : RdI w A n es) (hb : Below w.heap.size w w') : RdI w' A n es :=
  ⟨h.1, fun hn => by
    obtain ⟨b, off, e, h1, h2⟩ := h.2.1 hn
    have hs := hb.size
    exact ⟨b, off, e, by omega, fun k e he => ⟨(hb.cell (p := ⟨b, off + 2 * k, none⟩) h1).trans (h2 k e he).1, (hb.cell (p := ⟨b, off + 2 * k + 1, none⟩) h1).trans (h2 k e he).2⟩⟩, fun e he => (h.2.2 e he).next hb⟩
theorem RdI.alloc (h : RdI w A n es) (o : Obj) : RdI (w.alloc o) A n es := h.next ((Below.refl _ _).alloc (Nat.le_refl _) o)
theorem RdI.at_ {k : Nat} {e : El} (h : RdI w A n es) (hk : k < n) (he : es[k]? = some e) : ∃ b off, A = some ⟨b, off, none⟩ ∧ b < w.heap.size ∧ w.cell? ⟨b, off + 2 * k, none⟩ = some (.int .i64 e.W) ∧
    w.cell? ⟨b, off + 2 * k + 1, none⟩ = some (.slice e.A e.xs.length e.c) ∧ Rd w e.A e.xs.length e.xs := by
  obtain ⟨b, off, e1, h1, h2⟩ := h.2.1 (by omega)
  exact ⟨b, off, e1, h1, (h2 k e he).1, (h2 k e he).2, h.2.2 e (List.mem_of_getElem? he)⟩

/-- a slice of one's own that holds images -/
def BufI (w : World) (base : Nat) (A : Option Addr) (c : Nat) (es : List El) : Prop := w.ownsRow base 25 2 (.slice A es.length c) es.length (elCells es)
theorem BufI.form (h : BufI w base A c es) : (A = none ∧ es = []) ∨ ∃ g cs, A = some ⟨g, 0, none⟩ ∧ base ≤ g ∧ Blk w g 25 cs ∧ ∀ (k : Nat) (x : Value), (elCells es)[k]? = some x → cs[k]? = some x := by
  rcases h.2 with ⟨hv, hn⟩ | ⟨g, cap, cur, hv, hb, hh, hn, hm, hs, ht⟩
  · injection hv with h1 h2 h3
    exact .inl ⟨h1, List.eq_nil_of_length_eq_zero h2⟩
  · injection hv with h1 h2 h3
    refine .inr ⟨g, cur, h1, hb, hh, fun k x hx => ?_⟩
    have hk : k < es.length * 2 := by
      have := (List.getElem?_eq_some_iff.1 hx).1
      rwa [elCells_len] at this
    have e : (cur.toList.take (es.length * 2))[k]? = (elCells es)[k]? := by rw [ht]
    rw [List.getElem?_take, if_pos (by omega), hx] at e
    simpa using e
theorem BufI.kept (h : BufI w base A c es) {row : Option Nat} (hg : w.grownBy w' row) (hne : ∀ g, A = some ⟨g, 0, none⟩ → row ≠ some g) : BufI w' base A c es := by
  refine World.ownsRow.kept h hg ?_
  rcases h.form with ⟨rfl, _⟩ | ⟨g, cs, rfl, _⟩
  · exact .inl rfl
  · exact .inr (fun e => hne g rfl e.symm)
theorem BufI.next (h : BufI w base A c es) (hb : Below w.heap.size w w') : BufI w' base A c es := h.kept (grown_of_below hb none) (fun _ _ e => by cases e)
theorem BufI.nil_ (w : World) (base : Nat) : BufI w base none 0 [] := World.ownsRow_nil _ _ _ _
theorem BufI.lt (h : BufI w base A c es) : ∀ g, A = some ⟨g, 0, none⟩ → base ≤ g ∧ g < w.heap.size := by
  rintro g rfl
  rcases h.form with ⟨e, _⟩ | ⟨g', cs, e, hb, hk, _⟩
  · cases e
  · injection e with e; injection e with e; subst e
    exact ⟨hb, hk.lt⟩
theorem BufI.addr (h : BufI w base A c es) : A = none ∨ ∃ g, A = some ⟨g, 0, none⟩ := by
  rcases h.form with ⟨e, _⟩ | ⟨g', cs, e, _⟩
  · exact .inl e
  · exact .inr ⟨_, e⟩
theorem BufI.rd (h : BufI w base A c es) (hr : ∀ e ∈ es, Rd w e.A e.xs.length e.xs) : RdI w A es.length es := by
  refine ⟨rfl, fun hn => ?_, hr⟩
  rcases h.form with ⟨_, rfl⟩ | ⟨g, cs, e, hb, hk, hx⟩
  · simp at hn
  · refine ⟨g, 0, e, hk.lt, fun k e' he => ?_⟩
    have := elCells_get he
    rw [Nat.zero_add]
    exact ⟨(hk.cell _).trans (hx _ _ this.1), (hk.cell _).trans (hx _ _ this.2)⟩

/-- a slice of images of one's own: each in memory of its own -/
structure OwnI (w : World) (base : Nat) (A : Option Addr) (c : Nat) (es : List El) : Prop where
  buf : BufI w base A c es
  rows : ∀ e ∈ es, Own w base e.A e.xs.length e.xs ∧ 0 < e.xs.length
  far : (es.map (·.A)).Nodup
  apart : A ∉ es.map (·.A)
theorem OwnI.rdI (h : OwnI w base A c es) : RdI w A es.length es := h.buf.rd (fun e he => (h.rows e he).1.rd)
theorem OwnI.next (h : OwnI w base A c es) (hb : Below w.heap.size w w') : OwnI w' base A c es :=
  ⟨h.buf.next hb, fun e he => ⟨(h.rows e he).1.next hb, (h.rows e he).2⟩, h.far, h.apart⟩
theorem OwnI.alloc (h : OwnI w base A c es) (o : Obj) : OwnI (w.alloc o) base A c es := h.next ((Below.refl _ _).alloc (Nat.le_refl _) o)
theorem OwnI.nil_ (w : World) (base : Nat) : OwnI w base none 0 [] := ⟨BufI.nil_ _ _, fun _ h => (by cases h), List.nodup_nil, by simp⟩
end

theorem OwnI.snoc {w w' : World} {base g c' : Nat} {A : Option Addr} {c : Nat} {es : List El} {e : El} (h : OwnI w base A c es) (hO : Own w base e.A e.xs.length e.xs) (h0 : 0 < e.xs.length)
    (hne : e.A ∉ es.map (·.A)) (hna : A ≠ e.A) (hb : BufI w' base (some ⟨g, 0, none⟩) c' (es ++ [e])) (hg : w.grownBy w' (rowA A)) (hat : A = some ⟨g, 0, none⟩ ∨ g = w.heap.size) : OwnI w' base (some ⟨g, 0, none⟩) c' (es ++ [e]) := by
  have hrow : ∀ e' ∈ es ++ [e], Own w base e'.A e'.xs.length e'.xs ∧ 0 < e'.xs.length ∧ A ≠ e'.A := by
    intro e' he
    rcases List.mem_append.1 he with he | he
    · exact ⟨(h.rows e' he).1, (h.rows e' he).2, fun x => h.apart (x ▸ List.mem_map_of_mem he)⟩
    · obtain rfl := List.mem_singleton.1 he
      exact ⟨hO, h0, hna⟩
  refine ⟨hb, fun e' he => ⟨(hrow e' he).1.grown hg ?_, (hrow e' he).2.1⟩, ?_, ?_⟩
  · intro g' hA hr
    rcases h.buf.addr with rfl | ⟨g2, rfl⟩
    · simp [rowA] at hr
    · simp [rowA] at hr
      subst hr
      exact (hrow e' he).2.2 hA.symm
  · rw [List.map_append, List.nodup_append]
    refine ⟨h.far, by simp, ?_⟩
    intro a ha b hb
    simp at hb
    subst hb
    exact fun e => hne (e ▸ ha)
  · intro hm
    obtain ⟨e', he, hA⟩ := List.mem_map.1 hm
    have h1 := hrow e' he
    rcases hat with rfl | rfl
    · exact h1.2.2 hA.symm
    · rcases h1.1.blk with ⟨hz, _⟩ | ⟨g2, e2, _, hl⟩
      · omega
      · rw [hA] at e2
        injection e2 with e2; injection e2 with e2
        omega
end Go.Proofs.YtpeiolimdglmhaaGreatDoor

-- Walks: how many bits of a row are set.
namespace Go.Proofs.YtpeiolimdglmhaaGreatDoor
open Go.RowKit
set_option maxRecDepth 100000

set_option maxHeartbeats 1000000 in
theorem ones64_c (r : Nat) (w : World) (hr : r < 64) :
    Calls Tryz.prog 122 #[.int .u64 r] w fun e w' => e = .returned (.int .i64 (pop r : Nat)) ∧ w = w' := by
  go_enter Tryz.func122, Tryz.ntmps122
  go_wp2
  go_ret
  refine ⟨ret_int ?_, rfl⟩
  clear w
  revert hr
  revert r
  decide +kernel

set_option maxHeartbeats 1000000 in
theorem ones_c (r : Nat) (w : World) (hr : r < 64) :
    Calls Tryz.prog 48 #[.int .i64 r] w fun e w' => e = .returned (.int .i64 (pop r : Nat)) ∧ w = w' := by
  go_enter Tryz.func48, Tryz.ntmps48
  go_wp2_with fail
  go_in
  go_wp2_with fail
  refine (ones64_c r _ hr).mono ?_
  rintro e w' ⟨rfl, rfl⟩
  go_wp2
  go_ret
  exact ⟨rfl, rfl⟩
end Go.Proofs.YtpeiolimdglmhaaGreatDoor

-- Walks: functions that compare.
namespace Go.Proofs.YtpeiolimdglmhaaGreatDoor
open Go.RowKit
set_option maxRecDepth 100000

theorem list_ext0 {xs ys : List Int} (h : xs.length = ys.length) (e : ∀ j, j < xs.length → xs[j]?.getD 0 = ys[j]?.getD 0) : xs = ys := by
  apply List.ext_getElem h
  intro i h1 h2
  simpa [List.getElem?_eq_getElem h1, List.getElem?_eq_getElem h2] using e i h1

set_option maxHeartbeats 400000 in
theorem slicesEqual_c (A B : Option Addr) (n m c d : Nat) (xs ys : List Int) (w : World) (hr : Rd w A n xs) (hs : Rd w B m ys) (hn : n ≤ 1073741824) :
    Calls Tryz.prog 128 #[.slice A n c, .slice B m d] w fun e w' => e = .returned (.bool (decide (xs = ys))) ∧ Below w.heap.size w w' := by
  by_cases hnm : n = m
  case neg =>
    have hF : (decide (xs = ys)) = false := by
      rw [decide_eq_false_iff_not]; intro e; exact hnm (by rw [← hr.1, ← hs.1, e])
    have hF' := Lib.hid hF; clear hF
    have hnm' : ((n : Int) != m) = true := by simp; omega
    go_enter Tryz.func128, Tryz.ntmps128
    go_wp2
    go_ret
    exact ⟨ret_bool hF'.out.symm, Below.refl _ _⟩
  subst hnm
  go_enter Tryz.func128, Tryz.ntmps128
  go_wp2
  go_loopw [13] (fun i wr => ∃ k : Nat, k ≤ n ∧ i = .int .i64 k ∧ Below w.heap.size w wr ∧ Hid (∀ j, j < k → xs[j]?.getD 0 = ys[j]?.getD 0)) (fun i _ => n - (intOf i).toNat)
  case atStart => exact ⟨0, Nat.zero_le _, rfl, Below.refl _ _, Lib.hid (fun j h => absurd h (by omega))⟩
  case round =>
    obtain ⟨k, hk, rfl, hbl, hall⟩ := hrel
    by_cases hlt : k < n
    · obtain ⟨b, off, rfl, hb, hc⟩ := (hr.next hbl).at_ hlt
      obtain ⟨b', off', rfl, hb', hc'⟩ := (hs.next hbl).at_ hlt
      by_cases he : xs[k]?.getD 0 = ys[k]?.getD 0
      · have he' : (xs[k]?.getD 0 != ys[k]?.getD 0) = false := by simp [he]
        have hN : Hid (∀ j, j < k + 1 → xs[j]?.getD 0 = ys[j]?.getD 0) := Lib.hid (fun j hj => by
          rcases Nat.lt_or_ge j k with h | h
          · exact hall.out j h
          · obtain rfl : j = k := by omega
            exact he)
        clear he
        go_wp2
        go_quiet (fail)
        go_wp2
        go_roundw
        case rel => exact ⟨k + 1, by omega, by go_num, below_drewN hbl _, hN⟩
        case measure => simp [intOf]; omega
      · have he' : (xs[k]?.getD 0 != ys[k]?.getD 0) = true := by simp [he]
        have hF : Hid ((decide (xs = ys)) = false) := Lib.hid (by
          rw [decide_eq_false_iff_not]; intro e; exact he (by rw [e]))
        clear he
        go_wp2
        go_quiet (fail)
        go_wp2
        go_ret
        exact ⟨ret_bool hF.out.symm, below_drewN hbl _⟩
    · obtain rfl : k = n := by omega
      have hF : Hid ((decide (xs = ys)) = true) := Lib.hid (by
        rw [decide_eq_true_eq]; exact list_ext0 (by rw [hr.1, hs.1]) (fun j hj => hall.out j (by rw [hr.1] at hj; exact hj)))
      go_wp2
      go_ret
      exact ⟨ret_bool hF.out.symm, hbl⟩

set_option maxHeartbeats 400000 in
theorem sameInts_c (A B : Option Addr) (n m c d : Nat) (xs ys : List Int) (w : World) (hr : Rd w A n xs) (hs : Rd w B m ys) (hn : n ≤ 1073741824) :
    Calls Tryz.prog 64 #[.slice A n c, .slice B m d] w fun e w' => e = .returned (.bool (decide (xs = ys))) ∧ Below w.heap.size w w' := by
  by_cases hnm : n = m
  case neg =>
    have hF : (decide (xs = ys)) = false := by
      rw [decide_eq_false_iff_not]; intro e; exact hnm (by rw [← hr.1, ← hs.1, e])
    have hF' := Lib.hid hF; clear hF
    have hnm' : ((n : Int) != m) = true := by simp; omega
    go_enter Tryz.func64, Tryz.ntmps64
    go_wp2
    go_ret
    exact ⟨ret_bool hF'.out.symm, Below.refl _ _⟩
  subst hnm
  go_enter Tryz.func64, Tryz.ntmps64
  go_wp2
  go_loopw [5] (fun i wr => ∃ k : Nat, k ≤ n ∧ i = .int .i64 k ∧ Below w.heap.size w wr ∧ Hid (∀ j, j < k → xs[j]?.getD 0 = ys[j]?.getD 0)) (fun i _ => n - (intOf i).toNat)
  case atStart => exact ⟨0, Nat.zero_le _, rfl, Below.refl _ _, Lib.hid (fun j h => absurd h (by omega))⟩
  case round =>
    obtain ⟨k, hk, rfl, hbl, hall⟩ := hrel
    by_cases hlt : k < n
    · obtain ⟨b, off, rfl, hb, hc⟩ := (hr.next hbl).at_ hlt
      obtain ⟨b', off', rfl, hb', hc'⟩ := (hs.next hbl).at_ hlt
      by_cases he : xs[k]?.getD 0 = ys[k]?.getD 0
      · have he' : (xs[k]?.getD 0 != ys[k]?.getD 0) = false := by simp [he]
        have hN : Hid (∀ j, j < k + 1 → xs[j]?.getD 0 = ys[j]?.getD 0) := Lib.hid (fun j hj => by
          rcases Nat.lt_or_ge j k with h | h
          · exact hall.out j h
          · obtain rfl : j = k := by omega
            exact he)
        clear he
        go_wp2
        go_quiet (fail)
        go_wp2
        go_roundw
        case rel => exact ⟨k + 1, by omega, by go_num, below_drewN hbl _, hN⟩
        case measure => simp [intOf]; omega
      · have he' : (xs[k]?.getD 0 != ys[k]?.getD 0) = true := by simp [he]
        have hF : Hid ((decide (xs = ys)) = false) := Lib.hid (by
          rw [decide_eq_false_iff_not]; intro e; exact he (by rw [e]))
        clear he
        go_wp2
        go_quiet (fail)
        go_wp2
        go_ret
        exact ⟨ret_bool hF.out.symm, below_drewN hbl _⟩
    · obtain rfl : k = n := by omega
      have hF : Hid ((decide (xs = ys)) = true) := Lib.hid (by
        rw [decide_eq_true_eq]; exact list_ext0 (by rw [hr.1, hs.1]) (fun j hj => hall.out j (by rw [hr.1] at hj; exact hj)))
      go_wp2
      go_ret
      exact ⟨ret_bool hF.out.symm, hbl⟩

set_option maxHeartbeats 400000 in
theorem lsameImage_t (W : Int) (A B : Option Addr) (n m c d : Nat) (xs : List Int) (w : World) (hr : Rd w A n xs) (hs : Rd w B m xs) (hn : n ≤ 1073741824) :
    Calls Tryz.prog 31 #[.agg #[.int .i64 W, .slice A n c], .agg #[.int .i64 W, .slice B m d]] w fun e w' => e = .returned (.bool true) ∧ Below w.heap.size w w' := by
  go_enter Tryz.func31, Tryz.ntmps31
  go_wp2_with fail
  refine (sameInts_c _ _ _ _ _ _ xs xs _ ((hr.alloc _).alloc _) ((hs.alloc _).alloc _) hn).mono ?_
  rw [decide_eq_true (rfl : xs = xs)]
  rintro e w1 ⟨rfl, hb⟩
  go_wp2
  go_ret
  exact ⟨rfl, by (repeat (first | exact Below.refl _ _ | assumption | refine lo_alloc ?_ _ | refine lo_set ?_ (by simp; try omega) _ | refine Below.drew ?_ | refine below_drewN ?_ _ | refine lo_trans ?_ (by assumption) | refine lo_wr ?_ (by assumption) (by omega)))⟩
end Go.Proofs.YtpeiolimdglmhaaGreatDoor

-- Walks: the law's own helpers over images.
namespace Go.Proofs.YtpeiolimdglmhaaGreatDoor
open Go.RowKit
set_option maxRecDepth 100000

end Go.Proofs.YtpeiolimdglmhaaGreatDoor

-- Plain facts and walks that the law's proof uses; each says its own conditions.
namespace Go.Proofs.YtpeiolimdglmhaaGreatDoor
open Go.RowKit
set_option maxRecDepth 100000

/-- block b, from lo on, is a reader that has been asked p times; its code lies below lo -/
def Rdr (w : World) (lo b p : Nat) : Prop :=
  lo ≤ b ∧ ∃ A n c, n ≤ 2000 ∧ Blk w b 95 #[.slice A n c, .int .i64 p] ∧ RdB w A n ∧ (0 < n → ∀ x off, A = some ⟨x, off, none⟩ → x < lo)
theorem Rdr.lt {w : World} {lo b p : Nat} (h : Rdr w lo b p) : b < w.heap.size := by
  obtain ⟨_, A, n, c, _, h, _⟩ := h; exact h.lt
theorem Rdr.next {w w' : World} {lo b p : Nat} (h : Rdr w lo b p) (hb : Below w.heap.size w w') : Rdr w' lo b p := by
  obtain ⟨h0, A, n, c, h1, h2, h3, h4⟩ := h
  exact ⟨h0, A, n, c, h1, h2.next hb, h3.next hb, h4⟩
theorem Rdr.wr {w w' : World} {lo lo' hi b p : Nat} (h : Rdr w lo b p) (k : Wr lo' hi w w') (hl : b < lo' ∨ hi ≤ b) (h2 : lo ≤ lo') : Rdr w' lo b p := by
  obtain ⟨h0, A, n, c, h1, hb, h3, h4⟩ := h
  refine ⟨h0, A, n, c, h1, hb.wr k hl, ?_, h4⟩
  obtain ⟨row, k, hr⟩ := k
  by_cases hn : 0 < n
  · refine h3.keep k.size (fun x off e j => ?_)
    refine World.cell?_of_block (k.block x ?_ (fun e' => ?_))
    · have := h4 hn x off e; have := hb.lt; omega
    · have := hr x e'.symm; have := h4 hn x off e; omega
  · exact fun h => absurd h hn

set_option maxHeartbeats 400000 in
theorem l6Open_c (A : Option Addr) (n c : Nat) (w : World) (hr : RdB w A n) (hn : n ≤ 1048576) (hc : n ≤ c) :
    Calls Tryz.prog 36 #[.slice A n c] w fun e w' => ∃ b, e = .returned (.pointer (some ⟨b, 0, none⟩)) ∧ Rdr w' w.heap.size b 0 ∧ Below w.heap.size w w' := by
  by_cases h : 2000 < n
  · obtain ⟨b, off, rfl, hb, hcc⟩ := hr (by omega)
    go_enter Tryz.func36, Tryz.ntmps36
    go_wp2
    go_ret
    refine ⟨_, rfl, ⟨Nat.le_refl _, _, 2000, c, Nat.le_refl _, Blk.new _ _ _, ?_, ?_⟩, by (repeat (first | exact Below.refl _ _ | assumption | refine lo_alloc ?_ _ | refine lo_set ?_ (by simp; try omega) _ | refine Below.drew ?_ | refine below_drewN ?_ _ | refine lo_trans ?_ (by assumption) | refine lo_wr ?_ (by assumption) (by omega)))⟩
    · exact RdB.next (w := w) (fun _ => ⟨b, off, rfl, hb, fun k hk => hcc k (by omega)⟩) (by (repeat (first | exact Below.refl _ _ | assumption | refine lo_alloc ?_ _ | refine lo_set ?_ (by simp; try omega) _ | refine Below.drew ?_ | refine below_drewN ?_ _ | refine lo_trans ?_ (by assumption) | refine lo_wr ?_ (by assumption) (by omega))))
    · rintro _ x off' ⟨⟩; exact hb
  · go_enter Tryz.func36, Tryz.ntmps36
    go_wp2
    go_ret
    refine ⟨_, rfl, ⟨Nat.le_refl _, _, n, c, by omega, Blk.new _ _ _, hr.next (by (repeat (first | exact Below.refl _ _ | assumption | refine lo_alloc ?_ _ | refine lo_set ?_ (by simp; try omega) _ | refine Below.drew ?_ | refine below_drewN ?_ _ | refine lo_trans ?_ (by assumption) | refine lo_wr ?_ (by assumption) (by omega)))), ?_⟩, by (repeat (first | exact Below.refl _ _ | assumption | refine lo_alloc ?_ _ | refine lo_set ?_ (by simp; try omega) _ | refine Below.drew ?_ | refine below_drewN ?_ _ | refine lo_trans ?_ (by assumption) | refine lo_wr ?_ (by assumption) (by omega)))⟩
    rintro h0 x off rfl
    obtain ⟨b, off', e, hb, _⟩ := hr h0
    injection e with e; injection e with e1; omega

def SomeNat (m : Int) (w : World) (lo b p : Nat) (e : Ending) (w' : World) : Prop :=
  ∃ x : Nat, e = .returned (.int .i64 x) ∧ (1 ≤ m → (x : Int) < m) ∧ w.grownBy w' (some b) ∧ Rdr w' lo b (p + 1)

theorem Rdr.put {w : World} {lo b p : Nat} {A : Option Addr} {n c : Nat} (h0 : lo ≤ b) (hn : n ≤ 2000) (hb : Blk w b 95 #[.slice A n c, .int .i64 p]) (hr : RdB w A n) (hA : 0 < n → ∀ x off, A = some ⟨x, off, none⟩ → x < lo) (q : Nat) :
    Rdr (w.setCell ⟨b, 1, none⟩ (.int .i64 q)) lo b q ∧ w.grownBy (w.setCell ⟨b, 1, none⟩ (.int .i64 q)) (some b) := by
  refine ⟨⟨h0, A, n, c, hn, by simpa using hb.set_ 1 (.int .i64 q), ?_, hA⟩, grown_set _⟩
  by_cases h1 : 0 < n
  case neg => exact fun h => absurd h h1
  refine hr.keep (by simp [World.setCell]) (fun x off e k => ?_)
  have := hA h1 x off e
  exact World.cell?_setCell_other _ _ _ _ (fun e' => by injection e' with e'; omega)

set_option maxHeartbeats 1000000 in
theorem pick_c (lo b p : Nat) (m : Int) (w : World) (h : Rdr w lo b p) (hp : p ≤ 1000000) :
    Calls Tryz.prog 75 #[.pointer (some ⟨b, 0, none⟩), .int .i64 m] w (SomeNat m w lo b p) := by
  obtain ⟨h0, A, n, c, hn, hb, hr, hA⟩ := h
  have hz := hb.lt
  have c0 := hb.cell 0
  have c1 := hb.cell 1
  have f1 := hb.frozen 1
  have hput := Lib.hid (Rdr.put h0 hn hb hr hA (p + 1))
  by_cases hm : m < 1
  · go_enter Tryz.func75, Tryz.ntmps75
    go_wp2
    go_ret
    exact ⟨0, rfl, fun h => absurd h (by omega), by have := hput.out.2; simpa using this, by have := hput.out.1; simpa using this⟩
  by_cases hn0 : n = 0
  · subst hn0
    go_enter Tryz.func75, Tryz.ntmps75
    go_wp2
    go_ret
    exact ⟨0, rfl, fun h => by omega, by have := hput.out.2; simpa using this, by have := hput.out.1; simpa using this⟩
  have hn1 : 1 ≤ n := by omega
  obtain ⟨x, off, rfl, hx, hcc⟩ := hr (by omega)
  by_cases hpn : p < n
  · obtain ⟨v, v1, v2, hv⟩ := hcc p hpn
    have hne : x ≠ b := by have := hA (by omega) x off rfl; omega
    have hn0' : ((n : Int) == 0) = false := by simp; omega
    clear hn0
    go_enter Tryz.func75, Tryz.ntmps75
    go_wp2
    go_ret
    have h1 := Int.emod_nonneg v (show m ≠ 0 by omega)
    have h2 := Int.emod_lt_of_pos v (show 0 < m by omega)
    exact ⟨(v % m).toNat, by rw [Int.toNat_of_nonneg h1]; rfl, fun _ => by omega, by have := hput.out.2; simpa using this, by have := hput.out.1; simpa using this⟩
  · obtain ⟨v, v1, v2, hv⟩ := hcc (p % n) (Nat.mod_lt _ (by omega))
    obtain ⟨u, u1, u2, hu⟩ := hcc ((p * 7 + 3) % n) (Nat.mod_lt _ (by omega))
    have hne : x ≠ b := by have := hA (by omega) x off rfl; omega
    have hn0' : ((n : Int) == 0) = false := by simp; omega
    have q1 : (p : Int).tmod n = ((p % n : Nat) : Int) := by rw [Int.tmod_eq_emod_of_nonneg (by omega)]; simp
    have q2 : ((p : Int) * 7 + 3).tmod n = (((p * 7 + 3) % n : Nat) : Int) := by rw [Int.tmod_eq_emod_of_nonneg (by omega)]; simp
    have q3 : (p : Int).tdiv n = ((p / n : Nat) : Int) := by rw [Int.tdiv_eq_ediv_of_nonneg (by omega)]; simp
    have r1 : p % n < n := Nat.mod_lt _ (by omega)
    have r2 : (p * 7 + 3) % n < n := Nat.mod_lt _ (by omega)
    have r3 : p / n ≤ p := Nat.div_le_self _ _
    generalize p % n = i1 at hv q1 r1
    generalize (p * 7 + 3) % n = i2 at hu q2 r2
    generalize p / n = i3 at q3 r3
    have s1 : (0 : Int) ≤ i1 := by omega
    have s2 : (0 : Int) ≤ i2 := by omega
    have s3 : (i1 : Int) < n := by omega
    have s4 : (i2 : Int) < n := by omega
    have w1 : IntKind.i64.wrap ((p : Int) * 7) = (p : Int) * 7 := IntWalk.i64_in _ (by omega)
    have w2 : IntKind.i64.wrap ((p : Int) * 7 + 3) = (p : Int) * 7 + 3 := IntWalk.i64_in _ (by omega)
    have w3 : IntKind.i64.wrap (v * 131) = v * 131 := IntWalk.i64_in _ (by omega)
    have w4 : IntKind.i64.wrap (u * 1117) = u * 1117 := IntWalk.i64_in _ (by omega)
    have w5 : IntKind.i64.wrap (v * 131 + u * 1117) = v * 131 + u * 1117 := IntWalk.i64_in _ (by omega)
    have w6 : IntKind.i64.wrap ((p : Int) * 29) = (p : Int) * 29 := IntWalk.i64_in _ (by omega)
    have w7 : IntKind.i64.wrap (v * 131 + u * 1117 + (p : Int) * 29) = v * 131 + u * 1117 + (p : Int) * 29 := IntWalk.i64_in _ (by omega)
    have w8 : IntKind.i64.wrap ((i3 : Int) * 53) = (i3 : Int) * 53 := IntWalk.i64_in _ (by omega)
    have w9 : IntKind.i64.wrap (v * 131 + u * 1117 + (p : Int) * 29 + (i3 : Int) * 53) = v * 131 + u * 1117 + (p : Int) * 29 + (i3 : Int) * 53 := IntWalk.i64_in _ (by omega)
    clear hn0
    go_enter Tryz.func75, Tryz.ntmps75
    go_wp2
    go_quiet (fail)
    clear q1 q2 q3 w1 w2 w3 w4 w5 w6 w7 w8 w9
    obtain ⟨Y, hY⟩ := Int.eq_ofNat_of_zero_le (show 0 ≤ v * 131 + u * 1117 + (p : Int) * 29 + (i3 : Int) * 53 by omega)
    have hYb : Y < 1000000000 := by omega
    rw [hY]
    have hd : (Y : Int) / 64 = ((Y / 64 : Nat) : Int) := by simp
    have hxor : bits .xor .i64 (Y : Int) ((Y : Int) / 64) = ((Y ^^^ Y / 64 : Nat) : Int) := by
      rw [hd]; exact i64_xor_nat _ _ (by omega) (by omega)
    clear hY hd s1 s2 s3 s4 hv hu
    generalize Y ^^^ Y / 64 = Z at hxor
    go_wp2
    go_ret
    have h1 := Int.emod_nonneg (Z : Int) (show m ≠ 0 by omega)
    have h2 := Int.emod_lt_of_pos (Z : Int) (show 0 < m by omega)
    refine ⟨((Z : Int) % m).toNat, by rw [Int.toNat_of_nonneg h1]; rfl, fun _ => by omega, ?_, ?_⟩
    · have := hput.out.2; simp only [Int.natCast_add, Int.cast_ofNat_Int] at this
      exact grown_trans this (grown_of_below (below_drewN (Below.refl _ _) _) _)
    · have := hput.out.1; simp only [Int.natCast_add, Int.cast_ofNat_Int] at this
      exact this.next (below_drewN (Below.refl _ _) _)
end Go.Proofs.YtpeiolimdglmhaaGreatDoor

-- Walks: drawn weights.
namespace Go.Proofs.YtpeiolimdglmhaaGreatDoor
open Go.RowKit
set_option maxRecDepth 100000

theorem Rdr.grown {w w' : World} {lo b p x : Nat} (h : Rdr w lo b p) (k : w.grownBy w' (some x)) (hx : b < x) : Rdr w' lo b p :=
  h.wr (lo' := x) (hi := x + 1) ⟨_, k, fun g e => by injection e; omega⟩ (.inl hx) (by have := h.1; omega)
theorem Rdr.grownA {w w' : World} {lo b p : Nat} {row : Option Nat} (h : Rdr w lo b p) (k : w.grownBy w' row) (hx : ∀ g, row = some g → b < g) : Rdr w' lo b p := by
  cases row with
  | none => exact h.next ⟨k.os, k.tape, k.output, k.size, fun i hi => k.block i hi (by simp)⟩
  | some x => exact h.grown k (hx x rfl)
/-- two steps: the one writes block b alone, the other a block from base on -/
theorem grown_over {a w w' : World} {b : Nat} {row : Option Nat} (h : a.grownBy w (some b)) (k : w.grownBy w' row) (hr : ∀ g, row = some g → a.heap.size ≤ g) : a.grownBy w' (some b) :=
  ⟨k.os.trans h.os, k.tape.trans h.tape, k.output.trans h.output, Nat.le_trans h.size k.size, fun i hi hne => (k.block i (Nat.lt_of_lt_of_le hi h.size) (fun e => by have := hr i e.symm; omega)).trans (h.block i hi hne)⟩
theorem rowA_ge {w : World} {base : Nat} {A : Option Addr} {c : Nat} {xs : List Int} (h : Buf w base A c xs) : ∀ g, rowA A = some g → base ≤ g := by
  intro g hg
  rcases h.form with ⟨rfl, _⟩ | ⟨g', cs, rfl, hb, _⟩
  · cases hg
  · injection hg with hg; subst hg; exact hb

theorem rowA_at {w : World} {base : Nat} {A : Option Addr} {c : Nat} {xs : List Int} (h : Buf w base A c xs) : ∀ g, rowA A = some g → A = some ⟨g, 0, none⟩ := by
  intro g hg
  rcases h.form with ⟨rfl, _⟩ | ⟨g', cs, rfl, hb, _⟩
  · cases hg
  · injection hg with hg; subst hg; rfl

end Go.Proofs.YtpeiolimdglmhaaGreatDoor

-- Walks: a copy of a slice of integers.
namespace Go.Proofs.YtpeiolimdglmhaaGreatDoor
open Go.RowKit

set_option maxHeartbeats 1000000 in
theorem Clone_c2 (A : Option Addr) (n c : Nat) (xs : List Int) (w : World) (hr : Rd w A n xs) (hn0 : 0 < n) (hn : n ≤ 1048576) :
    Calls Tryz.prog 67 #[.slice A n c] w fun e w' => ∃ g c', e = .returned (.slice (some ⟨g, 0, none⟩) n c') ∧ Below w.heap.size w w' ∧ Own w' w.heap.size (some ⟨g, 0, none⟩) n xs ∧ n ≤ c' ∧ c' ≤ maxLen := by
  obtain ⟨b, off, rfl, hb, hcc⟩ := hr.2 hn0
  have hnil := fun w' => Lib.run_eql_slice_nil (P := Tryz.prog) w' 23 3 (some ⟨b, off, none⟩) n c 0 0 Tryz.underlying23
  have hB0 : Buf (w.alloc (.cells #[] 3)) w.heap.size (some ⟨w.heap.size, 0, none⟩) 0 [] := Buf.lit w w.heap.size [] (Nat.le_refl _) (Nat.zero_le _)
  have hrd : Rd (w.alloc (.cells #[] 3)) (some ⟨b, off, none⟩) n xs := hr.alloc _
  go_enter Tryz.func67, Tryz.ntmps67
  go_wp2_with (at_builtin; refine (wpl_append rfl _ _ rfl w.heap.size _ 0 0 [] rfl rfl hB0 _ n c xs rfl hrd hn0 (by omega) (by simp) ?_); intro g c' w4 hB4 hg4 hat)
  go_ret
  have h1 := hB4.own
  simp only [List.nil_append, hr.1] at h1
  have hcap : n ≤ c' ∧ c' ≤ maxLen := by
    rcases hB4.2 with ⟨hv, _⟩ | ⟨g', cap, cur, hv, _, _, h3, h4, _⟩
    · cases hv
    · injection hv with _ _ h5
      subst h5
      simp only [List.nil_append, hr.1] at h3
      exact ⟨h3, h4⟩
  refine ⟨g, c', by simp, ?_, h1, hcap⟩
  exact lo_grown (lo_alloc (Below.refl w.heap.size w) (.cells #[] 3)) hg4 (fun g hg => rowA_ge hB0 g hg)

set_option maxHeartbeats 1000000 in
theorem Clone_buf (A : Option Addr) (n c : Nat) (xs : List Int) (w : World) (hr : Rd w A n xs) (hn0 : 0 < n) (hn : n ≤ 1048576) :
    Calls Tryz.prog 67 #[.slice A n c] w fun e w' => ∃ g c', e = .returned (.slice (some ⟨g, 0, none⟩) n c') ∧ Below w.heap.size w w' ∧ Buf w' w.heap.size (some ⟨g, 0, none⟩) c' xs := by
  obtain ⟨b, off, rfl, hb, hcc⟩ := hr.2 hn0
  have hnil := fun w' => Lib.run_eql_slice_nil (P := Tryz.prog) w' 23 3 (some ⟨b, off, none⟩) n c 0 0 Tryz.underlying23
  have hB0 : Buf (w.alloc (.cells #[] 3)) w.heap.size (some ⟨w.heap.size, 0, none⟩) 0 [] := Buf.lit w w.heap.size [] (Nat.le_refl _) (Nat.zero_le _)
  have hrd : Rd (w.alloc (.cells #[] 3)) (some ⟨b, off, none⟩) n xs := hr.alloc _
  go_enter Tryz.func67, Tryz.ntmps67
  go_wp2_with (at_builtin; refine (wpl_append rfl _ _ rfl w.heap.size _ 0 0 [] rfl rfl hB0 _ n c xs rfl hrd hn0 (by omega) (by simp) ?_); intro g c' w4 hB4 hg4 hat)
  go_ret
  rw [List.nil_append] at hB4
  refine ⟨g, c', by simp, ?_, hB4⟩
  exact lo_grown (lo_alloc (Below.refl w.heap.size w) (.cells #[] 3)) hg4 (fun g hg => rowA_ge hB0 g hg)

theorem Clone_c (A : Option Addr) (n c : Nat) (xs : List Int) (w : World) (hr : Rd w A n xs) (hn0 : 0 < n) (hn : n ≤ 1048576) :
    Calls Tryz.prog 67 #[.slice A n c] w fun e w' => ∃ g c', e = .returned (.slice (some ⟨g, 0, none⟩) n c') ∧ Below w.heap.size w w' ∧ Own w' w.heap.size (some ⟨g, 0, none⟩) n xs :=
  (Clone_c2 A n c xs w hr hn0 hn).mono fun _ _ ⟨g, c', h1, h2, h3, _⟩ => ⟨g, c', h1, h2, h3⟩
end Go.Proofs.YtpeiolimdglmhaaGreatDoor
