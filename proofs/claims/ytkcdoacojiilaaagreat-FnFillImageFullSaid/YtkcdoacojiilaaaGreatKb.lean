
/- Plain facts and walks that the law's proof uses; each says its own conditions. -/
import Derived.Test.YtkcdoacojiilaaaGreatProg
import Derived.Test.YtkcdoacojiilaaaGreatKa
import Derived.Outline
import Derived.IntWalk
import Derived.Deep.QuietTactic
import Derived.BigQuiet
import Derived.Maps.AppendAt
import Derived.OwnWalk
-- Walks: small functions over slices of integers, and over images by value.
namespace Go.Proofs.YtkcdoacojiilaaaGreat
open Go.RowKit
set_option maxRecDepth 100000

theorem info3 : (Tryz.prog.info? 3).map (fun i => (i.zero, i.size, i.bytes)) = some (some (.int .i64 0), 1, 8) := by kernel_rfl

theorem make_row (n : Nat) (hn : n ≤ 1073741824) : ∀ u : World, (Instr.makeSlice 23 (.int .i64 (n : Int)) (.int .i64 (n : Int))).run Tryz.prog u =
      .ok (.slice (some ⟨u.heap.size, 0, none⟩) n n) (u.alloc (.cells (madeCells #[.int .i64 0] n) 3)) := fun u => by
  obtain ⟨i0, hi, hz0, hz1, hz2⟩ := info_parts info3
  have h := run_make (P := Tryz.prog) u 23 3 i0 (.int .i64 0) Tryz.underlying23 hi hz0 .i64 .i64 (n : Int) (n : Int) (by omega) (Int.le_refl _) (by rw [hz2]; omega) (by omega)
  simpa [hz1, Value.cells] using h

theorem copy_step (xs : List Int) (n k : Nat) (hx : xs.length = n) (hk : k < n) : (xs.take k ++ List.replicate (n - k) 0).set k (xs[k]?.getD 0) = xs.take (k + 1) ++ List.replicate (n - (k + 1)) 0 := by
  have hl : k < xs.length := by omega
  have e : n - k = (n - (k + 1)) + 1 := by omega
  rw [e, List.replicate_succ, List.set_append_right _ _ (by simp; omega), List.take_succ_eq_append_getElem hl]
  simp [List.length_take, Nat.min_eq_left (Nat.le_of_lt hl), List.getElem?_eq_getElem hl]
  rw [List.append_cons]; simp

/-- k, k+1, .. -/
def iota (k : Int) (n : Nat) : List Int := (List.range n).map (fun i : Nat => k + (i : Int))
theorem iota_get (k : Int) (n i : Nat) (h : i < n) : (iota k n)[i]?.getD 0 = k + i := by simp [iota, h]
theorem iota_len (k : Int) (n : Nat) : (iota k n).length = n := by simp [iota]
theorem take_drop_set (ys xs : List Int) (i : Nat) (v : Int) (hx : i < xs.length) (hv : ys[i]? = some v) : (ys.take i ++ xs.drop i).set i v = ys.take (i + 1) ++ xs.drop (i + 1) := by
  have hm : i < ys.length := by
    rcases Nat.lt_or_ge i ys.length with h | h
    · exact h
    · rw [List.getElem?_eq_none h] at hv; cases hv
  have hv' : ys[i] = v := by rw [List.getElem?_eq_getElem hm] at hv; injection hv
  have hl : (ys.take i).length = i := by rw [List.length_take]; omega
  rw [List.set_append_right _ _ (by omega), hl, Nat.sub_self, List.drop_eq_getElem_cons hx, List.set_cons_zero, List.take_succ_eq_append_getElem hm, hv', List.append_assoc]
  rfl
theorem iota_step (k : Int) (n i : Nat) (xs : List Int) (hx : xs.length = n) (h : i < n) : ((iota k n).take i ++ xs.drop i).set i (k + i) = (iota k n).take (i + 1) ++ xs.drop (i + 1) :=
  take_drop_set _ _ _ _ (by omega) (by simp [iota, h])

end Go.Proofs.YtkcdoacojiilaaaGreat

-- A slice of integers of one's own that is appended to.
namespace Go.Proofs.YtkcdoacojiilaaaGreat
open Go.RowKit
set_option maxRecDepth 100000

/-- the slice at A with capacity c is a row of one's own, from block base on, and holds xs -/
def Buf (w : World) (base : Nat) (A : Option Addr) (c : Nat) (xs : List Int) : Prop := w.ownsRow base 3 1 (.slice A xs.length c) xs.length (xs.map (Value.int .i64))

section
variable {w w' : World} {base : Nat} {A : Option Addr} {c : Nat} {xs : List Int}
theorem Buf.form (h : Buf w base A c xs) : (A = none ∧ xs = []) ∨ ∃ g cs, A = some ⟨g, 0, none⟩ ∧ base ≤ g ∧ Blk w g 3 cs ∧ ∀ (k : Nat) (x : Int), xs[k]? = some x → cs[k]? = some (.int .i64 x) := by
  rcases h.2 with ⟨hv, hn⟩ | ⟨g, cap, cur, hv, hb, hh, hn, hm, hs, ht⟩
  · injection hv with h1 h2 h3
    exact .inl ⟨h1, List.eq_nil_of_length_eq_zero h2⟩
  · injection hv with h1 h2 h3
    refine .inr ⟨g, cur, h1, hb, hh, fun k x hx => ?_⟩
    have hk : k < xs.length := by
      rcases Nat.lt_or_ge k xs.length with h | h
      · exact h
      · rw [List.getElem?_eq_none h] at hx; cases hx
    have e : (cur.toList.take (xs.length * 1))[k]? = (xs.map (Value.int .i64))[k]? := by rw [ht]
    rw [List.getElem?_take, if_pos (by omega), List.getElem?_map, hx] at e
    simpa using e
theorem Buf.own (h : Buf w base A c xs) : Own w base A xs.length xs := by
  refine ⟨rfl, fun hn => ?_⟩
  rcases h.form with ⟨_, rfl⟩ | ⟨g, cs, e, hb, hk, hx⟩
  · simp at hn
  · exact ⟨g, cs, e, hb, hk, hx⟩
theorem Buf.kept (h : Buf w base A c xs) {row : Option Nat} (hg : w.grownBy w' row) (hne : ∀ g, A = some ⟨g, 0, none⟩ → row ≠ some g) : Buf w' base A c xs := by
  refine World.ownsRow.kept h hg ?_
  rcases h.form with ⟨rfl, _⟩ | ⟨g, cs, rfl, _⟩
  · exact .inl rfl
  · exact .inr (fun e => hne g rfl e.symm)
theorem Buf.next (h : Buf w base A c xs) (hb : Below w.heap.size w w') : Buf w' base A c xs := h.kept (grown_of_below hb none) (fun _ _ e => by cases e)
theorem Buf.nil_ (w : World) (base : Nat) : Buf w base none 0 [] := World.ownsRow_nil _ _ _ _
theorem Buf.lt (h : Buf w base A c xs) : ∀ g, A = some ⟨g, 0, none⟩ → base ≤ g ∧ g < w.heap.size := by
  rintro g rfl
  rcases h.form with ⟨e, _⟩ | ⟨g', cs, e, hb, hk, _⟩
  · cases e
  · injection e with e; injection e with e; subst e
    exact ⟨hb, hk.lt⟩
theorem Buf.lit (w : World) (base : Nat) (xs : List Int) (hb : base ≤ w.heap.size) (hn : xs.length ≤ maxLen) : Buf (w.alloc (.cells (ints xs) 3)) base (some ⟨w.heap.size, 0, none⟩) xs.length xs := by
  have h := World.ownsRow_lit (e := 3) (size := 1) (base := base) w (ints xs) xs.length hb hn (by simp [ints])
  simpa [Buf, ints] using h
end

/-- the block that an append may write -/
def rowA (A : Option Addr) : Option Nat := A.map (·.block)

theorem wpl_append {ops : Array Oper} {rest : List Oper} {o : Oper} {a : Act} {Q : Exit → Act → World → Prop} {w : World} (hgd : o.guard = none) (s x : Operand)
    (ho : o.op = .call { callee := .builtin .append, args := #[s, x], argTypes := #[23, 23] })
    (base : Nat) (A : Option Addr) (c n : Nat) (xs : List Int) (hs : a.eval s = .slice A n c) (hn : n = xs.length) (hb : Buf w base A c xs)
    (B : Option Addr) (m d : Nat) (ys : List Int) (hx : a.eval x = .slice B m d) (hr : Rd w B m ys) (hm0 : 0 < m) (hlen : n + m ≤ 1048576) (hbase : base ≤ w.heap.size)
    (h : ∀ g c' w', Buf w' base (some ⟨g, 0, none⟩) c' (xs ++ ys) → w.grownBy w' (rowA A) → (A = some ⟨g, 0, none⟩ ∨ g = w.heap.size) → wpList Tryz.prog ops Q rest (a.put o.dst (.slice (some ⟨g, 0, none⟩) (n + m) c')) w') : wpList Tryz.prog ops Q (o :: rest) a w := by
  obtain ⟨i0, hi, hz0, hz1, hz2⟩ := info_parts info3
  obtain ⟨b, off, rfl, _, hc⟩ := hr.2 hm0
  subst hn
  refine wpList_append_own_at w hgd s x 23 ho base 3 i0 (.int .i64 0) 1 8 Tryz.underlying23 hi hz0 hz1 hz2 rfl (by decide) _ xs.length _ hs hb ⟨b, off, none⟩ m d (ys.map (Value.int .i64)) hx (by simp [hr.1]) ?_ (by simp [Value.oneCell']) (by unfold maxLen; omega) (by omega) hbase ?_
  · intro j u hu
    rw [List.getElem?_map, Option.map_eq_some_iff] at hu
    obtain ⟨y, hy, rfl⟩ := hu
    rw [Go.WideShapes.add_plain]
    exact hc j y hy
  · intro v' w' hown hg _ hat
    rcases hown.2 with ⟨hv, hn⟩ | ⟨g, cap, cur, rfl, hb', hh, hn, hm, hsz, ht⟩
    · omega
    · refine h g cap w' ?_ (by cases A <;> exact hg) ?_
      · have e : (xs ++ ys).length = xs.length + m := by rw [List.length_append, hr.1]
        unfold Buf
        rw [e, List.map_append]
        exact hown
      · rcases hat with h1 | h1
        · cases A with
          | none => simp [Value.ownBlock] at h1
          | some a =>
            rcases hb.form with ⟨e, _⟩ | ⟨g', cs, e, _⟩
            · cases e
            · injection e with e; subst e
              simp [Value.ownBlock] at h1
              exact .inl (by rw [h1])
        · simp [Value.ownBlock] at h1
          exact .inr h1
end Go.Proofs.YtkcdoacojiilaaaGreat

-- Slices of images.
namespace Go.Proofs.YtkcdoacojiilaaaGreat
open Go.RowKit
set_option maxRecDepth 100000

theorem infoImg : ((Tryz.prog.info? 27).map fun i => (i.zero, i.size, i.bytes)) = some (some (.agg #[.int .i64 0, .slice none 0 0]), 2, 32) := by kernel_rfl

/-- an image as an element of a slice -/
structure El where
  W : Int
  A : Option Addr
  c : Nat
  xs : List Int
def El.cells (e : El) : List Value := [.int .i64 e.W, .slice e.A e.xs.length e.c]
def elCells (es : List El) : List Value := es.flatMap El.cells
theorem elCells_len (es : List El) : (elCells es).length = es.length * 2 := by
  induction es with
  | nil => rfl
  | cons e es ih =>
    have e1 : elCells (e :: es) = e.cells ++ elCells es := rfl
    rw [e1, List.length_append, ih, List.length_cons]; simp [El.cells]; omega
theorem elCells_snoc (es : List El) (e : El) : elCells (es ++ [e]) = elCells es ++ e.cells := by simp [elCells, List.flatMap_append]
theorem elCells_get : ∀ {es : List El} {k : Nat} {e : El}, es[k]? = some e → (elCells es)[2 * k]? = some (.int .i64 e.W) ∧ (elCells es)[2 * k + 1]? = some (.slice e.A e.xs.length e.c)
  | e' :: es, 0, e, h => by
    simp at h; subst h; exact ⟨rfl, rfl⟩
  | e' :: es, k + 1, e, h => by
    have e1 : elCells (e' :: es) = .int .i64 e'.W :: .slice e'.A e'.xs.length e'.c :: elCells es := rfl
    have := elCells_get (es := es) (k := k) (e := e) (by simpa using h)
    rw [e1, show 2 * (k + 1) = 2 * k + 1 + 1 by omega, List.getElem?_cons_succ, List.getElem?_cons_succ, List.getElem?_cons_succ, List.getElem?_cons_succ]
    exact this
theorem elCells_one (es : List El) : ∀ u ∈ elCells es, u.oneCell' = true := by
  intro u hu
  simp only [elCells, List.mem_flatMap, El.cells, List.mem_cons, List.not_mem_nil, or_false] at hu
  obtain ⟨e, _, rfl | rfl⟩ := hu <;> rfl

/-- the slice at A of n images can be read -/
def RdI (w : World) (A : Option Addr) (n : Nat) (es : List El) : Prop :=
  es.length = n ∧ (0 < n → ∃ b off, A = some ⟨b, off, none⟩ ∧ b < w.heap.size ∧ ∀ k e, es[k]? = some e → w.cell? ⟨b, off + 2 * k, none⟩ = some (.int .i64 e.W) ∧ w.cell? ⟨b, off + 2 * k + 1, none⟩ = some (.slice e.A e.xs.length e.c)) ∧
  ∀ e ∈ es, Rd w e.A e.xs.length e.xs

section
variable {w w' : World} {base : Nat} {A : Option Addr} {n c : Nat} {es : List El}
theorem RdI.next (h : RdI w A n es) (hb : Below w.heap.size w w') : RdI w' A n es :=
  ⟨h.1, fun hn => by
    obtain ⟨b, off, e, h1, h2⟩ := h.2.1 hn
    have hs := hb.size
    exact ⟨b, off, e, by omega, fun k e he => ⟨(hb.cell (p := ⟨b, off + 2 * k, none⟩) h1).trans (h2 k e he).1, (hb.cell (p := ⟨b, off + 2 * k + 1, none⟩) h1).trans (h2 k e he).2⟩⟩, fun e he => (h.2.2 e he).next hb⟩
theorem RdI.alloc (h : RdI w A n es) (o : Obj) : RdI (w.alloc o) A n es := h.next ((Below.refl _ _).alloc (Nat.le_refl _) o)
theorem RdI.at_ {k : Nat} {e : El} (h : RdI w A n es) (hk : k < n) (he : es[k]? = some e) : ∃ b off, A = some ⟨b, off, none⟩ ∧ b < w.heap.size ∧ w.cell? ⟨b, off + 2 * k, none⟩ = some (.int .i64 e.W) ∧
    w.cell? ⟨b, off + 2 * k + 1, none⟩ = some (.slice e.A e.xs.length e.c) ∧ Rd w e.A e.xs.length e.xs := by
  obtain ⟨b, off, e1, h1, h2⟩ := h.2.1 (by omega)
  exact ⟨b, off, e1, h1, (h2 k e he).1, (h2 k e he).2, h.2.2 e (List.mem_of_getElem? he)⟩

/-- a slice of one's own that holds images -/
def BufI (w : World) (base : Nat) (A : Option Addr) (c : Nat) (es : List El) : Prop := w.ownsRow base 27 2 (.slice A es.length c) es.length (elCells es)
theorem BufI.form (h : BufI w base A c es) : (A = none ∧ es = []) ∨ ∃ g cs, A = some ⟨g, 0, none⟩ ∧ base ≤ g ∧ Blk w g 27 cs ∧ ∀ (k : Nat) (x : Value), (elCells es)[k]? = some x → cs[k]? = some x := by
  rcases h.2 with ⟨hv, hn⟩ | ⟨g, cap, cur, hv, hb, hh, hn, hm, hs, ht⟩
  · injection hv with h1 h2 h3
    exact .inl ⟨h1, List.eq_nil_of_length_eq_zero h2⟩
  · injection hv with h1 h2 h3
    refine .inr ⟨g, cur, h1, hb, hh, fun k x hx => ?_⟩
    have hk : k < es.length * 2 := by
      have := (List.getElem?_eq_some_iff.1 hx).1
      rwa [elCells_len] at this
    have e : (cur.toList.take (es.length * 2))[k]? = (elCells es)[k]? := by rw [ht]
    rw [List.getElem?_take, if_pos (by omega), hx] at e
    simpa using e
theorem BufI.kept (h : BufI w base A c es) {row : Option Nat} (hg : w.grownBy w' row) (hne : ∀ g, A = some ⟨g, 0, none⟩ → row ≠ some g) : BufI w' base A c es := by
  refine World.ownsRow.kept h hg ?_
  rcases h.form with ⟨rfl, _⟩ | ⟨g, cs, rfl, _⟩
  · exact .inl rfl
  · exact .inr (fun e => hne g rfl e.symm)
theorem BufI.next (h : BufI w base A c es) (hb : Below w.heap.size w w') : BufI w' base A c es := h.kept (grown_of_below hb none) (fun _ _ e => by cases e)
theorem BufI.nil_ (w : World) (base : Nat) : BufI w base none 0 [] := World.ownsRow_nil _ _ _ _
theorem BufI.lt (h : BufI w base A c es) : ∀ g, A = some ⟨g, 0, none⟩ → base ≤ g ∧ g < w.heap.size := by
  rintro g rfl
  rcases h.form with ⟨e, _⟩ | ⟨g', cs, e, hb, hk, _⟩
  · cases e
  · injection e with e; injection e with e; subst e
    exact ⟨hb, hk.lt⟩
theorem BufI.addr (h : BufI w base A c es) : A = none ∨ ∃ g, A = some ⟨g, 0, none⟩ := by
  rcases h.form with ⟨e, _⟩ | ⟨g', cs, e, _⟩
  · exact .inl e
  · exact .inr ⟨_, e⟩
theorem BufI.rd (h : BufI w base A c es) (hr : ∀ e ∈ es, Rd w e.A e.xs.length e.xs) : RdI w A es.length es := by
  refine ⟨rfl, fun hn => ?_, hr⟩
  rcases h.form with ⟨_, rfl⟩ | ⟨g, cs, e, hb, hk, hx⟩
  · simp at hn
  · refine ⟨g, 0, e, hk.lt, fun k e' he => ?_⟩
    have := elCells_get he
    rw [Nat.zero_add]
    exact ⟨(hk.cell _).trans (hx _ _ this.1), (hk.cell _).trans (hx _ _ this.2)⟩

/-- a slice of images of one's own: each in memory of its own -/
structure OwnI (w : World) (base : Nat) (A : Option Addr) (c : Nat) (es : List El) : Prop where
  buf : BufI w base A c es
  rows : ∀ e ∈ es, Own w base e.A e.xs.length e.xs ∧ 0 < e.xs.length
  far : (es.map (·.A)).Nodup
  apart : A ∉ es.map (·.A)
theorem OwnI.rdI (h : OwnI w base A c es) : RdI w A es.length es := h.buf.rd (fun e he => (h.rows e he).1.rd)
theorem OwnI.next (h : OwnI w base A c es) (hb : Below w.heap.size w w') : OwnI w' base A c es :=
  ⟨h.buf.next hb, fun e he => ⟨(h.rows e he).1.next hb, (h.rows e he).2⟩, h.far, h.apart⟩
theorem OwnI.alloc (h : OwnI w base A c es) (o : Obj) : OwnI (w.alloc o) base A c es := h.next ((Below.refl _ _).alloc (Nat.le_refl _) o)
theorem OwnI.nil_ (w : World) (base : Nat) : OwnI w base none 0 [] := ⟨BufI.nil_ _ _, fun _ h => (by cases h), List.nodup_nil, by simp⟩
end

theorem OwnI.snoc {w w' : World} {base g c' : Nat} {A : Option Addr} {c : Nat} {es : List El} {e : El} (h : OwnI w base A c es) (hO : Own w base e.A e.xs.length e.xs) (h0 : 0 < e.xs.length)
    (hne : e.A ∉ es.map (·.A)) (hna : A ≠ e.A) (hb : BufI w' base (some ⟨g, 0, none⟩) c' (es ++ [e])) (hg : w.grownBy w' (rowA A)) (hat : A = some ⟨g, 0, none⟩ ∨ g = w.heap.size) : OwnI w' base (some ⟨g, 0, none⟩) c' (es ++ [e]) := by
  have hrow : ∀ e' ∈ es ++ [e], Own w base e'.A e'.xs.length e'.xs ∧ 0 < e'.xs.length ∧ A ≠ e'.A := by
    intro e' he
    rcases List.mem_append.1 he with he | he
    · exact ⟨(h.rows e' he).1, (h.rows e' he).2, fun x => h.apart (x ▸ List.mem_map_of_mem he)⟩
    · obtain rfl := List.mem_singleton.1 he
      exact ⟨hO, h0, hna⟩
  refine ⟨hb, fun e' he => ⟨(hrow e' he).1.grown hg ?_, (hrow e' he).2.1⟩, ?_, ?_⟩
  · intro g' hA hr
    rcases h.buf.addr with rfl | ⟨g2, rfl⟩
    · simp [rowA] at hr
    · simp [rowA] at hr
      subst hr
      exact (hrow e' he).2.2 hA.symm
  · rw [List.map_append, List.nodup_append]
    refine ⟨h.far, by simp, ?_⟩
    intro a ha b hb
    simp at hb
    subst hb
    exact fun e => hne (e ▸ ha)
  · intro hm
    obtain ⟨e', he, hA⟩ := List.mem_map.1 hm
    have h1 := hrow e' he
    rcases hat with rfl | rfl
    · exact h1.2.2 hA.symm
    · rcases h1.1.blk with ⟨hz, _⟩ | ⟨g2, e2, _, hl⟩
      · omega
      · rw [hA] at e2
        injection e2 with e2; injection e2 with e2
        omega
end Go.Proofs.YtkcdoacojiilaaaGreat

-- Walks: how many bits of a row are set.
namespace Go.Proofs.YtkcdoacojiilaaaGreat
open Go.RowKit
set_option maxRecDepth 100000

set_option maxHeartbeats 1000000 in
theorem ones64_c (r : Nat) (w : World) (hr : r < 64) :
    Calls Tryz.prog 86 #[.int .u64 r] w fun e w' => e = .returned (.int .i64 (pop r : Nat)) ∧ w = w' := by
  go_enter Tryz.func86, Tryz.ntmps86
  go_wp2
  go_ret
  refine ⟨ret_int ?_, rfl⟩
  clear w
  revert hr
  revert r
  decide +kernel

set_option maxHeartbeats 1000000 in
theorem ones_c (r : Nat) (w : World) (hr : r < 64) :
    Calls Tryz.prog 53 #[.int .i64 r] w fun e w' => e = .returned (.int .i64 (pop r : Nat)) ∧ w = w' := by
  go_enter Tryz.func53, Tryz.ntmps53
  go_wp2_with fail
  go_in
  go_wp2_with fail
  refine (ones64_c r _ hr).mono ?_
  rintro e w' ⟨rfl, rfl⟩
  go_wp2
  go_ret
  exact ⟨rfl, rfl⟩
end Go.Proofs.YtkcdoacojiilaaaGreat

-- Walks: functions that compare.
namespace Go.Proofs.YtkcdoacojiilaaaGreat
open Go.RowKit
set_option maxRecDepth 100000

theorem list_ext0 {xs ys : List Int} (h : xs.length = ys.length) (e : ∀ j, j < xs.length → xs[j]?.getD 0 = ys[j]?.getD 0) : xs = ys := by
  apply List.ext_getElem h
  intro i h1 h2
  simpa [List.getElem?_eq_getElem h1, List.getElem?_eq_getElem h2] using e i h1

set_option maxHeartbeats 400000 in
theorem slicesEqual_c (A B : Option Addr) (n m c d : Nat) (xs ys : List Int) (w : World) (hr : Rd w A n xs) (hs : Rd w B m ys) (hn : n ≤ 1073741824) :
    Calls Tryz.prog 35 #[.slice A n c, .slice B m d] w fun e w' => e = .returned (.bool (decide (xs = ys))) ∧ Below w.heap.size w w' := by
  by_cases hnm : n = m
  case neg =>
    have hF : (decide (xs = ys)) = false := by
      rw [decide_eq_false_iff_not]; intro e; exact hnm (by rw [← hr.1, ← hs.1, e])
    have hF' := Lib.hid hF; clear hF
    have hnm' : ((n : Int) != m) = true := by simp; omega
    go_enter Tryz.func35, Tryz.ntmps35
    go_wp2
    go_ret
    exact ⟨ret_bool hF'.out.symm, Below.refl _ _⟩
  subst hnm
  go_enter Tryz.func35, Tryz.ntmps35
  go_wp2
  go_loopw [13] (fun i wr => ∃ k : Nat, k ≤ n ∧ i = .int .i64 k ∧ Below w.heap.size w wr ∧ Hid (∀ j, j < k → xs[j]?.getD 0 = ys[j]?.getD 0)) (fun i _ => n - (intOf i).toNat)
  case atStart => exact ⟨0, Nat.zero_le _, rfl, Below.refl _ _, Lib.hid (fun j h => absurd h (by omega))⟩
  case round =>
    obtain ⟨k, hk, rfl, hbl, hall⟩ := hrel
    by_cases hlt : k < n
    · obtain ⟨b, off, rfl, hb, hc⟩ := (hr.next hbl).at_ hlt
      obtain ⟨b', off', rfl, hb', hc'⟩ := (hs.next hbl).at_ hlt
      by_cases he : xs[k]?.getD 0 = ys[k]?.getD 0
      · have he' : (xs[k]?.getD 0 != ys[k]?.getD 0) = false := by simp [he]
        have hN : Hid (∀ j, j < k + 1 → xs[j]?.getD 0 = ys[j]?.getD 0) := Lib.hid (fun j hj => by
          rcases Nat.lt_or_ge j k with h | h
          · exact hall.out j h
          · obtain rfl : j = k := by omega
            exact he)
        clear he
        go_wp2
        go_quiet (fail)
        go_wp2
        go_roundw
        case rel => exact ⟨k + 1, by omega, by go_num, below_drewN hbl _, hN⟩
        case measure => simp [intOf]; omega
      · have he' : (xs[k]?.getD 0 != ys[k]?.getD 0) = true := by simp [he]
        have hF : Hid ((decide (xs = ys)) = false) := Lib.hid (by
          rw [decide_eq_false_iff_not]; intro e; exact he (by rw [e]))
        clear he
        go_wp2
        go_quiet (fail)
        go_wp2
        go_ret
        exact ⟨ret_bool hF.out.symm, below_drewN hbl _⟩
    · obtain rfl : k = n := by omega
      have hF : Hid ((decide (xs = ys)) = true) := Lib.hid (by
        rw [decide_eq_true_eq]; exact list_ext0 (by rw [hr.1, hs.1]) (fun j hj => hall.out j (by rw [hr.1] at hj; exact hj)))
      go_wp2
      go_ret
      exact ⟨ret_bool hF.out.symm, hbl⟩

set_option maxHeartbeats 400000 in
theorem sameInts_c (A B : Option Addr) (n m c d : Nat) (xs ys : List Int) (w : World) (hr : Rd w A n xs) (hs : Rd w B m ys) (hn : n ≤ 1073741824) :
    Calls Tryz.prog 21 #[.slice A n c, .slice B m d] w fun e w' => e = .returned (.bool (decide (xs = ys))) ∧ Below w.heap.size w w' := by
  by_cases hnm : n = m
  case neg =>
    have hF : (decide (xs = ys)) = false := by
      rw [decide_eq_false_iff_not]; intro e; exact hnm (by rw [← hr.1, ← hs.1, e])
    have hF' := Lib.hid hF; clear hF
    have hnm' : ((n : Int) != m) = true := by simp; omega
    go_enter Tryz.func21, Tryz.ntmps21
    go_wp2
    go_ret
    exact ⟨ret_bool hF'.out.symm, Below.refl _ _⟩
  subst hnm
  go_enter Tryz.func21, Tryz.ntmps21
  go_wp2
  go_loopw [5] (fun i wr => ∃ k : Nat, k ≤ n ∧ i = .int .i64 k ∧ Below w.heap.size w wr ∧ Hid (∀ j, j < k → xs[j]?.getD 0 = ys[j]?.getD 0)) (fun i _ => n - (intOf i).toNat)
  case atStart => exact ⟨0, Nat.zero_le _, rfl, Below.refl _ _, Lib.hid (fun j h => absurd h (by omega))⟩
  case round =>
    obtain ⟨k, hk, rfl, hbl, hall⟩ := hrel
    by_cases hlt : k < n
    · obtain ⟨b, off, rfl, hb, hc⟩ := (hr.next hbl).at_ hlt
      obtain ⟨b', off', rfl, hb', hc'⟩ := (hs.next hbl).at_ hlt
      by_cases he : xs[k]?.getD 0 = ys[k]?.getD 0
      · have he' : (xs[k]?.getD 0 != ys[k]?.getD 0) = false := by simp [he]
        have hN : Hid (∀ j, j < k + 1 → xs[j]?.getD 0 = ys[j]?.getD 0) := Lib.hid (fun j hj => by
          rcases Nat.lt_or_ge j k with h | h
          · exact hall.out j h
          · obtain rfl : j = k := by omega
            exact he)
        clear he
        go_wp2
        go_quiet (fail)
        go_wp2
        go_roundw
        case rel => exact ⟨k + 1, by omega, by go_num, below_drewN hbl _, hN⟩
        case measure => simp [intOf]; omega
      · have he' : (xs[k]?.getD 0 != ys[k]?.getD 0) = true := by simp [he]
        have hF : Hid ((decide (xs = ys)) = false) := Lib.hid (by
          rw [decide_eq_false_iff_not]; intro e; exact he (by rw [e]))
        clear he
        go_wp2
        go_quiet (fail)
        go_wp2
        go_ret
        exact ⟨ret_bool hF.out.symm, below_drewN hbl _⟩
    · obtain rfl : k = n := by omega
      have hF : Hid ((decide (xs = ys)) = true) := Lib.hid (by
        rw [decide_eq_true_eq]; exact list_ext0 (by rw [hr.1, hs.1]) (fun j hj => hall.out j (by rw [hr.1] at hj; exact hj)))
      go_wp2
      go_ret
      exact ⟨ret_bool hF.out.symm, hbl⟩

set_option maxHeartbeats 400000 in
theorem lsameImage_t (W : Int) (A B : Option Addr) (n m c d : Nat) (xs : List Int) (w : World) (hr : Rd w A n xs) (hs : Rd w B m xs) (hn : n ≤ 1073741824) :
    Calls Tryz.prog 7 #[.agg #[.int .i64 W, .slice A n c], .agg #[.int .i64 W, .slice B m d]] w fun e w' => e = .returned (.bool true) ∧ Below w.heap.size w w' := by
  go_enter Tryz.func7, Tryz.ntmps7
  go_wp2_with fail
  refine (sameInts_c _ _ _ _ _ _ xs xs _ ((hr.alloc _).alloc _) ((hs.alloc _).alloc _) hn).mono ?_
  rw [decide_eq_true (rfl : xs = xs)]
  rintro e w1 ⟨rfl, hb⟩
  go_wp2
  go_ret
  exact ⟨rfl, by (repeat (first | exact Below.refl _ _ | assumption | refine lo_alloc ?_ _ | refine lo_set ?_ (by simp; try omega) _ | refine Below.drew ?_ | refine below_drewN ?_ _ | refine lo_trans ?_ (by assumption) | refine lo_wr ?_ (by assumption) (by omega)))⟩
end Go.Proofs.YtkcdoacojiilaaaGreat

-- Walks: the law's own helpers over images.
namespace Go.Proofs.YtkcdoacojiilaaaGreat
open Go.RowKit
set_option maxRecDepth 100000

end Go.Proofs.YtkcdoacojiilaaaGreat
