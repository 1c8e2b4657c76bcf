
/- Plain and memory: the state of the search for a way between two images. -/
import Derived.Test.YtkcdoacojiilaaaGreatRv
import Derived.Test.YtkcdoacojiilaaaGreatTo
import Derived.Test.YtkcdoacojiilaaaGreatKr
namespace Go.Proofs.YtkcdoacojiilaaaGreat
open Go.RowKit
set_option maxRecDepth 100000

theorem wpl_appendR {P : Program} {w w' : World} {ops : Array Oper} {rest : List Oper} {o : Oper} {a : Act} {Q : Exit → Act → World → Prop}
    (hg : o.guard = none) (s x : Operand) (t : TypeId) (hop : o.op = Op.call { callee := Callee.builtin Builtin.append, args := #[s, x], argTypes := #[t, t] })
    (v v' xv : Value) (hs : a.eval s = v) (hx : a.eval x = xv) (hrun : (Builtin.append_ #[t, t] o.type #[v, xv]).run P w = .ok v' w')
    (hK : wpList P ops Q rest (a.put o.dst v') w') : wpList P ops Q (o :: rest) a w := by
  refine wpList_plain hg fun K hK' => ?_
  unfold Oper.wp execOp
  simp only [hop, resolve, invoke, builtin, Sem.run_bind, Sem.run_pure, Result.andThen_ok, List.map_toArray, List.map_cons, List.map_nil, hs, hx, hrun]
  exact hK' _ _ hK
theorem appendRV_run (w : World) (base : Nat) (R1 : Option Addr) (c1 k1 : Nat) (ss1 : List Sw) (hn : k1 = ss1.length) (hb : BufW w base R1 c1 ss1) (R2 : Option Addr) (c2 k2 : Nat) (h2 : RowV w base R2 c2 k2) (hlen : k1 + k2 ≤ 100000) (hbase : base ≤ w.heap.size) (ty : TypeId) :
    ∃ R c w', (Builtin.append_ #[32, 32] ty #[.slice R1 k1 c1, .slice R2 k2 c2]).run Tryz.prog w = .ok (.slice R (k1 + k2) c) w' ∧ w.grownBy w' (rowA R1) := by
  obtain ⟨i0, hi, hz0, hz1, hz2⟩ := info_parts infoSw
  subst hn
  rcases h2 with ⟨rfl, rfl, rfl⟩ | ⟨g, cur, rfl, h3, h4, h5, h6, h7, h8⟩
  · exact ⟨R1, c1, w, run_append_owned_none (P := Tryz.prog) w base 32 ty 50 i0 4 Tryz.underlying32 hi _ ss1.length _ hb, World.grownBy.refl _ _⟩
  · have hl : (cur.toList.take (k2 * 4)).length = k2 * 4 := by
      rw [List.length_take, Array.length_toList, h7]; omega
    have hget : ∀ j u, (cur.toList.take (k2 * 4))[j]? = some u → j < k2 * 4 ∧ cur[j]? = some u := by
      intro j u hu
      have hj := (List.getElem?_eq_some_iff.1 hu).1
      rw [hl] at hj
      rw [List.getElem?_take, if_pos hj] at hu
      exact ⟨hj, by simpa using hu⟩
    obtain ⟨v', w', hrun, hown, hg, _, hat⟩ := run_append_own_at (P := Tryz.prog) w base 32 ty 50 i0 (.agg #[.int .i64 0, .int .i64 0, .int .i64 0, .int .i64 0]) 4 32 Tryz.underlying32 hi hz0 hz1 hz2 rfl (by decide) _ ss1.length _ hb
      ⟨g, 0, none⟩ k2 c2 (cur.toList.take (k2 * 4)) hl (fun j u hu => by rw [Go.WideShapes.add_plain, h4.cell, Nat.zero_add]; exact (hget j u hu).2)
      (fun u hu => by
        obtain ⟨j, hj, rfl⟩ := List.getElem_of_mem hu
        obtain ⟨h9, h10⟩ := hget j _ (List.getElem?_eq_getElem hj)
        obtain ⟨a, ha⟩ := h8 j h9
        rw [ha] at h10
        injection h10 with h10
        rw [← h10]; rfl) (by unfold maxLen; omega) (by omega) hbase
    rcases hown.2 with ⟨rfl, h0⟩ | ⟨g', cap, _, rfl, _⟩
    · exact ⟨none, 0, w', by rw [hrun, h0], by cases R1 <;> exact hg⟩
    · exact ⟨_, cap, w', hrun, by cases R1 <;> exact hg⟩

/-- a slice of ints that is the caller's, or a block of ints -/
def Img (w : World) (lo : Nat) (A : Option Addr) (n : Nat) (xs : List Int) : Prop := Rd w A n xs ∧ ∀ b off, A = some ⟨b, off, none⟩ → b < lo ∨ ∃ cs, Blk w b 3 cs
theorem Img.next {w w' : World} {lo n : Nat} {A : Option Addr} {xs : List Int} (h : Img w lo A n xs) (hb : Below w.heap.size w w') : Img w' lo A n xs :=
  ⟨h.1.next hb, fun b off e => (h.2 b off e).imp id (fun ⟨cs, hc⟩ => ⟨cs, hc.next hb⟩)⟩
theorem Rd.grown {w w' : World} {n : Nat} {A : Option Addr} {xs : List Int} {row : Option Nat} (h : Rd w A n xs) (hg : w.grownBy w' row) (hr : ∀ b off, A = some ⟨b, off, none⟩ → row ≠ some b) : Rd w' A n xs :=
  ⟨h.1, fun hn => by
    obtain ⟨b, off, e, hb, hc⟩ := h.2 hn
    exact ⟨b, off, e, Nat.lt_of_lt_of_le hb hg.size, fun k x hx => (World.cell?_of_block (a := ⟨b, off + k, none⟩) (hg.block b hb (fun e' => hr b off e e'.symm))).trans (hc k x hx)⟩⟩
theorem Blk.ty {w : World} {g : Nat} {t t' : TypeId} {cs cs' : Array Value} (h : Blk w g t cs) (h' : Blk w g t' cs') : t = t' := by
  unfold Blk at h h'
  rw [h] at h'
  injection h' with h'
  injection h'
theorem Img.grown {w w' : World} {lo n : Nat} {A : Option Addr} {xs : List Int} {row : Option Nat} (h : Img w lo A n xs) (hg : w.grownBy w' row) (hr : ∀ g, row = some g → lo ≤ g ∧ ∃ t cs, t ≠ 3 ∧ Blk w g t cs) : Img w' lo A n xs := by
  have key : ∀ b off, A = some ⟨b, off, none⟩ → row ≠ some b := by
    rintro b off e e'
    obtain ⟨h1, t, cs, h2, h3⟩ := hr b e'
    rcases h.2 b off e with h4 | ⟨cs', h4⟩
    · omega
    · exact h2 (h3.ty h4)
  exact ⟨h.1.grown hg key, fun b off e => (h.2 b off e).imp id (fun ⟨cs, hc⟩ => ⟨cs, hc.grown hg (fun e' => key b off e e'.symm)⟩)⟩

/-- what lies in memory amid the search -/
structure PInv (w wr : World) (m n : Nat) (xs ys : List Int) (A : Option Addr) (c : Nat) (B : Option Addr) (d : Nat) (R1 : Option Addr) (c1 : Nat) (ss1 : List Sw) (R2 : Option Addr) (c2 : Nat) (ss2 : List Sw) : Prop where
  bel : Below w.heap.size w wr
  ba : Blk wr w.heap.size 27 #[.int .i64 (m : Int), .slice A n c]
  bb : Blk wr (w.heap.size + 1) 27 #[.int .i64 (m : Int), .slice B n d]
  ia : Img wr w.heap.size A n xs
  ib : Img wr w.heap.size B n ys
  u1 : BufW wr (w.heap.size + 2) R1 c1 ss1
  u2 : BufW wr (w.heap.size + 2) R2 c2 ss2
  ap : ∀ g, R1 = some ⟨g, 0, none⟩ → R2 ≠ some ⟨g, 0, none⟩

section
variable {w wr w2 : World} {m n c d c1 c2 : Nat} {xs ys zs : List Int} {A B R1 R2 A2 : Option Addr} {ss1 ss2 : List Sw}
theorem PInv.next (h : PInv w wr m n xs ys A c B d R1 c1 ss1 R2 c2 ss2) (hb : Below wr.heap.size wr w2) : PInv w w2 m n xs ys A c B d R1 c1 ss1 R2 c2 ss2 :=
  ⟨lo_trans h.bel hb, h.ba.next hb, h.bb.next hb, h.ia.next hb, h.ib.next hb, h.u1.next hb, h.u2.next hb, h.ap⟩
theorem PInv.size (h : PInv w wr m n xs ys A c B d R1 c1 ss1 R2 c2 ss2) : w.heap.size + 2 ≤ wr.heap.size := by have := h.bb.lt; omega
/-- one cell of a box -/
theorem PInv.putA (h : PInv w wr m n xs ys A c B d R1 c1 ss1 R2 c2 ss2) {c' : Nat} (hi : Img wr w.heap.size A2 n zs) :
    PInv w ((wr.setCell ⟨w.heap.size, 0, none⟩ (.int .i64 (m : Int))).setCell ⟨w.heap.size, 1, none⟩ (.slice A2 n c')) m n zs ys A2 c' B d R1 c1 ss1 R2 c2 ss2 := by
  have b1 := h.ba.set_ 0 (.int .i64 (m : Int))
  have g1 := grown_set (w := wr) (g := w.heap.size) (k := 0) (.int .i64 (m : Int))
  have g2 := grown_set (w := wr.setCell ⟨w.heap.size, 0, none⟩ (.int .i64 (m : Int))) (g := w.heap.size) (k := 1) (.slice A2 n c')
  have hg := grown_trans g1 g2
  have hr : ∀ g, some w.heap.size = some g → w.heap.size ≤ g ∧ ∃ t cs, t ≠ 3 ∧ Blk wr g t cs := by
    rintro g ⟨⟩; exact ⟨Nat.le_refl _, _, _, by decide, h.ba⟩
  refine ⟨lo_grown h.bel hg (by rintro g ⟨⟩; exact Nat.le_refl _), ?_, h.bb.grown hg (by intro e; injection e; omega), hi.grown hg hr, h.ib.grown hg hr, h.u1.kept hg ?_, h.u2.kept hg ?_, h.ap⟩
  · have := b1.set_ 1 (.slice A2 n c'); exact this
  · intro g e e'; injection e' with e'; have := (h.u1.lt g e).1; omega
  · intro g e e'; injection e' with e'; have := (h.u2.lt g e).1; omega
theorem PInv.putB (h : PInv w wr m n xs ys A c B d R1 c1 ss1 R2 c2 ss2) {c' : Nat} (hi : Img wr w.heap.size A2 n zs) :
    PInv w ((wr.setCell ⟨w.heap.size + 1, 0, none⟩ (.int .i64 (m : Int))).setCell ⟨w.heap.size + 1, 1, none⟩ (.slice A2 n c')) m n xs zs A c A2 c' R1 c1 ss1 R2 c2 ss2 := by
  have b1 := h.bb.set_ 0 (.int .i64 (m : Int))
  have g1 := grown_set (w := wr) (g := w.heap.size + 1) (k := 0) (.int .i64 (m : Int))
  have g2 := grown_set (w := wr.setCell ⟨w.heap.size + 1, 0, none⟩ (.int .i64 (m : Int))) (g := w.heap.size + 1) (k := 1) (.slice A2 n c')
  have hg := grown_trans g1 g2
  have hr : ∀ g, some (w.heap.size + 1) = some g → w.heap.size ≤ g ∧ ∃ t cs, t ≠ 3 ∧ Blk wr g t cs := by
    rintro g ⟨⟩; exact ⟨by omega, _, _, by decide, h.bb⟩
  refine ⟨lo_grown h.bel hg (by rintro g ⟨⟩; omega), h.ba.grown hg (by intro e; injection e; omega), ?_, h.ia.grown hg hr, hi.grown hg hr, h.u1.kept hg ?_, h.u2.kept hg ?_, h.ap⟩
  · have := b1.set_ 1 (.slice A2 n c'); exact this
  · intro g e e'; injection e' with e'; have := (h.u1.lt g e).1; omega
  · intro g e e'; injection e' with e'; have := (h.u2.lt g e).1; omega
theorem BufW.rowTy {w : World} {base c : Nat} {A : Option Addr} {ss : List Sw} (h : BufW w base A c ss) : ∀ g, rowA A = some g → base ≤ g ∧ ∃ t cs, t ≠ 3 ∧ Blk w g t cs := by
  intro g hg
  rcases h.form with ⟨rfl, _⟩ | ⟨g', cs, rfl, h1, hb, _⟩
  · simp [rowA] at hg
  · simp [rowA] at hg
    subst hg
    exact ⟨h1, _, _, by decide, hb⟩
theorem PInv.app1 (h : PInv w wr m n xs ys A c B d R1 c1 ss1 R2 c2 ss2) {g c' : Nat} {s : Sw} (hb : BufW w2 (w.heap.size + 2) (some ⟨g, 0, none⟩) c' (ss1 ++ [s])) (hg : wr.grownBy w2 (rowA R1)) (hat : R1 = some ⟨g, 0, none⟩ ∨ g = wr.heap.size) :
    PInv w w2 m n xs ys A c B d (some ⟨g, 0, none⟩) c' (ss1 ++ [s]) R2 c2 ss2 := by
  have hr : ∀ g, rowA R1 = some g → w.heap.size ≤ g ∧ ∃ t cs, t ≠ 3 ∧ Blk wr g t cs := fun g e => ⟨by have := (h.u1.rowTy g e).1; omega, (h.u1.rowTy g e).2⟩
  refine ⟨lo_grown h.bel hg (fun g e => (hr g e).1), h.ba.grown hg (fun e => by have := (h.u1.rowTy _ e.symm).1; omega), h.bb.grown hg (fun e => by have := (h.u1.rowTy _ e.symm).1; omega), h.ia.grown hg hr, h.ib.grown hg hr, hb, h.u2.kept hg ?_, ?_⟩
  · rintro g' rfl e
    rcases h.u1.addr with rfl | ⟨g'', rfl⟩
    · simp [rowA] at e
    · simp [rowA] at e
      subst e
      exact h.ap _ rfl rfl
  · rintro g' ⟨⟩ e
    rcases hat with hat | hat
    · exact h.ap g hat e
    · have := (h.u2.lt g e).2; omega
theorem PInv.app2 (h : PInv w wr m n xs ys A c B d R1 c1 ss1 R2 c2 ss2) {g c' : Nat} {s : Sw} (hb : BufW w2 (w.heap.size + 2) (some ⟨g, 0, none⟩) c' (ss2 ++ [s])) (hg : wr.grownBy w2 (rowA R2)) (hat : R2 = some ⟨g, 0, none⟩ ∨ g = wr.heap.size) :
    PInv w w2 m n xs ys A c B d R1 c1 ss1 (some ⟨g, 0, none⟩) c' (ss2 ++ [s]) := by
  have hr : ∀ g, rowA R2 = some g → w.heap.size ≤ g ∧ ∃ t cs, t ≠ 3 ∧ Blk wr g t cs := fun g e => ⟨by have := (h.u2.rowTy g e).1; omega, (h.u2.rowTy g e).2⟩
  refine ⟨lo_grown h.bel hg (fun g e => (hr g e).1), h.ba.grown hg (fun e => by have := (h.u2.rowTy _ e.symm).1; omega), h.bb.grown hg (fun e => by have := (h.u2.rowTy _ e.symm).1; omega), h.ia.grown hg hr, h.ib.grown hg hr, h.u1.kept hg ?_, hb, ?_⟩
  · rintro g' rfl e
    rcases h.u2.addr with rfl | ⟨g'', rfl⟩
    · simp [rowA] at e
    · simp [rowA] at e
      subst e
      exact h.ap _ rfl rfl
  · rintro g' rfl e
    injection e with e
    injection e with e
    subst e
    rcases hat with hat | hat
    · exact h.ap g rfl hat
    · have := (h.u1.lt g rfl).2; omega
end

/-- the images amid the search -/
structure PM (m : Nat) (xs ys xs' ys' : List Int) (k1 k2 : Nat) : Prop where
  px : Path m xs xs' k1
  py : Path m ys ys' k2
  ox : okB (m : Int) xs' = true
  oy : okB (m : Int) ys' = true
  hl : xs'.length = ys'.length
  sm : Same2 xs'.length m (cellF xs') (cellF ys')
  me : distX xs' ys' + 2 * (k1 + k2) ≤ distX xs ys
  en : xs' = ys' → (xs = ys ∧ k1 + k2 = 0) ∨ 2 * (k1 + k2) + 2 ≤ distX xs ys
theorem distX_symm {m : Nat} {xs ys : List Int} (hx : okB (m : Int) xs = true) (hy : okB (m : Int) ys = true) (hl : xs.length = ys.length) : distX xs ys = distX ys xs := by
  rw [distX_eq hx hy hl, distX_eq hy hx hl.symm, dist2_symm, hl]
theorem PM.stepA {m k1 k2 : Nat} {xs ys xs' ys' : List Int} (h : PM m xs ys xs' ys' k1 k2) {s : Sw} (hs : s ∈ swList m xs') (hd : distX (swDo m xs' s) ys' < distX xs' ys') : PM m xs ys (swDo m xs' s) ys' (k1 + 1) k2 := by
  have hl : (swDo m xs' s).length = ys'.length := by rw [swDo_len]; exact h.hl
  have ho := swDo_ok2 h.ox s
  have hd' := hd
  rw [distX_eq ho h.oy hl, distX_eq h.ox h.oy h.hl, swDo_len] at hd'
  have h2 := swDo_two (mem_swList.1 hs).1 hd'
  have h4 := dist2_four h.sm (by omega)
  have hm := h.me
  have e1 : distX (swDo m xs' s) ys' = dist2 xs'.length m (cellF (swDo m xs' s)) (cellF ys') := by rw [distX_eq ho h.oy hl, swDo_len]
  have e2 := distX_eq h.ox h.oy h.hl
  refine ⟨.step h.px (List.mem_map.2 ⟨s, hs, rfl⟩), h.py, ho, h.oy, hl, ?_, by omega, fun _ => .inr (by omega)⟩
  rw [swDo_len]
  exact ⟨fun i hi => ((swDo_same hs).1 i hi).trans (h.sm.1 i hi), fun j hj => ((swDo_same hs).2 j hj).trans (h.sm.2 j hj)⟩
theorem PM.swap {m k1 k2 : Nat} {xs ys xs' ys' : List Int} (hx : okB (m : Int) xs = true) (hy : okB (m : Int) ys = true) (hl : xs.length = ys.length) (h : PM m xs ys xs' ys' k1 k2) : PM m ys xs ys' xs' k2 k1 := by
  have e1 := distX_symm hx hy hl
  have e2 := distX_symm h.ox h.oy h.hl
  have hm := h.me
  refine ⟨h.py, h.px, h.oy, h.ox, h.hl.symm, by rw [← h.hl]; exact h.sm.symm, by omega, fun e => ?_⟩
  rcases h.en e.symm with ⟨h1, h2⟩ | h1
  · exact .inl ⟨h1.symm, by omega⟩
  · exact .inr (by omega)
theorem PM.stepB {m k1 k2 : Nat} {xs ys xs' ys' : List Int} (hx : okB (m : Int) xs = true) (hy : okB (m : Int) ys = true) (hl : xs.length = ys.length) (h : PM m xs ys xs' ys' k1 k2) {s : Sw} (hs : s ∈ swList m ys') (hd : distX (swDo m ys' s) xs' < distX ys' xs') : PM m xs ys xs' (swDo m ys' s) k1 (k2 + 1) :=
  ((h.swap hx hy hl).stepA hs hd).swap hy hx hl.symm
theorem PM.done {m k1 k2 : Nat} {xs ys xs' : List Int} (hy : okB (m : Int) ys = true) (h : PM m xs ys xs' xs' k1 k2) : Path m xs ys (k1 + k2) := h.px.trans (h.py.back hy)
/-- while the images differ one of the two steps is there -/
theorem PM.more {m k1 k2 : Nat} {xs ys xs' ys' : List Int} (h : PM m xs ys xs' ys' k1 k2) (hne : xs' ≠ ys') (hno : ∀ s ∈ swList m xs', ¬ distX (swDo m xs' s) ys' < distX xs' ys') : ∃ s ∈ swList m ys', distX (swDo m ys' s) xs' < distX ys' xs' := by
  rcases toward h.ox h.oy h.hl h.sm hne with ⟨s, h1, h2⟩ | ⟨s, h1, h2⟩
  · refine absurd ?_ (hno s h1)
    rw [distX_eq (swDo_ok2 h.ox s) h.oy (by rw [swDo_len]; exact h.hl), distX_eq h.ox h.oy h.hl, swDo_len]
    exact h2
  · refine ⟨s, h1, ?_⟩
    rw [distX_eq (swDo_ok2 h.oy s) h.ox (by rw [swDo_len]; exact h.hl.symm), distX_eq h.oy h.ox h.hl.symm, swDo_len]
    exact h2
theorem PM.start {m : Nat} {xs ys : List Int} (h : sameB (m : Int) xs (m : Int) ys = true) (hx : okB (m : Int) xs = true) (hy : okB (m : Int) ys = true) (hl : xs.length = ys.length) : PM m xs ys xs ys 0 0 := by
  have hs := (sameB_iff' hx hy hl).1 h
  exact ⟨.nil, .nil, hx, hy, hl, (same2_of hx hy hs.1 hs.2).2, by omega, fun e => .inl ⟨e, rfl⟩⟩
end Go.Proofs.YtkcdoacojiilaaaGreat
