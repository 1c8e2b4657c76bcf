
/- Walks: the list of an image's switches. -/
import Derived.Test.YtnbaedpckdefgaaKl
import Derived.Test.YtnbaedpckdefgaaKg
import Derived.OwnWalkIn
namespace Go.Proofs.Ytnbaedpckdefgaa
open Go.RowKit Go.Shelf
attribute [local go_sem] Oper.semAt_some
set_option maxRecDepth 100000

theorem wplIn_appendR {F : Fence} {n : Nat} {P : Program} {w w' : World} {ops : Array Oper} {rest : List Oper} {o : Oper} {a : Act} {Q : Exit → Act → World → Prop}
    (hg : o.guard = none) (s x : Operand) (t : TypeId) (hop : o.op = Op.call { callee := Callee.builtin Builtin.append, args := #[s, x], argTypes := #[t, t] })
    (v v' xv : Value) (hs : a.eval s = v) (hx : a.eval x = xv) (hrun : (Builtin.append_ #[t, t] o.type #[v, xv]).run P w = .ok v' w')
    (hK : wpListIn F n P ops Q rest (a.put o.dst v') w') : wpListIn F n P ops Q (o :: rest) a w := by
  refine wpListIn_plain hg fun K hK' => ?_
  unfold Oper.wpIn
  refine ⟨?_, ?_⟩
  · simp [Oper.about, hop, resolve, Target.leads, Sem.run_pure]
  · rw [Oper.semAt_plain F _ _ (by rw [hop]; intro c hc'; cases hc')]
    simp [execOp, hop, resolve, invoke, builtin, hs, hx, hrun, Result.andThen]
    exact hK' _ _ hK
theorem appendW_run (w : World) (base : Nat) (A : Option Addr) (c n : Nat) (ss : List Sw) (hn : n = ss.length) (hb : BufW w base A c ss) (b d : Nat) (e : Sw) (hr : Blk w b 86 #[.int .i64 (e.a : Int), .int .i64 (e.b : Int), .int .i64 (e.c : Int), .int .i64 (e.d : Int)]) (hlen : n + 1 ≤ 1048576) (hbase : base ≤ w.heap.size) (ty : TypeId) :
    ∃ g c' w', (Builtin.append_ #[88, 88] ty #[.slice A n c, .slice (some ⟨b, 0, none⟩) 1 d]).run Try.prog w = .ok (.slice (some ⟨g, 0, none⟩) (n + 1) c') w' ∧ BufW w' base (some ⟨g, 0, none⟩) c' (ss ++ [e]) ∧ w.grownBy w' (rowA A) ∧ (A = some ⟨g, 0, none⟩ ∨ g = w.heap.size) := by
  obtain ⟨i0, hi, hz0, hz1, hz2⟩ := info_parts infoSw
  subst hn
  obtain ⟨g, cap, w', hrun, hown, hg, hat, _⟩ := run_append_lies (P := Try.prog) w 88 ty base 86 i0 (.agg #[.int .i64 0, .int .i64 0, .int .i64 0, .int .i64 0]) 4 32 Try.underlying88 hi hz0 hz1 hz2 rfl (by decide) _ ss.length _ hb ⟨b, 0, none⟩ 1 d e.cells rfl
    (by
      intro j u hu
      rw [Go.WideShapes.add_plain, hr.cell, Nat.zero_add]
      simpa [Sw.cells] using hu) (fun u hu => swCells_one [e] u (by simpa [swCells] using hu)) (by omega) (by unfold maxLen; omega) (by omega) hbase _ rfl
  refine ⟨g, cap, w', hrun, ?_, by cases A <;> exact hg, ?_⟩
  · unfold BufW
    rw [List.length_append, swCells_snoc]
    exact hown
  · rcases hat with h1 | h1
    · cases A with
      | none => simp [Value.ownBlock] at h1
      | some a =>
        rcases hb.form with ⟨e, _⟩ | ⟨g', cs, e, _⟩
        · cases e
        · injection e with e; subst e
          simp [Value.ownBlock] at h1
          exact .inl (by rw [h1])
    · exact .inr h1
theorem BufW.ownF {W W' : World} {lo c : Nat} {A : Option Addr} {ss : List Sw} {row : Option Nat} (h : BufW W lo A c ss) (hg : W.grownBy W' row) (hr : ∀ r, row = some r → ∃ o : Obj, W.heap[r]? = some o ∧ o.isCells = false) : BufW W' lo A c ss := by
  refine h.kept hg ?_
  rintro g rfl e
  rcases h.form with ⟨e', _⟩ | ⟨g', cs, e', _, hb, _⟩
  · cases e'
  · cases e'
    exact hb.cells_ne (hr g e) rfl
theorem rowAW_ne {w : World} {base c o : Nat} {A : Option Addr} {ss : List Sw} (h : BufW w base A c ss) (ho : o < base) : some o ≠ rowA A := by
  intro e
  have := h.row o e.symm
  omega
theorem rowAW_cells {w : World} {base c : Nat} {A : Option Addr} {ss : List Sw} (h : BufW w base A c ss) : ∀ g, rowA A = some g → ∃ t cs, Blk w g t cs := by
  intro g hg
  rcases h.form with ⟨rfl, _⟩ | ⟨g', cs, rfl, _, hb, _⟩
  · simp [rowA] at hg
  · simp [rowA] at hg
    subst hg
    exact ⟨_, _, hb⟩

/-- the list so far, in the box o -/
def LInv (W : World) (o base : Nat) (ss : List Sw) : Prop := ∃ R c', Blk W o 88 #[.slice R ss.length c'] ∧ BufW W base R c' ss

theorem LInv.step {W W3 : World} {o base gB cB c' : Nat} {R : Option Addr} {ss : List Sw} {x : Sw} {bx : Obj} (hO : Blk W o 88 #[.slice R ss.length c']) (hB : BufW W base R c' ss) (ho : o < base) (hbW : base ≤ W.heap.size)
    (hB3 : BufW W3 base (some ⟨gB, 0, none⟩) cB (ss ++ [x])) (hg3 : (W.alloc bx).grownBy W3 (rowA R)) :
    LInv (W3.setCell ⟨o, 0, none⟩ (.slice (some ⟨gB, 0, none⟩) (ss.length + 1) cB)) o base (ss ++ [x]) ∧ KeepsOthers W (W3.setCell ⟨o, 0, none⟩ (.slice (some ⟨gB, 0, none⟩) (ss.length + 1) cB)) ∧
      (∀ b, b < base → b ≠ o → KB b W (W3.setCell ⟨o, 0, none⟩ (.slice (some ⟨gB, 0, none⟩) (ss.length + 1) cB))) ∧ W.heap.size ≤ (W3.setCell ⟨o, 0, none⟩ (.slice (some ⟨gB, 0, none⟩) (ss.length + 1) cB)).heap.size ∧
      (∀ {a : World}, Below a.heap.size a W → a.heap.size ≤ o → Below a.heap.size a (W3.setCell ⟨o, 0, none⟩ (.slice (some ⟨gB, 0, none⟩) (ss.length + 1) cB))) := by
  have hbx := lo_alloc (Below.refl W.heap.size W) bx
  have hBx := hB.next hbx
  have hz2 := hbx.size
  have hO3 := (hO.next hbx).grown hg3 (rowAW_ne hB ho)
  have hrow : ∀ g, rowA R = some g → base ≤ g := fun g h => (hB.row g h).1
  refine ⟨⟨some ⟨gB, 0, none⟩, cB, ?_, ?_⟩, ?_, ?_, ?_, ?_⟩
  · have := hO3.set_ 0 (.slice (some ⟨gB, 0, none⟩) (ss.length + 1) cB)
    simpa using this
  · exact hB3.kept (grown_set (g := o) (k := 0) _) (by rintro g ⟨⟩ e; injection e with e; have := (hB3.lt _ rfl).1; omega)
  · have h1 : KeepsOthers W (W.alloc bx) := keeps_below hbx
    have h2 : KeepsOthers (W.alloc bx) W3 := keepsO_grown hg3 (rowAW_cells hBx)
    have h3 : KeepsOthers W3 (W3.setCell ⟨o, 0, none⟩ (.slice (some ⟨gB, 0, none⟩) (ss.length + 1) cB)) := keepsO_grown (grown_set (g := o) (k := 0) _) (by rintro g ⟨⟩; exact ⟨_, _, hO3⟩)
    exact (h1.trans h2).trans h3
  · intro b hb hne
    have h1 : KB b W (W.alloc bx) := KB.of_below hbx (by omega)
    have h2 : KB b (W.alloc bx) W3 := KB.of_grown hg3 (by omega) (fun e => by have := hrow b e; omega)
    exact h1.trans (h2.trans (Below.heap_setCell _ _ _ _ (by simpa using hne)))
  · rw [size_setCell]
    exact Nat.le_trans hz2 hg3.size
  · intro a hB hao
    exact lo_set (lo_grown (lo_trans hB hbx) hg3 (fun g hg => by have := hrow g hg; omega)) (p := ⟨o, 0, none⟩) hao _

/-- SwitchMany -/
def swManyW (W : Int) (xs : List Int) : Int := if okB W xs then ((swListW W xs).length : Int) else -1
end Go.Proofs.Ytnbaedpckdefgaa
