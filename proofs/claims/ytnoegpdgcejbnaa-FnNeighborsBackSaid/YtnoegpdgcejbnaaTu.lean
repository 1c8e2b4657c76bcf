
/- Walks: the image turned. -/
import Derived.Test.YtnoegpdgcejbnaaIt
import Derived.Test.YtnoegpdgcejbnaaSu
namespace Go.Proofs.Ytnoegpdgcejbnaa
open Go.RowKit Go.Shelf
attribute [local go_sem] Oper.semAt_some

/-- 'has': the cell is set -/
theorem has_c (i j r n c : Nat) (W : Int) (xs : List Int) (A : Option Addr) (w : World) (hr : Rd w A n xs) (hi : i < n) (hj : j < 6) (hr6 : r < 64) (hc : xs[i]?.getD 0 = (r : Int)) :
    Calls Try.prog 43 #[.agg #[.int .i64 W, .slice A n c], .int .i64 i, .int .i64 j] w fun e w' => e = .returned (.bool (r.testBit j)) ∧ Below w.heap.size w w' := by
  obtain ⟨b, off, rfl, hb, hcc⟩ := (hr.alloc (.cells #[.int .i64 W, .slice A n c] 28)).at_ hi
  rw [hc] at hcc
  have hX := and_bit r j (by omega)
  have hY : ((if r.testBit j then (1 : Int) else 0) == 1) = r.testBit j := by cases r.testBit j <;> rfl
  have hY' := Lib.hid hY
  have hX' := Lib.hid hX
  clear hc hX hY
  go_enter Try.func43, Try.ntmps43
  go_wp2
  go_ret
  exact ⟨ret_bool (by rw [hX'.out]; exact hY'.out), by (repeat (first | exact Below.refl _ _ | assumption | refine lo_alloc ?_ _ | refine lo_set ?_ (by simp; try omega) _ | refine Below.drew ?_ | refine below_drewN ?_ _ | refine lo_trans ?_ (by assumption) | refine lo_wr ?_ (by assumption) (by omega)))⟩

theorem ownFrom_blk {β : Type} {B g : Nat} {t : TypeId} (f : β → Array Value) (hg : g < B) : OwnFrom B (fun (s : β) W => Blk W g t (f s)) :=
  fun _ _ _ _ hs hgr hr => hs.grown hgr (fun e => by have := (hr g e.symm).1; omega)

theorem fin_cells1 {w wr : World} {r : Nat} {t : TypeId} {v0 v1 : Value} (hK : Blk wr (w.heap.size + r) t #[v0, v1]) (hB : Below w.heap.size w wr) (u0 u1 : Value) :
    (((wr.setCell ⟨w.heap.size + r, 0, none⟩ u0).setCell ⟨w.heap.size + r, 1, none⟩ u1).cell? ⟨w.heap.size + r, 0, none⟩ = some u0) ∧ (((wr.setCell ⟨w.heap.size + r, 0, none⟩ u0).setCell ⟨w.heap.size + r, 1, none⟩ u1).cell? ⟨w.heap.size + r, 1, none⟩ = some u1) ∧
    Below w.heap.size w ((wr.setCell ⟨w.heap.size + r, 0, none⟩ u0).setCell ⟨w.heap.size + r, 1, none⟩ u1) := by
  have h := (hK.set_ 0 u0).set_ 1 u1
  exact ⟨by rw [h.cell]; rfl, by rw [h.cell]; rfl, (hB.setCell (by simp) _).setCell (by simp) _⟩

/-- is the cell set -/
def cellF (xs : List Int) (i j : Nat) : Bool := (xs[i]?.getD 0).toNat.testBit j
def turnW (W : Int) (xs : List Int) : Int := if okB W xs then xs.length else 0
def turnX (W : Int) (xs : List Int) : List Int := if okB W xs then img (fun c t => cellF xs t c) W.toNat xs.length else []

end Go.Proofs.Ytnoegpdgcejbnaa
