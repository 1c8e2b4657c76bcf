/- Plain facts and walks that the law's proof uses; each says its own conditions. -/
import Derived.Test.YtpeiolimdglmhaaGreatDoorRows
import Derived.Test.YtpeiolimdglmhaaGreatDoorZ25
import Derived.ProofKit
import Derived.OpenShut
import Derived.LaidMore
import Derived.ChangeVars
import Derived.Stop.LaidErr
-- What the listed table of directions gives the walks.
namespace Go.Proofs.YtpeiolimdglmhaaGreatDoor
open Go.ChangeShapes Go.WideShapes Go.ChangeAt Go.RowKit
set_option maxRecDepth 100000

theorem gDir : Tryz.prog.globalNamed "loop.example/discretetomography/impl.dirSteps" = some 0 := by kernel_rfl
theorem tDir : (Tryz.prog.globals[0]?).map (·.type) = some 142 := by kernel_rfl
/-- the laid variables, as the rows list them -/
def laidL : List (String × DataW Unit) := [("math/bits.deBruijn32tab", Rows.laid_math_bits_deBruijn32tab), ("math/bits.deBruijn64tab", Rows.laid_math_bits_deBruijn64tab), ("internal/strconv.uint64pow10", Rows.laid_internal_strconv_uint64pow10), ("unicode/utf8.acceptRanges", Rows.laid_unicode_utf8_acceptRanges), ("loop.example/discretetomography/impl.dirSteps", Rows.laid_loop_example_discretetomography_impl_dirSteps), ("unicode/utf8.first", Rows.laid_unicode_utf8_first)]
def stepRow (d : Nat) : DataW Unit := .agg [.lit (.int .i64 (stpX d)), .lit (.int .i64 (stpY d))]
def stepRows : List (DataW Unit) := (List.range 8).map stepRow
theorem steps_eq : Rows.laid_loop_example_discretetomography_impl_dirSteps = (DataW.agg stepRows : DataW Unit) := by kernel_rfl

theorem dir_of_laid {W : World} (h : laidMetH Tryz.prog laidL W) : Dir W := by
  rw [MakeChecks.laidMetH_plain _ _ _ (by kernel_rfl)] at h
  have h4 := h.tail.tail.tail.tail
  obtain ⟨ps, ⟨g, t, cs, fuel, p, q, hg, ht, hv, hd, _, _⟩, _, _⟩ := h4
  obtain rfl := Option.some.inj (gDir.symm.trans hg)
  obtain rfl := Option.some.inj (tDir.symm.trans ht)
  obtain ⟨xs, m, _, ex, _, hl, hel⟩ := DataW.trod_array Tryz.underlying142 hd
  have cE : Tryz.prog.cellsOf 141 = 2 := by kernel_rfl
  have c3 : Tryz.prog.cellsOf 3 = 1 := by kernel_rfl
  rw [steps_eq] at ex
  have exm : xs.map (·.1) = stepRows := (DataW.agg.inj (Prod.mk.inj ex).1).symm
  intro d hd8
  have hE := hel d hd8
  rw [cE, List.getElem?_eq_getElem (by omega)] at hE
  obtain ⟨ys, m2, _, ey, _, hl2, hel2⟩ := DataW.trod_array Tryz.underlying141 hE
  have h0 := hel2 0 (by decide)
  have h1 := hel2 1 (by decide)
  rw [c3, List.getElem?_eq_getElem (by omega)] at h0 h1
  obtain ⟨z0, e0, f0, _⟩ := DataW.trod_int Tryz.underlying3 h0
  obtain ⟨z1, e1, f1, _⟩ := DataW.trod_int Tryz.underlying3 h1
  have e4 : (xs.map (·.1))[d]? = some (stepRow d) := by rw [exm, stepRows, List.getElem?_map, List.getElem?_range hd8]; rfl
  rw [List.getElem?_map, List.getElem?_eq_getElem (by omega), Option.map_some, ey] at e4
  have e5 := DataW.agg.inj (Option.some.inj e4)
  have hy : ys = [ys[0], ys[1]] := by
    match ys, hl2 with
    | [a, b], _ => rfl
  rw [hy] at e5
  simp only [List.map_cons, List.map_nil, List.cons.injEq, and_true] at e5
  rw [f0, f1] at e5
  have z0e : z0 = stpX d := by simpa using e5.1
  have z1e : z1 = stpY d := by simpa using e5.2
  subst z0e
  subst z1e
  have k0 : cs.toList[d * 2]? = some (.int .i64 (stpX d)) := by
    have h := congrArg (fun l => l[0]?) e0
    simpa [List.getElem?_drop, List.getElem?_take] using h
  have k1 : cs.toList[d * 2 + 1]? = some (.int .i64 (stpY d)) := by
    have h := congrArg (fun l => l[0]?) e1
    simpa [List.getElem?_drop, List.getElem?_take] using h
  exact ⟨by rw [World.var?_cell hg hv (d * 2)]; simpa using k0, by rw [World.var?_cell hg hv (d * 2 + 1)]; simpa using k1⟩
end Go.Proofs.YtpeiolimdglmhaaGreatDoor
