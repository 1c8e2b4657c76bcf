
/- Plain facts: a script that builds an image and shows it. -/
import Derived.Test.YtpeiolimdglmhaaGreatDoorDw
namespace Go.Proofs.YtpeiolimdglmhaaGreatDoor
open Go.RowKit
set_option maxRecDepth 100000

theorem exec_two {l l2 : Bs} (hl : (10 : UInt8) ∉ l) (hl2 : (10 : UInt8) ∉ l2) (hn : l.length ≤ 100) (hn2 : l2.length ≤ 100) {s s2 : Ig} {a a2 : Bs} (e1 : stepS (0, []) (pcs 32 l) = (s, a)) (e2 : stepS s (pcs 32 l2) = (s2, a2)) :
    execT (l ++ [10] ++ l2 ++ [10]) = (a ++ a2) ++ cellsT s2 ∧ lastL (execT (l ++ [10] ++ l2 ++ [10])) = cellsT s2 := by
  obtain ⟨f1, l1⟩ := Full.nil.add hl
  rw [List.nil_append] at f1 l1
  obtain ⟨f2, l3⟩ := f1.add hl2
  have hr : runS (linesOf (l ++ [10] ++ l2 ++ [10])) = (s2, a ++ a2) := by
    rw [l3, runS_snoc, l1, runS_snoc]
    show lineS (lineS ((0, []), []) l) l2 = _
    simp only [lineS, e1, e2, List.nil_append]
  have hlen : (l ++ [10] ++ l2 ++ [10]).length ≤ 400 := by simp; omega
  refine ⟨?_, ?_⟩
  · rw [exec_at hlen, hr]
  · rw [(exec_last hlen).1, hr]
theorem build_exec {xs ys : List Int} (h : consB xs ys = true) : ∃ (m : Nat) (zs : List Int), bldW xs ys = (m : Int) ∧ bldX xs ys = zs ∧ okB (m : Int) zs = true ∧
    execT (kBuild ++ [32] ++ digS xs ++ [32] ++ digS ys ++ [10, 115, 104, 111, 119, 10]) = ([111, 107, 10] ++ textL m zs) ++ cellsT ((m : Int), zs) ∧
    lastL (([111, 107, 10] ++ textL m zs) ++ cellsT ((m : Int), zs)) = cellsT ((m : Int), zs) := by
  have hs : sV xs ys = true := by
    rw [consB, Bool.and_eq_true, Bool.and_eq_true] at h
    exact h.1.1
  obtain ⟨h1, h2, h3, h4, h5, h6⟩ := sV_out hs
  have hx : ∀ x ∈ xs, 0 ≤ x ∧ x ≤ 9 := fun x hx => by have := h5 x hx; omega
  have hy : ∀ x ∈ ys, 0 ≤ x ∧ x ≤ 9 := fun x hx => by have := h6 x hx; omega
  have hz : exBuild xs ys = some ((ys.length : Int), bldX xs ys) := by rw [exBuild, h, bldW, h]; rfl
  have hk := okB_bld hz
  refine ⟨ys.length, bldX xs ys, by rw [bldW, h]; rfl, rfl, hk, ?_⟩
  have n1 : (10 : UInt8) ∉ kBuild ++ [32] ++ digS xs ++ [32] ++ digS ys := by
    have a1 := digS_no (c := 10) (by decide) hx
    have a2 := digS_no (c := 10) (by decide) hy
    simp only [List.mem_append, not_or]
    exact ⟨⟨⟨⟨by decide, by decide⟩, a1⟩, by decide⟩, a2⟩
  have e : pcs 32 (kBuild ++ [32] ++ digS xs ++ [32] ++ digS ys) = [kBuild, digS xs, digS ys] := by
    have := pcs_cat 32 kBuild (digS xs ++ 32 :: digS ys)
    rw [pcs_cat 32 (digS xs) (digS ys), pcs_none (digS_no (c := 32) (by decide) hx), pcs_none (digS_no (c := 32) (by decide) hy), pcs_none (show (32 : UInt8) ∉ kBuild by decide)] at this
    simpa using this
  have s1 : stepS (0, []) (pcs 32 (kBuild ++ [32] ++ digS xs ++ [32] ++ digS ys)) = (((ys.length : Int), bldX xs ys), [111, 107, 10]) := by
    rw [e, step_Build, dgs_digS (by omega) hx, dgs_digS (by omega) hy, hz]
    rfl
  have s2 : stepS ((ys.length : Int), bldX xs ys) (pcs 32 kShow) = (((ys.length : Int), bldX xs ys), textL ys.length (bldX xs ys)) := by
    rw [show pcs 32 kShow = [kShow] by decide]
    exact show_step hk
  obtain ⟨r1, r2⟩ := exec_two n1 (by decide) (by simp [digS_len, kBuild]; omega) (by decide) s1 s2
  have eq : kBuild ++ [32] ++ digS xs ++ [32] ++ digS ys ++ [10] ++ kShow ++ [10] = kBuild ++ [32] ++ digS xs ++ [32] ++ digS ys ++ [10, 115, 104, 111, 119, 10] := by simp [kShow]
  rw [eq] at r1 r2
  exact ⟨r1, by rw [← r1]; exact r2⟩
theorem digS_take {xs : List Int} {k : Nat} (hk : k < xs.length) : digS (xs.take (k + 1)) = digS (xs.take k) ++ [UInt8.ofNat (48 + (xs[k]?.getD 0).toNat)] := by
  rw [take_snoc hk, digS, List.map_append, List.getElem?_eq_getElem hk]; rfl
end Go.Proofs.YtpeiolimdglmhaaGreatDoor
