
/- Plain facts: the line sums of a small image are digits; a script's line that asks for them. -/
import Derived.Test.YtpeiolimdglmhaaGreatDoorDv
import Derived.Test.YtpeiolimdglmhaaGreatDoorDw
namespace Go.Proofs.YtpeiolimdglmhaaGreatDoor
open Go.RowKit
set_option maxRecDepth 100000

theorem sumN_mono {n n' : Nat} {F : Nat → Nat} (h : n ≤ n') : sumN n F ≤ sumN n' F := by
  induction h with
  | refl => exact Nat.le_refl _
  | step _ ih => exact Nat.le_trans ih (Nat.le_add_right _ _)
def cntD (d h m : Nat) (k : Int) : Nat := sumN h (fun a => sumN m (fun b => if lnD d a b = k then 1 else 0))
theorem cnt_all : ((List.range 8).all fun d => (List.range 35).all fun q => decide (cntD d 6 6 ((q : Int) - 17) ≤ 9)) = true := by decide +kernel
theorem cnt_le {d h m : Nat} {k : Int} (hd : d < 8) (hh : h ≤ 6) (hm : m ≤ 6) (h1 : -17 ≤ k) (h2 : k ≤ 17) : cntD d h m k ≤ 9 := by
  have e1 := List.all_eq_true.1 cnt_all d (List.mem_range.2 hd)
  have e2 := List.all_eq_true.1 e1 (k + 17).toNat (List.mem_range.2 (by omega))
  rw [decide_eq_true_eq, show (((k + 17).toNat : Nat) : Int) - 17 = k by omega] at e2
  refine Nat.le_trans ?_ e2
  unfold cntD
  exact Nat.le_trans (sumN_le fun a _ => sumN_mono hm) (sumN_mono hh)
theorem dirS_dig {xs : List Int} {d m : Nat} (hd : d < 8) (hx : 1 ≤ xs.length ∧ xs.length ≤ 6) (hm : 1 ≤ m ∧ m ≤ 6) : ∀ x ∈ dirS d m xs, 0 ≤ x ∧ x ≤ 9 := by
  intro x h
  obtain ⟨k, hk, rfl⟩ := List.mem_map.1 h
  have hr := ln_range d hd xs.length (by omega) m (by omega) 0 (by omega) 0 (by omega)
  rw [List.mem_range] at hk
  unfold nD at hk
  have h1 := cnt_le (k := loD d xs.length m + (k : Int)) hd hx.2 hm.2 (by omega) (by omega)
  have h2 : dcnt xs d m xs.length 0 (loD d xs.length m + (k : Int)) ≤ cntD d xs.length m (loD d xs.length m + (k : Int)) := by
    unfold dcnt cntD
    rw [show sumN 0 _ = 0 from rfl, Nat.add_zero]
    refine sumN_le fun a _ => sumN_le fun b _ => ?_
    by_cases e : lnD d a b = loD d xs.length m + (k : Int)
    · rw [if_pos e]; exact b1_le _
    · rw [if_neg e, decide_eq_false e, Bool.and_false]; exact Nat.le_refl _
  omega
theorem dirS_lenD {xs : List Int} {d m : Nat} (hd : d < 8) (hx : 1 ≤ xs.length ∧ xs.length ≤ 6) (hm : 1 ≤ m ∧ m ≤ 6) : (dirS d m xs).length ≤ 35 := by
  rw [dirS, dst_len]
  have := ln_range d hd xs.length (by omega) m (by omega) 0 (by omega) 0 (by omega)
  unfold nD
  omega
theorem lines_exec {m d : Nat} {xs : List Int} (hk : okB (m : Int) xs = true) (hd : d < 8) :
    execT (scr m xs ++ (kLines ++ [32] ++ digS [(d : Int)] ++ [10])) = ((okN xs.length ++ (kLines ++ decs (dirS d m xs))) ++ [10]) ++ cellsT ((m : Int), xs) := by
  have hg : ∀ x ∈ [(d : Int)], 0 ≤ x ∧ x ≤ 9 := fun x hx => by rw [List.mem_singleton] at hx; subst hx; omega
  have n1 : (10 : UInt8) ∉ kLines ++ [32] ++ digS [(d : Int)] := by
    have a1 := digS_no (c := 10) (by decide) hg
    simp only [List.mem_append, not_or]
    exact ⟨⟨by decide, by decide⟩, a1⟩
  have e : pcs 32 (kLines ++ [32] ++ digS [(d : Int)]) = [kLines, digS [(d : Int)]] := by
    have := pcs_cat 32 kLines (digS [(d : Int)])
    rw [pcs_none (digS_no (c := 32) (by decide) hg), pcs_none (show (32 : UInt8) ∉ kLines by decide)] at this
    simpa using this
  have hx := scr_more hk n1 (by simp [digS_len, kLines])
  rw [e, step_Lines, dgt_digS (by omega), hk, show dirB (d : Int) = true by rw [dirB]; simp; omega] at hx
  simp only [Bool.and_self, if_true, Int.toNat_natCast, askO] at hx
  rw [hx]
  simp
end Go.Proofs.YtpeiolimdglmhaaGreatDoor
