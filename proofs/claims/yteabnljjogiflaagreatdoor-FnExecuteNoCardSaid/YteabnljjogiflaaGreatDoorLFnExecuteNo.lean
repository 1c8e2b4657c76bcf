/- The walk of the law FnExecuteNo: it returns true for every slice of bytes, where the table of directions is as the program lays it. -/
import Derived.Test.YteabnljjogiflaaGreatDoorCp
namespace Go.Proofs.YteabnljjogiflaaGreatDoor
open Go.RowKit
set_option maxRecDepth 100000

theorem step_no (s : Ig) : stepS s (pcs 32 [114, 111, 119, 32, 35, 120]) = (s, tNo ++ [10]) := by
  rw [show pcs 32 [114, 111, 119, 32, 35, 120] = [kRow, [35, 120]] by decide, step_Row]
  have : exRow s [35, 120] = none := by
    rw [exRow, if_neg]
    rw [show ([35, 120] : Bs).all isCell = false by decide]
    simp
  rw [this]
  rfl
set_option maxHeartbeats 4000000 in
theorem law_ExecuteNo (A : Option Addr) (n c : Nat) (w : World) (hr : RdB w A n) (hb : n ≤ maxLen ∧ n ≤ c) (hD : Dir w) :
    Calls Tryz.prog 9 #[.slice A n c] w fun e w' => e = .returned (.bool true) ∧ Below w.heap.size w w' := by
  obtain ⟨hl, hc⟩ := hb
  unfold maxLen at hl
  by_cases h : 1048576 < n
  · go_enter Tryz.func9, Tryz.ntmps9
    go_wp2
    go_ret
    exact ⟨rfl, Below.refl _ _⟩
  go_enter Tryz.func9, Tryz.ntmps9
  go_wp2_with fail
  refine (DrawExecute_c A n c _ hr (by omega) hc).mono ?_
  rintro e w1 ⟨t, ht, rfl, hb1⟩
  have hci := fun w hD => impl_Execute_c t w hD
  have hcs := fun w => spec_Execute_c t w
  have htsz := S_size t
  obtain ⟨T, hT⟩ : ∃ T, Hid (execT t = T) := ⟨_, Lib.hid rfl⟩
  rw [hT.out] at hci hcs
  go_wp2_with fail
  refine (hci _ (hD.next hb1)).mono ?_
  rintro e w2 ⟨rfl, hb2⟩
  go_wp2_with fail
  refine (hcs _).mono ?_
  rintro e w3 ⟨rfl, hb3⟩
  have hL3 := lo_trans (lo_trans hb1 hb2) hb3
  clear hci hcs hb1 hb2 hb3
  have hcomp := fun w => complete_c t w (by omega)
  obtain ⟨hF, _, hcl⟩ := compl_spec t
  have hF' := Lib.hid hF
  clear hF
  generalize complT t = ct at hcomp hF' hcl
  go_wp2_with fail
  refine (hcomp _).mono ?_
  rintro e w4 ⟨rfl, rfl⟩
  clear hcomp
  have hcsz := S_size ct
  by_cases h4 : 392 < ct.length
  · have g1 : decide ((392 : Int) < ((ct.length : Nat) : Int)) = true := decide_eq_true (by omega)
    go_wp2
    go_ret
    exact ⟨rfl, hL3⟩
  have g1 : decide ((392 : Int) < ((ct.length : Nat) : Int)) = false := decide_eq_false (by omega)
  obtain ⟨o, s, m1, m2, m3⟩ := exec_more hF'.out (by omega)
  have m4 := m3 [114, 111, 119, 32, 35, 120] (by decide) (by simp; omega)
  rw [step_no] at m4
  have hca := fun w hD => impl_Execute_c ct w hD
  have hcb := fun w hD => impl_Execute_c (ct ++ [114, 111, 119, 32, 35, 120, 10]) w hD
  have m5 : execT (ct ++ [114, 111, 119, 32, 35, 120, 10]) = (o ++ [110, 111, 10]) ++ cellsT s := m4
  rw [m5] at hcb
  have hlast := fun w => lastLine_c (execT ct) w (by have := execT_len ct; omega)
  rw [m2] at hlast
  rw [m1] at hlast hca
  have hal := execT_len ct
  rw [m1] at hal
  have hCl := cellsT_len s
  have hol : o.length ≤ 1000000 := by rw [List.length_append] at hal; omega
  clear m1 m2 m3 m4 m5
  have k1 : ∀ w, (Op.stringOp .add (S ct) ({ data := #[114, 111, 119, 32, 35, 120, 10] } : ByteArray)).run Tryz.prog w = .ok (.string (S (ct ++ [114, 111, 119, 32, 35, 120, 10]))) w := fun w => cat_ok ct [114, 111, 119, 32, 35, 120, 10] (by simp; omega) w
  generalize ct ++ [114, 111, 119, 32, 35, 120, 10] = c2 at k1 hcb
  have k2 : ∀ w, (Op.stringOp .add (S o) ({ data := #[110, 111, 10] } : ByteArray)).run Tryz.prog w = .ok (.string (S (o ++ [110, 111, 10]))) w := fun w => cat_ok o [110, 111, 10] (by simp; omega) w
  have hyl : (o ++ [110, 111, 10]).length ≤ 1000100 := by simp; omega
  generalize cellsT s = C at hcb hlast hca hal hCl
  generalize o ++ [110, 111, 10] = y at k2 hyl hcb
  have k3 : ∀ w, (Op.stringOp .add (S y) (S C)).run Tryz.prog w = .ok (.string (S (y ++ C))) w := fun w => cat_ok y C (by omega) w
  generalize y ++ C = z at k3 hcb
  have hsl : ∀ w, (Instr.slice 9 (.string (S (o ++ C))) none (some (.int .i64 (o.length : Int))) none).run Tryz.prog w = .ok (.string (S o)) w := fun w => by
    have := slt_ok (o ++ C) o.length (by simp) w
    rwa [List.take_left] at this
  have hasz := S_size (o ++ C)
  have hCsz := S_size C
  have hab : (o ++ C).length = o.length + C.length := List.length_append
  obtain ⟨av, hav⟩ : ∃ av, Hid (o ++ C = av) := ⟨_, Lib.hid rfl⟩
  rw [hav.out] at hsl hasz hlast hca hal hab
  have ew : IntKind.i64.wrap ((av.length : Int) - (C.length : Int)) = (o.length : Int) := by rw [IntWalk.i64_in _ (by omega)]; omega
  have ei0 : (0 : Int) ≤ (o.length : Int) := by omega
  have ei1 : (o.length : Int) ≤ (av.length : Int) := by omega
  have hab' := Lib.hid hab
  clear hab
  have hLr := Below.refl w3.drew.heap.size w3.drew
  go_wp2_with fail
  refine (hca _ (hD.next hL3)).mono ?_
  rintro e w5 ⟨rfl, hb5⟩
  have hL5 := lo_trans hL3 hb5
  clear hca hb5 hLr
  have hDd : Dir w5.drew := (hD.next hL5).next (Below.drew (Below.refl _ _))
  have hLr := Below.refl w5.drew.heap.size w5.drew
  have hL5d : Below w.heap.size w w5.drew := Below.drew hL5
  go_wp2
  go_region_held3 (fun _ => True)
    (trivial)
    (first
      | (go_at_call 11
         refine (hcb _ (hDd.next hLr)).mono ?_
         rintro e w6 ⟨rfl, hb6⟩
         have hX : Below w5.drew.heap.size w5.drew w6 := lo_trans hLr hb6
         clear hLr
         have hLr := hX
         clear hX)
      | (go_at_call 14
         refine (hlast _).mono ?_
         rintro e w7 ⟨rfl, rfl⟩))
  go_wp2
  go_ret
  exact ⟨rfl, lo_trans hL5d hLr⟩
end Go.Proofs.YteabnljjogiflaaGreatDoor
