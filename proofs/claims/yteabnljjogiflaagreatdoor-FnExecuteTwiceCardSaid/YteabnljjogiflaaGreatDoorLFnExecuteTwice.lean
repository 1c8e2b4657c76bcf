/- The walk of the law FnExecuteTwice: it returns true for every slice of bytes, where the table of directions is as the program lays it. -/
import Derived.Test.YteabnljjogiflaaGreatDoorCp
namespace Go.Proofs.YteabnljjogiflaaGreatDoor
open Go.RowKit
set_option maxRecDepth 100000

theorem exec_show2 {c : Bs} (hf : Full c) (hc : c.length + 10 ≤ 400) : ∃ (o sh : Bs) (s : Ig), execT c = o ++ cellsT s ∧ lastL (execT c) = cellsT s ∧ sh.length ≤ 1001 ∧
    execT (c ++ [115, 104, 111, 119, 10]) = (o ++ sh) ++ cellsT s ∧ execT (c ++ [115, 104, 111, 119, 10, 115, 104, 111, 119, 10]) = ((o ++ sh) ++ sh) ++ cellsT s := by
  obtain ⟨h1, o, h2, h3⟩ := exec_last (t := c) (by omega)
  have hn : (10 : UInt8) ∉ kShow := by decide
  have e1 := exec_add hf hn (by simp [kShow]; omega)
  obtain ⟨f2, l2⟩ := hf.add hn
  have e2 := exec_add f2 hn (by simp [kShow]; omega)
  have hs : (stepS (runS (linesOf c)).1 (pcs 32 kShow)).1 = (runS (linesOf c)).1 := by
    rw [show pcs 32 kShow = [kShow] by decide, step_Show, askO_fst]
  refine ⟨o, (stepS (runS (linesOf c)).1 (pcs 32 kShow)).2, (runS (linesOf c)).1, h3, h1, stepS_len _ _, ?_, ?_⟩
  · rw [show c ++ [115, 104, 111, 119, 10] = c ++ kShow ++ [10] by simp [kShow], e1, lineS, hs, ← h2]
  · rw [show c ++ [115, 104, 111, 119, 10, 115, 104, 111, 119, 10] = c ++ kShow ++ [10] ++ kShow ++ [10] by simp [kShow], e2, l2, runS_snoc]
    simp only [lineS, hs]
    rw [← h2]

set_option maxHeartbeats 4000000 in
theorem law_ExecuteTwice (A : Option Addr) (n c : Nat) (w : World) (hr : RdB w A n) (hb : n ≤ maxLen ∧ n ≤ c) (hD : Dir w) :
    Calls Tryz.prog 7 #[.slice A n c] w fun e w' => e = .returned (.bool true) ∧ Below w.heap.size w w' := by
  obtain ⟨hl, hc⟩ := hb
  unfold maxLen at hl
  by_cases h : 1048576 < n
  · go_enter Tryz.func7, Tryz.ntmps7
    go_wp2
    go_ret
    exact ⟨rfl, Below.refl _ _⟩
  go_enter Tryz.func7, Tryz.ntmps7
  go_wp2_with fail
  refine (DrawExecute_c A n c _ hr (by omega) hc).mono ?_
  rintro e w1 ⟨t, ht, rfl, hb1⟩
  have hci := fun w hD => impl_Execute_c t w hD
  have hcs := fun w => spec_Execute_c t w
  have htsz := S_size t
  obtain ⟨T, hT⟩ : ∃ T, Hid (execT t = T) := ⟨_, Lib.hid rfl⟩
  rw [hT.out] at hci hcs
  go_wp2_with fail
  refine (hci _ (hD.next hb1)).mono ?_
  rintro e w2 ⟨rfl, hb2⟩
  go_wp2_with fail
  refine (hcs _).mono ?_
  rintro e w3 ⟨rfl, hb3⟩
  have hL3 := lo_trans (lo_trans hb1 hb2) hb3
  clear hci hcs hb1 hb2 hb3
  have hcomp := fun w => complete_c t w (by omega)
  obtain ⟨hF, _, hcl⟩ := compl_spec t
  have hF' := Lib.hid hF
  clear hF
  generalize complT t = ct at hcomp hF' hcl
  go_wp2_with fail
  refine (hcomp _).mono ?_
  rintro e w4 ⟨rfl, rfl⟩
  clear hcomp
  have hcsz := S_size ct
  by_cases h4 : 388 < ct.length
  · have g1 : decide ((388 : Int) < ((ct.length : Nat) : Int)) = true := decide_eq_true (by omega)
    go_wp2
    go_ret
    exact ⟨rfl, hL3⟩
  have g1 : decide ((388 : Int) < ((ct.length : Nat) : Int)) = false := decide_eq_false (by omega)
  obtain ⟨o, sh, s, m1, m2, hsh, m3, m4⟩ := exec_show2 hF'.out (by omega)
  have hca := fun w hD => impl_Execute_c ct w hD
  have hcb := fun w hD => impl_Execute_c (ct ++ [115, 104, 111, 119, 10]) w hD
  have hcc := fun w hD => impl_Execute_c (ct ++ [115, 104, 111, 119, 10, 115, 104, 111, 119, 10]) w hD
  have hlast := fun w => lastLine_c (execT ct) w (by have := execT_len ct; omega)
  have hbl := execT_len (ct ++ [115, 104, 111, 119, 10])
  rw [m2] at hlast
  rw [m1] at hlast hca
  rw [m3] at hcb hbl
  rw [m4] at hcc
  have hal := execT_len ct
  rw [m1] at hal
  have hCl := cellsT_len s
  clear m1 m2 m3 m4
  have k1 : ∀ w, (Op.stringOp .add (S ct) ({ data := #[115, 104, 111, 119, 10] } : ByteArray)).run Tryz.prog w = .ok (.string (S (ct ++ [115, 104, 111, 119, 10]))) w := fun w => cat_ok ct [115, 104, 111, 119, 10] (by simp; omega) w
  have k2 : ∀ w, (Op.stringOp .add (S ct) ({ data := #[115, 104, 111, 119, 10, 115, 104, 111, 119, 10] } : ByteArray)).run Tryz.prog w = .ok (.string (S (ct ++ [115, 104, 111, 119, 10, 115, 104, 111, 119, 10]))) w := fun w => cat_ok ct [115, 104, 111, 119, 10, 115, 104, 111, 119, 10] (by simp; omega) w
  generalize ct ++ [115, 104, 111, 119, 10] = c2 at k1 hcb
  generalize ct ++ [115, 104, 111, 119, 10, 115, 104, 111, 119, 10] = c3 at k2 hcc
  generalize cellsT s = C at hcb hcc hlast hca hal hbl hCl
  have hab : (o ++ C).length = o.length + C.length := List.length_append
  have hbb : ((o ++ sh) ++ C).length = o.length + sh.length + C.length := by rw [List.length_append, List.length_append]
  have hs1 : ∀ w, (Instr.slice 9 (.string (S (o ++ C))) none (some (.int .i64 (o.length : Int))) none).run Tryz.prog w = .ok (.string (S o)) w := fun w => by
    have := slt_ok (o ++ C) o.length (by simp) w
    rwa [List.take_left] at this
  obtain ⟨e, he⟩ : ∃ e, e = o.length + sh.length := ⟨_, rfl⟩
  have hs2 : ∀ w, (Instr.slice 9 (.string (S ((o ++ sh) ++ C))) (some (.int .i64 (o.length : Int))) (some (.int .i64 (e : Int))) none).run Tryz.prog w = .ok (.string (S sh)) w := fun w => by
    have := slc_ok ((o ++ sh) ++ C) o.length e (by omega) (by rw [hbb]; omega) w
    have hh : (((o ++ sh) ++ C).drop o.length).take (e - o.length) = sh := by rw [List.append_assoc, List.drop_left, he, Nat.add_sub_cancel_left, List.take_left]
    rw [hh] at this
    exact this
  have hasz := S_size (o ++ C)
  have hbsz := S_size ((o ++ sh) ++ C)
  have hCsz := S_size C
  have k3 : ∀ w, (Op.stringOp .add (S o) (S sh)).run Tryz.prog w = .ok (.string (S (o ++ sh))) w := fun w => cat_ok o sh (by omega) w
  have k4 : ∀ w, (Op.stringOp .add (S (o ++ sh)) (S sh)).run Tryz.prog w = .ok (.string (S ((o ++ sh) ++ sh))) w := fun w => cat_ok (o ++ sh) sh (by rw [List.length_append]; omega) w
  have k5 : ∀ w, (Op.stringOp .add (S ((o ++ sh) ++ sh)) (S C)).run Tryz.prog w = .ok (.string (S (((o ++ sh) ++ sh) ++ C))) w := fun w => cat_ok ((o ++ sh) ++ sh) C (by rw [List.length_append, List.length_append]; omega) w
  generalize ((o ++ sh) ++ sh) ++ C = z at k5 hcc
  generalize (o ++ sh) ++ sh = y2 at k4 k5
  generalize (o ++ sh) ++ C = bv at hs2 hbsz hcb hbl hbb
  generalize o ++ sh = y1 at k3 k4
  generalize o ++ C = av at hs1 hasz hlast hca hal hab
  have ew : IntKind.i64.wrap ((av.length : Int) - (C.length : Int)) = (o.length : Int) := by rw [IntWalk.i64_in _ (by omega)]; omega
  have ew2 : IntKind.i64.wrap ((bv.length : Int) - (C.length : Int)) = (e : Int) := by rw [IntWalk.i64_in _ (by omega)]; omega
  have ex1 : wrap64 ((av.length : Int) - (C.length : Int)) = (o.length : Int) := by rw [IntWalk.wrap64_in _ (by omega)]; omega
  have ex2 : wrap64 ((bv.length : Int) - (C.length : Int)) = (e : Int) := by rw [IntWalk.wrap64_in _ (by omega)]; omega
  have ei0 : (0 : Int) ≤ (o.length : Int) := by omega
  have ei1 : (o.length : Int) ≤ (av.length : Int) := by omega
  have ei2 : (o.length : Int) ≤ (e : Int) := by omega
  have ei3 : (e : Int) ≤ (bv.length : Int) := by omega
  clear hab hbb he
  go_wp2_with fail
  refine (hca _ (hD.next hL3)).mono ?_
  rintro e5 w5 ⟨rfl, hb5⟩
  have hL5 := lo_trans hL3 hb5
  go_wp2_with fail
  refine (hlast _).mono ?_
  rintro e6 w6 ⟨rfl, rfl⟩
  go_wp2_with fail
  refine (hcb _ (hD.next hL5)).mono ?_
  rintro e7 w7 ⟨rfl, hb7⟩
  have hL7 := lo_trans hL5 hb7
  clear hca hb5 hcb hlast hb7 hL5
  have hDd : Dir w7.drew := (hD.next hL7).next (Below.drew (Below.refl _ _))
  have hLr := Below.refl w7.drew.heap.size w7.drew
  have hL7d : Below w.heap.size w w7.drew := Below.drew hL7
  go_wp2
  go_region_held3 (fun _ => True)
    (trivial)
    (first
      | (go_at_call 11
         refine (hcc _ (hDd.next hLr)).mono ?_
         rintro e8 w8 ⟨rfl, hb8⟩
         have hX : Below w7.drew.heap.size w7.drew w8 := lo_trans hLr hb8
         clear hLr
         have hLr := hX
         clear hX))
  go_wp2
  go_ret
  exact ⟨rfl, lo_trans hL7d hLr⟩
end Go.Proofs.YteabnljjogiflaaGreatDoor
