/- The walk of the law FnExecuteUnique: it returns true for every slice of bytes, where the table of directions is as the program lays it. -/
import Derived.Test.YtpeiolimdglmhaaGreatDoorZ40
import Derived.Test.YtpeiolimdglmhaaGreatDoorZ25
namespace Go.Proofs.YtpeiolimdglmhaaGreatDoor
open Go.RowKit
set_option maxRecDepth 100000

set_option maxHeartbeats 8000000 in
theorem law_ExecuteUnique (A : Option Addr) (n c : Nat) (w : World) (hr : RdB w A n) (hb : n ≤ maxLen ∧ n ≤ c) (hD : Dir w) :
    Calls Tryz.prog 5 #[.slice A n c] w fun e w' => e = .returned (.bool true) ∧ Below w.heap.size w w' := by
  obtain ⟨hl, hc⟩ := hb
  unfold maxLen at hl
  by_cases h : 1048576 < n
  · go_enter Tryz.func5, Tryz.ntmps5
    go_wp2
    go_ret
    exact ⟨rfl, Below.refl _ _⟩
  go_enter Tryz.func5, Tryz.ntmps5
  go_wp2_with fail
  refine (DrawImageText_c A n c _ hr (by omega) hc).mono ?_
  rintro e w1 ⟨W, B, a, d, xs, rfl, ha, hO, hb1⟩
  have hP := Blk.new w1 25 #[.int .i64 W, .slice B a d]
  have hR := hO.rd.alloc (.cells #[.int .i64 W, .slice B a d] 25)
  have hL := lo_alloc hb1 (.cells #[.int .i64 W, .slice B a d] 25)
  have p0 := hP.cell 0
  have p1 := hP.cell 1
  have hti := fun w hr => text_impl W B a d xs w hr (by omega)
  have hts := fun w hr => text_spec W B a d xs w hr (by omega)
  obtain ⟨T, hT⟩ : ∃ T, Hid (textW W xs = T) := ⟨_, Lib.hid rfl⟩
  rw [hT.out] at hti hts
  clear hO hb1
  go_wp2_with fail
  refine (hti _ hR).mono ?_
  rintro e w2 ⟨rfl, hb2⟩
  have hP2 := hP.next hb2
  have hR2 := hR.next hb2
  have hL2 := lo_trans hL hb2
  clear p0 p1 hP hR hL hb2
  have p0 := hP2.cell 0
  have p1 := hP2.cell 1
  go_wp2_with fail
  refine (hts _ hR2).mono ?_
  rintro e w3 ⟨rfl, hb3⟩
  have hP3 := hP2.next hb3
  have hR3 := hR2.next hb3
  have hL3 := lo_trans hL2 hb3
  clear p0 p1 hP2 hR2 hL2 hb3 hti hts
  have p0 := hP3.cell 0
  have p1 := hP3.cell 1
  cases hk : okB W xs with
  | false =>
    have hTe : T = [] := by rw [← hT.out, textW, hk]; rfl
    subst hTe
    have q1 : ((S []).toList == []) = true := by rw [S_list]; rfl
    have q2 : (S []).toList.isEmpty = true := by rw [S_list]; rfl
    go_wp2
    go_ret
    exact ⟨rfl, hL3⟩
  | true =>
    have hbd := okB_bd hk
    rw [hR3.1] at hbd
    obtain ⟨m, rfl⟩ : ∃ m : Nat, W = (m : Int) := ⟨W.toNat, by omega⟩
    have hTe : T = textL m xs := by rw [← hT.out, textW, hk, if_pos rfl, Int.toNat_natCast]
    have hne := text_ne hk
    rw [← hTe] at hne
    have hTl := textL_len hk
    rw [← hTe] at hTl
    have q1 : ((S T).toList == []) = false := by rw [S_list, beq_eq_false_iff_ne]; exact hne
    have q2 : (S T).toList.isEmpty = false := by rw [S_list]; cases T <;> simp at hne ⊢
    have q3 : (!(S T).toList.isEmpty) = true := by rw [q2]; rfl
    have hscr : rowsL (linesOf T) = scr m xs := by rw [hTe]; rfl
    have hrows := fun w => rowsOf_c T w (by omega)
    rw [hscr] at hrows
    obtain ⟨hx1, hx2⟩ := scr_exec hk
    have hRl := (scr_run hk).2.2
    have hca := fun w hD => impl_Execute_c (scr m xs) w hD
    rw [hx1] at hca
    have hCl := cellsT_len ((m : Int), xs)
    have hol : (okN xs.length).length ≤ 18 := by rw [okN_len, hR3.1]; omega
    have hlast := fun w => lastLine_c (execT (scr m xs)) w (by rw [hx1, List.length_append]; omega)
    rw [hx2, hx1] at hlast
    clear hx1 hx2 hne hscr
    have hin := fun w hr => impl_ImageUnique_c (m : Int) B a d xs w hr (by omega)
    have hcx := scr_more hk (l := kUnique) (by decide) (by decide)
    rw [show pcs 32 kUnique = [kUnique] by decide, step_Unique] at hcx
    have huq : uniqB (m : Int) xs = decide (swList m xs = []) := by rw [uniqB, hk, Int.toNat_natCast]; rfl
    simp only [hk, if_true, Int.toNat_natCast] at hcx
    obtain ⟨Z, hZ⟩ : ∃ Z : Bs, Hid (Z = if uniqB (m : Int) xs = true then [121, 101, 115, 10] else [115, 101, 118, 101, 114, 97, 108, 10]) := ⟨_, Lib.hid rfl⟩
    have hcx : execT (scr m xs ++ [117, 110, 105, 113, 117, 101, 10]) = (okN xs.length ++ Z) ++ cellsT ((m : Int), xs) := by
      refine hcx.trans ?_
      rw [hZ.out, huq]
      by_cases h : swList m xs = [] <;> simp [h, askO, tYes, tSeveral]
    have hZl : Z.length ≤ 900 := by rw [hZ.out]; split <;> simp
    have hcb := fun w hD => impl_Execute_c (scr m xs ++ [117, 110, 105, 113, 117, 101, 10]) w hD
    rw [hcx] at hcb
    have k1 : ∀ w, (Op.stringOp .add (S (scr m xs)) ({ data := #[117, 110, 105, 113, 117, 101, 10] } : ByteArray)).run Tryz.prog w = .ok (.string (S (scr m xs ++ [117, 110, 105, 113, 117, 101, 10]))) w := fun w => cat_ok (scr m xs) [117, 110, 105, 113, 117, 101, 10] (by simp; omega) w
    clear hcx
    generalize scr m xs ++ [117, 110, 105, 113, 117, 101, 10] = R2 at k1 hcb
    generalize scr m xs = R at k1 hca hrows
    generalize okN xs.length = O at hca hcb hlast hol
    generalize hCe : cellsT ((m : Int), xs) = C at hca hcb hlast hCl
    clear hCe
    have j1 : ∀ w, (Op.stringOp .add (S O) (S Z)).run Tryz.prog w = .ok (.string (S (O ++ Z))) w := fun w => cat_ok O Z (by omega) w
    have j2 : ∀ w, (Op.stringOp .add (S (O ++ Z)) (S C)).run Tryz.prog w = .ok (.string (S ((O ++ Z) ++ C))) w := fun w => cat_ok (O ++ Z) C (by simp; omega) w
    generalize (O ++ Z) ++ C = z at j2 hcb
    generalize (O ++ Z) = y1 at j1 j2
    have hsl : ∀ w, (Instr.slice 9 (.string (S (O ++ C))) none (some (.int .i64 (O.length : Int))) none).run Tryz.prog w = .ok (.string (S O)) w := fun w => by
      have := slt_ok (O ++ C) O.length (by simp) w
      rwa [List.take_left] at this
    have hasz := S_size (O ++ C)
    have hCsz := S_size C
    have hab : (O ++ C).length = O.length + C.length := List.length_append
    obtain ⟨av, hav⟩ : ∃ av, Hid (O ++ C = av) := ⟨_, Lib.hid rfl⟩
    rw [hav.out] at hsl hasz hlast hca hab
    have ew : IntKind.i64.wrap ((av.length : Int) - (C.length : Int)) = (O.length : Int) := by rw [IntWalk.i64_in _ (by omega)]; omega
    have ei0 : (0 : Int) ≤ (O.length : Int) := by omega
    have ei1 : (O.length : Int) ≤ (av.length : Int) := by omega
    clear hab
    clear huq hTe hbd hk hT
    go_wp2_with fail
    refine (hin _ hR3).mono ?_
    rintro e w4 ⟨rfl, hb4⟩
    have hL4 := lo_trans hL3 hb4
    clear hin hb4 p0 p1
    cases hu : uniqB (m : Int) xs with
    | true =>
      have hZ2 := hZ.out
      rw [hu, if_pos rfl] at hZ2
      subst hZ2
      clear hZ
      have i1 : ∀ w, (Op.stringOp .add (S O) ({ data := #[121, 101, 115, 10] } : ByteArray)).run Tryz.prog w = .ok (.string (S y1)) w := j1
      clear j1
      go_wp2_with fail
      refine (hrows _).mono ?_
      rintro e w6 ⟨rfl, rfl⟩
      go_wp2_with fail
      refine (hcb _ (hD.next hL4)).mono ?_
      rintro e w7 ⟨rfl, hb7⟩
      have hL7 := lo_trans hL4 hb7
      clear hcb hb7
      go_wp2_with fail
      refine (hrows _).mono ?_
      rintro e w8 ⟨rfl, rfl⟩
      go_wp2_with fail
      refine (hca _ (hD.next hL7)).mono ?_
      rintro e w9 ⟨rfl, hb9⟩
      have hL9 := lo_trans hL7 hb9
      clear hca hb9
      go_wp2
      go_region_held3 (fun _ => True)
        (trivial)
        (first
          | (go_at_call 18
             refine (hlast _).mono ?_
             rintro e w10 ⟨rfl, rfl⟩))
      go_wp2
      go_ret
      exact ⟨rfl, Below.drew hL9⟩
    | false =>
      have hZ2 := hZ.out
      rw [hu, if_neg (by simp)] at hZ2
      subst hZ2
      clear hZ
      have i1 : ∀ w, (Op.stringOp .add (S O) ({ data := #[115, 101, 118, 101, 114, 97, 108, 10] } : ByteArray)).run Tryz.prog w = .ok (.string (S y1)) w := j1
      clear j1
      go_wp2_with fail
      refine (hrows _).mono ?_
      rintro e w6 ⟨rfl, rfl⟩
      go_wp2_with fail
      refine (hcb _ (hD.next hL4)).mono ?_
      rintro e w7 ⟨rfl, hb7⟩
      have hL7 := lo_trans hL4 hb7
      clear hcb hb7
      go_wp2_with fail
      refine (hrows _).mono ?_
      rintro e w8 ⟨rfl, rfl⟩
      go_wp2_with fail
      refine (hca _ (hD.next hL7)).mono ?_
      rintro e w9 ⟨rfl, hb9⟩
      have hL9 := lo_trans hL7 hb9
      clear hca hb9
      go_wp2
      go_region_held3 (fun _ => True)
        (trivial)
        (first
          | (go_at_call 18
             refine (hlast _).mono ?_
             rintro e w10 ⟨rfl, rfl⟩))
      go_wp2
      go_ret
      exact ⟨rfl, Below.drew hL9⟩
end Go.Proofs.YtpeiolimdglmhaaGreatDoor
