/- The walk of the law FnExecuteNext: it returns true for every slice of bytes, where the table of directions is as the program lays it. -/
import Derived.Test.YtpeiolimdglmhaaGreatDoorZ40
namespace Go.Proofs.YtpeiolimdglmhaaGreatDoor
open Go.RowKit
set_option maxRecDepth 100000

theorem manyI_sum {m : Nat} {xs ys : List Int} (h1 : okB (m : Int) xs = true) (h2 : okB (m : Int) ys = true) (h : rsum ys = rsum xs) : manyI ((m : Int), ys) = manyI ((m : Int), xs) := by
  have hl : ys.length = xs.length := by have := congrArg List.length h; simpa [rsum] using this
  unfold manyI
  simp only [h1, h2, if_true, hl]
  refine sumN_congr fun i hi => ?_
  have := congrArg (fun l => l[i]?.getD 0) h
  simp only [rsum, List.getElem?_map, List.getElem?_eq_getElem (show i < ys.length by omega), List.getElem?_eq_getElem hi, Option.map_some, Option.getD_some] at this
  rw [List.getElem?_eq_getElem (show i < ys.length by omega), List.getElem?_eq_getElem hi, Option.getD_some, Option.getD_some]
  omega
theorem exNext_ok {m : Nat} {xs : List Int} {z : Ig} (hk : okB (m : Int) xs = true) (h : exNext ((m : Int), xs) = some z) : ∃ ys, z = ((m : Int), ys) ∧ okB (m : Int) ys = true ∧ rsum ys = rsum xs := by
  unfold exNext at h
  split at h
  · simp only [Int.toNat_natCast, Option.map_eq_some_iff] at h
    obtain ⟨y, hy, rfl⟩ := h
    have := (imgL_sums hk y).1 (List.mem_of_getElem? hy)
    exact ⟨y, rfl, this.2.1, this.2.2.1⟩
  · cases h

set_option maxHeartbeats 8000000 in
theorem law_ExecuteNext (A : Option Addr) (n c : Nat) (w : World) (hr : RdB w A n) (hb : n ≤ maxLen ∧ n ≤ c) (hD : Dir w) :
    Calls Tryz.prog 4 #[.slice A n c] w fun e w' => e = .returned (.bool true) ∧ Below w.heap.size w w' := by
  obtain ⟨hl, hc⟩ := hb
  unfold maxLen at hl
  by_cases h : 1048576 < n
  · go_enter Tryz.func4, Tryz.ntmps4
    go_wp2
    go_ret
    exact ⟨rfl, Below.refl _ _⟩
  go_enter Tryz.func4, Tryz.ntmps4
  go_wp2_with fail
  refine (DrawImageText_c A n c _ hr (by omega) hc).mono ?_
  rintro e w1 ⟨W, B, a, d, xs, rfl, ha, hO, hb1⟩
  have hP := Blk.new w1 25 #[.int .i64 W, .slice B a d]
  have hR := hO.rd.alloc (.cells #[.int .i64 W, .slice B a d] 25)
  have hL := lo_alloc hb1 (.cells #[.int .i64 W, .slice B a d] 25)
  have p0 := hP.cell 0
  have p1 := hP.cell 1
  have hti := fun w hr => text_impl W B a d xs w hr (by omega)
  have hts := fun w hr => text_spec W B a d xs w hr (by omega)
  obtain ⟨T, hT⟩ : ∃ T, Hid (textW W xs = T) := ⟨_, Lib.hid rfl⟩
  rw [hT.out] at hti hts
  clear hO hb1
  go_wp2_with fail
  refine (hti _ hR).mono ?_
  rintro e w2 ⟨rfl, hb2⟩
  have hP2 := hP.next hb2
  have hR2 := hR.next hb2
  have hL2 := lo_trans hL hb2
  clear p0 p1 hP hR hL hb2
  have p0 := hP2.cell 0
  have p1 := hP2.cell 1
  go_wp2_with fail
  refine (hts _ hR2).mono ?_
  rintro e w3 ⟨rfl, hb3⟩
  have hP3 := hP2.next hb3
  have hR3 := hR2.next hb3
  have hL3 := lo_trans hL2 hb3
  clear p0 p1 hP2 hR2 hL2 hb3 hti hts
  have p0 := hP3.cell 0
  have p1 := hP3.cell 1
  cases hk : okB W xs with
  | false =>
    have hTe : T = [] := by rw [← hT.out, textW, hk]; rfl
    subst hTe
    have q1 : ((S []).toList == []) = true := by rw [S_list]; rfl
    have q2 : (S []).toList.isEmpty = true := by rw [S_list]; rfl
    go_wp2
    go_ret
    exact ⟨rfl, hL3⟩
  | true =>
    have hbd := okB_bd hk
    rw [hR3.1] at hbd
    obtain ⟨m, rfl⟩ : ∃ m : Nat, W = (m : Int) := ⟨W.toNat, by omega⟩
    have hTe : T = textL m xs := by rw [← hT.out, textW, hk, if_pos rfl, Int.toNat_natCast]
    have hne := text_ne hk
    rw [← hTe] at hne
    have hTl := textL_len hk
    rw [← hTe] at hTl
    have q1 : ((S T).toList == []) = false := by rw [S_list, beq_eq_false_iff_ne]; exact hne
    have q2 : (S T).toList.isEmpty = false := by rw [S_list]; cases T <;> simp at hne ⊢
    have q3 : (!(S T).toList.isEmpty) = true := by rw [q2]; rfl
    have hscr : rowsL (linesOf T) = scr m xs := by rw [hTe]; rfl
    have hrows := fun w => rowsOf_c T w (by omega)
    rw [hscr] at hrows
    obtain ⟨hx1, hx2⟩ := scr_exec hk
    have hRl := (scr_run hk).2.2
    have hca := fun w hD => impl_Execute_c (scr m xs) w hD
    rw [hx1] at hca
    have hCl := cellsT_len ((m : Int), xs)
    have hol : (okN xs.length).length ≤ 18 := by rw [okN_len, hR3.1]; omega
    have hlast := fun w => lastLine_c (execT (scr m xs)) w (by rw [hx1, List.length_append]; omega)
    rw [hx2, hx1] at hlast
    clear hx1 hx2 hne hscr
    have hin := fun w hr => impl_ImageNext_c (m : Int) B a d xs w hr (by omega)
    have hs1 := step_Next ((m : Int), xs)
    cases hN : exNext ((m : Int), xs) with
    | none =>
      rw [hN] at hin hs1
      have s1 : stepS ((m : Int), xs) (pcs 32 kNext) = (((m : Int), xs), tNo ++ [10]) := by rw [show pcs 32 kNext = [kNext] by decide, hs1]; rfl
      have s2 : stepS ((m : Int), xs) (pcs 32 kShow) = (((m : Int), xs), textL m xs) := by rw [show pcs 32 kShow = [kShow] by decide]; exact show_step hk
      have hcx := scr_two hk (l := kNext) (l2 := kShow) (by decide) (by decide) (by decide) (by decide) s1 s2
      clear s1 s2
      rw [← hTe] at hcx
      have hcx : execT (scr m xs ++ [110, 101, 120, 116, 10, 115, 104, 111, 119, 10]) = (okN xs.length ++ ([110, 111, 10] ++ T)) ++ cellsT ((m : Int), xs) := by
        rw [← List.append_assoc (okN xs.length)]
        exact hcx
      have k0 : ∀ w, (Op.stringOp .add ({ data := #[110, 111, 10] } : ByteArray) (S T)).run Tryz.prog w = .ok (.string (S ([110, 111, 10] ++ T))) w := fun w => cat_ok [110, 111, 10] T (by simp; omega) w
      obtain ⟨Z, hZ⟩ : ∃ Z, Hid ([110, 111, 10] ++ T = Z) := ⟨_, Lib.hid rfl⟩
      have hZl : Z.length ≤ 900 := by rw [← hZ.out]; simp; omega
      rw [hZ.out] at hcx k0
      have hcb := fun w hD => impl_Execute_c (scr m xs ++ [110, 101, 120, 116, 10, 115, 104, 111, 119, 10]) w hD
      rw [hcx] at hcb
      have k1 : ∀ w, (Op.stringOp .add (S (scr m xs)) ({ data := #[110, 101, 120, 116, 10, 115, 104, 111, 119, 10] } : ByteArray)).run Tryz.prog w = .ok (.string (S (scr m xs ++ [110, 101, 120, 116, 10, 115, 104, 111, 119, 10]))) w := fun w => cat_ok (scr m xs) [110, 101, 120, 116, 10, 115, 104, 111, 119, 10] (by simp; omega) w
      clear hcx
      generalize scr m xs ++ [110, 101, 120, 116, 10, 115, 104, 111, 119, 10] = R2 at k1 hcb
      generalize scr m xs = R at k1 hca hrows
      generalize okN xs.length = O at hca hcb hlast hol
      generalize hCe : cellsT ((m : Int), xs) = C at hca hcb hlast hCl
      clear hCe
      have j1 : ∀ w, (Op.stringOp .add (S O) (S Z)).run Tryz.prog w = .ok (.string (S (O ++ Z))) w := fun w => cat_ok O Z (by omega) w
      have j2 : ∀ w, (Op.stringOp .add (S (O ++ Z)) (S C)).run Tryz.prog w = .ok (.string (S ((O ++ Z) ++ C))) w := fun w => cat_ok (O ++ Z) C (by simp; omega) w
      generalize (O ++ Z) ++ C = z at j2 hcb
      generalize (O ++ Z) = y1 at j1 j2
      have hsl : ∀ w, (Instr.slice 9 (.string (S (O ++ C))) none (some (.int .i64 (O.length : Int))) none).run Tryz.prog w = .ok (.string (S O)) w := fun w => by
        have := slt_ok (O ++ C) O.length (by simp) w
        rwa [List.take_left] at this
      have hasz := S_size (O ++ C)
      have hCsz := S_size C
      have hab : (O ++ C).length = O.length + C.length := List.length_append
      obtain ⟨av, hav⟩ : ∃ av, Hid (O ++ C = av) := ⟨_, Lib.hid rfl⟩
      rw [hav.out] at hsl hasz hlast hca hab
      have ew : IntKind.i64.wrap ((av.length : Int) - (C.length : Int)) = (O.length : Int) := by rw [IntWalk.i64_in _ (by omega)]; omega
      have ei0 : (0 : Int) ≤ (O.length : Int) := by omega
      have ei1 : (O.length : Int) ≤ (av.length : Int) := by omega
      clear hab
      clear hTe hs1 hN hbd hk hT hZ
      go_wp2_with fail
      refine (hin _ hR3).mono ?_
      rintro e w4 ⟨V, Y, r, k, zs, rfl, hzz, hO4, hb4⟩
      have hL4 := lo_trans hL3 hb4
      have hL5 := lo_alloc hL4 (.cells #[.int .i64 V, .slice Y r k] 25)
      clear hin hzz hO4 hb4
      simp only [Option.isSome_none]
      go_wp2_with fail
      refine (hrows _).mono ?_
      rintro e w6 ⟨rfl, rfl⟩
      go_wp2_with fail
      refine (hcb _ (hD.next hL5)).mono ?_
      rintro e w7 ⟨rfl, hb7⟩
      have hL7 := lo_trans hL5 hb7
      clear hcb hb7
      go_wp2_with fail
      refine (hrows _).mono ?_
      rintro e w8 ⟨rfl, rfl⟩
      go_wp2_with fail
      refine (hca _ (hD.next hL7)).mono ?_
      rintro e w9 ⟨rfl, hb9⟩
      have hL9 := lo_trans hL7 hb9
      clear hca hb9
      go_wp2
      go_region_held3 (fun _ => True)
        (trivial)
        (first
          | (go_at_call 18
             refine (hlast _).mono ?_
             rintro e w10 ⟨rfl, rfl⟩))
      go_wp2
      go_ret
      exact ⟨rfl, Below.drew hL9⟩
    | some z =>
      obtain ⟨ys, rfl, hky, hsy⟩ := exNext_ok hk hN
      rw [hN] at hin hs1
      have s1 : stepS ((m : Int), xs) (pcs 32 kNext) = (((m : Int), ys), tOk ++ [10]) := by rw [show pcs 32 kNext = [kNext] by decide, hs1]; rfl
      have s2 : stepS ((m : Int), ys) (pcs 32 kShow) = (((m : Int), ys), textL m ys) := by rw [show pcs 32 kShow = [kShow] by decide]; exact show_step hky
      have hcx := scr_two hk (l := kNext) (l2 := kShow) (by decide) (by decide) (by decide) (by decide) s1 s2
      clear s1 s2
      have hCC : cellsT ((m : Int), ys) = cellsT ((m : Int), xs) := by rw [cellsT, cellsT, manyI_sum hk hky hsy]
      rw [hCC] at hcx
      have hUl := textL_len hky
      have hUW : textW (m : Int) ys = textL m ys := by rw [textW, hky, if_pos rfl, Int.toNat_natCast]
      obtain ⟨U, hU⟩ : ∃ U, Hid (textL m ys = U) := ⟨_, Lib.hid rfl⟩
      rw [hU.out] at hcx hUl hUW
      have hcx : execT (scr m xs ++ [110, 101, 120, 116, 10, 115, 104, 111, 119, 10]) = (okN xs.length ++ ([111, 107, 10] ++ U)) ++ cellsT ((m : Int), xs) := by
        rw [← List.append_assoc (okN xs.length)]
        exact hcx
      have hyl : ys.length ≤ 6 := by have := okB_bd hky; omega
      have htx := fun (Y : Option Addr) (r k : Nat) (hr6 : r ≤ 6) w hr => text_impl (m : Int) Y r k ys w hr (by omega)
      rw [hUW] at htx
      have k0 : ∀ w, (Op.stringOp .add ({ data := #[111, 107, 10] } : ByteArray) (S U)).run Tryz.prog w = .ok (.string (S ([111, 107, 10] ++ U))) w := fun w => cat_ok [111, 107, 10] U (by simp; omega) w
      obtain ⟨Z, hZ⟩ : ∃ Z, Hid ([111, 107, 10] ++ U = Z) := ⟨_, Lib.hid rfl⟩
      have hZl : Z.length ≤ 900 := by rw [← hZ.out]; simp; omega
      rw [hZ.out] at hcx k0
      have k9 : ∀ w, (Op.stringOp .add ({ data := #[110, 111, 10] } : ByteArray) (S T)).run Tryz.prog w = .ok (.string (S ([110, 111, 10] ++ T))) w := fun w => cat_ok [110, 111, 10] T (by simp; omega) w
      generalize [110, 111, 10] ++ T = Z9 at k9
      have hcb := fun w hD => impl_Execute_c (scr m xs ++ [110, 101, 120, 116, 10, 115, 104, 111, 119, 10]) w hD
      rw [hcx] at hcb
      have k1 : ∀ w, (Op.stringOp .add (S (scr m xs)) ({ data := #[110, 101, 120, 116, 10, 115, 104, 111, 119, 10] } : ByteArray)).run Tryz.prog w = .ok (.string (S (scr m xs ++ [110, 101, 120, 116, 10, 115, 104, 111, 119, 10]))) w := fun w => cat_ok (scr m xs) [110, 101, 120, 116, 10, 115, 104, 111, 119, 10] (by simp; omega) w
      clear hcx
      generalize scr m xs ++ [110, 101, 120, 116, 10, 115, 104, 111, 119, 10] = R2 at k1 hcb
      generalize scr m xs = R at k1 hca hrows
      generalize okN xs.length = O at hca hcb hlast hol
      generalize hCe : cellsT ((m : Int), xs) = C at hca hcb hlast hCl
      clear hCe
      have j1 : ∀ w, (Op.stringOp .add (S O) (S Z)).run Tryz.prog w = .ok (.string (S (O ++ Z))) w := fun w => cat_ok O Z (by omega) w
      have j2 : ∀ w, (Op.stringOp .add (S (O ++ Z)) (S C)).run Tryz.prog w = .ok (.string (S ((O ++ Z) ++ C))) w := fun w => cat_ok (O ++ Z) C (by simp; omega) w
      generalize (O ++ Z) ++ C = z at j2 hcb
      generalize (O ++ Z) = y1 at j1 j2
      have hsl : ∀ w, (Instr.slice 9 (.string (S (O ++ C))) none (some (.int .i64 (O.length : Int))) none).run Tryz.prog w = .ok (.string (S O)) w := fun w => by
        have := slt_ok (O ++ C) O.length (by simp) w
        rwa [List.take_left] at this
      have hasz := S_size (O ++ C)
      have hCsz := S_size C
      have hab : (O ++ C).length = O.length + C.length := List.length_append
      obtain ⟨av, hav⟩ : ∃ av, Hid (O ++ C = av) := ⟨_, Lib.hid rfl⟩
      rw [hav.out] at hsl hasz hlast hca hab
      have ew : IntKind.i64.wrap ((av.length : Int) - (C.length : Int)) = (O.length : Int) := by rw [IntWalk.i64_in _ (by omega)]; omega
      have ei0 : (0 : Int) ≤ (O.length : Int) := by omega
      have ei1 : (O.length : Int) ≤ (av.length : Int) := by omega
      clear hab
      clear hTe hs1 hN hbd hk hT hZ hky hsy hCC hUW hU
      go_wp2_with fail
      refine (hin _ hR3).mono ?_
      rintro e w4 ⟨V, Y, r, k, zs, rfl, hzz, hO4, hb4⟩
      obtain ⟨rfl, rfl⟩ : V = (m : Int) ∧ zs = ys := by have := hzz _ rfl; injection this with h1 h2; exact ⟨h1.symm, h2.symm⟩
      have hL4 := lo_trans hL3 hb4
      have hL5 := lo_alloc hL4 (.cells #[.int .i64 (m : Int), .slice Y r k] 25)
      have hR5 := hO4.rd.alloc (.cells #[.int .i64 (m : Int), .slice Y r k] 25)
      have hP5 := Blk.new w4 25 #[.int .i64 (m : Int), .slice Y r k]
      have r0 := hP5.cell 0
      have r1 := hP5.cell 1
      have hr6 : r ≤ 6 := by rw [← hO4.rd.1]; exact hyl
      clear hin hzz hO4 hb4 p0 p1
      simp only [Option.isSome_some]
      go_wp2_with fail
      refine (htx Y r k hr6 _ hR5).mono ?_
      rintro e w5 ⟨rfl, hb5⟩
      have hL6 := lo_trans hL5 hb5
      clear hb5 r0 r1 hP5 hR5 hL5 hL4
      go_wp2_with fail
      refine (hrows _).mono ?_
      rintro e w6 ⟨rfl, rfl⟩
      go_wp2_with fail
      refine (hcb _ (hD.next hL6)).mono ?_
      rintro e w7 ⟨rfl, hb7⟩
      have hL7 := lo_trans hL6 hb7
      clear hcb hb7
      go_wp2_with fail
      refine (hrows _).mono ?_
      rintro e w8 ⟨rfl, rfl⟩
      go_wp2_with fail
      refine (hca _ (hD.next hL7)).mono ?_
      rintro e w9 ⟨rfl, hb9⟩
      have hL9 := lo_trans hL7 hb9
      clear hca hb9
      go_wp2
      go_region_held3 (fun _ => True)
        (trivial)
        (first
          | (go_at_call 18
             refine (hlast _).mono ?_
             rintro e w10 ⟨rfl, rfl⟩))
      go_wp2
      go_ret
      exact ⟨rfl, Below.drew hL9⟩
end Go.Proofs.YtpeiolimdglmhaaGreatDoor
