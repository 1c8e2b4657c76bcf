/- The walk of the law FnExecuteLines: it returns true for every slice of bytes, where the table of directions is as the program lays it. -/
import Derived.Test.YtpeiolimdglmhaaGreatDoorZ40
import Derived.Test.YtpeiolimdglmhaaGreatDoorDu
namespace Go.Proofs.YtpeiolimdglmhaaGreatDoor
open Go.RowKit
set_option maxRecDepth 100000

set_option maxHeartbeats 8000000 in
theorem law_ExecuteLines (A : Option Addr) (n c : Nat) (A2 : Option Addr) (n2 c2 : Nat) (w : World) (hr : RdB w A n) (hb : n ≤ maxLen ∧ n ≤ c) (_ : RdB w A2 n2) (hb2 : n2 ≤ maxLen ∧ n2 ≤ c2) (hD : Dir w) :
    Calls Tryz.prog 6 #[.slice A n c, .slice A2 n2 c2] w fun e w' => e = .returned (.bool true) ∧ Below w.heap.size w w' := by
  obtain ⟨hl, hc⟩ := hb
  replace hb2 := hb2.1
  unfold maxLen at hl hb2
  by_cases h : 1048576 < n
  · go_enter Tryz.func6, Tryz.ntmps6
    go_wp2
    go_ret
    exact ⟨rfl, Below.refl _ _⟩
  by_cases h' : 1048576 < n2
  · go_enter Tryz.func6, Tryz.ntmps6
    go_wp2
    go_ret
    exact ⟨rfl, Below.refl _ _⟩
  obtain ⟨dd, hdd⟩ : ∃ dd, dd = n2 % 8 := ⟨_, rfl⟩
  have hd8 : dd < 8 := by omega
  have hw0 : (n2 : Int).tmod 8 = (dd : Int) := by rw [Int.tmod_eq_emod_of_nonneg (by omega)]; omega
  have hw1 : IntKind.i64.wrap (dd : Int) = (dd : Int) := IntWalk.i64_in _ (by omega)
  clear hdd
  go_enter Tryz.func6, Tryz.ntmps6
  go_wp2_with fail
  refine (DrawImageText_c A n c _ hr (by omega) hc).mono ?_
  rintro e w1 ⟨W, B, a, d, xs, rfl, ha, hO, hb1⟩
  have hP := Blk.new w1 25 #[.int .i64 W, .slice B a d]
  have hR := hO.rd.alloc (.cells #[.int .i64 W, .slice B a d] 25)
  have hL := lo_alloc hb1 (.cells #[.int .i64 W, .slice B a d] 25)
  have p0 := hP.cell 0
  have p1 := hP.cell 1
  have hti := fun w hr => text_impl W B a d xs w hr (by omega)
  have hts := fun w hr => text_spec W B a d xs w hr (by omega)
  obtain ⟨T, hT⟩ : ∃ T, Hid (textW W xs = T) := ⟨_, Lib.hid rfl⟩
  rw [hT.out] at hti hts
  clear hO hb1
  go_wp2_with fail
  refine (hti _ hR).mono ?_
  rintro e w2 ⟨rfl, hb2⟩
  have hP2 := hP.next hb2
  have hR2 := hR.next hb2
  have hL2 := lo_trans hL hb2
  clear p0 p1 hP hR hL hb2
  have p0 := hP2.cell 0
  have p1 := hP2.cell 1
  go_wp2_with fail
  refine (hts _ hR2).mono ?_
  rintro e w3 ⟨rfl, hb3⟩
  have hP3 := hP2.next hb3
  have hR3 := hR2.next hb3
  have hL3 := lo_trans hL2 hb3
  clear p0 p1 hP2 hR2 hL2 hb3 hti hts
  have p0 := hP3.cell 0
  have p1 := hP3.cell 1
  cases hk : okB W xs with
  | false =>
    have hTe : T = [] := by rw [← hT.out, textW, hk]; rfl
    subst hTe
    have q1 : ((S []).toList == []) = true := by rw [S_list]; rfl
    have q2 : (S []).toList.isEmpty = true := by rw [S_list]; rfl
    go_wp2
    go_ret
    exact ⟨rfl, hL3⟩
  | true =>
    have hbd := okB_bd hk
    rw [hR3.1] at hbd
    obtain ⟨m, rfl⟩ : ∃ m : Nat, W = (m : Int) := ⟨W.toNat, by omega⟩
    have hTe : T = textL m xs := by rw [← hT.out, textW, hk, if_pos rfl, Int.toNat_natCast]
    have hne := text_ne hk
    rw [← hTe] at hne
    have hTl := textL_len hk
    rw [← hTe] at hTl
    have q1 : ((S T).toList == []) = false := by rw [S_list, beq_eq_false_iff_ne]; exact hne
    have q2 : (S T).toList.isEmpty = false := by rw [S_list]; cases T <;> simp at hne ⊢
    have q3 : (!(S T).toList.isEmpty) = true := by rw [q2]; rfl
    have hscr : rowsL (linesOf T) = scr m xs := by rw [hTe]; rfl
    have hrows := fun w => rowsOf_c T w (by omega)
    rw [hscr] at hrows
    obtain ⟨hx1, hx2⟩ := scr_exec hk
    have hRl := (scr_run hk).2.2
    have hca := fun w hD => impl_Execute_c (scr m xs) w hD
    rw [hx1] at hca
    have hCl := cellsT_len ((m : Int), xs)
    have hol : (okN xs.length).length ≤ 18 := by rw [okN_len, hR3.1]; omega
    have hlast := fun w => lastLine_c (execT (scr m xs)) w (by rw [hx1, List.length_append]; omega)
    rw [hx2, hx1] at hlast
    clear hx1 hx2 hne hscr
    have hds := fun w hr hD => DirSums_k (m : Int) B a d xs (dd : Int) w hr (by omega) hD
    rw [show dirW (m : Int) xs (dd : Int) = dirS dd m xs by rw [dirW, hk, if_pos rfl, Int.toNat_natCast, dirL, show dirB (dd : Int) = true by rw [dirB]; simp; omega, if_pos rfl, Int.toNat_natCast]] at hds
    have hcx := lines_exec hk hd8
    have hxl := hR3.1
    have hrd := dirS_dig (xs := xs) (m := m) hd8 (by omega) (by omega)
    have hrl := dirS_lenD (xs := xs) (m := m) hd8 (by omega) (by omega)
    have hr3 := decs_len (dirS dd m xs)
    obtain ⟨Z, hZ⟩ : ∃ Z : Bs, Hid (Z = kLines ++ decs (dirS dd m xs)) := ⟨_, Lib.hid rfl⟩
    have hZl : Z.length ≤ 200 := by rw [hZ.out, List.length_append, show kLines.length = 5 from rfl]; omega
    rw [← hZ.out] at hcx
    have hdg := fun (g : Nat) w (hr : Rd w (some ⟨g, 0, none⟩) 1 [(dd : Int)]) => digitsOf_c (some ⟨g, 0, none⟩) 1 1 [(dd : Int)] w hr (by omega) (fun x hx => by rw [List.mem_singleton] at hx; subst hx; omega)
    have hdl := digS_len [(dd : Int)]
    rw [List.length_singleton] at hdl
    generalize digS [(dd : Int)] = D at hdg hdl hcx
    obtain ⟨LN, hLN⟩ : ∃ LN : Bs, Hid (kLines ++ [32] ++ D ++ [10] = LN) := ⟨_, Lib.hid rfl⟩
    have hLl : LN.length ≤ 20 := by rw [← hLN.out]; simp [kLines]; omega
    rw [hLN.out] at hcx
    have i1 : ∀ w, (Op.stringOp .add (S (scr m xs)) ({ data := #[108, 105, 110, 101, 115, 32] } : ByteArray)).run Tryz.prog w = .ok (.string (S (scr m xs ++ [108, 105, 110, 101, 115, 32]))) w := fun w => cat_ok (scr m xs) [108, 105, 110, 101, 115, 32] (by simp; omega) w
    have i2 : ∀ w, (Op.stringOp .add (S (scr m xs ++ [108, 105, 110, 101, 115, 32])) (S D)).run Tryz.prog w = .ok (.string (S (scr m xs ++ [108, 105, 110, 101, 115, 32] ++ D))) w := fun w => cat_ok (scr m xs ++ [108, 105, 110, 101, 115, 32]) D (by simp; omega) w
    have i3 : ∀ w, (Op.stringOp .add (S (scr m xs ++ [108, 105, 110, 101, 115, 32] ++ D)) ({ data := #[10] } : ByteArray)).run Tryz.prog w = .ok (.string (S (scr m xs ++ LN))) w := fun w => by
      have := cat_ok (scr m xs ++ [108, 105, 110, 101, 115, 32] ++ D) [10] (by simp; omega) w
      have e : scr m xs ++ [108, 105, 110, 101, 115, 32] ++ D ++ [10] = scr m xs ++ LN := by rw [← hLN.out]; simp [kLines]
      rw [e] at this
      exact this
    generalize scr m xs ++ [108, 105, 110, 101, 115, 32] ++ D = i2v at i2 i3
    generalize scr m xs ++ [108, 105, 110, 101, 115, 32] = i1v at i1 i2
    have hcb := fun w hD => impl_Execute_c (scr m xs ++ LN) w hD
    rw [hcx] at hcb
    have k1 : ∀ w, (Op.stringOp .add (S (scr m xs)) (S LN)).run Tryz.prog w = .ok (.string (S (scr m xs ++ LN))) w := fun w => cat_ok (scr m xs) LN (by omega) w
    clear hcx
    generalize scr m xs ++ LN = R2 at k1 hcb i3
    clear k1
    generalize scr m xs = R at i1 hca hrows
    generalize okN xs.length = O at hca hcb hlast hol
    generalize hCe : cellsT ((m : Int), xs) = C at hca hcb hlast hCl
    clear hCe
    have j1 : ∀ w, (Op.stringOp .add (S O) (S Z)).run Tryz.prog w = .ok (.string (S (O ++ Z))) w := fun w => cat_ok O Z (by omega) w
    have j2 : ∀ w, (Op.stringOp .add (S (O ++ Z)) ({ data := #[10] } : ByteArray)).run Tryz.prog w = .ok (.string (S ((O ++ Z) ++ [10]))) w := fun w => cat_ok (O ++ Z) [10] (by simp; omega) w
    have j3 : ∀ w, (Op.stringOp .add (S ((O ++ Z) ++ [10])) (S C)).run Tryz.prog w = .ok (.string (S (((O ++ Z) ++ [10]) ++ C))) w := fun w => cat_ok ((O ++ Z) ++ [10]) C (by simp; omega) w
    generalize ((O ++ Z) ++ [10]) ++ C = z at j3 hcb
    generalize ((O ++ Z) ++ [10]) = y2 at j2 j3
    generalize (O ++ Z) = y1 at j1 j2
    have hsl : ∀ w, (Instr.slice 9 (.string (S (O ++ C))) none (some (.int .i64 (O.length : Int))) none).run Tryz.prog w = .ok (.string (S O)) w := fun w => by
      have := slt_ok (O ++ C) O.length (by simp) w
      rwa [List.take_left] at this
    have hasz := S_size (O ++ C)
    have hCsz := S_size C
    have hab : (O ++ C).length = O.length + C.length := List.length_append
    obtain ⟨av, hav⟩ : ∃ av, Hid (O ++ C = av) := ⟨_, Lib.hid rfl⟩
    rw [hav.out] at hsl hasz hlast hca hab
    have ew : IntKind.i64.wrap ((av.length : Int) - (C.length : Int)) = (O.length : Int) := by rw [IntWalk.i64_in _ (by omega)]; omega
    have ei0 : (0 : Int) ≤ (O.length : Int) := by omega
    have ei1 : (O.length : Int) ≤ (av.length : Int) := by omega
    clear hab
    clear hTe hbd hk hT hr3 hLN hLl hdl
    generalize dirS dd m xs = ys at hds hrd hrl hZ
    go_wp2_with fail
    refine (hds _ hR3 (hD.next hL3)).mono ?_
    rintro e w4 ⟨X, r, rc, rfl, hdd, hO4, hb4⟩
    have hr4 : r ≤ 35 := by have := hO4.rd.1; omega
    have hL4 := lo_trans hL3 hb4
    clear p0 p1 hds hb4 hP3 hR3 hL3
    go_wp2
    have hyl := hO4.rd.1
    have hyd := Lib.hid hrd
    have hdl := decs_len ys
    obtain ⟨P, hP0⟩ : ∃ P : Nat → Bs, P = fun k => kLines ++ decs (ys.take k) := ⟨_, rfl⟩
    have hPl : ∀ k, k ≤ r → (P k).length ≤ 200 := fun k hk => by
      have := decs_len (ys.take k)
      rw [hP0, List.length_append]
      rw [List.length_take] at this
      have hpx : (kLines).length ≤ 50 := by decide
      omega
    have hPs : Hid (∀ k, k < r → P (k + 1) = (P k ++ [32]) ++ digS [ys[k]?.getD 0]) := Lib.hid (fun k hk => by
      rw [hP0]
      exact dig_step _ (by omega) hyd.out)
    have hPz := Lib.hid (show P 0 = kLines by rw [hP0]; simp [decs])
    have hPe := Lib.hid (show P r = kLines ++ decs ys by rw [hP0, ← hyl]; simp)
    clear hP0 hdl
    have hyl' := Lib.hid hyl
    clear hyl
    go_loopw [9, 11] (fun v i wr => ∃ k : Nat, k ≤ r ∧ i = .int .i64 k ∧ v = .string (S (P k)) ∧ Below w4.heap.size w4 wr) (fun _ i _ => r - (intOf i).toNat)
    case atStart => exact ⟨0, Nat.zero_le _, rfl, by rw [hPz.out] <;> rfl, Below.refl _ _⟩
    case round =>
      obtain ⟨k, hk, rfl, rfl, hB⟩ := hrel
      by_cases hlt : k < r
      · obtain ⟨g, hg, _⟩ := hO4.at_ hlt
        subst hg
        have hR1 := (hO4.rd.next hB).one' hlt
        have hs1 := fun w => sl_one' g r rc k hlt hdd w
        have hkl : k < ys.length := by rw [hyl'.out]; exact hlt
        have hyk := hyd.out _ (mem_at hkl)
        have hst := hPs.out k hlt
        have hl1 := hPl k hk
        have hl2 := hPl (k + 1) (by omega)
        have c1 : ∀ w, (Op.stringOp .add (S (P k)) ({ data := #[32] } : ByteArray)).run Tryz.prog w = .ok (.string (S (P k ++ [32]))) w := fun w => cat_ok (P k) [32] (by simp; omega) w
        have c2 : ∀ w, (Op.stringOp .add (S (P k ++ [32])) (S (digS [ys[k]?.getD 0]))).run Tryz.prog w = .ok (.string (S (P (k + 1)))) w := fun w => by
          rw [hst] at hl2 ⊢
          exact cat_ok (P k ++ [32]) _ (by simp only [List.length_append] at hl2 ⊢; omega) w
        have hdg := fun w hr => digitsOf_c (some ⟨g, k, none⟩) 1 (rc - k) [ys[k]?.getD 0] w hr (by omega) (fun x hx => by rw [List.mem_singleton] at hx; subst hx; exact hyk)
        have hd1 : 1 ≤ rc - k := by omega
        generalize digS [ys[k]?.getD 0] = D at c2 hdg hst
        have hst' := Lib.hid hst
        obtain ⟨z, hz⟩ : ∃ z, Hid (P k ++ [32] = z) := ⟨_, Lib.hid rfl⟩
        rw [hz.out] at c1 c2
        clear hst hyk
        go_wp2_with fail
        refine (hdg _ hR1).mono ?_
        rintro e wd ⟨rfl, hbd⟩
        have hB2 := lo_trans hB hbd
        clear hbd hdg hR1 hB
        go_wp2
        go_roundw
        case rel => exact ⟨k + 1, by omega, by go_num, rfl, hB2⟩
        case measure => simp [intOf]; omega
      · obtain rfl : k = r := by omega
        have hL6 := lo_trans hL4 hB
        rw [hPe.out, ← hZ.out]
        clear hPe hPz hPs hPl hyl' hyd hlt hk hB hO4 hL4 hdd hrd hZ
        go_wp2_with fail
        refine (hrows _).mono ?_
        rintro e w8 ⟨rfl, rfl⟩
        go_wp2_with fail
        refine (hca _ (hD.next hL6)).mono ?_
        rintro e w9 ⟨rfl, hb9⟩
        have hL19 := lo_trans hL6 hb9
        clear hca hb9 hL6
        have hL9d : Below w.heap.size w w9.drew := Below.drew hL19
        have hRa : Rd (w9.drew.alloc (.cells #[.int .i64 (dd : Int)] 3)) (some ⟨w9.drew.heap.size, 0, none⟩) 1 [(dd : Int)] := Rd.of_blk (cs := [(dd : Int)]) (Blk.new w9.drew 3 #[.int .i64 (dd : Int)])
        have hLa := lo_alloc hL9d (.cells #[.int .i64 (dd : Int)] 3)
        go_wp2
        go_region_with
          (first
            | (go_at_call 17; refine (hrows _).mono ?_; rintro e w10 ⟨rfl, rfl⟩)
            | (go_at_call 21; refine (hdg _ _ hRa).mono ?_; rintro e w11 ⟨rfl, hb11⟩; have hL11 := lo_trans hLa hb11)
            | (go_at_call 14; refine (hcb _ (hD.next hL11)).mono ?_; rintro e w12 ⟨rfl, hb12⟩; have hL12 := lo_trans hL11 hb12)
            | (go_at_call 18; refine (hlast _).mono ?_; rintro e w13 ⟨rfl, rfl⟩))
        all_goals
          go_wp2
          go_ret
          exact ⟨rfl, hL12⟩
end Go.Proofs.YtpeiolimdglmhaaGreatDoor
