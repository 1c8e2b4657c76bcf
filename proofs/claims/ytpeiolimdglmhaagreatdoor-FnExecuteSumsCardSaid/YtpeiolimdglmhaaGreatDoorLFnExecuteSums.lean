/- The walk of the law FnExecuteSums: it returns true for every slice of bytes, where the table of directions is as the program lays it. -/
import Derived.Test.YtpeiolimdglmhaaGreatDoorZ40
import Derived.Test.YtpeiolimdglmhaaGreatDoorDv
namespace Go.Proofs.YtpeiolimdglmhaaGreatDoor
open Go.RowKit
set_option maxRecDepth 100000

set_option maxHeartbeats 8000000 in
theorem law_ExecuteSums (A : Option Addr) (n c : Nat) (w : World) (hr : RdB w A n) (hb : n ≤ maxLen ∧ n ≤ c) (hD : Dir w) :
    Calls Tryz.prog 7 #[.slice A n c] w fun e w' => e = .returned (.bool true) ∧ Below w.heap.size w w' := by
  obtain ⟨hl, hc⟩ := hb
  unfold maxLen at hl
  by_cases h : 1048576 < n
  · go_enter Tryz.func7, Tryz.ntmps7
    go_wp2
    go_ret
    exact ⟨rfl, Below.refl _ _⟩
  go_enter Tryz.func7, Tryz.ntmps7
  go_wp2_with fail
  refine (DrawImageText_c A n c _ hr (by omega) hc).mono ?_
  rintro e w1 ⟨W, B, a, d, xs, rfl, ha, hO, hb1⟩
  have hP := Blk.new w1 25 #[.int .i64 W, .slice B a d]
  have hR := hO.rd.alloc (.cells #[.int .i64 W, .slice B a d] 25)
  have hL := lo_alloc hb1 (.cells #[.int .i64 W, .slice B a d] 25)
  have p0 := hP.cell 0
  have p1 := hP.cell 1
  have hti := fun w hr => text_impl W B a d xs w hr (by omega)
  have hts := fun w hr => text_spec W B a d xs w hr (by omega)
  obtain ⟨T, hT⟩ : ∃ T, Hid (textW W xs = T) := ⟨_, Lib.hid rfl⟩
  rw [hT.out] at hti hts
  clear hO hb1
  go_wp2_with fail
  refine (hti _ hR).mono ?_
  rintro e w2 ⟨rfl, hb2⟩
  have hP2 := hP.next hb2
  have hR2 := hR.next hb2
  have hL2 := lo_trans hL hb2
  clear p0 p1 hP hR hL hb2
  have p0 := hP2.cell 0
  have p1 := hP2.cell 1
  go_wp2_with fail
  refine (hts _ hR2).mono ?_
  rintro e w3 ⟨rfl, hb3⟩
  have hP3 := hP2.next hb3
  have hR3 := hR2.next hb3
  have hL3 := lo_trans hL2 hb3
  clear p0 p1 hP2 hR2 hL2 hb3 hti hts
  have p0 := hP3.cell 0
  have p1 := hP3.cell 1
  cases hk : okB W xs with
  | false =>
    have hTe : T = [] := by rw [← hT.out, textW, hk]; rfl
    subst hTe
    have q1 : ((S []).toList == []) = true := by rw [S_list]; rfl
    have q2 : (S []).toList.isEmpty = true := by rw [S_list]; rfl
    go_wp2
    go_ret
    exact ⟨rfl, hL3⟩
  | true =>
    have hbd := okB_bd hk
    rw [hR3.1] at hbd
    obtain ⟨m, rfl⟩ : ∃ m : Nat, W = (m : Int) := ⟨W.toNat, by omega⟩
    have hTe : T = textL m xs := by rw [← hT.out, textW, hk, if_pos rfl, Int.toNat_natCast]
    have hne := text_ne hk
    rw [← hTe] at hne
    have hTl := textL_len hk
    rw [← hTe] at hTl
    have q1 : ((S T).toList == []) = false := by rw [S_list, beq_eq_false_iff_ne]; exact hne
    have q2 : (S T).toList.isEmpty = false := by rw [S_list]; cases T <;> simp at hne ⊢
    have q3 : (!(S T).toList.isEmpty) = true := by rw [q2]; rfl
    have hscr : rowsL (linesOf T) = scr m xs := by rw [hTe]; rfl
    have hrows := fun w => rowsOf_c T w (by omega)
    rw [hscr] at hrows
    obtain ⟨hx1, hx2⟩ := scr_exec hk
    have hRl := (scr_run hk).2.2
    have hca := fun w hD => impl_Execute_c (scr m xs) w hD
    rw [hx1] at hca
    have hCl := cellsT_len ((m : Int), xs)
    have hol : (okN xs.length).length ≤ 18 := by rw [okN_len, hR3.1]; omega
    have hlast := fun w => lastLine_c (execT (scr m xs)) w (by rw [hx1, List.length_append]; omega)
    rw [hx2, hx1] at hlast
    clear hx1 hx2 hne hscr
    have hrs := fun w hr => RowSums_k (m : Int) B a d xs w hr (by omega)
    have hcs := fun w hr => ColSums_k (m : Int) B a d xs w hr (by omega)
    rw [show rSums (m : Int) xs = rsum xs by rw [rSums, hk]; rfl] at hrs
    rw [show cSums (m : Int) xs = csum m xs by rw [cSums, hk, if_pos rfl, Int.toNat_natCast]] at hcs
    have hcx := scr_more hk (l := kSums) (by decide) (by decide)
    rw [show pcs 32 kSums = [kSums] by decide, step_Sums] at hcx
    simp only [hk, if_true, Int.toNat_natCast] at hcx
    have hrd := rsum_dig hk
    have hcd := csum_dig hk
    have hrl : (rsum xs).length = a := by simp [rsum, hR3.1]
    have hm6 : m ≤ 6 := by omega
    have hcl : (csum m xs).length = m := by simp [csum]
    have hr3 := decs_len (rsum xs)
    have hc3 := decs_len (csum m xs)
    obtain ⟨Z, hZ⟩ : ∃ Z : Bs, Hid (Z = tRowsW ++ decs (rsum xs) ++ tColsW ++ decs (csum m xs)) := ⟨_, Lib.hid rfl⟩
    have hcx : execT (scr m xs ++ [115, 117, 109, 115, 10]) = ((okN xs.length ++ Z) ++ [10]) ++ cellsT ((m : Int), xs) := by
      refine hcx.trans ?_
      rw [hZ.out]
      simp [askO]
    have hZl : Z.length ≤ 100 := by rw [hZ.out]; simp [tRowsW, tColsW]; omega
    have hcb := fun w hD => impl_Execute_c (scr m xs ++ [115, 117, 109, 115, 10]) w hD
    rw [hcx] at hcb
    have k1 : ∀ w, (Op.stringOp .add (S (scr m xs)) ({ data := #[115, 117, 109, 115, 10] } : ByteArray)).run Tryz.prog w = .ok (.string (S (scr m xs ++ [115, 117, 109, 115, 10]))) w := fun w => cat_ok (scr m xs) [115, 117, 109, 115, 10] (by simp; omega) w
    clear hcx
    generalize scr m xs ++ [115, 117, 109, 115, 10] = R2 at k1 hcb
    generalize scr m xs = R at k1 hca hrows
    generalize okN xs.length = O at hca hcb hlast hol
    generalize hCe : cellsT ((m : Int), xs) = C at hca hcb hlast hCl
    clear hCe
    have j1 : ∀ w, (Op.stringOp .add (S O) (S Z)).run Tryz.prog w = .ok (.string (S (O ++ Z))) w := fun w => cat_ok O Z (by omega) w
    have j2 : ∀ w, (Op.stringOp .add (S (O ++ Z)) ({ data := #[10] } : ByteArray)).run Tryz.prog w = .ok (.string (S ((O ++ Z) ++ [10]))) w := fun w => cat_ok (O ++ Z) [10] (by simp; omega) w
    have j3 : ∀ w, (Op.stringOp .add (S ((O ++ Z) ++ [10])) (S C)).run Tryz.prog w = .ok (.string (S (((O ++ Z) ++ [10]) ++ C))) w := fun w => cat_ok ((O ++ Z) ++ [10]) C (by simp; omega) w
    generalize ((O ++ Z) ++ [10]) ++ C = z at j3 hcb
    generalize ((O ++ Z) ++ [10]) = y2 at j2 j3
    generalize (O ++ Z) = y1 at j1 j2
    have hsl : ∀ w, (Instr.slice 9 (.string (S (O ++ C))) none (some (.int .i64 (O.length : Int))) none).run Tryz.prog w = .ok (.string (S O)) w := fun w => by
      have := slt_ok (O ++ C) O.length (by simp) w
      rwa [List.take_left] at this
    have hasz := S_size (O ++ C)
    have hCsz := S_size C
    have hab : (O ++ C).length = O.length + C.length := List.length_append
    obtain ⟨av, hav⟩ : ∃ av, Hid (O ++ C = av) := ⟨_, Lib.hid rfl⟩
    rw [hav.out] at hsl hasz hlast hca hab
    have ew : IntKind.i64.wrap ((av.length : Int) - (C.length : Int)) = (O.length : Int) := by rw [IntWalk.i64_in _ (by omega)]; omega
    have ei0 : (0 : Int) ≤ (O.length : Int) := by omega
    have ei1 : (O.length : Int) ≤ (av.length : Int) := by omega
    clear hab
    clear hTe hbd hk hT hr3 hc3
    generalize rsum xs = ys at hrs hrd hrl hZ
    generalize csum m xs = zs at hcs hcd hcl hZ
    go_wp2_with fail
    refine (hrs _ hR3).mono ?_
    rintro e w4 ⟨X, r, rc, rfl, hdd, hb4, hO4⟩
    have hr4 : r ≤ 6 := by have := hO4.rd.1; omega
    have hP4 := hP3.next hb4
    have hR4 := hR3.next hb4
    have hL4 := lo_trans hL3 hb4
    clear p0 p1 hrs hb4
    have p0 := hP4.cell 0
    have p1 := hP4.cell 1
    go_wp2_with fail
    refine (hcs _ hR4).mono ?_
    rintro e w5 ⟨Y, q, qc, rfl, hqd, hb5, hO5⟩
    have hq5 : q ≤ 6 := by have := hO5.rd.1; omega
    have hO4' := hO4.next hb5
    have hL5 := lo_trans hL4 hb5
    clear p0 p1 hcs hb5 hO4 hP3 hR3 hP4 hR4 hL3 hL4
    go_wp2
    have hyl := hO4'.rd.1
    have hyd := Lib.hid hrd
    have hdl := decs_len ys
    obtain ⟨P, hP0⟩ : ∃ P : Nat → Bs, P = fun k => tRowsW ++ decs (ys.take k) := ⟨_, rfl⟩
    have hPl : ∀ k, k ≤ r → (P k).length ≤ 200 := fun k hk => by
      have := decs_len (ys.take k)
      rw [hP0, List.length_append]
      rw [List.length_take] at this
      have hpx : (tRowsW).length ≤ 50 := by decide
      omega
    have hPs : Hid (∀ k, k < r → P (k + 1) = (P k ++ [32]) ++ digS [ys[k]?.getD 0]) := Lib.hid (fun k hk => by
      rw [hP0]
      exact dig_step _ (by omega) hyd.out)
    have hPz := Lib.hid (show P 0 = tRowsW by rw [hP0]; simp [decs])
    have hPe := Lib.hid (show P r = tRowsW ++ decs ys by rw [hP0, ← hyl]; simp)
    clear hP0 hdl
    have hyl' := Lib.hid hyl
    clear hyl
    go_loopw [6, 9] (fun v i wr => ∃ k : Nat, k ≤ r ∧ i = .int .i64 k ∧ v = .string (S (P k)) ∧ Below w5.heap.size w5 wr) (fun _ i _ => r - (intOf i).toNat)
    case atStart => exact ⟨0, Nat.zero_le _, rfl, by rw [hPz.out] <;> rfl, Below.refl _ _⟩
    case round =>
      obtain ⟨k, hk, rfl, rfl, hB⟩ := hrel
      by_cases hlt : k < r
      · obtain ⟨g, hg, _⟩ := hO4'.at_ hlt
        subst hg
        have hR1 := (hO4'.rd.next hB).one' hlt
        have hs1 := fun w => sl_one' g r rc k hlt hdd w
        have hkl : k < ys.length := by rw [hyl'.out]; exact hlt
        have hyk := hyd.out _ (mem_at hkl)
        have hst := hPs.out k hlt
        have hl1 := hPl k hk
        have hl2 := hPl (k + 1) (by omega)
        have c1 : ∀ w, (Op.stringOp .add (S (P k)) ({ data := #[32] } : ByteArray)).run Tryz.prog w = .ok (.string (S (P k ++ [32]))) w := fun w => cat_ok (P k) [32] (by simp; omega) w
        have c2 : ∀ w, (Op.stringOp .add (S (P k ++ [32])) (S (digS [ys[k]?.getD 0]))).run Tryz.prog w = .ok (.string (S (P (k + 1)))) w := fun w => by
          rw [hst] at hl2 ⊢
          exact cat_ok (P k ++ [32]) _ (by simp only [List.length_append] at hl2 ⊢; omega) w
        have hdg := fun w hr => digitsOf_c (some ⟨g, k, none⟩) 1 (rc - k) [ys[k]?.getD 0] w hr (by omega) (fun x hx => by rw [List.mem_singleton] at hx; subst hx; exact hyk)
        have hd1 : 1 ≤ rc - k := by omega
        generalize digS [ys[k]?.getD 0] = D at c2 hdg hst
        have hst' := Lib.hid hst
        obtain ⟨z, hz⟩ : ∃ z, Hid (P k ++ [32] = z) := ⟨_, Lib.hid rfl⟩
        rw [hz.out] at c1 c2
        clear hst hyk
        go_wp2_with fail
        refine (hdg _ hR1).mono ?_
        rintro e wd ⟨rfl, hbd⟩
        have hB2 := lo_trans hB hbd
        clear hbd hdg hR1 hB
        go_wp2
        go_roundw
        case rel => exact ⟨k + 1, by omega, by go_num, rfl, hB2⟩
        case measure => simp [intOf]; omega
      · obtain rfl : k = r := by omega
        have hL6 := lo_trans hL5 hB
        have hO6 := hO5.next hB
        rw [hPe.out]
        have hyl4 : (tRowsW ++ decs ys).length ≤ 30 := by have := decs_len ys; have := hyl'.out; simp [tRowsW]; omega
        have c3 : ∀ w, (Op.stringOp .add (S (tRowsW ++ decs ys)) ({ data := #[32, 99, 111, 108, 115] } : ByteArray)).run Tryz.prog w = .ok (.string (S (tRowsW ++ decs ys ++ tColsW))) w := fun w => cat_ok (tRowsW ++ decs ys) tColsW (by rw [show tColsW.length = 5 from rfl]; omega) w
        have hyl5 : (tRowsW ++ decs ys ++ tColsW).length ≤ 40 := by rw [List.length_append]; simp only [tColsW, List.length_cons, List.length_nil]; omega
        obtain ⟨PF, hPF⟩ : ∃ PF, Hid (tRowsW ++ decs ys ++ tColsW = PF) := ⟨_, Lib.hid rfl⟩
        rw [hPF.out] at c3 hyl5
        have hZ2 := Lib.hid (hZ.out.trans (by rw [hPF.out]))
        clear hPe hPz hPs hPl hyl' hyd hlt hk hB hZ hO5 hL5 hdd hrd hO4'
        generalize tRowsW ++ decs ys = PQ at c3
        clear hPF hyl4
        have hdd := hqd
        obtain ⟨wo, rfl⟩ : ∃ wo : World, wo = wr := ⟨_, rfl⟩
        clear hqd
        go_wp2
        have hyl := hO6.rd.1
        have hyd := Lib.hid hcd
        have hdl := decs_len zs
        obtain ⟨P, hP0⟩ : ∃ P : Nat → Bs, P = fun k => PF ++ decs (zs.take k) := ⟨_, rfl⟩
        have hPl : ∀ k, k ≤ q → (P k).length ≤ 200 := fun k hk => by
          have := decs_len (zs.take k)
          rw [hP0, List.length_append]
          rw [List.length_take] at this
          have hpx : (PF).length ≤ 50 := by omega
          omega
        have hPs : Hid (∀ k, k < q → P (k + 1) = (P k ++ [32]) ++ digS [zs[k]?.getD 0]) := Lib.hid (fun k hk => by
          rw [hP0]
          exact dig_step _ (by omega) hyd.out)
        have hPz := Lib.hid (show P 0 = PF by rw [hP0]; simp [decs])
        have hPe := Lib.hid (show P q = PF ++ decs zs by rw [hP0, ← hyl]; simp)
        clear hP0 hdl
        have hyl' := Lib.hid hyl
        clear hyl
        go_loopw [6, 10] (fun v i wr => ∃ k : Nat, k ≤ q ∧ i = .int .i64 k ∧ v = .string (S (P k)) ∧ Below wo.heap.size wo wr) (fun _ i _ => q - (intOf i).toNat)
        case atStart => exact ⟨0, Nat.zero_le _, rfl, by rw [hPz.out] <;> rfl, Below.refl _ _⟩
        case round =>
          obtain ⟨k, hk, rfl, rfl, hB⟩ := hrel
          by_cases hlt : k < q
          · obtain ⟨g, hg, _⟩ := hO6.at_ hlt
            subst hg
            have hR1 := (hO6.rd.next hB).one' hlt
            have hs1 := fun w => sl_one' g q qc k hlt hdd w
            have hkl : k < zs.length := by rw [hyl'.out]; exact hlt
            have hyk := hyd.out _ (mem_at hkl)
            have hst := hPs.out k hlt
            have hl1 := hPl k hk
            have hl2 := hPl (k + 1) (by omega)
            have c1 : ∀ w, (Op.stringOp .add (S (P k)) ({ data := #[32] } : ByteArray)).run Tryz.prog w = .ok (.string (S (P k ++ [32]))) w := fun w => cat_ok (P k) [32] (by simp; omega) w
            have c2 : ∀ w, (Op.stringOp .add (S (P k ++ [32])) (S (digS [zs[k]?.getD 0]))).run Tryz.prog w = .ok (.string (S (P (k + 1)))) w := fun w => by
              rw [hst] at hl2 ⊢
              exact cat_ok (P k ++ [32]) _ (by simp only [List.length_append] at hl2 ⊢; omega) w
            have hdg := fun w hr => digitsOf_c (some ⟨g, k, none⟩) 1 (qc - k) [zs[k]?.getD 0] w hr (by omega) (fun x hx => by rw [List.mem_singleton] at hx; subst hx; exact hyk)
            have hd1 : 1 ≤ qc - k := by omega
            generalize digS [zs[k]?.getD 0] = D at c2 hdg hst
            have hst' := Lib.hid hst
            obtain ⟨z, hz⟩ : ∃ z, Hid (P k ++ [32] = z) := ⟨_, Lib.hid rfl⟩
            rw [hz.out] at c1 c2
            clear hst hyk
            go_wp2_with fail
            refine (hdg _ hR1).mono ?_
            rintro e wd ⟨rfl, hbd⟩
            have hB2 := lo_trans hB hbd
            clear hbd hdg hR1 hB
            go_wp2
            go_roundw
            case rel => exact ⟨k + 1, by omega, by go_num, rfl, hB2⟩
            case measure => simp [intOf]; omega
          · obtain rfl : k = q := by omega
            have hL7 := lo_trans hL6 hB
            rw [hPe.out, ← hZ2.out]
            clear hPe hPz hPs hPl hyl' hyd hlt hk hB hO6 hL6 hdd hcd c3
            go_wp2_with fail
            refine (hrows _).mono ?_
            rintro e w6 ⟨rfl, rfl⟩
            go_wp2_with fail
            refine (hcb _ (hD.next hL7)).mono ?_
            rintro e w7 ⟨rfl, hb7⟩
            have hL17 := lo_trans hL7 hb7
            clear hcb hb7
            go_wp2_with fail
            refine (hrows _).mono ?_
            rintro e w8 ⟨rfl, rfl⟩
            go_wp2_with fail
            refine (hca _ (hD.next hL17)).mono ?_
            rintro e w9 ⟨rfl, hb9⟩
            have hL19 := lo_trans hL17 hb9
            clear hca hb9
            go_wp2
            go_region_held3 (fun _ => True)
              (trivial)
              (first
                | (go_at_call 18
                   refine (hlast _).mono ?_
                   rintro e w10 ⟨rfl, rfl⟩))
            go_wp2
            go_ret
            exact ⟨rfl, Below.drew hL19⟩
end Go.Proofs.YtpeiolimdglmhaaGreatDoor
