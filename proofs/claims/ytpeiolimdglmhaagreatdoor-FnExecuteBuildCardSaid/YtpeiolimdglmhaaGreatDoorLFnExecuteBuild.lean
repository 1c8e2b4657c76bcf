/- The walk of the law FnExecuteBuild: it returns true for every slice of bytes, where the table of directions is as the program lays it. -/
import Derived.Test.YtpeiolimdglmhaaGreatDoorZ40
import Derived.Test.YtpeiolimdglmhaaGreatDoorDq
import Derived.Test.YtpeiolimdglmhaaGreatDoorZ30
namespace Go.Proofs.YtpeiolimdglmhaaGreatDoor
open Go.RowKit
set_option maxRecDepth 100000

set_option maxHeartbeats 2000000 in
theorem law_ExecuteBuild (A : Option Addr) (n c : Nat) (w : World) (hr : RdB w A n) (hb : n ≤ maxLen ∧ n ≤ c) (hD : Dir w) :
    Calls Tryz.prog 10 #[.slice A n c] w fun e w' => e = .returned (.bool true) ∧ Below w.heap.size w w' := by
  obtain ⟨hl, hc⟩ := hb
  unfold maxLen at hl
  by_cases h : 1048576 < n
  · go_enter Tryz.func10, Tryz.ntmps10
    go_wp2
    go_ret
    exact ⟨rfl, Below.refl _ _⟩
  go_enter Tryz.func10, Tryz.ntmps10
  go_wp2_with fail
  refine (DrawBuildImage_c A n c _ hr (by omega) hc).mono ?_
  rintro e w1 ⟨R, a, c1, Q, b, c2, xs, ys, rfl, ha, hb, hac, hbc, hR, hQ, hL⟩
  have himp := fun w hr hq => BuildImage_x R Q a b c1 c2 xs ys w hr hq (by omega) (by omega)
  have hspc := fun w hr hq => spec_BuildImage_x R Q a b c1 c2 xs ys w hr hq (by omega) (by omega)
  obtain ⟨M, hM⟩ : ∃ M, Hid (bldW xs ys = M) := ⟨_, Lib.hid rfl⟩
  obtain ⟨zs, hzs⟩ : ∃ zs, Hid (bldX xs ys = zs) := ⟨_, Lib.hid rfl⟩
  rw [hM.out, hzs.out] at himp hspc
  go_wp2_with fail
  refine (himp _ hR.rd hQ.rd).mono ?_
  rintro e w2 ⟨X, r, k, rfl, hb2, hX⟩
  have hP := Blk.new w2 25 #[.int .i64 M, .slice X r k]
  have hX2 := hX.alloc (.cells #[.int .i64 M, .slice X r k] 25)
  have hR2 := (hR.next hb2).alloc (.cells #[.int .i64 M, .slice X r k] 25)
  have hQ2 := (hQ.next hb2).alloc (.cells #[.int .i64 M, .slice X r k] 25)
  have hL2 := lo_alloc (lo_trans hL hb2) (.cells #[.int .i64 M, .slice X r k] 25)
  clear himp hb2 hX hR hQ hL
  go_wp2_with fail
  refine (hspc _ hR2.rd hQ2.rd).mono ?_
  rintro e w3 ⟨Y, q, l, rfl, hb3, hY⟩
  have hS := Blk.new w3 25 #[.int .i64 M, .slice Y q l]
  have hY3 := hY.alloc (.cells #[.int .i64 M, .slice Y q l] 25)
  have hP3 := (hP.next hb3).alloc (.cells #[.int .i64 M, .slice Y q l] 25)
  have hX3 := (hX2.next hb3).alloc (.cells #[.int .i64 M, .slice Y q l] 25)
  have hR3 := (hR2.next hb3).alloc (.cells #[.int .i64 M, .slice Y q l] 25)
  have hQ3 := (hQ2.next hb3).alloc (.cells #[.int .i64 M, .slice Y q l] 25)
  have hL3 := lo_alloc (lo_trans hL2 hb3) (.cells #[.int .i64 M, .slice Y q l] 25)
  clear hspc hb3 hX2 hR2 hQ2 hL2 hP hY
  have p0 := hP3.cell 0
  have p1 := hP3.cell 1
  have q0 := hS.cell 0
  have q1 := hS.cell 1
  have hz12 : zs.length ≤ 100 := by
    rw [← hzs.out, bldX]
    split
    · next hcb =>
      have hs : sV xs ys = true := by
        rw [consB, Bool.and_eq_true, Bool.and_eq_true] at hcb
        exact hcb.1.1
      have := sV_out hs
      simp [img]; omega
    · simp
  replace hz12 : r ≤ 100 := by have := hX3.rd.1; omega
  cases hcb : consB xs ys with
  | false =>
    clear hcb
    go_wp2_with fail
    refine (lsameImage_t _ _ _ _ _ _ _ zs _ hX3.rd hY3.rd (by omega)).mono ?_
    rintro e w4 ⟨rfl, hb4⟩
    have hP4 := hP3.next hb4
    have hS4 := hS.next hb4
    have hX4 := hX3.next hb4
    have hY4 := hY3.next hb4
    have hL4 := lo_trans hL3 hb4
    clear p0 p1 q0 q1 hb4 hP3 hS hX3 hY3 hL3
    have p0 := hP4.cell 0
    have p1 := hP4.cell 1
    have q0 := hS4.cell 0
    have q1 := hS4.cell 1
    go_wp2_with fail
    refine (lsameImage_t _ _ _ _ _ _ _ zs _ hX4.rd hY4.rd (by omega)).mono ?_
    rintro e w5 ⟨rfl, hb5⟩
    have hL5 := lo_trans hL4 hb5
    clear hb5
    go_wp2
    go_ret
    exact ⟨rfl, hL5⟩
  | true =>
    obtain ⟨m, zs', e1, e2, hk, hex, hla⟩ := build_exec hcb
    obtain rfl : zs' = zs := e2.symm.trans hzs.out
    obtain rfl : M = (m : Int) := hM.out.symm.trans e1
    have hs : sV xs ys = true := by
      rw [consB, Bool.and_eq_true, Bool.and_eq_true] at hcb
      exact hcb.1.1
    obtain ⟨h1, h2, h3, h4, h5, h6⟩ := sV_out hs
    have hxd := Lib.hid (fun x hx => by have := h5 x hx; omega : ∀ x ∈ xs, 0 ≤ x ∧ x ≤ 9)
    have hyd := Lib.hid (fun x hx => by have := h6 x hx; omega : ∀ x ∈ ys, 0 ≤ x ∧ x ≤ 9)
    have hx6 := digS_len xs
    have hy6 := digS_len ys
    have htl := textL_len hk
    have htx := fun w hr => text_impl (m : Int) X r k zs' w hr (by omega)
    rw [show textW (m : Int) zs' = textL m zs' by rw [textW, hk, if_pos rfl, Int.toNat_natCast]] at htx
    have hCl := cellsT_len ((m : Int), zs')
    clear h5 h6 hs hcb e1 e2 hk hM hzs
    have hxc := fun w hD => impl_Execute_c (kBuild ++ [32] ++ digS xs ++ [32] ++ digS ys ++ [10, 115, 104, 111, 119, 10]) w hD
    rw [hex] at hxc
    generalize textL m zs' = T at htl htx hxc hla
    generalize cellsT ((m : Int), zs') = C at hCl hxc hla
    have hlast := fun w => lastLine_c (([111, 107, 10] ++ T) ++ C) w (by simp; omega)
    rw [hla] at hlast
    have j1 : ∀ w, (Op.stringOp .add ({ data := #[111, 107, 10] } : ByteArray) (S T)).run Tryz.prog w = .ok (.string (S ([111, 107, 10] ++ T))) w := fun w => cat_ok [111, 107, 10] T (by simp; omega) w
    have j2 : ∀ w, (Op.stringOp .add (S ([111, 107, 10] ++ T)) (S C)).run Tryz.prog w = .ok (.string (S (([111, 107, 10] ++ T) ++ C))) w := fun w => cat_ok ([111, 107, 10] ++ T) C (by simp; omega) w
    generalize ([111, 107, 10] ++ T) ++ C = z at hxc hlast j2
    generalize [111, 107, 10] ++ T = y1 at j1 j2
    clear hex hla
    go_wp2_with fail
    refine (lsameImage_t _ _ _ _ _ _ _ zs' _ hX3.rd hY3.rd (by omega)).mono ?_
    rintro e w4 ⟨rfl, hb4⟩
    have hP4 := hP3.next hb4
    have hX4 := hX3.next hb4
    have hR4 := hR3.next hb4
    have hQ4 := hQ3.next hb4
    have hL4 := lo_trans hL3 hb4
    clear p0 p1 q0 q1 hb4 hP3 hS hX3 hY3 hL3 hR3 hQ3
    go_wp2
    obtain ⟨pf, hpf⟩ : ∃ pf : Bs, Hid ([98, 117, 105, 108, 100, 32] = pf) := ⟨_, Lib.hid rfl⟩
    have hpfl : pf.length = 6 := by rw [← hpf.out]; rfl
    have hdig := hxd
    have hxlen : xs.length = a := hR4.rd.1
    rw [show (Value.string ({ data := #[98, 117, 105, 108, 100, 32] } : ByteArray)) = .string (S pf) from by rw [← hpf.out]; rfl]
    have hxl := hR4.rd.1
    obtain ⟨P, hP0⟩ : ∃ P : Nat → Bs, P = fun k => pf ++ digS (xs.take k) := ⟨_, rfl⟩
    have hPl : ∀ k, (P k).length ≤ 200 := fun k => by
      rw [hP0, List.length_append, digS_len, List.length_take]
      have hpx : (pf).length ≤ 50 := by omega
      omega
    have hPs : Hid (∀ k, k < a → P (k + 1) = P k ++ [UInt8.ofNat (48 + (xs[k]?.getD 0).toNat)]) := Lib.hid (fun k hk => by
      rw [hP0]
      show pf ++ digS (xs.take (k + 1)) = _
      rw [digS_take (by omega), List.append_assoc])
    have hPz := Lib.hid (show P 0 = pf by rw [hP0]; simp [digS])
    have hPe := Lib.hid (show P a = pf ++ digS xs by rw [hP0, ← hxl]; simp)
    clear hP0
    have hxl' := Lib.hid hxl
    clear hxl
    go_loopw [9, 10] (fun v i wr => ∃ k : Nat, k ≤ a ∧ i = .int .i64 k ∧ v = .string (S (P k)) ∧ Below w4.heap.size w4 wr) (fun _ i _ => a - (intOf i).toNat)
    case atStart => exact ⟨0, Nat.zero_le _, rfl, by rw [hPz.out] <;> rfl, Below.refl _ _⟩
    case round =>
      obtain ⟨k, hk, rfl, rfl, hB⟩ := hrel
      by_cases hlt : k < a
      · obtain ⟨b9, off, hg, hb9, hc9⟩ := (hR4.rd.next hB).at_ hlt
        subst hg
        have hkl : k < xs.length := by rw [hxl'.out]; exact hlt
        have hyk := hdig.out _ (mem_at hkl)
        have hst := hPs.out k hlt
        obtain ⟨q9, hq9⟩ : ∃ q : Nat, xs[k]?.getD 0 = (q : Int) := ⟨_, (Int.toNat_of_nonneg hyk.1).symm⟩
        rw [hq9] at hc9 hst hyk
        rw [Int.toNat_natCast] at hst
        have hl1 := hPl k
        have hcv := conv_ok (48 + q9) wr.heap.size (by omega) _ (Blk.new wr 5 #[.int .u8 (((48 + q9 : Nat) : Nat) : Int)])
        have e1 : ((48 + q9 : Nat) : Int) = 48 + (q9 : Int) := by omega
        rw [e1] at hcv
        have hct := fun w => cat_ok (P k) [UInt8.ofNat (48 + q9)] (by simp; omega) w
        rw [← hst] at hct
        have hB3 := lo_alloc hB (.cells #[.int .u8 (48 + (q9 : Int))] 5)
        generalize UInt8.ofNat (48 + q9) = ch at hcv hct hst
        clear hst e1 hq9 hl1 hB
        go_wp2
        go_roundw
        case rel => exact ⟨k + 1, by omega, by go_num, rfl, hB3⟩
        case measure => simp [intOf]; omega
      · obtain rfl : k = a := by omega
        have hL6 := lo_trans hL4 hB
        have hP6 := hP4.next hB
        have hX6 := hX4.next hB
        have hQ6 := hQ4.next hB
        rw [hPe.out]
        have hql : (pf ++ digS xs).length ≤ 30 := by rw [List.length_append]; omega
        have c3 : ∀ w, (Op.stringOp .add (S (pf ++ digS xs)) ({ data := #[32] } : ByteArray)).run Tryz.prog w = .ok (.string (S (pf ++ digS xs ++ [32]))) w := fun w => cat_ok (pf ++ digS xs) [32] (by rw [show ([32] : Bs).length = 1 from rfl]; omega) w
        have hql5 : (pf ++ digS xs ++ [32]).length ≤ 40 := by rw [List.length_append, show ([32] : Bs).length = 1 from rfl]; omega
        obtain ⟨PF, hPF⟩ : ∃ PF, Hid (pf ++ digS xs ++ [32] = PF) := ⟨_, Lib.hid rfl⟩
        rw [hPF.out] at c3 hql5
        clear hPe hPz hPs hPl hxl' hdig hlt hk hB hL4 hP4 hX4 hQ4 hR4
        generalize pf ++ digS xs = PQ at c3 hql
        obtain ⟨wo, rfl⟩ : ∃ wo : World, wo = wr := ⟨_, rfl⟩
        have hdig := hyd
        have hylen : ys.length = b := hQ6.rd.1
        go_wp2
        have hxl := hQ6.rd.1
        obtain ⟨P, hP0⟩ : ∃ P : Nat → Bs, P = fun k => PF ++ digS (ys.take k) := ⟨_, rfl⟩
        have hPl : ∀ k, (P k).length ≤ 200 := fun k => by
          rw [hP0, List.length_append, digS_len, List.length_take]
          have hpx : (PF).length ≤ 50 := by omega
          omega
        have hPs : Hid (∀ k, k < b → P (k + 1) = P k ++ [UInt8.ofNat (48 + (ys[k]?.getD 0).toNat)]) := Lib.hid (fun k hk => by
          rw [hP0]
          show PF ++ digS (ys.take (k + 1)) = _
          rw [digS_take (by omega), List.append_assoc])
        have hPz := Lib.hid (show P 0 = PF by rw [hP0]; simp [digS])
        have hPe := Lib.hid (show P b = PF ++ digS ys by rw [hP0, ← hxl]; simp)
        clear hP0
        have hxl' := Lib.hid hxl
        clear hxl
        go_loopw [9, 11] (fun v i wr => ∃ k : Nat, k ≤ b ∧ i = .int .i64 k ∧ v = .string (S (P k)) ∧ Below wo.heap.size wo wr) (fun _ i _ => b - (intOf i).toNat)
        case atStart => exact ⟨0, Nat.zero_le _, rfl, by rw [hPz.out] <;> rfl, Below.refl _ _⟩
        case round =>
          obtain ⟨k, hk, rfl, rfl, hB⟩ := hrel
          by_cases hlt : k < b
          · obtain ⟨b9, off, hg, hb9, hc9⟩ := (hQ6.rd.next hB).at_ hlt
            subst hg
            have hkl : k < ys.length := by rw [hxl'.out]; exact hlt
            have hyk := hdig.out _ (mem_at hkl)
            have hst := hPs.out k hlt
            obtain ⟨q9, hq9⟩ : ∃ q : Nat, ys[k]?.getD 0 = (q : Int) := ⟨_, (Int.toNat_of_nonneg hyk.1).symm⟩
            rw [hq9] at hc9 hst hyk
            rw [Int.toNat_natCast] at hst
            have hl1 := hPl k
            have hcv := conv_ok (48 + q9) wr.heap.size (by omega) _ (Blk.new wr 5 #[.int .u8 (((48 + q9 : Nat) : Nat) : Int)])
            have e1 : ((48 + q9 : Nat) : Int) = 48 + (q9 : Int) := by omega
            rw [e1] at hcv
            have hct := fun w => cat_ok (P k) [UInt8.ofNat (48 + q9)] (by simp; omega) w
            rw [← hst] at hct
            have hB3 := lo_alloc hB (.cells #[.int .u8 (48 + (q9 : Int))] 5)
            generalize UInt8.ofNat (48 + q9) = ch at hcv hct hst
            clear hst e1 hq9 hl1 hB
            go_wp2
            go_roundw
            case rel => exact ⟨k + 1, by omega, by go_num, rfl, hB3⟩
            case measure => simp [intOf]; omega
          · obtain rfl : k = b := by omega
            have hL7 := lo_trans hL6 hB
            have hP7 := hP6.next hB
            have hX7 := hX6.next hB
            have hql6 : (PF ++ digS ys).length ≤ 60 := by rw [List.length_append]; omega
            have c4 : ∀ w, (Op.stringOp .add (S (PF ++ digS ys)) ({ data := #[10, 115, 104, 111, 119, 10] } : ByteArray)).run Tryz.prog w = .ok (.string (S (PF ++ digS ys ++ [10, 115, 104, 111, 119, 10]))) w := fun w => cat_ok (PF ++ digS ys) [10, 115, 104, 111, 119, 10] (by rw [show ([10, 115, 104, 111, 119, 10] : Bs).length = 6 from rfl]; omega) w
            rw [show kBuild ++ [32] ++ digS xs ++ [32] ++ digS ys ++ [10, 115, 104, 111, 119, 10] = PF ++ digS ys ++ [10, 115, 104, 111, 119, 10] by rw [← hPF.out, ← hpf.out]; rfl] at hxc
            rw [hPe.out]
            clear hPe hPz hPs hPl hxl' hdig hlt hk hB hL6 hP6 hX6 hQ6 c3
            generalize PF ++ digS ys ++ [10, 115, 104, 111, 119, 10] = TX at c4 hxc
            generalize PF ++ digS ys = TY at c4
            go_wp2_with fail
            refine (hxc _ (hD.next hL7)).mono ?_
            rintro e w8 ⟨rfl, hb8⟩
            have hL8 := lo_trans hL7 hb8
            have hP8 := hP7.next hb8
            have hX8 := hX7.next hb8
            have p0 := hP8.cell 0
            have p1 := hP8.cell 1
            clear hxc hb8
            go_wp2_with fail
            refine (htx _ hX8.rd).mono ?_
            rintro e w9 ⟨rfl, hb9⟩
            have hL9 := lo_trans hL8 hb9
            clear htx hb9
            go_wp2_with fail
            refine (hlast _).mono ?_
            rintro e w10 ⟨rfl, rfl⟩
            clear hlast
            go_wp2
            go_ret
            exact ⟨rfl, hL9⟩
end Go.Proofs.YtpeiolimdglmhaaGreatDoor
