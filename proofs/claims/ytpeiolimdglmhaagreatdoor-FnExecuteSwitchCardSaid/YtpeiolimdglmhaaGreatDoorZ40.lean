/- Plain facts and walks that the law's proof uses; each says its own conditions. -/
import Derived.Test.YtpeiolimdglmhaaGreatDoorZ39
import Derived.Test.YtpeiolimdglmhaaGreatDoorZ32
-- Walks: SwitchDo where the switch does not fit; what a script with a switch says.
namespace Go.Proofs.YtpeiolimdglmhaaGreatDoor
open Go.RowKit
set_option maxRecDepth 100000

set_option maxHeartbeats 4000000 in
theorem impl_SwitchDo_no (W : Int) (n c' : Nat) (A : Option Addr) (xs : List Int) (a b c d : Int) (w : World) (hr : Rd w A n xs) (hn : n ≤ 1000) (hno : exSwitch (W, xs) a b c d = none) :
    Calls Tryz.prog 29 #[.agg #[.int .i64 W, .slice A n c'], .agg #[.int .i64 a, .int .i64 b, .int .i64 c, .int .i64 d]] w fun e w' => e = .returned (.tuple #[.agg #[.int .i64 0, .slice none 0 0], .bool false]) ∧ Below w.heap.size w w' := by
  have hk0 : Blk (((w.alloc (.cells #[.int .i64 W, .slice A n c'] 25)).alloc (.cells #[.int .i64 a, .int .i64 b, .int .i64 c, .int .i64 d] 44)).alloc (.cells #[.int .i64 0, .slice none 0 0] 25)) w.heap.size 25 #[.int .i64 W, .slice A n c'] :=
    ((Blk.new w 25 #[.int .i64 W, .slice A n c']).alloc _).alloc _
  have hk1 := (heap_at2 w (.cells #[.int .i64 W, .slice A n c'] 25) 44 #[.int .i64 a, .int .i64 b, .int .i64 c, .int .i64 d]).alloc (.cells #[.int .i64 0, .slice none 0 0] 25)
  have hk2 : Blk (((w.alloc (.cells #[.int .i64 W, .slice A n c'] 25)).alloc (.cells #[.int .i64 a, .int .i64 b, .int .i64 c, .int .i64 d] 44)).alloc (.cells #[.int .i64 0, .slice none 0 0] 25)) (w.heap.size + 1 + 1) 25 #[.int .i64 0, .slice none 0 0] := by
    have := heap_at2 (w.alloc (.cells #[.int .i64 W, .slice A n c'] 25)) (.cells #[.int .i64 a, .int .i64 b, .int .i64 c, .int .i64 d] 44) 25 #[.int .i64 0, .slice none 0 0]
    simpa using this
  have hB0 := lo_alloc (lo_alloc (lo_alloc (Below.refl w.heap.size w) (.cells #[.int .i64 W, .slice A n c'] 25)) (.cells #[.int .i64 a, .int .i64 b, .int .i64 c, .int .i64 d] 44)) (.cells #[.int .i64 0, .slice none 0 0] 25)
  have hR0 := hr.next hB0
  have hs : swFit W xs a b c d = false := by
    rw [exSwitch_def] at hno
    cases hs : swFit W xs a b c d with
    | false => rfl
    | true => rw [hs] at hno; cases hno
  have hs' := Lib.hid hs
  clear hs
  go_enter Tryz.func29, Tryz.ntmps29
  go_wp2_with fail
  refine (impl_SwitchOk_c W n c' A xs a b c d _ hR0 hn).mono ?_
  rw [hs'.out]
  rintro e w1 ⟨rfl, hb1⟩
  have k2 := hk2.next hb1
  have d0 := k2.cell 0
  have d1 := k2.cell 1
  have f0 := k2.frozen 0
  have f1 := k2.frozen 1
  have hF := (k2.set_ 0 (.int .i64 0)).set_ 1 (.slice none 0 0)
  have r0 := hF.cell 0
  have r1 := hF.cell 1
  have hL1 : Below w.heap.size w ((w1.setCell ⟨w.heap.size + 1 + 1, 0, none⟩ (.int .i64 0)).setCell ⟨w.heap.size + 1 + 1, 1, none⟩ (.slice none 0 0)) := lo_set (lo_set (lo_trans hB0 hb1) (by simp; omega) _) (by simp; omega) _
  clear hF k2 hk0 hk1 hk2
  go_wp2
  refine bodyPost_ret (v := .tuple #[.agg #[.int .i64 0, .slice none 0 0], .bool false]) (by simp [results, Tryz.results29, go_sem, r0, r1]) rfl ⟨rfl, hL1⟩
set_option maxHeartbeats 4000000 in
theorem spec_SwitchDo_no (W : Int) (n c' : Nat) (A : Option Addr) (xs : List Int) (a b c d : Int) (w : World) (hr : Rd w A n xs) (hn : n ≤ 1000) (hb : -1000 ≤ b ∧ b ≤ 1000) (hd : -1000 ≤ d ∧ d ≤ 1000) (hno : exSwitch (W, xs) a b c d = none) :
    Calls Tryz.prog 30 #[.agg #[.int .i64 W, .slice A n c'], .agg #[.int .i64 a, .int .i64 b, .int .i64 c, .int .i64 d]] w fun e w' => e = .returned (.tuple #[.agg #[.int .i64 0, .slice none 0 0], .bool false]) ∧ Below w.heap.size w w' := by
  have hk0 : Blk (((w.alloc (.cells #[.int .i64 W, .slice A n c'] 25)).alloc (.cells #[.int .i64 a, .int .i64 b, .int .i64 c, .int .i64 d] 44)).alloc (.cells #[.int .i64 0, .slice none 0 0] 25)) w.heap.size 25 #[.int .i64 W, .slice A n c'] :=
    ((Blk.new w 25 #[.int .i64 W, .slice A n c']).alloc _).alloc _
  have hk1 := (heap_at2 w (.cells #[.int .i64 W, .slice A n c'] 25) 44 #[.int .i64 a, .int .i64 b, .int .i64 c, .int .i64 d]).alloc (.cells #[.int .i64 0, .slice none 0 0] 25)
  have hk2 : Blk (((w.alloc (.cells #[.int .i64 W, .slice A n c'] 25)).alloc (.cells #[.int .i64 a, .int .i64 b, .int .i64 c, .int .i64 d] 44)).alloc (.cells #[.int .i64 0, .slice none 0 0] 25)) (w.heap.size + 1 + 1) 25 #[.int .i64 0, .slice none 0 0] := by
    have := Blk.new ((w.alloc (.cells #[.int .i64 W, .slice A n c'] 25)).alloc (.cells #[.int .i64 a, .int .i64 b, .int .i64 c, .int .i64 d] 44)) 25 #[.int .i64 0, .slice none 0 0]
    simpa using this
  have hB0 := lo_alloc (lo_alloc (lo_alloc (Below.refl w.heap.size w) (.cells #[.int .i64 W, .slice A n c'] 25)) (.cells #[.int .i64 a, .int .i64 b, .int .i64 c, .int .i64 d] 44)) (.cells #[.int .i64 0, .slice none 0 0] 25)
  have hR0 := hr.next hB0
  have p0 := hk0.cell 0
  have p1 := hk0.cell 1
  have s0 := hk1.cell 0
  have s1 := hk1.cell 1
  have s2 := hk1.cell 2
  have s3 := hk1.cell 3
  have hs : swFit W xs a b c d = false := by
    rw [exSwitch_def] at hno
    cases hs : swFit W xs a b c d with
    | false => rfl
    | true => rw [hs] at hno; cases hno
  have hs' := Lib.hid hs
  clear hs
  go_enter Tryz.func30, Tryz.ntmps30
  go_wp2_with fail
  refine (spec_SwitchOk_c W n c' A xs a b c d _ hR0 hn hb hd).mono ?_
  rw [hs'.out]
  rintro e w1 ⟨rfl, hb1⟩
  have k2 := hk2.next hb1
  have d0 := k2.cell 0
  have d1 := k2.cell 1
  have f0 := k2.frozen 0
  have f1 := k2.frozen 1
  have hF := (k2.set_ 0 (.int .i64 0)).set_ 1 (.slice none 0 0)
  have r0 := hF.cell 0
  have r1 := hF.cell 1
  have hL1 : Below w.heap.size w ((w1.setCell ⟨w.heap.size + 1 + 1, 0, none⟩ (.int .i64 0)).setCell ⟨w.heap.size + 1 + 1, 1, none⟩ (.slice none 0 0)) := lo_set (lo_set (lo_trans hB0 hb1) (by simp; omega) _) (by simp; omega) _
  clear hF k2 hk0 hk1 hk2 p0 p1 s0 s1 s2 s3
  go_wp2
  exact bodyPost_ret (v := .tuple #[.agg #[.int .i64 0, .slice none 0 0], .bool false]) (by simp [results, Tryz.results30, go_sem, r0, r1]) rfl ⟨rfl, hL1⟩

theorem manyI_sumS {m : Nat} {xs ys : List Int} (h1 : okB (m : Int) xs = true) (h2 : okB (m : Int) ys = true) (h : rsum ys = rsum xs) : manyI ((m : Int), ys) = manyI ((m : Int), xs) := by
  have hl : ys.length = xs.length := by have := congrArg List.length h; simpa [rsum] using this
  unfold manyI
  simp only [h1, h2, if_true, hl]
  refine sumN_congr fun i hi => ?_
  have := congrArg (fun l => l[i]?.getD 0) h
  simp only [rsum, List.getElem?_map, List.getElem?_eq_getElem (show i < ys.length by omega), List.getElem?_eq_getElem hi, Option.map_some, Option.getD_some] at this
  rw [List.getElem?_eq_getElem (show i < ys.length by omega), List.getElem?_eq_getElem hi, Option.getD_some, Option.getD_some]
  omega
theorem exSwitch_some {W : Int} {xs : List Int} {a b c d : Int} {z : Ig} (h : exSwitch (W, xs) a b c d = some z) : ∃ (m : Nat) (ys : List Int), W = (m : Int) ∧ okB (m : Int) xs = true ∧ z = ((m : Int), ys) ∧ okB (m : Int) ys = true ∧ rsum ys = rsum xs := by
  unfold exSwitch at h
  split at h
  · next hf =>
    simp only [Bool.and_eq_true] at hf
    obtain ⟨⟨hk, hi⟩, ho⟩ := hf
    obtain ⟨i1, i2, i3, i4, i5, i6⟩ := swIn_yes hi
    have hb := okB_bd hk
    obtain ⟨m, rfl⟩ : ∃ m : Nat, W = (m : Int) := ⟨W.toNat, by omega⟩
    have hs : (⟨a.toNat, b.toNat, c.toNat, d.toNat⟩ : Sw) ∈ swList m xs := mem_swList.2 ⟨⟨by simp only; omega, by simp only; omega, by simp only; omega, by simp only; omega⟩, ho⟩
    have h2 := swDo_ok2 hk ⟨a.toNat, b.toNat, c.toNat, d.toNat⟩
    have h3 := (swDo_sums hk hs).1
    rw [rSums, rSums, h2, hk, if_pos rfl, if_pos rfl] at h3
    exact ⟨m, _, rfl, hk, (Option.some.inj h).symm.trans (by simp only [Int.toNat_natCast]), h2, h3⟩
  · cases h
theorem switch_exec {m : Nat} {xs ys : List Int} {a b c d : Nat} (hk : okB (m : Int) xs = true) (hky : okB (m : Int) ys = true) (hs : rsum ys = rsum xs) (h : exSwitch ((m : Int), xs) a b c d = some ((m : Int), ys)) (h6 : a ≤ 6 ∧ b ≤ 6 ∧ c ≤ 6 ∧ d ≤ 6) :
    execT (scr m xs ++ (kSwitch ++ [32] ++ digS [(a : Int)] ++ [32] ++ digS [(b : Int)] ++ [32] ++ digS [(c : Int)] ++ [32] ++ digS [(d : Int)] ++ [10] ++ kShow ++ [10])) = ((okN xs.length ++ [111, 107, 10]) ++ textL m ys) ++ cellsT ((m : Int), xs) := by
  have one : ∀ q : Nat, q ≤ 6 → ∀ x ∈ [(q : Int)], 0 ≤ x ∧ x ≤ 9 := fun q hq x hx => by rw [List.mem_singleton] at hx; subst hx; omega
  have l1 : ∀ q : Nat, (digS [(q : Int)]).length = 1 := fun q => digS_len _
  have e : pcs 32 (kSwitch ++ [32] ++ digS [(a : Int)] ++ [32] ++ digS [(b : Int)] ++ [32] ++ digS [(c : Int)] ++ [32] ++ digS [(d : Int)]) = [kSwitch, digS [(a : Int)], digS [(b : Int)], digS [(c : Int)], digS [(d : Int)]] := by
    have h0 := pcs_cat 32 kSwitch (digS [(a : Int)] ++ 32 :: (digS [(b : Int)] ++ 32 :: (digS [(c : Int)] ++ 32 :: digS [(d : Int)])))
    rw [pcs_cat 32 (digS [(a : Int)]), pcs_cat 32 (digS [(b : Int)]), pcs_cat 32 (digS [(c : Int)]), pcs_none (digS_no (c := 32) (by decide) (one a h6.1)), pcs_none (digS_no (c := 32) (by decide) (one b h6.2.1)), pcs_none (digS_no (c := 32) (by decide) (one c h6.2.2.1)), pcs_none (digS_no (c := 32) (by decide) (one d h6.2.2.2)), pcs_none (show (32 : UInt8) ∉ kSwitch by decide)] at h0
    simpa using h0
  have n1 : (10 : UInt8) ∉ kSwitch ++ [32] ++ digS [(a : Int)] ++ [32] ++ digS [(b : Int)] ++ [32] ++ digS [(c : Int)] ++ [32] ++ digS [(d : Int)] := by
    have a1 := digS_no (c := 10) (by decide) (one a h6.1)
    have a2 := digS_no (c := 10) (by decide) (one b h6.2.1)
    have a3 := digS_no (c := 10) (by decide) (one c h6.2.2.1)
    have a4 := digS_no (c := 10) (by decide) (one d h6.2.2.2)
    simp only [List.mem_append, not_or]
    exact ⟨⟨⟨⟨⟨⟨⟨⟨by decide, by decide⟩, a1⟩, by decide⟩, a2⟩, by decide⟩, a3⟩, by decide⟩, a4⟩
  have s1 : stepS ((m : Int), xs) (pcs 32 (kSwitch ++ [32] ++ digS [(a : Int)] ++ [32] ++ digS [(b : Int)] ++ [32] ++ digS [(c : Int)] ++ [32] ++ digS [(d : Int)])) = (((m : Int), ys), [111, 107, 10]) := by
    rw [e, step_Switch, dgt_digS (by omega), dgt_digS (by omega), dgt_digS (by omega), dgt_digS (by omega), h]
    rfl
  have s2 : stepS ((m : Int), ys) (pcs 32 kShow) = (((m : Int), ys), textL m ys) := by
    rw [show pcs 32 kShow = [kShow] by decide]
    exact show_step hky
  have hx := scr_two hk n1 (by decide) (by simp [l1, kSwitch]) (by decide) s1 s2
  rw [show cellsT ((m : Int), ys) = cellsT ((m : Int), xs) by rw [cellsT, cellsT, manyI_sumS hk hky hs]] at hx
  exact hx
end Go.Proofs.YtpeiolimdglmhaaGreatDoor
