/- Plain facts and walks that the law's proof uses; each says its own conditions. -/
import Derived.Test.YteabnljjogiflaaGreatDoorZ39
-- Walks: lines that change the image: clear, build, switch, next; the other lines (the reference's way). Printed by wip/mkch.py.
namespace Go.Proofs.YteabnljjogiflaaGreatDoor
open Go.RowKit
set_option maxRecDepth 100000

theorem spec_BuildImage_3 (A B : Option Addr) (n m c d : Nat) (xs ys : List Int) (w : World) (hr : Rd w A n xs) (hq : Rd w B m ys) (hn : n ≤ 1048576) (hm : m ≤ 1048576) :
    Calls Tryz.prog 33 #[.slice A n c, .slice B m d] w (Img3 w (exBuild xs ys)) := by
  refine (spec_BuildImage_x A B n m c d xs ys w hr hq hn hm).mono fun e w' ⟨R, r, k, he, hb, ho⟩ => ⟨bldW xs ys, R, r, k, ?_, hb, fun z hz => ?_⟩
  · rw [he, exBuild]
    cases consB xs ys <;> rfl
  · rw [exBuild] at hz
    split at hz
    · cases hz; exact ⟨rfl, ho⟩
    · cases hz

set_option maxHeartbeats 4000000 in
theorem change_Clear (W : Int) (A : Option Addr) (n c g cw : Nat) (xs : List Int) (w : World) (hr : ImR w A n c xs) (hw : WB w g [kClear]) :
    Calls Tryz.prog 16 #[.agg #[.int .i64 W, .slice A n c], .slice (some ⟨g, 0, none⟩) 1 cw] w (ChP w A (stepS (W, xs) [kClear])) := by
  obtain ⟨P, hP⟩ : ∃ P, P = stepS (W, xs) [kClear] := ⟨_, rfl⟩
  rw [← hP]
  rw [step_Clear] at hP
  replace hP := Lib.hid hP
  have hn6 := hr.2.1
  obtain ⟨w3, hw3, kP, kQ, kB, hL, hz⟩ := ch_setup w W A n c
  have hr3 := hr.next hL
  have hw3' := hw.next hL
  have hx0 := hw3'.get (k := 0) (x := kClear) rfl
  rw [hw3] at hx0
  have qRow : ((S kClear).toList == [114, 111, 119]) = false := by rw [S_list]; rfl
  have qClear : ((S kClear).toList == [99, 108, 101, 97, 114]) = true := by rw [S_list]; rfl
  go_enter Tryz.func16, Tryz.ntmps16
  have b0 := kB.frozen 0
  have b1 := kB.frozen 1
  have b2 := kB.cell 0
  have b3 := kB.cell 1
  rw [hw3] at b0 b1 b2 b3
  have e0 := kQ.frozen 0
  have e1 := kQ.frozen 1
  have q0 := kQ.cell 0
  have q1 := kQ.cell 1
  rw [hw3] at e0 e1 q0 q1
  clear kP kQ kB hL hr3 hw3' hz
  clear hw3
  go_wp2
  refine bodyPost_ret (v := .tuple #[.agg #[.int .i64 0, .slice none 0 0], .string { data := #[111, 107, 10] }, .bool true]) (by simp [results, Tryz.results16, go_sem]) rfl ⟨none, 0, 0, ?_, ?_, by (repeat (first | exact Below.refl _ _ | assumption | refine lo_alloc ?_ _ | refine lo_set ?_ (by simp; try omega) _ | refine Below.drew ?_ | refine below_drewN ?_ _ | refine lo_trans ?_ (by assumption) | refine lo_wr ?_ (by assumption) (by omega))), .inr (fun _ _ e => by cases e)⟩
  · rw [hP.out]; rfl
  · rw [hP.out]; exact ⟨Rd.nil_, by omega, fun _ => ⟨rfl, rfl⟩⟩

set_option maxHeartbeats 4000000 in
theorem change_Build (W : Int) (A : Option Addr) (n c g cw : Nat) (xs : List Int) (x y : Bs) (w : World) (hr : ImR w A n c xs) (hw : WB w g [kBuild, x, y]) (hx : x.length ≤ 1000) (hy : y.length ≤ 1000) :
    Calls Tryz.prog 16 #[.agg #[.int .i64 W, .slice A n c], .slice (some ⟨g, 0, none⟩) 3 cw] w (ChP w A (stepS (W, xs) [kBuild, x, y])) := by
  obtain ⟨P, hP⟩ : ∃ P, P = stepS (W, xs) [kBuild, x, y] := ⟨_, rfl⟩
  rw [← hP]
  rw [step_Build] at hP
  replace hP := Lib.hid hP
  obtain ⟨o, ho⟩ : ∃ o, Hid (exBuild (dgs x) (dgs y) = o) := ⟨_, Lib.hid rfl⟩
  have hn6 := hr.2.1
  obtain ⟨w3, hw3, kP, kQ, kB, hL, hz⟩ := ch_setup w W A n c
  have hr3 := hr.next hL
  have hw3' := hw.next hL
  have hx0 := hw3'.get (k := 0) (x := kBuild) rfl
  rw [hw3] at hx0
  have qRow : ((S kBuild).toList == [114, 111, 119]) = false := by rw [S_list]; rfl
  have qClear : ((S kBuild).toList == [99, 108, 101, 97, 114]) = false := by rw [S_list]; rfl
  have qBuild : ((S kBuild).toList == [98, 117, 105, 108, 100]) = true := by rw [S_list]; rfl
  have kPd := kP.drew
  have kQd := kQ.drew
  have kBd := kB.drew
  have hLd : Below w.heap.size w w3.drew := Below.drew hL
  have hrd : ImR w3.drew A n c xs := hr3
  have hwd := hw3'.drew
  have hLr := Below.refl w3.drew.heap.size w3.drew
  have hcon := fun A1 B1 c1 d1 w h1 h2 => spec_BuildImage_3 A1 B1 (dgs x).length (dgs y).length c1 d1 (dgs x) (dgs y) w h1 h2 (by have := dgs_len x; omega) (by have := dgs_len y; omega)
  rw [ho.out] at hcon
  have hgn : w.heap.size + 1 + 1 ≠ g := by have := hw.1; omega
  go_enter Tryz.func16, Tryz.ntmps16
  go_wp2
  rw [← hw3]
  clear hw3 hx0
  go_region_held3 (fun w' => w'.cell? ⟨g, 1, none⟩ = some (.string (S x)) ∧ w'.cell? ⟨g, 2, none⟩ = some (.string (S y)))
    (first
      | exact ⟨(hwd.next hLr).get (k := 1) (x := x) rfl, (hwd.next hLr).get (k := 2) (x := y) rfl⟩
      | exact ⟨(((hwd.next hLr).set (p := ⟨w.heap.size + 1 + 1, 0, none⟩) hgn _).set (p := ⟨w.heap.size + 1 + 1, 1, none⟩) hgn _).get (k := 1) (x := x) rfl, (((hwd.next hLr).set (p := ⟨w.heap.size + 1 + 1, 0, none⟩) hgn _).set (p := ⟨w.heap.size + 1 + 1, 1, none⟩) hgn _).get (k := 2) (x := y) rfl⟩
      | fail)
    (first
      | (go_at_call 34
         first
          | (have hmark := hO1
             clear hmark
             refine (l51List_c y _ (by omega)).mono ?_
             rintro e w5 ⟨R2, d2, rfl, hO2, hb2⟩
             have hO1' := hO1.next hb2
             have hX : Below w3.drew.heap.size w3.drew w5 := lo_trans hLr hb2
             clear hLr
             have hLr := hX
             clear hX)
          | (refine (l51List_c x _ (by omega)).mono ?_
             rintro e w4 ⟨R1, d1, rfl, hO1, hb1⟩
             have hX : Below w3.drew.heap.size w3.drew w4 := lo_trans hLr hb1
             clear hLr
             have hLr := hX
             clear hX)
          | fail)
      | (go_at_call 33
         refine (hcon _ _ _ _ _ hO1'.rd hO2.rd).mono ?_
         rintro e w5 ⟨V, R, r, k, rfl, hb5, hO5⟩
         have hX : Below w3.drew.heap.size w3.drew w5 := lo_trans hLr hb5
         have hlow := hLr.size
         clear hLr
         have hLr := hX
         clear hX
         have kB5 := kBd.next hLr
         have d0 := kB5.cell 0
         have d1 := kB5.cell 1
         have f0 := kB5.frozen 0
         have f1 := kB5.frozen 1))
  replace hO5 := fun z hz => (⟨(hO5 z hz).1, (hO5 z hz).2.mono hlow⟩ : z.1 = V ∧ Own w5 w3.drew.heap.size R r z.2)
  clear hb1 hb2 hO1 hO1' hO2
  have kP6 := ((kPd.next hLr).far (p := ⟨w.heap.size + 1 + 1, 0, none⟩) (by simp; try omega) (.int .i64 V)).far (p := ⟨w.heap.size + 1 + 1, 1, none⟩) (by simp; try omega) (.slice R r k)
  have kQ6 := ((kQd.next hLr).far (p := ⟨w.heap.size + 1 + 1, 0, none⟩) (by simp; try omega) (.int .i64 V)).far (p := ⟨w.heap.size + 1 + 1, 1, none⟩) (by simp; try omega) (.slice R r k)
  have kB6 := (kB5.set_ 0 (.int .i64 V)).set_ 1 (.slice R r k)
  have hL6 := lo_set (lo_set (lo_trans hLd hLr) (p := ⟨w.heap.size + 1 + 1, 0, none⟩) (by simp; omega) (.int .i64 V)) (p := ⟨w.heap.size + 1 + 1, 1, none⟩) (by simp; omega) (.slice R r k)
  have hlo : w.heap.size + 1 + 1 < w3.drew.heap.size := by have : w3.drew.heap.size = w3.heap.size := rfl; omega
  have hO6' := Lib.hid (fun z hz => ((hO5 z hz).2.far_lo (p := ⟨w.heap.size + 1 + 1, 0, none⟩) hlo (.int .i64 V)).far_lo (p := ⟨w.heap.size + 1 + 1, 1, none⟩) hlo (.slice R r k))
  have hV' := Lib.hid (fun z hz => (hO5 z hz).1)
  clear kPd kQd kBd kB5 hLd hLr hb5 hrd hwd hw3' hr3 kP kQ kB hL hcon hO5 d0 d1 f0 f1
  generalize (w5.setCell ⟨w.heap.size + 1 + 1, 0, none⟩ (.int .i64 V)).setCell ⟨w.heap.size + 1 + 1, 1, none⟩ (.slice R r k) = w6 at kP6 kQ6 kB6 hL6 hO6' ⊢
  have e0 := kQ6.frozen 0
  have e1 := kQ6.frozen 1
  have q0 := kQ6.cell 0
  have q1 := kQ6.cell 1
  have hzq := kQ6.lt
  obtain ⟨b, hb⟩ : ∃ b, Hid (o.isSome = b) := ⟨_, Lib.hid rfl⟩
  rw [hb.out]
  cases b with
  | false =>
    have hPe := Lib.hid (show P = ((W, xs), tNo ++ [10]) by
      rw [hP.out, ho.out]
      cases o with
      | none => rfl
      | some z => cases hb.out)
    have p0 := kP6.cell 0
    have p1 := kP6.cell 1
    have hF := (kQ6.set_ 0 (.int .i64 W)).set_ 1 (.slice A n c)
    have r0 := hF.cell 0
    have r1 := hF.cell 1
    have hL7 := lo_set (lo_set hL6 (p := ⟨w.heap.size + 1, 0, none⟩) (by simp) (.int .i64 W)) (p := ⟨w.heap.size + 1, 1, none⟩) (by simp) (.slice A n c)
    have hr7 := hr.next hL7
    clear hF kP6 kQ6 kB6
    go_wp2
    refine bodyPost_ret (v := .tuple #[.agg #[.int .i64 W, .slice A n c], .string { data := #[110, 111, 10] }, .bool true]) (by simp [results, Tryz.results16, go_sem, r0, r1]) rfl ⟨A, n, c, ?_, ?_, hL7, .inl rfl⟩
    · rw [hPe.out]; rfl
    · rw [hPe.out]; exact hr7
  | true =>
    obtain ⟨z, hz⟩ : ∃ z, Hid (o = some z) := by
      cases o with
      | none => cases hb.out
      | some z => exact ⟨z, Lib.hid rfl⟩
    have hPe := Lib.hid (show P = (z, tOk ++ [10]) by rw [hP.out, ho.out, hz.out]; rfl)
    have hzl := okB_len (okB_bld (ho.out.trans hz.out))
    have hzV := hV'.out z hz.out
    have hzO := hO6'.out z hz.out
    have b0 := kB6.cell 0
    have b1 := kB6.cell 1
    have hF := (kQ6.set_ 0 (.int .i64 V)).set_ 1 (.slice R r k)
    have r0 := hF.cell 0
    have r1 := hF.cell 1
    have hL7 := lo_set (lo_set hL6 (p := ⟨w.heap.size + 1, 0, none⟩) (by simp) (.int .i64 V)) (p := ⟨w.heap.size + 1, 1, none⟩) (by simp) (.slice R r k)
    have hr7 := (hzO.far_lo (p := ⟨w.heap.size + 1, 0, none⟩) (by simp only; omega) (.int .i64 V)).far_lo (p := ⟨w.heap.size + 1, 1, none⟩) (by simp only; omega) (.slice R r k)
    clear hF kP6 kQ6 kB6 hzO
    go_wp2
    refine bodyPost_ret (v := .tuple #[.agg #[.int .i64 V, .slice R r k], .string { data := #[111, 107, 10] }, .bool true]) (by simp [results, Tryz.results16, go_sem, r0, r1]) rfl ⟨R, r, k, ?_, ?_, hL7, .inr (fun b off e => by have := own_ge hr7 hzl.1 b off e; omega)⟩
    · rw [hPe.out, ← hzV]; rfl
    · rw [hPe.out]; exact ImR.of hr7 hzl.1 hzl.2

set_option maxHeartbeats 4000000 in
theorem change_Switch (W : Int) (A : Option Addr) (n c g cw : Nat) (xs : List Int) (x y z u : Bs) (w : World) (hr : ImR w A n c xs) (hw : WB w g [kSwitch, x, y, z, u]) (hx : x.length ≤ 1000) (hy : y.length ≤ 1000) (hzz : z.length ≤ 1000) (hu : u.length ≤ 1000) :
    Calls Tryz.prog 16 #[.agg #[.int .i64 W, .slice A n c], .slice (some ⟨g, 0, none⟩) 5 cw] w (ChP w A (stepS (W, xs) [kSwitch, x, y, z, u])) := by
  obtain ⟨P, hP⟩ : ∃ P, P = stepS (W, xs) [kSwitch, x, y, z, u] := ⟨_, rfl⟩
  rw [← hP]
  rw [step_Switch] at hP
  replace hP := Lib.hid hP
  obtain ⟨o, ho⟩ : ∃ o, Hid (exSwitch (W, xs) (dgt x) (dgt y) (dgt z) (dgt u) = o) := ⟨_, Lib.hid rfl⟩
  have hn6 := hr.2.1
  obtain ⟨w3, hw3, kP, kQ, kB, hL, hz⟩ := ch_setup w W A n c
  have hr3 := hr.next hL
  have hw3' := hw.next hL
  have hx0 := hw3'.get (k := 0) (x := kSwitch) rfl
  rw [hw3] at hx0
  have qRow : ((S kSwitch).toList == [114, 111, 119]) = false := by rw [S_list]; rfl
  have qClear : ((S kSwitch).toList == [99, 108, 101, 97, 114]) = false := by rw [S_list]; rfl
  have qBuild : ((S kSwitch).toList == [98, 117, 105, 108, 100]) = false := by rw [S_list]; rfl
  have qSwitch : ((S kSwitch).toList == [115, 119, 105, 116, 99, 104]) = true := by rw [S_list]; rfl
  have p0 := kP.cell 0
  have p1 := kP.cell 1
  rw [hw3] at p0 p1
  have hcon := fun w (h : ImR w A n c xs) (h2 : WB w g [kSwitch, x, y, z, u]) => l51Switch_c W A n c g cw xs kSwitch x y z u w h.1 (by have := h.2.1; omega) h2 hx hy hzz hu
  rw [ho.out] at hcon
  go_enter Tryz.func16, Tryz.ntmps16
  go_wp2_with fail
  rw [← hw3]
  clear hw3 hx0 p0 p1
  refine (hcon _ hr3 hw3').mono ?_
  rintro e w5 ⟨V, R, r, k, rfl, hb5, hO5⟩
  have kB5 := kB.next hb5
  have d0 := kB5.cell 0
  have d1 := kB5.cell 1
  have f0 := kB5.frozen 0
  have f1 := kB5.frozen 1
  have kP6 := ((kP.next hb5).far (p := ⟨w.heap.size + 1 + 1, 0, none⟩) (by simp; try omega) (.int .i64 V)).far (p := ⟨w.heap.size + 1 + 1, 1, none⟩) (by simp; try omega) (.slice R r k)
  have kQ6 := ((kQ.next hb5).far (p := ⟨w.heap.size + 1 + 1, 0, none⟩) (by simp; try omega) (.int .i64 V)).far (p := ⟨w.heap.size + 1 + 1, 1, none⟩) (by simp; try omega) (.slice R r k)
  have kB6 := (kB5.set_ 0 (.int .i64 V)).set_ 1 (.slice R r k)
  have hL6 := lo_set (lo_set (lo_trans hL hb5) (p := ⟨w.heap.size + 1 + 1, 0, none⟩) (by simp; omega) (.int .i64 V)) (p := ⟨w.heap.size + 1 + 1, 1, none⟩) (by simp; omega) (.slice R r k)
  have hlo : w.heap.size + 1 + 1 < w3.heap.size := by omega
  have hO6' := Lib.hid (fun z hz => ((hO5 z hz).2.far_lo (p := ⟨w.heap.size + 1 + 1, 0, none⟩) hlo (.int .i64 V)).far_lo (p := ⟨w.heap.size + 1 + 1, 1, none⟩) hlo (.slice R r k))
  have hV' := Lib.hid (fun z hz => (hO5 z hz).1)
  clear kB5 hb5 hw3' hr3 kP kQ kB hL hcon hO5
  have e0 := kQ6.frozen 0
  have e1 := kQ6.frozen 1
  have q0 := kQ6.cell 0
  have q1 := kQ6.cell 1
  have hzq := kQ6.lt
  obtain ⟨b, hb⟩ : ∃ b, Hid (o.isSome = b) := ⟨_, Lib.hid rfl⟩
  rw [hb.out]
  cases b with
  | false =>
    have hPe := Lib.hid (show P = ((W, xs), tNo ++ [10]) by
      rw [hP.out, ho.out]
      cases o with
      | none => rfl
      | some z => cases hb.out)
    have p0 := kP6.cell 0
    have p1 := kP6.cell 1
    have hF := (kQ6.set_ 0 (.int .i64 W)).set_ 1 (.slice A n c)
    have r0 := hF.cell 0
    have r1 := hF.cell 1
    have hL7 := lo_set (lo_set hL6 (p := ⟨w.heap.size + 1, 0, none⟩) (by simp) (.int .i64 W)) (p := ⟨w.heap.size + 1, 1, none⟩) (by simp) (.slice A n c)
    have hr7 := hr.next hL7
    clear hF kP6 kQ6 kB6
    go_wp2
    refine bodyPost_ret (v := .tuple #[.agg #[.int .i64 W, .slice A n c], .string { data := #[110, 111, 10] }, .bool true]) (by simp [results, Tryz.results16, go_sem, r0, r1]) rfl ⟨A, n, c, ?_, ?_, hL7, .inl rfl⟩
    · rw [hPe.out]; rfl
    · rw [hPe.out]; exact hr7
  | true =>
    obtain ⟨z, hz⟩ : ∃ z, Hid (o = some z) := by
      cases o with
      | none => cases hb.out
      | some z => exact ⟨z, Lib.hid rfl⟩
    have hPe := Lib.hid (show P = (z, tOk ++ [10]) by rw [hP.out, ho.out, hz.out]; rfl)
    have hzl := okB_len (okB_sw (ho.out.trans hz.out))
    have hzV := hV'.out z hz.out
    have hzO := hO6'.out z hz.out
    have b0 := kB6.cell 0
    have b1 := kB6.cell 1
    have hF := (kQ6.set_ 0 (.int .i64 V)).set_ 1 (.slice R r k)
    have r0 := hF.cell 0
    have r1 := hF.cell 1
    have hL7 := lo_set (lo_set hL6 (p := ⟨w.heap.size + 1, 0, none⟩) (by simp) (.int .i64 V)) (p := ⟨w.heap.size + 1, 1, none⟩) (by simp) (.slice R r k)
    have hr7 := (hzO.far_lo (p := ⟨w.heap.size + 1, 0, none⟩) (by simp only; omega) (.int .i64 V)).far_lo (p := ⟨w.heap.size + 1, 1, none⟩) (by simp only; omega) (.slice R r k)
    clear hF kP6 kQ6 kB6 hzO
    go_wp2
    refine bodyPost_ret (v := .tuple #[.agg #[.int .i64 V, .slice R r k], .string { data := #[111, 107, 10] }, .bool true]) (by simp [results, Tryz.results16, go_sem, r0, r1]) rfl ⟨R, r, k, ?_, ?_, hL7, .inr (fun b off e => by have := own_ge hr7 hzl.1 b off e; omega)⟩
    · rw [hPe.out, ← hzV]; rfl
    · rw [hPe.out]; exact ImR.of hr7 hzl.1 hzl.2

set_option maxHeartbeats 4000000 in
theorem change_Next (W : Int) (A : Option Addr) (n c g cw : Nat) (xs : List Int) (w : World) (hr : ImR w A n c xs) (hw : WB w g [kNext]) :
    Calls Tryz.prog 16 #[.agg #[.int .i64 W, .slice A n c], .slice (some ⟨g, 0, none⟩) 1 cw] w (ChP w A (stepS (W, xs) [kNext])) := by
  obtain ⟨P, hP⟩ : ∃ P, P = stepS (W, xs) [kNext] := ⟨_, rfl⟩
  rw [← hP]
  rw [step_Next] at hP
  replace hP := Lib.hid hP
  obtain ⟨o, ho⟩ : ∃ o, Hid (exNext (W, xs) = o) := ⟨_, Lib.hid rfl⟩
  have hn6 := hr.2.1
  obtain ⟨w3, hw3, kP, kQ, kB, hL, hz⟩ := ch_setup w W A n c
  have hr3 := hr.next hL
  have hw3' := hw.next hL
  have hx0 := hw3'.get (k := 0) (x := kNext) rfl
  rw [hw3] at hx0
  have qRow : ((S kNext).toList == [114, 111, 119]) = false := by rw [S_list]; rfl
  have qClear : ((S kNext).toList == [99, 108, 101, 97, 114]) = false := by rw [S_list]; rfl
  have qBuild : ((S kNext).toList == [98, 117, 105, 108, 100]) = false := by rw [S_list]; rfl
  have qSwitch : ((S kNext).toList == [115, 119, 105, 116, 99, 104]) = false := by rw [S_list]; rfl
  have qNext : ((S kNext).toList == [110, 101, 120, 116]) = true := by rw [S_list]; rfl
  have p0 := kP.cell 0
  have p1 := kP.cell 1
  rw [hw3] at p0 p1
  have hcon := fun w (h : ImR w A n c xs) (_ : WB w g [kNext]) => spec_ImageNext_c W A n c xs w h.1 (by have := h.2.1; omega)
  rw [ho.out] at hcon
  go_enter Tryz.func16, Tryz.ntmps16
  go_wp2_with fail
  rw [← hw3]
  clear hw3 hx0 p0 p1
  refine (hcon _ hr3 hw3').mono ?_
  rintro e w5 ⟨V, R, r, k, rfl, hb5, hO5⟩
  have kB5 := kB.next hb5
  have d0 := kB5.cell 0
  have d1 := kB5.cell 1
  have f0 := kB5.frozen 0
  have f1 := kB5.frozen 1
  have kP6 := ((kP.next hb5).far (p := ⟨w.heap.size + 1 + 1, 0, none⟩) (by simp; try omega) (.int .i64 V)).far (p := ⟨w.heap.size + 1 + 1, 1, none⟩) (by simp; try omega) (.slice R r k)
  have kQ6 := ((kQ.next hb5).far (p := ⟨w.heap.size + 1 + 1, 0, none⟩) (by simp; try omega) (.int .i64 V)).far (p := ⟨w.heap.size + 1 + 1, 1, none⟩) (by simp; try omega) (.slice R r k)
  have kB6 := (kB5.set_ 0 (.int .i64 V)).set_ 1 (.slice R r k)
  have hL6 := lo_set (lo_set (lo_trans hL hb5) (p := ⟨w.heap.size + 1 + 1, 0, none⟩) (by simp; omega) (.int .i64 V)) (p := ⟨w.heap.size + 1 + 1, 1, none⟩) (by simp; omega) (.slice R r k)
  have hlo : w.heap.size + 1 + 1 < w3.heap.size := by omega
  have hO6' := Lib.hid (fun z hz => ((hO5 z hz).2.far_lo (p := ⟨w.heap.size + 1 + 1, 0, none⟩) hlo (.int .i64 V)).far_lo (p := ⟨w.heap.size + 1 + 1, 1, none⟩) hlo (.slice R r k))
  have hV' := Lib.hid (fun z hz => (hO5 z hz).1)
  clear kB5 hb5 hw3' hr3 kP kQ kB hL hcon hO5
  have e0 := kQ6.frozen 0
  have e1 := kQ6.frozen 1
  have q0 := kQ6.cell 0
  have q1 := kQ6.cell 1
  have hzq := kQ6.lt
  obtain ⟨b, hb⟩ : ∃ b, Hid (o.isSome = b) := ⟨_, Lib.hid rfl⟩
  rw [hb.out]
  cases b with
  | false =>
    have hPe := Lib.hid (show P = ((W, xs), tNo ++ [10]) by
      rw [hP.out, ho.out]
      cases o with
      | none => rfl
      | some z => cases hb.out)
    have p0 := kP6.cell 0
    have p1 := kP6.cell 1
    have hF := (kQ6.set_ 0 (.int .i64 W)).set_ 1 (.slice A n c)
    have r0 := hF.cell 0
    have r1 := hF.cell 1
    have hL7 := lo_set (lo_set hL6 (p := ⟨w.heap.size + 1, 0, none⟩) (by simp) (.int .i64 W)) (p := ⟨w.heap.size + 1, 1, none⟩) (by simp) (.slice A n c)
    have hr7 := hr.next hL7
    clear hF kP6 kQ6 kB6
    go_wp2
    refine bodyPost_ret (v := .tuple #[.agg #[.int .i64 W, .slice A n c], .string { data := #[110, 111, 10] }, .bool true]) (by simp [results, Tryz.results16, go_sem, r0, r1]) rfl ⟨A, n, c, ?_, ?_, hL7, .inl rfl⟩
    · rw [hPe.out]; rfl
    · rw [hPe.out]; exact hr7
  | true =>
    obtain ⟨z, hz⟩ : ∃ z, Hid (o = some z) := by
      cases o with
      | none => cases hb.out
      | some z => exact ⟨z, Lib.hid rfl⟩
    have hPe := Lib.hid (show P = (z, tOk ++ [10]) by rw [hP.out, ho.out, hz.out]; rfl)
    have hzl := okB_len (okB_nx (ho.out.trans hz.out))
    have hzV := hV'.out z hz.out
    have hzO := hO6'.out z hz.out
    have b0 := kB6.cell 0
    have b1 := kB6.cell 1
    have hF := (kQ6.set_ 0 (.int .i64 V)).set_ 1 (.slice R r k)
    have r0 := hF.cell 0
    have r1 := hF.cell 1
    have hL7 := lo_set (lo_set hL6 (p := ⟨w.heap.size + 1, 0, none⟩) (by simp) (.int .i64 V)) (p := ⟨w.heap.size + 1, 1, none⟩) (by simp) (.slice R r k)
    have hr7 := (hzO.far_lo (p := ⟨w.heap.size + 1, 0, none⟩) (by simp only; omega) (.int .i64 V)).far_lo (p := ⟨w.heap.size + 1, 1, none⟩) (by simp only; omega) (.slice R r k)
    clear hF kP6 kQ6 kB6 hzO
    go_wp2
    refine bodyPost_ret (v := .tuple #[.agg #[.int .i64 V, .slice R r k], .string { data := #[111, 107, 10] }, .bool true]) (by simp [results, Tryz.results16, go_sem, r0, r1]) rfl ⟨R, r, k, ?_, ?_, hL7, .inr (fun b off e => by have := own_ge hr7 hzl.1 b off e; omega)⟩
    · rw [hPe.out, ← hzV]; rfl
    · rw [hPe.out]; exact ImR.of hr7 hzl.1 hzl.2

set_option maxHeartbeats 4000000 in
theorem change_none (W : Int) (A : Option Addr) (n c g cw : Nat) (xs : List Int) (x0 : Bs) (ws : List Bs) (w : World) (hr : ImR w A n c xs) (hw : WB w g (x0 :: ws))
    (hR : x0 = kRow → ws.length ≠ 1) (hC : x0 = kClear → ws.length ≠ 0) (hB : x0 = kBuild → ws.length ≠ 2) (hS : x0 = kSwitch → ws.length ≠ 4) (hN : x0 = kNext → ws.length ≠ 0) :
    Calls Tryz.prog 16 #[.agg #[.int .i64 W, .slice A n c], .slice (some ⟨g, 0, none⟩) (ws.length + 1) cw] w (ChN w (W, xs) A n c) := by
  obtain ⟨w3, hw3, kP, kQ, kB, hL, hz⟩ := ch_setup w W A n c
  have hr3 := hr.next hL
  have hw3' := hw.next hL
  have hx0 := hw3'.get (k := 0) (x := x0) rfl
  have p0 := kP.cell 0
  have p1 := kP.cell 1
  have e0 := kQ.frozen 0
  have e1 := kQ.frozen 1
  have q0 := kQ.cell 0
  have q1 := kQ.cell 1
  rw [hw3] at hx0 p0 p1 e0 e1 q0 q1
  clear kP kQ kB hL hr3 hw3' hz hw3 hr hw
  obtain ⟨l, hll⟩ : ∃ l, l = ws.length := ⟨_, rfl⟩
  rw [← hll] at hR hC hB hS hN ⊢
  clear hll
  by_cases h0 : x0 = kRow
  · subst h0
    have hl' : l ≠ 1 := hR rfl
    have g1 : (((l : Nat) : Int) + 1 == 2) = false := by rw [beq_eq_false_iff_ne]; omega
    have g2 : (((l + 1 : Nat) : Int) == 2) = false := by rw [beq_eq_false_iff_ne]; omega
    have qRow : ((S kRow).toList == [114, 111, 119]) = true := by rw [S_list]; rfl
    have qClear : ((S kRow).toList == [99, 108, 101, 97, 114]) = false := by rw [S_list]; rfl
    have qBuild : ((S kRow).toList == [98, 117, 105, 108, 100]) = false := by rw [S_list]; rfl
    have qSwitch : ((S kRow).toList == [115, 119, 105, 116, 99, 104]) = false := by rw [S_list]; rfl
    have qNext : ((S kRow).toList == [110, 101, 120, 116]) = false := by rw [S_list]; rfl
    clear hR hC hB hS hN hl'
    go_enter Tryz.func16, Tryz.ntmps16
    go_wp2
    exact bodyPost_ret (v := .tuple #[.agg #[.int .i64 W, .slice A n c], .string { data := #[] }, .bool false]) (by simp [results, Tryz.results16, go_sem]) rfl ⟨rfl, by (repeat (first | exact Below.refl _ _ | assumption | refine lo_alloc ?_ _ | refine lo_set ?_ (by simp; try omega) _ | refine Below.drew ?_ | refine below_drewN ?_ _ | refine lo_trans ?_ (by assumption) | refine lo_wr ?_ (by assumption) (by omega)))⟩
  by_cases h1 : x0 = kClear
  · subst h1
    have hl' : l ≠ 0 := hC rfl
    have g1 : (((l : Nat) : Int) + 1 == 1) = false := by rw [beq_eq_false_iff_ne]; omega
    have g2 : (((l + 1 : Nat) : Int) == 1) = false := by rw [beq_eq_false_iff_ne]; omega
    have qRow : ((S kClear).toList == [114, 111, 119]) = false := by rw [S_list]; rfl
    have qClear : ((S kClear).toList == [99, 108, 101, 97, 114]) = true := by rw [S_list]; rfl
    have qBuild : ((S kClear).toList == [98, 117, 105, 108, 100]) = false := by rw [S_list]; rfl
    have qSwitch : ((S kClear).toList == [115, 119, 105, 116, 99, 104]) = false := by rw [S_list]; rfl
    have qNext : ((S kClear).toList == [110, 101, 120, 116]) = false := by rw [S_list]; rfl
    clear hR hC hB hS hN hl'
    go_enter Tryz.func16, Tryz.ntmps16
    go_wp2
    exact bodyPost_ret (v := .tuple #[.agg #[.int .i64 W, .slice A n c], .string { data := #[] }, .bool false]) (by simp [results, Tryz.results16, go_sem]) rfl ⟨rfl, by (repeat (first | exact Below.refl _ _ | assumption | refine lo_alloc ?_ _ | refine lo_set ?_ (by simp; try omega) _ | refine Below.drew ?_ | refine below_drewN ?_ _ | refine lo_trans ?_ (by assumption) | refine lo_wr ?_ (by assumption) (by omega)))⟩
  by_cases h2 : x0 = kBuild
  · subst h2
    have hl' : l ≠ 2 := hB rfl
    have g1 : (((l : Nat) : Int) + 1 == 3) = false := by rw [beq_eq_false_iff_ne]; omega
    have g2 : (((l + 1 : Nat) : Int) == 3) = false := by rw [beq_eq_false_iff_ne]; omega
    have qRow : ((S kBuild).toList == [114, 111, 119]) = false := by rw [S_list]; rfl
    have qClear : ((S kBuild).toList == [99, 108, 101, 97, 114]) = false := by rw [S_list]; rfl
    have qBuild : ((S kBuild).toList == [98, 117, 105, 108, 100]) = true := by rw [S_list]; rfl
    have qSwitch : ((S kBuild).toList == [115, 119, 105, 116, 99, 104]) = false := by rw [S_list]; rfl
    have qNext : ((S kBuild).toList == [110, 101, 120, 116]) = false := by rw [S_list]; rfl
    clear hR hC hB hS hN hl'
    go_enter Tryz.func16, Tryz.ntmps16
    go_wp2
    exact bodyPost_ret (v := .tuple #[.agg #[.int .i64 W, .slice A n c], .string { data := #[] }, .bool false]) (by simp [results, Tryz.results16, go_sem]) rfl ⟨rfl, by (repeat (first | exact Below.refl _ _ | assumption | refine lo_alloc ?_ _ | refine lo_set ?_ (by simp; try omega) _ | refine Below.drew ?_ | refine below_drewN ?_ _ | refine lo_trans ?_ (by assumption) | refine lo_wr ?_ (by assumption) (by omega)))⟩
  by_cases h3 : x0 = kSwitch
  · subst h3
    have hl' : l ≠ 4 := hS rfl
    have g1 : (((l : Nat) : Int) + 1 == 5) = false := by rw [beq_eq_false_iff_ne]; omega
    have g2 : (((l + 1 : Nat) : Int) == 5) = false := by rw [beq_eq_false_iff_ne]; omega
    have qRow : ((S kSwitch).toList == [114, 111, 119]) = false := by rw [S_list]; rfl
    have qClear : ((S kSwitch).toList == [99, 108, 101, 97, 114]) = false := by rw [S_list]; rfl
    have qBuild : ((S kSwitch).toList == [98, 117, 105, 108, 100]) = false := by rw [S_list]; rfl
    have qSwitch : ((S kSwitch).toList == [115, 119, 105, 116, 99, 104]) = true := by rw [S_list]; rfl
    have qNext : ((S kSwitch).toList == [110, 101, 120, 116]) = false := by rw [S_list]; rfl
    clear hR hC hB hS hN hl'
    go_enter Tryz.func16, Tryz.ntmps16
    go_wp2
    exact bodyPost_ret (v := .tuple #[.agg #[.int .i64 W, .slice A n c], .string { data := #[] }, .bool false]) (by simp [results, Tryz.results16, go_sem]) rfl ⟨rfl, by (repeat (first | exact Below.refl _ _ | assumption | refine lo_alloc ?_ _ | refine lo_set ?_ (by simp; try omega) _ | refine Below.drew ?_ | refine below_drewN ?_ _ | refine lo_trans ?_ (by assumption) | refine lo_wr ?_ (by assumption) (by omega)))⟩
  by_cases h4 : x0 = kNext
  · subst h4
    have hl' : l ≠ 0 := hN rfl
    have g1 : (((l : Nat) : Int) + 1 == 1) = false := by rw [beq_eq_false_iff_ne]; omega
    have g2 : (((l + 1 : Nat) : Int) == 1) = false := by rw [beq_eq_false_iff_ne]; omega
    have qRow : ((S kNext).toList == [114, 111, 119]) = false := by rw [S_list]; rfl
    have qClear : ((S kNext).toList == [99, 108, 101, 97, 114]) = false := by rw [S_list]; rfl
    have qBuild : ((S kNext).toList == [98, 117, 105, 108, 100]) = false := by rw [S_list]; rfl
    have qSwitch : ((S kNext).toList == [115, 119, 105, 116, 99, 104]) = false := by rw [S_list]; rfl
    have qNext : ((S kNext).toList == [110, 101, 120, 116]) = true := by rw [S_list]; rfl
    clear hR hC hB hS hN hl'
    go_enter Tryz.func16, Tryz.ntmps16
    go_wp2
    exact bodyPost_ret (v := .tuple #[.agg #[.int .i64 W, .slice A n c], .string { data := #[] }, .bool false]) (by simp [results, Tryz.results16, go_sem]) rfl ⟨rfl, by (repeat (first | exact Below.refl _ _ | assumption | refine lo_alloc ?_ _ | refine lo_set ?_ (by simp; try omega) _ | refine Below.drew ?_ | refine below_drewN ?_ _ | refine lo_trans ?_ (by assumption) | refine lo_wr ?_ (by assumption) (by omega)))⟩
  have qRow : ((S x0).toList == [114, 111, 119]) = false := by rw [S_list, beq_eq_false_iff_ne]; exact h0
  have qClear : ((S x0).toList == [99, 108, 101, 97, 114]) = false := by rw [S_list, beq_eq_false_iff_ne]; exact h1
  have qBuild : ((S x0).toList == [98, 117, 105, 108, 100]) = false := by rw [S_list, beq_eq_false_iff_ne]; exact h2
  have qSwitch : ((S x0).toList == [115, 119, 105, 116, 99, 104]) = false := by rw [S_list, beq_eq_false_iff_ne]; exact h3
  have qNext : ((S x0).toList == [110, 101, 120, 116]) = false := by rw [S_list, beq_eq_false_iff_ne]; exact h4
  clear hR hC hB hS hN h0 h1 h2 h3 h4
  go_enter Tryz.func16, Tryz.ntmps16
  go_wp2
  exact bodyPost_ret (v := .tuple #[.agg #[.int .i64 W, .slice A n c], .string { data := #[] }, .bool false]) (by simp [results, Tryz.results16, go_sem]) rfl ⟨rfl, by (repeat (first | exact Below.refl _ _ | assumption | refine lo_alloc ?_ _ | refine lo_set ?_ (by simp; try omega) _ | refine Below.drew ?_ | refine below_drewN ?_ _ | refine lo_trans ?_ (by assumption) | refine lo_wr ?_ (by assumption) (by omega)))⟩
end Go.Proofs.YteabnljjogiflaaGreatDoor
