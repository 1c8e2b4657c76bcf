/- Plain facts and walks that the law's proof uses; each says its own conditions. -/
import Derived.Test.YteabnljjogiflaaGreatDoorZ39
import Derived.Deep.RegionHeld3
import Derived.Test.YteabnljjogiflaaGreatDoorZ03
-- Walks: orders of a script are executed: build, switch, next.
namespace Go.Proofs.YteabnljjogiflaaGreatDoor
open Go.RowKit
set_option maxRecDepth 100000

set_option maxHeartbeats 4000000 in
theorem exec_Next (sb wb : Nat) (W : Int) (xs : List Int) (w : World) (h : SS w sb (W, xs)) (hw : Blk w wb 9 (strs [kNext])) :
    Calls Tryz.prog 21 #[.pointer (some ⟨sb, 0, none⟩), .slice (some ⟨wb, 0, none⟩) 1 1] w (Res w sb (stepS (W, xs) [kNext])) := by
  obtain ⟨p, hp⟩ : ∃ p, p = stepS (W, xs) [kNext] := ⟨_, rfl⟩
  rw [← hp]
  rw [step_Next] at hp
  replace hp := Lib.hid hp
  have hmm := @run_makeMap Tryz.prog
  obtain ⟨w1, w2, w3, w4, w5, w6, w7, w8, w9, w10, u1, u2, u3, u4, u5, u6, u7, u8, u9, u10, hM, hB⟩ := wants_map w
  have hlk := want_look hM kNext 0 (by decide) rfl rfl
  have h1 := h.next hB
  have hw1 := hw.next hB
  have hx0 := strs_cell hw1 (k := 0) (x := kNext) rfl
  have qRow : ((S kNext).toList == [114, 111, 119]) = false := by rw [S_list]; rfl
  have qClear : ((S kNext).toList == [99, 108, 101, 97, 114]) = false := by rw [S_list]; rfl
  have qBuild : ((S kNext).toList == [98, 117, 105, 108, 100]) = false := by rw [S_list]; rfl
  have qSwitch : ((S kNext).toList == [115, 119, 105, 116, 99, 104]) = false := by rw [S_list]; rfl
  have qNext : ((S kNext).toList == [110, 101, 120, 116]) = true := by rw [S_list]; rfl
  clear hM
  obtain ⟨A, n, c, b1, b2, b3⟩ := id h1
  have hn6 : n ≤ 6 := by have := h.len; have := b2.1; simp only at *; omega
  have c0 := b1.cell 0
  have c1 := b1.cell 1
  go_enter Tryz.func21, Tryz.ntmps21
  go_wp2_with fail
  refine (impl_ImageNext_c W A n c xs _ b2.rd (by omega)).mono ?_
  rintro e w12 ⟨V, R, r, k, zs, rfl, hv, ho, hb12⟩
  have h3 := h1.next hb12
  have hz := h1.lt
  go_wp2_with fail
  refine (become_res sb (W, xs) (exNext (W, xs)) V R r k zs w w12 (grown_trans (grown_of_below hB (some sb)) (grown_of_below hb12 _)) h3 (ho.mono (by omega)) (fun z e => ?_)).mono ?_
  · have := okB_nx e
    rw [hv z e] at this
    exact ⟨hv z e, this⟩
  · rintro e w13 hR
    obtain ⟨r, ok, rfl, q1, q2, q3, q4⟩ := hR
    go_wp2
    go_ret2
    rw [hp.out]
    exact ⟨r, ok, rfl, q1, q2, q3, q4⟩

set_option maxHeartbeats 4000000 in
theorem exec_Build (sb wb : Nat) (s : Ig) (x y : Bs) (w : World) (h : SS w sb s) (hw : Blk w wb 9 (strs [kBuild, x, y])) (hx : x.length ≤ 1000) (hy : y.length ≤ 1000) (hne : wb ≠ sb) :
    Calls Tryz.prog 21 #[.pointer (some ⟨sb, 0, none⟩), .slice (some ⟨wb, 0, none⟩) 3 3] w (Res w sb (stepS s [kBuild, x, y])) := by
  obtain ⟨p, hp⟩ : ∃ p, p = stepS s [kBuild, x, y] := ⟨_, rfl⟩
  rw [← hp]
  rw [step_Build] at hp
  replace hp := Lib.hid hp
  have hmm := @run_makeMap Tryz.prog
  obtain ⟨w1, w2, w3, w4, w5, w6, w7, w8, w9, w10, u1, u2, u3, u4, u5, u6, u7, u8, u9, u10, hM, hB⟩ := wants_map w
  have hlk := want_look hM kBuild 2 (by decide) rfl rfl
  have h1 := h.next hB
  have hw1 := hw.next hB
  have hx0 := strs_cell hw1 (k := 0) (x := kBuild) rfl
  have hx1 := strs_cell hw1 (k := 1) (x := x) rfl
  have hx2 := strs_cell hw1 (k := 2) (x := y) rfl
  have qRow : ((S kBuild).toList == [114, 111, 119]) = false := by rw [S_list]; rfl
  have qClear : ((S kBuild).toList == [99, 108, 101, 97, 114]) = false := by rw [S_list]; rfl
  have qBuild : ((S kBuild).toList == [98, 117, 105, 108, 100]) = true := by rw [S_list]; rfl
  clear hM
  have hw1d := hw1.drew
  have h1d : SS w10.drew sb s := h1.next (Below.drew (Below.refl _ _))
  have hBd : Below w.heap.size w w10.drew := Below.drew hB
  have hLr := Below.refl w10.drew.heap.size w10.drew
  have hz : sb < w10.drew.heap.size := h1d.lt
  go_enter Tryz.func21, Tryz.ntmps21
  go_wp2
  clear hx0 hx1 hx2
  go_region_held3 (fun w' => w'.cell? ⟨wb, 1, none⟩ = some (.string (S x)) ∧ w'.cell? ⟨wb, 2, none⟩ = some (.string (S y)))
    (first
      | exact ⟨strs_cell (hw1d.next hLr) (k := 1) (x := x) rfl, strs_cell (hw1d.next hLr) (k := 2) (x := y) rfl⟩
      | exact ⟨strs_cell (hw1d.grown q4 (fun e => hne (Option.some.inj e))) (k := 1) (x := x) rfl, strs_cell (hw1d.grown q4 (fun e => hne (Option.some.inj e))) (k := 2) (x := y) rfl⟩)
    (first
      | (go_at_call 48
         first
          | (have hmark := hO1
             clear hmark
             refine (digits_c y _ (by omega)).mono ?_
             rintro e w12 ⟨R2, d2, rfl, hO2, hb2⟩
             have hO1 := hO1.next hb2
             have hLr := lo_trans hLr hb2)
          | (refine (digits_c x _ (by omega)).mono ?_
             rintro e w11 ⟨R1, d1, rfl, hO1, hb1⟩
             have hLr := lo_trans hLr hb1))
      | (go_at_call 47
         refine (BuildImage_i _ _ _ _ _ _ (dgs x) (dgs y) _ hO1.rd hO2.rd (by have := dgs_len x; omega) (by have := dgs_len y; omega)).mono ?_
         rintro e w13 ⟨V, R, r, k, zs, rfl, hv, ho, hb3⟩
         have hz12 := hLr.size
         have hLr := lo_trans hLr hb3)
      | (go_at_call 46
         refine (become_res sb s (exBuild (dgs x) (dgs y)) V R r k zs w10.drew _ (grown_of_below hLr _) (h1d.next hLr) (ho.mono (by omega)) (fun z e => ⟨hv z e, by have := okB_bld e; rw [hv z e] at this; exact this⟩)).mono ?_
         rintro e w14 ⟨rr, ok, rfl, q1, q2, q3, q4⟩))
  go_wp2
  go_ret2
  rw [hp.out]
  exact ⟨rr, ok, rfl, q1, q2, q3, grown_trans (grown_of_below hBd _) q4⟩

set_option maxHeartbeats 4000000 in
theorem exec_Switch (sb wb : Nat) (W : Int) (xs : List Int) (x y z u : Bs) (w : World) (h : SS w sb (W, xs)) (hw : Blk w wb 9 (strs [kSwitch, x, y, z, u])) (hx : x.length ≤ 1000) (hy : y.length ≤ 1000) (hz : z.length ≤ 1000) (hu : u.length ≤ 1000) :
    Calls Tryz.prog 21 #[.pointer (some ⟨sb, 0, none⟩), .slice (some ⟨wb, 0, none⟩) 5 5] w (Res w sb (stepS (W, xs) [kSwitch, x, y, z, u])) := by
  obtain ⟨p, hp⟩ : ∃ p, p = stepS (W, xs) [kSwitch, x, y, z, u] := ⟨_, rfl⟩
  rw [← hp]
  rw [step_Switch] at hp
  replace hp := Lib.hid hp
  have hmm := @run_makeMap Tryz.prog
  obtain ⟨w1, w2, w3, w4, w5, w6, w7, w8, w9, w10, u1, u2, u3, u4, u5, u6, u7, u8, u9, u10, hM, hB⟩ := wants_map w
  have hlk := want_look hM kSwitch 4 (by decide) rfl rfl
  have h1 := h.next hB
  have hw1 := hw.next hB
  have hx0 := strs_cell hw1 (k := 0) (x := kSwitch) rfl
  have hx1 := strs_cell hw1 (k := 1) (x := x) rfl
  have hx2 := strs_cell hw1 (k := 2) (x := y) rfl
  have hx3 := strs_cell hw1 (k := 3) (x := z) rfl
  have hx4 := strs_cell hw1 (k := 4) (x := u) rfl
  have qRow : ((S kSwitch).toList == [114, 111, 119]) = false := by rw [S_list]; rfl
  have qClear : ((S kSwitch).toList == [99, 108, 101, 97, 114]) = false := by rw [S_list]; rfl
  have qBuild : ((S kSwitch).toList == [98, 117, 105, 108, 100]) = false := by rw [S_list]; rfl
  have qSwitch : ((S kSwitch).toList == [115, 119, 105, 116, 99, 104]) = true := by rw [S_list]; rfl
  clear hM
  obtain ⟨A, n, c, b1, b2, b3⟩ := id h1
  have hn6 : n ≤ 6 := by have := h.len; have := b2.1; simp only at *; omega
  have c0 := b1.cell 0
  have c1 := b1.cell 1
  have hw1d := hw1.drew
  have h1d : SS w10.drew sb (W, xs) := h1.next (Below.drew (Below.refl _ _))
  have hBd : Below w.heap.size w w10.drew := Below.drew hB
  have hLr := Below.refl w10.drew.heap.size w10.drew
  have hz : sb < w10.drew.heap.size := h1d.lt
  have b1d := b1.drew
  have b2d := b2.drew
  go_enter Tryz.func21, Tryz.ntmps21
  go_wp2
  clear hx0 hx1 hx2 hx3 hx4 c0 c1
  refine wp_region_noPanic ?_
  refine wp_region_N 25 30 (by kernel_rfl) (S := fun w' => w'.cell? ⟨sb, 0, none⟩ = some (.int .i64 W) ∧ w'.cell? ⟨sb, 1, none⟩ = some (.slice A n c) ∧ w'.cell? ⟨wb, 1, none⟩ = some (.string (S x)) ∧ w'.cell? ⟨wb, 2, none⟩ = some (.string (S y)) ∧ w'.cell? ⟨wb, 3, none⟩ = some (.string (S z)) ∧ w'.cell? ⟨wb, 4, none⟩ = some (.string (S u)))
    (by kernel_rfl) ⟨b1d.cell 0, b1d.cell 1, strs_cell hw1d (k := 1) (x := x) rfl, strs_cell hw1d (k := 2) (x := y) rfl, strs_cell hw1d (k := 3) (x := z) rfl, strs_cell hw1d (k := 4) (x := u) rfl⟩ (fun hHeld => ?_)
  refine wpAnyN_take (i := 0) (v := ?_) rfl (by kernel_rfl) (fun _ _ _ h => h) (Or.inl ⟨by rfl, ?_⟩) hHeld ?_
  rotate_left
  focus
    intro w' hSw
    (try dsimp only at hSw)
    go_simp
    try with_reducible rfl
  (try simp only [Act.put, List.setIfInBounds_toArray, List.set_cons_zero, List.set_cons_succ, List.getElem_toArray, List.getElem_cons_zero])
  refine wpAnyN_take (i := 1) (v := ?_) rfl (by kernel_rfl) (fun _ _ _ h => h) (Or.inl ⟨by rfl, ?_⟩) hHeld ?_
  rotate_left
  focus
    intro w' hSw
    (try dsimp only at hSw)
    go_simp
    try with_reducible rfl
  (try simp only [Act.put, List.setIfInBounds_toArray, List.set_cons_zero, List.set_cons_succ, List.getElem_toArray, List.getElem_cons_zero, List.getElem_cons_succ])
  refine wpAnyN_take (i := 2) (v := ?_) rfl (by kernel_rfl) (fun _ _ _ h => h) (Or.inl ⟨by rfl, ?_⟩) hHeld ?_
  rotate_left
  focus
    intro w' hSw
    (try dsimp only at hSw)
    go_simp
    try with_reducible rfl
  (try simp only [Act.put, List.setIfInBounds_toArray, List.set_cons_zero, List.set_cons_succ, List.getElem_toArray, List.getElem_cons_zero, List.getElem_cons_succ])
  refine wpAnyN_take (i := 3) (v := ?_) rfl (by kernel_rfl) (fun _ _ _ h => h) (Or.inl ⟨by rfl, ?_⟩) hHeld ?_
  rotate_left
  focus
    intro w' hSw
    (try dsimp only at hSw)
    go_simp
    try with_reducible rfl
  (try simp only [Act.put, List.setIfInBounds_toArray, List.set_cons_zero, List.set_cons_succ, List.getElem_toArray, List.getElem_cons_zero, List.getElem_cons_succ])
  refine wpAnyN_take (i := 4) (v := ?_) rfl (by kernel_rfl) (fun _ _ _ h => h) (Or.inl ⟨by rfl, ?_⟩) hHeld ?_
  rotate_left
  focus
    intro w' hSw
    (try dsimp only at hSw)
    go_simp
    try with_reducible rfl
  (try simp only [Act.put, List.setIfInBounds_toArray, List.set_cons_zero, List.set_cons_succ, List.getElem_toArray, List.getElem_cons_zero, List.getElem_cons_succ])
  refine wpAnyN_take (i := 5) (v := ?_) rfl (by kernel_rfl) (fun _ _ _ h => h) (Or.inl ⟨by rfl, ?_⟩) hHeld ?_
  rotate_left
  focus
    intro w' hSw
    (try dsimp only at hSw)
    go_simp
    try with_reducible rfl
  (try simp only [Act.put, List.setIfInBounds_toArray, List.set_cons_zero, List.set_cons_succ, List.getElem_toArray, List.getElem_cons_zero, List.getElem_cons_succ])
  refine wpAnyN_take (i := 6) (v := ?_) rfl (by kernel_rfl) (fun _ _ _ h => h) (Or.inl ⟨by rfl, ?_⟩) hHeld ?_
  rotate_left
  focus
    intro w' hSw
    (try dsimp only at hSw)
    go_simp
    try with_reducible rfl
  (try simp only [Act.put, List.setIfInBounds_toArray, List.set_cons_zero, List.set_cons_succ, List.getElem_toArray, List.getElem_cons_zero, List.getElem_cons_succ])
  refine wpAnyN_take (i := 7) (v := ?_) rfl (by kernel_rfl) (fun _ _ _ h => h) (Or.inl ⟨by rfl, ?_⟩) hHeld ?_
  rotate_left
  focus
    intro w' hSw
    (try dsimp only at hSw)
    go_simp
    try with_reducible rfl
  (try simp only [Act.put, List.setIfInBounds_toArray, List.set_cons_zero, List.set_cons_succ, List.getElem_toArray, List.getElem_cons_zero, List.getElem_cons_succ])
  refine wpAnyN_take (i := 9) (v := ?_) rfl (by kernel_rfl) (fun _ _ _ h => h) (Or.inl ⟨by rfl, ?_⟩) hHeld ?_
  rotate_left
  focus
    intro w' hSw
    (try dsimp only at hSw)
    go_simp
    try with_reducible rfl
  (try simp only [Act.put, List.setIfInBounds_toArray, List.set_cons_zero, List.set_cons_succ, List.getElem_toArray, List.getElem_cons_zero, List.getElem_cons_succ])
  refine wpAnyN_take (i := 10) (v := ?_) rfl (by kernel_rfl) (fun _ _ _ h => h) (Or.inl ⟨by rfl, ?_⟩) hHeld ?_
  rotate_left
  focus
    intro w' hSw
    (try dsimp only at hSw)
    go_simp
    try with_reducible rfl
  (try simp only [Act.put, List.setIfInBounds_toArray, List.set_cons_zero, List.set_cons_succ, List.getElem_toArray, List.getElem_cons_zero, List.getElem_cons_succ])
  refine wpAnyN_take (i := 11) (v := ?_) rfl (by kernel_rfl) (fun _ _ _ h => h) (Or.inl ⟨by rfl, ?_⟩) hHeld ?_
  rotate_left
  focus
    intro w' hSw
    (try dsimp only at hSw)
    go_simp
    try with_reducible rfl
  (try simp only [Act.put, List.setIfInBounds_toArray, List.set_cons_zero, List.set_cons_succ, List.getElem_toArray, List.getElem_cons_zero, List.getElem_cons_succ])
  refine wpAnyN_take (i := 13) (v := ?_) rfl (by kernel_rfl) (fun _ _ _ h => h) (Or.inl ⟨by rfl, ?_⟩) hHeld ?_
  rotate_left
  focus
    intro w' hSw
    (try dsimp only at hSw)
    go_simp
    try with_reducible rfl
  (try simp only [Act.put, List.setIfInBounds_toArray, List.set_cons_zero, List.set_cons_succ, List.getElem_toArray, List.getElem_cons_zero, List.getElem_cons_succ])
  refine wpAnyN_take (i := 14) (v := ?_) rfl (by kernel_rfl) (fun _ _ _ h => h) (Or.inl ⟨by rfl, ?_⟩) hHeld ?_
  rotate_left
  focus
    intro w' hSw
    (try dsimp only at hSw)
    go_simp
    try with_reducible rfl
  (try simp only [Act.put, List.setIfInBounds_toArray, List.set_cons_zero, List.set_cons_succ, List.getElem_toArray, List.getElem_cons_zero, List.getElem_cons_succ])
  refine wpAnyN_take (i := 15) (v := ?_) rfl (by kernel_rfl) (fun _ _ _ h => h) (Or.inl ⟨by rfl, ?_⟩) hHeld ?_
  rotate_left
  focus
    intro w' hSw
    (try dsimp only at hSw)
    go_simp
    try with_reducible rfl
  (try simp only [Act.put, List.setIfInBounds_toArray, List.set_cons_zero, List.set_cons_succ, List.getElem_toArray, List.getElem_cons_zero, List.getElem_cons_succ])
  refine wpAnyN_take (i := 17) (v := ?_) rfl (by kernel_rfl) (fun _ _ _ h => h) (Or.inl ⟨by rfl, ?_⟩) hHeld ?_
  rotate_left
  focus
    intro w' hSw
    (try dsimp only at hSw)
    go_simp
    try with_reducible rfl
  (try simp only [Act.put, List.setIfInBounds_toArray, List.set_cons_zero, List.set_cons_succ, List.getElem_toArray, List.getElem_cons_zero, List.getElem_cons_succ])
  refine wpAnyN_take (i := 18) (v := ?_) rfl (by kernel_rfl) (fun _ _ _ h => h) (Or.inl ⟨by rfl, ?_⟩) hHeld ?_
  rotate_left
  focus
    intro w' hSw
    (try dsimp only at hSw)
    go_simp
    try with_reducible rfl
  (try simp only [Act.put, List.setIfInBounds_toArray, List.set_cons_zero, List.set_cons_succ, List.getElem_toArray, List.getElem_cons_zero, List.getElem_cons_succ])
  refine wpAnyN_take (i := 19) (v := ?_) rfl (by kernel_rfl) (fun _ _ _ h => h) (Or.inl ⟨by rfl, ?_⟩) hHeld ?_
  rotate_left
  focus
    intro w' hSw
    (try dsimp only at hSw)
    go_simp
    try with_reducible rfl
  (try simp only [Act.put, List.setIfInBounds_toArray, List.set_cons_zero, List.set_cons_succ, List.getElem_toArray, List.getElem_cons_zero, List.getElem_cons_succ])
  refine wpAnyN_one (i := 8) (by kernel_rfl) rfl (fun K hK => ?_)
  (try simp only [Act.put, List.setIfInBounds_toArray, List.set_cons_zero, List.set_cons_succ, List.getElem_toArray, List.getElem_cons_zero, List.getElem_cons_succ])
  go_simp
  go_at_call 50
  refine (digit_c _ _ (by omega)).mono ?_
  rintro e w11 ⟨rfl, rfl⟩
  refine hK.out _ _ (fun _ => hHeld) ?_
  clear hK K
  (try simp only [Act.put, List.setIfInBounds_toArray, List.set_cons_zero, List.set_cons_succ, List.getElem_toArray, List.getElem_cons_zero, List.getElem_cons_succ])
  refine wpAnyN_one (i := 12) (by kernel_rfl) rfl (fun K hK => ?_)
  (try simp only [Act.put, List.setIfInBounds_toArray, List.set_cons_zero, List.set_cons_succ, List.getElem_toArray, List.getElem_cons_zero, List.getElem_cons_succ])
  go_simp
  go_at_call 50
  refine (digit_c _ _ (by omega)).mono ?_
  rintro e w11 ⟨rfl, rfl⟩
  refine hK.out _ _ (fun _ => hHeld) ?_
  clear hK K
  (try simp only [Act.put, List.setIfInBounds_toArray, List.set_cons_zero, List.set_cons_succ, List.getElem_toArray, List.getElem_cons_zero, List.getElem_cons_succ])
  refine wpAnyN_one (i := 16) (by kernel_rfl) rfl (fun K hK => ?_)
  (try simp only [Act.put, List.setIfInBounds_toArray, List.set_cons_zero, List.set_cons_succ, List.getElem_toArray, List.getElem_cons_zero, List.getElem_cons_succ])
  go_simp
  go_at_call 50
  refine (digit_c _ _ (by omega)).mono ?_
  rintro e w11 ⟨rfl, rfl⟩
  refine hK.out _ _ (fun _ => hHeld) ?_
  clear hK K
  (try simp only [Act.put, List.setIfInBounds_toArray, List.set_cons_zero, List.set_cons_succ, List.getElem_toArray, List.getElem_cons_zero, List.getElem_cons_succ])
  refine wpAnyN_one (i := 20) (by kernel_rfl) rfl (fun K hK => ?_)
  (try simp only [Act.put, List.setIfInBounds_toArray, List.set_cons_zero, List.set_cons_succ, List.getElem_toArray, List.getElem_cons_zero, List.getElem_cons_succ])
  go_simp
  go_at_call 50
  refine (digit_c _ _ (by omega)).mono ?_
  rintro e w11 ⟨rfl, rfl⟩
  refine hK.out _ _ (fun _ => hHeld) ?_
  clear hK K
  (try simp only [Act.put, List.setIfInBounds_toArray, List.set_cons_zero, List.set_cons_succ, List.getElem_toArray, List.getElem_cons_zero, List.getElem_cons_succ])
  refine wpAnyN_take (i := 21) (v := ?_) rfl (by kernel_rfl) (fun _ _ _ h => h) (Or.inl ⟨by rfl, ?_⟩) hHeld ?_
  rotate_left
  focus
    intro w' hSw
    (try dsimp only at hSw)
    go_simp
    try with_reducible rfl
  (try simp only [Act.put, List.setIfInBounds_toArray, List.set_cons_zero, List.set_cons_succ, List.getElem_toArray, List.getElem_cons_zero, List.getElem_cons_succ])
  refine wpAnyN_one (i := 22) (by kernel_rfl) rfl (fun K hK => ?_)
  (try simp only [Act.put, List.setIfInBounds_toArray, List.set_cons_zero, List.set_cons_succ, List.getElem_toArray, List.getElem_cons_zero, List.getElem_cons_succ])
  go_simp
  go_at_call 49
  refine (impl_SwitchDo_c W n c A xs (dgt x) (dgt y) (dgt z) (dgt u) _ b2d.rd (by omega)).mono ?_
  rintro e w13 ⟨V, R, r, k, zs, rfl, hv, ho, hb3⟩
  have hz12 := hLr.size
  have hLr := lo_trans hLr hb3
  have hHeld := And.intro ((b1d.next hLr).cell 0) (And.intro ((b1d.next hLr).cell 1) (And.intro (strs_cell (hw1d.next hLr) (k := 1) (x := x) rfl) (And.intro (strs_cell (hw1d.next hLr) (k := 2) (x := y) rfl) (And.intro (strs_cell (hw1d.next hLr) (k := 3) (x := z) rfl) (strs_cell (hw1d.next hLr) (k := 4) (x := u) rfl)))))
  refine hK.out _ _ (fun _ => hHeld) ?_
  clear hK K
  (try simp only [Act.put, List.setIfInBounds_toArray, List.set_cons_zero, List.set_cons_succ, List.getElem_toArray, List.getElem_cons_zero, List.getElem_cons_succ])
  refine wpAnyN_take (i := 23) (v := ?_) rfl (by kernel_rfl) (fun _ _ _ h => h) (Or.inl ⟨by rfl, ?_⟩) hHeld ?_
  rotate_left
  focus
    intro w' hSw
    (try dsimp only at hSw)
    go_simp
    try with_reducible rfl
  (try simp only [Act.put, List.setIfInBounds_toArray, List.set_cons_zero, List.set_cons_succ, List.getElem_toArray, List.getElem_cons_zero, List.getElem_cons_succ])
  refine wpAnyN_take (i := 24) (v := ?_) rfl (by kernel_rfl) (fun _ _ _ h => h) (Or.inl ⟨by rfl, ?_⟩) hHeld ?_
  rotate_left
  focus
    intro w' hSw
    (try dsimp only at hSw)
    go_simp
    try with_reducible rfl
  (try simp only [Act.put, List.setIfInBounds_toArray, List.set_cons_zero, List.set_cons_succ, List.getElem_toArray, List.getElem_cons_zero, List.getElem_cons_succ])
  refine wpAnyN_one (i := 25) (by kernel_rfl) rfl (fun K hK => ?_)
  (try simp only [Act.put, List.setIfInBounds_toArray, List.set_cons_zero, List.set_cons_succ, List.getElem_toArray, List.getElem_cons_zero, List.getElem_cons_succ])
  go_simp
  go_at_call 46
  refine (become_res sb (W, xs) (exSwitch (W, xs) (dgt x) (dgt y) (dgt z) (dgt u)) V R r k zs w10.drew _ (grown_of_below hLr _) (h1d.next hLr) (ho.mono (by omega)) (fun z e => ⟨hv z e, by have := okB_sw e; rw [hv z e] at this; exact this⟩)).mono ?_
  rintro e w14 ⟨rr, ok, rfl, q1, q2, q3, q4⟩
  refine hK.out _ _ (fun e => absurd e (by decide)) ?_
  clear hK K
  (try simp only [Act.put, List.setIfInBounds_toArray, List.set_cons_zero, List.set_cons_succ, List.getElem_toArray, List.getElem_cons_zero, List.getElem_cons_succ])
  refine wpAnyN_tail (by kernel_rfl) ?_
  refine wpAny_take (i := 26) (v := ?_) rfl (by kernel_rfl) (by kernel_rfl) (by kernel_rfl) (fun _ _ _ h => h) (Or.inl ⟨by rfl, ?_⟩) ?_
  rotate_left
  focus
    intro w'
    go_simp
    try with_reducible rfl
  (try simp only [Act.put, List.setIfInBounds_toArray, List.set_cons_zero, List.set_cons_succ, List.getElem_toArray, List.getElem_cons_zero, List.getElem_cons_succ])
  refine wpAny_take (i := 27) (v := ?_) rfl (by kernel_rfl) (by kernel_rfl) (by kernel_rfl) (fun _ _ _ h => h) (Or.inl ⟨by rfl, ?_⟩) ?_
  rotate_left
  focus
    intro w'
    go_simp
    try with_reducible rfl
  (try simp only [Act.put, List.setIfInBounds_toArray, List.set_cons_zero, List.set_cons_succ, List.getElem_toArray, List.getElem_cons_zero, List.getElem_cons_succ])
  refine wpAny_take (i := 28) (v := ?_) rfl (by kernel_rfl) (by kernel_rfl) (by kernel_rfl) (fun _ _ _ h => h) (Or.inl ⟨by rfl, ?_⟩) ?_
  rotate_left
  focus
    intro w'
    go_simp
    try with_reducible rfl
  (try simp only [Act.put, List.setIfInBounds_toArray, List.set_cons_zero, List.set_cons_succ, List.getElem_toArray, List.getElem_cons_zero, List.getElem_cons_succ])
  refine wpAny_take (i := 29) (v := ?_) rfl (by kernel_rfl) (by kernel_rfl) (by kernel_rfl) (fun _ _ _ h => h) (Or.inl ⟨by rfl, ?_⟩) ?_
  rotate_left
  focus
    intro w'
    go_simp
    try with_reducible rfl
  (try simp only [Act.put, List.setIfInBounds_toArray, List.set_cons_zero, List.set_cons_succ, List.getElem_toArray, List.getElem_cons_zero, List.getElem_cons_succ])
  refine wpAny_done (by kernel_rfl) ?_ _
  refine NoPanic.normal ?_
  go_wp2
  go_ret2
  rw [hp.out]
  exact ⟨rr, ok, rfl, q1, q2, q3, grown_trans (grown_of_below hBd _) q4⟩
end Go.Proofs.YteabnljjogiflaaGreatDoor

-- Walks: orders of a script are executed: proof, sums, lines.
namespace Go.Proofs.YteabnljjogiflaaGreatDoor
open Go.RowKit
set_option maxRecDepth 100000

theorem pOf_lt {r c : List Int} : (pOf r c).getD 0 < 7 := by
  cases h : pOf r c with
  | none => decide
  | some t => exact List.mem_range.1 (List.mem_of_find?_eq_some h)
theorem rsum_100 {xs : List Int} : ∀ x ∈ rsum xs, 0 ≤ x ∧ x < 100 := by
  intro x hx
  obtain ⟨k, hk, rfl⟩ := List.mem_iff_getElem.1 hx
  have := rsum_bd xs (k := k) (by rw [rsum_len] at hk; exact hk)
  rw [List.getElem?_eq_getElem hk, Option.getD_some] at this
  omega
theorem csum_100 {m : Nat} {xs : List Int} (h : xs.length ≤ 6) : ∀ x ∈ csum m xs, 0 ≤ x ∧ x < 100 := by
  intro x hx
  have := csum_bd h x hx
  omega
theorem dirL_100 {d : Int} {m : Nat} {xs : List Int} (h : xs.length ≤ 6) (hm : m ≤ 6) : ∀ x ∈ dirL d m xs, 0 ≤ x ∧ x < 100 := by
  intro x hx
  unfold dirL at hx
  split at hx
  · exact dirS_le h hm x hx
  · cases hx
theorem dirL_len {d : Int} {m : Nat} {xs : List Int} (h : 1 ≤ xs.length ∧ xs.length ≤ 6) (hm : 1 ≤ m ∧ m ≤ 6) : (dirL d m xs).length ≤ 100 := by
  unfold dirL
  split
  · next hd =>
    simp only [dirB, Bool.and_eq_true, decide_eq_true_eq] at hd
    have := (lnK_lt (d := d.toNat) (h := xs.length) (m := m) (i := 0) (j := 0) (by omega) h.2 hm.2 (by omega) (by omega)).2.2
    rw [dirS, dst_len]
    omega
  · simp

set_option maxHeartbeats 4000000 in
theorem exec_Proof (sb wb : Nat) (s : Ig) (x y : Bs) (w : World) (h : SS w sb s) (hw : Blk w wb 9 (strs [kProof, x, y])) (hx : x.length ≤ 1000) (hy : y.length ≤ 1000) :
    Calls Tryz.prog 21 #[.pointer (some ⟨sb, 0, none⟩), .slice (some ⟨wb, 0, none⟩) 3 3] w (Res w sb (stepS s [kProof, x, y])) := by
  obtain ⟨p, hp⟩ : ∃ p, p = stepS s [kProof, x, y] := ⟨_, rfl⟩
  rw [← hp]
  rw [step_Proof] at hp
  replace hp := Lib.hid hp
  have hmm := @run_makeMap Tryz.prog
  obtain ⟨w1, w2, w3, w4, w5, w6, w7, w8, w9, w10, u1, u2, u3, u4, u5, u6, u7, u8, u9, u10, hM, hB⟩ := wants_map w
  have hlk := want_look hM kProof 2 (by decide) rfl rfl
  have h1 := h.next hB
  have hw1 := hw.next hB
  have hx0 := strs_cell hw1 (k := 0) (x := kProof) rfl
  have hx1 := strs_cell hw1 (k := 1) (x := x) rfl
  have hx2 := strs_cell hw1 (k := 2) (x := y) rfl
  have qRow : ((S kProof).toList == [114, 111, 119]) = false := by rw [S_list]; rfl
  have qClear : ((S kProof).toList == [99, 108, 101, 97, 114]) = false := by rw [S_list]; rfl
  have qBuild : ((S kProof).toList == [98, 117, 105, 108, 100]) = false := by rw [S_list]; rfl
  have qSwitch : ((S kProof).toList == [115, 119, 105, 116, 99, 104]) = false := by rw [S_list]; rfl
  have qNext : ((S kProof).toList == [110, 101, 120, 116]) = false := by rw [S_list]; rfl
  have qProof : ((S kProof).toList == [112, 114, 111, 111, 102]) = true := by rw [S_list]; rfl
  clear hM
  obtain ⟨t, ht⟩ : ∃ t : Nat, t = (pOf (dgs x) (dgs y)).getD 0 := ⟨_, rfl⟩
  obtain ⟨ok, hok⟩ : ∃ b : Bool, b = (pOf (dgs x) (dgs y)).isSome := ⟨_, rfl⟩
  have hpv := Lib.hid (show pVal (pOf (dgs x) (dgs y)) = .tuple #[.int .i64 (t : Int), .bool ok] by rw [ht, hok]; rfl)
  have ht7 : t < 7 := by rw [ht]; exact pOf_lt
  have hT : Hid (askO s ((pOf (dgs x) (dgs y)).map dec2) = (s, (if ok then dec2 t else tNo) ++ [10])) := by
    refine Lib.hid ?_
    rw [ht, hok]
    cases pOf (dgs x) (dgs y) <;> rfl
  clear ht hok
  have hw1d := hw1.drew
  have h1d : SS w10.drew sb s := h1.next (Below.drew (Below.refl _ _))
  have hBd : Below w.heap.size w w10.drew := Below.drew hB
  have hLr := Below.refl w10.drew.heap.size w10.drew
  go_enter Tryz.func21, Tryz.ntmps21
  go_wp2
  clear hx0 hx1 hx2
  go_region_held3 (fun w' => w'.cell? ⟨wb, 1, none⟩ = some (.string (S x)) ∧ w'.cell? ⟨wb, 2, none⟩ = some (.string (S y)))
    (exact ⟨strs_cell (hw1d.next hLr) (k := 1) (x := x) rfl, strs_cell (hw1d.next hLr) (k := 2) (x := y) rfl⟩)
    (first
      | (go_at_call 48
         first
          | (have hmark := hO1
             clear hmark
             refine (digits_c y _ (by omega)).mono ?_
             rintro e w12 ⟨R2, d2, rfl, hO2, hb2⟩
             have hO1 := hO1.next hb2
             have hLr := lo_trans hLr hb2)
          | (refine (digits_c x _ (by omega)).mono ?_
             rintro e w11 ⟨R1, d1, rfl, hO1, hb1⟩
             have hLr := lo_trans hLr hb1))
      | (go_at_call 52
         refine (impl_ProofOf_c _ _ _ _ _ _ (dgs x) (dgs y) _ hO1.rd hO2.rd (by have := dgs_len x; omega) (by have := dgs_len y; omega)).mono ?_
         rintro e w13 ⟨he, hb3⟩
         rw [hpv.out] at he
         subst he
         have hLr := lo_trans hLr hb3))
  go_wp2_with fail
  refine (Itoa_c t (by omega) _).mono ?_
  rintro e w14 ⟨rfl, rfl⟩
  go_wp2
  go_ret2
  rw [hp.out, hT.out]
  exact Res.of (r := dec2 t) (ok := ok) rfl rfl (by have := dec2_len t; omega) (h1d.next hLr) (grown_of_below (lo_trans hBd hLr) _)

set_option maxHeartbeats 4000000 in
theorem exec_Sums_no (sb wb : Nat) (W : Int) (xs : List Int) (w : World) (h : SS w sb (W, xs)) (hw : Blk w wb 9 (strs [kSums])) (hk : okB W xs = false) :
    Calls Tryz.prog 21 #[.pointer (some ⟨sb, 0, none⟩), .slice (some ⟨wb, 0, none⟩) 1 1] w (Res w sb (stepS (W, xs) [kSums])) := by
  obtain ⟨p, hp⟩ : ∃ p, p = stepS (W, xs) [kSums] := ⟨_, rfl⟩
  rw [← hp]
  rw [step_Sums] at hp
  replace hp := Lib.hid hp
  have hmm := @run_makeMap Tryz.prog
  obtain ⟨w1, w2, w3, w4, w5, w6, w7, w8, w9, w10, u1, u2, u3, u4, u5, u6, u7, u8, u9, u10, hM, hB⟩ := wants_map w
  have hlk := want_look hM kSums 0 (by decide) rfl rfl
  have h1 := h.next hB
  have hw1 := hw.next hB
  have hx0 := strs_cell hw1 (k := 0) (x := kSums) rfl
  have qRow : ((S kSums).toList == [114, 111, 119]) = false := by rw [S_list]; rfl
  have qClear : ((S kSums).toList == [99, 108, 101, 97, 114]) = false := by rw [S_list]; rfl
  have qBuild : ((S kSums).toList == [98, 117, 105, 108, 100]) = false := by rw [S_list]; rfl
  have qSwitch : ((S kSums).toList == [115, 119, 105, 116, 99, 104]) = false := by rw [S_list]; rfl
  have qNext : ((S kSums).toList == [110, 101, 120, 116]) = false := by rw [S_list]; rfl
  have qProof : ((S kSums).toList == [112, 114, 111, 111, 102]) = false := by rw [S_list]; rfl
  have qShow : ((S kSums).toList == [115, 104, 111, 119]) = false := by rw [S_list]; rfl
  have qSums : ((S kSums).toList == [115, 117, 109, 115]) = true := by rw [S_list]; rfl
  clear hM
  obtain ⟨A, n, c, b1, b2, b3⟩ := id h1
  have hn6 : n ≤ 6 := by have := h.len; have := b2.1; simp only at *; omega
  have c0 := b1.cell 0
  have c1 := b1.cell 1
  have hk' := Lib.hid hk
  have hT := Lib.hid (show okB ((W, xs) : Ig).1 ((W, xs) : Ig).2 = false from hk)
  clear hk
  go_enter Tryz.func21, Tryz.ntmps21
  go_wp2_with fail
  refine (impl_ImageValid_c _ _ _ _ xs _ b2.rd (by omega)).mono ?_
  rw [hk'.out]
  rintro e wv ⟨rfl, hbv⟩
  go_wp2
  go_ret2
  rw [hp.out, hT.out]
  exact Res.of (r := []) (ok := false) rfl rfl (by decide) (h1.next hbv) (grown_trans (grown_of_below hB (some sb)) (grown_of_below hbv _))

set_option maxHeartbeats 4000000 in
theorem exec_Sums_yes (sb wb : Nat) (W : Int) (xs : List Int) (w : World) (h : SS w sb (W, xs)) (hw : Blk w wb 9 (strs [kSums])) (hk : okB W xs = true) :
    Calls Tryz.prog 21 #[.pointer (some ⟨sb, 0, none⟩), .slice (some ⟨wb, 0, none⟩) 1 1] w (Res w sb (stepS (W, xs) [kSums])) := by
  obtain ⟨p, hp⟩ : ∃ p, p = stepS (W, xs) [kSums] := ⟨_, rfl⟩
  rw [← hp]
  rw [step_Sums] at hp
  replace hp := Lib.hid hp
  have hmm := @run_makeMap Tryz.prog
  obtain ⟨w1, w2, w3, w4, w5, w6, w7, w8, w9, w10, u1, u2, u3, u4, u5, u6, u7, u8, u9, u10, hM, hB⟩ := wants_map w
  have hlk := want_look hM kSums 0 (by decide) rfl rfl
  have h1 := h.next hB
  have hw1 := hw.next hB
  have hx0 := strs_cell hw1 (k := 0) (x := kSums) rfl
  have qRow : ((S kSums).toList == [114, 111, 119]) = false := by rw [S_list]; rfl
  have qClear : ((S kSums).toList == [99, 108, 101, 97, 114]) = false := by rw [S_list]; rfl
  have qBuild : ((S kSums).toList == [98, 117, 105, 108, 100]) = false := by rw [S_list]; rfl
  have qSwitch : ((S kSums).toList == [115, 119, 105, 116, 99, 104]) = false := by rw [S_list]; rfl
  have qNext : ((S kSums).toList == [110, 101, 120, 116]) = false := by rw [S_list]; rfl
  have qProof : ((S kSums).toList == [112, 114, 111, 111, 102]) = false := by rw [S_list]; rfl
  have qShow : ((S kSums).toList == [115, 104, 111, 119]) = false := by rw [S_list]; rfl
  have qSums : ((S kSums).toList == [115, 117, 109, 115]) = true := by rw [S_list]; rfl
  clear hM
  obtain ⟨A, n, c, b1, b2, b3⟩ := id h1
  have hn6 : n ≤ 6 := by have := h.len; have := b2.1; simp only at *; omega
  have c0 := b1.cell 0
  have c1 := b1.cell 1
  have hbd := okB_bd hk
  obtain ⟨m, rfl⟩ : ∃ m : Nat, W = (m : Int) := ⟨W.toNat, by omega⟩
  have hk' := Lib.hid hk
  have hT := Lib.hid (show okB (((m : Int), xs) : Ig).1 (((m : Int), xs) : Ig).2 = true from hk)
  have hxl := b2.1
  obtain ⟨d1, hd1⟩ : ∃ d, Hid (decs (rsum xs) = d) := ⟨_, Lib.hid rfl⟩
  obtain ⟨d2, hd2⟩ : ∃ d, Hid (decs (csum m xs) = d) := ⟨_, Lib.hid rfl⟩
  have hl1 : d1.length ≤ 18 := by
    have := decs_len (rsum xs)
    rw [hd1.out, rsum_len] at this
    omega
  have hl2 : d2.length ≤ 18 := by
    have := decs_len (csum m xs)
    rw [hd2.out, csum_len] at this
    omega
  have hSr := Lib.hid (show rSums (m : Int) xs = rsum xs by rw [rSums, hk]; rfl)
  have hSc := Lib.hid (show cSums (m : Int) xs = csum m xs by rw [cSums, hk, if_pos rfl, Int.toNat_natCast])
  have hP := Lib.hid (show (tRowsW ++ decs (rsum xs) ++ tColsW ++ decs (csum m xs)) = tRowsW ++ d1 ++ tColsW ++ d2 by rw [hd1.out, hd2.out])
  obtain ⟨t3, hc3⟩ : ∃ c, Hid (tRowsW ++ d1 ++ tColsW ++ d2 = c) := ⟨_, Lib.hid rfl⟩
  have e3 : ∀ w, (Op.stringOp .add (S (tRowsW ++ d1 ++ tColsW)) (S d2)).run Tryz.prog w = .ok (.string (S t3)) w := fun w => by
    rw [← hc3.out]
    exact cat_ok (tRowsW ++ d1 ++ tColsW) d2 (by simp [tRowsW, tColsW]; omega) w
  have hc3l : t3.length ≤ 1000 := by rw [← hc3.out]; simp [tRowsW, tColsW]; omega
  obtain ⟨t2, hc2⟩ : ∃ c, Hid (tRowsW ++ d1 ++ tColsW = c) := ⟨_, Lib.hid rfl⟩
  have e2 : ∀ w, (Op.stringOp .add (S (tRowsW ++ d1)) ({ data := #[32, 99, 111, 108, 115] } : ByteArray)).run Tryz.prog w = .ok (.string (S t2)) w := fun w => by
    rw [← hc2.out]
    exact cat_ok (tRowsW ++ d1) tColsW (by simp [tRowsW, tColsW]; omega) w
  rw [hc2.out] at e3
  obtain ⟨t1, hc1⟩ : ∃ c, Hid (tRowsW ++ d1 = c) := ⟨_, Lib.hid rfl⟩
  have e1 : ∀ w, (Op.stringOp .add ({ data := #[114, 111, 119, 115] } : ByteArray) (S d1)).run Tryz.prog w = .ok (.string (S t1)) w := fun w => by
    rw [← hc1.out]
    exact cat_ok tRowsW d1 (by simp [tRowsW]; omega) w
  rw [hc1.out] at e2
  have hx6 : xs.length ≤ 6 := by omega
  clear hk
  go_enter Tryz.func21, Tryz.ntmps21
  go_wp2_with fail
  refine (impl_ImageValid_c _ _ _ _ xs _ b2.rd (by omega)).mono ?_
  rw [hk'.out]
  rintro e wv ⟨rfl, hbv⟩
  have h2 := h1.next hbv
  have b1v := b1.next hbv
  have b2v := b2.next hbv
  have hw2 := hw1.next hbv
  have d0 := b1v.cell 0
  have d1 := b1v.cell 1
  have hy0 := strs_cell hw2 (k := 0) (x := kSums) rfl
  have b1d := b1v.drew
  have hRd := b2v.drew
  have h2d : SS wv.drew sb ((m : Int), xs) := h2.next (Below.drew (Below.refl _ _))
  have hBd : Below w.heap.size w wv.drew := Below.drew (lo_trans hB hbv)
  have hLr := Below.refl wv.drew.heap.size wv.drew
  go_wp2
  clear d0 d1 c0 c1
  go_region_held3 (fun w' => w'.cell? ⟨sb, 0, none⟩ = some (.int .i64 (m : Int)) ∧ w'.cell? ⟨sb, 1, none⟩ = some (.slice A n c))
    (exact ⟨(b1d.next hLr).cell 0, (b1d.next hLr).cell 1⟩)
    (first
      | (go_at_call 56
         first
          | (have hmark := hO2
             clear hmark
             refine (listed_c _ _ _ (csum m xs) _ hO2.rd (by have := hO2.1; rw [csum_len] at this; omega) (csum_100 hx6)).mono ?_
             rw [hd2.out]
             rintro e w12 ⟨rfl, rfl⟩)
          | (refine (listed_c _ _ _ (rsum xs) _ hO1.rd (by have := hO1.1; rw [rsum_len] at this; omega) rsum_100).mono ?_
             rw [hd1.out]
             rintro e w11 ⟨rfl, rfl⟩))
      | (go_at_call 57
         refine (RowSums_c _ _ _ _ xs _ (hRd.next hLr).rd (by omega)).mono ?_
         rw [hSr.out]
         rintro e w6 ⟨R6, r6, d6, rfl, hb6, hO1⟩
         have hLr := lo_trans hLr hb6)
      | (go_at_call 58
         refine (ColSums_c _ _ _ _ xs _ (hRd.next hLr).rd (by omega)).mono ?_
         rw [hSc.out]
         rintro e w7 ⟨R7, r7, d7, rfl, hb7, hO2⟩
         have hLr := lo_trans hLr hb7))
  go_wp2
  go_ret2
  rw [hp.out, hT.out]
  exact Res.of (r := t3) (ok := true) rfl (by simp only [if_true, Int.toNat_natCast]; rw [hP.out, hc3.out]) hc3l (h2d.next hLr) (grown_of_below (lo_trans hBd hLr) _)

set_option maxHeartbeats 4000000 in
theorem exec_Lines_no (sb wb : Nat) (W : Int) (xs : List Int) (x : Bs) (w : World) (h : SS w sb (W, xs)) (hw : Blk w wb 9 (strs [kLines, x])) (hk : okB W xs = false) :
    Calls Tryz.prog 21 #[.pointer (some ⟨sb, 0, none⟩), .slice (some ⟨wb, 0, none⟩) 2 2] w (Res w sb (stepS (W, xs) [kLines, x])) := by
  obtain ⟨p, hp⟩ : ∃ p, p = stepS (W, xs) [kLines, x] := ⟨_, rfl⟩
  rw [← hp]
  rw [step_Lines] at hp
  replace hp := Lib.hid hp
  have hmm := @run_makeMap Tryz.prog
  obtain ⟨w1, w2, w3, w4, w5, w6, w7, w8, w9, w10, u1, u2, u3, u4, u5, u6, u7, u8, u9, u10, hM, hB⟩ := wants_map w
  have hlk := want_look hM kLines 1 (by decide) rfl rfl
  have h1 := h.next hB
  have hw1 := hw.next hB
  have hx0 := strs_cell hw1 (k := 0) (x := kLines) rfl
  have hx1 := strs_cell hw1 (k := 1) (x := x) rfl
  have qRow : ((S kLines).toList == [114, 111, 119]) = false := by rw [S_list]; rfl
  have qClear : ((S kLines).toList == [99, 108, 101, 97, 114]) = false := by rw [S_list]; rfl
  have qBuild : ((S kLines).toList == [98, 117, 105, 108, 100]) = false := by rw [S_list]; rfl
  have qSwitch : ((S kLines).toList == [115, 119, 105, 116, 99, 104]) = false := by rw [S_list]; rfl
  have qNext : ((S kLines).toList == [110, 101, 120, 116]) = false := by rw [S_list]; rfl
  have qProof : ((S kLines).toList == [112, 114, 111, 111, 102]) = false := by rw [S_list]; rfl
  have qShow : ((S kLines).toList == [115, 104, 111, 119]) = false := by rw [S_list]; rfl
  have qSums : ((S kLines).toList == [115, 117, 109, 115]) = false := by rw [S_list]; rfl
  have qUnique : ((S kLines).toList == [117, 110, 105, 113, 117, 101]) = false := by rw [S_list]; rfl
  clear hM
  obtain ⟨A, n, c, b1, b2, b3⟩ := id h1
  have hn6 : n ≤ 6 := by have := h.len; have := b2.1; simp only at *; omega
  have c0 := b1.cell 0
  have c1 := b1.cell 1
  have hk' := Lib.hid hk
  have hT := Lib.hid (show okB ((W, xs) : Ig).1 ((W, xs) : Ig).2 = false from hk)
  clear hk
  go_enter Tryz.func21, Tryz.ntmps21
  go_wp2_with fail
  refine (impl_ImageValid_c _ _ _ _ xs _ b2.rd (by omega)).mono ?_
  rw [hk'.out]
  rintro e wv ⟨rfl, hbv⟩
  go_wp2
  go_ret2
  rw [hp.out, hT.out]
  exact Res.of (r := []) (ok := false) rfl rfl (by decide) (h1.next hbv) (grown_trans (grown_of_below hB (some sb)) (grown_of_below hbv _))

set_option maxHeartbeats 4000000 in
theorem exec_Lines_yes (sb wb : Nat) (W : Int) (xs : List Int) (x : Bs) (w : World) (h : SS w sb (W, xs)) (hw : Blk w wb 9 (strs [kLines, x])) (hx : x.length ≤ 1000) (hk : okB W xs = true) (hD : Dir w) :
    Calls Tryz.prog 21 #[.pointer (some ⟨sb, 0, none⟩), .slice (some ⟨wb, 0, none⟩) 2 2] w (Res w sb (stepS (W, xs) [kLines, x])) := by
  obtain ⟨p, hp⟩ : ∃ p, p = stepS (W, xs) [kLines, x] := ⟨_, rfl⟩
  rw [← hp]
  rw [step_Lines] at hp
  replace hp := Lib.hid hp
  have hmm := @run_makeMap Tryz.prog
  obtain ⟨w1, w2, w3, w4, w5, w6, w7, w8, w9, w10, u1, u2, u3, u4, u5, u6, u7, u8, u9, u10, hM, hB⟩ := wants_map w
  have hlk := want_look hM kLines 1 (by decide) rfl rfl
  have h1 := h.next hB
  have hw1 := hw.next hB
  have hx0 := strs_cell hw1 (k := 0) (x := kLines) rfl
  have hx1 := strs_cell hw1 (k := 1) (x := x) rfl
  have qRow : ((S kLines).toList == [114, 111, 119]) = false := by rw [S_list]; rfl
  have qClear : ((S kLines).toList == [99, 108, 101, 97, 114]) = false := by rw [S_list]; rfl
  have qBuild : ((S kLines).toList == [98, 117, 105, 108, 100]) = false := by rw [S_list]; rfl
  have qSwitch : ((S kLines).toList == [115, 119, 105, 116, 99, 104]) = false := by rw [S_list]; rfl
  have qNext : ((S kLines).toList == [110, 101, 120, 116]) = false := by rw [S_list]; rfl
  have qProof : ((S kLines).toList == [112, 114, 111, 111, 102]) = false := by rw [S_list]; rfl
  have qShow : ((S kLines).toList == [115, 104, 111, 119]) = false := by rw [S_list]; rfl
  have qSums : ((S kLines).toList == [115, 117, 109, 115]) = false := by rw [S_list]; rfl
  have qUnique : ((S kLines).toList == [117, 110, 105, 113, 117, 101]) = false := by rw [S_list]; rfl
  clear hM
  obtain ⟨A, n, c, b1, b2, b3⟩ := id h1
  have hn6 : n ≤ 6 := by have := h.len; have := b2.1; simp only at *; omega
  have c0 := b1.cell 0
  have c1 := b1.cell 1
  have hbd := okB_bd hk
  obtain ⟨m, rfl⟩ : ∃ m : Nat, W = (m : Int) := ⟨W.toNat, by omega⟩
  have hk' := Lib.hid hk
  have hT := Lib.hid (show okB (((m : Int), xs) : Ig).1 (((m : Int), xs) : Ig).2 = true from hk)
  have hxl := b2.1
  obtain ⟨d, hd⟩ : ∃ d, Hid (decs (dirL (dgt x) m xs) = d) := ⟨_, Lib.hid rfl⟩
  have hx6 : xs.length ≤ 6 := by omega
  have hll : (dirL (dgt x) m xs).length ≤ 100 := dirL_len ⟨by omega, by omega⟩ ⟨by omega, by omega⟩
  have hl1 : d.length ≤ 300 := by
    have := decs_len (dirL (dgt x) m xs)
    rw [hd.out] at this
    omega
  have hDw := Lib.hid (show dirW (m : Int) xs (dgt x) = dirL (dgt x) m xs by rw [dirW, hk, if_pos rfl, Int.toNat_natCast])
  have h100 := Lib.hid (dirL_100 (d := dgt x) (m := m) hx6 (by omega))
  obtain ⟨ok, hok⟩ : ∃ b, Hid (dirB (dgt x) = b) := ⟨_, Lib.hid rfl⟩
  have hP : Hid (askO (((m : Int), xs) : Ig) (if (true && dirB (dgt x)) = true then some (kLines ++ decs (dirS (dgt x).toNat m xs)) else none) = (((m : Int), xs), (if ok then kLines ++ d else tNo) ++ [10])) := by
    refine Lib.hid ?_
    rw [← hd.out, ← hok.out, dirL]
    cases dirB (dgt x) <;> rfl
  have e1 : ∀ w, (Op.stringOp .add ({ data := #[108, 105, 110, 101, 115] } : ByteArray) (S d)).run Tryz.prog w = .ok (.string (S (kLines ++ d))) w := fun w => cat_ok kLines d (by simp [kLines]; omega) w
  have hD1 := hD.next hB
  clear hk
  go_enter Tryz.func21, Tryz.ntmps21
  go_wp2_with fail
  refine (impl_ImageValid_c _ _ _ _ xs _ b2.rd (by omega)).mono ?_
  rw [hk'.out]
  rintro e wv ⟨rfl, hbv⟩
  have h2 := h1.next hbv
  have b1v := b1.next hbv
  have b2v := b2.next hbv
  have hw2 := hw1.next hbv
  have d0 := b1v.cell 0
  have d1 := b1v.cell 1
  have hy0 := strs_cell hw2 (k := 0) (x := kLines) rfl
  have b1d := b1v.drew
  have hRd := b2v.drew
  have hw2d := hw2.drew
  have hDd : Dir wv.drew := (hD1.next hbv).next (Below.drew (Below.refl _ _))
  have h2d : SS wv.drew sb ((m : Int), xs) := h2.next (Below.drew (Below.refl _ _))
  have hBd : Below w.heap.size w wv.drew := Below.drew (lo_trans hB hbv)
  have hLr := Below.refl wv.drew.heap.size wv.drew
  go_wp2
  clear d0 d1 c0 c1
  go_region_held3 (fun w' => w'.cell? ⟨sb, 0, none⟩ = some (.int .i64 (m : Int)) ∧ w'.cell? ⟨sb, 1, none⟩ = some (.slice A n c) ∧ w'.cell? ⟨wb, 1, none⟩ = some (.string (S x)))
    (exact ⟨(b1d.next hLr).cell 0, (b1d.next hLr).cell 1, strs_cell (hw2d.next hLr) (k := 1) (x := x) rfl⟩)
    (first
      | (go_at_call 56
         refine (listed_c _ _ _ (dirL (dgt x) m xs) _ hO1.rd (by have := hO1.1; omega) h100.out).mono ?_
         rw [hd.out]
         rintro e w11 ⟨rfl, rfl⟩)
      | (go_at_call 50
         refine (digit_c _ _ (by omega)).mono ?_
         rintro e w11 ⟨rfl, rfl⟩)
      | (go_at_call 61
         refine (isDir_c _ _).mono ?_
         rw [hok.out]
         rintro e w11 ⟨rfl, rfl⟩)
      | (go_at_call 60
         refine (DirSums_c _ _ _ _ xs _ _ (hRd.next hLr).rd (by omega) (hDd.next hLr)).mono ?_
         rw [hDw.out]
         rintro e w6 ⟨R6, r6, d6, rfl, hO1, hb6⟩
         have hLr := lo_trans hLr hb6))
  go_wp2
  go_ret2
  rw [hp.out, hT.out]
  simp only [Int.toNat_natCast]
  rw [hP.out]
  exact Res.of (r := kLines ++ d) (ok := ok) rfl rfl (by simp [kLines]; omega) (h2d.next hLr) (grown_of_below (lo_trans hBd hLr) _)
end Go.Proofs.YteabnljjogiflaaGreatDoor
