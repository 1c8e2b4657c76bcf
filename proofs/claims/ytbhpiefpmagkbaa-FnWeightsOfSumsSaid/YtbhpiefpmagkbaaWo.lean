
/- Walks: the weights of a unique image, the program's function and the reference's. -/
import Derived.Test.YtbhpiefpmagkbaaMathWo
import Derived.Test.YtbhpiefpmagkbaaUq
import Derived.Test.YtbhpiefpmagkbaaRe
import Derived.Test.YtbhpiefpmagkbaaOd
import Derived.Test.YtbhpiefpmagkbaaOl
import Derived.Deep.RegionHeld3
import Derived.Deep.Cut
namespace Go.Proofs.Ytbhpiefpmagkbaa
open Go.RowKit Go.Shelf
set_option maxRecDepth 100000

/-- what WeightsOf tells -/
def OfPost (W : Int) (xs : List Int) (w : World) (e : Ending) (w' : World) : Prop := ∃ R r k S s l, e = .returned (.tuple #[.slice R r k, .slice S s l, .bool (uniqB W xs)]) ∧ Below w.heap.size w w' ∧
  Own w' w.heap.size R r (ofP W xs) ∧ Own w' w.heap.size S s (ofQ W xs) ∧ ∀ g, rowOf R r = some g → rowOf S s ≠ some g

set_option maxHeartbeats 8000000 in
theorem impl_WeightsOf_c (W : Int) (A : Option Addr) (n c : Nat) (xs : List Int) (w : World) (hr : Rd w A n xs) (hn : n ≤ 1073741824) :
    Calls Try.prog 11 #[.agg #[.int .i64 W, .slice A n c]] w (OfPost W xs w) := by
  cases hu : uniqB W xs with
  | false =>
    have hP := Lib.hid (show ofP W xs = [] by rw [ofP, hu]; rfl)
    have hQ := Lib.hid (show ofQ W xs = [] by rw [ofQ, hu]; rfl)
    go_enter Try.func11, Try.ntmps11
    go_wp2_with fail
    refine (impl_ImageUnique_c _ _ _ _ xs _ (hr.alloc _) hn).mono ?_
    rw [hu]
    rintro e w1 ⟨rfl, hb1⟩
    go_wp2
    exact bodyPost_ret (v := .tuple #[.slice none 0 0, .slice none 0 0, .bool false]) (by simp [results, Try.results11, go_sem]) rfl ⟨none, 0, 0, none, 0, 0, by rw [hu], by (repeat (first | exact Below.refl _ _ | assumption | refine lo_alloc ?_ _ | refine lo_set ?_ (by simp; try omega) _ | refine Below.drew ?_ | refine below_drewN ?_ _ | refine lo_trans ?_ (by assumption) | refine lo_wr ?_ (by assumption) (by omega))), by rw [hP.out]; exact Own.nil_ _ _ _, by rw [hQ.out]; exact Own.nil_ _ _ _, fun g h => by simp [rowOf] at h⟩
  | true =>
    have hk := uniqB_ok hu
    have hbd := okB_bd hk
    rw [hr.1] at hbd
    have hxl := Lib.hid hr.1
    obtain ⟨m, rfl⟩ := Int.eq_ofNat_of_zero_le (show 0 ≤ W by omega)
    have hP := Lib.hid (show ofP (m : Int) xs = wP (rsum xs) by rw [ofP, hu]; rfl)
    have hQ := Lib.hid (show ofQ (m : Int) xs = wQ (ordL (csum m xs)) m by rw [ofQ, hu, Int.toNat_natCast]; rfl)
    have hSr := Lib.hid (show rSums (m : Int) xs = rsum xs by rw [rSums, hk]; rfl)
    have hSc := Lib.hid (show cSums (m : Int) xs = csum m xs by rw [cSums, hk, Int.toNat_natCast]; rfl)
    have hk' := Lib.hid hk
    have hu' := Lib.hid hu
    have hmk := make_row m (by omega)
    clear hk
    go_enter Try.func11, Try.ntmps11
    go_wp2_with fail
    refine (impl_ImageUnique_c _ _ _ _ xs _ (hr.alloc _) hn).mono ?_
    rw [hu]
    rintro e w1 ⟨rfl, hb1⟩
    clear hu
    have hKa : Blk w1 w.heap.size _ _ := (Blk.new w 28 #[.int .i64 (m : Int), .slice A n c]).next hb1
    have hB1 : Below w.heap.size w w1 := by (repeat (first | exact Below.refl _ _ | assumption | refine lo_alloc ?_ _ | refine lo_set ?_ (by simp; try omega) _ | refine Below.drew ?_ | refine below_drewN ?_ _ | refine lo_trans ?_ (by assumption) | refine lo_wr ?_ (by assumption) (by omega)))
    clear hb1
    have hz1 := hKa.lt
    have a0 := hKa.cell 0
    have a1 := hKa.cell 1
    go_upto_region 3 with fail
    go_cut [5, 6] from 7 (fun p q wx => ∃ (R : Option Addr) (d gq : Nat), p = .slice R n d ∧ q = .slice (some ⟨gq, 0, none⟩) m m ∧ Below w.heap.size w wx ∧ Blk wx w.heap.size 28 #[.int .i64 (m : Int), .slice A n c] ∧
      Own wx (w.heap.size + 1) R n (rsum xs) ∧ Own wx (w.heap.size + 1) (some ⟨gq, 0, none⟩) m (List.replicate m 0) ∧ ∀ g, R = some ⟨g, 0, none⟩ → gq ≠ g)
    case first =>
      go_region_held3 (fun w' => w'.cell? ⟨w.heap.size, 0, none⟩ = some (.int .i64 (m : Int)) ∧ w'.cell? ⟨w.heap.size, 1, none⟩ = some (.slice A n c))
        (first
          | go_keep
          | exact ⟨(hKa.next (by (repeat (first | exact Below.refl _ _ | assumption | refine lo_alloc ?_ _ | refine lo_set ?_ (by simp; try omega) _ | refine Below.drew ?_ | refine below_drewN ?_ _ | refine lo_trans ?_ (by assumption) | refine lo_wr ?_ (by assumption) (by omega))))).cell 0, (hKa.next (by (repeat (first | exact Below.refl _ _ | assumption | refine lo_alloc ?_ _ | refine lo_set ?_ (by simp; try omega) _ | refine Below.drew ?_ | refine below_drewN ?_ _ | refine lo_trans ?_ (by assumption) | refine lo_wr ?_ (by assumption) (by omega))))).cell 1⟩)
        (first
          | (go_at_call 20; refine (RowSums_c _ _ _ _ xs _ (hr.next (by (repeat (first | exact Below.refl _ _ | assumption | refine lo_alloc ?_ _ | refine lo_set ?_ (by simp; try omega) _ | refine Below.drew ?_ | refine below_drewN ?_ _ | refine lo_trans ?_ (by assumption) | refine lo_wr ?_ (by assumption) (by omega))))) (by omega)).mono ?_; rintro e w2 ⟨R, r, d, rfl, hb2, ho2⟩))
      · have hrl : r = n := by have := ho2.1; rw [hSr.out, rsum_len, hxl.out] at this; omega
        subst hrl
        rw [hSr.out] at ho2
        have hz2 : w1.heap.size ≤ w2.heap.size := hb2.size
        have hQb := Blk.new w2 3 (madeCells #[Value.int IntKind.i64 0] m)
        go_wp2_with fail
        go_meet
        refine ⟨R, d, w2.heap.size, rfl, rfl, by (repeat (first | exact Below.refl _ _ | assumption | refine lo_alloc ?_ _ | refine lo_set ?_ (by simp; try omega) _ | refine Below.drew ?_ | refine below_drewN ?_ _ | refine lo_trans ?_ (by assumption) | refine lo_wr ?_ (by assumption) (by omega))), hKa.next (by (repeat (first | exact Below.refl _ _ | assumption | refine lo_alloc ?_ _ | refine lo_set ?_ (by simp; try omega) _ | refine Below.drew ?_ | refine below_drewN ?_ _ | refine lo_trans ?_ (by assumption) | refine lo_wr ?_ (by assumption) (by omega)))), (ho2.alloc _).mono (by simp; omega), ?_, ?_⟩
        · rw [made_ints] at hQb ⊢
          exact Own.of_blk hQb (by omega) (by simp)
        · rintro g rfl
          rcases ho2.blk with ⟨h0, _⟩ | ⟨g', e', h1, h2⟩
          · omega
          · cases e'
            omega
      · have hrl : r = n := by have := ho2.1; rw [hSr.out, rsum_len, hxl.out] at this; omega
        subst hrl
        rw [hSr.out] at ho2
        have hQb : Blk w2 w1.heap.size 3 (madeCells #[Value.int IntKind.i64 0] m) := (Blk.new w1.drew 3 (madeCells #[Value.int IntKind.i64 0] m)).next hb2
        have hz2 : w1.heap.size + 1 ≤ w2.heap.size := by have := hb2.size; simpa using this
        have hz3 : ∀ g, R = some ⟨g, 0, none⟩ → w1.heap.size + 1 ≤ g := by
          rintro g rfl
          rcases ho2.blk with ⟨h0, _⟩ | ⟨g', e', h1, h2⟩
          · omega
          · cases e'
            simpa using h1
        go_wp2_with fail
        go_meet
        refine ⟨R, d, w1.heap.size, rfl, rfl, by (repeat (first | exact Below.refl _ _ | assumption | refine lo_alloc ?_ _ | refine lo_set ?_ (by simp; try omega) _ | refine Below.drew ?_ | refine below_drewN ?_ _ | refine lo_trans ?_ (by assumption) | refine lo_wr ?_ (by assumption) (by omega))), hKa.next (by (repeat (first | exact Below.refl _ _ | assumption | refine lo_alloc ?_ _ | refine lo_set ?_ (by simp; try omega) _ | refine Below.drew ?_ | refine below_drewN ?_ _ | refine lo_trans ?_ (by assumption) | refine lo_wr ?_ (by assumption) (by omega)))), ho2.mono (by simp; omega), ?_, fun g hg => by have := hz3 g hg; omega⟩
        rw [made_ints] at hQb
        exact Own.of_blk hQb (by omega) (by simp)
    case rest =>
    obtain ⟨R, d, gq, rfl, rfl, hB2, hK2, hoR, hoQ, hne⟩ := hcut
    clear hB1 hKa hz1 a0 a1 hmk
    obtain ⟨gR, rfl, hgR, hzR, _⟩ := hoR.at_ (k := 0) (by omega)
    have hneq := hne gR rfl
    have hoR0 : Own wc (w.heap.size + 1) (some ⟨gR, 0, none⟩) n (wPk (rsum xs) 0) := by rw [wPk_zero]; exact hoR
    obtain ⟨gq', e', hgQ, _⟩ := hoQ.at_ (k := 0) (by omega)
    cases e'
    clear hoR hne
    go_wp2
    go_loopw [20] (fun i wr => ∃ k : Nat, k ≤ n ∧ i = .int .i64 k ∧ Below w.heap.size w wr ∧ Blk wr w.heap.size 28 #[.int .i64 (m : Int), .slice A n c] ∧
      Own wr (w.heap.size + 1) (some ⟨gR, 0, none⟩) n (wPk (rsum xs) k) ∧ Own wr (w.heap.size + 1) (some ⟨gq, 0, none⟩) m (List.replicate m 0)) (fun i _ => n - (intOf i).toNat)
    case atStart => exact ⟨0, Nat.zero_le _, rfl, hB2, hK2, hoR0, hoQ⟩
    case round =>
      clear hB2 hK2 hoR0 hoQ
      obtain ⟨k, hk, rfl, hB, hK, hO, hoQ⟩ := hrel
      by_cases hlt : k < n
      · obtain ⟨g', e', _, hz, cc, ff, ss⟩ := hO.at_ (k := k) hlt
        cases e'
        have hkl : k < (rsum xs).length := by rw [rsum_len, hxl.out]; exact hlt
        have hset := Lib.hid (wPk_set hkl)
        rw [wPk_get hkl] at cc
        obtain ⟨hy1, hy2⟩ := rsum_bd xs (k := k) (by rw [hxl.out]; exact hlt)
        generalize (rsum xs)[k]?.getD 0 = y at hset cc hy1 hy2
        have hs2 := ss (2 * y + 1)
        rw [hset.out] at hs2
        have hB3 := lo_set hB (p := ⟨gR, k, none⟩) (by simp; omega) (.int .i64 (2 * y + 1))
        have hK3 := hK.far (p := ⟨gR, k, none⟩) (by simp; omega) (.int .i64 (2 * y + 1))
        have hQ3 := hoQ.far (p := ⟨gR, k, none⟩) (by rintro g ⟨⟩; exact hneq) (.int .i64 (2 * y + 1))
        clear ss hB hK hO hoQ hset
        go_wp2
        go_roundw
        case rel => exact ⟨k + 1, by omega, by go_num, hB3, hK3, hs2, hQ3⟩
        case measure => simp [intOf]; omega
      · obtain rfl : k = n := by omega
        rw [wPk_all (by rw [rsum_len, hxl.out])] at hO
        have a0 := hK.cell 0
        have a1 := hK.cell 1
        go_wp2_with fail
        refine (ColSums_c _ _ _ _ xs _ (hr.next hB) (by omega)).mono ?_
        rintro e w2 ⟨C, r, dc, rfl, hb2, ho2⟩
        have hrl : r = m := by have := ho2.1; rw [hSc.out, csum_len] at this; omega
        subst hrl
        rw [hSc.out] at ho2
        have hcl := Lib.hid (csum_len r xs)
        have hcb := Lib.hid (csum_bd (m := r) (xs := xs) (by rw [hxl.out]; omega))
        obtain ⟨gC, rfl, hgC, hzC, _⟩ := ho2.at_ (k := 0) (by omega)
        have hO2 := hO.next hb2
        have hQ2 := hoQ.next hb2
        have hB2 := lo_trans hB hb2
        clear a0 a1 hK hO hoQ hB hb2
        go_wp2_with fail
        refine (descending_x _ gC _ _ (csum r xs) _ ho2 (by omega) (by omega) (fun x hx => by have := hcb.out x hx; omega)).mono ?_
        rintro e w3 ⟨rfl, hb3, hoD⟩
        obtain ⟨gD, hgD⟩ : ∃ gD, gD = w2.heap.size + 1 := ⟨_, rfl⟩
        rw [← hgD] at hoD ⊢
        have hQ3 : Own w3 (w.heap.size + 1) (some ⟨gq, 0, none⟩) r (wQk (ordL (csum r xs)) r 0) := by rw [wQk_zero]; exact hQ2.next hb3
        have hO3 := hO2.next hb3
        have hB3 := lo_trans hB2 hb3
        have hqz : gq < w2.heap.size := by
          obtain ⟨g', e', _, h, _⟩ := hQ2.at_ (k := 0) (by omega)
          cases e'
          exact h
        have hqD : gq ≠ gD := by omega
        clear hgD hO2 hQ2 hB2 hb3 ho2 hzC hgC
        go_wp2
        go_loopw [37] (fun i wr => ∃ k' : Nat, k' ≤ r ∧ i = .int .i64 k' ∧ Below w.heap.size w wr ∧
          Own wr (w.heap.size + 1) (some ⟨gR, 0, none⟩) k (wP (rsum xs)) ∧ Own wr w2.heap.size (some ⟨gD, 0, none⟩) r (ordL (csum r xs)) ∧ Own wr (w.heap.size + 1) (some ⟨gq, 0, none⟩) r (wQk (ordL (csum r xs)) r k')) (fun i _ => r - (intOf i).toNat)
        case atStart => exact ⟨0, Nat.zero_le _, rfl, hB3, hO3, hoD, hQ3⟩
        case round =>
          clear hB3 hO3 hoD hQ3
          obtain ⟨k', hk', rfl, hB, hO, hoD, hoQ⟩ := hrel
          by_cases hlt2 : k' < r
          · obtain ⟨g', e', _, hz, dc, _, _⟩ := hoD.at_ (k := k') hlt2
            cases e'
            obtain ⟨x, hx1, hx2, hx3⟩ := ordL_at (L := csum r xs) (k := k') (by rw [hcl.out]; exact hlt2)
            rw [hcl.out] at hx2
            rw [hx1] at dc
            have hset := Lib.hid (wQk_step (O := ordL (csum r xs)) (n := r) (k := k') (c := x) (fun j hj => ordL_mem.2 ⟨by omega, by rw [hcl.out]; omega⟩) hx3)
            clear hx1 hx3
            obtain ⟨g', e', _, hz2, cc, ff, ss⟩ := hoQ.at_ (k := x) hx2
            cases e'
            have hs2 := ss (-2 * ((k' : Int) + 1))
            rw [hset.out] at hs2
            have hB4 := lo_set hB (p := ⟨gq, x, none⟩) (by simp; omega) (.int .i64 (-2 * ((k' : Int) + 1)))
            have hO4 := hO.far (p := ⟨gq, x, none⟩) (by rintro g ⟨⟩; exact Ne.symm hneq) (.int .i64 (-2 * ((k' : Int) + 1)))
            have hD4 := hoD.far (p := ⟨gq, x, none⟩) (by rintro g ⟨⟩; exact Ne.symm hqD) (.int .i64 (-2 * ((k' : Int) + 1)))
            clear ss hB hO hoD hoQ hset
            go_wp2
            go_roundw
            case rel => exact ⟨k' + 1, by omega, by go_num, hB4, hO4, hD4, hs2⟩
            case measure => simp [intOf]; omega
          · obtain rfl : k' = r := by omega
            rw [wQk_all hcl.out] at hoQ
            go_wp2
            refine bodyPost_ret (v := .tuple #[.slice (some ⟨gR, 0, none⟩) k d, .slice (some ⟨gq, 0, none⟩) k' k', .bool true]) (by simp [results, Try.results11, go_sem]) rfl ?_
            exact ⟨_, _, _, _, _, _, by rw [hu'.out], hB, by rw [hP.out]; exact hO.mono (by omega), by rw [hQ.out]; exact hoQ.mono (by omega), fun g h1 h2 => by
              rw [rowOf_some (i := 0) (by omega)] at h1 h2
              cases h1
              cases h2
              exact hneq rfl⟩

theorem rd_one (w : World) (v : Int) : Rd (w.alloc (.cells (ints [v]) 3)) (some ⟨w.heap.size, 0, none⟩) 1 [v] := Rd.of_blk (Blk.new _ _ _)

set_option maxHeartbeats 8000000 in
theorem spec_WeightsOf_c (W : Int) (A : Option Addr) (n c : Nat) (xs : List Int) (w : World) (hr : Rd w A n xs) (hn : n ≤ 1073741824) :
    Calls Try.prog 9 #[.agg #[.int .i64 W, .slice A n c]] w (OfPost W xs w) := by
  have hKa0 := ((Blk.new w 28 #[.int .i64 W, .slice A n c]).alloc (.cells #[] 3)).alloc (.cells #[] 3)
  have hP0 : Buf (((w.alloc (.cells #[.int .i64 W, .slice A n c] 28)).alloc (.cells #[] 3)).alloc (.cells #[] 3)) (w.heap.size + 1) (some ⟨w.heap.size + 1, 0, none⟩) 0 [] :=
    ⟨rfl, .inr ⟨w.heap.size + 1, 0, #[], rfl, Nat.le_refl _, (heap_at2 w _ 3 #[]).alloc _, Nat.le_refl _, Nat.zero_le _, rfl, rfl⟩⟩
  have hQ0 : Buf (((w.alloc (.cells #[.int .i64 W, .slice A n c] 28)).alloc (.cells #[] 3)).alloc (.cells #[] 3)) (w.heap.size + 1) (some ⟨w.heap.size + 1 + 1, 0, none⟩) 0 [] := by
    refine ⟨rfl, .inr ⟨w.heap.size + 1 + 1, 0, #[], rfl, by omega, ?_, Nat.le_refl _, Nat.zero_le _, rfl, rfl⟩⟩
    have := heap_at2 (w.alloc (.cells #[.int .i64 W, .slice A n c] 28)) (.cells #[] 3) 3 #[]
    rw [World.size_alloc] at this
    exact this
  have hL0 : Below w.heap.size w (((w.alloc (.cells #[.int .i64 W, .slice A n c] 28)).alloc (.cells #[] 3)).alloc (.cells #[] 3)) := lo_alloc (lo_alloc (lo_alloc (Below.refl _ _) _) _) _
  have hz0 : (((w.alloc (.cells #[.int .i64 W, .slice A n c] 28)).alloc (.cells #[] 3)).alloc (.cells #[] 3)).heap.size = w.heap.size + 1 + 1 + 1 := by simp
  have a0 := hKa0.cell 0
  have a1 := hKa0.cell 1
  go_enter Try.func9, Try.ntmps9
  go_wp2_with fail
  refine (spec_ImageUnique_c _ _ _ _ xs _ (hr.next hL0) hn).mono ?_
  rintro e w1 ⟨rfl, hb1⟩
  have hs1 := hb1.size
  rw [hz0] at hs1
  have hKa := hKa0.next hb1
  have hP1 := hP0.next hb1
  have hQ1 := hQ0.next hb1
  have hL1 := lo_trans hL0 hb1
  clear hKa0 hP0 hQ0 hL0 hz0 a0 a1 hb1
  cases hu : uniqB W xs with
  | false =>
    have hP := Lib.hid (show ofP W xs = [] by rw [ofP, hu]; rfl)
    have hQ := Lib.hid (show ofQ W xs = [] by rw [ofQ, hu]; rfl)
    go_wp2
    exact bodyPost_ret (v := .tuple #[.slice (some ⟨w.heap.size + 1, 0, none⟩) 0 0, .slice (some ⟨w.heap.size + 1 + 1, 0, none⟩) 0 0, .bool false]) (by simp [results, Try.results9, go_sem]) rfl
      ⟨_, 0, 0, _, 0, 0, by rw [hu], hL1, by rw [hP.out]; exact Own.nil_ _ _ _, by rw [hQ.out]; exact Own.nil_ _ _ _, fun g h => by simp [rowOf] at h⟩
  | true =>
    have hk := uniqB_ok hu
    have hbd := okB_bd hk
    rw [hr.1] at hbd
    have hxl := Lib.hid hr.1
    obtain ⟨m, rfl⟩ := Int.eq_ofNat_of_zero_le (show 0 ≤ W by omega)
    have hP := Lib.hid (show ofP (m : Int) xs = wP (rsum xs) by rw [ofP, hu]; rfl)
    have hQ := Lib.hid (show ofQ (m : Int) xs = wQ (ordL (csum m xs)) m by rw [ofQ, hu, Int.toNat_natCast]; rfl)
    have hk' := Lib.hid hk
    have hu' := Lib.hid hu
    have hcl := Lib.hid (csum_len m xs)
    have hcb := Lib.hid (csum_bd (m := m) (xs := xs) (by rw [hr.1]; omega))
    clear hk hu
    have a0 := hKa.cell 0
    have a1 := hKa.cell 1
    go_wp2_with fail
    refine (spec_RowSums_x _ _ _ _ xs _ (hr.next hL1) hk'.out).mono ?_
    rintro e w2 ⟨R, dR, rfl, hoR, hb2⟩
    have hs2 := hb2.size
    have hKa2 := hKa.next hb2
    have hP2 : Buf w2 (w.heap.size + 1) (some ⟨w.heap.size + 1, 0, none⟩) 0 (wP ((rsum xs).take 0)) := hP1.next hb2
    have hQ2 := hQ1.next hb2
    have hL2 := lo_trans hL1 hb2
    obtain ⟨gR, rfl, hgR, hzR, _⟩ := hoR.at_ (k := 0) (by omega)
    clear hKa hP1 hQ1 hL1 a0 a1 hb2
    have hne0 : Hid (∀ g, (some ⟨w.heap.size + 1, 0, none⟩ : Option Addr) = some ⟨g, 0, none⟩ → g ≠ w.heap.size + 1 + 1 ∧ g ≠ gR) := Lib.hid (by rintro _ ⟨⟩; omega)
    go_wp2
    go_loopw [5, 8] (fun v i wr => ∃ (k : Nat) (P : Option Addr) (d : Nat), k ≤ n ∧ i = .int .i64 k ∧ v = .slice P k d ∧ Buf wr (w.heap.size + 1) P d (wP ((rsum xs).take k)) ∧ Hid (∀ g, P = some ⟨g, 0, none⟩ → g ≠ w.heap.size + 1 + 1 ∧ g ≠ gR) ∧
      Buf wr (w.heap.size + 1) (some ⟨w.heap.size + 1 + 1, 0, none⟩) 0 [] ∧ Own wr w1.heap.size (some ⟨gR, 0, none⟩) n (rsum xs) ∧ Below w.heap.size w wr ∧ Blk wr w.heap.size 28 #[.int .i64 (m : Int), .slice A n c] ∧ w2.heap.size ≤ wr.heap.size) (fun _ i _ => n - (intOf i).toNat)
    case atStart => exact ⟨0, _, 0, Nat.zero_le _, rfl, rfl, hP2, hne0, hQ2, hoR, hL2, hKa2, Nat.le_refl _⟩
    case round =>
      clear hP2 hQ2 hoR hL2 hKa2 hne0
      obtain ⟨k, P, d, hk, rfl, rfl, hB, hne, hQB, hR, hL, hK, hsz⟩ := hrel
      have hyl' : Hid ((wP ((rsum xs).take k)).length = k) := Lib.hid (by rw [wP_len, List.length_take, rsum_len, hxl.out]; omega)
      by_cases hlt : k < n
      · have hkl : k < (rsum xs).length := by rw [rsum_len, hxl.out]; exact hlt
        obtain ⟨g', e', _, hz, cc, _, _⟩ := hR.at_ (k := k) hlt
        cases e'
        have hS := Lib.hid (wP_step hkl)
        obtain ⟨hy1, hy2⟩ := rsum_bd xs (k := k) (by rw [hxl.out]; exact hlt)
        generalize (rsum xs)[k]?.getD 0 = y at hS cc hy1 hy2
        have hB3 : Buf (wr.alloc (.cells #[.int .i64 (2 * y + 1)] 3)) (w.heap.size + 1) P d (wP ((rsum xs).take k)) := hB.next (by (repeat (first | exact Below.refl _ _ | assumption | refine lo_alloc ?_ _ | refine lo_set ?_ (by simp; try omega) _ | refine Below.drew ?_ | refine below_drewN ?_ _ | refine lo_trans ?_ (by assumption) | refine lo_wr ?_ (by assumption) (by omega))))
        have hQ3 : Buf (wr.alloc (.cells #[.int .i64 (2 * y + 1)] 3)) (w.heap.size + 1) _ _ _ := hQB.next (by (repeat (first | exact Below.refl _ _ | assumption | refine lo_alloc ?_ _ | refine lo_set ?_ (by simp; try omega) _ | refine Below.drew ?_ | refine below_drewN ?_ _ | refine lo_trans ?_ (by assumption) | refine lo_wr ?_ (by assumption) (by omega))))
        have hR3 := hR.alloc (.cells #[.int .i64 (2 * y + 1)] 3)
        have hK3 := hK.alloc (.cells #[.int .i64 (2 * y + 1)] 3)
        have hL3 := lo_alloc hL (.cells #[.int .i64 (2 * y + 1)] 3)
        have hrd := rd_one wr (2 * y + 1)
        clear hK hB hL hQB hR
        go_wp2_with (at_builtin; refine (wpl_append rfl _ _ rfl (w.heap.size + 1) P d k (wP ((rsum xs).take k)) rfl hyl'.out.symm hB3 _ 1 1 [2 * y + 1] rfl hrd (by omega) (by omega) (by simp; omega) ?_); intro g c' w4 hB4 hg4 hat)
        have hBk := rowA_ge hB3
        have hBa := rowA_at hB3
        rw [hS.out] at hB4
        have hsz4 := hg4.size
        rw [World.size_alloc] at hsz4
        have hne4 : Hid (∀ g', (some ⟨g, 0, none⟩ : Option Addr) = some ⟨g', 0, none⟩ → g' ≠ w.heap.size + 1 + 1 ∧ g' ≠ gR) := Lib.hid (by
          rintro _ ⟨⟩
          rcases hat with h | h
          · exact hne.out g h
          · rw [World.size_alloc] at h
            omega)
        go_roundw
        case rel =>
          exact ⟨k + 1, _, c', by omega, by go_num, rfl, hB4, hne4, hQ3.kept hg4 (by rintro _ ⟨⟩ h; exact (hne.out _ (hBa _ h)).1 rfl), hR3.grown hg4 (by rintro _ ⟨⟩ h; exact (hne.out _ (hBa _ h)).2 rfl),
            hL3.grown hg4 hL3.size (fun g hg => by have := hBk g hg; omega), hK3.grown hg4 (fun e => by have := hBk _ e.symm; omega), by omega⟩
        case measure => simp [intOf]; omega
      · obtain rfl : k = n := by omega
        rw [List.take_of_length_le (by rw [rsum_len, hxl.out]; exact Nat.le_refl _)] at hB hyl'
        have hoP := hB.own
        rw [hyl'.out] at hoP
        obtain ⟨gP, rfl, hgP, hzP, _⟩ := hoP.at_ (k := 0) (by omega)
        have hneP := (hne.out gP rfl).1
        have a0 := hK.cell 0
        have a1 := hK.cell 1
        go_wp2_with fail
        refine (spec_ColSums_x _ _ _ _ xs _ (hr.next hL) hk'.out).mono ?_
        rintro e w3 ⟨C, dC, rfl, hoC, hb3⟩
        have hs3 := hb3.size
        have hQ3 := hQB.next hb3
        have hP3 := hoP.next hb3
        have hK3 := hK.next hb3
        have hL3 := lo_trans hL hb3
        clear a0 a1 hK hL hQB hR hB hoP hne
        go_wp2_with fail
        refine (l14Order_c _ _ _ (csum m xs) _ hoC.rd (by omega) hcb.out).mono ?_
        rintro e w4 ⟨O, dO, rfl, hb4, hoO⟩
        have hs4 := hb4.size
        have hK4 := hK3.next hb4
        have hQ4 : Buf w4 (w.heap.size + 1) (some ⟨w.heap.size + 1 + 1, 0, none⟩) 0 (wQ (ordL (csum m xs)) 0) := hQ3.next hb4
        have hP4 := hP3.next hb4
        have hL4 := lo_trans hL3 hb4
        obtain ⟨gO, rfl, hgO, hzO, _⟩ := hoO.at_ (k := 0) (by omega)
        have hne4 : Hid (∀ g, (some ⟨w.heap.size + 1 + 1, 0, none⟩ : Option Addr) = some ⟨g, 0, none⟩ → g ≠ gP ∧ g ≠ gO) := Lib.hid (by rintro _ ⟨⟩; exact ⟨Ne.symm hneP, by omega⟩)
        clear hQ3 hP3 hK3 hL3 hb3 hb4 hoC
        have a0 := hK4.cell 0
        have a1 := hK4.cell 1
        go_wp2
        go_loopw [6, 10] (fun v i wr => ∃ (j : Nat) (Q : Option Addr) (d : Nat), j ≤ m ∧ i = .int .i64 j ∧ v = .slice Q j d ∧ Buf wr (w.heap.size + 1) Q d (wQ (ordL (csum m xs)) j) ∧ Hid (∀ g, Q = some ⟨g, 0, none⟩ → g ≠ gP ∧ g ≠ gO) ∧
          Own wr (w.heap.size + 1) (some ⟨gP, 0, none⟩) k (wP (rsum xs)) ∧ Own wr w3.heap.size (some ⟨gO, 0, none⟩) m (ordL (csum m xs)) ∧ Below w.heap.size w wr ∧ Blk wr w.heap.size 28 #[.int .i64 (m : Int), .slice A k c] ∧ w4.heap.size ≤ wr.heap.size) (fun _ i _ => m - (intOf i).toNat)
        case atStart => exact ⟨0, _, 0, Nat.zero_le _, rfl, rfl, hQ4, hne4, hP4, hoO, hL4, hK4, Nat.le_refl _⟩
        case round =>
          clear hQ4 hne4 hP4 hoO hL4 hK4 a0 a1
          obtain ⟨j, Q, d', hj, rfl, rfl, hQB, hneQ, hPo, hOo, hL, hK, hsz4⟩ := hrel
          have a0 := hK.cell 0
          have a1 := hK.cell 1
          by_cases hlt : j < m
          · have hq0 : Hid (j = (wQi (ordL (csum m xs)) j 0).length) := Lib.hid (by rw [wQi_zero, wQ_len])
            rw [← wQi_zero] at hQB
            obtain ⟨wo, rfl⟩ : ∃ wo : World, wo = wr := ⟨_, rfl⟩
            go_wp2
            clear a0 a1
            go_loopw [6, 11] (fun v i wr => ∃ (k' q : Nat) (Q : Option Addr) (d : Nat), k' ≤ m ∧ i = .int .i64 k' ∧ v = .slice Q q d ∧ Hid (q = (wQi (ordL (csum m xs)) j k').length) ∧ Buf wr (w.heap.size + 1) Q d (wQi (ordL (csum m xs)) j k') ∧ Hid (∀ g, Q = some ⟨g, 0, none⟩ → g ≠ gP ∧ g ≠ gO) ∧
              Own wr (w.heap.size + 1) (some ⟨gP, 0, none⟩) k (wP (rsum xs)) ∧ Own wr w3.heap.size (some ⟨gO, 0, none⟩) m (ordL (csum m xs)) ∧ Below w.heap.size w wr ∧ Blk wr w.heap.size 28 #[.int .i64 (m : Int), .slice A k c] ∧ w4.heap.size ≤ wr.heap.size) (fun _ i _ => m - (intOf i).toNat)
            case atStart => exact ⟨0, _, _, _, Nat.zero_le _, rfl, rfl, hq0, hQB, hneQ, hPo, hOo, hL, hK, hsz4⟩
            case round =>
              clear hq0 hQB hneQ hPo hOo hL hK hsz4
              obtain ⟨k', q, Q, d', hk', rfl, rfl, hq, hQB, hneQ, hPo, hOo, hL, hK, hsz4⟩ := hrel
              by_cases hlt2 : k' < m
              · obtain ⟨g', e', _, hz, dc, _, _⟩ := hOo.at_ (k := k') hlt2
                cases e'
                obtain ⟨x, hx1, hx2, hx3⟩ := ordL_at (L := csum m xs) (k := k') (by rw [hcl.out]; exact hlt2)
                rw [hcl.out] at hx2
                rw [hx1] at dc
                have hx3' := Lib.hid hx3
                have hx1' := Lib.hid hx1
                clear hx1 hx3
                have hql : q ≤ m + 1 := by
                  have h1 := wQi_len (ordL (csum m xs)) j k'
                  rw [← hq.out] at h1
                  omega
                by_cases hxj : x = j
                · subst hxj
                  have hS := Lib.hid (wQi_hit hx3'.out)
                  have hbz : ((x : Int) == (x : Int)) = true := by simp
                  have hB3 : Buf (wr.alloc (.cells #[.int .i64 (-2 * ((k' : Int) + 1))] 3)) (w.heap.size + 1) Q d' (wQi (ordL (csum m xs)) x k') := hQB.next (by (repeat (first | exact Below.refl _ _ | assumption | refine lo_alloc ?_ _ | refine lo_set ?_ (by simp; try omega) _ | refine Below.drew ?_ | refine below_drewN ?_ _ | refine lo_trans ?_ (by assumption) | refine lo_wr ?_ (by assumption) (by omega))))
                  have hP3 := hPo.alloc (.cells #[.int .i64 (-2 * ((k' : Int) + 1))] 3)
                  have hO3 := hOo.alloc (.cells #[.int .i64 (-2 * ((k' : Int) + 1))] 3)
                  have hK3 := hK.alloc (.cells #[.int .i64 (-2 * ((k' : Int) + 1))] 3)
                  have hL3 := lo_alloc hL (.cells #[.int .i64 (-2 * ((k' : Int) + 1))] 3)
                  have hrd := rd_one wr (-2 * ((k' : Int) + 1))
                  clear hQB hPo hOo hK hL
                  go_wp2_with (at_builtin; refine (wpl_append rfl _ _ rfl (w.heap.size + 1) Q d' q (wQi (ordL (csum m xs)) x k') rfl hq.out hB3 _ 1 1 [-2 * ((k' : Int) + 1)] rfl hrd (by omega) (by omega) (by simp; omega) ?_); intro g c' w5 hB4 hg4 hat)
                  have hBk := rowA_ge hB3
                  have hBa := rowA_at hB3
                  rw [← hS.out] at hB4
                  have hsz5 := hg4.size
                  rw [World.size_alloc] at hsz5
                  have hne5 : Hid (∀ g', (some ⟨g, 0, none⟩ : Option Addr) = some ⟨g', 0, none⟩ → g' ≠ gP ∧ g' ≠ gO) := Lib.hid (by
                    rintro _ ⟨⟩
                    rcases hat with h | h
                    · exact hneQ.out g h
                    · rw [World.size_alloc] at h
                      omega)
                  go_roundw
                  case rel =>
                    exact ⟨k' + 1, _, _, c', by omega, by go_num, rfl, Lib.hid (by rw [hS.out, List.length_append, ← hq.out]; rfl), hB4, hne5, hP3.grown hg4 (by rintro _ ⟨⟩ h; exact (hneQ.out _ (hBa _ h)).1 rfl), hO3.grown hg4 (by rintro _ ⟨⟩ h; exact (hneQ.out _ (hBa _ h)).2 rfl),
                      hL3.grown hg4 hL3.size (fun g hg => by have := hBk g hg; omega), hK3.grown hg4 (fun e => by have := hBk _ e.symm; omega), by omega⟩
                  case measure => simp [intOf]; omega
                · have hbz : ((x : Int) == (j : Int)) = false := by rw [beq_eq_false_iff_ne]; omega
                  have hM := Lib.hid (wQi_miss (O := ordL (csum m xs)) (j := j) (k := k') (fun h => by
                    have g1 := plc_get (ordL_mem.2 (⟨by omega, by rw [hcl.out]; omega⟩ : 0 ≤ (j : Int) ∧ (j : Int) < (csum m xs).length))
                    rw [h] at g1
                    have g2 := hx1'.out
                    rw [g1] at g2
                    simp at g2
                    omega))
                  rw [← hM.out] at hQB hq
                  clear hx1' hx3'
                  go_wp2
                  go_roundw
                  case rel => exact ⟨k' + 1, _, _, _, by omega, by go_num, rfl, hq, hQB, hneQ, hPo, hOo, hL, hK, hsz4⟩
                  case measure => simp [intOf]; omega
              · obtain rfl : k' = m := by omega
                have hE := Lib.hid (wQi_end (L := csum k' xs) (j := j) (by rw [hcl.out]; exact hlt))
                rw [hcl.out] at hE
                rw [hE.out] at hQB hq
                obtain rfl : q = j + 1 := by rw [hq.out, wQ_len]
                go_wp2
                go_roundw
                case rel => exact ⟨j + 1, _, _, by omega, by go_num, rfl, hQB, hneQ, hPo, hOo, hL, hK, hsz4⟩
                case measure => simp [intOf]; omega
          · obtain rfl : j = m := by omega
            have hoQ := hQB.own
            rw [wQ_len] at hoQ
            go_wp2
            refine bodyPost_ret (v := .tuple #[.slice (some ⟨gP, 0, none⟩) k d, .slice Q j d', .bool true]) (by simp [results, Try.results9, go_sem]) rfl ?_
            exact ⟨_, _, _, _, _, _, by rw [hu'.out], hL, by rw [hP.out]; exact hPo.mono (by omega), by rw [hQ.out]; exact hoQ.mono (by omega), fun g h1 h2 => by
              rw [rowOf_some (i := 0) (by omega)] at h1
              cases h1
              obtain ⟨g', e', _⟩ := hoQ.at_ (k := 0) (by omega)
              subst e'
              rw [rowOf_some (i := 0) (by omega)] at h2
              cases h2
              exact (hneQ.out _ rfl).1 rfl⟩
end Go.Proofs.Ytbhpiefpmagkbaa
