/- The law FnFillImageFull walked. -/
import Derived.Test.YtkcdoacojiilaaaGreatFd
import Derived.Test.YtkcdoacojiilaaaGreatFg
import Derived.Test.YtkcdoacojiilaaaGreatBx
import Derived.Test.YtkcdoacojiilaaaGreatPa
namespace Go.Proofs.YtkcdoacojiilaaaGreat
open Go.RowKit
set_option maxRecDepth 100000

set_option maxHeartbeats 400000 in
theorem DrawFillImage_c (A : Option Addr) (n c : Nat) (w : World) (hr : RdB w A n) (hn : n ≤ 1048576) (hc : n ≤ c) :
    Calls Tryz.prog 4 #[.slice A n c] w (DrawnTwoS w) := by
  go_enter Tryz.func4, Tryz.ntmps4
  go_wp2_with fail
  refine (l6Open_c A n c _ hr hn hc).mono ?_
  rintro e w1 ⟨b, rfl, hR1, hb1⟩
  have hz1 := hb1.size
  have hlo := hR1.1
  go_wp2_with fail
  refine (l93Any_c _ b 0 _ hR1 (by omega)).mono ?_
  rintro e w2 ⟨R, n, c, Q, m, d, q, xs, ys, rfl, hn, hm, hnc, hmd, hB, hQ, hG, hR, hq⟩
  go_wp2
  go_ret2
  exact ⟨_, _, _, _, _, _, _, _, rfl, hn, hm, hnc, hmd, hB.mono hz1, hQ.mono hz1, hb1.grown hG hz1 (by rintro _ ⟨⟩; exact hlo)⟩

theorem sumN_le2 {n : Nat} {F G : Nat → Nat} (h : ∀ i, i < n → F i ≤ G i) (hs : sumN n G ≤ sumN n F) : ∀ i, i < n → F i = G i := by
  induction n with
  | zero => intro i hi; omega
  | succ n ih =>
    have h1 : sumN n F ≤ sumN n G := by
      clear ih hs
      induction n with
      | zero => exact Nat.le_refl _
      | succ n ih' =>
        have := ih' (fun i hi => h i (by omega))
        have := h n (by omega)
        simp only [sumN]
        omega
    have h2 := h n (by omega)
    have hs' : sumN n G + G n ≤ sumN n F + F n := hs
    intro i hi
    rcases Nat.lt_or_ge i n with h3 | h3
    · exact ih (fun i hi => h i (by omega)) (by omega) i h3
    · obtain rfl : i = n := by omega
      omega
theorem sum_range_nat {l : List Int} (h : ∀ x ∈ l, 0 ≤ x) : l.sum = ((sumN l.length (fun i => (l[i]?.getD 0).toNat) : Nat) : Int) := by
  have e := list_range l id
  simp only [List.map_id, id] at e
  rw [e, sumN_int]
  congr 1
  apply List.map_congr_left
  intro i hi
  have hi' := List.mem_range.1 hi
  have : 0 ≤ l[i]?.getD 0 := by
    rw [List.getElem?_eq_getElem hi', Option.getD_some]
    exact h _ (List.getElem_mem hi')
  omega
theorem full_sums {n m : Nat} {rs ys : List Int} (hr : rs.length = n) (hy : ys.length = m) (hc : consB rs ys = true) : rsum (fullX n m rs ys) = rs ∧ csum m (fullX n m rs ys) = ys := by
  obtain ⟨hv, hs, hp⟩ := consB_iff.1 hc
  have hb := sV_out hv
  have hf := full_fit hr hy hv
  obtain ⟨R, hR, h1⟩ := fill_cut hr hy hf (full_end hr hy hv)
  have hx : exc rs ys R ≤ 0 := by
    rcases Int.lt_or_le 0 (exc rs ys R) with h | h
    · obtain ⟨k, h2, h3⟩ := dual hs (by omega) h
      obtain ⟨s, e, _⟩ := pOf_isSome (r := ys) (c := rs) (t := (k : Nat)) (pOk_iff.2 ⟨by rw [sV_swap]; exact hv, by omega, by omega, by rw [Int.toNat_natCast]; exact h3⟩)
      rw [hp] at e
      cases e
    · exact h
  generalize fullX n m rs ys = X at hf h1 ⊢
  have hr0 : ∀ x ∈ rs, 0 ≤ x := fun x hx => (hb.2.2.2.2.1 x hx).1
  have hy0 : ∀ x ∈ ys, 0 ≤ x := fun x hx => (hb.2.2.2.2.2 x hx).1
  have g0 : ∀ {l : List Int}, (∀ x ∈ l, 0 ≤ x) → ∀ i : Nat, 0 ≤ l[i]?.getD 0 := by
    intro l h i
    rcases Nat.lt_or_ge i l.length with hi | hi
    · rw [List.getElem?_eq_getElem hi, Option.getD_some]; exact h _ (List.getElem_mem hi)
    · rw [List.getElem?_eq_none hi]; exact Int.le_refl _
  have er := sum_range_nat hr0
  have ey := sum_range_nat hy0
  rw [hr] at er
  rw [hy] at ey
  have hm : manyX n X = sumN n (popI X) := rfl
  have hq := many_split hf (fun _ => true)
  have hfl : (List.range n).filter (fun _ => false) = [] := List.filter_eq_nil_iff.2 (fun _ _ => by simp)
  simp only [Bool.true_and, Bool.not_true, hfl, List.map_nil, List.sum_nil, Int.add_zero] at hq
  have hcc : ((manyX n X : Nat) : Int) = ((sumN m (ccnt X) : Nat) : Int) := by
    rw [hq, sumN_int]
    congr 1
    apply List.map_congr_left
    intro j _
    rw [ccnt_sum, hf.len]
  have h2 := sumN_le2 (F := popI X) (G := fun i => (rs[i]?.getD 0).toNat) (n := n) (fun i hi => by have := hf.row i hi; have := g0 hr0 i; omega) (by omega)
  have h3 := sumN_le2 (F := ccnt X) (G := fun i => (ys[i]?.getD 0).toNat) (n := m) (fun i hi => by have := hf.col i hi; have := g0 hy0 i; omega) (by omega)
  constructor
  · refine list_ext0 (by rw [rsum_len, hf.len, hr]) (fun j hj => ?_)
    rw [rsum_len, hf.len] at hj
    rw [rsum_get X (by rw [hf.len]; exact hj), h2 j hj]
    have := g0 hr0 j
    omega
  · refine list_ext0 (by rw [csum_len, hy]) (fun j hj => ?_)
    rw [csum_len] at hj
    rw [csum_get m X hj, h3 j hj]
    have := g0 hy0 j
    omega
theorem full_built {n m : Nat} {rs ys : List Int} (hr : rs.length = n) (hy : ys.length = m) (hc : consB rs ys = true) :
    bldW rs ys = (m : Int) ∧ okB (m : Int) (bldX rs ys) = true ∧ (bldX rs ys).length = n ∧ sameB (m : Int) (fullX n m rs ys) (m : Int) (bldX rs ys) = true ∧ sFit (m : Int) (fullX n m rs ys) rs ys = true := by
  have hf := full_fit hr hy (consB_iff.1 hc).1
  obtain ⟨h1, h2⟩ := full_sums hr hy hc
  generalize fullX n m rs ys = X at hf h1 h2 ⊢
  subst h1
  subst h2
  obtain ⟨_, b1, b2, b3, b4, b5⟩ := bld_image hf.ok (consB_iff.1 hc).1
  refine ⟨b1, b2, by rw [b3, hf.len], (sameB_iff' hf.ok b2 b3.symm).2 ⟨by simp [rSums, hf.ok, b2, b4], by simp [cSums, hf.ok, b2, b5]⟩, ?_⟩
  simp [sFit, rSums, cSums, hf.ok]

set_option maxHeartbeats 8000000 in
theorem law_FillImageFull (A : Option Addr) (n c : Nat) (w : World) (hr : RdB w A n) (hb : n ≤ maxLen ∧ n ≤ c) :
    Calls Tryz.prog 3 #[.slice A n c] w fun e w' => e = .returned (.bool true) ∧ Below w.heap.size w w' := by
  by_cases h1 : 1048576 < n
  · go_enter Tryz.func3, Tryz.ntmps3
    go_wp2
    go_ret
    exact ⟨rfl, by (repeat (first | exact Below.refl _ _ | assumption | refine lo_alloc ?_ _ | refine lo_set ?_ (by simp; try omega) _ | refine Below.drew ?_ | refine below_drewN ?_ _ | refine lo_trans ?_ (by assumption) | refine lo_wr ?_ (by assumption) (by omega)))⟩
  go_enter Tryz.func3, Tryz.ntmps3
  go_wp2_with fail
  refine (DrawFillImage_c A n c _ hr (by omega) hb.2).mono ?_
  rintro e w1 ⟨R, n, c, Q, m, d, rs, ys, rfl, hn, hm, _, _, hB, hQ, hb1⟩
  have hB1 := hB.rd
  have hQ1 := hQ.rd
  clear hB hQ
  cases hv : sV rs ys with
  | false =>
    have hv' := Lib.hid hv
    clear hv
    go_wp2_with fail
    refine (FillImage_no _ _ _ _ _ _ rs ys _ hB1 hQ1 (by omega) (by omega) hv'.out).mono ?_
    rintro e w2 ⟨rfl, hb2⟩
    have hs2 := hb2.size
    have hkA := Blk.new w2 27 #[.int .i64 0, .slice none 0 0]
    have hbA := lo_alloc (Below.refl w2.heap.size w2) (.cells #[.int .i64 0, .slice none 0 0] 27)
    have hbAz : w2.heap.size < (w2.alloc (.cells #[.int .i64 0, .slice none 0 0] 27)).heap.size := by simp
    go_wp2_with fail
    generalize w2.alloc (.cells #[.int .i64 0, .slice none 0 0] 27) = wA at hkA hbA hbAz  ⊢
    have hB2 := hB1.next (lo_trans hb2 hbA)
    have hQ2 := hQ1.next (lo_trans hb2 hbA)
    refine (spec_FillImage_no _ _ _ _ _ _ rs ys _ hB2 hQ2 (by omega) (by omega) hv'.out).mono ?_
    rintro e w3 ⟨rfl, hb3⟩
    have hs3 := hb3.size
    have a' : Blk (w3.alloc (.cells #[.int .i64 0, .slice none 0 0] 27)) _ _ _ := hkA.next (by (repeat (first | exact Below.refl _ _ | assumption | refine lo_alloc ?_ _ | refine lo_set ?_ (by simp; try omega) _ | refine Below.drew ?_ | refine below_drewN ?_ _ | refine lo_trans ?_ (by assumption) | refine lo_wr ?_ (by assumption) (by omega))))
    have a0 := a'.cell 0
    have a1 := a'.cell 1
    clear a'
    have hkB := Blk.new w3 27 #[.int .i64 0, .slice none 0 0]
    have hbB := lo_alloc (Below.refl w3.heap.size w3) (.cells #[.int .i64 0, .slice none 0 0] 27)
    have hbBz : w3.heap.size < (w3.alloc (.cells #[.int .i64 0, .slice none 0 0] 27)).heap.size := by simp
    go_wp2_with fail
    generalize w3.alloc (.cells #[.int .i64 0, .slice none 0 0] 27) = wB at hkB hbB hbBz a0 a1 ⊢
    refine (lsameImage_t _ _ _ _ _ _ _ [] _ Rd.nil_ Rd.nil_ (by omega)).mono ?_
    rintro e w4 ⟨rfl, hb4⟩
    have hs4 := hb4.size
    clear a0 a1
    have kA4 : Blk w4 w2.heap.size _ _ := hkA.next (by (repeat (first | exact Below.refl _ _ | assumption | refine lo_alloc ?_ _ | refine lo_set ?_ (by simp; try omega) _ | refine Below.drew ?_ | refine below_drewN ?_ _ | refine lo_trans ?_ (by assumption) | refine lo_wr ?_ (by assumption) (by omega))))
    have kB4 : Blk w4 w3.heap.size _ _ := hkB.next (by (repeat (first | exact Below.refl _ _ | assumption | refine lo_alloc ?_ _ | refine lo_set ?_ (by simp; try omega) _ | refine Below.drew ?_ | refine below_drewN ?_ _ | refine lo_trans ?_ (by assumption) | refine lo_wr ?_ (by assumption) (by omega))))
    have a0 := kA4.cell 0
    have a1 := kA4.cell 1
    have b0 := kB4.cell 0
    have b1 := kB4.cell 1
    go_wp2_with fail
    refine (lsameImage_t _ _ _ _ _ _ _ [] _ Rd.nil_ Rd.nil_ (by omega)).mono ?_
    rintro e w5 ⟨rfl, hb5⟩
    go_wp2
    go_ret
    exact ⟨rfl, by (repeat (first | exact Below.refl _ _ | assumption | refine lo_alloc ?_ _ | refine lo_set ?_ (by simp; try omega) _ | refine Below.drew ?_ | refine below_drewN ?_ _ | refine lo_trans ?_ (by assumption) | refine lo_wr ?_ (by assumption) (by omega)))⟩
  | true =>
    have hv' := Lib.hid hv
    have hfit := Lib.hid (full_fit hB1.1 hQ1.1 hv)
    have hfull := Lib.hid (fun hc => full_built (rs := rs) (ys := ys) (n := n) (m := m) hB1.1 hQ1.1 hc)
    clear hv
    go_wp2_with fail
    refine (FillImage_c _ _ _ _ _ _ rs ys _ hB1 hQ1 hv'.out).mono ?_
    rintro e w2 ⟨g, rfl, hb2, hg2, hgl2⟩
    have hs2 := hb2.size
    obtain ⟨X, hXe⟩ : ∃ X, Hid (fullX n m rs ys = X) := ⟨_, Lib.hid rfl⟩
    rw [hXe.out] at hfit hfull hg2
    have hX2 : Rd w2 (some ⟨g, 0, none⟩) n X := by have := Rd.of_blk hg2; rwa [hfit.out.len] at this
    have hkA := Blk.new w2 27 #[.int .i64 (m : Int), .slice (some ⟨g, 0, none⟩) n n]
    have hbA := lo_alloc (Below.refl w2.heap.size w2) (.cells #[.int .i64 (m : Int), .slice (some ⟨g, 0, none⟩) n n] 27)
    have hbAz : w2.heap.size < (w2.alloc (.cells #[.int .i64 (m : Int), .slice (some ⟨g, 0, none⟩) n n] 27)).heap.size := by simp
    go_wp2_with fail
    generalize w2.alloc (.cells #[.int .i64 (m : Int), .slice (some ⟨g, 0, none⟩) n n] 27) = wA at hkA hbA hbAz  ⊢
    have hB2 := hB1.next (lo_trans hb2 hbA)
    have hQ2 := hQ1.next (lo_trans hb2 hbA)
    refine (spec_FillImage_c _ _ _ _ _ _ rs ys _ hB2 hQ2 hv'.out).mono ?_
    rintro e w3 ⟨g3, rfl, hb3, hg3, hgl3⟩
    rw [hXe.out] at hg3
    have hs3 := hb3.size
    have hX3 : Rd w3 (some ⟨g3, 0, none⟩) n X := by have := Rd.of_blk hg3; rwa [hfit.out.len] at this
    have a' : Blk (w3.alloc (.cells #[.int .i64 (m : Int), .slice (some ⟨g3, 0, none⟩) n n] 27)) _ _ _ := hkA.next (by (repeat (first | exact Below.refl _ _ | assumption | refine lo_alloc ?_ _ | refine lo_set ?_ (by simp; try omega) _ | refine Below.drew ?_ | refine below_drewN ?_ _ | refine lo_trans ?_ (by assumption) | refine lo_wr ?_ (by assumption) (by omega))))
    have a0 := a'.cell 0
    have a1 := a'.cell 1
    clear a'
    have hkB := Blk.new w3 27 #[.int .i64 (m : Int), .slice (some ⟨g3, 0, none⟩) n n]
    have hbB := lo_alloc (Below.refl w3.heap.size w3) (.cells #[.int .i64 (m : Int), .slice (some ⟨g3, 0, none⟩) n n] 27)
    have hbBz : w3.heap.size < (w3.alloc (.cells #[.int .i64 (m : Int), .slice (some ⟨g3, 0, none⟩) n n] 27)).heap.size := by simp
    go_wp2_with fail
    generalize w3.alloc (.cells #[.int .i64 (m : Int), .slice (some ⟨g3, 0, none⟩) n n] 27) = wB at hkB hbB hbBz a0 a1 ⊢
    refine (lsameImage_t _ _ _ _ _ _ _ X _ (hX2.next (by (repeat (first | exact Below.refl _ _ | assumption | refine lo_alloc ?_ _ | refine lo_set ?_ (by simp; try omega) _ | refine Below.drew ?_ | refine below_drewN ?_ _ | refine lo_trans ?_ (by assumption) | refine lo_wr ?_ (by assumption) (by omega))))) (hX3.next (by (repeat (first | exact Below.refl _ _ | assumption | refine lo_alloc ?_ _ | refine lo_set ?_ (by simp; try omega) _ | refine Below.drew ?_ | refine below_drewN ?_ _ | refine lo_trans ?_ (by assumption) | refine lo_wr ?_ (by assumption) (by omega))))) (by omega)).mono ?_
    rintro e w4 ⟨rfl, hb4⟩
    have hs4 := hb4.size
    clear a0 a1
    have kA4 : Blk w4 w2.heap.size _ _ := hkA.next (by (repeat (first | exact Below.refl _ _ | assumption | refine lo_alloc ?_ _ | refine lo_set ?_ (by simp; try omega) _ | refine Below.drew ?_ | refine below_drewN ?_ _ | refine lo_trans ?_ (by assumption) | refine lo_wr ?_ (by assumption) (by omega))))
    have a0 := kA4.cell 0
    have a1 := kA4.cell 1
    have H4 : Below w.heap.size w w4 := lo_trans (lo_trans (lo_trans (lo_trans (lo_trans hb1 hb2) hbA) hb3) hbB) hb4
    have hX4 : Rd w4 (some ⟨g, 0, none⟩) n X := hX2.next (lo_trans (lo_trans (lo_trans hbA hb3) hbB) hb4)
    have hB4 := hB2.next (lo_trans (lo_trans hb3 hbB) hb4)
    have hQ4 := hQ2.next (lo_trans (lo_trans hb3 hbB) hb4)
    clear hX2 hB2 hQ2 hB1 hQ1 hkA hkB hb1 hb2 hbA hb3 hbB hb4 hg2 hg3
    cases hc : consB rs ys with
    | false =>
      have hc' := Lib.hid hc
      clear hc
      go_wp2_with fail
      refine (BuildImage_x _ _ _ _ _ _ rs ys _ hB4 hQ4 (by omega) (by omega)).mono ?_
      rw [hc'.out]
      rintro e w5 ⟨R5, r5, k5, rfl, hb5, hO5⟩
      have kA5 := kA4.next hb5
      have H5 := lo_trans H4 hb5
      have hX5 := hX4.next hb5
      have hB5 := hB4.next hb5
      have hQ5 := hQ4.next hb5
      clear a0 a1
      have hs5 := hb5.size
      have a' : Blk (w5.alloc (.cells #[.int .i64 (bldW rs ys), .slice R5 r5 k5] 27)) _ _ _ := kA5.next (by (repeat (first | exact Below.refl _ _ | assumption | refine lo_alloc ?_ _ | refine lo_set ?_ (by simp; try omega) _ | refine Below.drew ?_ | refine below_drewN ?_ _ | refine lo_trans ?_ (by assumption) | refine lo_wr ?_ (by assumption) (by omega))))
      have a0 := a'.cell 0
      have a1 := a'.cell 1
      clear a'
      have hkC := Blk.new w5 27 #[.int .i64 (bldW rs ys), .slice R5 r5 k5]
      have hbC := lo_alloc (Below.refl w5.heap.size w5) (.cells #[.int .i64 (bldW rs ys), .slice R5 r5 k5] 27)
      have hbCz : w5.heap.size < (w5.alloc (.cells #[.int .i64 (bldW rs ys), .slice R5 r5 k5] 27)).heap.size := by simp
      go_wp2_with fail
      generalize w5.alloc (.cells #[.int .i64 (bldW rs ys), .slice R5 r5 k5] 27) = wC at hkC hbC hbCz a0 a1 ⊢
      refine (FillFits_t _ _ _ _ _ _ _ _ rs ys X _ (hB5.next (by (repeat (first | exact Below.refl _ _ | assumption | refine lo_alloc ?_ _ | refine lo_set ?_ (by simp; try omega) _ | refine Below.drew ?_ | refine below_drewN ?_ _ | refine lo_trans ?_ (by assumption) | refine lo_wr ?_ (by assumption) (by omega))))) (hQ5.next (by (repeat (first | exact Below.refl _ _ | assumption | refine lo_alloc ?_ _ | refine lo_set ?_ (by simp; try omega) _ | refine Below.drew ?_ | refine below_drewN ?_ _ | refine lo_trans ?_ (by assumption) | refine lo_wr ?_ (by assumption) (by omega))))) (hX5.next (by (repeat (first | exact Below.refl _ _ | assumption | refine lo_alloc ?_ _ | refine lo_set ?_ (by simp; try omega) _ | refine Below.drew ?_ | refine below_drewN ?_ _ | refine lo_trans ?_ (by assumption) | refine lo_wr ?_ (by assumption) (by omega))))) hv'.out hfit.out).mono ?_
      rintro e w6 ⟨rfl, hb6⟩
      go_wp2
      go_ret
      exact ⟨rfl, by (repeat (first | exact Below.refl _ _ | assumption | refine lo_alloc ?_ _ | refine lo_set ?_ (by simp; try omega) _ | refine Below.drew ?_ | refine below_drewN ?_ _ | refine lo_trans ?_ (by assumption) | refine lo_wr ?_ (by assumption) (by omega)))⟩
    | true =>
      obtain ⟨f1, f2, f3, f4, f5⟩ := hfull.out hc
      have hc' := Lib.hid hc
      have f1' := Lib.hid f1
      have f4' := Lib.hid f4
      have f5' := Lib.hid f5
      obtain ⟨Y, hYe⟩ : ∃ Y, Hid (bldX rs ys = Y) := ⟨_, Lib.hid rfl⟩
      rw [hYe.out] at f2 f3 f4'
      clear hc f1 f4 f5
      go_wp2_with fail
      refine (BuildImage_x _ _ _ _ _ _ rs ys _ hB4 hQ4 (by omega) (by omega)).mono ?_
      rw [hc'.out, f1'.out, hYe.out]
      rintro e w5 ⟨R5, r5, k5, rfl, hb5, hO5⟩
      have kA5 := kA4.next hb5
      have H5 := lo_trans H4 hb5
      have hX5 := hX4.next hb5
      have hB5 := hB4.next hb5
      have hQ5 := hQ4.next hb5
      have hY5 := hO5.rd
      obtain rfl : r5 = n := by have := hY5.1; omega
      clear a0 a1
      have hs5 := hb5.size
      have a' : Blk (w5.alloc (.cells #[.int .i64 (m : Int), .slice R5 r5 k5] 27)) _ _ _ := kA5.next (by (repeat (first | exact Below.refl _ _ | assumption | refine lo_alloc ?_ _ | refine lo_set ?_ (by simp; try omega) _ | refine Below.drew ?_ | refine below_drewN ?_ _ | refine lo_trans ?_ (by assumption) | refine lo_wr ?_ (by assumption) (by omega))))
      have a0 := a'.cell 0
      have a1 := a'.cell 1
      clear a'
      have hkC := Blk.new w5 27 #[.int .i64 (m : Int), .slice R5 r5 k5]
      have hbC := lo_alloc (Below.refl w5.heap.size w5) (.cells #[.int .i64 (m : Int), .slice R5 r5 k5] 27)
      have hbCz : w5.heap.size < (w5.alloc (.cells #[.int .i64 (m : Int), .slice R5 r5 k5] 27)).heap.size := by simp
      go_wp2_with fail
      generalize w5.alloc (.cells #[.int .i64 (m : Int), .slice R5 r5 k5] 27) = wC at hkC hbC hbCz a0 a1 ⊢
      refine (SwitchPath_c m r5 _ _ _ _ X Y _ (hX5.next (by (repeat (first | exact Below.refl _ _ | assumption | refine lo_alloc ?_ _ | refine lo_set ?_ (by simp; try omega) _ | refine Below.drew ?_ | refine below_drewN ?_ _ | refine lo_trans ?_ (by assumption) | refine lo_wr ?_ (by assumption) (by omega))))) (hY5.next (by (repeat (first | exact Below.refl _ _ | assumption | refine lo_alloc ?_ _ | refine lo_set ?_ (by simp; try omega) _ | refine Below.drew ?_ | refine below_drewN ?_ _ | refine lo_trans ?_ (by assumption) | refine lo_wr ?_ (by assumption) (by omega))))) hfit.out.ok f2 f4'.out).mono ?_
      rintro e w6 ⟨hb6, R6, c6, k6, rfl, _, _⟩
      have hs6 := hb6.size
      clear a0 a1
      have kA6 : Blk w6 w2.heap.size _ _ := kA5.next (by (repeat (first | exact Below.refl _ _ | assumption | refine lo_alloc ?_ _ | refine lo_set ?_ (by simp; try omega) _ | refine Below.drew ?_ | refine below_drewN ?_ _ | refine lo_trans ?_ (by assumption) | refine lo_wr ?_ (by assumption) (by omega))))
      have a0 := kA6.cell 0
      have a1 := kA6.cell 1
      have hX6 := hX5.next (lo_trans hbC hb6)
      have hB6 := hB5.next (lo_trans hbC hb6)
      have hQ6 := hQ5.next (lo_trans hbC hb6)
      have H6 := lo_trans H5 (lo_trans hbC hb6)
      go_wp2_with fail
      refine (SumsFit_c _ _ _ _ X _ _ _ _ _ _ rs ys _ hX6 (by omega) hB6 hQ6).mono ?_
      rw [f5'.out]
      rintro e w7 ⟨rfl, hb7⟩
      go_wp2
      go_ret
      exact ⟨rfl, lo_trans H6 hb7⟩
end Go.Proofs.YtkcdoacojiilaaaGreat
