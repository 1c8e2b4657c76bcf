
/- Walks: the reference's FillImage gives the image that the program's FillImage gives. -/
import Derived.Test.YtkcdoacojiilaaaGreatFk
namespace Go.Proofs.YtkcdoacojiilaaaGreat
open Go.RowKit
set_option maxRecDepth 100000

theorem srchAll_some {n N : Nat} {xs rs ys par : List Int} {t : Nat} (hn : n ≤ N) (e : srchAll n N xs rs ys = (some t, par)) : ∃ wk, Bfs n N xs rs ys par wk ∧ t ∈ wk ∧ t < N := by
  rcases srch_ok (h := n) (n := N) (xs := xs) (rs := rs) (ys := ys) (N + 1) 0 (parK N xs rs n) (wkK xs rs n) (bfs_start xs rs ys hn) (by omega) (fun k v u hk => absurd hk (by omega)) (fun v hv => by
    have := List.mem_range.1 (List.mem_filter.1 hv).1
    simp only [lackC, Bool.and_eq_false_iff, decide_eq_false_iff_not]
    exact .inl (by omega)) with ⟨t', par', wk, e1, b, ht, htn, _⟩ | ⟨par', wk, e1, _⟩
  · rw [srchAll, e1] at e
    injection e with e2 e3
    injection e2 with e2
    subst e2; subst e3
    exact ⟨wk, b, ht, htn⟩
  · rw [srchAll, e1] at e
    injection e with e2 e3
    cases e2

set_option maxHeartbeats 2000000 in
theorem spec_FillImage_no (A B : Option Addr) (n m a b : Nat) (rs ys : List Int) (w : World) (hr : Rd w A n rs) (hs : Rd w B m ys) (hn : n ≤ 1000000) (hm : m ≤ 1000000) (hv : sV rs ys = false) :
    Calls Tryz.prog 6 #[.slice A n a, .slice B m b] w fun e w' => e = .returned (.tuple #[.agg #[.int .i64 0, .slice none 0 0], .bool false]) ∧ Below w.heap.size w w' := by
  have hK := Blk.new w 27 #[.int .i64 0, .slice none 0 0]
  have hL0 := lo_alloc (Below.refl w.heap.size w) (.cells #[.int .i64 0, .slice none 0 0] 27)
  have c0 := hK.cell 0
  have c1 := hK.cell 1
  have f0 := hK.frozen 0
  have f1 := hK.frozen 1
  clear hK
  go_enter Tryz.func6, Tryz.ntmps6
  go_wp2_with fail
  refine (spec_SumsValid_c _ _ _ _ _ _ rs ys _ (hr.alloc _) (hs.alloc _) (by omega) (by omega)).mono ?_
  rw [hv]
  rintro e w' ⟨rfl, rfl⟩
  go_wp2
  exact bodyPost_ret (v := .tuple #[.agg #[.int .i64 0, .slice none 0 0], .bool false]) (by simp [results, Tryz.results6, go_sem]) rfl ⟨rfl, hL0⟩

set_option maxHeartbeats 8000000 in
theorem spec_FillImage_c (A B : Option Addr) (n m a b : Nat) (rs ys : List Int) (w : World) (hr : Rd w A n rs) (hs : Rd w B m ys) (hv : sV rs ys = true) :
    Calls Tryz.prog 6 #[.slice A n a, .slice B m b] w fun e w' => ∃ g, e = .returned (.tuple #[.agg #[.int .i64 (m : Int), .slice (some ⟨g, 0, none⟩) n n], .bool true]) ∧ Below w.heap.size w w' ∧ Blk w' g 3 (ints (fullX n m rs ys)) ∧ w.heap.size ≤ g := by
  obtain ⟨b1, b2, b3, b4, b5, b6⟩ := sV_out hv
  rw [hr.1] at b1 b2
  rw [hs.1] at b3 b4
  clear b5 b6
  have hv' := Lib.hid hv
  have hz := Lib.hid (fit_zero hr.1 hs.1 hv)
  have hL0 := lo_alloc (Below.refl w.heap.size w) (.cells #[.int .i64 0, .slice none 0 0] 27)
  have hK0 := Blk.new w 27 #[.int .i64 0, .slice none 0 0]
  obtain ⟨M, hM⟩ : ∃ M, Hid (M = n * m) := ⟨_, Lib.hid rfl⟩
  have hMe : (n : Int) * (m : Int) = (M : Int) := by rw [hM.out]; simp
  have hM36 : M ≤ 36 := by rw [hM.out]; exact Nat.mul_le_mul b2 b4
  obtain ⟨N, hN⟩ : ∃ N, Hid (N = n + m) := ⟨_, Lib.hid rfl⟩
  have hnN : n ≤ N := by rw [hN.out]; omega
  have hNn : ∀ k, k < N → k < n + m := fun k hk => by rw [← hN.out]; exact hk
  go_enter Tryz.func6, Tryz.ntmps6
  go_wp2_with fail
  refine (spec_SumsValid_c _ _ _ _ _ _ rs ys _ (hr.alloc _) (hs.alloc _) (by omega) (by omega)).mono ?_
  rw [hv]
  rintro e w' ⟨rfl, rfl⟩
  clear hv
  go_wp2_with fail
  refine (l1Blank_c n m _ (by omega)).mono ?_
  rintro e w2 ⟨g, rfl, hb2, hk2, hg1, hg2⟩
  have hK2 := hK0.next hb2
  have hL2 := lo_trans hL0 hb2
  rw [World.size_alloc] at hg1
  have hgw : w.heap.size < g := by omega
  obtain ⟨o, ho⟩ : ∃ o, o = w2.heap.size := ⟨_, rfl⟩
  obtain ⟨w3, hw3⟩ : ∃ w3, w3 = w2.alloc (.cells #[.int .i64 m, .slice (some ⟨g, 0, none⟩) n n] 27) := ⟨_, rfl⟩
  have hI3 : WInv w w3 o g n m (List.replicate n 0) := by
    rw [hw3]
    exact ⟨lo_alloc hL2 _, hK2.alloc _, by rw [ho]; exact Blk.new _ _ _, hk2.alloc _⟩
  have hgo : g < o := by omega
  have ho3 : o < w3.heap.size := by rw [hw3, ho]; simp
  have hst : Hid (fillN n m rs ys (M - 0) (List.replicate n 0) = fullX n m rs ys) := Lib.hid (by rw [Nat.sub_zero, hM.out, fullX])
  clear hk2 hK2 hL2 hL0 hK0 hb2 hg1 hg2
  go_wp2
  rw [← ho, ← hw3]
  have ho' := Lib.hid ho; clear ho
  have hw3' := Lib.hid hw3; clear hw3
  go_loopw [7] (fun i wr => ∃ (k : Nat) (X : List Int), k ≤ M ∧ i = .int .i64 k ∧ o < wr.heap.size ∧ WInv w wr o g n m X ∧ Hid (FitX n m rs ys X) ∧ Hid (fillN n m rs ys (M - k) X = fullX n m rs ys)) (fun i _ => M - (intOf i).toNat)
  case atStart => exact ⟨0, _, Nat.zero_le _, rfl, ho3, hI3, hz, hst⟩
  case round =>
    clear hI3 hz hst ho3
    obtain ⟨k, X, hkM, rfl, hoz, hI, hf, hfl⟩ := hrel
    by_cases hlt : k < M
    · obtain ⟨c0, c1, f0, f1, c2, c3⟩ := hI.cells
      obtain ⟨f, hf2⟩ : ∃ f, Hid (M - k = f + 1) := ⟨M - k - 1, Lib.hid (by omega)⟩
      have hfe : Hid (f = M - (k + 1)) := Lib.hid (by have := hf2.out; omega)
      go_wp2_with fail
      refine (l41Search_c m n N n a b A B (some ⟨g, 0, none⟩) X rs ys _ (by have := Rd.of_blk hI.2.2.2; rwa [hf.out.len] at this) (hr.next hI.1) (hs.next hI.1) hf.out.ok hN).mono ?_
      rintro e w6 ⟨P, cp, rfl, hb6, hO6⟩
      have hI6 : WInv w w6 o g n m X := ⟨lo_trans hI.1 hb6, hI.2.1.next hb6, hI.2.2.1.next hb6, hI.2.2.2.next hb6⟩
      have ho6 : o < w6.heap.size := Nat.lt_of_lt_of_le hoz hb6.size
      have hO7 := hO6.mono (lo' := o + 1) (by omega)
      clear c0 c1 f0 f1 c2 c3 hI hb6 hO6 hoz
      obtain ⟨res, hres⟩ : ∃ r, Hid (srchAll n N X rs ys = r) := ⟨_, Lib.hid rfl⟩
      rw [hres.out] at hO7 ⊢
      obtain ⟨r1, par⟩ := res
      cases r1 with
      | none =>
        have hfin : Hid (fullX n m rs ys = X) := Lib.hid (by rw [← hfl.out]; exact fillN_none (by rw [nextX, ← hN.out, hres.out]) _)
        obtain ⟨c0, c1, f0, f1, c2, c3⟩ := hI6.cells
        have hz := hI6.2.1.lt
        have hF := (hI6.2.1.set_ 0 (.int .i64 (m : Int))).set_ 1 (.slice (some ⟨g, 0, none⟩) n n)
        have r0 := hF.cell 0
        have r1 := hF.cell 1
        have hL1 := lo_set (lo_set hI6.1 (p := ⟨w.heap.size, 0, none⟩) (Nat.le_refl _) (.int .i64 (m : Int))) (p := ⟨w.heap.size, 1, none⟩) (Nat.le_refl _) (.slice (some ⟨g, 0, none⟩) n n)
        have hG := (hI6.2.2.2.far (p := ⟨w.heap.size, 0, none⟩) (by simp; omega) (.int .i64 (m : Int))).far (p := ⟨w.heap.size, 1, none⟩) (by simp; omega) (.slice (some ⟨g, 0, none⟩) n n)
        clear hF hI6
        simp only [atI]
        go_wp2
        exact bodyPost_ret (v := .tuple #[.agg #[.int .i64 m, .slice (some ⟨g, 0, none⟩) n n], .bool true]) (by simp [results, Tryz.results6, go_sem, r0, r1]) rfl ⟨g, rfl, hL1, by rw [hfin.out]; exact hG, by omega⟩
      | some t =>
        obtain ⟨wk, hbf, htw, htN⟩ := srchAll_some hnN hres.out
        obtain ⟨z, hze⟩ : ∃ z, Hid (flipB n par (n + m + 1) X t = z) := ⟨_, Lib.hid rfl⟩
        have hnx : nextX n m rs ys X = some z := by rw [nextX, ← hN.out, hres.out, ← hze.out]; simp only; rw [hN.out]
        have hfz := Lib.hid (next_fit hf.out hnx).1
        have hfl2 : Hid (fillN n m rs ys (M - (k + 1)) z = fullX n m rs ys) := Lib.hid (by rw [← hfl.out, hf2.out, fillN, hnx, ← hfe.out])
        obtain ⟨kt, hkt, hwt⟩ := List.mem_iff_getElem.1 htw
        have hwt2 : wk[kt]? = some t := by rw [List.getElem?_eq_getElem hkt, hwt]
        have hwl := wk_len hbf
        have hNe := hN.out
        have hkt2 : kt < n + m + 1 := by omega
        have hX' := Lib.hid hf.out.ok
        have hXl := Lib.hid hf.out.len
        have b' := Lib.hid hbf
        clear hnx hres hfl hf hwt htw hbf hNe
        simp only [atI]
        go_wp2
        go_loopw [9] (fun i wr => ∃ (k v f : Nat) (Y : List Int), wk[k]? = some v ∧ k < f ∧ i = .int .i64 v ∧ o < wr.heap.size ∧ Hid (okB (m : Int) Y = true) ∧ Hid (Y.length = n) ∧ Hid (flipB n par f Y v = z) ∧ WInv w wr o g n m Y ∧ Own wr (o + 1) P N par) (fun i _ => wk.idxOf (intOf i).toNat)
        case atStart => exact ⟨kt, t, n + m + 1, X, hwt2, hkt2, rfl, ho6, hX', hXl, hze, hI6, hO7⟩
        case round =>
          clear hO7 hI6 hX' hXl hze hwt2 hkt2 hkt ho6
          obtain ⟨j, v, f, Y, hv, hjf, rfl, hoz, hY, hYl, hfY, hI, hO⟩ := hrel
          have hvN : v < N := b'.out.lt v (List.mem_of_getElem? hv)
          obtain ⟨gF, rfl, hlF, hzF, hcF, hffF⟩ := hO.at_ hvN
          obtain ⟨c0, c1, f0, f1, c2, c3⟩ := hI.cells
          obtain ⟨f, rfl⟩ : ∃ f', f = f' + 1 := ⟨f - 1, by omega⟩
          have hv' := Lib.hid hv
          rcases b'.out.pa j v hv with ⟨hpv, hvl, _⟩ | ⟨j', u, hj', hu, hpv, harr⟩
          · rw [hpv] at hcF
            have hfin : Hid (z = Y) := Lib.hid (by rw [← hfY.out, flipB, hpv, Int.toNat_natCast, if_pos rfl])
            clear hpv hv
            go_wp2
            go_roundw
            case rel => exact ⟨k + 1, z, by omega, by go_num, hoz, by rw [hfin.out]; exact hI, hfz, hfl2⟩
            case measure => simp [intOf]; omega
          · rw [hpv] at hcF
            have huN : u < N := b'.out.lt u (List.mem_of_getElem? hu)
            have hjw : j < wk.length := by rcases Nat.lt_or_ge j wk.length with h | h; exact h; rw [List.getElem?_eq_none h] at hv; cases hv
            have hixv : Hid (wk.idxOf v = j) := Lib.hid (by
              have e := (List.getElem?_eq_some_iff.1 hv).2
              rw [← e]; exact b'.out.nd.idxOf_getElem j hjw)
            have hixu : Hid (wk.idxOf u = j') := Lib.hid (by
              have e := (List.getElem?_eq_some_iff.1 hu).2
              rw [← e]; exact b'.out.nd.idxOf_getElem j' (by omega))
            have hne : v ≠ u := by
              rintro rfl
              have h1 := hixv.out; have h2 := hixu.out; omega
            have hne2 : ¬ (v : Int) = (u : Int) := by omega
            obtain ⟨ii, qq, hii⟩ : ∃ ii qq : Nat, Hid (((u = ii ∧ v = n + qq) ∨ (v = ii ∧ u = n + qq)) ∧ ii < n ∧ qq < m) := by
              have h1 := hNn _ hvN
              have h2 := hNn _ huN
              refine ⟨min v u, max v u - n, Lib.hid ?_⟩
              unfold arrF at harr
              split at harr
              · omega
              · split at harr
                · omega
                · cases harr
            obtain ⟨hi1, hi3, hi4⟩ := hii.out
            have hmin : min v u = ii := by omega
            have hmax : max v u - n = qq := by omega
            have hfl3 : Hid (flipB n par f (flipX Y ii qq) u = z) := Lib.hid (by
              rw [← hfY.out, flipB, hpv, Int.toNat_natCast, if_neg (Ne.symm hne), hmin, hmax])
            have hY2 : Hid (okB (m : Int) (flipX Y ii qq) = true) := Lib.hid (flipX_ok hY.out (by rw [hYl.out]; exact hi3) hi4)
            have hl2 : Hid ((flipX Y ii qq).length = n) := Lib.hid (by rw [flipX_len, hYl.out])
            have hI5 : WInv w wr.drew o g n m Y := ⟨Below.drew hI.1, hI.2.1.drew, hI.2.2.1.drew, hI.2.2.2.drew⟩
            have hqP := Lib.hid (show ∀ W : World, wr.drew.grownBy W (some g) → Blk W g 3 (ints (flipX Y ii qq)) → WInv w W o g n m (flipX Y ii qq) ∧ Own W (o + 1) (some ⟨gF, 0, none⟩) N par ∧ o < W.heap.size from
              fun W hW hB => ⟨hI5.step hgw (by omega) hW hB, hO.drew.grown_lo hW (by rintro _ ⟨⟩; omega), Nat.lt_of_lt_of_le hoz hW.size⟩)
            have hbk5 := hI5.2.2.2
            have hbk := hI.2.2.2
            have hii' := Lib.hid hi1
            have hu' := Lib.hid hu
            have hpv' := Lib.hid hpv
            have hjj := hj'
            clear hpv harr hfY hii hmin hmax hi1 hv hu c0 c1 f0 f1
            go_wp2_with fail
            go_region_held3 (fun w' => w'.cell? ⟨o, 0, none⟩ = some (.int .i64 (m : Int)) ∧ w'.cell? ⟨o, 1, none⟩ = some (.slice (some ⟨g, 0, none⟩) n n) ∧ w'.cell? ⟨gF, v, none⟩ = some (.int .i64 (u : Int)))
              (first
                | with_reducible exact ⟨k0, k1, k2⟩
                | go_keep)
              (first
                | (go_at_call 20
                   refine (turn_in m n n g u v ii qq Y _ (by first | with_reducible exact hbk5 | with_reducible exact hbk) hY.out hYl.out hi3 hi4 hii'.out).mono ?_
                   rintro e w7 ⟨rfl, hb7, hg7⟩
                   have hq7 := hqP.out _ hg7 hb7
                   have k0 := hq7.1.2.2.1.cell 0
                   have k1 := hq7.1.2.2.1.cell 1
                   have k2 : w7.cell? ⟨gF, v, none⟩ = some (.int .i64 (u : Int)) := by rw [hq7.2.1.cellAt hvN, hpv'.out]))
            clear hcF hffF c2 c3
            go_wp2
            go_roundw
            case rel => exact ⟨j', u, f, flipX Y ii qq, hu'.out, by omega, rfl, hq7.2.2, hY2, hl2, hfl3, hq7.1, hq7.2.1⟩
            case measure => simp only [intOf, Int.toNat_natCast]; rw [hixv.out, hixu.out]; exact hjj
    · obtain rfl : k = M := by omega
      have hfin : Hid (fullX n m rs ys = X) := Lib.hid (by rw [← hfl.out, Nat.sub_self, fillN])
      obtain ⟨c0, c1, f0, f1, c2, c3⟩ := hI.cells
      have hz := hI.2.1.lt
      have hF := (hI.2.1.set_ 0 (.int .i64 (m : Int))).set_ 1 (.slice (some ⟨g, 0, none⟩) n n)
      have r0 := hF.cell 0
      have r1 := hF.cell 1
      have hL1 := lo_set (lo_set hI.1 (p := ⟨w.heap.size, 0, none⟩) (Nat.le_refl _) (.int .i64 (m : Int))) (p := ⟨w.heap.size, 1, none⟩) (Nat.le_refl _) (.slice (some ⟨g, 0, none⟩) n n)
      have hG := (hI.2.2.2.far (p := ⟨w.heap.size, 0, none⟩) (by simp; omega) (.int .i64 (m : Int))).far (p := ⟨w.heap.size, 1, none⟩) (by simp; omega) (.slice (some ⟨g, 0, none⟩) n n)
      clear hF hI
      go_wp2
      exact bodyPost_ret (v := .tuple #[.agg #[.int .i64 m, .slice (some ⟨g, 0, none⟩) n n], .bool true]) (by simp [results, Tryz.results6, go_sem, r0, r1]) rfl ⟨g, rfl, hL1, by rw [hfin.out]; exact hG, by omega⟩
end Go.Proofs.YtkcdoacojiilaaaGreat
