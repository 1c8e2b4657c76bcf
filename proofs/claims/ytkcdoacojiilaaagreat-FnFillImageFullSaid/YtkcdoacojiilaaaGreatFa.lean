
/- Walks: an image is filled (arrow, changeBack). -/
import Derived.Test.YtkcdoacojiilaaaGreatMathFm
import Derived.Test.YtkcdoacojiilaaaGreatSu
import Derived.Test.YtkcdoacojiilaaaGreatKl
import Derived.Test.YtkcdoacojiilaaaGreatRp
import Derived.BigQuiet
import Derived.Deep.RegionHeld3
namespace Go.Proofs.YtkcdoacojiilaaaGreat
open Go.RowKit
set_option maxRecDepth 100000

set_option maxHeartbeats 2000000 in
theorem arrow_c (m n c p t : Nat) (A : Option Addr) (xs : List Int) (w : World) (hr : Rd w A n xs) (hk : okB (m : Int) xs = true) (hp : p < n + m) (ht : t < n + m) :
    Calls Tryz.prog 40 #[.agg #[.int .i64 (m : Int), .slice A n c], .int .i64 t, .int .i64 p] w fun e w' => e = .returned (.bool (arrF n xs p t)) ∧ Below w.heap.size w w' := by
  have hk' := Lib.hid hk
  have hbd := okB_bd hk
  rw [hr.1] at hbd
  clear hk
  have hP := Blk.new w 27 #[.int .i64 (m : Int), .slice A n c]
  have hB0 := lo_alloc (Below.refl w.heap.size w) (.cells #[.int .i64 (m : Int), .slice A n c] 27)
  have hR0 := hr.alloc (.cells #[.int .i64 (m : Int), .slice A n c] 27)
  have c0 := hP.cell 0
  have c1 := hP.cell 1
  rcases Nat.lt_or_ge t n with h1 | h1
  · rcases Nat.lt_or_ge p n with h2 | h2
    · have e0 : Hid (arrF n xs p t = false) := Lib.hid (by rw [arrF, if_neg (by omega), if_neg (by omega)])
      go_enter Tryz.func40, Tryz.ntmps40
      go_wp2
      go_ret
      exact ⟨ret_bool e0.out.symm, by (repeat (first | exact Below.refl _ _ | assumption | refine lo_alloc ?_ _ | refine lo_set ?_ (by simp; try omega) _ | refine Below.drew ?_ | refine below_drewN ?_ _ | refine lo_trans ?_ (by assumption) | refine lo_wr ?_ (by assumption) (by omega)))⟩
    · obtain ⟨q, hpq⟩ : ∃ q, Hid (p = n + q) := ⟨p - n, Lib.hid (by omega)⟩
      have hq : q < m := by have := hpq.out; omega
      have e0 : Hid (arrF n xs p t = cellF xs t q) := Lib.hid (by rw [hpq.out, arrF, if_neg (by omega), if_pos (by omega), Nat.add_sub_cancel_left])
      have hw : IntKind.i64.wrap ((p : Int) - n) = (q : Int) := by rw [IntKind.wrap_i64]; have := hpq.out; omega
      go_enter Tryz.func40, Tryz.ntmps40
      go_wp2_with fail
      refine (has_k m t q n c xs A _ hR0 hk'.out h1 hq).mono ?_
      rintro e w2 ⟨rfl, hb2⟩
      go_wp2
      go_ret
      exact ⟨ret_bool e0.out.symm, by (repeat (first | exact Below.refl _ _ | assumption | refine lo_alloc ?_ _ | refine lo_set ?_ (by simp; try omega) _ | refine Below.drew ?_ | refine below_drewN ?_ _ | refine lo_trans ?_ (by assumption) | refine lo_wr ?_ (by assumption) (by omega)))⟩
  · obtain ⟨q, hpq⟩ : ∃ q, Hid (t = n + q) := ⟨t - n, Lib.hid (by omega)⟩
    have hq : q < m := by have := hpq.out; omega
    have hw : IntKind.i64.wrap ((t : Int) - n) = (q : Int) := by rw [IntKind.wrap_i64]; have := hpq.out; omega
    rcases Nat.lt_or_ge p n with h2 | h2
    · have e0 : Hid (arrF n xs p t = !cellF xs p q) := Lib.hid (by rw [hpq.out, arrF, if_pos (by omega), Nat.add_sub_cancel_left])
      go_enter Tryz.func40, Tryz.ntmps40
      go_wp2_with fail
      refine (has_k m p q n c xs A _ hR0 hk'.out h2 hq).mono ?_
      rintro e w2 ⟨rfl, hb2⟩
      go_wp2
      go_ret
      exact ⟨ret_bool e0.out.symm, by (repeat (first | exact Below.refl _ _ | assumption | refine lo_alloc ?_ _ | refine lo_set ?_ (by simp; try omega) _ | refine Below.drew ?_ | refine below_drewN ?_ _ | refine lo_trans ?_ (by assumption) | refine lo_wr ?_ (by assumption) (by omega)))⟩
    · have e0 : Hid (arrF n xs p t = false) := Lib.hid (by rw [arrF, if_neg (by omega), if_neg (by omega)])
      go_enter Tryz.func40, Tryz.ntmps40
      go_wp2
      go_ret
      exact ⟨ret_bool e0.out.symm, by (repeat (first | exact Below.refl _ _ | assumption | refine lo_alloc ?_ _ | refine lo_set ?_ (by simp; try omega) _ | refine Below.drew ?_ | refine below_drewN ?_ _ | refine lo_trans ?_ (by assumption) | refine lo_wr ?_ (by assumption) (by omega)))⟩

theorem flip_k (g n c i j m : Nat) (xs : List Int) (w : World) (hb : Blk w g 3 (ints xs)) (hk : okB (m : Int) xs = true) (hi : i < n) (hx : i < xs.length) (hj : j < m) :
    Calls Tryz.prog 25 #[.agg #[.int .i64 (m : Int), .slice (some ⟨g, 0, none⟩) n c], .int .i64 i, .int .i64 j] w fun e w' => e = .returned (.tuple #[]) ∧ Blk w' g 3 (ints (flipX xs i j)) ∧ w.grownBy w' (some g) := by
  have hbd := okB_bd hk
  obtain ⟨r, h1, h2⟩ := okB_at hk (k := i) hx
  have e : flipX xs i j = xs.set i ((r ^^^ 2 ^ j : Nat) : Int) := by simp only [flipX, h1, Int.toNat_natCast]
  rw [e]
  exact flip_c g n c i j r xs m w hb hi hx (by omega) h2 h1

set_option maxHeartbeats 4000000 in
theorem changeBack_c (m n c g lo d : Nat) (F : Option Addr) (X xs rs ys par : List Int) (wk : List Nat) (k t : Nat) (w : World) (hb : Blk w g 3 (ints X)) (hX : okB (m : Int) X = true) (hXl : X.length = n)
    (hF : Own w lo F (n + m) par) (hlo : g < lo) (b : Bfs n (n + m) xs rs ys par wk) (hv : wk[k]? = some t) :
    Calls Tryz.prog 41 #[.agg #[.int .i64 (m : Int), .slice (some ⟨g, 0, none⟩) n c], .slice F (n + m) d, .int .i64 t] w fun e w' => e = .returned (.tuple #[]) ∧ Blk w' g 3 (ints (flipB n par (n + m + 1) X t)) ∧ w.grownBy w' (some g) := by
  have hbd := okB_bd hX
  rw [hXl] at hbd
  have hP := Blk.new w 27 #[.int .i64 (m : Int), .slice (some ⟨g, 0, none⟩) n c]
  have hwl := wk_len b
  have hkl : k < wk.length := by rcases Nat.lt_or_ge k wk.length with h | h; exact h; rw [List.getElem?_eq_none h] at hv; cases hv
  have b' := Lib.hid b
  have hX' := Lib.hid hX
  have hgz := hb.lt
  have hF0 := hF.alloc (.cells #[.int .i64 (m : Int), .slice (some ⟨g, 0, none⟩) n c] 27)
  have hb0 := hb.alloc (.cells #[.int .i64 (m : Int), .slice (some ⟨g, 0, none⟩) n c] 27)
  have hg0 : w.grownBy (w.alloc (.cells #[.int .i64 (m : Int), .slice (some ⟨g, 0, none⟩) n c] 27)) (some g) := grown_alloc _ _
  clear b hX
  go_enter Tryz.func41, Tryz.ntmps41
  go_wp2
  go_loopw [2] (fun i wr => ∃ (k v f : Nat) (Y : List Int), wk[k]? = some v ∧ k < f ∧ i = .int .i64 v ∧ Hid (okB (m : Int) Y = true) ∧ Hid (Y.length = n) ∧ Hid (flipB n par f Y v = flipB n par (n + m + 1) X t) ∧ w.grownBy wr (some g) ∧ Blk wr g 3 (ints Y) ∧ Own wr lo F (n + m) par ∧ Blk wr w.heap.size 27 #[.int .i64 (m : Int), .slice (some ⟨g, 0, none⟩) n c]) (fun i _ => wk.idxOf (intOf i).toNat)
  case atStart => exact ⟨k, t, n + m + 1, X, hv, by omega, rfl, hX', Lib.hid hXl, Lib.hid rfl, hg0, hb0, hF0, hP⟩
  case round =>
    clear hg0 hb0 hF0 hP hX' hb hF hv
    obtain ⟨k, v, f, Y, hv, hkf, rfl, hY, hYl, hfl, hgr, hbY, hFr, hP⟩ := hrel
    have hvn : v < n + m := b'.out.lt v (List.mem_of_getElem? hv)
    obtain ⟨gF, rfl, hlF, hzF, hcF, hffF⟩ := hFr.at_ hvn
    have hc0 := hP.cell 0
    have hc1 := hP.cell 1
    have hzP := hP.lt
    obtain ⟨f, rfl⟩ : ∃ f', f = f' + 1 := ⟨f - 1, by omega⟩
    rcases b'.out.pa k v hv with ⟨hpv, hvl, _⟩ | ⟨k', u, hk', hu, hpv, harr⟩
    · rw [hpv] at hcF
      have hfin : Hid (flipB n par (n + m + 1) X t = Y) := Lib.hid (by rw [← hfl.out, flipB, hpv, Int.toNat_natCast, if_pos rfl])
      clear hpv
      go_wp2
      go_end0
      exact ⟨rfl, by rw [hfin.out]; exact hbY, hgr⟩
    · rw [hpv] at hcF
      have hun : u < n + m := b'.out.lt u (List.mem_of_getElem? hu)
      have hkw : k < wk.length := by rcases Nat.lt_or_ge k wk.length with h | h; exact h; rw [List.getElem?_eq_none h] at hv; cases hv
      have hixv : Hid (wk.idxOf v = k) := Lib.hid (by
        have e := (List.getElem?_eq_some_iff.1 hv).2
        rw [← e]; exact b'.out.nd.idxOf_getElem k hkw)
      have hixu : Hid (wk.idxOf u = k') := Lib.hid (by
        have e := (List.getElem?_eq_some_iff.1 hu).2
        rw [← e]; exact b'.out.nd.idxOf_getElem k' (by omega))
      have hne : v ≠ u := by
        rintro rfl
        have h1 := hixv.out; have h2 := hixu.out; omega
      have hne2 : ¬ (u : Int) = (v : Int) := by omega
      obtain ⟨ii, qq, hii⟩ : ∃ ii qq : Nat, Hid (min v u = ii ∧ max v u = n + qq ∧ ii < n ∧ qq < m) := by
        refine ⟨min v u, max v u - n, Lib.hid ?_⟩
        unfold arrF at harr
        split at harr
        · omega
        · split at harr
          · omega
          · cases harr
      obtain ⟨hi1, hi2, hi3, hi4⟩ := hii.out
      have hfl2 : Hid (flipB n par f (flipX Y ii qq) u = flipB n par (n + m + 1) X t) := Lib.hid (by
        rw [← hfl.out, flipB, hpv, Int.toNat_natCast, if_neg (Ne.symm hne), hi1, hi2, Nat.add_sub_cancel_left])
      have hY2 : Hid (okB (m : Int) (flipX Y ii qq) = true) := Lib.hid (flipX_ok hY.out (by rw [hYl.out]; exact hi3) hi4)
      have hl2 : Hid ((flipX Y ii qq).length = n) := Lib.hid (by rw [flipX_len, hYl.out])
      have hvi0 : (0 : Int) ≤ (v : Int) := by omega
      have hvi1 : (v : Int) < (n : Int) + (m : Int) := by omega
      have hvi2 : (v : Int) < ((n + m : Nat) : Int) := by omega
      have hmn : Hid (min (v : Int) (u : Int) = (ii : Int)) := Lib.hid (by omega)
      have hmx : Hid (IntKind.i64.wrap (max (v : Int) (u : Int) - (n : Int)) = (qq : Int)) := Lib.hid (by rw [IntKind.wrap_i64]; omega)
      have hkw' : w.heap.size < wr.heap.size := hzP
      have hpv' := Lib.hid hpv
      have hqP := Lib.hid (show ∀ W : World, wr.drew.grownBy W (some g) → Blk W w.heap.size 27 #[.int .i64 (m : Int), .slice (some ⟨g, 0, none⟩) n c] ∧ Own W lo (some ⟨gF, 0, none⟩) (n + m) par ∧ w.grownBy W (some g) from
        fun W hW => ⟨hP.drew.grown hW (by intro e; injection e; omega), hFr.drew.grown_lo hW (by rintro _ ⟨⟩; exact hlo), grown_trans hgr (grown_trans (grown_drew (some g)) hW)⟩)
      clear hpv harr hfl hi1 hi2 hii
      go_wp2_with fail
      go_region_held3 (fun w' => w'.cell? ⟨w.heap.size, 0, none⟩ = some (.int .i64 (m : Int)) ∧ w'.cell? ⟨w.heap.size, 1, none⟩ = some (.slice (some ⟨g, 0, none⟩) n c) ∧ w'.cell? ⟨gF, v, none⟩ = some (.int .i64 (u : Int)))
        (first
          | go_keep
          | exact ⟨(hqP.out _ hg6).1.cell 0, (hqP.out _ hg6).1.cell 1, by rw [(hqP.out _ hg6).2.1.cellAt hvn, hpv'.out]⟩)
        (first
          | (go_at_call 25
             rw [hmn.out, hmx.out]
             refine (flip_k g n c ii qq m Y _ (by first | exact hbY | exact hbY.drew) hY.out hi3 (by rw [hYl.out]; exact hi3) hi4).mono ?_
             rintro e w6 ⟨rfl, hb6, hg6⟩))
      all_goals
        (have hB6 := (hqP.out _ hg6).1
         have hF6 := (hqP.out _ hg6).2.1
         have hG6 := (hqP.out _ hg6).2.2
         have hc6 := hF6.cellAt hvn
         rw [hpv'.out] at hc6
         clear hcF hffF hc0 hc1
         go_wp2
         exact ⟨⟨k', u, f, flipX Y ii qq, hu, by omega, rfl, hY2, hl2, hfl2, hG6, hb6, hF6, hB6⟩, by simp only [intOf, Int.toNat_natCast]; rw [hixv.out, hixu.out]; exact hk'⟩)
end Go.Proofs.YtkcdoacojiilaaaGreat
