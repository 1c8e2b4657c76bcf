
/- Walks: drawn images. -/
import Derived.Test.YtjogfeichnkffaaDw
import Derived.Test.YtjogfeichnkffaaWd
import Derived.Test.YtjogfeichnkffaaMathG
import Derived.Deep.RegionHeld3
namespace Go.Proofs.Ytjogfeichnkffaa
open Go.RowKit
set_option maxRecDepth 100000

theorem put_lt_all : ∀ m, m < 7 → ∀ r, r < 2 ^ m → ∀ j, j < m → ∀ b, put r j b < 2 ^ m := by decide +kernel
theorem put_lt {m r j : Nat} (b : Bool) (hm : m ≤ 6) (hr : r < 2 ^ m) (hj : j < m) : put r j b < 2 ^ m := put_lt_all m (by omega) r hr j hj b

set_option maxHeartbeats 400000 in
theorem l15Count_c (r : Nat) (w : World) (hr : r < 64) :
    Calls Try.prog 66 #[.int .i64 r] w fun e w' => ∃ n : Nat, e = .returned (.int .i64 n) ∧ n ≤ 6 ∧ w = w' := by
  go_enter Try.func66, Try.ntmps66
  go_wp2
  go_loop [0, 3] (fun q c => ∃ s x n : Nat, s ≤ 6 ∧ n ≤ s ∧ Hid (x < 2 ^ (6 - s)) ∧ q = .int .i64 x ∧ c = .int .i64 n) (fun q _ => (intOf q).toNat)
  case atStart => exact ⟨0, r, 0, by omega, by omega, Lib.hid (by simpa using hr), rfl, rfl⟩
  case round =>
    obtain ⟨s, x, n, hs, hn, hx, rfl, rfl⟩ := hrel
    by_cases h0 : 0 < x
    · have hs6 : s < 6 := by
        rcases Nat.lt_or_ge s 6 with h | h
        · exact h
        · have h2 := hx.out
          rw [show 6 - s = 0 by omega] at h2; omega
      have hN : Hid (x / 2 < 2 ^ (6 - (s + 1))) := Lib.hid (by
        have h2 := hx.out
        rw [show 6 - s = (6 - (s + 1)) + 1 by omega, Nat.pow_succ] at h2
        omega)
      have hxb : x < 64 := by
        have h2 := hx.out
        have : 2 ^ (6 - s) ≤ 2 ^ 6 := Nat.pow_le_pow_right (by omega) (by omega)
        omega
      go_wp2
      go_round
      case rel =>
        refine ⟨s + 1, x / 2, n + x % 2, by omega, by omega, hN, ?_, ?_⟩
        · simp
        · simp
      case measure => simp [intOf]; omega
    · go_wp2
      go_ret
      exact ⟨n, rfl, by omega, rfl⟩

/-- A drawn image: valid, in new memory. -/
def DrawnImage (w : World) (lo b p k : Nat) (e : Ending) (w' : World) : Prop :=
  ∃ (h m g q : Nat) (f : Nat → Nat → Bool), e = .returned (.agg #[.int .i64 m, .slice (some ⟨g, 0, none⟩) h h]) ∧ 1 ≤ h ∧ h ≤ 6 ∧ 1 ≤ m ∧ m ≤ 6 ∧ w.heap.size ≤ g ∧ Blk w' g 3 (ints (img f h m)) ∧ w.grownBy w' (some b) ∧ Rdr w' lo b q ∧ q ≤ p + k

set_option maxHeartbeats 1000000 in
theorem l91Shape_c (lo b p : Nat) (cells : Int) (w : World) (h : Rdr w lo b p) (hp : p ≤ 900000) (hc : 1 ≤ cells) (hc2 : cells ≤ 100) :
    Calls Try.prog 60 #[.pointer (some ⟨b, 0, none⟩), .int .i64 cells] w (DrawnImage w lo b p 20) := by
  have hbz := h.lt
  go_enter Try.func60, Try.ntmps60
  go_wp2_with fail
  refine (pick_c lo b p _ _ (h.next (by (repeat (first | exact Below.refl _ _ | assumption | refine lo_alloc ?_ _ | refine lo_set ?_ (by simp; try omega) _ | refine Below.drew ?_ | refine below_drewN ?_ _ | refine lo_trans ?_ (by assumption) | refine lo_wr ?_ (by assumption) (by omega))))) (by omega)).mono ?_
  rintro e w1 ⟨x1, rfl, hx1, hg1, hr1⟩
  go_wp2_with fail
  refine (pick_c lo b (p + 1) _ _ hr1 (by omega)).mono ?_
  rintro e w2 ⟨x2, rfl, hx2, hg2, hr2⟩
  have hy1 := hx1 (by omega)
  have hy2 := hx2 (by omega)
  have hz1 : w.heap.size + 1 ≤ w1.heap.size := by have := hg1.size; simp at this; omega
  have hz2 : w.heap.size + 1 ≤ w2.heap.size := by have := hg2.size; omega
  have hG2 : w.grownBy w2 (some b) := grown_trans (grown_trans (grown_alloc _ _) hg1) hg2
  have hK2 : Blk w2 w.heap.size _ _ := ((Blk.new w 27 #[.int .i64 0, .slice none 0 0]).grown hg1 (by intro e; injection e; omega)).grown hg2 (by intro e; injection e; omega)
  clear hx1 hx2 hg1 hg2 hr1
  go_wp2
  go_loop [5, 6] (fun u v => ∃ a c : Nat, 1 ≤ a ∧ a ≤ 6 ∧ 1 ≤ c ∧ c ≤ 6 ∧ u = .int .i64 a ∧ v = .int .i64 c) (fun u v => (intOf u).toNat + (intOf v).toNat)
  case atStart => exact ⟨1 + x1, 1 + x2, by omega, by omega, by omega, by omega, by go_num, by go_num⟩
  case round =>
    obtain ⟨a, c, ha1, ha2, hc1, hc2, rfl, rfl⟩ := hrel
    have hm1 : a * c ≤ 6 * 6 := Nat.mul_le_mul ha2 hc2
    have hm2 : (a : Int) * c = ((a * c : Nat) : Int) := by simp
    have hm3 : (a : Int) * c ≤ 36 := by omega
    have hm4 : (0 : Int) ≤ (a : Int) * c := by omega
    have hm5 := Lib.hid hm2; clear hm2
    by_cases hgt : cells < (a : Int) * c
    · have hne : ¬ (a = 1 ∧ c = 1) := by rintro ⟨rfl, rfl⟩; simp at hgt; omega
      by_cases hac : c < a
      · go_wp2
        go_round
        case rel => exact ⟨a - 1, c, by omega, by omega, by omega, by omega, by go_num, rfl⟩
        case measure => simp [intOf]; omega
      · go_wp2
        go_round
        case rel => exact ⟨a, c - 1, by omega, by omega, by omega, by omega, rfl, by go_num⟩
        case measure => simp [intOf]; omega
    · go_wp2_with fail
      refine (l1Blank_c a c _ (by omega)).mono ?_
      rintro e w3 ⟨g, rfl, hb3, hk3, hg3, hg4⟩
      go_wp2
      obtain ⟨o, ho⟩ : ∃ o, o = w3.heap.size := ⟨_, rfl⟩
      have hO0 : Blk (w3.alloc (.cells #[.int .i64 c, .slice (some ⟨g, 0, none⟩) a a] 27)) o 27 #[.int .i64 c, .slice (some ⟨g, 0, none⟩) a a] := by rw [ho]; exact Blk.new _ _ _
      have hI0 := hk3.alloc (.cells #[.int .i64 c, .slice (some ⟨g, 0, none⟩) a a] 27)
      have hG3 : w.grownBy (w3.alloc (.cells #[.int .i64 c, .slice (some ⟨g, 0, none⟩) a a] 27)) (some b) := grown_trans (grown_trans hG2 (grown_of_below hb3 _)) (grown_alloc _ _)
      have hK3 : Blk (w3.alloc (.cells #[.int .i64 c, .slice (some ⟨g, 0, none⟩) a a] 27)) w.heap.size _ _ := (hK2.next hb3).alloc _
      have hR3 : Rdr (w3.alloc (.cells #[.int .i64 c, .slice (some ⟨g, 0, none⟩) a a] 27)) lo b (p + 2) := (hr2.next hb3).next (by (repeat (first | exact Below.refl _ _ | assumption | refine lo_alloc ?_ _ | refine lo_set ?_ (by simp; try omega) _ | refine Below.drew ?_ | refine below_drewN ?_ _ | refine lo_trans ?_ (by assumption) | refine lo_wr ?_ (by assumption) (by omega))))
      have hog : o ≠ g := by omega
      have hob : b < o := by omega
      have hgb : w.heap.size < g := by omega
      have hko : w.heap.size < o := by omega
      rw [← ho]
      have ho' := Lib.hid ho
      clear ho hG2 hK2 hr2 hb3 hk3 hm1 hm3 hm4 hgt
      obtain ⟨wo, rfl⟩ : ∃ wo : World, wo = w3 := ⟨_, rfl⟩
      go_loopw [8] (fun i wr => ∃ (k : Nat) (rs : List Nat), k ≤ a ∧ i = .int .i64 k ∧ Hid (rs.length = k) ∧ Hid (∀ x ∈ rs, x < 2 ^ c) ∧ Blk wr g 3 (ints (nats rs ++ List.replicate (a - k) 0)) ∧
          Blk wr o 27 #[.int .i64 c, .slice (some ⟨g, 0, none⟩) a a] ∧ Blk wr w.heap.size 27 #[.int .i64 0, .slice none 0 0] ∧ w.grownBy wr (some b) ∧ Rdr wr lo b (p + 2 + k)) (fun i _ => a - (intOf i).toNat)
      case atStart => exact ⟨0, [], Nat.zero_le _, rfl, Lib.hid rfl, Lib.hid (by simp), hI0, hO0, hK3, hG3, hR3⟩
      case round =>
        clear hO0 hI0 hG3 hK3 hR3
        obtain ⟨k, rs, hk, rfl, hl, hall, hI, hO, hK, hG, hR⟩ := hrel
        have hlI : (nats rs ++ List.replicate (a - k) 0).length = a := by rw [List.length_append, List.length_replicate]; simp only [nats, List.length_map]; have := hl.out; omega
        have hlI' := Lib.hid hlI; clear hlI
        by_cases hlt : k < a
        · have o1 := hO.cell 1
          have hpw := pow_int (j := c) hc2
          have hzz := hO.lt
          have hzg := hI.lt
          go_wp2
          go_region_held3 (fun w' => w'.cell? ⟨o, 1, none⟩ = some (.slice (some ⟨g, 0, none⟩) a a))
            (first
              | go_keep
              | exact ((hO.drew).grown hg5 (by intro e; injection e; omega)).cell 1
              | exact (((hO.drew).grown hg5 (by intro e; injection e; omega)).far (p := ⟨g, k, none⟩) hog _).cell 1)
            (first
              | (go_at_call 45; refine (l1Power_c _ _ (by omega) (by omega)).mono ?_; rintro e w' ⟨rfl, rfl⟩)
              | (go_at_call 33; refine (pick_c lo b (p + 2 + k) _ _ (hR.next (by (repeat (first | exact Below.refl _ _ | assumption | refine lo_alloc ?_ _ | refine lo_set ?_ (by simp; try omega) _ | refine Below.drew ?_ | refine below_drewN ?_ _ | refine lo_trans ?_ (by assumption) | refine lo_wr ?_ (by assumption) (by omega))))) (by omega)).mono ?_; rintro e w5 ⟨x5, rfl, hx5, hg5, hr5⟩; have hI5 := hI.drew.grown hg5 (by intro e; injection e; omega); have i5 := hI5.icell (k := k) (by rw [hlI'.out]; exact hlt); have f5 := hI5.frozen k))
          have hy5 : x5 < 2 ^ c := by
            have h5 := hx5 (by omega)
            have e : ((2 ^ c : Nat) : Int) = (2 : Int) ^ c := by simp
            omega
          have hI6 := Lib.hid (hI5.iset k (x5 : Int))
          have hst := Lib.hid (nats_step (x := x5) hl.out hlt)
          have hO6 := ((hO.drew).grown hg5 (by intro e; injection e; omega)).far (p := ⟨g, k, none⟩) hog (.int .i64 (x5 : Int))
          have hK6 := ((hK.drew).grown hg5 (by intro e; injection e; omega)).far (p := ⟨g, k, none⟩) (show w.heap.size ≠ g by omega) (.int .i64 (x5 : Int))
          have hG6 := grown_over (grown_trans (grown_trans hG (grown_drew _)) hg5) (grown_set (w := w5) (g := g) (k := k) (.int .i64 (x5 : Int))) (by rintro _ ⟨⟩; omega)
          have hR6 := hr5.grown (grown_set (w := w5) (g := g) (k := k) (.int .i64 (x5 : Int))) (by omega)
          clear o1 i5 f5 hI5 hx5 hpw hI hO hK hG hR hr5
          go_wp2
          go_roundw
          case rel => exact ⟨k + 1, rs ++ [x5], by omega, by go_num, Lib.hid (by simp [hl.out]), Lib.hid (by intro y hy; rcases List.mem_append.1 hy with h | h; exact hall.out y h; simp at h; subst h; exact hy5), by rw [← hst.out]; exact hI6.out, hO6, hK6, hG6, hR6⟩
          case measure => simp [intOf]; omega
        · have hka : k = a := by omega
          have hka' := Lib.hid hka
          have e0 : nats rs ++ List.replicate (a - k) 0 = nats rs := by rw [hka, Nat.sub_self]; simp
          rw [e0, nats_img (hl.out.trans hka) hall.out] at hI
          clear hlI' hka e0
          have o0 := hO.cell 0
          have o1 := hO.cell 1
          have r0 := hK.cell 0
          have r1 := hK.cell 1
          have f0 := hK.frozen 0
          have f1 := hK.frozen 1
          have hgr := grown_over (grown_over hG (grown_set (w := wr) (g := w.heap.size) (k := 0) (.int .i64 (c : Int))) (by rintro _ ⟨⟩; omega)) (grown_set (g := w.heap.size) (k := 1) (.slice (some ⟨g, 0, none⟩) a a)) (by rintro _ ⟨⟩; omega)
          have hRf := (hR.grown (grown_set (w := wr) (g := w.heap.size) (k := 0) (.int .i64 (c : Int))) (by omega)).grown (grown_set (g := w.heap.size) (k := 1) (.slice (some ⟨g, 0, none⟩) a a)) (by omega)
          have hIf := (hI.far (p := ⟨w.heap.size, 0, none⟩) (show g ≠ w.heap.size by omega) (.int .i64 (c : Int))).far (p := ⟨w.heap.size, 1, none⟩) (show g ≠ w.heap.size by omega) (.slice (some ⟨g, 0, none⟩) a a)
          go_wp2
          refine bodyPost_ret (v := .agg #[.int .i64 c, .slice (some ⟨g, 0, none⟩) a a]) (by simp [results, Try.results60, go_sem, r0, r1]) rfl ?_
          exact ⟨a, c, g, _, _, rfl, ha1, ha2, hc1, hc2, by omega, hIf, hgr, hRf, by omega⟩
end Go.Proofs.Ytjogfeichnkffaa
