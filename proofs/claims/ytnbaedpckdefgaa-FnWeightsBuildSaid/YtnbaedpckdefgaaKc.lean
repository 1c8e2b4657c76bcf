
/- Plain facts and walks that the law's proof uses; each says its own conditions. -/
import Derived.Test.YtnbaedpckdefgaaKb
import Derived.Test.YtnbaedpckdefgaaKa
import Derived.RegionTactic
import Derived.Deep.RegionWith
import Derived.StillTailTactics
-- Walks: the program's weights.
namespace Go.Proofs.Ytnbaedpckdefgaa
open Go.RowKit
set_option maxRecDepth 100000

theorem wIn_all {p : List Int} (h : ∀ k, k < p.length → -99 ≤ p[k]?.getD 0 ∧ p[k]?.getD 0 ≤ 99) : p.all (fun x => decide (-99 ≤ x) && decide (x ≤ 99)) = true := by
  simp only [List.all_eq_true, Bool.and_eq_true, decide_eq_true_eq]
  intro x hx
  obtain ⟨i, hi, rfl⟩ := List.getElem_of_mem hx
  simpa [List.getElem?_eq_getElem hi] using h i hi
theorem wIn_no {p : List Int} {k : Nat} (hk : k < p.length) (h : ¬ (-99 ≤ p[k]?.getD 0 ∧ p[k]?.getD 0 ≤ 99)) : wIn p = false := by
  cases e : wIn p with
  | false => rfl
  | true => exact absurd (wIn_at e k hk) h
theorem wIn_eq {p : List Int} (h : ∀ k, k < p.length → -99 ≤ p[k]?.getD 0 ∧ p[k]?.getD 0 ≤ 99) : wIn p = (decide (1 ≤ p.length) && decide (p.length ≤ 6)) := by
  simp [wIn, wIn_all h]

set_option maxHeartbeats 400000 in
theorem weightsValid_c (A : Option Addr) (n c : Nat) (xs : List Int) (w : World) (hr : Rd w A n xs) (hn : n ≤ 1073741824) :
    Calls Try.prog 27 #[.slice A n c] w fun e w' => e = .returned (.bool (wIn xs)) ∧ w = w' := by
  have hxl := Lib.hid hr.1
  go_enter Try.func27, Try.ntmps27
  go_wp2
  go_loop [7] (fun i => ∃ k : Nat, k ≤ n ∧ i = .int .i64 k ∧ Hid (∀ j, j < k → -99 ≤ xs[j]?.getD 0 ∧ xs[j]?.getD 0 ≤ 99)) (fun i => n - (intOf i).toNat)
  case atStart => exact ⟨0, Nat.zero_le _, rfl, Lib.hid (fun j hj => absurd hj (by omega))⟩
  case round =>
    obtain ⟨k, hk, rfl, hall⟩ := hrel
    by_cases hlt : k < n
    · obtain ⟨b, off, rfl, hb, hc⟩ := hr.at_ hlt
      by_cases h1 : xs[k]?.getD 0 < -99
      · have H := Lib.hid (wIn_no (hxl.out ▸ hlt) (fun h => absurd h.1 (by omega)) : wIn xs = false)
        go_wp2
        go_ret
        exact ⟨ret_bool H.out.symm, rfl⟩
      · by_cases h2 : 99 < xs[k]?.getD 0
        · have H := Lib.hid (wIn_no (hxl.out ▸ hlt) (fun h => absurd h.2 (by omega)) : wIn xs = false)
          go_wp2
          go_ret
          exact ⟨ret_bool H.out.symm, rfl⟩
        · go_wp2
          go_round
          case rel => exact ⟨k + 1, by omega, by go_num, Lib.hid (fun j hj => by
            rcases Nat.lt_or_ge j k with h | h
            · exact hall.out j h
            · obtain rfl : j = k := by omega
              omega)⟩
          case measure => simp [intOf]; omega
    · have : k = n := by omega
      subst this
      have H := Lib.hid (wIn_eq (hxl.out ▸ hall.out))
      by_cases h1 : 1 ≤ k
      · by_cases h2 : k ≤ 6
        all_goals
          go_wp2
          go_ret
          exact ⟨ret_bool (by rw [H.out, hxl.out, Bool.eq_iff_iff]; simp; try omega), rfl⟩
      · go_wp2
        go_ret
        exact ⟨ret_bool (by rw [H.out, hxl.out, Bool.eq_iff_iff]; simp; try omega), rfl⟩

set_option maxHeartbeats 400000 in
theorem emptyImage_c (h m : Nat) (w : World) (hh : h ≤ 1073741824) :
    Calls Try.prog 28 #[.int .i64 h, .int .i64 m] w fun e w' => ∃ g, e = .returned (.agg #[.int .i64 m, .slice (some ⟨g, 0, none⟩) h h]) ∧ Below w.heap.size w w' ∧ Blk w' g 3 (ints (List.replicate h 0)) ∧ w.heap.size ≤ g ∧ g < w'.heap.size := by
  have hmk := make_row h hh
  go_enter Try.func28, Try.ntmps28
  go_wp2
  refine bodyPost_ret (v := .agg #[.int .i64 m, .slice (some ⟨w.heap.size + 1, 0, none⟩) h h]) (by simp [results, Try.results28, go_sem]) rfl ⟨_, rfl, ?_, ?_, by omega, by simp⟩
  · (repeat (first | exact Below.refl _ _ | assumption | refine lo_alloc ?_ _ | refine lo_set ?_ (by simp; try omega) _ | refine Below.drew ?_ | refine below_drewN ?_ _ | refine lo_trans ?_ (by assumption) | refine lo_wr ?_ (by assumption) (by omega)))
  · rw [← made_ints]
    exact heap_at2 _ _ _ _

set_option maxHeartbeats 400000 in
theorem flip_c (g n c i j r : Nat) (xs : List Int) (W : Int) (w : World) (hb : Blk w g 3 (ints xs)) (hi : i < n) (hx : i < xs.length) (hj : j < 6) (hr : r < 64) (hc : xs[i]?.getD 0 = (r : Int)) :
    Calls Try.prog 29 #[.agg #[.int .i64 W, .slice (some ⟨g, 0, none⟩) n c], .int .i64 i, .int .i64 j] w fun e w' => e = .returned (.tuple #[]) ∧ Blk w' g 3 (ints (xs.set i ((r ^^^ 2 ^ j : Nat) : Int))) ∧ w.grownBy w' (some g) := by
  have hcc := hb.icell hx
  have hff := hb.frozen i
  have hz := hb.lt
  have hp := pow_int (j := j) (by omega)
  have hp' := pow_le64 (j := j) (by omega)
  have hw : wrap64 (2 ^ j) = 2 ^ j := IntWalk.wrap64_in _ (by omega)
  have hX := Lib.hid (show bits .xor .i64 (r : Int) (2 ^ j) = ((r ^^^ 2 ^ j : Nat) : Int) from by
    rw [← i64_xor_nat r (2 ^ j) (by omega) (by omega)]; simp)
  rw [hc] at hcc
  have hs := Lib.hid (hb.iset i ((r ^^^ 2 ^ j : Nat) : Int))
  clear hc
  go_enter Try.func29, Try.ntmps29
  go_wp2
  go_region
  all_goals go_end0
  all_goals rw [hX.out]
  all_goals exact ⟨rfl, Blk.drew (Blk.alloc hs.out _), grown_trans (grown_trans (grown_set _) (grown_alloc _ _)) (grown_drew _)⟩

theorem wW_no {p q : List Int} (h : wOk p q = false) : wW p q = 0 ∧ wX p q = [] := by simp [wW, wX, h]
theorem wW_yes {p q : List Int} (h : wOk p q = true) : wW p q = q.length ∧ wX p q = img (wF p q) p.length q.length := by simp [wW, wX, h]

/-- what lies in memory while an image is filled: the result's cells, the image's, its rows -/
def WInv (w wr : World) (o g n m : Nat) (xs : List Int) : Prop :=
  Below w.heap.size w wr ∧ Blk wr w.heap.size 25 #[.int .i64 0, .slice none 0 0] ∧ Blk wr o 25 #[.int .i64 m, .slice (some ⟨g, 0, none⟩) n n] ∧ Blk wr g 3 (ints xs)
theorem WInv.step {w wr w3 : World} {o g n m : Nat} {xs ys : List Int} (h : WInv w wr o g n m xs) (h1 : w.heap.size < g) (h2 : g ≠ o) (hg : wr.grownBy w3 (some g)) (hb : Blk w3 g 3 (ints ys)) : WInv w w3 o g n m ys :=
  ⟨lo_grown h.1 hg (by rintro _ ⟨⟩; omega), h.2.1.grown hg (by intro e; injection e; omega), h.2.2.1.grown hg (by intro e; injection e; omega), hb⟩
theorem WInv.cells {w wr : World} {o g n m : Nat} {xs : List Int} (h : WInv w wr o g n m xs) :
    wr.cell? ⟨w.heap.size, 0, none⟩ = some (.int .i64 0) ∧ wr.cell? ⟨w.heap.size, 1, none⟩ = some (.slice none 0 0) ∧ wr.frozen? ⟨w.heap.size, 0, none⟩ = false ∧ wr.frozen? ⟨w.heap.size, 1, none⟩ = false ∧
    wr.cell? ⟨o, 0, none⟩ = some (.int .i64 m) ∧ wr.cell? ⟨o, 1, none⟩ = some (.slice (some ⟨g, 0, none⟩) n n) :=
  ⟨h.2.1.cell 0, h.2.1.cell 1, h.2.1.frozen 0, h.2.1.frozen 1, h.2.2.1.cell 0, h.2.2.1.cell 1⟩

set_option maxHeartbeats 1000000 in
theorem impl_WeightsImage_c (A B : Option Addr) (n c m d : Nat) (p q : List Int) (w : World) (hp : Rd w A n p) (hq : Rd w B m q) (hn : n ≤ 1073741824) (hm : m ≤ 1073741824) :
    Calls Try.prog 12 #[.slice A n c, .slice B m d] w fun e w' => ∃ R r k, e = .returned (.tuple #[.agg #[.int .i64 (wW p q), .slice R r k], .bool (wOk p q)]) ∧ Below w.heap.size w w' ∧ Own w' w.heap.size R r (wX p q) := by
  cases h1 : wIn p with
  | false =>
    have hW := Lib.hid (wW_no (p := p) (q := q) (by simp [wOk, h1])); have hO := Lib.hid (show wOk p q = false by simp [wOk, h1])
    go_enter Try.func12, Try.ntmps12
    go_wp2_with (go_at_call 27; refine (weightsValid_c _ _ _ p _ (hp.alloc _) (by omega)).mono ?_; rintro e w' ⟨rfl, rfl⟩)
    refine bodyPost_ret (v := .tuple #[.agg #[.int .i64 0, .slice none 0 0], .bool false]) (by simp [results, Try.results12, go_sem]) rfl ⟨none, 0, 0, by rw [hW.out.1, hO.out], ?_, by rw [hW.out.2]; exact Own.nil_ _ _ _⟩
    (repeat (first | exact Below.refl _ _ | assumption | refine lo_alloc ?_ _ | refine lo_set ?_ (by simp; try omega) _ | refine Below.drew ?_ | refine below_drewN ?_ _ | refine lo_trans ?_ (by assumption) | refine lo_wr ?_ (by assumption) (by omega)))
  | true =>
  cases h2 : wIn q with
  | false =>
    have hW := Lib.hid (wW_no (p := p) (q := q) (by simp [wOk, h2])); have hO := Lib.hid (show wOk p q = false by simp [wOk, h2])
    go_enter Try.func12, Try.ntmps12
    go_wp2_with fail
    refine (weightsValid_c _ _ _ p _ (hp.alloc _) (by omega)).mono ?_; rintro e w' ⟨rfl, rfl⟩
    go_wp2_with fail
    refine (weightsValid_c _ _ _ q _ (hq.alloc _) (by omega)).mono ?_; rintro e w' ⟨rfl, rfl⟩
    go_wp2
    refine bodyPost_ret (v := .tuple #[.agg #[.int .i64 0, .slice none 0 0], .bool false]) (by simp [results, Try.results12, go_sem]) rfl ⟨none, 0, 0, by rw [hW.out.1, hO.out], ?_, by rw [hW.out.2]; exact Own.nil_ _ _ _⟩
    (repeat (first | exact Below.refl _ _ | assumption | refine lo_alloc ?_ _ | refine lo_set ?_ (by simp; try omega) _ | refine Below.drew ?_ | refine below_drewN ?_ _ | refine lo_trans ?_ (by assumption) | refine lo_wr ?_ (by assumption) (by omega)))
  | true =>
    have hpl := wIn_len h1
    have hql := wIn_len h2
    rw [hp.1] at hpl
    rw [hq.1] at hql
    go_enter Try.func12, Try.ntmps12
    go_wp2_with fail
    refine (weightsValid_c _ _ _ p _ (hp.alloc _) (by omega)).mono ?_; rintro e w' ⟨rfl, rfl⟩
    go_wp2_with fail
    refine (weightsValid_c _ _ _ q _ (hq.alloc _) (by omega)).mono ?_; rintro e w' ⟨rfl, rfl⟩
    go_wp2_with fail
    refine (emptyImage_c n m _ (by omega)).mono ?_
    rintro e w1 ⟨g, rfl, hb1, hk1, hg1, hg2⟩
    obtain ⟨hc, hf⟩ := bcell hb1
    have h1' := Lib.hid h1; clear h1
    have h2' := Lib.hid h2; clear h2
    go_wp2
    obtain ⟨o, ho⟩ : ∃ o, o = w1.heap.size := ⟨_, rfl⟩
    rw [World.size_alloc] at hg1
    have hI0 : WInv w (w1.alloc (.cells #[.int .i64 m, .slice (some ⟨g, 0, none⟩) n n] 25)) o g n m (st (wF p q) n m 0 0) := by
      refine ⟨lo_alloc (lo_trans (lo_alloc (Below.refl _ _) _) hb1) _, (((Blk.new w _ _).next hb1).alloc _), by rw [ho]; exact Blk.new _ _ _, by rw [st_zero]; exact hk1.alloc _⟩
    rw [← ho]
    have hgo : g ≠ o := by omega
    have hg1' : w.heap.size < g := by omega
    clear hc hf hb1 hk1
    have ho' := Lib.hid ho; clear ho
    go_loopw [27] (fun i wr => ∃ a : Nat, a ≤ n ∧ i = .int .i64 a ∧ WInv w wr o g n m (st (wF p q) n m a 0) ∧ Hid (∀ i j, i < a → j < m → p[i]?.getD 0 + q[j]?.getD 0 ≠ 0)) (fun i _ => n - (intOf i).toNat)
    case atStart => exact ⟨0, Nat.zero_le _, rfl, hI0, Lib.hid (fun i j h => absurd h (by omega))⟩
    case round =>
      clear hI0
      obtain ⟨a, ha, rfl, hI, hnz⟩ := hrel
      obtain ⟨wo, rfl⟩ : ∃ wo : World, wo = wr := ⟨_, rfl⟩
      by_cases hlt : a < n
      · obtain ⟨b, off, rfl, hb, hcp⟩ := (hp.next hI.1).at_ hlt
        have hpb := wIn_at h1'.out a (by rw [hp.1]; omega)
        go_wp2
        go_loopw [34] (fun i wr => ∃ e : Nat, e ≤ m ∧ i = .int .i64 e ∧ WInv w wr o g n m (st (wF p q) n m a e) ∧ Hid (∀ j, j < e → p[a]?.getD 0 + q[j]?.getD 0 ≠ 0)) (fun i _ => m - (intOf i).toNat)
        case atStart => exact ⟨0, Nat.zero_le _, rfl, hI, Lib.hid (fun j h => absurd h (by omega))⟩
        case round =>
          clear hI hb hcp
          obtain ⟨e, he, rfl, hI, hnz2⟩ := hrel
          by_cases hlt2 : e < m
          · obtain ⟨b', off', rfl, hb, hcq⟩ := (hq.next hI.1).at_ hlt2
            have hqb := wIn_at h2'.out e (by rw [hq.1]; omega)
            obtain ⟨hc0, hc1, hf0, hf1, hc2, hc3⟩ := hI.cells
            by_cases hs : p[a]?.getD 0 + q[e]?.getD 0 = 0
            · have hO := Lib.hid (show wOk p q = false by simp [wOk, wSum_no (by rw [hp.1]; exact hlt) (by rw [hq.1]; exact hlt2) hs])
              have hW := Lib.hid (wW_no hO.out)
              have hs' : (p[a]?.getD 0 + q[e]?.getD 0 == 0) = true := beq_iff_eq.2 hs
              clear hs
              go_wp2
              refine bodyPost_ret (v := .tuple #[.agg #[.int .i64 0, .slice none 0 0], .bool false]) (by simp [results, Try.results12, go_sem, hc0, hc1]) rfl ⟨none, 0, 0, by rw [hW.out.1, hO.out], ?_, by rw [hW.out.2]; exact Own.nil_ _ _ _⟩
              have hB := hI.1
              (repeat (first | exact Below.refl _ _ | assumption | refine lo_alloc ?_ _ | refine lo_set ?_ (by simp; try omega) _ | refine Below.drew ?_ | refine below_drewN ?_ _ | refine lo_trans ?_ (by assumption) | refine lo_wr ?_ (by assumption) (by omega)))
            · have hs' : (p[a]?.getD 0 + q[e]?.getD 0 == 0) = false := beq_eq_false_iff_ne.2 hs
              have hN : Hid (∀ j, j < e + 1 → p[a]?.getD 0 + q[j]?.getD 0 ≠ 0) := Lib.hid (fun j hj => by
                rcases Nat.lt_or_ge j e with h | h
                · exact hnz2.out j h
                · obtain rfl : j = e := by omega
                  exact hs)
              by_cases hpos : 0 < p[a]?.getD 0 + q[e]?.getD 0
              · clear hs
                go_wp2_with fail
                refine (flip_c g n n a e (mkRow (wF p q a) e) (st (wF p q) n m a e) m _ hI.2.2.2 hlt (by rw [st_len]; exact hlt) (by omega) (mkRow_lt64 _ _ (by omega)) (st_get hlt)).mono ?_
                rintro _ w3 ⟨rfl, hk3, hg3⟩
                rw [mkRow_xor, ← mkRow_step_t (by simp only [wF, decide_eq_true_eq]; exact hpos), st_set] at hk3
                have hI3 := hI.step hg1' hgo hg3 hk3
                clear hk3 hg3 hI hc0 hc1 hf0 hf1 hc2 hc3
                go_wp2
                go_roundw
                case rel => exact ⟨e + 1, by omega, by go_num, hI3, hN⟩
                case measure => simp [intOf]; omega
              · have hI3 : WInv w wr o g n m (st (wF p q) n m a (e + 1)) := by
                  rw [st_same (by simp only [wF, decide_eq_false_iff_not]; exact hpos)]; exact hI
                clear hs
                go_wp2
                go_roundw
                case rel => exact ⟨e + 1, by omega, by go_num, hI3, hN⟩
                case measure => simp [intOf]; omega
          · obtain rfl : e = m := by omega
            have hN : Hid (∀ i j, i < a + 1 → j < e → p[i]?.getD 0 + q[j]?.getD 0 ≠ 0) := Lib.hid (fun i j hi hj => by
                rcases Nat.lt_or_ge i a with h | h
                · exact hnz.out i j h hj
                · obtain rfl : i = a := by omega
                  exact hnz2.out j hj)
            have hI3 : WInv w wr o g n e (st (wF p q) n e (a + 1) 0) := by
              rw [← st_next]; exact hI
            go_wp2
            go_roundw
            case rel => exact ⟨a + 1, by omega, by go_num, hI3, hN⟩
            case measure => simp [intOf]; omega
      · obtain rfl : a = n := by omega
        have hO := Lib.hid (show wOk p q = true by
          simp only [wOk, h1'.out, h2'.out, Bool.true_and]
          exact wSum_of (fun i j hi hj => hnz.out i j (by rw [← hp.1]; exact hi) (by rw [← hq.1]; exact hj)))
        have hW := Lib.hid (wW_yes hO.out)
        obtain ⟨hc0, hc1, hf0, hf1, hc2, hc3⟩ := hI.cells
        go_wp2
        refine bodyPost_ret (v := .tuple #[.agg #[.int .i64 m, .slice (some ⟨g, 0, none⟩) a a], .bool true]) (by simp [results, Try.results12, go_sem, hc0, hc1]) rfl ⟨some ⟨g, 0, none⟩, a, a, by rw [hW.out.1, hO.out, hq.1], ?_, ?_⟩
        · have hB := hI.1
          (repeat (first | exact Below.refl _ _ | assumption | refine lo_alloc ?_ _ | refine lo_set ?_ (by simp; try omega) _ | refine Below.drew ?_ | refine below_drewN ?_ _ | refine lo_trans ?_ (by assumption) | refine lo_wr ?_ (by assumption) (by omega)))
        · rw [hW.out.2, hp.1, hq.1, ← st_done]
          have hB := Own.of_blk (lo := g) hI.2.2.2 (Nat.le_refl _) (st_len _ _ _ _ _)
          refine Own.mono ?_ (by omega : w.heap.size ≤ g)
          (repeat (first | assumption | refine Own.alloc ?_ _ | refine Own.far_lo ?_ (by simp; try omega) _ | refine Own.drew ?_ | refine Own.next ?_ (by assumption)))
end Go.Proofs.Ytnbaedpckdefgaa

-- Walks: the reference's weights.
namespace Go.Proofs.Ytnbaedpckdefgaa
open Go.RowKit
set_option maxRecDepth 100000

theorem pow_step (k : Nat) : (2 : Int) ^ (k + 1) = 2 ^ k * 2 := by rw [Int.pow_succ]
theorem pow_bd {k : Nat} (h : k ≤ 61) : (1 : Int) ≤ 2 ^ k ∧ (2 : Int) ^ k ≤ 2305843009213693952 := by
  have h1 : 2 ^ k ≤ 2 ^ 61 := Nat.pow_le_pow_right (by omega) h
  have h2 : 0 < 2 ^ k := Nat.pow_pos (by omega)
  have e : ((2 ^ k : Nat) : Int) = (2 : Int) ^ k := by simp
  omega

set_option maxHeartbeats 400000 in
theorem l1Power_c (a : Int) (w : World) (h0 : 0 ≤ a) (h : a ≤ 60) :
    Calls Try.prog 38 #[.int .i64 a] w fun e w' => e = .returned (.int .i64 (2 ^ a.toNat)) ∧ w = w' := by
  obtain ⟨n, rfl⟩ := Int.eq_ofNat_of_zero_le h0
  rw [Int.toNat_natCast]
  go_enter Try.func38, Try.ntmps38
  go_wp2
  go_loop [3, 4] (fun o i => ∃ k : Nat, k ≤ n ∧ i = .int .i64 k ∧ o = .int .i64 (2 ^ k)) (fun _ i => n - (intOf i).toNat)
  case atStart => exact ⟨0, Nat.zero_le _, rfl, by simp⟩
  case round =>
    obtain ⟨k, hk, rfl, rfl⟩ := hrel
    by_cases hlt : k < n
    · have hp := pow_bd (k := k) (by omega)
      have hs := Lib.hid (pow_step k)
      go_wp2
      go_round
      case rel => exact ⟨k + 1, by omega, by go_num, by rw [hs.out]⟩
      case measure => simp [intOf]; omega
    · obtain rfl : k = n := by omega
      go_wp2
      go_ret
      exact ⟨rfl, rfl⟩

set_option maxHeartbeats 400000 in
theorem l1Bit_c (r j : Nat) (w : World) (hj : j ≤ 60) (hr : r < 9223372036854775807) :
    Calls Try.prog 52 #[.int .i64 r, .int .i64 j] w fun e w' => e = .returned (.int .i64 (r / 2 ^ j % 2 : Nat)) ∧ w = w' := by
  have hp := pow_bd (k := j) (by omega)
  have hd : (r : Int) / 2 ^ j = ((r / 2 ^ j : Nat) : Int) := by simp
  have hle : r / 2 ^ j ≤ r := Nat.div_le_self _ _
  generalize r / 2 ^ j = q at hd hle
  go_enter Try.func52, Try.ntmps52
  go_wp2_with (go_at_call 38; refine (l1Power_c _ _ (by omega) (by omega)).mono ?_; rintro e w' ⟨rfl, rfl⟩)
  go_ret
  exact ⟨ret_int (by simp), rfl⟩

set_option maxHeartbeats 400000 in
theorem l6In_c (n lo hi : Int) (w : World) :
    Calls Try.prog 41 #[.int .i64 n, .int .i64 lo, .int .i64 hi] w fun e w' => e = .returned (.bool (decide (lo ≤ n) && decide (n ≤ hi))) ∧ w = w' := by
  by_cases h : lo ≤ n
  all_goals
    go_enter Try.func41, Try.ntmps41
    go_wp2
    go_ret
    exact ⟨ret_bool (by rw [Bool.eq_iff_iff]; simp; try omega), rfl⟩

/-- a region that reads and calls quietly ahead of its last operations: the world behind the draw under its own name -/
theorem region_tail {P : Program} {id : Nat} {Q : Exit → Act → World → Prop} {a : Act} {w : World} {l : List Oper} (n : Nat) (hm : P.follows .mixedOrders = true) (hB : Region.lexTailB .any l.toArray n = true)
    (h : wpStill P l.toArray w.drew (fun a' => wpList P l.toArray Q (l.drop n) a' w.drew) (l.take n) a) : (Code.region id l.toArray true).wp P Q a w := wp_region_still_tail n hm hB h

/-- the row with its cell j set, or not -/
def put (r j : Nat) (b : Bool) : Nat := r - r / 2 ^ j % 2 * 2 ^ j + (if b then 2 ^ j else 0)
theorem bit_le (r j : Nat) : r / 2 ^ j % 2 * 2 ^ j ≤ r := by
  have h1 : r / 2 ^ j % 2 ≤ r / 2 ^ j := Nat.mod_le _ _
  calc r / 2 ^ j % 2 * 2 ^ j ≤ r / 2 ^ j * 2 ^ j := Nat.mul_le_mul_right _ h1
    _ ≤ r := Nat.div_mul_le_self _ _

theorem put_wrap (r j : Nat) (hr : r < 1073741824) : wrap64 ((r : Int) - wrap64 ((r : Int) / 2 ^ j % 2 * 2 ^ j)) = ((put r j false : Nat) : Int) := by
  have h1 := bit_le r j
  have e : (r : Int) / 2 ^ j % 2 * 2 ^ j = ((r / 2 ^ j % 2 * 2 ^ j : Nat) : Int) := by simp
  rw [e]
  generalize hq : r / 2 ^ j % 2 * 2 ^ j = q at h1 ⊢
  rw [IntWalk.wrap64_in (q : Int) (by omega), IntWalk.wrap64_in _ (by omega)]
  simp only [put, hq]
  simp; omega
theorem put_wrap2 (r j : Nat) (hj : j ≤ 30) (hr : r < 1073741824) : wrap64 ((r : Int) + 2 ^ j) = ((r + 2 ^ j : Nat) : Int) := by
  have h := pow_bd (k := j) (by omega)
  rw [IntWalk.wrap64_in _ (by omega)]
  simp
theorem put_true (r j : Nat) : put r j true = put r j false + 2 ^ j := by simp [put]
theorem put_le (r j : Nat) : put r j false ≤ r := by simp [put]

set_option maxHeartbeats 400000 in
theorem l1Put_c (g n c i j r : Nat) (b : Bool) (xs : List Int) (W : Int) (w : World) (hb : Blk w g 3 (ints xs)) (hi : i < n) (hx : i < xs.length) (hj : j ≤ 30) (hr : r < 1073741824) (hc : xs[i]?.getD 0 = (r : Int)) :
    Calls Try.prog 32 #[.agg #[.int .i64 W, .slice (some ⟨g, 0, none⟩) n c], .int .i64 i, .int .i64 j, .bool b] w fun e w' => e = .returned (.tuple #[]) ∧ Blk w' g 3 (ints (xs.set i ((put r j b : Nat) : Int))) ∧ w.grownBy w' (some g) := by
  have hcc := hb.icell hx
  have hff := hb.frozen i
  have hz := hb.lt
  rw [hc] at hcc
  have hp := pow_bd (k := j) (by omega)
  have hr1 := put_le r j
  have hr2 : put r j false < 1073741824 := by omega
  have hj2 : j ≤ 60 := by omega
  have hr3 : r < 9223372036854775807 := by omega
  have hj3 : (j : Int) ≤ 60 := by omega
  have hj4 : (0 : Int) ≤ j := by omega
  have hv := Lib.hid (put_wrap r j hr)
  have hpt := Lib.hid (put_true r j)
  obtain ⟨r1, hpf⟩ : ∃ r1, put r j false = r1 := ⟨_, rfl⟩
  rw [hpf] at hv hr1 hr2 hpt
  have hpf' := Lib.hid hpf; clear hpf
  cases b with
  | false =>
    have hs := Lib.hid (hb.iset i (r1 : Int))
    clear hc
    go_enter Try.func32, Try.ntmps32
    go_wp2_with fail
    refine region_tail 20 (by kernel_rfl) (by kernel_rfl) ?_
    simp only [List.take_succ_cons, List.take_zero, List.drop_succ_cons, List.drop_zero]
    repeat still_step
    still_call (still_of (l1Bit_c r j _ hj2 hr3))
    repeat still_step
    still_call (still_of (l1Power_c _ _ hj4 hj3))
    repeat still_step
    refine wpStill_nil ?_
    go_wp2_with fail
    rw [hv.out]
    go_end0
    rw [hpf'.out]
    exact ⟨rfl, Blk.drew (Blk.alloc hs.out _), grown_trans (grown_trans (grown_set _) (grown_alloc _ _)) (grown_drew _)⟩
  | true =>
    have hs := Lib.hid (hb.iset i (r1 : Int))
    have hv2 := Lib.hid (put_wrap2 r1 j hj hr2)
    clear hc
    go_enter Try.func32, Try.ntmps32
    go_wp2_with fail
    refine region_tail 20 (by kernel_rfl) (by kernel_rfl) ?_
    simp only [List.take_succ_cons, List.take_zero, List.drop_succ_cons, List.drop_zero]
    repeat still_step
    still_call (still_of (l1Bit_c r j _ hj2 hr3))
    repeat still_step
    still_call (still_of (l1Power_c _ _ hj4 hj3))
    repeat still_step
    refine wpStill_nil ?_
    go_wp2_with fail
    rw [hv.out]
    have hW := Blk.new (w.setCell ⟨g, i, none⟩ (.int .i64 (r1 : Int))) 25 #[.int .i64 W, .slice (some ⟨g, 0, none⟩) n c]
    have hG := Blk.drew (Blk.alloc hs.out (.cells #[.int .i64 W, .slice (some ⟨g, 0, none⟩) n c] 25))
    have hg : w.grownBy (((w.setCell ⟨g, i, none⟩ (.int .i64 (r1 : Int))).alloc (.cells #[.int .i64 W, .slice (some ⟨g, 0, none⟩) n c] 25))).drew (some g) := grown_trans (grown_trans (grown_set _) (grown_alloc _ _)) (grown_drew _)
    rw [size_setCell] at hW
    generalize ((w.setCell ⟨g, i, none⟩ (.int .i64 (r1 : Int))).alloc (.cells #[.int .i64 W, .slice (some ⟨g, 0, none⟩) n c] 25)) = w2 at hW hG hg ⊢
    have hW1 := hW.drew.cell 1
    have hG1 := hG.icell (k := i) (by simpa using hx)
    have hG2 := hG.frozen i
    have hG3 := Lib.hid (hG.iset i ((r1 + 2 ^ j : Nat) : Int))
    rw [List.set_set, ← hpt.out] at hG3
    simp only [List.getElem?_set_self hx, Option.getD_some] at hG1
    clear hcc hff hs
    generalize w2.drew = w3 at hW1 hG1 hG2 hG3 hg ⊢
    have hv2 := hv2.out
    refine region_tail 12 (by kernel_rfl) (by kernel_rfl) ?_
    simp only [List.take_succ_cons, List.take_zero, List.drop_succ_cons, List.drop_zero]
    repeat still_step
    still_call (still_of (l1Power_c _ _ hj4 hj3))
    repeat still_step
    refine wpStill_nil ?_
    go_wp2_with fail
    go_end0
    rw [show (r1 : Int) + 2 ^ j = ((put r j true : Nat) : Int) from by rw [hpt.out]; simp]
    exact ⟨rfl, Blk.drew hG3.out, grown_trans (grown_trans hg (grown_set _)) (grown_drew _)⟩
end Go.Proofs.Ytnbaedpckdefgaa

-- Walks: the reference's weights, its image.
namespace Go.Proofs.Ytnbaedpckdefgaa
open Go.RowKit
set_option maxRecDepth 100000

set_option maxHeartbeats 400000 in
theorem l2Each_c (A : Option Addr) (n c : Nat) (lo hi : Int) (xs : List Int) (w : World) (hr : Rd w A n xs) (hn : n ≤ 1073741824) :
    Calls Try.prog 51 #[.slice A n c, .int .i64 lo, .int .i64 hi] w fun e w' => e = .returned (.bool (allIn lo hi xs)) ∧ w = w' := by
  have hxl := Lib.hid hr.1
  go_enter Try.func51, Try.ntmps51
  go_wp2
  go_loop [7] (fun i => ∃ k : Nat, k ≤ n ∧ i = .int .i64 k ∧ Hid (∀ j, j < k → lo ≤ xs[j]?.getD 0 ∧ xs[j]?.getD 0 ≤ hi)) (fun i => n - (intOf i).toNat)
  case atStart => exact ⟨0, Nat.zero_le _, rfl, Lib.hid (fun j hj => absurd hj (by omega))⟩
  case round =>
    obtain ⟨k, hk, rfl, hall⟩ := hrel
    by_cases hlt : k < n
    · obtain ⟨b, off, rfl, hb, hc⟩ := hr.at_ hlt
      by_cases h1 : lo ≤ xs[k]?.getD 0 ∧ xs[k]?.getD 0 ≤ hi
      · obtain ⟨h1, h2⟩ := h1
        go_wp2_with (go_at_call 41; refine (l6In_c _ _ _ _).mono ?_; rintro e w' ⟨rfl, rfl⟩)
        go_round
        case rel => exact ⟨k + 1, by omega, by go_num, Lib.hid (fun j hj => by
          rcases Nat.lt_or_ge j k with h | h
          · exact hall.out j h
          · obtain rfl : j = k := by omega
            omega)⟩
        case measure => simp [intOf]; omega
      · have H := Lib.hid (allIn_no (hxl.out ▸ hlt) h1)
        have h1' : (decide (lo ≤ xs[k]?.getD 0) && decide (xs[k]?.getD 0 ≤ hi)) = false := by
          rw [Bool.eq_false_iff]; simpa using h1
        clear h1
        go_wp2_with (go_at_call 41; refine (l6In_c _ _ _ _).mono ?_; rw [h1']; rintro e w' ⟨rfl, rfl⟩)
        go_ret
        exact ⟨ret_bool H.out.symm, rfl⟩
    · obtain rfl : k = n := by omega
      have H := Lib.hid (allIn_of (hxl.out ▸ hall.out))
      go_wp2
      go_ret
      exact ⟨ret_bool H.out.symm, rfl⟩

set_option maxHeartbeats 400000 in
theorem l1Blank_c (h m : Nat) (w : World) (hh : h ≤ 1073741824) :
    Calls Try.prog 31 #[.int .i64 h, .int .i64 m] w fun e w' => ∃ g, e = .returned (.agg #[.int .i64 m, .slice (some ⟨g, 0, none⟩) h h]) ∧ Below w.heap.size w w' ∧ Blk w' g 3 (ints (List.replicate h 0)) ∧ w.heap.size ≤ g ∧ g < w'.heap.size := by
  have hmk := make_row h hh
  go_enter Try.func31, Try.ntmps31
  go_wp2
  refine bodyPost_ret (v := .agg #[.int .i64 m, .slice (some ⟨w.heap.size + 1, 0, none⟩) h h]) (by simp [results, Try.results31, go_sem]) rfl ⟨_, rfl, ?_, ?_, by omega, by simp⟩
  · (repeat (first | exact Below.refl _ _ | assumption | refine lo_alloc ?_ _ | refine lo_set ?_ (by simp; try omega) _ | refine Below.drew ?_ | refine below_drewN ?_ _ | refine lo_trans ?_ (by assumption) | refine lo_wr ?_ (by assumption) (by omega)))
  · rw [← made_ints]
    exact heap_at2 _ _ _ _

set_option maxHeartbeats 400000 in
theorem l44Ok_len (A B : Option Addr) (n c m d : Nat) (p q : List Int) (w : World) (hp : Rd w A n p) (hq : Rd w B m q) (hn : n ≤ 1073741824) (hm : m ≤ 1073741824)
    (h : ¬ (1 ≤ p.length ∧ p.length ≤ 6 ∧ 1 ≤ q.length ∧ q.length ≤ 6)) :
    Calls Try.prog 30 #[.slice A n c, .slice B m d] w fun e w' => e = .returned (.bool (wOk p q)) ∧ Below w.heap.size w w' := by
  have hW := Lib.hid (wOk_len h)
  rw [hp.1, hq.1] at h
  by_cases h1 : (decide ((1 : Int) ≤ n) && decide ((n : Int) ≤ 6)) = true
  · have h2 : (decide ((1 : Int) ≤ m) && decide ((m : Int) ≤ 6)) = false := by
      rw [Bool.eq_false_iff]
      simp at h1 ⊢; omega
    clear h
    go_enter Try.func30, Try.ntmps30
    go_wp2_with fail
    refine (l6In_c _ _ _ _).mono ?_; rw [h1]; rintro e w' ⟨rfl, rfl⟩
    go_wp2_with fail
    refine (l6In_c _ _ _ _).mono ?_; rw [h2]; rintro e w' ⟨rfl, rfl⟩
    go_wp2
    go_ret
    exact ⟨ret_bool hW.out.symm, Below.refl _ _⟩
  · have h1 : (decide ((1 : Int) ≤ n) && decide ((n : Int) ≤ 6)) = false := by
      rw [Bool.eq_false_iff]; exact h1
    clear h
    go_enter Try.func30, Try.ntmps30
    go_wp2_with fail
    refine (l6In_c _ _ _ _).mono ?_; rw [h1]; rintro e w' ⟨rfl, rfl⟩
    go_wp2
    go_ret
    exact ⟨ret_bool hW.out.symm, Below.refl _ _⟩

set_option maxHeartbeats 1000000 in
theorem l44Ok_c (A B : Option Addr) (n c m d : Nat) (p q : List Int) (w : World) (hp : Rd w A n p) (hq : Rd w B m q) (hn : n ≤ 1073741824) (hm : m ≤ 1073741824) :
    Calls Try.prog 30 #[.slice A n c, .slice B m d] w fun e w' => e = .returned (.bool (wOk p q)) ∧ Below w.heap.size w w' := by
  by_cases h : 1 ≤ p.length ∧ p.length ≤ 6 ∧ 1 ≤ q.length ∧ q.length ≤ 6
  case neg => exact l44Ok_len A B n c m d p q w hp hq hn hm h
  have hY := Lib.hid (fun h1 h2 => wOk_yes h h1 h2)
  rw [hp.1, hq.1] at h
  obtain ⟨hn1, hn2, hm1, hm2⟩ := h
  have gn : (decide ((1 : Int) ≤ n) && decide ((n : Int) ≤ 6)) = true := by simp; omega
  have gm : (decide ((1 : Int) ≤ m) && decide ((m : Int) ≤ 6)) = true := by simp; omega
  cases h1 : allIn (-99) 99 p with
  | false =>
    have hW := Lib.hid (wOk_all (p := p) (q := q) (.inl h1))
    go_enter Try.func30, Try.ntmps30
    go_wp2_with fail
    refine (l6In_c _ _ _ _).mono ?_; rw [gn]; rintro e w' ⟨rfl, rfl⟩
    go_wp2_with fail
    refine (l6In_c _ _ _ _).mono ?_; rw [gm]; rintro e w' ⟨rfl, rfl⟩
    go_wp2_with fail
    refine (l2Each_c _ _ _ _ _ p _ hp (by omega)).mono ?_; rw [h1]; rintro e w' ⟨rfl, rfl⟩
    go_wp2
    go_ret
    exact ⟨ret_bool hW.out.symm, Below.refl _ _⟩
  | true =>
  cases h2 : allIn (-99) 99 q with
  | false =>
    have hW := Lib.hid (wOk_all (p := p) (q := q) (.inr h2))
    go_enter Try.func30, Try.ntmps30
    go_wp2_with fail
    refine (l6In_c _ _ _ _).mono ?_; rw [gn]; rintro e w' ⟨rfl, rfl⟩
    go_wp2_with fail
    refine (l6In_c _ _ _ _).mono ?_; rw [gm]; rintro e w' ⟨rfl, rfl⟩
    go_wp2_with fail
    refine (l2Each_c _ _ _ _ _ p _ hp (by omega)).mono ?_; rw [h1]; rintro e w' ⟨rfl, rfl⟩
    go_wp2_with fail
    refine (l2Each_c _ _ _ _ _ q _ hq (by omega)).mono ?_; rw [h2]; rintro e w' ⟨rfl, rfl⟩
    go_wp2
    go_ret
    exact ⟨ret_bool hW.out.symm, Below.refl _ _⟩
  | true =>
    have hY2 := Lib.hid (hY.out h1 h2)
    have h1' := Lib.hid h1
    have h2' := Lib.hid h2
    go_enter Try.func30, Try.ntmps30
    go_wp2_with fail
    refine (l6In_c _ _ _ _).mono ?_; rw [gn]; rintro e w' ⟨rfl, rfl⟩
    go_wp2_with fail
    refine (l6In_c _ _ _ _).mono ?_; rw [gm]; rintro e w' ⟨rfl, rfl⟩
    go_wp2_with fail
    refine (l2Each_c _ _ _ _ _ p _ hp (by omega)).mono ?_; rw [h1]; rintro e w' ⟨rfl, rfl⟩
    go_wp2_with fail
    refine (l2Each_c _ _ _ _ _ q _ hq (by omega)).mono ?_; rw [h2]; rintro e w' ⟨rfl, rfl⟩
    clear h1 h2 gn gm
    go_wp2
    go_loopw [5] (fun i wr => ∃ a : Nat, a ≤ n ∧ i = .int .i64 a ∧ Below w.heap.size w wr ∧ Hid (∀ i j, i < a → j < m → p[i]?.getD 0 + q[j]?.getD 0 ≠ 0)) (fun i _ => n - (intOf i).toNat)
    case atStart => exact ⟨0, Nat.zero_le _, rfl, Below.refl _ _, Lib.hid (fun i j h => absurd h (by omega))⟩
    case round =>
      obtain ⟨a, ha, rfl, hB, hnz⟩ := hrel
      obtain ⟨wo, rfl⟩ : ∃ wo : World, wo = wr := ⟨_, rfl⟩
      by_cases hlt : a < n
      · have hpb := allIn_at h1'.out a (by rw [hp.1]; omega)
        go_wp2
        go_loopw [6] (fun i wr => ∃ e : Nat, e ≤ m ∧ i = .int .i64 e ∧ Below w.heap.size w wr ∧ Hid (∀ j, j < e → p[a]?.getD 0 + q[j]?.getD 0 ≠ 0)) (fun i _ => m - (intOf i).toNat)
        case atStart => exact ⟨0, Nat.zero_le _, rfl, hB, Lib.hid (fun j h => absurd h (by omega))⟩
        case round =>
          clear hB
          obtain ⟨e, he, rfl, hB, hnz2⟩ := hrel
          by_cases hlt2 : e < m
          · obtain ⟨b, off, rfl, hb, hcp⟩ := (hp.next hB).at_ hlt
            obtain ⟨b', off', rfl, hb', hcq⟩ := (hq.next hB).at_ hlt2
            have hqb := allIn_at h2'.out e (by rw [hq.1]; omega)
            by_cases hs : p[a]?.getD 0 + q[e]?.getD 0 = 0
            · have hO := Lib.hid (wSum_no (by rw [hp.1]; exact hlt) (by rw [hq.1]; exact hlt2) hs)
              have hs' : (p[a]?.getD 0 + q[e]?.getD 0 == 0) = true := beq_iff_eq.2 hs
              clear hs
              go_wp2
              go_quiet (fail)
              go_wp2
              go_ret
              exact ⟨ret_bool (by rw [hY2.out, hO.out]), below_drewN hB _⟩
            · have hs' : (p[a]?.getD 0 + q[e]?.getD 0 == 0) = false := beq_eq_false_iff_ne.2 hs
              have hN : Hid (∀ j, j < e + 1 → p[a]?.getD 0 + q[j]?.getD 0 ≠ 0) := Lib.hid (fun j hj => by
                rcases Nat.lt_or_ge j e with h | h
                · exact hnz2.out j h
                · obtain rfl : j = e := by omega
                  exact hs)
              clear hs
              go_wp2
              go_quiet (fail)
              go_wp2
              go_roundw
              case rel => exact ⟨e + 1, by omega, by go_num, below_drewN hB _, hN⟩
              case measure => simp [intOf]; omega
          · obtain rfl : e = m := by omega
            have hN : Hid (∀ i j, i < a + 1 → j < e → p[i]?.getD 0 + q[j]?.getD 0 ≠ 0) := Lib.hid (fun i j hi hj => by
                rcases Nat.lt_or_ge i a with h | h
                · exact hnz.out i j h hj
                · obtain rfl : i = a := by omega
                  exact hnz2.out j hj)
            go_wp2
            go_roundw
            case rel => exact ⟨a + 1, by omega, by go_num, hB, hN⟩
            case measure => simp [intOf]; omega
      · obtain rfl : a = n := by omega
        have hO := Lib.hid (wSum_of (p := p) (q := q) (fun i j hi hj => hnz.out i j (by rw [← hp.1]; exact hi) (by rw [← hq.1]; exact hj)))
        go_wp2
        go_ret
        exact ⟨ret_bool (by rw [hY2.out, hO.out]), hB⟩

theorem put_mk (f : Nat → Bool) (j : Nat) (b : Bool) (h : f j = b) : put (mkRow f j) j b = mkRow f (j + 1) := by
  simp only [put, mkRow_div, mkRow, h]
  cases b <;> simp

set_option maxHeartbeats 1000000 in
theorem spec_WeightsImage_c (A B : Option Addr) (n c m d : Nat) (p q : List Int) (w : World) (hp : Rd w A n p) (hq : Rd w B m q) (hn : n ≤ 1073741824) (hm : m ≤ 1073741824) :
    Calls Try.prog 13 #[.slice A n c, .slice B m d] w fun e w' => ∃ R r k, e = .returned (.tuple #[.agg #[.int .i64 (wW p q), .slice R r k], .bool (wOk p q)]) ∧ Below w.heap.size w w' ∧ Own w' w.heap.size R r (wX p q) := by
  cases h0 : wOk p q with
  | false =>
    have hW := Lib.hid (wW_no h0)
    go_enter Try.func13, Try.ntmps13
    go_wp2_with fail
    refine (l44Ok_c _ _ _ _ _ _ p q _ (hp.alloc _) (hq.alloc _) (by omega) (by omega)).mono ?_
    rw [h0]
    rintro e w1 ⟨rfl, hb1⟩
    obtain ⟨hc, hf⟩ := bcell hb1
    go_wp2
    refine bodyPost_ret (v := .tuple #[.agg #[.int .i64 0, .slice none 0 0], .bool false]) (by simp [results, Try.results13, go_sem, hc]) rfl ⟨none, 0, 0, by rw [hW.out.1], ?_, by rw [hW.out.2]; exact Own.nil_ _ _ _⟩
    (repeat (first | exact Below.refl _ _ | assumption | refine lo_alloc ?_ _ | refine lo_set ?_ (by simp; try omega) _ | refine Below.drew ?_ | refine below_drewN ?_ _ | refine lo_trans ?_ (by assumption) | refine lo_wr ?_ (by assumption) (by omega)))
  | true =>
    have hO := Lib.hid h0
    have hW := Lib.hid (wW_yes h0)
    have h1' : Hid (wIn p = true) := Lib.hid (by simp only [wOk, Bool.and_eq_true] at h0; exact h0.1.1)
    have h2' : Hid (wIn q = true) := Lib.hid (by simp only [wOk, Bool.and_eq_true] at h0; exact h0.1.2)
    have hpl := wIn_len h1'.out
    have hql := wIn_len h2'.out
    rw [hp.1] at hpl
    rw [hq.1] at hql
    go_enter Try.func13, Try.ntmps13
    go_wp2_with fail
    refine (l44Ok_c _ _ _ _ _ _ p q _ (hp.alloc _) (hq.alloc _) (by omega) (by omega)).mono ?_
    rw [h0]
    rintro e wa ⟨rfl, hba⟩
    clear h0
    go_wp2_with fail
    refine (l1Blank_c n m _ (by omega)).mono ?_
    rintro e w1 ⟨g, rfl, hb1, hk1, hg1, hg2⟩
    go_wp2
    obtain ⟨o, ho⟩ : ∃ o, o = w1.heap.size := ⟨_, rfl⟩
    have hza : w.heap.size < wa.heap.size := by have := hba.size; rw [World.size_alloc] at this; omega
    have hI0 : WInv w (w1.alloc (.cells #[.int .i64 m, .slice (some ⟨g, 0, none⟩) n n] 25)) o g n m (st (wF p q) n m 0 0) := by
      refine ⟨lo_alloc (lo_trans (lo_trans (lo_alloc (Below.refl _ _) _) hba) hb1) _, ((((Blk.new w _ _).next hba).next hb1).alloc _), by rw [ho]; exact Blk.new _ _ _, by rw [st_zero]; exact hk1.alloc _⟩
    rw [← ho]
    have hgo : g ≠ o := by omega
    have hg1' : w.heap.size < g := by omega
    clear hb1 hk1 hba
    have ho' := Lib.hid ho; clear ho
    go_loopw [7] (fun i wr => ∃ a : Nat, a ≤ n ∧ i = .int .i64 a ∧ WInv w wr o g n m (st (wF p q) n m a 0)) (fun i _ => n - (intOf i).toNat)
    case atStart => exact ⟨0, Nat.zero_le _, rfl, hI0⟩
    case round =>
      clear hI0
      obtain ⟨a, ha, rfl, hI⟩ := hrel
      obtain ⟨wo, rfl⟩ : ∃ wo : World, wo = wr := ⟨_, rfl⟩
      by_cases hlt : a < n
      · have hpb := wIn_at h1'.out a (by rw [hp.1]; omega)
        go_wp2
        go_loopw [8] (fun i wr => ∃ e : Nat, e ≤ m ∧ i = .int .i64 e ∧ WInv w wr o g n m (st (wF p q) n m a e)) (fun i _ => m - (intOf i).toNat)
        case atStart => exact ⟨0, Nat.zero_le _, rfl, hI⟩
        case round =>
          clear hI
          obtain ⟨e, he, rfl, hI⟩ := hrel
          by_cases hlt2 : e < m
          · obtain ⟨b, off, rfl, hb, hcp⟩ := (hp.next hI.1).at_ hlt
            obtain ⟨b', off', rfl, hb', hcq⟩ := (hq.next hI.1).at_ hlt2
            have hqb := wIn_at h2'.out e (by rw [hq.1]; omega)
            obtain ⟨hc0, hc1, hf0, hf1, hc2, hc3⟩ := hI.cells
            go_wp2
            refine region_tail 13 (by kernel_rfl) (by kernel_rfl) ?_
            simp only [List.take_succ_cons, List.take_zero, List.drop_succ_cons, List.drop_zero]
            repeat still_step
            refine wpStill_nil ?_
            go_wp2_with fail
            refine (l1Put_c g n n a e (mkRow (wF p q a) e) (wF p q a e) (st (wF p q) n m a e) m _ hI.2.2.2.drew hlt (by rw [st_len]; exact hlt) (by omega) (by have := mkRow_lt64 (wF p q a) e (by omega); omega) (st_get hlt)).mono ?_
            rintro _ w3 ⟨rfl, hk3, hg3⟩
            rw [put_mk _ _ _ rfl, st_set] at hk3
            have hI3 := hI.step hg1' hgo (grown_trans (grown_drew _) hg3) hk3
            clear hk3 hg3 hI hc0 hc1 hf0 hf1 hc2 hc3
            go_wp2
            go_roundw
            case rel => exact ⟨e + 1, by omega, by go_num, hI3⟩
            case measure => simp [intOf]; omega
          · obtain rfl : e = m := by omega
            have hI3 : WInv w wr o g n e (st (wF p q) n e (a + 1) 0) := by
              rw [← st_next]; exact hI
            go_wp2
            go_roundw
            case rel => exact ⟨a + 1, by omega, by go_num, hI3⟩
            case measure => simp [intOf]; omega
      · obtain rfl : a = n := by omega
        obtain ⟨hc0, hc1, hf0, hf1, hc2, hc3⟩ := hI.cells
        go_wp2
        refine bodyPost_ret (v := .tuple #[.agg #[.int .i64 m, .slice (some ⟨g, 0, none⟩) a a], .bool true]) (by simp [results, Try.results13, go_sem, hc0, hc1]) rfl ⟨some ⟨g, 0, none⟩, a, a, by rw [hW.out.1, hq.1], ?_, ?_⟩
        · have hB := hI.1
          (repeat (first | exact Below.refl _ _ | assumption | refine lo_alloc ?_ _ | refine lo_set ?_ (by simp; try omega) _ | refine Below.drew ?_ | refine below_drewN ?_ _ | refine lo_trans ?_ (by assumption) | refine lo_wr ?_ (by assumption) (by omega)))
        · rw [hW.out.2, hp.1, hq.1, ← st_done]
          have hB := Own.of_blk (lo := g) hI.2.2.2 (Nat.le_refl _) (st_len _ _ _ _ _)
          refine Own.mono ?_ (by omega : w.heap.size ≤ g)
          (repeat (first | assumption | refine Own.alloc ?_ _ | refine Own.far_lo ?_ (by simp; try omega) _ | refine Own.drew ?_ | refine Own.next ?_ (by assumption)))
theorem l6In_t {n lo hi : Int} (w : World) (h : lo ≤ n ∧ n ≤ hi) :
    Calls Try.prog 41 #[.int .i64 n, .int .i64 lo, .int .i64 hi] w fun e w' => e = .returned (.bool true) ∧ w = w' :=
  (l6In_c n lo hi w).mono fun _ _ ⟨h1, h2⟩ => ⟨by rw [h1]; simp [h.1, h.2], h2⟩
theorem l6In_f {n lo hi : Int} (w : World) (h : n < lo ∨ hi < n) :
    Calls Try.prog 41 #[.int .i64 n, .int .i64 lo, .int .i64 hi] w fun e w' => e = .returned (.bool false) ∧ w = w' :=
  (l6In_c n lo hi w).mono fun _ _ ⟨h1, h2⟩ => ⟨by rw [h1]; exact ret_bool (by rw [Bool.and_eq_false_iff]; simp; omega), h2⟩

end Go.Proofs.Ytnbaedpckdefgaa
