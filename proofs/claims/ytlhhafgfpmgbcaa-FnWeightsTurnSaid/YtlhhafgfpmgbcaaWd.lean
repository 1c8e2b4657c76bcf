/- Walks: the reference's weights, its image. -/
import Derived.Test.YtlhhafgfpmgbcaaWc
namespace Go.Proofs.Ytlhhafgfpmgbcaa
open Go.RowKit

set_option maxHeartbeats 400000 in
theorem l2Each_c (A : Option Addr) (n c : Nat) (lo hi : Int) (xs : List Int) (w : World) (hr : Rd w A n xs) (hn : n ≤ 1073741824) :
    Calls Try.prog 53 #[.slice A n c, .int .i64 lo, .int .i64 hi] w fun e w' => e = .returned (.bool (allIn lo hi xs)) ∧ w = w' := by
  have hxl := Lib.hid hr.1
  go_enter Try.func53, Try.ntmps53
  go_wp2
  go_loop [7] (fun i => ∃ k : Nat, k ≤ n ∧ i = .int .i64 k ∧ Hid (∀ j, j < k → lo ≤ xs[j]?.getD 0 ∧ xs[j]?.getD 0 ≤ hi)) (fun i => n - (intOf i).toNat)
  case atStart => exact ⟨0, Nat.zero_le _, rfl, Lib.hid (fun j hj => absurd hj (by omega))⟩
  case round =>
    obtain ⟨k, hk, rfl, hall⟩ := hrel
    by_cases hlt : k < n
    · obtain ⟨b, off, rfl, hb, hc⟩ := hr.at_ hlt
      by_cases h1 : lo ≤ xs[k]?.getD 0 ∧ xs[k]?.getD 0 ≤ hi
      · obtain ⟨h1, h2⟩ := h1
        go_wp2_with (go_at_call 52; refine (l6In_c _ _ _ _).mono ?_; rintro e w' ⟨rfl, rfl⟩)
        go_round
        case rel => exact ⟨k + 1, by omega, by go_num, Lib.hid (fun j hj => by
          rcases Nat.lt_or_ge j k with h | h
          · exact hall.out j h
          · obtain rfl : j = k := by omega
            omega)⟩
        case measure => simp [intOf]; omega
      · have H := Lib.hid (allIn_no (hxl.out ▸ hlt) h1)
        have h1' : (decide (lo ≤ xs[k]?.getD 0) && decide (xs[k]?.getD 0 ≤ hi)) = false := by
          rw [Bool.eq_false_iff]; simpa using h1
        clear h1
        go_wp2_with (go_at_call 52; refine (l6In_c _ _ _ _).mono ?_; rw [h1']; rintro e w' ⟨rfl, rfl⟩)
        go_ret
        exact ⟨ret_bool H.out.symm, rfl⟩
    · obtain rfl : k = n := by omega
      have H := Lib.hid (allIn_of (hxl.out ▸ hall.out))
      go_wp2
      go_ret
      exact ⟨ret_bool H.out.symm, rfl⟩

set_option maxHeartbeats 400000 in
theorem l1Blank_c (h m : Nat) (w : World) (hh : h ≤ 1073741824) :
    Calls Try.prog 32 #[.int .i64 h, .int .i64 m] w fun e w' => ∃ g, e = .returned (.agg #[.int .i64 m, .slice (some ⟨g, 0, none⟩) h h]) ∧ Below w.heap.size w w' ∧ Blk w' g 3 (ints (List.replicate h 0)) ∧ w.heap.size ≤ g ∧ g < w'.heap.size := by
  have hmk := make_row h hh
  go_enter Try.func32, Try.ntmps32
  go_wp2
  refine bodyPost_ret (v := .agg #[.int .i64 m, .slice (some ⟨w.heap.size + 1, 0, none⟩) h h]) (by simp [results, Try.results32, go_sem]) rfl ⟨_, rfl, ?_, ?_, by omega, by simp⟩
  · (repeat (first | exact Below.refl _ _ | assumption | refine lo_alloc ?_ _ | refine lo_set ?_ (by simp; try omega) _ | refine Below.drew ?_ | refine below_drewN ?_ _ | refine lo_trans ?_ (by assumption) | refine lo_wr ?_ (by assumption) (by omega)))
  · rw [← made_ints]
    exact heap_at2 _ _ _ _

set_option maxHeartbeats 400000 in
theorem l44Ok_len (A B : Option Addr) (n c m d : Nat) (p q : List Int) (w : World) (hp : Rd w A n p) (hq : Rd w B m q) (hn : n ≤ 1073741824) (hm : m ≤ 1073741824)
    (h : ¬ (1 ≤ p.length ∧ p.length ≤ 6 ∧ 1 ≤ q.length ∧ q.length ≤ 6)) :
    Calls Try.prog 31 #[.slice A n c, .slice B m d] w fun e w' => e = .returned (.bool (wOk p q)) ∧ Below w.heap.size w w' := by
  have hW := Lib.hid (wOk_len h)
  rw [hp.1, hq.1] at h
  by_cases h1 : (decide ((1 : Int) ≤ n) && decide ((n : Int) ≤ 6)) = true
  · have h2 : (decide ((1 : Int) ≤ m) && decide ((m : Int) ≤ 6)) = false := by
      rw [Bool.eq_false_iff]
      simp at h1 ⊢; omega
    clear h
    go_enter Try.func31, Try.ntmps31
    go_wp2_with fail
    refine (l6In_c _ _ _ _).mono ?_; rw [h1]; rintro e w' ⟨rfl, rfl⟩
    go_wp2_with fail
    refine (l6In_c _ _ _ _).mono ?_; rw [h2]; rintro e w' ⟨rfl, rfl⟩
    go_wp2
    go_ret
    exact ⟨ret_bool hW.out.symm, Below.refl _ _⟩
  · have h1 : (decide ((1 : Int) ≤ n) && decide ((n : Int) ≤ 6)) = false := by
      rw [Bool.eq_false_iff]; exact h1
    clear h
    go_enter Try.func31, Try.ntmps31
    go_wp2_with fail
    refine (l6In_c _ _ _ _).mono ?_; rw [h1]; rintro e w' ⟨rfl, rfl⟩
    go_wp2
    go_ret
    exact ⟨ret_bool hW.out.symm, Below.refl _ _⟩

set_option maxHeartbeats 1000000 in
theorem l44Ok_c (A B : Option Addr) (n c m d : Nat) (p q : List Int) (w : World) (hp : Rd w A n p) (hq : Rd w B m q) (hn : n ≤ 1073741824) (hm : m ≤ 1073741824) :
    Calls Try.prog 31 #[.slice A n c, .slice B m d] w fun e w' => e = .returned (.bool (wOk p q)) ∧ Below w.heap.size w w' := by
  by_cases h : 1 ≤ p.length ∧ p.length ≤ 6 ∧ 1 ≤ q.length ∧ q.length ≤ 6
  case neg => exact l44Ok_len A B n c m d p q w hp hq hn hm h
  have hY := Lib.hid (fun h1 h2 => wOk_yes h h1 h2)
  rw [hp.1, hq.1] at h
  obtain ⟨hn1, hn2, hm1, hm2⟩ := h
  have gn : (decide ((1 : Int) ≤ n) && decide ((n : Int) ≤ 6)) = true := by simp; omega
  have gm : (decide ((1 : Int) ≤ m) && decide ((m : Int) ≤ 6)) = true := by simp; omega
  cases h1 : allIn (-99) 99 p with
  | false =>
    have hW := Lib.hid (wOk_all (p := p) (q := q) (.inl h1))
    go_enter Try.func31, Try.ntmps31
    go_wp2_with fail
    refine (l6In_c _ _ _ _).mono ?_; rw [gn]; rintro e w' ⟨rfl, rfl⟩
    go_wp2_with fail
    refine (l6In_c _ _ _ _).mono ?_; rw [gm]; rintro e w' ⟨rfl, rfl⟩
    go_wp2_with fail
    refine (l2Each_c _ _ _ _ _ p _ hp (by omega)).mono ?_; rw [h1]; rintro e w' ⟨rfl, rfl⟩
    go_wp2
    go_ret
    exact ⟨ret_bool hW.out.symm, Below.refl _ _⟩
  | true =>
  cases h2 : allIn (-99) 99 q with
  | false =>
    have hW := Lib.hid (wOk_all (p := p) (q := q) (.inr h2))
    go_enter Try.func31, Try.ntmps31
    go_wp2_with fail
    refine (l6In_c _ _ _ _).mono ?_; rw [gn]; rintro e w' ⟨rfl, rfl⟩
    go_wp2_with fail
    refine (l6In_c _ _ _ _).mono ?_; rw [gm]; rintro e w' ⟨rfl, rfl⟩
    go_wp2_with fail
    refine (l2Each_c _ _ _ _ _ p _ hp (by omega)).mono ?_; rw [h1]; rintro e w' ⟨rfl, rfl⟩
    go_wp2_with fail
    refine (l2Each_c _ _ _ _ _ q _ hq (by omega)).mono ?_; rw [h2]; rintro e w' ⟨rfl, rfl⟩
    go_wp2
    go_ret
    exact ⟨ret_bool hW.out.symm, Below.refl _ _⟩
  | true =>
    have hY2 := Lib.hid (hY.out h1 h2)
    have h1' := Lib.hid h1
    have h2' := Lib.hid h2
    go_enter Try.func31, Try.ntmps31
    go_wp2_with fail
    refine (l6In_c _ _ _ _).mono ?_; rw [gn]; rintro e w' ⟨rfl, rfl⟩
    go_wp2_with fail
    refine (l6In_c _ _ _ _).mono ?_; rw [gm]; rintro e w' ⟨rfl, rfl⟩
    go_wp2_with fail
    refine (l2Each_c _ _ _ _ _ p _ hp (by omega)).mono ?_; rw [h1]; rintro e w' ⟨rfl, rfl⟩
    go_wp2_with fail
    refine (l2Each_c _ _ _ _ _ q _ hq (by omega)).mono ?_; rw [h2]; rintro e w' ⟨rfl, rfl⟩
    clear h1 h2 gn gm
    go_wp2
    go_loopw [5] (fun i wr => ∃ a : Nat, a ≤ n ∧ i = .int .i64 a ∧ Below w.heap.size w wr ∧ Hid (∀ i j, i < a → j < m → p[i]?.getD 0 + q[j]?.getD 0 ≠ 0)) (fun i _ => n - (intOf i).toNat)
    case atStart => exact ⟨0, Nat.zero_le _, rfl, Below.refl _ _, Lib.hid (fun i j h => absurd h (by omega))⟩
    case round =>
      obtain ⟨a, ha, rfl, hB, hnz⟩ := hrel
      obtain ⟨wo, rfl⟩ : ∃ wo : World, wo = wr := ⟨_, rfl⟩
      by_cases hlt : a < n
      · have hpb := allIn_at h1'.out a (by rw [hp.1]; omega)
        go_wp2
        go_loopw [6] (fun i wr => ∃ e : Nat, e ≤ m ∧ i = .int .i64 e ∧ Below w.heap.size w wr ∧ Hid (∀ j, j < e → p[a]?.getD 0 + q[j]?.getD 0 ≠ 0)) (fun i _ => m - (intOf i).toNat)
        case atStart => exact ⟨0, Nat.zero_le _, rfl, hB, Lib.hid (fun j h => absurd h (by omega))⟩
        case round =>
          clear hB
          obtain ⟨e, he, rfl, hB, hnz2⟩ := hrel
          by_cases hlt2 : e < m
          · obtain ⟨b, off, rfl, hb, hcp⟩ := (hp.next hB).at_ hlt
            obtain ⟨b', off', rfl, hb', hcq⟩ := (hq.next hB).at_ hlt2
            have hqb := allIn_at h2'.out e (by rw [hq.1]; omega)
            by_cases hs : p[a]?.getD 0 + q[e]?.getD 0 = 0
            · have hO := Lib.hid (wSum_no (by rw [hp.1]; exact hlt) (by rw [hq.1]; exact hlt2) hs)
              have hs' : (p[a]?.getD 0 + q[e]?.getD 0 == 0) = true := beq_iff_eq.2 hs
              clear hs
              go_wp2
              go_quiet (fail)
              go_wp2
              go_ret
              exact ⟨ret_bool (by rw [hY2.out, hO.out]), below_drewN hB _⟩
            · have hs' : (p[a]?.getD 0 + q[e]?.getD 0 == 0) = false := beq_eq_false_iff_ne.2 hs
              have hN : Hid (∀ j, j < e + 1 → p[a]?.getD 0 + q[j]?.getD 0 ≠ 0) := Lib.hid (fun j hj => by
                rcases Nat.lt_or_ge j e with h | h
                · exact hnz2.out j h
                · obtain rfl : j = e := by omega
                  exact hs)
              clear hs
              go_wp2
              go_quiet (fail)
              go_wp2
              go_roundw
              case rel => exact ⟨e + 1, by omega, by go_num, below_drewN hB _, hN⟩
              case measure => simp [intOf]; omega
          · obtain rfl : e = m := by omega
            have hN : Hid (∀ i j, i < a + 1 → j < e → p[i]?.getD 0 + q[j]?.getD 0 ≠ 0) := Lib.hid (fun i j hi hj => by
                rcases Nat.lt_or_ge i a with h | h
                · exact hnz.out i j h hj
                · obtain rfl : i = a := by omega
                  exact hnz2.out j hj)
            go_wp2
            go_roundw
            case rel => exact ⟨a + 1, by omega, by go_num, hB, hN⟩
            case measure => simp [intOf]; omega
      · obtain rfl : a = n := by omega
        have hO := Lib.hid (wSum_of (p := p) (q := q) (fun i j hi hj => hnz.out i j (by rw [← hp.1]; exact hi) (by rw [← hq.1]; exact hj)))
        go_wp2
        go_ret
        exact ⟨ret_bool (by rw [hY2.out, hO.out]), hB⟩

theorem put_mk (f : Nat → Bool) (j : Nat) (b : Bool) (h : f j = b) : put (mkRow f j) j b = mkRow f (j + 1) := by
  simp only [put, mkRow_div, mkRow, h]
  cases b <;> simp

set_option maxHeartbeats 1000000 in
theorem spec_WeightsImage_c (A B : Option Addr) (n c m d : Nat) (p q : List Int) (w : World) (hp : Rd w A n p) (hq : Rd w B m q) (hn : n ≤ 1073741824) (hm : m ≤ 1073741824) :
    Calls Try.prog 10 #[.slice A n c, .slice B m d] w fun e w' => ∃ R r k, e = .returned (.tuple #[.agg #[.int .i64 (wW p q), .slice R r k], .bool (wOk p q)]) ∧ Below w.heap.size w w' ∧ Own w' w.heap.size R r (wX p q) := by
  cases h0 : wOk p q with
  | false =>
    have hW := Lib.hid (wW_no h0)
    go_enter Try.func10, Try.ntmps10
    go_wp2_with fail
    refine (l44Ok_c _ _ _ _ _ _ p q _ (hp.alloc _) (hq.alloc _) (by omega) (by omega)).mono ?_
    rw [h0]
    rintro e w1 ⟨rfl, hb1⟩
    obtain ⟨hc, hf⟩ := bcell hb1
    go_wp2
    refine bodyPost_ret (v := .tuple #[.agg #[.int .i64 0, .slice none 0 0], .bool false]) (by simp [results, Try.results10, go_sem, hc]) rfl ⟨none, 0, 0, by rw [hW.out.1], ?_, by rw [hW.out.2]; exact Own.nil_ _ _ _⟩
    (repeat (first | exact Below.refl _ _ | assumption | refine lo_alloc ?_ _ | refine lo_set ?_ (by simp; try omega) _ | refine Below.drew ?_ | refine below_drewN ?_ _ | refine lo_trans ?_ (by assumption) | refine lo_wr ?_ (by assumption) (by omega)))
  | true =>
    have hO := Lib.hid h0
    have hW := Lib.hid (wW_yes h0)
    have h1' : Hid (wIn p = true) := Lib.hid (by simp only [wOk, Bool.and_eq_true] at h0; exact h0.1.1)
    have h2' : Hid (wIn q = true) := Lib.hid (by simp only [wOk, Bool.and_eq_true] at h0; exact h0.1.2)
    have hpl := wIn_len h1'.out
    have hql := wIn_len h2'.out
    rw [hp.1] at hpl
    rw [hq.1] at hql
    go_enter Try.func10, Try.ntmps10
    go_wp2_with fail
    refine (l44Ok_c _ _ _ _ _ _ p q _ (hp.alloc _) (hq.alloc _) (by omega) (by omega)).mono ?_
    rw [h0]
    rintro e wa ⟨rfl, hba⟩
    clear h0
    go_wp2_with fail
    refine (l1Blank_c n m _ (by omega)).mono ?_
    rintro e w1 ⟨g, rfl, hb1, hk1, hg1, hg2⟩
    go_wp2
    obtain ⟨o, ho⟩ : ∃ o, o = w1.heap.size := ⟨_, rfl⟩
    have hza : w.heap.size < wa.heap.size := by have := hba.size; rw [World.size_alloc] at this; omega
    have hI0 : WInv w (w1.alloc (.cells #[.int .i64 m, .slice (some ⟨g, 0, none⟩) n n] 24)) o g n m (st (wF p q) n m 0 0) := by
      refine ⟨lo_alloc (lo_trans (lo_trans (lo_alloc (Below.refl _ _) _) hba) hb1) _, ((((Blk.new w _ _).next hba).next hb1).alloc _), by rw [ho]; exact Blk.new _ _ _, by rw [st_zero]; exact hk1.alloc _⟩
    rw [← ho]
    have hgo : g ≠ o := by omega
    have hg1' : w.heap.size < g := by omega
    clear hb1 hk1 hba
    have ho' := Lib.hid ho; clear ho
    go_loopw [7] (fun i wr => ∃ a : Nat, a ≤ n ∧ i = .int .i64 a ∧ WInv w wr o g n m (st (wF p q) n m a 0)) (fun i _ => n - (intOf i).toNat)
    case atStart => exact ⟨0, Nat.zero_le _, rfl, hI0⟩
    case round =>
      clear hI0
      obtain ⟨a, ha, rfl, hI⟩ := hrel
      obtain ⟨wo, rfl⟩ : ∃ wo : World, wo = wr := ⟨_, rfl⟩
      by_cases hlt : a < n
      · have hpb := wIn_at h1'.out a (by rw [hp.1]; omega)
        go_wp2
        go_loopw [8] (fun i wr => ∃ e : Nat, e ≤ m ∧ i = .int .i64 e ∧ WInv w wr o g n m (st (wF p q) n m a e)) (fun i _ => m - (intOf i).toNat)
        case atStart => exact ⟨0, Nat.zero_le _, rfl, hI⟩
        case round =>
          clear hI
          obtain ⟨e, he, rfl, hI⟩ := hrel
          by_cases hlt2 : e < m
          · obtain ⟨b, off, rfl, hb, hcp⟩ := (hp.next hI.1).at_ hlt
            obtain ⟨b', off', rfl, hb', hcq⟩ := (hq.next hI.1).at_ hlt2
            have hqb := wIn_at h2'.out e (by rw [hq.1]; omega)
            obtain ⟨hc0, hc1, hf0, hf1, hc2, hc3⟩ := hI.cells
            go_wp2
            refine region_tail 13 (by kernel_rfl) (by kernel_rfl) ?_
            simp only [List.take_succ_cons, List.take_zero, List.drop_succ_cons, List.drop_zero]
            repeat still_step
            refine wpStill_nil ?_
            go_wp2_with fail
            refine (l1Put_c g n n a e (mkRow (wF p q a) e) (wF p q a e) (st (wF p q) n m a e) m _ hI.2.2.2.drew hlt (by rw [st_len]; exact hlt) (by omega) (by have := mkRow_lt64 (wF p q a) e (by omega); omega) (st_get hlt)).mono ?_
            rintro _ w3 ⟨rfl, hk3, hg3⟩
            rw [put_mk _ _ _ rfl, st_set] at hk3
            have hI3 := hI.step hg1' hgo (grown_trans (grown_drew _) hg3) hk3
            clear hk3 hg3 hI hc0 hc1 hf0 hf1 hc2 hc3
            go_wp2
            go_roundw
            case rel => exact ⟨e + 1, by omega, by go_num, hI3⟩
            case measure => simp [intOf]; omega
          · obtain rfl : e = m := by omega
            have hI3 : WInv w wr o g n e (st (wF p q) n e (a + 1) 0) := by
              rw [← st_next]; exact hI
            go_wp2
            go_roundw
            case rel => exact ⟨a + 1, by omega, by go_num, hI3⟩
            case measure => simp [intOf]; omega
      · obtain rfl : a = n := by omega
        obtain ⟨hc0, hc1, hf0, hf1, hc2, hc3⟩ := hI.cells
        go_wp2
        refine bodyPost_ret (v := .tuple #[.agg #[.int .i64 m, .slice (some ⟨g, 0, none⟩) a a], .bool true]) (by simp [results, Try.results10, go_sem, hc0, hc1]) rfl ⟨some ⟨g, 0, none⟩, a, a, by rw [hW.out.1, hq.1], ?_, ?_⟩
        · have hB := hI.1
          (repeat (first | exact Below.refl _ _ | assumption | refine lo_alloc ?_ _ | refine lo_set ?_ (by simp; try omega) _ | refine Below.drew ?_ | refine below_drewN ?_ _ | refine lo_trans ?_ (by assumption) | refine lo_wr ?_ (by assumption) (by omega)))
        · rw [hW.out.2, hp.1, hq.1, ← st_done]
          have hB := Own.of_blk (lo := g) hI.2.2.2 (Nat.le_refl _) (st_len _ _ _ _ _)
          refine Own.mono ?_ (by omega : w.heap.size ≤ g)
          (repeat (first | assumption | refine Own.alloc ?_ _ | refine Own.far_lo ?_ (by simp; try omega) _ | refine Own.drew ?_ | refine Own.next ?_ (by assumption)))
end Go.Proofs.Ytlhhafgfpmgbcaa
