/- Walks: the program's weights. -/
import Derived.Test.YtlhhafgfpmgbcaaWa
import Derived.Test.YtlhhafgfpmgbcaaMath
import Derived.RegionTactic
namespace Go.Proofs.Ytlhhafgfpmgbcaa
open Go.RowKit

theorem wIn_all {p : List Int} (h : ∀ k, k < p.length → -99 ≤ p[k]?.getD 0 ∧ p[k]?.getD 0 ≤ 99) : p.all (fun x => decide (-99 ≤ x) && decide (x ≤ 99)) = true := by
  simp only [List.all_eq_true, Bool.and_eq_true, decide_eq_true_eq]
  intro x hx
  obtain ⟨i, hi, rfl⟩ := List.getElem_of_mem hx
  simpa [List.getElem?_eq_getElem hi] using h i hi
theorem wIn_no {p : List Int} {k : Nat} (hk : k < p.length) (h : ¬ (-99 ≤ p[k]?.getD 0 ∧ p[k]?.getD 0 ≤ 99)) : wIn p = false := by
  cases e : wIn p with
  | false => rfl
  | true => exact absurd (wIn_at e k hk) h
theorem wIn_eq {p : List Int} (h : ∀ k, k < p.length → -99 ≤ p[k]?.getD 0 ∧ p[k]?.getD 0 ≤ 99) : wIn p = (decide (1 ≤ p.length) && decide (p.length ≤ 6)) := by
  simp [wIn, wIn_all h]

set_option maxHeartbeats 400000 in
theorem weightsValid_c (A : Option Addr) (n c : Nat) (xs : List Int) (w : World) (hr : Rd w A n xs) (hn : n ≤ 1073741824) :
    Calls Try.prog 34 #[.slice A n c] w fun e w' => e = .returned (.bool (wIn xs)) ∧ w = w' := by
  have hxl := Lib.hid hr.1
  go_enter Try.func34, Try.ntmps34
  go_wp2
  go_loop [7] (fun i => ∃ k : Nat, k ≤ n ∧ i = .int .i64 k ∧ Hid (∀ j, j < k → -99 ≤ xs[j]?.getD 0 ∧ xs[j]?.getD 0 ≤ 99)) (fun i => n - (intOf i).toNat)
  case atStart => exact ⟨0, Nat.zero_le _, rfl, Lib.hid (fun j hj => absurd hj (by omega))⟩
  case round =>
    obtain ⟨k, hk, rfl, hall⟩ := hrel
    by_cases hlt : k < n
    · obtain ⟨b, off, rfl, hb, hc⟩ := hr.at_ hlt
      by_cases h1 : xs[k]?.getD 0 < -99
      · have H := Lib.hid (wIn_no (hxl.out ▸ hlt) (fun h => absurd h.1 (by omega)) : wIn xs = false)
        go_wp2
        go_ret
        exact ⟨ret_bool H.out.symm, rfl⟩
      · by_cases h2 : 99 < xs[k]?.getD 0
        · have H := Lib.hid (wIn_no (hxl.out ▸ hlt) (fun h => absurd h.2 (by omega)) : wIn xs = false)
          go_wp2
          go_ret
          exact ⟨ret_bool H.out.symm, rfl⟩
        · go_wp2
          go_round
          case rel => exact ⟨k + 1, by omega, by go_num, Lib.hid (fun j hj => by
            rcases Nat.lt_or_ge j k with h | h
            · exact hall.out j h
            · obtain rfl : j = k := by omega
              omega)⟩
          case measure => simp [intOf]; omega
    · have : k = n := by omega
      subst this
      have H := Lib.hid (wIn_eq (hxl.out ▸ hall.out))
      by_cases h1 : 1 ≤ k
      · by_cases h2 : k ≤ 6
        all_goals
          go_wp2
          go_ret
          exact ⟨ret_bool (by rw [H.out, hxl.out, Bool.eq_iff_iff]; simp; try omega), rfl⟩
      · go_wp2
        go_ret
        exact ⟨ret_bool (by rw [H.out, hxl.out, Bool.eq_iff_iff]; simp; try omega), rfl⟩

set_option maxHeartbeats 400000 in
theorem emptyImage_c (h m : Nat) (w : World) (hh : h ≤ 1073741824) :
    Calls Try.prog 35 #[.int .i64 h, .int .i64 m] w fun e w' => ∃ g, e = .returned (.agg #[.int .i64 m, .slice (some ⟨g, 0, none⟩) h h]) ∧ Below w.heap.size w w' ∧ Blk w' g 3 (ints (List.replicate h 0)) ∧ w.heap.size ≤ g ∧ g < w'.heap.size := by
  have hmk := make_row h hh
  go_enter Try.func35, Try.ntmps35
  go_wp2
  refine bodyPost_ret (v := .agg #[.int .i64 m, .slice (some ⟨w.heap.size + 1, 0, none⟩) h h]) (by simp [results, Try.results35, go_sem]) rfl ⟨_, rfl, ?_, ?_, by omega, by simp⟩
  · (repeat (first | exact Below.refl _ _ | assumption | refine lo_alloc ?_ _ | refine lo_set ?_ (by simp; try omega) _ | refine Below.drew ?_ | refine below_drewN ?_ _ | refine lo_trans ?_ (by assumption) | refine lo_wr ?_ (by assumption) (by omega)))
  · rw [← made_ints]
    exact heap_at2 _ _ _ _

set_option maxHeartbeats 400000 in
theorem flip_c (g n c i j r : Nat) (xs : List Int) (W : Int) (w : World) (hb : Blk w g 3 (ints xs)) (hi : i < n) (hx : i < xs.length) (hj : j < 6) (hr : r < 64) (hc : xs[i]?.getD 0 = (r : Int)) :
    Calls Try.prog 36 #[.agg #[.int .i64 W, .slice (some ⟨g, 0, none⟩) n c], .int .i64 i, .int .i64 j] w fun e w' => e = .returned (.tuple #[]) ∧ Blk w' g 3 (ints (xs.set i ((r ^^^ 2 ^ j : Nat) : Int))) ∧ w.grownBy w' (some g) := by
  have hcc := hb.icell hx
  have hff := hb.frozen i
  have hz := hb.lt
  have hp := pow_int (j := j) (by omega)
  have hp' := pow_le64 (j := j) (by omega)
  have hw : wrap64 (2 ^ j) = 2 ^ j := IntWalk.wrap64_in _ (by omega)
  have hX := Lib.hid (show bits .xor .i64 (r : Int) (2 ^ j) = ((r ^^^ 2 ^ j : Nat) : Int) from by
    rw [← i64_xor_nat r (2 ^ j) (by omega) (by omega)]; simp)
  rw [hc] at hcc
  have hs := Lib.hid (hb.iset i ((r ^^^ 2 ^ j : Nat) : Int))
  clear hc
  go_enter Try.func36, Try.ntmps36
  go_wp2
  go_region
  all_goals go_end0
  all_goals rw [hX.out]
  all_goals exact ⟨rfl, Blk.drew (Blk.alloc hs.out _), grown_trans (grown_trans (grown_set _) (grown_alloc _ _)) (grown_drew _)⟩

theorem wW_no {p q : List Int} (h : wOk p q = false) : wW p q = 0 ∧ wX p q = [] := by simp [wW, wX, h]
theorem wW_yes {p q : List Int} (h : wOk p q = true) : wW p q = q.length ∧ wX p q = img (wF p q) p.length q.length := by simp [wW, wX, h]

/-- what lies in memory while an image is filled: the result's cells, the image's, its rows -/
def WInv (w wr : World) (o g n m : Nat) (xs : List Int) : Prop :=
  Below w.heap.size w wr ∧ Blk wr w.heap.size 24 #[.int .i64 0, .slice none 0 0] ∧ Blk wr o 24 #[.int .i64 m, .slice (some ⟨g, 0, none⟩) n n] ∧ Blk wr g 3 (ints xs)
theorem WInv.step {w wr w3 : World} {o g n m : Nat} {xs ys : List Int} (h : WInv w wr o g n m xs) (h1 : w.heap.size < g) (h2 : g ≠ o) (hg : wr.grownBy w3 (some g)) (hb : Blk w3 g 3 (ints ys)) : WInv w w3 o g n m ys :=
  ⟨lo_grown h.1 hg (by rintro _ ⟨⟩; omega), h.2.1.grown hg (by intro e; injection e; omega), h.2.2.1.grown hg (by intro e; injection e; omega), hb⟩
theorem WInv.cells {w wr : World} {o g n m : Nat} {xs : List Int} (h : WInv w wr o g n m xs) :
    wr.cell? ⟨w.heap.size, 0, none⟩ = some (.int .i64 0) ∧ wr.cell? ⟨w.heap.size, 1, none⟩ = some (.slice none 0 0) ∧ wr.frozen? ⟨w.heap.size, 0, none⟩ = false ∧ wr.frozen? ⟨w.heap.size, 1, none⟩ = false ∧
    wr.cell? ⟨o, 0, none⟩ = some (.int .i64 m) ∧ wr.cell? ⟨o, 1, none⟩ = some (.slice (some ⟨g, 0, none⟩) n n) :=
  ⟨h.2.1.cell 0, h.2.1.cell 1, h.2.1.frozen 0, h.2.1.frozen 1, h.2.2.1.cell 0, h.2.2.1.cell 1⟩

set_option maxHeartbeats 1000000 in
theorem impl_WeightsImage_c (A B : Option Addr) (n c m d : Nat) (p q : List Int) (w : World) (hp : Rd w A n p) (hq : Rd w B m q) (hn : n ≤ 1073741824) (hm : m ≤ 1073741824) :
    Calls Try.prog 12 #[.slice A n c, .slice B m d] w fun e w' => ∃ R r k, e = .returned (.tuple #[.agg #[.int .i64 (wW p q), .slice R r k], .bool (wOk p q)]) ∧ Below w.heap.size w w' ∧ Own w' w.heap.size R r (wX p q) := by
  cases h1 : wIn p with
  | false =>
    have hW := Lib.hid (wW_no (p := p) (q := q) (by simp [wOk, h1])); have hO := Lib.hid (show wOk p q = false by simp [wOk, h1])
    go_enter Try.func12, Try.ntmps12
    go_wp2_with (go_at_call 34; refine (weightsValid_c _ _ _ p _ (hp.alloc _) (by omega)).mono ?_; rintro e w' ⟨rfl, rfl⟩)
    refine bodyPost_ret (v := .tuple #[.agg #[.int .i64 0, .slice none 0 0], .bool false]) (by simp [results, Try.results12, go_sem]) rfl ⟨none, 0, 0, by rw [hW.out.1, hO.out], ?_, by rw [hW.out.2]; exact Own.nil_ _ _ _⟩
    (repeat (first | exact Below.refl _ _ | assumption | refine lo_alloc ?_ _ | refine lo_set ?_ (by simp; try omega) _ | refine Below.drew ?_ | refine below_drewN ?_ _ | refine lo_trans ?_ (by assumption) | refine lo_wr ?_ (by assumption) (by omega)))
  | true =>
  cases h2 : wIn q with
  | false =>
    have hW := Lib.hid (wW_no (p := p) (q := q) (by simp [wOk, h2])); have hO := Lib.hid (show wOk p q = false by simp [wOk, h2])
    go_enter Try.func12, Try.ntmps12
    go_wp2_with fail
    refine (weightsValid_c _ _ _ p _ (hp.alloc _) (by omega)).mono ?_; rintro e w' ⟨rfl, rfl⟩
    go_wp2_with fail
    refine (weightsValid_c _ _ _ q _ (hq.alloc _) (by omega)).mono ?_; rintro e w' ⟨rfl, rfl⟩
    go_wp2
    refine bodyPost_ret (v := .tuple #[.agg #[.int .i64 0, .slice none 0 0], .bool false]) (by simp [results, Try.results12, go_sem]) rfl ⟨none, 0, 0, by rw [hW.out.1, hO.out], ?_, by rw [hW.out.2]; exact Own.nil_ _ _ _⟩
    (repeat (first | exact Below.refl _ _ | assumption | refine lo_alloc ?_ _ | refine lo_set ?_ (by simp; try omega) _ | refine Below.drew ?_ | refine below_drewN ?_ _ | refine lo_trans ?_ (by assumption) | refine lo_wr ?_ (by assumption) (by omega)))
  | true =>
    have hpl := wIn_len h1
    have hql := wIn_len h2
    rw [hp.1] at hpl
    rw [hq.1] at hql
    go_enter Try.func12, Try.ntmps12
    go_wp2_with fail
    refine (weightsValid_c _ _ _ p _ (hp.alloc _) (by omega)).mono ?_; rintro e w' ⟨rfl, rfl⟩
    go_wp2_with fail
    refine (weightsValid_c _ _ _ q _ (hq.alloc _) (by omega)).mono ?_; rintro e w' ⟨rfl, rfl⟩
    go_wp2_with fail
    refine (emptyImage_c n m _ (by omega)).mono ?_
    rintro e w1 ⟨g, rfl, hb1, hk1, hg1, hg2⟩
    obtain ⟨hc, hf⟩ := bcell hb1
    have h1' := Lib.hid h1; clear h1
    have h2' := Lib.hid h2; clear h2
    go_wp2
    obtain ⟨o, ho⟩ : ∃ o, o = w1.heap.size := ⟨_, rfl⟩
    rw [World.size_alloc] at hg1
    have hI0 : WInv w (w1.alloc (.cells #[.int .i64 m, .slice (some ⟨g, 0, none⟩) n n] 24)) o g n m (st (wF p q) n m 0 0) := by
      refine ⟨lo_alloc (lo_trans (lo_alloc (Below.refl _ _) _) hb1) _, (((Blk.new w _ _).next hb1).alloc _), by rw [ho]; exact Blk.new _ _ _, by rw [st_zero]; exact hk1.alloc _⟩
    rw [← ho]
    have hgo : g ≠ o := by omega
    have hg1' : w.heap.size < g := by omega
    clear hc hf hb1 hk1
    have ho' := Lib.hid ho; clear ho
    go_loopw [27] (fun i wr => ∃ a : Nat, a ≤ n ∧ i = .int .i64 a ∧ WInv w wr o g n m (st (wF p q) n m a 0) ∧ Hid (∀ i j, i < a → j < m → p[i]?.getD 0 + q[j]?.getD 0 ≠ 0)) (fun i _ => n - (intOf i).toNat)
    case atStart => exact ⟨0, Nat.zero_le _, rfl, hI0, Lib.hid (fun i j h => absurd h (by omega))⟩
    case round =>
      clear hI0
      obtain ⟨a, ha, rfl, hI, hnz⟩ := hrel
      obtain ⟨wo, rfl⟩ : ∃ wo : World, wo = wr := ⟨_, rfl⟩
      by_cases hlt : a < n
      · obtain ⟨b, off, rfl, hb, hcp⟩ := (hp.next hI.1).at_ hlt
        have hpb := wIn_at h1'.out a (by rw [hp.1]; omega)
        go_wp2
        go_loopw [34] (fun i wr => ∃ e : Nat, e ≤ m ∧ i = .int .i64 e ∧ WInv w wr o g n m (st (wF p q) n m a e) ∧ Hid (∀ j, j < e → p[a]?.getD 0 + q[j]?.getD 0 ≠ 0)) (fun i _ => m - (intOf i).toNat)
        case atStart => exact ⟨0, Nat.zero_le _, rfl, hI, Lib.hid (fun j h => absurd h (by omega))⟩
        case round =>
          clear hI hb hcp
          obtain ⟨e, he, rfl, hI, hnz2⟩ := hrel
          by_cases hlt2 : e < m
          · obtain ⟨b', off', rfl, hb, hcq⟩ := (hq.next hI.1).at_ hlt2
            have hqb := wIn_at h2'.out e (by rw [hq.1]; omega)
            obtain ⟨hc0, hc1, hf0, hf1, hc2, hc3⟩ := hI.cells
            by_cases hs : p[a]?.getD 0 + q[e]?.getD 0 = 0
            · have hO := Lib.hid (show wOk p q = false by simp [wOk, wSum_no (by rw [hp.1]; exact hlt) (by rw [hq.1]; exact hlt2) hs])
              have hW := Lib.hid (wW_no hO.out)
              have hs' : (p[a]?.getD 0 + q[e]?.getD 0 == 0) = true := beq_iff_eq.2 hs
              clear hs
              go_wp2
              refine bodyPost_ret (v := .tuple #[.agg #[.int .i64 0, .slice none 0 0], .bool false]) (by simp [results, Try.results12, go_sem, hc0, hc1]) rfl ⟨none, 0, 0, by rw [hW.out.1, hO.out], ?_, by rw [hW.out.2]; exact Own.nil_ _ _ _⟩
              have hB := hI.1
              (repeat (first | exact Below.refl _ _ | assumption | refine lo_alloc ?_ _ | refine lo_set ?_ (by simp; try omega) _ | refine Below.drew ?_ | refine below_drewN ?_ _ | refine lo_trans ?_ (by assumption) | refine lo_wr ?_ (by assumption) (by omega)))
            · have hs' : (p[a]?.getD 0 + q[e]?.getD 0 == 0) = false := beq_eq_false_iff_ne.2 hs
              have hN : Hid (∀ j, j < e + 1 → p[a]?.getD 0 + q[j]?.getD 0 ≠ 0) := Lib.hid (fun j hj => by
                rcases Nat.lt_or_ge j e with h | h
                · exact hnz2.out j h
                · obtain rfl : j = e := by omega
                  exact hs)
              by_cases hpos : 0 < p[a]?.getD 0 + q[e]?.getD 0
              · clear hs
                go_wp2_with fail
                refine (flip_c g n n a e (mkRow (wF p q a) e) (st (wF p q) n m a e) m _ hI.2.2.2 hlt (by rw [st_len]; exact hlt) (by omega) (mkRow_lt64 _ _ (by omega)) (st_get hlt)).mono ?_
                rintro _ w3 ⟨rfl, hk3, hg3⟩
                rw [mkRow_xor, ← mkRow_step_t (by simp only [wF, decide_eq_true_eq]; exact hpos), st_set] at hk3
                have hI3 := hI.step hg1' hgo hg3 hk3
                clear hk3 hg3 hI hc0 hc1 hf0 hf1 hc2 hc3
                go_wp2
                go_roundw
                case rel => exact ⟨e + 1, by omega, by go_num, hI3, hN⟩
                case measure => simp [intOf]; omega
              · have hI3 : WInv w wr o g n m (st (wF p q) n m a (e + 1)) := by
                  rw [st_same (by simp only [wF, decide_eq_false_iff_not]; exact hpos)]; exact hI
                clear hs
                go_wp2
                go_roundw
                case rel => exact ⟨e + 1, by omega, by go_num, hI3, hN⟩
                case measure => simp [intOf]; omega
          · obtain rfl : e = m := by omega
            have hN : Hid (∀ i j, i < a + 1 → j < e → p[i]?.getD 0 + q[j]?.getD 0 ≠ 0) := Lib.hid (fun i j hi hj => by
                rcases Nat.lt_or_ge i a with h | h
                · exact hnz.out i j h hj
                · obtain rfl : i = a := by omega
                  exact hnz2.out j hj)
            have hI3 : WInv w wr o g n e (st (wF p q) n e (a + 1) 0) := by
              rw [← st_next]; exact hI
            go_wp2
            go_roundw
            case rel => exact ⟨a + 1, by omega, by go_num, hI3, hN⟩
            case measure => simp [intOf]; omega
      · obtain rfl : a = n := by omega
        have hO := Lib.hid (show wOk p q = true by
          simp only [wOk, h1'.out, h2'.out, Bool.true_and]
          exact wSum_of (fun i j hi hj => hnz.out i j (by rw [← hp.1]; exact hi) (by rw [← hq.1]; exact hj)))
        have hW := Lib.hid (wW_yes hO.out)
        obtain ⟨hc0, hc1, hf0, hf1, hc2, hc3⟩ := hI.cells
        go_wp2
        refine bodyPost_ret (v := .tuple #[.agg #[.int .i64 m, .slice (some ⟨g, 0, none⟩) a a], .bool true]) (by simp [results, Try.results12, go_sem, hc0, hc1]) rfl ⟨some ⟨g, 0, none⟩, a, a, by rw [hW.out.1, hO.out, hq.1], ?_, ?_⟩
        · have hB := hI.1
          (repeat (first | exact Below.refl _ _ | assumption | refine lo_alloc ?_ _ | refine lo_set ?_ (by simp; try omega) _ | refine Below.drew ?_ | refine below_drewN ?_ _ | refine lo_trans ?_ (by assumption) | refine lo_wr ?_ (by assumption) (by omega)))
        · rw [hW.out.2, hp.1, hq.1, ← st_done]
          have hB := Own.of_blk (lo := g) hI.2.2.2 (Nat.le_refl _) (st_len _ _ _ _ _)
          refine Own.mono ?_ (by omega : w.heap.size ≤ g)
          (repeat (first | assumption | refine Own.alloc ?_ _ | refine Own.far_lo ?_ (by simp; try omega) _ | refine Own.drew ?_ | refine Own.next ?_ (by assumption)))
end Go.Proofs.Ytlhhafgfpmgbcaa
