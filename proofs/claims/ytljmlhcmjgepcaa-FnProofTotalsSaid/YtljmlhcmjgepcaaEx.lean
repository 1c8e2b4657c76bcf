
/- Walks: SumsExcess, FillMost; sumOf. -/
import Derived.Test.YtljmlhcmjgepcaaSe
namespace Go.Proofs.Ytljmlhcmjgepcaa
open Go.RowKit
set_option maxRecDepth 100000

/-- the greatest excess among the first k -/
def eM (r c : List Int) : Nat → Int
  | 0 => 0
  | k + 1 => max (eM r c k) (exc r c k)
theorem eM_ge (r c : List Int) : ∀ {k s : Nat}, s < k → exc r c s ≤ eM r c k
  | k + 1, s, h => by
    simp only [eM]
    rcases Nat.lt_or_ge s k with h1 | h1
    · have := eM_ge r c h1; omega
    · obtain rfl : s = k := by omega
      omega
theorem eM_zero (r c : List Int) : ∀ {k : Nat}, (∀ s, s < k → exc r c s ≤ 0) → eM r c k = 0
  | 0, _ => rfl
  | k + 1, h => by
    simp only [eM]
    rw [eM_zero r c (fun s hs => h s (by omega))]
    have := h k (by omega)
    omega
/-- SumsExcess -/
def sEx (r c : List Int) : Int := if sV r c = true then eM r c (r.length + 1) else -1
theorem sEx_some {r c : List Int} {t : Nat} (h : pOf r c = some t) : 0 < sEx r c := by
  obtain ⟨h1, _, h3, h4⟩ := pOk_iff.1 (pOf_some h).1
  rw [Int.toNat_natCast] at h4
  rw [sEx, if_pos h1]
  have := eM_ge r c (show t < r.length + 1 by omega)
  omega
theorem sEx_none {r c : List Int} (h : pOf r c = none) : sEx r c ≤ 0 := by
  rw [sEx]
  split
  · rename_i hv
    rw [eM_zero]
    · exact Int.le_refl _
    · intro s hs
      rcases Int.lt_or_le 0 (exc r c s) with h1 | h1
      · have := pOf_none h (s : Nat)
        rw [pOk_iff.2 ⟨hv, by omega, by omega, by rw [Int.toNat_natCast]; exact h1⟩] at this
        cases this
      · exact h1
  · omega

set_option maxHeartbeats 2000000 in
theorem SumsExcess_c (A B : Option Addr) (n m c d : Nat) (xs ys : List Int) (w : World) (hr : Rd w A n xs) (hq : Rd w B m ys) (hn : n ≤ 1048576) (hm : m ≤ 1048576) :
    Calls Try.prog 12 #[.slice A n c, .slice B m d] w fun e w' => e = .returned (.int .i64 (sEx xs ys)) ∧ Below w.heap.size w w' := by
  cases hv : sV xs ys with
  | false =>
    have hT := Lib.hid (show sEx xs ys = -1 by rw [sEx, if_neg (by simp [hv])])
    go_enter Try.func12, Try.ntmps12
    go_wp2_with (go_at_call 15; refine (SumsValid_c _ _ _ _ _ _ xs ys _ hr hq (by omega) (by omega)).mono ?_; rw [hv]; rintro e w' ⟨rfl, rfl⟩)
    go_ret
    exact ⟨by rw [hT.out]; rfl, Below.refl _ _⟩
  | true =>
    have hv' := Lib.hid hv
    have hxl := Lib.hid hr.1
    have hT := Lib.hid (show sEx xs ys = eM xs ys (n + 1) by rw [sEx, if_pos hv, hr.1])
    go_enter Try.func12, Try.ntmps12
    go_wp2_with fail
    refine (SumsValid_c _ _ _ _ _ _ xs ys _ hr hq (by omega) (by omega)).mono ?_
    rw [hv]
    rintro e w' ⟨rfl, rfl⟩
    clear hv
    go_wp2
    go_loopw [5, 14] (fun s i wr => ∃ k : Nat, k ≤ n + 1 ∧ i = .int .i64 k ∧ s = .int .i64 (eM xs ys k) ∧ Below w.heap.size w wr) (fun _ i _ => n + 1 - (intOf i).toNat)
    case atStart => exact ⟨0, Nat.zero_le _, rfl, rfl, Below.refl _ _⟩
    case round =>
      obtain ⟨k, hk, rfl, rfl, hbl⟩ := hrel
      by_cases hlt : k < n + 1
      · have hN : Hid (eM xs ys (k + 1) = max (eM xs ys k) (exc xs ys k)) := Lib.hid rfl
        generalize hM : eM xs ys k = M at hN ⊢
        clear hM
        go_wp2_with fail
        refine (excess_c _ _ _ _ _ _ k xs ys _ (hr.next hbl) (hq.next hbl) hv'.out (by omega)).mono ?_
        generalize exc xs ys k = y at hN ⊢
        rintro e w1 ⟨rfl, hb1⟩
        by_cases hyt : y ≤ M
        · have hN2 := Lib.hid (hN.out.trans (show max M y = M by omega))
          clear hN
          go_wp2
          all_goals
            (refine ⟨⟨k + 1, by omega, by go_num, by rw [hN2.out], lo_trans hbl hb1⟩, ?_⟩; simp [intOf]; omega)
        · have hN2 := Lib.hid (hN.out.trans (show max M y = y by omega))
          have hyt2 : M < y := by omega
          clear hN
          go_wp2
          all_goals
            (refine ⟨⟨k + 1, by omega, by go_num, by rw [hN2.out], lo_trans hbl hb1⟩, ?_⟩; simp [intOf]; omega)
      · obtain rfl : k = n + 1 := by omega
        go_wp2
        go_ret
        exact ⟨by rw [hT.out]; rfl, hbl⟩

/-- the least among the first k -/
def fM (r c : List Int) : Nat → Int
  | 0 => r.sum
  | k + 1 => min (fM r c k) (r.sum - exc r c k)
theorem fM_le (r c : List Int) : ∀ {k s : Nat}, s < k → fM r c k ≤ r.sum - exc r c s
  | k + 1, s, h => by
    simp only [fM]
    rcases Nat.lt_or_ge s k with h1 | h1
    · have := fM_le r c h1; omega
    · obtain rfl : s = k := by omega
      omega
theorem exc_le_sum {r c : List Int} (hr : ∀ x ∈ r, 0 ≤ x) (hc : ∀ x ∈ c, 0 ≤ x) (t : Nat) : exc r c t ≤ r.sum := by
  have h1 := mSum_nonneg (c := c) (t := (t : Int)) hc (by omega)
  have h2 : tSum r t ≤ r.sum := by
    rw [tSum]
    have h3 : ((dsort r).take t).sum + ((dsort r).drop t).sum = r.sum := by
      rw [← List.sum_append, List.take_append_drop]
      exact perm_sum (dsort_perm r)
    have h4 : 0 ≤ ((dsort r).drop t).sum := by
      have : ∀ l : List Int, (∀ x ∈ l, 0 ≤ x) → 0 ≤ l.sum := by
        intro l
        induction l with
        | nil => intro _; simp
        | cons a l ih => intro h; have := ih (fun x hx => h x (by simp [hx])); have := h a (by simp); simp; omega
      exact this _ (fun x hx => hr x ((dsort_perm r).mem_iff.1 (List.mem_of_mem_drop hx)))
    omega
  rw [exc]
  omega
theorem fM_nonneg {r c : List Int} (hr : ∀ x ∈ r, 0 ≤ x) (hc : ∀ x ∈ c, 0 ≤ x) (h0 : 0 ≤ r.sum) : ∀ k, 0 ≤ fM r c k
  | 0 => h0
  | k + 1 => by
    simp only [fM]
    have := fM_nonneg hr hc h0 k
    have := exc_le_sum hr hc k
    omega
theorem exc_ge {r c : List Int} (hr : ∀ x ∈ r, 0 ≤ x ∧ x ≤ 6) (hc : ∀ x ∈ c, 0 ≤ x ∧ x ≤ 6) (hcl : c.length ≤ 6) (t : Nat) : -36 ≤ exc r c t := by
  have h1 := mSum_bd (cols := c) (t := (t : Int)) hc (by omega)
  have h2 := sum_bd (M := 6) (xs := (dsort r).take t) (fun x hx => hr x ((dsort_perm r).mem_iff.1 (List.mem_of_mem_take hx)))
  rw [exc, tSum]
  omega
/-- FillMost -/
def sFill (r c : List Int) : Int := if sV r c = true then fM r c (r.length + 1) else -1

set_option maxHeartbeats 2000000 in
theorem FillMost_c (A B : Option Addr) (n m c d : Nat) (xs ys : List Int) (w : World) (hr : Rd w A n xs) (hq : Rd w B m ys) (hv : sV xs ys = true) :
    Calls Try.prog 19 #[.slice A n c, .slice B m d] w fun e w' => e = .returned (.int .i64 (fM xs ys (n + 1))) ∧ Below w.heap.size w w' := by
  have hb := sV_out hv
  rw [hr.1, hq.1] at hb
  obtain ⟨b1, b2, b3, b4, b5, b6⟩ := hb
  have hx6 : ∀ x ∈ xs, 0 ≤ x ∧ x ≤ 6 := fun x hx => by have := b5 x hx; omega
  have hy6 : ∀ x ∈ ys, 0 ≤ x ∧ x ≤ 6 := fun x hx => by have := b6 x hx; omega
  have hsb := sum_bd hx6
  rw [hr.1] at hsb
  have hge : Hid (∀ t, -36 ≤ exc xs ys t) := Lib.hid (fun t => exc_ge hx6 hy6 (by rw [hq.1]; omega) t)
  have hle : Hid (∀ t, exc xs ys t ≤ xs.sum) := Lib.hid (fun t => exc_le_sum (fun x hx => (hx6 x hx).1) (fun x hx => (hy6 x hx).1) t)
  have hf0 : Hid (fM xs ys 0 = xs.sum) := Lib.hid rfl
  have hx6' := Lib.hid hx6
  have hv' := Lib.hid hv
  have hN0 : Hid (∀ k, fM xs ys (k + 1) = min (fM xs ys k) (xs.sum - exc xs ys k)) := Lib.hid (fun _ => rfl)
  clear b5 b6 hx6 hy6
  go_enter Try.func19, Try.ntmps19
  go_wp2_with fail
  refine (SumsValid_c _ _ _ _ _ _ xs ys _ hr hq (by omega) (by omega)).mono ?_
  rw [hv]
  rintro e w' ⟨rfl, rfl⟩
  clear hv
  go_wp2_with fail
  refine (total_c _ _ _ 6 _ _ hr (by omega) (by omega) (by omega) hx6'.out).mono ?_
  rintro e w' ⟨rfl, rfl⟩
  rw [← hf0.out]
  rw [← hf0.out] at hsb hle hN0
  generalize hS : fM xs ys 0 = S at hsb hle hN0 ⊢
  have hS' := Lib.hid hS; clear hS
  have hf0' := Lib.hid (hf0.out.symm.trans hS'.out); clear hf0
  go_wp2
  go_loopw [5, 16] (fun s i wr => ∃ k : Nat, k ≤ n + 1 ∧ i = .int .i64 k ∧ s = .int .i64 (fM xs ys k) ∧ Below w.heap.size w wr) (fun _ i _ => n + 1 - (intOf i).toNat)
  case atStart => exact ⟨0, Nat.zero_le _, rfl, by rw [hS'.out], Below.refl _ _⟩
  case round =>
    obtain ⟨k, hk, rfl, rfl, hbl⟩ := hrel
    by_cases hlt : k < n + 1
    · have hN := Lib.hid (hN0.out k)
      generalize fM xs ys k = M at hN ⊢
      go_wp2_with fail
      refine (total_c _ _ _ 6 _ _ (hr.next hbl) (by omega) (by omega) (by omega) hx6'.out).mono ?_
      rintro e w' ⟨rfl, rfl⟩
      rw [hf0'.out]
      go_wp2_with fail
      refine (excess_c _ _ _ _ _ _ k xs ys _ (hr.next hbl) (hq.next hbl) hv'.out (by omega)).mono ?_
      have hy1 := hge.out k
      have hy2 := hle.out k
      generalize exc xs ys k = y at hN hy1 hy2 ⊢
      rintro e w1 ⟨rfl, hb1⟩
      by_cases hyt : M ≤ S - y
      · have hN2 := Lib.hid (hN.out.trans (show min M (S - y) = M by omega))
        clear hN
        go_wp2
        all_goals
          (refine ⟨⟨k + 1, by omega, by go_num, by rw [hN2.out], lo_trans hbl hb1⟩, ?_⟩; simp [intOf]; omega)
      · have hN2 := Lib.hid (hN.out.trans (show min M (S - y) = S - y by omega))
        have hyt2 : S - y < M := by omega
        clear hN
        go_wp2
        all_goals
          (refine ⟨⟨k + 1, by omega, by go_num, by rw [hN2.out], lo_trans hbl hb1⟩, ?_⟩; simp [intOf]; omega)
    · obtain rfl : k = n + 1 := by omega
      go_wp2
      go_ret
      exact ⟨rfl, hbl⟩

set_option maxHeartbeats 1000000 in
theorem sumOf_any (A : Option Addr) (n c : Nat) (xs : List Int) (w : World) (hr : Rd w A n xs) (hn : n ≤ 1000000) :
    Calls Try.prog 14 #[.slice A n c] w fun e w' => (∃ v : Int, e = .returned (.int .i64 v)) ∧ w = w' := by
  go_enter Try.func14, Try.ntmps14
  go_wp2
  go_loop [3, 4] (fun s i => ∃ (k : Nat) (v : Int), k ≤ n ∧ i = .int .i64 k ∧ s = .int .i64 v) (fun _ i => n - (intOf i).toNat)
  case atStart => exact ⟨0, 0, Nat.zero_le _, rfl, rfl⟩
  case round =>
    obtain ⟨k, v, hk, rfl, rfl⟩ := hrel
    by_cases hlt : k < n
    · obtain ⟨b, off, rfl, hb, hc⟩ := hr.at_ hlt
      go_wp2
      go_round
      case rel => exact ⟨k + 1, _, by omega, by go_num, rfl⟩
      case measure => simp [intOf]; omega
    · obtain rfl : k = n := by omega
      go_wp2
      go_ret
      exact ⟨⟨v, rfl⟩, rfl⟩

set_option maxHeartbeats 1000000 in
theorem sumOf_c (A : Option Addr) (n c : Nat) (M : Int) (xs : List Int) (w : World) (hr : Rd w A n xs) (hn : n ≤ 1000000) (hM0 : 0 ≤ M) (hM : M ≤ 1000000) (hx : ∀ x ∈ xs, 0 ≤ x ∧ x ≤ M) :
    Calls Try.prog 14 #[.slice A n c] w fun e w' => e = .returned (.int .i64 xs.sum) ∧ w = w' := by
  have hxl := Lib.hid hr.1
  have hx' := Lib.hid hx; clear hx
  go_enter Try.func14, Try.ntmps14
  go_wp2
  go_loop [3, 4] (fun s i => ∃ k : Nat, k ≤ n ∧ i = .int .i64 k ∧ s = .int .i64 (xs.take k).sum) (fun _ i => n - (intOf i).toNat)
  case atStart => exact ⟨0, Nat.zero_le _, rfl, by simp⟩
  case round =>
    obtain ⟨k, hk, rfl, rfl⟩ := hrel
    by_cases hlt : k < n
    · obtain ⟨b, off, rfl, hb, hc⟩ := hr.at_ hlt
      have hN := Lib.hid (sum_snoc xs (hxl.out ▸ hlt : k < xs.length))
      have h1 := sum_take_bd hx'.out hM hM0 (by rw [hxl.out]; exact hn) k
      have h2 := hx'.out _ (mem_at (hxl.out ▸ hlt : k < xs.length))
      generalize (xs.take k).sum = s at hN h1 ⊢
      go_wp2
      go_round
      case rel => exact ⟨k + 1, by omega, by go_num, by rw [hN.out]⟩
      case measure => simp [intOf]; omega
    · obtain rfl : k = n := by omega
      have hF := Lib.hid (show (xs.take k).sum = xs.sum by rw [List.take_of_length_le (Nat.le_of_eq hxl.out)])
      go_wp2
      go_ret
      exact ⟨by rw [hF.out]; rfl, rfl⟩
end Go.Proofs.Ytljmlhcmjgepcaa
