/- The law FnProofLess walked. -/
import Derived.Test.YtiepnobcokadaaaSe
namespace Go.Proofs.Ytiepnobcokadaaa
open Go.RowKit
set_option maxRecDepth 100000

theorem mSum_set {c : List Int} {t y : Int} : ∀ {k : Nat}, k < c.length → y ≤ c[k]?.getD 0 → mSum (c.set k y) t ≤ mSum c t := by
  induction c with
  | nil => intro k h; simp at h
  | cons a l ih =>
    intro k h hy
    cases k with
    | zero =>
      simp [mSum] at hy ⊢
      omega
    | succ k =>
      have := ih (k := k) (by simpa using h) (by simpa using hy)
      simp [mSum] at this ⊢
      omega
theorem pOk_less {r c : List Int} {t y : Int} {k : Nat} (h : pOk r c t = true) (hk : k < c.length) (hy0 : 0 ≤ y) (hy : y ≤ c[k]?.getD 0) : pOk r (c.set k y) t = true := by
  obtain ⟨h1, h2, h3, h4⟩ := pOk_iff.1 h
  refine pOk_iff.2 ⟨?_, h2, h3, ?_⟩
  · obtain ⟨b1, b2, b3, b4, b5, b6⟩ := sV_out h1
    simp only [sV, Bool.and_eq_true, sIn_iff, List.length_set]
    refine ⟨⟨b1, b2, b5⟩, ⟨b3, b4, fun x hx => ?_⟩⟩
    rcases List.mem_or_eq_of_mem_set hx with h | rfl
    · exact b6 x h
    · have := b6 _ (mem_at hk); omega
  · have := mSum_set (t := (t.toNat : Int)) hk hy
    simp only [exc] at h4 ⊢
    omega

set_option maxHeartbeats 4000000 in
theorem law_ProofLess (A : Option Addr) (n c : Nat) (B : Option Addr) (m d : Nat) (w : World) (hr : RdB w A n) (hb : n ≤ maxLen ∧ n ≤ c) (_ : RdB w B m) (_ : m ≤ maxLen ∧ m ≤ d) :
    Calls Try.prog 6 #[.slice A n c, .slice B m d] w fun e w' => e = .returned (.bool true) ∧ Below w.heap.size w w' := by
  by_cases h1 : 1048576 < n
  · go_enter Try.func6, Try.ntmps6
    go_wp2
    go_ret
    exact ⟨rfl, by (repeat (first | exact Below.refl _ _ | assumption | refine lo_alloc ?_ _ | refine lo_set ?_ (by simp; try omega) _ | refine Below.drew ?_ | refine below_drewN ?_ _ | refine lo_trans ?_ (by assumption) | refine lo_wr ?_ (by assumption) (by omega)))⟩
  by_cases h2 : 1048576 < m
  · go_enter Try.func6, Try.ntmps6
    go_wp2
    go_ret
    exact ⟨rfl, by (repeat (first | exact Below.refl _ _ | assumption | refine lo_alloc ?_ _ | refine lo_set ?_ (by simp; try omega) _ | refine Below.drew ?_ | refine below_drewN ?_ _ | refine lo_trans ?_ (by assumption) | refine lo_wr ?_ (by assumption) (by omega)))⟩
  go_enter Try.func6, Try.ntmps6
  go_wp2_with fail
  refine (DrawProofOk_c A n c _ hr (by omega) hb.2).mono ?_
  rintro e w1 ⟨R, rn, rc, Q, qn, qc, xs, ys, t, rfl, hn, hm, hB, hQ, hb1⟩
  cases hp : pOk xs ys t with
  | false =>
    go_wp2_with fail
    refine (impl_ProofOk_c _ _ _ _ _ _ t xs ys _ hB.rd hQ.rd (by omega) (by omega)).mono ?_
    rw [hp]
    rintro e w2 ⟨rfl, hb2⟩
    go_wp2_with fail
    refine (spec_ProofOk_c _ _ _ _ _ _ t xs ys _ (hB.next hb2).rd (hQ.next hb2).rd (by omega) (by omega)).mono ?_
    rw [hp]
    rintro e w3 ⟨rfl, hb3⟩
    go_wp2
    go_ret
    exact ⟨rfl, by (repeat (first | exact Below.refl _ _ | assumption | refine lo_alloc ?_ _ | refine lo_set ?_ (by simp; try omega) _ | refine Below.drew ?_ | refine below_drewN ?_ _ | refine lo_trans ?_ (by assumption) | refine lo_wr ?_ (by assumption) (by omega)))⟩
  | true =>
    have hp' := Lib.hid hp; clear hp
    obtain ⟨hv, h0, h3, _⟩ := pOk_iff.1 hp'.out
    obtain ⟨_, _, hq1, hq2, _, hq6⟩ := sV_out hv
    rw [hQ.1] at hq1 hq2
    rw [hB.1] at hq6 h3
    go_wp2_with fail
    refine (impl_ProofOk_c _ _ _ _ _ _ t xs ys _ hB.rd hQ.rd (by omega) (by omega)).mono ?_
    rw [hp'.out]
    rintro e w2 ⟨rfl, hb2⟩
    have hB2 := hB.next hb2
    have hQ2 := hQ.next hb2
    go_wp2_with fail
    refine (spec_ProofOk_c _ _ _ _ _ _ t xs ys _ hB2.rd hQ2.rd (by omega) (by omega)).mono ?_
    rw [hp'.out]
    rintro e w3 ⟨rfl, hb3⟩
    have hB3 := (hB2.next hb3).rd
    have hQ3 := (hQ2.next hb3).rd
    have hL3 : Below w.heap.size w w3 := lo_trans (lo_trans hb1 hb2) hb3
    have hql := Lib.hid (hQ.1)
    clear hb1 hb2 hb3 hB hQ hB2 hQ2 hv
    have hB0 : Buf (w3.alloc (.cells #[] 3)) w3.heap.size (some ⟨w3.heap.size, 0, none⟩) 0 [] := ⟨rfl, .inr ⟨w3.heap.size, 0, #[], rfl, Nat.le_refl _, Blk.new _ _ _, Nat.le_refl _, Nat.zero_le _, rfl, rfl⟩⟩
    have hQ0 := hQ3.alloc (.cells #[] 3)
    have e1 : (m : Int).tmod (qn : Int) = ((m % qn : Nat) : Int) := by rw [Int.tmod_eq_emod_of_nonneg (by omega)]; simp
    have e2 : (m : Int) % (qn : Int) = ((m % qn : Nat) : Int) := by simp
    have hidx : m % qn < qn := Nat.mod_lt _ (by omega)
    generalize m % qn = k at hidx e1 e2
    have hv6 := hq6 _ (mem_at (show k < ys.length by rw [hql.out]; exact hidx))
    generalize hvA : ys[k]?.getD 0 = v at hv6
    have hvA' := Lib.hid hvA; clear hvA
    rcases (show v = 0 ∨ v = 1 ∨ 2 ≤ v by omega) with rfl | rfl | hv0
    · go_wp2_with (at_builtin; refine (wpl_append rfl _ _ rfl w3.heap.size _ 0 0 [] rfl rfl hB0 _ qn _ ys rfl hQ0 (by omega) (by omega) (by simp) ?_); intro g c' w4 hB4 hg4 hat; rw [List.nil_append] at hB4; obtain ⟨gA, eA, lA, zA, cA, fA⟩ := hB4.at_ (k := k) (n := qn) hql.out hidx; cases eA; rw [hvA'.out] at cA)
      have hb4 : Below w3.heap.size w3 w4 := by
        have := (lo_alloc (Below.refl w3.heap.size w3) (.cells #[] 3)).grown hg4 (by simp) (by rintro _ ⟨⟩; exact Nat.le_refl _)
        exact this
      have hb5 := hb4.setCell (p := ⟨g, k, none⟩) lA (.int .i64 (0))
      have hB5 := (hB4.set (k := k) (0)).own
      rw [List.length_set, hql.out] at hB5
      have hP5 := Lib.hid (pOk_less (k := k) (y := 0) hp'.out (hql.out.symm ▸ hidx) (by omega) (by rw [hvA'.out]; omega))
      clear hg4 hB4 hat
      refine (impl_ProofOk_c _ _ _ _ _ _ t xs _ _ (hB3.next hb5) hB5.rd (by omega) (by omega)).mono ?_
      rw [hP5.out]
      rintro e w6 ⟨rfl, hb6⟩
      go_wp2
      go_ret
      exact ⟨rfl, lo_trans (lo_trans hL3 hb5) hb6⟩
    · go_wp2_with (at_builtin; refine (wpl_append rfl _ _ rfl w3.heap.size _ 0 0 [] rfl rfl hB0 _ qn _ ys rfl hQ0 (by omega) (by omega) (by simp) ?_); intro g c' w4 hB4 hg4 hat; rw [List.nil_append] at hB4; obtain ⟨gA, eA, lA, zA, cA, fA⟩ := hB4.at_ (k := k) (n := qn) hql.out hidx; cases eA; rw [hvA'.out] at cA)
      have hb4 : Below w3.heap.size w3 w4 := by
        have := (lo_alloc (Below.refl w3.heap.size w3) (.cells #[] 3)).grown hg4 (by simp) (by rintro _ ⟨⟩; exact Nat.le_refl _)
        exact this
      have hb5 := hb4.setCell (p := ⟨g, k, none⟩) lA (.int .i64 (0))
      have hB5 := (hB4.set (k := k) (0)).own
      rw [List.length_set, hql.out] at hB5
      have hP5 := Lib.hid (pOk_less (k := k) (y := 0) hp'.out (hql.out.symm ▸ hidx) (by omega) (by rw [hvA'.out]; omega))
      clear hg4 hB4 hat
      refine (impl_ProofOk_c _ _ _ _ _ _ t xs _ _ (hB3.next hb5) hB5.rd (by omega) (by omega)).mono ?_
      rw [hP5.out]
      rintro e w6 ⟨rfl, hb6⟩
      go_wp2
      go_ret
      exact ⟨rfl, lo_trans (lo_trans hL3 hb5) hb6⟩
    · obtain ⟨u, rfl⟩ : ∃ u : Nat, v = u + 1 := ⟨(v - 1).toNat, by omega⟩
      have hu0 : (0 : Int) < (u : Int) := by omega
      clear hv0
      go_wp2_with (at_builtin; refine (wpl_append rfl _ _ rfl w3.heap.size _ 0 0 [] rfl rfl hB0 _ qn _ ys rfl hQ0 (by omega) (by omega) (by simp) ?_); intro g c' w4 hB4 hg4 hat; rw [List.nil_append] at hB4; obtain ⟨gA, eA, lA, zA, cA, fA⟩ := hB4.at_ (k := k) (n := qn) hql.out hidx; cases eA; rw [hvA'.out] at cA)
      have hb4 : Below w3.heap.size w3 w4 := by
        have := (lo_alloc (Below.refl w3.heap.size w3) (.cells #[] 3)).grown hg4 (by simp) (by rintro _ ⟨⟩; exact Nat.le_refl _)
        exact this
      have hb5 := hb4.setCell (p := ⟨g, k, none⟩) lA (.int .i64 ((u : Int)))
      have hB5 := (hB4.set (k := k) ((u : Int))).own
      rw [List.length_set, hql.out] at hB5
      have hP5 := Lib.hid (pOk_less (k := k) (y := (u : Int)) hp'.out (hql.out.symm ▸ hidx) (by omega) (by rw [hvA'.out]; omega))
      clear hg4 hB4 hat
      refine (impl_ProofOk_c _ _ _ _ _ _ t xs _ _ (hB3.next hb5) hB5.rd (by omega) (by omega)).mono ?_
      rw [hP5.out]
      rintro e w6 ⟨rfl, hb6⟩
      go_wp2
      go_ret
      exact ⟨rfl, lo_trans (lo_trans hL3 hb5) hb6⟩
end Go.Proofs.Ytiepnobcokadaaa
