/- The law FnProofOrder walked. -/
import Derived.Test.YtiepnobcokadaaaAq
namespace Go.Proofs.Ytiepnobcokadaaa
open Go.RowKit
set_option maxRecDepth 100000

theorem pVal_none' {r c : List Int} (h : pOf r c = none) : pVal (pOf r c) = .tuple #[.int .i64 0, .bool false] := by rw [h]; rfl
theorem pVal_some' {r c : List Int} {t : Nat} (h : pOf r c = some t) : pVal (pOf r c) = .tuple #[.int .i64 (t : Nat), .bool true] := by rw [h]; rfl
theorem turn_perm (xs : List Int) (k : Nat) : (xs.drop k ++ xs.take k).Perm xs := by
  have := List.perm_append_comm (l₁ := xs.drop k) (l₂ := xs.take k)
  rwa [List.take_append_drop] at this

theorem below_app {a b c : World} {g : Nat} (h : Below a.heap.size a b) (hg : b.grownBy c (some g)) (hl : a.heap.size ≤ g) : Below a.heap.size a c := h.grown hg h.size (by rintro _ ⟨⟩; exact hl)

set_option maxHeartbeats 8000000 in
theorem law_ProofOrder (A : Option Addr) (n c : Nat) (B : Option Addr) (m d : Nat) (w : World) (hr : RdB w A n) (hb : n ≤ maxLen ∧ n ≤ c) (_ : RdB w B m) (_ : m ≤ maxLen ∧ m ≤ d) :
    Calls Try.prog 8 #[.slice A n c, .slice B m d] w fun e w' => e = .returned (.bool true) ∧ Below w.heap.size w w' := by
  by_cases h1 : 1048576 < n
  · go_enter Try.func8, Try.ntmps8
    go_wp2
    go_ret
    exact ⟨rfl, by (repeat (first | exact Below.refl _ _ | assumption | refine lo_alloc ?_ _ | refine lo_set ?_ (by simp; try omega) _ | refine Below.drew ?_ | refine below_drewN ?_ _ | refine lo_trans ?_ (by assumption) | refine lo_wr ?_ (by assumption) (by omega)))⟩
  by_cases h2 : 1048576 < m
  · go_enter Try.func8, Try.ntmps8
    go_wp2
    go_ret
    exact ⟨rfl, by (repeat (first | exact Below.refl _ _ | assumption | refine lo_alloc ?_ _ | refine lo_set ?_ (by simp; try omega) _ | refine Below.drew ?_ | refine below_drewN ?_ _ | refine lo_trans ?_ (by assumption) | refine lo_wr ?_ (by assumption) (by omega)))⟩
  go_enter Try.func8, Try.ntmps8
  go_wp2_with fail
  refine (DrawProofOf_c A n c _ hr (by omega) hb.2).mono ?_
  rintro e w1 ⟨R, rn, rc, Q, qn, qc, xs, ys, rfl, hrn, hqn, hrc, hqc, hB, hQ, hb1⟩
  cases ho : pOf xs ys with
  | none =>
    have hv := pVal_none' ho
    go_wp2_with fail
    refine (impl_ProofOf_c _ _ _ _ _ _ xs ys _ hB.rd hQ.rd (by omega) (by omega)).mono ?_
    rw [hv]
    rintro e w2 ⟨rfl, hb2⟩
    go_wp2_with fail
    refine (spec_ProofOf_c _ _ _ _ _ _ xs ys _ (hB.next hb2).rd (hQ.next hb2).rd (by omega) (by omega)).mono ?_
    rw [hv]
    rintro e w3 ⟨rfl, hb3⟩
    go_wp2
    go_ret
    exact ⟨rfl, by (repeat (first | exact Below.refl _ _ | assumption | refine lo_alloc ?_ _ | refine lo_set ?_ (by simp; try omega) _ | refine Below.drew ?_ | refine below_drewN ?_ _ | refine lo_trans ?_ (by assumption) | refine lo_wr ?_ (by assumption) (by omega)))⟩
  | some t =>
    have hv := pVal_some' ho
    obtain ⟨hp, hl⟩ := pOf_some ho
    clear hl
    obtain ⟨hv1, _, hp1, _⟩ := pOk_iff.1 hp
    rw [hB.1] at hp1
    obtain ⟨hr1, hr6, hq1, hq6, _, _⟩ := sV_out hv1
    rw [hB.1] at hr1 hr6
    rw [hQ.1] at hq1 hq6
    clear hp hv1
    have ho' := Lib.hid ho; clear ho
    go_wp2_with fail
    refine (impl_ProofOf_c _ _ _ _ _ _ xs ys _ hB.rd hQ.rd (by omega) (by omega)).mono ?_
    rw [hv]
    rintro e w2 ⟨rfl, hb2⟩
    have hB2 := hB.next hb2
    have hQ2 := hQ.next hb2
    go_wp2_with fail
    refine (spec_ProofOf_c _ _ _ _ _ _ xs ys _ hB2.rd hQ2.rd (by omega) (by omega)).mono ?_
    rw [hv]
    rintro e w3 ⟨rfl, hb3⟩
    obtain ⟨gR, rfl, _, hgR, _⟩ := (hB2.next hb3).at_ (k := 0) (by omega)
    obtain ⟨gQ, rfl, _, hgQ, _⟩ := (hQ2.next hb3).at_ (k := 0) (by omega)
    have hB3 := (hB2.next hb3).rd
    have hQ3 := (hQ2.next hb3).rd
    have hL3 : Below w.heap.size w w3 := lo_trans (lo_trans hb1 hb2) hb3
    clear hb1 hb2 hb3 hB hQ hB2 hQ2 hv
    have e1 : (m : Int).tmod (rn : Int) = ((m % rn : Nat) : Int) := by rw [Int.tmod_eq_emod_of_nonneg (by omega)]; simp
    have e2 : (m : Int) % (rn : Int) = ((m % rn : Nat) : Int) := by simp
    have e3 : (m : Int).tdiv 7 = ((m / 7 : Nat) : Int) := by rw [Int.tdiv_eq_ediv_of_nonneg (by omega)]; simp
    have e4 : (m : Int) / 7 = ((m / 7 : Nat) : Int) := by simp
    have e5 : ((m / 7 : Nat) : Int).tmod (qn : Int) = ((m / 7 % qn : Nat) : Int) := by rw [Int.tmod_eq_emod_of_nonneg (by omega)]; simp
    have e6 : ((m / 7 : Nat) : Int) % (qn : Int) = ((m / 7 % qn : Nat) : Int) := by simp
    have hk : m % rn < rn := Nat.mod_lt _ (by omega)
    have hl : m / 7 % qn < qn := Nat.mod_lt _ (by omega)
    have h7 : m / 7 ≤ m := Nat.div_le_self _ _
    generalize m % rn = k at hk e1 e2
    generalize m / 7 % qn = l at hl e5 e6
    generalize m / 7 = m7 at e3 e4 e5 e6 h7
    have k0 : (0 : Int) ≤ (k : Int) := by omega
    have k1 : (k : Int) ≤ (rn : Int) := by omega
    have k2 : (k : Int) ≤ (rc : Int) := by omega
    have k3 : ¬ rc = k := by omega
    have l0 : (0 : Int) ≤ (l : Int) := by omega
    have l1 : (l : Int) ≤ (qn : Int) := by omega
    have l2 : (l : Int) ≤ (qc : Int) := by omega
    have l3 : ¬ qc = l := by omega
    have k4 : ¬ rc = 0 := by omega
    have l4 : ¬ qc = 0 := by omega
    have hxl := Lib.hid hB3.1
    have hyl := Lib.hid hQ3.1
    go_wp2
    go_region_held3 (fun _ => True) (trivial)
      (first
        | ((refine step_append (by rfl) _ _ (by rfl) w3.heap.size _ _ 0 [] (by rfl) rfl (Buf.empty _ (by simp)) gR k (rn - k) _ (xs.drop k) (by rfl) ((hB3.dropN (by omega)).next (by (repeat (first | exact Below.refl _ _ | assumption | refine lo_alloc ?_ _ | refine lo_set ?_ (by simp; try omega) _ | refine Below.drew ?_ | refine below_drewN ?_ _ | refine lo_trans ?_ (by assumption) | refine lo_wr ?_ (by assumption) (by omega))))) (by omega) (by simp) ?_); intro g1 c1 w4 hA4 hg4 hat4; have hb4 := below_app (a := w3) (by (repeat (first | exact Below.refl _ _ | assumption | refine lo_alloc ?_ _ | refine lo_set ?_ (by simp; try omega) _ | refine Below.drew ?_ | refine below_drewN ?_ _ | refine lo_trans ?_ (by assumption) | refine lo_wr ?_ (by assumption) (by omega)))) hg4 (by simp))
        | ((refine step_append (by rfl) _ _ (by rfl) w3.heap.size _ _ _ _ (by rfl) (by simp [hxl.out]) hA4 gR 0 k _ (xs.take k) (by rfl) ((hB3.take (by omega)).next (by (repeat (first | exact Below.refl _ _ | assumption | refine lo_alloc ?_ _ | refine lo_set ?_ (by simp; try omega) _ | refine Below.drew ?_ | refine below_drewN ?_ _ | refine lo_trans ?_ (by assumption) | refine lo_wr ?_ (by assumption) (by omega))))) (by omega) hb4.size ?_); intro g2 c2 w5 hA5 hg5 hat5; have hb5 := below_app (a := w3) (by (repeat (first | exact Below.refl _ _ | assumption | refine lo_alloc ?_ _ | refine lo_set ?_ (by simp; try omega) _ | refine Below.drew ?_ | refine below_drewN ?_ _ | refine lo_trans ?_ (by assumption) | refine lo_wr ?_ (by assumption) (by omega)))) hg5 (hA4.lt _ rfl).1))
    have hkk : rn - k + k = rn := by omega
    rw [hkk]
    have hX5 : Own w5 w3.heap.size (some ⟨g2, 0, none⟩) rn (xs.drop k ++ xs.take k) := by
      have h := hA5.own
      rw [List.nil_append, List.length_append, List.length_drop, List.length_take, hxl.out, Nat.min_eq_left (by omega), hkk] at h
      exact h
    have hQ5 := hQ3.next hb5
    have hL5 : Below w.heap.size w w5 := lo_trans hL3 hb5
    have hs5 := hb5.size
    clear hA5 hg5 hat5 hA4 hg4 hat4 hb4 hb5 hkk hB3 hQ3 hL3 e1 e2 e3 e4 e5 e6 k0 k1 k2 k3 k4
    go_wp2
    go_region_held3 (fun _ => True) (trivial)
      (first
        | ((refine step_append (by rfl) _ _ (by rfl) w5.heap.size _ _ 0 [] (by rfl) rfl (Buf.empty _ (by simp)) gQ l (qn - l) _ (ys.drop l) (by rfl) ((hQ5.dropN (by omega)).next (by (repeat (first | exact Below.refl _ _ | assumption | refine lo_alloc ?_ _ | refine lo_set ?_ (by simp; try omega) _ | refine Below.drew ?_ | refine below_drewN ?_ _ | refine lo_trans ?_ (by assumption) | refine lo_wr ?_ (by assumption) (by omega))))) (by omega) (by simp) ?_); intro g3 c3 w6 hA6 hg6 hat6; have hb6 := below_app (a := w5) (by (repeat (first | exact Below.refl _ _ | assumption | refine lo_alloc ?_ _ | refine lo_set ?_ (by simp; try omega) _ | refine Below.drew ?_ | refine below_drewN ?_ _ | refine lo_trans ?_ (by assumption) | refine lo_wr ?_ (by assumption) (by omega)))) hg6 (by simp))
        | ((refine step_append (by rfl) _ _ (by rfl) w5.heap.size _ _ _ _ (by rfl) (by simp [hyl.out]) hA6 gQ 0 l _ (ys.take l) (by rfl) ((hQ5.take (by omega)).next (by (repeat (first | exact Below.refl _ _ | assumption | refine lo_alloc ?_ _ | refine lo_set ?_ (by simp; try omega) _ | refine Below.drew ?_ | refine below_drewN ?_ _ | refine lo_trans ?_ (by assumption) | refine lo_wr ?_ (by assumption) (by omega))))) (by omega) hb6.size ?_); intro g4 c4 w7 hA7 hg7 hat7; have hb7 := below_app (a := w5) (by (repeat (first | exact Below.refl _ _ | assumption | refine lo_alloc ?_ _ | refine lo_set ?_ (by simp; try omega) _ | refine Below.drew ?_ | refine below_drewN ?_ _ | refine lo_trans ?_ (by assumption) | refine lo_wr ?_ (by assumption) (by omega)))) hg7 (hA6.lt _ rfl).1))
    have hll : qn - l + l = qn := by omega
    rw [hll]
    have hY7 : Own w7 w5.heap.size (some ⟨g4, 0, none⟩) qn (ys.drop l ++ ys.take l) := by
      have h := hA7.own
      rw [List.nil_append, List.length_append, List.length_drop, List.length_take, hyl.out, Nat.min_eq_left (by omega), hll] at h
      exact h
    have hX7 := (hX5.next hb7).rd
    have hL7 : Below w.heap.size w w7 := lo_trans hL5 hb7
    clear hA7 hg7 hat7 hA6 hg6 hat6 hb6 hb7 hll hQ5 hL5 l0 l1 l2 l3 l4
    have hv : pVal (pOf (xs.drop k ++ xs.take k) (ys.drop l ++ ys.take l)) = .tuple #[.int .i64 (t : Nat), .bool true] := pVal_some' (by rw [pOf_perm (turn_perm xs k) (turn_perm ys l)]; exact ho'.out)
    go_wp2_with fail
    refine (impl_ProofOf_c _ _ _ _ _ _ _ _ _ hX7 hY7.rd (by omega) (by omega)).mono ?_
    rw [hv]
    clear hv
    rintro e w8 ⟨rfl, hb8⟩
    go_wp2
    go_ret
    exact ⟨rfl, lo_trans hL7 hb8⟩
end Go.Proofs.Ytiepnobcokadaaa
