
/- Plain mathematics: what holds of weights. -/
import Derived.Test.YtnbaedpckdefgaaKa
namespace Go.Proofs.Ytnbaedpckdefgaa

theorem wOk_bd {p q : List Int} (h : wOk p q = true) : 1 ≤ p.length ∧ p.length ≤ 6 ∧ 1 ≤ q.length ∧ q.length ≤ 6 := by
  simp only [wOk, Bool.and_eq_true] at h
  have h1 := wIn_len h.1.1
  have h2 := wIn_len h.1.2
  omega
theorem wX_ok {p q : List Int} (h : wOk p q = true) : okB (wW p q) (wX p q) = true := by
  have hb := wOk_bd h
  simp only [wW, wX, h, if_true]
  exact okB_img hb.1 hb.2.1 hb.2.2.1 hb.2.2.2
theorem wFit_self {p q : List Int} (h : wOk p q = true) : wFit (wW p q) (wX p q) p q = true := by simp [wFit, h, wX_ok h]
theorem pop_mono {r s : Nat} (h : ∀ j, r.testBit j = true → s.testBit j = true) : pop r ≤ pop s := List.countP_mono_left (fun j _ => h j)
theorem wX_get {p q : List Int} (h : wOk p q = true) {i : Nat} (hi : i < p.length) : (wX p q)[i]?.getD 0 = (mkRow (wF p q i) q.length : Int) := by
  simp only [wX, h, if_true]; exact img_get hi
theorem wX_length {p q : List Int} (h : wOk p q = true) : (wX p q).length = p.length := by simp [wX, h, img_len]
theorem rS_get {W : Int} {xs : List Int} (h : okB W xs = true) {i : Nat} (hi : i < xs.length) : (rSums W xs)[i]?.getD 0 = (pop (xs[i]?.getD 0).toNat : Int) := by
  simp [rSums, h, rsum, List.getElem?_eq_getElem hi]
theorem rS_len {W : Int} {xs : List Int} (h : okB W xs = true) : (rSums W xs).length = xs.length := by simp [rSums, h, rsum]
theorem cS_get {m : Nat} {xs : List Int} (h : okB m xs = true) {j : Nat} (hj : j < m) : (cSums m xs)[j]?.getD 0 = (ccnt xs j : Int) := by
  simp [cSums, h, csum, hj]
theorem cS_len {m : Nat} {xs : List Int} (h : okB m xs = true) : (cSums m xs).length = m := by simp [cSums, h, csum]

theorem w_rows_mono {p q : List Int} (h : wOk p q = true) {i k : Nat} (hi : i < p.length) (hk : k < p.length) (hle : p[k]?.getD 0 ≤ p[i]?.getD 0) :
    (rSums (wW p q) (wX p q))[k]?.getD 0 ≤ (rSums (wW p q) (wX p q))[i]?.getD 0 := by
  have ho := wX_ok h
  have hl := wX_length h
  rw [rS_get ho (by omega), rS_get ho (by omega), wX_get h hi, wX_get h hk, Int.toNat_natCast, Int.toNat_natCast]
  have := pop_mono (r := mkRow (wF p q k) q.length) (s := mkRow (wF p q i) q.length) (fun j hj => by
    rw [testBit_mkRow] at hj ⊢
    simp only [Bool.and_eq_true, decide_eq_true_eq, wF] at hj ⊢
    exact ⟨hj.1, by omega⟩)
  omega
theorem wW_eq {p q : List Int} (h : wOk p q = true) : wW p q = (q.length : Int) := by simp [wW, h]
theorem w_cols_mono {p q : List Int} (h : wOk p q = true) {i k : Nat} (hi : i < q.length) (hk : k < q.length) (hle : q[k]?.getD 0 ≤ q[i]?.getD 0) :
    (cSums (wW p q) (wX p q))[k]?.getD 0 ≤ (cSums (wW p q) (wX p q))[i]?.getD 0 := by
  have ho := wX_ok h
  rw [wW_eq h] at ho ⊢
  rw [cS_get ho hi, cS_get ho hk]
  have : ccnt (wX p q) k ≤ ccnt (wX p q) i := by
    refine List.countP_mono_left (fun x hx hb => ?_)
    obtain ⟨t, ht, rfl⟩ := List.getElem_of_mem hx
    have hl := wX_length h
    have e := wX_get h (i := t) (by omega)
    rw [List.getElem?_eq_getElem ht, Option.getD_some] at e
    rw [e, Int.toNat_natCast, testBit_mkRow] at hb ⊢
    simp only [Bool.and_eq_true, decide_eq_true_eq, wF] at hb ⊢
    exact ⟨hi, by omega⟩
  omega
end Go.Proofs.Ytnbaedpckdefgaa
