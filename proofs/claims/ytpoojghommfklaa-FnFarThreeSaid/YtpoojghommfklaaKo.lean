
/- Plain facts and walks that the law's proof uses; each says its own conditions. -/
import Derived.Test.YtpoojghommfklaaKn
import Derived.Test.YtpoojghommfklaaWg
import Derived.Test.YtpoojghommfklaaKe
-- Walks: the sums of an image, the reference's functions (values bounded only).
namespace Go.Proofs.Ytpoojghommfklaa
open Go.RowKit
set_option maxRecDepth 100000

theorem img_row {f : Nat → Nat → Bool} {h m i : Nat} (hm : m ≤ 6) (hi : i < h) : ∃ r : Nat, (img f h m)[i]?.getD 0 = (r : Int) ∧ r < 64 := by
  refine ⟨_, img_get hi, Nat.lt_of_lt_of_le (mkRow_lt _ _) ?_⟩
  exact Nat.pow_le_pow_right (by omega) hm

theorem Buf.set {w : World} {base g c k : Nat} {xs : List Int} (h : Buf w base (some ⟨g, 0, none⟩) c xs) (y : Int) : Buf (w.setCell ⟨g, k, none⟩ (.int .i64 y)) base (some ⟨g, 0, none⟩) c (xs.set k y) := by
  rcases h.2 with ⟨hv, _⟩ | ⟨g', cap, cur, hv, hb, hh, hn, hm, hs, ht⟩
  · injection hv with h1; cases h1
  · injection hv with h1 h2 h3
    injection h1 with h1
    injection h1 with h1
    subst h1
    subst h3
    refine ⟨by simp, .inr ⟨g, c, _, by simp, hb, Blk.set_ hh k _, by simpa using hn, hm, by simpa using hs, ?_⟩⟩
    rw [List.length_set, Array.toList_setIfInBounds, List.take_set, ht, List.map_set]
theorem Buf.mono {w : World} {lo lo' c : Nat} {A : Option Addr} {xs : List Int} (h : Buf w lo A c xs) (hl : lo' ≤ lo) : Buf w lo' A c xs := by
  refine ⟨h.1, ?_⟩
  rcases h.2 with h1 | ⟨g', cap, cur, hv, hb, hr⟩
  · exact .inl h1
  · exact .inr ⟨g', cap, cur, hv, Nat.le_trans hl hb, hr⟩

end Go.Proofs.Ytpoojghommfklaa

-- Walks: drawn sums, the reference's l91Sums, l91SumsWrong, l93Any.
namespace Go.Proofs.Ytpoojghommfklaa
open Go.RowKit
set_option maxRecDepth 100000

theorem Buf.at_ {w : World} {base c k n : Nat} {A : Option Addr} {xs : List Int} (h : Buf w base A c xs) (hn : xs.length = n) (hk : k < n) : ∃ g, A = some ⟨g, 0, none⟩ ∧ base ≤ g ∧ g < w.heap.size ∧ w.cell? ⟨g, k, none⟩ = some (.int .i64 (xs[k]?.getD 0)) ∧ w.frozen? ⟨g, k, none⟩ = false := by
  have hO := h.own
  rw [hn] at hO
  obtain ⟨g, h1, h2, h3, h4, h5, _⟩ := hO.at_ hk
  exact ⟨g, h1, h2, h3, h4, h5⟩
theorem Buf.kept_lo {w w' : World} {base c : Nat} {A : Option Addr} {xs : List Int} (h : Buf w base A c xs) {row : Option Nat} (hg : w.grownBy w' row) (hr : ∀ g, row = some g → g < base) : Buf w' base A c xs :=
  h.kept hg (fun g e e' => by have := hr g e'; have := h.lt g e; omega)

theorem Buf.le {w : World} {base c n : Nat} {A : Option Addr} {xs : List Int} (h : Buf w base A c xs) (hn : xs.length = n) : n ≤ c := by
  subst hn
  rcases h.2 with ⟨hv, _⟩ | ⟨g', cap, cur, hv, hb, hh, hn, _⟩
  · injection hv with _ h2 h3; omega
  · injection hv with _ h2 h3; omega

def DrawnSums (w : World) (lo b p k : Nat) (e : Ending) (w' : World) : Prop :=
  ∃ (R : Option Addr) (n c : Nat) (Q : Option Addr) (m d q : Nat) (xs ys : List Int), e = .returned (.tuple #[.slice R n c, .slice Q m d]) ∧ 1 ≤ n ∧ n ≤ 6 ∧ 1 ≤ m ∧ m ≤ 6 ∧ xs.length = n ∧ ys.length = m ∧
    Buf w' w.heap.size R c xs ∧ Buf w' w.heap.size Q d ys ∧ Hid (∀ g, R = some ⟨g, 0, none⟩ → Q ≠ some ⟨g, 0, none⟩) ∧ w.grownBy w' (some b) ∧ Rdr w' lo b q ∧ q ≤ p + k

end Go.Proofs.Ytpoojghommfklaa

-- Walks: drawn sums that may be wrong; sums at random.
namespace Go.Proofs.Ytpoojghommfklaa
open Go.RowKit
set_option maxRecDepth 100000

def DrawnList (w : World) (lo b p k : Nat) (e : Ending) (w' : World) : Prop :=
  ∃ (R : Option Addr) (n c : Nat) (Q : Option Addr) (m d q : Nat) (xs ys : List Int), e = .returned (.tuple #[.slice R n c, .slice Q m d]) ∧ n ≤ 12 ∧ m ≤ 12 ∧ n ≤ c ∧ m ≤ d ∧
    Own w' w.heap.size R n xs ∧ Own w' w.heap.size Q m ys ∧ w.grownBy w' (some b) ∧ Rdr w' lo b q ∧ q ≤ p + k

def DrawnTwoS (w : World) (e : Ending) (w' : World) : Prop :=
  ∃ (R : Option Addr) (n c : Nat) (Q : Option Addr) (m d : Nat) (xs ys : List Int), e = .returned (.tuple #[.slice R n c, .slice Q m d]) ∧ n ≤ 12 ∧ m ≤ 12 ∧ n ≤ c ∧ m ≤ d ∧
    Own w' w.heap.size R n xs ∧ Own w' w.heap.size Q m ys ∧ Below w.heap.size w w'
def DrawnThree (w : World) (e : Ending) (w' : World) : Prop :=
  ∃ (R : Option Addr) (n c : Nat) (Q : Option Addr) (m d : Nat) (xs ys : List Int) (t : Int), e = .returned (.tuple #[.slice R n c, .slice Q m d, .int .i64 t]) ∧ n ≤ 12 ∧ m ≤ 12 ∧ n ≤ c ∧ m ≤ d ∧
    Own w' w.heap.size R n xs ∧ Own w' w.heap.size Q m ys ∧ Below w.heap.size w w'

end Go.Proofs.Ytpoojghommfklaa

-- Walks: SumsExcess, FillMost; sumOf.
namespace Go.Proofs.Ytpoojghommfklaa
open Go.RowKit
set_option maxRecDepth 100000

/-- the greatest excess among the first k -/
def eM (r c : List Int) : Nat → Int
  | 0 => 0
  | k + 1 => max (eM r c k) (exc r c k)
theorem eM_ge (r c : List Int) : ∀ {k s : Nat}, s < k → exc r c s ≤ eM r c k
  | k + 1, s, h => by
    simp only [eM]
    rcases Nat.lt_or_ge s k with h1 | h1
    · have := eM_ge r c h1; omega
    · obtain rfl : s = k := by omega
      omega
theorem eM_zero (r c : List Int) : ∀ {k : Nat}, (∀ s, s < k → exc r c s ≤ 0) → eM r c k = 0
  | 0, _ => rfl
  | k + 1, h => by
    simp only [eM]
    rw [eM_zero r c (fun s hs => h s (by omega))]
    have := h k (by omega)
    omega
/-- SumsExcess -/
def sEx (r c : List Int) : Int := if sV r c = true then eM r c (r.length + 1) else -1
theorem sEx_some {r c : List Int} {t : Nat} (h : pOf r c = some t) : 0 < sEx r c := by
  obtain ⟨h1, _, h3, h4⟩ := pOk_iff.1 (pOf_some h).1
  rw [Int.toNat_natCast] at h4
  rw [sEx, if_pos h1]
  have := eM_ge r c (show t < r.length + 1 by omega)
  omega
theorem sEx_none {r c : List Int} (h : pOf r c = none) : sEx r c ≤ 0 := by
  rw [sEx]
  split
  · rename_i hv
    rw [eM_zero]
    · exact Int.le_refl _
    · intro s hs
      rcases Int.lt_or_le 0 (exc r c s) with h1 | h1
      · have := pOf_none h (s : Nat)
        rw [pOk_iff.2 ⟨hv, by omega, by omega, by rw [Int.toNat_natCast]; exact h1⟩] at this
        cases this
      · exact h1
  · omega

/-- the least among the first k -/
def fM (r c : List Int) : Nat → Int
  | 0 => r.sum
  | k + 1 => min (fM r c k) (r.sum - exc r c k)
theorem fM_le (r c : List Int) : ∀ {k s : Nat}, s < k → fM r c k ≤ r.sum - exc r c s
  | k + 1, s, h => by
    simp only [fM]
    rcases Nat.lt_or_ge s k with h1 | h1
    · have := fM_le r c h1; omega
    · obtain rfl : s = k := by omega
      omega
theorem exc_le_sum {r c : List Int} (hr : ∀ x ∈ r, 0 ≤ x) (hc : ∀ x ∈ c, 0 ≤ x) (t : Nat) : exc r c t ≤ r.sum := by
  have h1 := mSum_nonneg (c := c) (t := (t : Int)) hc (by omega)
  have h2 : tSum r t ≤ r.sum := by
    rw [tSum]
    have h3 : ((dsort r).take t).sum + ((dsort r).drop t).sum = r.sum := by
      rw [← List.sum_append, List.take_append_drop]
      exact perm_sum (dsort_perm r)
    have h4 : 0 ≤ ((dsort r).drop t).sum := by
      have : ∀ l : List Int, (∀ x ∈ l, 0 ≤ x) → 0 ≤ l.sum := by
        intro l
        induction l with
        | nil => intro _; simp
        | cons a l ih => intro h; have := ih (fun x hx => h x (by simp [hx])); have := h a (by simp); simp; omega
      exact this _ (fun x hx => hr x ((dsort_perm r).mem_iff.1 (List.mem_of_mem_drop hx)))
    omega
  rw [exc]
  omega
theorem fM_nonneg {r c : List Int} (hr : ∀ x ∈ r, 0 ≤ x) (hc : ∀ x ∈ c, 0 ≤ x) (h0 : 0 ≤ r.sum) : ∀ k, 0 ≤ fM r c k
  | 0 => h0
  | k + 1 => by
    simp only [fM]
    have := fM_nonneg hr hc h0 k
    have := exc_le_sum hr hc k
    omega
theorem exc_ge {r c : List Int} (hr : ∀ x ∈ r, 0 ≤ x ∧ x ≤ 6) (hc : ∀ x ∈ c, 0 ≤ x ∧ x ≤ 6) (hcl : c.length ≤ 6) (t : Nat) : -36 ≤ exc r c t := by
  have h1 := mSum_bd (cols := c) (t := (t : Int)) hc (by omega)
  have h2 := sum_bd (M := 6) (xs := (dsort r).take t) (fun x hx => hr x ((dsort_perm r).mem_iff.1 (List.mem_of_mem_take hx)))
  rw [exc, tSum]
  omega
/-- FillMost -/
def sFill (r c : List Int) : Int := if sV r c = true then fM r c (r.length + 1) else -1

end Go.Proofs.Ytpoojghommfklaa
