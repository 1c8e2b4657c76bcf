
/- Plain facts and walks that the law's proof uses; each says its own conditions. -/
import Derived.Test.YtnbaedpckdefgaaDi
import Derived.Test.YtnbaedpckdefgaaKg
-- Walks: drawn images of the laws on reached images.
namespace Go.Proofs.Ytnbaedpckdefgaa
open Go.RowKit
set_option maxRecDepth 100000

set_option maxHeartbeats 2000000 in
theorem DrawNeighborReach_c (A : Option Addr) (n c : Nat) (w : World) (hr : RdB w A n) (hn : n ≤ 1048576) (hc : n ≤ c) :
    Calls Try.prog 5 #[.slice A n c] w (DrawnImg w) := by
  go_enter Try.func5, Try.ntmps5
  go_wp2_with fail
  refine (l6Open_c A n c _ (hr.next (by (repeat (first | exact Below.refl _ _ | assumption | refine lo_alloc ?_ _ | refine lo_set ?_ (by simp; try omega) _ | refine Below.drew ?_ | refine below_drewN ?_ _ | refine lo_trans ?_ (by assumption) | refine lo_wr ?_ (by assumption) (by omega))))) hn hc).mono ?_
  rintro e w1 ⟨b, rfl, hr1, hb1⟩
  have hK1 : Blk w1 w.heap.size _ _ := (Blk.new w 25 #[.int .i64 0, .slice none 0 0]).next hb1
  have hB1 : Below w.heap.size w w1 := by (repeat (first | exact Below.refl _ _ | assumption | refine lo_alloc ?_ _ | refine lo_set ?_ (by simp; try omega) _ | refine Below.drew ?_ | refine below_drewN ?_ _ | refine lo_trans ?_ (by assumption) | refine lo_wr ?_ (by assumption) (by omega)))
  have hbl := hr1.1
  rw [World.size_alloc] at hbl
  clear hb1
  go_wp2_with fail
  refine (pick_c _ b 0 _ _ hr1 (by omega)).mono ?_
  rintro e w5 ⟨v, rfl, hv, hg5, hr5⟩
  have hK5 := hK1.grown hg5 (by intro e; injection e; omega)
  have hB5 := lo_grown hB1 hg5 (by rintro g ⟨⟩; omega)
  have hv2 := hv (by omega)
  have hbl5 := hg5.size
  clear hK1 hB1 hr1 hg5 hv
  by_cases hz : v = 0
  all_goals
    have hz1 : ((v : Int) == 0) = decide (v = 0) := by by_cases h : v = 0 <;> simp [h]
    have hz2 : ((v : Int) = 0) ↔ v = 0 := by omega
    simp only [hz] at hz1 hz2
    try subst hz
    go_wp2_with fail
    refine (l91Wrong_c _ b _ _ _ hr5 (by omega) (by omega) (by omega)).mono ?_
    rintro e w2 ⟨W, X, x, k, q, xs, rfl, h1, h2, h3, hX, hg2, _, _⟩
    have hK2 := hK5.grown hg2 (by intro e; injection e; omega)
    have hB2 := lo_grown hB5 hg2 (by rintro g ⟨⟩; omega)
    have hs1 := hB5.size
    have hw1 := hK5.lt
    have r0 := hK2.cell 0
    have r1 := hK2.cell 1
    have f0 := hK2.frozen 0
    have f1 := hK2.frozen 1
    obtain ⟨s0, s1, hB6⟩ := fin_cells hK2 hB2 (.int .i64 W) (.slice X x k)
    have s0' := Lib.hid s0; have s1' := Lib.hid s1; clear s0 s1
    go_wp2
    refine bodyPost_ret (v := .agg #[.int .i64 W, .slice X x k]) (by simp [results, Try.results5, go_sem, s0'.out, s1'.out]) rfl ⟨W, X, x, k, xs, rfl, h3, ?_, hB6⟩
    exact ((hX.far_lo (p := ⟨w.heap.size, 0, none⟩) (by simp; omega) _).far_lo (p := ⟨w.heap.size, 1, none⟩) (by simp; omega) _).mono hs1
end Go.Proofs.Ytnbaedpckdefgaa

-- Walks: a drawn image changed by some switches.
namespace Go.Proofs.Ytnbaedpckdefgaa
open Go.RowKit
set_option maxRecDepth 100000

/-- an image of the same shape in new memory, or the old one -/
def DrawnOther (W : Int) (n lo2 : Nat) (w : World) (lo b p : Nat) (e : Ending) (w' : World) : Prop :=
  ∃ (A : Option Addr) (c q : Nat) (xs : List Int), e = .returned (.agg #[.int .i64 W, .slice A n c]) ∧ Own w' lo2 A n xs ∧ w.grownBy w' (some b) ∧ Rdr w' lo b q ∧ q ≤ p + 10

theorem swListW_ok {W : Int} {xs : List Int} (h : 0 < (swListW W xs).length) : okB W xs = true := by
  cases hk : okB W xs with
  | true => rfl
  | false => simp [swListW, hk] at h

theorem Own.far_img {w : World} {lo n k i : Nat} {A : Option Addr} {xs : List Int} {cs : Array Value} (h : Own w lo A n xs) (hC : Blk w k 25 cs) (u : Value) : Own (w.setCell ⟨k, i, none⟩ u) lo A n xs :=
  ⟨h.1, fun hn => by
    obtain ⟨g, cs', e, h1, h2, h3⟩ := h.2 hn
    refine ⟨g, cs', e, h1, h2.far (fun e => ?_) u, h3⟩
    have e' : g = k := e
    subst e'
    unfold Blk at h2 hC
    rw [hC] at h2
    injection h2 with h2
    injection h2 with _ h4
    exact absurd h4 (by decide)⟩

end Go.Proofs.Ytnbaedpckdefgaa

-- Walks: two drawn images.
namespace Go.Proofs.Ytnbaedpckdefgaa
open Go.RowKit
set_option maxRecDepth 100000

/-- what lies in memory while two images are drawn: the results' cells, the first image -/
structure TwoI (w wr : World) (lo b o q : Nat) (W : Int) (X : Option Addr) (x x' : Nat) (xs : List Int) (r4 r5 : Array Value) : Prop where
  k4 : Blk wr w.heap.size 25 r4
  k5 : Blk wr (w.heap.size + 1) 25 r5
  ko : Blk wr o 25 #[.int .i64 W, .slice X x x']
  own : Own wr w.heap.size X x xs
  gr : w.grownBy wr (some b)
  rd : Rdr wr lo b q
  lo_ : w.heap.size + 1 < o
  lb : b < w.heap.size
section
variable {w wr w' : World} {lo b o q q' x x' : Nat} {W : Int} {X : Option Addr} {xs : List Int} {r4 r5 : Array Value}
theorem TwoI.drew (h : TwoI w wr lo b o q W X x x' xs r4 r5) : TwoI w wr.drew lo b o q W X x x' xs r4 r5 :=
  ⟨h.k4.drew, h.k5.drew, h.ko.drew, h.own.drew, grown_trans h.gr (grown_drew _), h.rd.next (Below.drew (Below.refl _ _)), h.lo_, h.lb⟩
theorem TwoI.step (h : TwoI w wr lo b o q W X x x' xs r4 r5) (hg : wr.grownBy w' (some b)) (hr : Rdr w' lo b q') : TwoI w w' lo b o q' W X x x' xs r4 r5 := by
  have hb := h.lb
  have ho := h.lo_
  exact ⟨h.k4.grown hg (by intro e; injection e; omega), h.k5.grown hg (by intro e; injection e; omega), h.ko.grown hg (by intro e; injection e; omega), h.own.grown_lo hg (by rintro g ⟨⟩; exact hb), grown_trans h.gr hg, hr, ho, hb⟩
theorem TwoI.next (h : TwoI w wr lo b o q W X x x' xs r4 r5) (hb : Below wr.heap.size wr w') : TwoI w w' lo b o q W X x x' xs r4 r5 :=
  h.step (grown_of_below hb _) (h.rd.next hb)
theorem TwoI.size (h : TwoI w wr lo b o q W X x x' xs r4 r5) : w.heap.size + 1 < wr.heap.size := by
  have := h.ko.lt; have := h.lo_; omega
theorem TwoI.o0 (h : TwoI w wr lo b o q W X x x' xs r4 r5) : wr.cell? ⟨o, 0, none⟩ = some (.int .i64 W) ∧ wr.cell? ⟨o, 1, none⟩ = some (.slice X x x') := ⟨h.ko.cell 0, h.ko.cell 1⟩
theorem TwoI.set4 {v0 v1 : Value} (h : TwoI w wr lo b o q W X x x' xs #[v0, v1] r5) (u0 u1 : Value) :
    TwoI w ((wr.setCell ⟨w.heap.size, 0, none⟩ u0).setCell ⟨w.heap.size, 1, none⟩ u1) lo b o q W X x x' xs #[u0, u1] r5 := by
  have hb := h.lb
  have ho := h.lo_
  exact ⟨(h.k4.set_ 0 u0).set_ 1 u1, (h.k5.far (p := ⟨w.heap.size, 0, none⟩) (by simp) u0).far (p := ⟨w.heap.size, 1, none⟩) (by simp) u1, (h.ko.far (p := ⟨w.heap.size, 0, none⟩) (by simp; omega) u0).far (p := ⟨w.heap.size, 1, none⟩) (by simp; omega) u1,
    (h.own.far_img (i := 0) h.k4 u0).far_img (i := 1) (h.k4.set_ 0 u0) u1,
    grown_over (grown_over h.gr (grown_set u0) (by rintro _ ⟨⟩; omega)) (grown_set u1) (by rintro _ ⟨⟩; omega), (h.rd.grown (grown_set u0) (by omega)).grown (grown_set u1) (by omega), ho, hb⟩
theorem TwoI.set5 {v0 v1 : Value} (h : TwoI w wr lo b o q W X x x' xs r4 #[v0, v1]) (u0 u1 : Value) :
    TwoI w ((wr.setCell ⟨w.heap.size + 1, 0, none⟩ u0).setCell ⟨w.heap.size + 1, 1, none⟩ u1) lo b o q W X x x' xs r4 #[u0, u1] := by
  have hb := h.lb
  have ho := h.lo_
  exact ⟨(h.k4.far (p := ⟨w.heap.size + 1, 0, none⟩) (by simp) u0).far (p := ⟨w.heap.size + 1, 1, none⟩) (by simp) u1, (h.k5.set_ 0 u0).set_ 1 u1, (h.ko.far (p := ⟨w.heap.size + 1, 0, none⟩) (by simp; omega) u0).far (p := ⟨w.heap.size + 1, 1, none⟩) (by simp; omega) u1,
    (h.own.far_img (i := 0) h.k5 u0).far_img (i := 1) (h.k5.set_ 0 u0) u1,
    grown_over (grown_over h.gr (grown_set u0) (by rintro _ ⟨⟩; omega)) (grown_set u1) (by rintro _ ⟨⟩; omega), (h.rd.grown (grown_set u0) (by omega)).grown (grown_set u1) (by omega), ho, hb⟩
theorem TwoI.own4 {lo' n : Nat} {Y : Option Addr} {ys : List Int} (h : TwoI w wr lo b o q W X x x' xs r4 r5) (hY : Own wr lo' Y n ys) (u0 u1 : Value) : Own ((wr.setCell ⟨w.heap.size, 0, none⟩ u0).setCell ⟨w.heap.size, 1, none⟩ u1) lo' Y n ys :=
  (hY.far_img (i := 0) h.k4 u0).far_img (i := 1) (h.k4.set_ 0 u0) u1
theorem TwoI.own5 {lo' n : Nat} {Y : Option Addr} {ys : List Int} (h : TwoI w wr lo b o q W X x x' xs r4 r5) (hY : Own wr lo' Y n ys) (u0 u1 : Value) : Own ((wr.setCell ⟨w.heap.size + 1, 0, none⟩ u0).setCell ⟨w.heap.size + 1, 1, none⟩ u1) lo' Y n ys :=
  (hY.far_img (i := 0) h.k5 u0).far_img (i := 1) (h.k5.set_ 0 u0) u1
end

section
variable {w wr : World} {lo b o q x x' : Nat} {W : Int} {X : Option Addr} {xs : List Int} {r4 r5 : Array Value}
theorem TwoI.far {g i : Nat} (h : TwoI w wr lo b o q W X x x' xs r4 r5) (hg : o < g) (hXg : ∀ g', X = some ⟨g', 0, none⟩ → g' ≠ g) (u : Value) : TwoI w (wr.setCell ⟨g, i, none⟩ u) lo b o q W X x x' xs r4 r5 := by
  have hb := h.lb
  have ho := h.lo_
  exact ⟨h.k4.far (p := ⟨g, i, none⟩) (by simp; omega) u, h.k5.far (p := ⟨g, i, none⟩) (by simp; omega) u, h.ko.far (p := ⟨g, i, none⟩) (by simp; omega) u, h.own.far (p := ⟨g, i, none⟩) hXg u,
    grown_over h.gr (grown_set u) (by rintro _ ⟨⟩; omega), h.rd.grown (grown_set u) (by omega), ho, hb⟩
theorem img_cells {g : Nat} {v0 v1 : Value} (h : Blk w g 25 #[v0, v1]) : w.cell? ⟨g, 0, none⟩ = some v0 ∧ w.cell? ⟨g, 1, none⟩ = some v1 := ⟨h.cell 0, h.cell 1⟩
theorem Own.of_ints {g base n : Nat} {ys : List Int} (h : Blk w g 3 (ints ys)) (hl : ys.length = n) (hb : base ≤ g) : Own w base (some ⟨g, 0, none⟩) n ys :=
  ⟨hl, fun _ => ⟨g, ints ys, rfl, hb, h, fun k x hx => by rw [ints_get, hx]; rfl⟩⟩
end

def DrawnTwoR (w : World) (lo b : Nat) (e : Ending) (w' : World) : Prop :=
  ∃ (W : Int) (X : Option Addr) (x x' : Nat) (xs : List Int) (V : Int) (Y : Option Addr) (y y' : Nat) (ys : List Int) (q : Nat), e = .returned (.tuple #[.agg #[.int .i64 W, .slice X x x'], .agg #[.int .i64 V, .slice Y y y']]) ∧ x ≤ 6 ∧ y ≤ 6 ∧
    Own w' w.heap.size X x xs ∧ Own w' w.heap.size Y y ys ∧ w.grownBy w' (some b) ∧ Rdr w' lo b q

theorem TwoI.fin {w wr : World} {lo b o q x x' y y' : Nat} {W V : Int} {X Y : Option Addr} {xs ys : List Int} (h : TwoI w wr lo b o q W X x x' xs #[.int .i64 W, .slice X x x'] #[.int .i64 V, .slice Y y y']) (hY : Own wr w.heap.size Y y ys) (hx : x ≤ 6) (hy : y ≤ 6) :
    DrawnTwoR w lo b (.returned (.tuple #[.agg #[.int .i64 W, .slice X x x'], .agg #[.int .i64 V, .slice Y y y']])) wr :=
  ⟨W, X, x, x', xs, V, Y, y, y', ys, q, rfl, hx, hy, h.own, hY, h.gr, h.rd⟩

end Go.Proofs.Ytnbaedpckdefgaa

-- Walks: the two drawn images of the laws on how far images are.
namespace Go.Proofs.Ytnbaedpckdefgaa
open Go.RowKit
set_option maxRecDepth 100000

/-- Two drawn images. -/
def DrawnTwo (w : World) (e : Ending) (w' : World) : Prop :=
  ∃ (W : Int) (X : Option Addr) (x x' : Nat) (xs : List Int) (V : Int) (Y : Option Addr) (y y' : Nat) (ys : List Int), e = .returned (.tuple #[.agg #[.int .i64 W, .slice X x x'], .agg #[.int .i64 V, .slice Y y y']]) ∧ x ≤ 6 ∧ y ≤ 6 ∧
    Rd w' X x xs ∧ Rd w' Y y ys ∧ Below w.heap.size w w'

end Go.Proofs.Ytnbaedpckdefgaa
