
/- Plain facts and walks that the law's proof uses; each says its own conditions. -/
import Derived.Test.YtpoojghommfklaaDi
import Derived.Test.YtpoojghommfklaaKg
-- Walks: drawn images of the laws on reached images.
namespace Go.Proofs.Ytpoojghommfklaa
open Go.RowKit
set_option maxRecDepth 100000

end Go.Proofs.Ytpoojghommfklaa

-- Walks: a drawn image changed by some switches.
namespace Go.Proofs.Ytpoojghommfklaa
open Go.RowKit
set_option maxRecDepth 100000

/-- an image of the same shape in new memory, or the old one -/
def DrawnOther (W : Int) (n lo2 : Nat) (w : World) (lo b p : Nat) (e : Ending) (w' : World) : Prop :=
  ∃ (A : Option Addr) (c q : Nat) (xs : List Int), e = .returned (.agg #[.int .i64 W, .slice A n c]) ∧ Own w' lo2 A n xs ∧ w.grownBy w' (some b) ∧ Rdr w' lo b q ∧ q ≤ p + 10

theorem swListW_ok {W : Int} {xs : List Int} (h : 0 < (swListW W xs).length) : okB W xs = true := by
  cases hk : okB W xs with
  | true => rfl
  | false => simp [swListW, hk] at h

theorem Own.far_img {w : World} {lo n k i : Nat} {A : Option Addr} {xs : List Int} {cs : Array Value} (h : Own w lo A n xs) (hC : Blk w k 25 cs) (u : Value) : Own (w.setCell ⟨k, i, none⟩ u) lo A n xs :=
  ⟨h.1, fun hn => by
    obtain ⟨g, cs', e, h1, h2, h3⟩ := h.2 hn
    refine ⟨g, cs', e, h1, h2.far (fun e => ?_) u, h3⟩
    have e' : g = k := e
    subst e'
    unfold Blk at h2 hC
    rw [hC] at h2
    injection h2 with h2
    injection h2 with _ h4
    exact absurd h4 (by decide)⟩

set_option maxHeartbeats 4000000 in
theorem l91Other_c (lo b p lo2 : Nat) (W : Int) (A : Option Addr) (n c : Nat) (xs : List Int) (w : World) (h : Rdr w lo b p) (hp : p ≤ 700000) (hX : Own w lo2 A n xs) (hb2 : b < lo2) (hl2 : lo2 ≤ w.heap.size) (hn : n ≤ 6) :
    Calls Try.prog 26 #[.pointer (some ⟨b, 0, none⟩), .agg #[.int .i64 W, .slice A n c]] w (DrawnOther W n lo2 w lo b p) := by
  have hbz := h.lt
  have hA0 := (Blk.new w 25 #[.int .i64 W, .slice A n c]).alloc (.cells #[.int .i64 0, .slice none 0 0] 25)
  have hC0 := heap_at2 w (.cells #[.int .i64 W, .slice A n c] 25) 25 #[.int .i64 0, .slice none 0 0]
  have hL0 := lo_alloc (lo_alloc (Below.refl w.heap.size w) (.cells #[.int .i64 W, .slice A n c] 25)) (.cells #[.int .i64 0, .slice none 0 0] 25)
  have hG0 : w.grownBy _ (some b) := grown_of_below hL0 (some b)
  have hR0 := h.next hL0
  have hX0 := hX.next hL0
  have hz0 := hL0.size
  go_enter Try.func26, Try.ntmps26
  go_wp2_with fail
  refine (pick_c lo b p _ _ hR0 (by omega)).mono ?_
  rintro e w1 ⟨x6, rfl, hx6, hg1, hr1⟩
  have hA1 := hA0.grown hg1 (by intro e; injection e; omega)
  have hC1 := hC0.grown hg1 (by intro e; injection e; omega)
  have hG1 := grown_trans hG0 hg1
  have hX1 := hX0.grown_lo hg1 (by rintro g ⟨⟩; exact hb2)
  have hx6' := hx6 (by omega)
  have hs1 := hg1.size
  have hw1 := hC1.lt
  clear hA0 hC0 hG0 hR0 hX0 hg1 h hX hx6
  go_wp2
  go_loopw [6] (fun i wr => ∃ (k : Nat) (A' : Option Addr) (c' q : Nat) (ys : List Int), k ≤ x6 ∧ i = .int .i64 k ∧ Blk wr w.heap.size 25 #[.int .i64 W, .slice A' n c'] ∧ Blk wr (w.heap.size + 1) 25 #[.int .i64 0, .slice none 0 0] ∧
      Own wr lo2 A' n ys ∧ w.grownBy wr (some b) ∧ Rdr wr lo b q ∧ q ≤ p + 1 + k) (fun i _ => x6 - (intOf i).toNat)
  case atStart => exact ⟨0, A, c, _, xs, Nat.zero_le _, rfl, hA1, hC1, hX1, hG1, hr1, by omega⟩
  case round =>
    clear hA1 hC1 hX1 hG1 hr1
    obtain ⟨k, A', c', q, ys, hk, rfl, hA, hC, hX, hG, hR, hq⟩ := hrel
    by_cases hlt : k < x6
    · have hki : (k : Int) < (x6 : Int) := by omega
      have a0 := hA.cell 0
      have a1 := hA.cell 1
      have hcz := hC.lt
      go_wp2_with fail
      refine (spec_SwitchList_c W A' n c' ys wr hX.rd (by omega)).mono ?_
      rintro e w2 ⟨R, cR, rfl, hb2', hL⟩
      have hA2 := hA.next hb2'
      have hC2 := hC.next hb2'
      have hX2 := hX.next hb2'
      have hG2 := grown_trans hG (grown_of_below hb2' (some b))
      have hR2 := hR.next hb2'
      have hs2 := hb2'.size
      clear hA hC hX hG hR hb2' a0 a1
      by_cases h0 : (swListW W ys).length = 0
      · rw [h0]
        go_wp2
        go_roundw
        case rel => exact ⟨k + 1, A', c', q, ys, by omega, by go_num, hA2, hC2, hX2, hG2, hR2, by omega⟩
        case measure => simp [intOf]; omega
      · have hok := swListW_ok (W := W) (xs := ys) (by omega)
        have hk' := Lib.hid hok
        have hbd := okB_bd hok
        have hyl : ys.length = n := hX2.1
        rw [hyl] at hbd
        obtain ⟨m, rfl⟩ := Int.eq_ofNat_of_zero_le (show 0 ≤ W by omega)
        obtain ⟨gL, rfl⟩ := hL.addr.resolve_left (by
          rintro rfl
          rcases hL.form with ⟨_, e⟩ | ⟨_, _, e, _⟩
          · exact h0 (by rw [e]; rfl)
          · cases e)
        have hgL := hL.lt gL rfl
        have hswl : Hid (∀ s ∈ swListW (m : Int) ys, (s.a < s.b ∧ s.b < n ∧ s.c < s.d ∧ s.d < m) ∧ swOk ys s = true) := Lib.hid (fun s hs => by
          rw [swListW, if_pos hk'.out, Int.toNat_natCast] at hs
          have := mem_swList.1 hs
          rw [hyl] at this; exact this)
        have hyl' := Lib.hid hyl
        generalize swListW (m : Int) ys = ss at hL h0 hswl
        have hls : 1 ≤ ss.length := by omega
        have a0 := hA2.drew.cell 0
        have a1 := hA2.drew.cell 1
        have b0 := hA2.cell 0
        have b1 := hA2.cell 1
        have f0 := hA2.frozen 0
        have f1 := hA2.frozen 1
        clear hok h0 hyl
        go_wp2
        go_region_with
          (first
            | (go_at_call 25
               refine (pick_c lo b q _ _ (hR2.next (by (repeat (first | exact Below.refl _ _ | assumption | refine lo_alloc ?_ _ | refine lo_set ?_ (by simp; try omega) _ | refine Below.drew ?_ | refine below_drewN ?_ _ | refine lo_trans ?_ (by assumption) | refine lo_wr ?_ (by assumption) (by omega))))) (by omega)).mono ?_
               rintro e w5 ⟨v, rfl, hv, hg5, hr5⟩
               have hA5 := hA2.drew.grown hg5 (by intro e; injection e; omega)
               have hC5 := hC2.drew.grown hg5 (by intro e; injection e; omega)
               have hX5 := hX2.drew.grown_lo hg5 (by rintro g ⟨⟩; exact hb2)
               have hG5 := grown_trans (grown_trans hG2 (grown_drew _)) hg5
               have hL5 := BufW.kept (w := w2.drew) hL hg5 (by rintro g ⟨⟩ e; injection e; omega)
               have hvl : v < ss.length := by have := hv (by omega); omega
               have hvi : (v : Int) < (ss.length : Int) := by omega
               have hvi0 : (0 : Int) ≤ (v : Int) := by omega
               have c0 := hA5.cell 0
               have c1 := hA5.cell 1
               obtain ⟨s, hs⟩ : ∃ s, ss[v]? = some s := ⟨ss[v], List.getElem?_eq_getElem hvl⟩
               obtain ⟨bL, oL, eL, hbL, hcL⟩ := hL5.rd.2 (by omega)
               cases eL
               obtain ⟨l0, l1, l2, l3⟩ := hcL v s hs
               simp only [Nat.zero_add, Nat.mul_comm 4 v] at l0 l1 l2 l3
               obtain ⟨hs1, hs2⟩ := hswl.out s (List.mem_of_getElem? hs)
               have hs2' := Lib.hid hs2
               clear hcL hs hs2)
            | (go_at_call 44
               refine (l11Do_c m n _ _ ys s _ hX5.rd hk'.out hs1 hs2'.out).mono ?_
               rintro e w6 ⟨gr, cr, rfl, hb6, hown6⟩
               have hA6 := hA5.next hb6
               have d0 := hA6.cell 0
               have d1 := hA6.cell 1
               have e0 := hA6.frozen 0
               have e1 := hA6.frozen 1))
        all_goals
          have hA7 : Blk ((w6.setCell ⟨w.heap.size, 0, none⟩ (.int .i64 (m : Int))).setCell ⟨w.heap.size, 1, none⟩ (.slice (some ⟨gr, 0, none⟩) n cr)) w.heap.size 25 #[.int .i64 (m : Int), .slice (some ⟨gr, 0, none⟩) n cr] := (hA6.set_ 0 (.int .i64 (m : Int))).set_ 1 (.slice (some ⟨gr, 0, none⟩) n cr)
          have hC7 := ((hC5.next hb6).far (p := ⟨w.heap.size, 0, none⟩) (by simp) (.int .i64 (m : Int))).far (p := ⟨w.heap.size, 1, none⟩) (by simp) (.slice (some ⟨gr, 0, none⟩) n cr)
          have hs5' : w2.heap.size ≤ w5.heap.size := hg5.size
          have hX7 := ((hown6.far_lo (p := ⟨w.heap.size, 0, none⟩) (by simp; omega) (.int .i64 (m : Int))).far_lo (p := ⟨w.heap.size, 1, none⟩) (by simp; omega) (.slice (some ⟨gr, 0, none⟩) n cr)).mono (lo' := lo2) (by omega)
          obtain ⟨_, _, hG7, hR7⟩ := ret_cells (w := w) hA6 (grown_trans hG5 (grown_of_below hb6 (some b))) (hr5.next hb6) (by omega) (.int .i64 (m : Int)) (.slice (some ⟨gr, 0, none⟩) n cr)
          clear a0 a1 b0 b1 f0 f1 c0 c1 d0 d1 e0 e1 l0 l1 l2 l3 hA6 hC5 hX5 hown6 hG5 hr5 hb6 hg5 hL5 hA2 hC2 hX2 hG2 hR2 hL hbL
          go_wp2
          go_roundw
          case rel => exact ⟨k + 1, _, cr, _, _, by omega, by go_num, hA7, hC7, hX7, hG7, hR7, by omega⟩
          case measure => simp [intOf]; omega
    · have hkx : k = x6 := by omega
      have a0 := hA.cell 0
      have a1 := hA.cell 1
      have hf := (hC.set_ 0 (.int .i64 W)).set_ 1 (.slice A' n c')
      have s0 := Lib.hid (hf.cell 0)
      have s1 := Lib.hid (hf.cell 1)
      have r0 := hC.cell 0
      have r1 := hC.cell 1
      have f0 := hC.frozen 0
      have f1 := hC.frozen 1
      have hG7 := grown_over (grown_over hG (grown_set (w := wr) (g := w.heap.size + 1) (k := 0) (.int .i64 W)) (by rintro _ ⟨⟩; omega)) (grown_set (g := w.heap.size + 1) (k := 1) (.slice A' n c')) (by rintro _ ⟨⟩; omega)
      have hR7 := (hR.grown (grown_set (w := wr) (g := w.heap.size + 1) (k := 0) (.int .i64 W)) (by omega)).grown (grown_set (g := w.heap.size + 1) (k := 1) (.slice A' n c')) (by omega)
      have hX7 := (hX.far_img (i := 0) hC (.int .i64 W)).far_img (i := 1) (hC.set_ 0 (.int .i64 W)) (.slice A' n c')
      clear hA hC hG hR hX hf
      go_wp2
      refine bodyPost_ret (v := .agg #[.int .i64 W, .slice A' n c']) (by simp [results, Try.results26, go_sem, s0.out, s1.out]) rfl ⟨A', c', q, ys, rfl, hX7, hG7, hR7, by omega⟩
end Go.Proofs.Ytpoojghommfklaa

-- Walks: two drawn images.
namespace Go.Proofs.Ytpoojghommfklaa
open Go.RowKit
set_option maxRecDepth 100000

/-- what lies in memory while two images are drawn: the results' cells, the first image -/
structure TwoI (w wr : World) (lo b o q : Nat) (W : Int) (X : Option Addr) (x x' : Nat) (xs : List Int) (r4 r5 : Array Value) : Prop where
  k4 : Blk wr w.heap.size 25 r4
  k5 : Blk wr (w.heap.size + 1) 25 r5
  ko : Blk wr o 25 #[.int .i64 W, .slice X x x']
  own : Own wr w.heap.size X x xs
  gr : w.grownBy wr (some b)
  rd : Rdr wr lo b q
  lo_ : w.heap.size + 1 < o
  lb : b < w.heap.size
section
variable {w wr w' : World} {lo b o q q' x x' : Nat} {W : Int} {X : Option Addr} {xs : List Int} {r4 r5 : Array Value}
theorem TwoI.drew (h : TwoI w wr lo b o q W X x x' xs r4 r5) : TwoI w wr.drew lo b o q W X x x' xs r4 r5 :=
  ⟨h.k4.drew, h.k5.drew, h.ko.drew, h.own.drew, grown_trans h.gr (grown_drew _), h.rd.next (Below.drew (Below.refl _ _)), h.lo_, h.lb⟩
theorem TwoI.step (h : TwoI w wr lo b o q W X x x' xs r4 r5) (hg : wr.grownBy w' (some b)) (hr : Rdr w' lo b q') : TwoI w w' lo b o q' W X x x' xs r4 r5 := by
  have hb := h.lb
  have ho := h.lo_
  exact ⟨h.k4.grown hg (by intro e; injection e; omega), h.k5.grown hg (by intro e; injection e; omega), h.ko.grown hg (by intro e; injection e; omega), h.own.grown_lo hg (by rintro g ⟨⟩; exact hb), grown_trans h.gr hg, hr, ho, hb⟩
theorem TwoI.next (h : TwoI w wr lo b o q W X x x' xs r4 r5) (hb : Below wr.heap.size wr w') : TwoI w w' lo b o q W X x x' xs r4 r5 :=
  h.step (grown_of_below hb _) (h.rd.next hb)
theorem TwoI.size (h : TwoI w wr lo b o q W X x x' xs r4 r5) : w.heap.size + 1 < wr.heap.size := by
  have := h.ko.lt; have := h.lo_; omega
theorem TwoI.o0 (h : TwoI w wr lo b o q W X x x' xs r4 r5) : wr.cell? ⟨o, 0, none⟩ = some (.int .i64 W) ∧ wr.cell? ⟨o, 1, none⟩ = some (.slice X x x') := ⟨h.ko.cell 0, h.ko.cell 1⟩
theorem TwoI.set4 {v0 v1 : Value} (h : TwoI w wr lo b o q W X x x' xs #[v0, v1] r5) (u0 u1 : Value) :
    TwoI w ((wr.setCell ⟨w.heap.size, 0, none⟩ u0).setCell ⟨w.heap.size, 1, none⟩ u1) lo b o q W X x x' xs #[u0, u1] r5 := by
  have hb := h.lb
  have ho := h.lo_
  exact ⟨(h.k4.set_ 0 u0).set_ 1 u1, (h.k5.far (p := ⟨w.heap.size, 0, none⟩) (by simp) u0).far (p := ⟨w.heap.size, 1, none⟩) (by simp) u1, (h.ko.far (p := ⟨w.heap.size, 0, none⟩) (by simp; omega) u0).far (p := ⟨w.heap.size, 1, none⟩) (by simp; omega) u1,
    (h.own.far_img (i := 0) h.k4 u0).far_img (i := 1) (h.k4.set_ 0 u0) u1,
    grown_over (grown_over h.gr (grown_set u0) (by rintro _ ⟨⟩; omega)) (grown_set u1) (by rintro _ ⟨⟩; omega), (h.rd.grown (grown_set u0) (by omega)).grown (grown_set u1) (by omega), ho, hb⟩
theorem TwoI.set5 {v0 v1 : Value} (h : TwoI w wr lo b o q W X x x' xs r4 #[v0, v1]) (u0 u1 : Value) :
    TwoI w ((wr.setCell ⟨w.heap.size + 1, 0, none⟩ u0).setCell ⟨w.heap.size + 1, 1, none⟩ u1) lo b o q W X x x' xs r4 #[u0, u1] := by
  have hb := h.lb
  have ho := h.lo_
  exact ⟨(h.k4.far (p := ⟨w.heap.size + 1, 0, none⟩) (by simp) u0).far (p := ⟨w.heap.size + 1, 1, none⟩) (by simp) u1, (h.k5.set_ 0 u0).set_ 1 u1, (h.ko.far (p := ⟨w.heap.size + 1, 0, none⟩) (by simp; omega) u0).far (p := ⟨w.heap.size + 1, 1, none⟩) (by simp; omega) u1,
    (h.own.far_img (i := 0) h.k5 u0).far_img (i := 1) (h.k5.set_ 0 u0) u1,
    grown_over (grown_over h.gr (grown_set u0) (by rintro _ ⟨⟩; omega)) (grown_set u1) (by rintro _ ⟨⟩; omega), (h.rd.grown (grown_set u0) (by omega)).grown (grown_set u1) (by omega), ho, hb⟩
theorem TwoI.own4 {lo' n : Nat} {Y : Option Addr} {ys : List Int} (h : TwoI w wr lo b o q W X x x' xs r4 r5) (hY : Own wr lo' Y n ys) (u0 u1 : Value) : Own ((wr.setCell ⟨w.heap.size, 0, none⟩ u0).setCell ⟨w.heap.size, 1, none⟩ u1) lo' Y n ys :=
  (hY.far_img (i := 0) h.k4 u0).far_img (i := 1) (h.k4.set_ 0 u0) u1
theorem TwoI.own5 {lo' n : Nat} {Y : Option Addr} {ys : List Int} (h : TwoI w wr lo b o q W X x x' xs r4 r5) (hY : Own wr lo' Y n ys) (u0 u1 : Value) : Own ((wr.setCell ⟨w.heap.size + 1, 0, none⟩ u0).setCell ⟨w.heap.size + 1, 1, none⟩ u1) lo' Y n ys :=
  (hY.far_img (i := 0) h.k5 u0).far_img (i := 1) (h.k5.set_ 0 u0) u1
end

section
variable {w wr : World} {lo b o q x x' : Nat} {W : Int} {X : Option Addr} {xs : List Int} {r4 r5 : Array Value}
theorem TwoI.far {g i : Nat} (h : TwoI w wr lo b o q W X x x' xs r4 r5) (hg : o < g) (hXg : ∀ g', X = some ⟨g', 0, none⟩ → g' ≠ g) (u : Value) : TwoI w (wr.setCell ⟨g, i, none⟩ u) lo b o q W X x x' xs r4 r5 := by
  have hb := h.lb
  have ho := h.lo_
  exact ⟨h.k4.far (p := ⟨g, i, none⟩) (by simp; omega) u, h.k5.far (p := ⟨g, i, none⟩) (by simp; omega) u, h.ko.far (p := ⟨g, i, none⟩) (by simp; omega) u, h.own.far (p := ⟨g, i, none⟩) hXg u,
    grown_over h.gr (grown_set u) (by rintro _ ⟨⟩; omega), h.rd.grown (grown_set u) (by omega), ho, hb⟩
theorem img_cells {g : Nat} {v0 v1 : Value} (h : Blk w g 25 #[v0, v1]) : w.cell? ⟨g, 0, none⟩ = some v0 ∧ w.cell? ⟨g, 1, none⟩ = some v1 := ⟨h.cell 0, h.cell 1⟩
theorem Own.of_ints {g base n : Nat} {ys : List Int} (h : Blk w g 3 (ints ys)) (hl : ys.length = n) (hb : base ≤ g) : Own w base (some ⟨g, 0, none⟩) n ys :=
  ⟨hl, fun _ => ⟨g, ints ys, rfl, hb, h, fun k x hx => by rw [ints_get, hx]; rfl⟩⟩
end

def DrawnTwoR (w : World) (lo b : Nat) (e : Ending) (w' : World) : Prop :=
  ∃ (W : Int) (X : Option Addr) (x x' : Nat) (xs : List Int) (V : Int) (Y : Option Addr) (y y' : Nat) (ys : List Int) (q : Nat), e = .returned (.tuple #[.agg #[.int .i64 W, .slice X x x'], .agg #[.int .i64 V, .slice Y y y']]) ∧ x ≤ 6 ∧ y ≤ 6 ∧
    Own w' w.heap.size X x xs ∧ Own w' w.heap.size Y y ys ∧ w.grownBy w' (some b) ∧ Rdr w' lo b q

theorem TwoI.fin {w wr : World} {lo b o q x x' y y' : Nat} {W V : Int} {X Y : Option Addr} {xs ys : List Int} (h : TwoI w wr lo b o q W X x x' xs #[.int .i64 W, .slice X x x'] #[.int .i64 V, .slice Y y y']) (hY : Own wr w.heap.size Y y ys) (hx : x ≤ 6) (hy : y ≤ 6) :
    DrawnTwoR w lo b (.returned (.tuple #[.agg #[.int .i64 W, .slice X x x'], .agg #[.int .i64 V, .slice Y y y']])) wr :=
  ⟨W, X, x, x', xs, V, Y, y, y', ys, q, rfl, hx, hy, h.own, hY, h.gr, h.rd⟩

set_option maxHeartbeats 4000000 in
theorem l91Two_c (lo b p : Nat) (cells : Int) (w : World) (h : Rdr w lo b p) (hp : p ≤ 400000) (hc : 1 ≤ cells) (hc2 : cells ≤ 100) :
    Calls Try.prog 11 #[.pointer (some ⟨b, 0, none⟩), .int .i64 cells] w (DrawnTwoR w lo b) := by
  have hbz := h.lt
  have hA0 := (Blk.new w 25 #[.int .i64 0, .slice none 0 0]).alloc (.cells #[.int .i64 0, .slice none 0 0] 25)
  have hC0 := heap_at2 w (.cells #[.int .i64 0, .slice none 0 0] 25) 25 #[.int .i64 0, .slice none 0 0]
  have hL0 := lo_alloc (lo_alloc (Below.refl w.heap.size w) (.cells #[.int .i64 0, .slice none 0 0] 25)) (.cells #[.int .i64 0, .slice none 0 0] 25)
  have hG0 : w.grownBy _ (some b) := grown_of_below hL0 (some b)
  have hR0 := h.next hL0
  have hz0 : ((w.alloc (.cells #[.int .i64 0, .slice none 0 0] 25)).alloc (.cells #[.int .i64 0, .slice none 0 0] 25)).heap.size = w.heap.size + 2 := by simp
  go_enter Try.func11, Try.ntmps11
  go_wp2_with fail
  generalize (w.alloc (.cells #[.int .i64 0, .slice none 0 0] 25)).alloc (.cells #[.int .i64 0, .slice none 0 0] 25) = w0 at hA0 hC0 hL0 hG0 hR0 hz0 ⊢
  refine (l91Wrong_c lo b p cells w0 hR0 (by omega) hc hc2).mono ?_
  rintro e w1 ⟨W, X, x, x', q, xs, rfl, hW0, hW7, hx6, hX, hg1, hr1, hq⟩
  have hs1 := hg1.size
  obtain ⟨o, ho⟩ : ∃ o, o = w1.heap.size := ⟨_, rfl⟩
  obtain ⟨wz, hwz⟩ : ∃ wz, wz = w1.alloc (.cells #[.int .i64 W, .slice X x x'] 25) := ⟨_, rfl⟩
  have hT : TwoI w wz lo b o q W X x x' xs #[.int .i64 0, .slice none 0 0] #[.int .i64 0, .slice none 0 0] := by
    rw [hwz]
    refine ⟨(hA0.grown hg1 (by intro e; injection e; omega)).alloc _, (hC0.grown hg1 (by intro e; injection e; omega)).alloc _, by rw [ho]; exact Blk.new _ _ _, (hX.alloc _).mono (by omega), grown_trans (grown_trans hG0 hg1) (grown_alloc _ _), hr1.next (by (repeat (first | exact Below.refl _ _ | assumption | refine lo_alloc ?_ _ | refine lo_set ?_ (by simp; try omega) _ | refine Below.drew ?_ | refine below_drewN ?_ _ | refine lo_trans ?_ (by assumption) | refine lo_wr ?_ (by assumption) (by omega)))), by omega, hbz⟩
  clear hA0 hC0 hL0 hG0 hR0 hX hg1 hr1
  go_wp2_with fail
  rw [← ho, ← hwz]
  have ho' := Lib.hid ho; clear ho
  have hwz' := Lib.hid hwz; clear hwz
  refine (pick_c lo b q _ _ hT.rd (by omega)).mono ?_
  rintro e w2 ⟨v, rfl, hv, hg2, hr2⟩
  have hT2 := hT.step hg2 hr2
  have hlo := hT2.lo_
  clear hT hg2 hr2 hv
  by_cases hv0 : 0 < v
  · have hvi : (0 : Int) < (v : Int) := by omega
    have hT0 := hT2.drew
    have hT1 := hT0.set4 (.int .i64 W) (.slice X x x')
    have a0 := hT2.ko.cell 0
    have a1 := hT2.ko.cell 1
    have r0 := hT0.k4.cell 0
    have r1 := hT0.k4.cell 1
    have f0 := hT0.k4.frozen 0
    have f1 := hT0.k4.frozen 1
    have hlb := hT2.lb
    have hl0 : w.heap.size ≤ w2.drew.heap.size := by have := hT0.size; omega
    have hl1 := Lib.hid (Nat.le_of_lt (Nat.lt_of_succ_lt hT1.size))
    have hq7 : q + 1 ≤ 700000 := by omega
    clear hv0
    go_wp2
    go_region_held3 (fun w' => w'.cell? ⟨o, 0, none⟩ = some (.int .i64 W) ∧ w'.cell? ⟨o, 1, none⟩ = some (.slice X x x'))
      (first
        | go_keep
        | with_reducible exact hT1.o0
        | with_reducible exact hT5.o0
        | with_reducible exact hT6.o0
        | with_reducible exact hT7.o0
        | with_reducible exact hT8.o0)
      (first
        | (go_at_call 26
           with_reducible refine (l91Other_c lo b _ w.heap.size W X x x' xs _ hT0.rd hq7 hT0.own hlb hl0 hx6).mono ?_
           rintro e w5 ⟨Y, y', q5, ys, rfl, hY, hg5, hr5, hq5⟩
           have hT5 := hT0.step hg5 hr5
           have hT6 := hT5.set4 (.int .i64 W) (.slice X x x')
           have hT7 := hT5.set5 (.int .i64 W) (.slice Y x y')
           have hT8 := hT6.set5 (.int .i64 W) (.slice Y x y')
           have s0 := hT5.k5.cell 0; have s1 := hT5.k5.cell 1; have t0 := hT5.k5.frozen 0; have t1 := hT5.k5.frozen 1
           have s2 := hT5.k4.cell 0; have s3 := hT5.k4.cell 1; have t2 := hT5.k4.frozen 0; have t3 := hT5.k4.frozen 1
           have hw5 := hT5.size)
        | (go_at_call 26
           with_reducible refine (l91Other_c lo b _ w.heap.size W X x x' xs _ hT1.rd hq7 hT1.own hlb hl1.out hx6).mono ?_
           rintro e w5 ⟨Y, y', q5, ys, rfl, hY, hg5, hr5, hq5⟩
           have hT5 := hT1.step hg5 hr5
           have hT6 := hT5.set5 (.int .i64 W) (.slice Y x y')
           have s0 := hT5.k5.cell 0; have s1 := hT5.k5.cell 1; have t0 := hT5.k5.frozen 0; have t1 := hT5.k5.frozen 1
           have hw5 := hT5.size))
    have hYf := hT6.own5 (hT5.own4 hY (.int .i64 W) (.slice X x x')) (.int .i64 W) (.slice Y x y')
    have z0 := Lib.hid (hT8.k4.cell 0); have z1 := Lib.hid (hT8.k4.cell 1); have z2 := Lib.hid (hT8.k5.cell 0); have z3 := Lib.hid (hT8.k5.cell 1)
    clear hT5 hT6 hT7 hT0 hY hg5 hr5 s0 s1 s2 s3 t0 t1 t2 t3 a0 a1 r0 r1 f0 f1
    go_wp2
    exact bodyPost_ret (v := .tuple #[.agg #[.int .i64 W, .slice X x x'], .agg #[.int .i64 W, .slice Y x y']]) (by simp [results, Try.results11, go_sem, z0.out, z1.out, z2.out, z3.out]) rfl (hT8.fin hYf hx6 hx6)
  · have hv1 : ¬ ((0 : Int) < (v : Int)) := by omega
    clear hv0
    go_wp2_with fail
    refine (pick_c lo b (q + 1) _ _ hT2.rd (by omega)).mono ?_
    rintro e w3 ⟨u, rfl, hu, hg3, hr3⟩
    have hT3 := hT2.step hg3 hr3
    clear hT2 hg3 hr3 hu
    by_cases hu0 : u = 0
    · subst hu0
      have a0 := hT3.ko.cell 0
      have a1 := hT3.ko.cell 1
      go_wp2_with fail
      refine (spec_ImageValid_c _ _ _ _ xs _ hT3.own.rd (by omega)).mono ?_
      cases hk : okB W xs with
      | false =>
        rintro e w4 ⟨rfl, hb4⟩
        have hT4 := hT3.next hb4
        clear hT3 hb4 a0 a1
        have hT0 := hT4.drew
        have a0 := hT4.ko.cell 0
        have a1 := hT4.ko.cell 1
        have r0 := hT0.k4.cell 0
        have r1 := hT0.k4.cell 1
        have f0 := hT0.k4.frozen 0
        have f1 := hT0.k4.frozen 1
        have hl0 := hT0.size
        have hq6 : q + 1 + 1 ≤ 600000 := by omega
        go_wp2
        go_region_held3 (fun w' => w'.cell? ⟨o, 0, none⟩ = some (.int .i64 W) ∧ w'.cell? ⟨o, 1, none⟩ = some (.slice X x x'))
          (first
            | go_keep
            | with_reducible exact hT5.o0
            | with_reducible exact hT6.o0
            | with_reducible exact hT7.o0
            | with_reducible exact hT8.o0)
          (first
            | (go_at_call 24
               with_reducible refine (l91Wrong_c lo b _ cells _ hT0.rd hq6 hc hc2).mono ?_
               rintro e w5 ⟨V, Y, y, y', qy, ys, rfl, hV0, hV7, hy6, hYb, hg5, hr5, hq5⟩
               have hY := hYb.mono (lo' := w.heap.size) (by omega)
               have hT5 := hT0.step hg5 hr5
               have hT6 := hT5.set4 (.int .i64 W) (.slice X x x')
               have hT7 := hT5.set5 (.int .i64 V) (.slice Y y y')
               have hT8 := hT6.set5 (.int .i64 V) (.slice Y y y')
               have s0 := hT5.k5.cell 0; have s1 := hT5.k5.cell 1; have t0 := hT5.k5.frozen 0; have t1 := hT5.k5.frozen 1
               have s2 := hT5.k4.cell 0; have s3 := hT5.k4.cell 1; have t2 := hT5.k4.frozen 0; have t3 := hT5.k4.frozen 1
               have hw5 := hT5.size))
        have hYf := hT6.own5 (hT5.own4 hY (.int .i64 W) (.slice X x x')) (.int .i64 V) (.slice Y y y')
        have z0 := Lib.hid (hT8.k4.cell 0); have z1 := Lib.hid (hT8.k4.cell 1); have z2 := Lib.hid (hT8.k5.cell 0); have z3 := Lib.hid (hT8.k5.cell 1)
        clear hT5 hT6 hT7 hT0 hY hg5 hr5 s0 s1 s2 s3 t0 t1 t2 t3 a0 a1 r0 r1 f0 f1
        go_wp2
        exact bodyPost_ret (v := .tuple #[.agg #[.int .i64 W, .slice X x x'], .agg #[.int .i64 V, .slice Y y y']]) (by simp [results, Try.results11, go_sem, z0.out, z1.out, z2.out, z3.out]) rfl (hT8.fin hYf hx6 hy6)
      | true =>
        rintro e w4 ⟨rfl, hb4⟩
        have hT4 := hT3.next hb4
        clear hT3 hb4 a0 a1
        have hbd := okB_bd hk
        have hxl : xs.length = x := hT4.own.1
        rw [hxl] at hbd
        obtain ⟨m, rfl⟩ := Int.eq_ofNat_of_zero_le (show 0 ≤ W by omega)
        obtain ⟨gx, _, eX, _, hbX, _⟩ := hT4.own.2 (by omega)
        have hgx := hbX.lt
        have ho4 := hT4.ko.lt
        have a0 := hT4.ko.cell 0
        have a1 := hT4.ko.cell 1
        clear hbX hk
        go_wp2_with fail
        refine (l1Blank_c x m _ (by omega)).mono ?_
        rintro e w5 ⟨g, rfl, hb5, hk5, hg5, hg5'⟩
        have hXg : Hid (∀ g', X = some (⟨g', 0, none⟩ : Addr) → g' ≠ g) := Lib.hid (by
          intro g' e
          rw [eX] at e
          cases e
          omega)
        obtain ⟨o2, ho2⟩ : ∃ o2, o2 = w5.heap.size := ⟨_, rfl⟩
        obtain ⟨wt, hwt⟩ : ∃ wt, wt = w5.alloc (.cells #[.int .i64 (m : Int), .slice (some ⟨g, 0, none⟩) x x] 25) := ⟨_, rfl⟩
        have hT5 : TwoI w wt lo b o (q + 1 + 1) (m : Int) X x x' xs #[.int .i64 0, .slice none 0 0] #[.int .i64 0, .slice none 0 0] := by rw [hwt]; exact (hT4.next hb5).next (lo_alloc (Below.refl _ _) _)
        have hO2 : Blk wt o2 25 #[.int .i64 (m : Int), .slice (some ⟨g, 0, none⟩) x x] := by rw [hwt, ho2]; exact Blk.new _ _ _
        have hI2 : Blk wt g 3 (ints (List.replicate x 0)) := by rw [hwt]; exact hk5.alloc _
        have hgo : o < g := by omega
        have hgo2 : g < o2 := by omega
        clear hT4 hb5 hk5 eX a0 a1
        go_wp2_with fail
        rw [← ho2, ← hwt]
        have ho2' := Lib.hid ho2; clear ho2
        have hwt' := Lib.hid hwt; clear hwt
        go_loopw [8] (fun i wr => ∃ (k qk : Nat) (ys : List Int), k ≤ x ∧ i = .int .i64 k ∧ Hid (ys.length = x) ∧ TwoI w wr lo b o qk (m : Int) X x x' xs #[.int .i64 0, .slice none 0 0] #[.int .i64 0, .slice none 0 0] ∧ Blk wr o2 25 #[.int .i64 (m : Int), .slice (some ⟨g, 0, none⟩) x x] ∧
            Blk wr g 3 (ints ys) ∧ qk ≤ q + 2 + k) (fun i _ => x - (intOf i).toNat)
        case atStart => exact ⟨0, _, _, Nat.zero_le _, rfl, Lib.hid (by simp), hT5, hO2, hI2, by omega⟩
        case round =>
          clear hT5 hO2 hI2
          obtain ⟨k, qk, ys, hkx, rfl, hyl, hT, hO, hI, hqk⟩ := hrel
          have hlb := hT.lb
          have hlo2 := hT.lo_
          by_cases hlt : k < x
          · have hTd := hT.drew
            obtain ⟨c0, c1⟩ := img_cells hO
            obtain ⟨a0, a1⟩ := hT.o0
            have hki : (k : Int) < (x : Int) := by omega
            have hki0 : (0 : Int) ≤ (k : Int) := by omega
            have hpw := pow_int (j := m) (by omega)
            have hqk9 : qk ≤ 1000000 := by omega
            go_wp2
            go_region_held3 (fun w' => w'.cell? ⟨o2, 1, none⟩ = some (.slice (some ⟨g, 0, none⟩) x x) ∧ w'.cell? ⟨o, 0, none⟩ = some (.int .i64 (m : Int)))
              (first
                | go_keep
                | with_reducible exact hP6
                | with_reducible exact hP7)
              (first
                | (go_at_call 29; refine (l1Power_c _ _ (by omega) (by omega)).mono ?_; rintro e w' ⟨rfl, rfl⟩)
                | (go_at_call 25
                   refine (pick_c lo b qk _ _ hTd.rd hqk9).mono ?_
                   rintro e w6 ⟨v6, rfl, hv6, hg6, hr6⟩
                   have hT6 := hTd.step hg6 hr6
                   have hO6 := hO.drew.grown hg6 (by intro e; injection e; omega)
                   have hI6 := hI.drew.grown hg6 (by intro e; injection e; omega)
                   have i6 := hI6.icell (k := k) (by rw [hyl.out]; exact hlt)
                   have f6 := hI6.frozen k
                   have hT7 := hT6.far (i := k) hgo hXg.out (.int .i64 (v6 : Int))
                   have hO7 := hO6.far (p := ⟨g, k, none⟩) (show o2 ≠ g by omega) (.int .i64 (v6 : Int))
                   have hP6 := And.intro (img_cells hO6).2 hT6.o0.1
                   have hP7 := And.intro (img_cells hO7).2 hT7.o0.1))
            have hI7 := hI6.iset k (v6 : Int)
            clear c0 c1 a0 a1 i6 f6 hT6 hO6 hI6 hP6 hP7 hT hO hI hTd hv6 hg6 hr6 hpw
            go_wp2
            go_roundw
            case rel => exact ⟨k + 1, _, _, by omega, by go_num, Lib.hid (by rw [List.length_set]; exact hyl.out), hT7, hO7, hI7, by omega⟩
            case measure => simp [intOf]; omega
          · have hkx' : k = x := by omega
            have hkx2 := Lib.hid hkx'
            have hT0 := hT.drew
            obtain ⟨c0, c1⟩ := img_cells hO
            obtain ⟨a0, a1⟩ := hT.o0
            have r0 := hT.k4.cell 0
            have r1 := hT.k4.cell 1
            have f0 := hT.k4.frozen 0
            have f1 := hT.k4.frozen 1
            have s0 := hT.k5.cell 0
            have s1 := hT.k5.cell 1
            have t0 := hT.k5.frozen 0
            have t1 := hT.k5.frozen 1
            have hki : ¬ ((k : Int) < (x : Int)) := by omega
            have hY := Own.of_ints (base := w.heap.size) hI hyl.out (by omega)
            have hT6 := hT.set4 (.int .i64 (m : Int)) (.slice X x x')
            have hT7 := hT.set5 (.int .i64 (m : Int)) (.slice (some ⟨g, 0, none⟩) x x)
            have hT8 := (hT6.set5 (.int .i64 (m : Int)) (.slice (some ⟨g, 0, none⟩) x x)).drew
            clear hkx'
            go_wp2
            go_region
            have hYf := (hT6.own5 (hT.own4 hY (.int .i64 (m : Int)) (.slice X x x')) (.int .i64 (m : Int)) (.slice (some ⟨g, 0, none⟩) x x)).drew
            have z0 := Lib.hid (hT8.k4.cell 0); have z1 := Lib.hid (hT8.k4.cell 1); have z2 := Lib.hid (hT8.k5.cell 0); have z3 := Lib.hid (hT8.k5.cell 1)
            clear hT6 hT7 hT0 hY s0 s1 t0 t1 a0 a1 r0 r1 f0 f1 c0 c1 hT hO hI
            go_wp2
            exact bodyPost_ret (v := .tuple #[.agg #[.int .i64 (m : Int), .slice X x x'], .agg #[.int .i64 (m : Int), .slice (some ⟨g, 0, none⟩) x x]]) (by simp [results, Try.results11, go_sem, z0.out, z1.out, z2.out, z3.out]) rfl (hT8.fin hYf hx6 hx6)
    · have hu1 : ((u : Int) == 0) = false := beq_eq_false_iff_ne.2 (by omega)
      clear hu0
      have hT0 := hT3.drew
      have a0 := hT3.ko.cell 0
      have a1 := hT3.ko.cell 1
      have r0 := hT0.k4.cell 0
      have r1 := hT0.k4.cell 1
      have f0 := hT0.k4.frozen 0
      have f1 := hT0.k4.frozen 1
      have hl0 := hT0.size
      have hq6 : q + 1 + 1 ≤ 600000 := by omega
      go_wp2
      go_region_held3 (fun w' => w'.cell? ⟨o, 0, none⟩ = some (.int .i64 W) ∧ w'.cell? ⟨o, 1, none⟩ = some (.slice X x x'))
        (first
          | go_keep
          | with_reducible exact hT5.o0
          | with_reducible exact hT6.o0
          | with_reducible exact hT7.o0
          | with_reducible exact hT8.o0)
        (first
          | (go_at_call 24
             with_reducible refine (l91Wrong_c lo b _ cells _ hT0.rd hq6 hc hc2).mono ?_
             rintro e w5 ⟨V, Y, y, y', qy, ys, rfl, hV0, hV7, hy6, hYb, hg5, hr5, hq5⟩
             have hY := hYb.mono (lo' := w.heap.size) (by omega)
             have hT5 := hT0.step hg5 hr5
             have hT6 := hT5.set4 (.int .i64 W) (.slice X x x')
             have hT7 := hT5.set5 (.int .i64 V) (.slice Y y y')
             have hT8 := hT6.set5 (.int .i64 V) (.slice Y y y')
             have s0 := hT5.k5.cell 0; have s1 := hT5.k5.cell 1; have t0 := hT5.k5.frozen 0; have t1 := hT5.k5.frozen 1
             have s2 := hT5.k4.cell 0; have s3 := hT5.k4.cell 1; have t2 := hT5.k4.frozen 0; have t3 := hT5.k4.frozen 1
             have hw5 := hT5.size))
      have hYf := hT6.own5 (hT5.own4 hY (.int .i64 W) (.slice X x x')) (.int .i64 V) (.slice Y y y')
      have z0 := Lib.hid (hT8.k4.cell 0); have z1 := Lib.hid (hT8.k4.cell 1); have z2 := Lib.hid (hT8.k5.cell 0); have z3 := Lib.hid (hT8.k5.cell 1)
      clear hT5 hT6 hT7 hT0 hY hg5 hr5 s0 s1 s2 s3 t0 t1 t2 t3 a0 a1 r0 r1 f0 f1
      go_wp2
      exact bodyPost_ret (v := .tuple #[.agg #[.int .i64 W, .slice X x x'], .agg #[.int .i64 V, .slice Y y y']]) (by simp [results, Try.results11, go_sem, z0.out, z1.out, z2.out, z3.out]) rfl (hT8.fin hYf hx6 hy6)
end Go.Proofs.Ytpoojghommfklaa

-- Walks: the two drawn images of the laws on how far images are.
namespace Go.Proofs.Ytpoojghommfklaa
open Go.RowKit
set_option maxRecDepth 100000

/-- Two drawn images. -/
def DrawnTwo (w : World) (e : Ending) (w' : World) : Prop :=
  ∃ (W : Int) (X : Option Addr) (x x' : Nat) (xs : List Int) (V : Int) (Y : Option Addr) (y y' : Nat) (ys : List Int), e = .returned (.tuple #[.agg #[.int .i64 W, .slice X x x'], .agg #[.int .i64 V, .slice Y y y']]) ∧ x ≤ 6 ∧ y ≤ 6 ∧
    Rd w' X x xs ∧ Rd w' Y y ys ∧ Below w.heap.size w w'

set_option maxHeartbeats 2000000 in
theorem DrawNeighborFar_c (A : Option Addr) (n c : Nat) (w : World) (hr : RdB w A n) (hn : n ≤ 1048576) (hc : n ≤ c) :
    Calls Try.prog 4 #[.slice A n c] w (DrawnTwo w) := by
  have hA0 := (Blk.new w 25 #[.int .i64 0, .slice none 0 0]).alloc (.cells #[.int .i64 0, .slice none 0 0] 25)
  have hC0 := heap_at2 w (.cells #[.int .i64 0, .slice none 0 0] 25) 25 #[.int .i64 0, .slice none 0 0]
  have hL0 := lo_alloc (lo_alloc (Below.refl w.heap.size w) (.cells #[.int .i64 0, .slice none 0 0] 25)) (.cells #[.int .i64 0, .slice none 0 0] 25)
  have hz0 : ((w.alloc (.cells #[.int .i64 0, .slice none 0 0] 25)).alloc (.cells #[.int .i64 0, .slice none 0 0] 25)).heap.size = w.heap.size + 2 := by simp
  have hr0 := hr.next hL0
  go_enter Try.func4, Try.ntmps4
  go_wp2_with fail
  generalize (w.alloc (.cells #[.int .i64 0, .slice none 0 0] 25)).alloc (.cells #[.int .i64 0, .slice none 0 0] 25) = w0 at hA0 hC0 hL0 hz0 hr0 ⊢
  refine (l6Open_c A n c _ hr0 hn hc).mono ?_
  rintro e w1 ⟨b, rfl, hr1, hb1⟩
  have hA1 := hA0.next hb1
  have hC1 := hC0.next hb1
  have hL1 := lo_trans hL0 hb1
  have hbl := hr1.1
  have hs1 := hb1.size
  clear hA0 hC0 hL0 hb1
  go_wp2_with fail
  refine (l91Two_c _ b 0 12 _ hr1 (by omega) (by omega) (by omega)).mono ?_
  rintro e w2 ⟨W, X, x, x', xs, V, Y, y, y', ys, q, rfl, hx6, hy6, hX, hY, hg2, _⟩
  have hA2 := ((hA1.grown hg2 (by intro e; injection e; omega)).alloc (.cells #[.int .i64 W, .slice X x x'] 25)).alloc (.cells #[.int .i64 V, .slice Y y y'] 25)
  have hC2 := ((hC1.grown hg2 (by intro e; injection e; omega)).alloc (.cells #[.int .i64 W, .slice X x x'] 25)).alloc (.cells #[.int .i64 V, .slice Y y y'] 25)
  have hL2 := lo_alloc (lo_alloc (lo_grown hL1 hg2 (by rintro g ⟨⟩; omega)) (.cells #[.int .i64 W, .slice X x x'] 25)) (.cells #[.int .i64 V, .slice Y y y'] 25)
  have hX2 := (hX.alloc (.cells #[.int .i64 W, .slice X x x'] 25)).alloc (.cells #[.int .i64 V, .slice Y y y'] 25)
  have hY2 := (hY.alloc (.cells #[.int .i64 W, .slice X x x'] 25)).alloc (.cells #[.int .i64 V, .slice Y y y'] 25)
  have hP2 := (Blk.new w2 25 #[.int .i64 W, .slice X x x']).alloc (.cells #[.int .i64 V, .slice Y y y'] 25)
  have hQ2 := heap_at2 w2 (.cells #[.int .i64 W, .slice X x x'] 25) 25 #[.int .i64 V, .slice Y y y']
  have hs2 := hg2.size
  clear hA1 hC1 hL1 hX hY hg2 hr1
  have a0 := hP2.cell 0
  have a1 := hP2.cell 1
  have c0 := hQ2.cell 0
  have c1 := hQ2.cell 1
  have r0 := hA2.cell 0
  have r1 := hA2.cell 1
  have f0 := hA2.frozen 0
  have f1 := hA2.frozen 1
  have s0 := hC2.cell 0
  have s1 := hC2.cell 1
  have t0 := hC2.frozen 0
  have t1 := hC2.frozen 1
  have hlo : w.heap.size + 1 < w1.heap.size := by omega
  have hlz : ((w2.alloc (.cells #[.int .i64 W, .slice X x x'] 25)).alloc (.cells #[.int .i64 V, .slice Y y y'] 25)).heap.size = w2.heap.size + 2 := by simp
  have hA3 := ((((hA2.set_ 0 (.int .i64 W)).set_ 1 (.slice X x x')).far (p := ⟨w.heap.size + 1, 0, none⟩) (by simp) (.int .i64 V)).far (p := ⟨w.heap.size + 1, 1, none⟩) (by simp) (.slice Y y y')).drew
  have hC3 := ((((hC2.far (p := ⟨w.heap.size, 0, none⟩) (by simp) (.int .i64 W)).far (p := ⟨w.heap.size, 1, none⟩) (by simp) (.slice X x x')).set_ 0 (.int .i64 V)).set_ 1 (.slice Y y y')).drew
  have hX3 := ((((hX2.far_lo (p := ⟨w.heap.size, 0, none⟩) (by simp; omega) (.int .i64 W)).far_lo (p := ⟨w.heap.size, 1, none⟩) (by simp; omega) (.slice X x x')).far_lo (p := ⟨w.heap.size + 1, 0, none⟩) (by simp; omega) (.int .i64 V)).far_lo (p := ⟨w.heap.size + 1, 1, none⟩) (by simp; omega) (.slice Y y y')).drew.rd
  have hY3 := ((((hY2.far_lo (p := ⟨w.heap.size, 0, none⟩) (by simp; omega) (.int .i64 W)).far_lo (p := ⟨w.heap.size, 1, none⟩) (by simp; omega) (.slice X x x')).far_lo (p := ⟨w.heap.size + 1, 0, none⟩) (by simp; omega) (.int .i64 V)).far_lo (p := ⟨w.heap.size + 1, 1, none⟩) (by simp; omega) (.slice Y y y')).drew.rd
  have hL3 := Below.drew (lo_set (lo_set (lo_set (lo_set hL2 (p := ⟨w.heap.size, 0, none⟩) (by simp) (.int .i64 W)) (p := ⟨w.heap.size, 1, none⟩) (by simp) (.slice X x x')) (p := ⟨w.heap.size + 1, 0, none⟩) (by simp) (.int .i64 V)) (p := ⟨w.heap.size + 1, 1, none⟩) (by simp) (.slice Y y y'))
  have z0 := Lib.hid (hA3.cell 0); have z1 := Lib.hid (hA3.cell 1); have z2 := Lib.hid (hC3.cell 0); have z3 := Lib.hid (hC3.cell 1)
  clear hX2 hY2 hL2 hA3 hC3
  go_wp2
  generalize (w2.alloc (.cells #[.int .i64 W, .slice X x x'] 25)).alloc (.cells #[.int .i64 V, .slice Y y y'] 25) = w3 at *
  go_region
  go_wp2
  exact bodyPost_ret (v := .tuple #[.agg #[.int .i64 W, .slice X x x'], .agg #[.int .i64 V, .slice Y y y']]) (by simp [results, Try.results4, go_sem, z0.out, z1.out, z2.out, z3.out]) rfl ⟨W, X, x, x', xs, V, Y, y, y', ys, rfl, hx6, hy6, hX3, hY3, hL3⟩
end Go.Proofs.Ytpoojghommfklaa
