
/- Walks: two drawn images. -/
import Derived.Test.YtjogfeichnkffaaDo
namespace Go.Proofs.Ytjogfeichnkffaa
open Go.RowKit
set_option maxRecDepth 100000

/-- what lies in memory while two images are drawn: the results' cells, the first image -/
structure TwoI (w wr : World) (lo b o q : Nat) (W : Int) (X : Option Addr) (x x' : Nat) (xs : List Int) (r4 r5 : Array Value) : Prop where
  k4 : Blk wr w.heap.size 27 r4
  k5 : Blk wr (w.heap.size + 1) 27 r5
  ko : Blk wr o 27 #[.int .i64 W, .slice X x x']
  own : Own wr w.heap.size X x xs
  gr : w.grownBy wr (some b)
  rd : Rdr wr lo b q
  lo_ : w.heap.size + 1 < o
  lb : b < w.heap.size
section
variable {w wr w' : World} {lo b o q q' x x' : Nat} {W : Int} {X : Option Addr} {xs : List Int} {r4 r5 : Array Value}
theorem TwoI.drew (h : TwoI w wr lo b o q W X x x' xs r4 r5) : TwoI w wr.drew lo b o q W X x x' xs r4 r5 :=
  ⟨h.k4.drew, h.k5.drew, h.ko.drew, h.own.drew, grown_trans h.gr (grown_drew _), h.rd.next (Below.drew (Below.refl _ _)), h.lo_, h.lb⟩
theorem TwoI.step (h : TwoI w wr lo b o q W X x x' xs r4 r5) (hg : wr.grownBy w' (some b)) (hr : Rdr w' lo b q') : TwoI w w' lo b o q' W X x x' xs r4 r5 := by
  have hb := h.lb
  have ho := h.lo_
  exact ⟨h.k4.grown hg (by intro e; injection e; omega), h.k5.grown hg (by intro e; injection e; omega), h.ko.grown hg (by intro e; injection e; omega), h.own.grown_lo hg (by rintro g ⟨⟩; exact hb), grown_trans h.gr hg, hr, ho, hb⟩
theorem TwoI.next (h : TwoI w wr lo b o q W X x x' xs r4 r5) (hb : Below wr.heap.size wr w') : TwoI w w' lo b o q W X x x' xs r4 r5 :=
  h.step (grown_of_below hb _) (h.rd.next hb)
theorem TwoI.size (h : TwoI w wr lo b o q W X x x' xs r4 r5) : w.heap.size + 1 < wr.heap.size := by
  have := h.ko.lt; have := h.lo_; omega
theorem TwoI.o0 (h : TwoI w wr lo b o q W X x x' xs r4 r5) : wr.cell? ⟨o, 0, none⟩ = some (.int .i64 W) ∧ wr.cell? ⟨o, 1, none⟩ = some (.slice X x x') := ⟨h.ko.cell 0, h.ko.cell 1⟩
theorem TwoI.set4 {v0 v1 : Value} (h : TwoI w wr lo b o q W X x x' xs #[v0, v1] r5) (u0 u1 : Value) :
    TwoI w ((wr.setCell ⟨w.heap.size, 0, none⟩ u0).setCell ⟨w.heap.size, 1, none⟩ u1) lo b o q W X x x' xs #[u0, u1] r5 := by
  have hb := h.lb
  have ho := h.lo_
  exact ⟨(h.k4.set_ 0 u0).set_ 1 u1, (h.k5.far (p := ⟨w.heap.size, 0, none⟩) (by simp) u0).far (p := ⟨w.heap.size, 1, none⟩) (by simp) u1, (h.ko.far (p := ⟨w.heap.size, 0, none⟩) (by simp; omega) u0).far (p := ⟨w.heap.size, 1, none⟩) (by simp; omega) u1,
    (h.own.far_img (i := 0) h.k4 u0).far_img (i := 1) (h.k4.set_ 0 u0) u1,
    grown_over (grown_over h.gr (grown_set u0) (by rintro _ ⟨⟩; omega)) (grown_set u1) (by rintro _ ⟨⟩; omega), (h.rd.grown (grown_set u0) (by omega)).grown (grown_set u1) (by omega), ho, hb⟩
theorem TwoI.set5 {v0 v1 : Value} (h : TwoI w wr lo b o q W X x x' xs r4 #[v0, v1]) (u0 u1 : Value) :
    TwoI w ((wr.setCell ⟨w.heap.size + 1, 0, none⟩ u0).setCell ⟨w.heap.size + 1, 1, none⟩ u1) lo b o q W X x x' xs r4 #[u0, u1] := by
  have hb := h.lb
  have ho := h.lo_
  exact ⟨(h.k4.far (p := ⟨w.heap.size + 1, 0, none⟩) (by simp) u0).far (p := ⟨w.heap.size + 1, 1, none⟩) (by simp) u1, (h.k5.set_ 0 u0).set_ 1 u1, (h.ko.far (p := ⟨w.heap.size + 1, 0, none⟩) (by simp; omega) u0).far (p := ⟨w.heap.size + 1, 1, none⟩) (by simp; omega) u1,
    (h.own.far_img (i := 0) h.k5 u0).far_img (i := 1) (h.k5.set_ 0 u0) u1,
    grown_over (grown_over h.gr (grown_set u0) (by rintro _ ⟨⟩; omega)) (grown_set u1) (by rintro _ ⟨⟩; omega), (h.rd.grown (grown_set u0) (by omega)).grown (grown_set u1) (by omega), ho, hb⟩
theorem TwoI.own4 {lo' n : Nat} {Y : Option Addr} {ys : List Int} (h : TwoI w wr lo b o q W X x x' xs r4 r5) (hY : Own wr lo' Y n ys) (u0 u1 : Value) : Own ((wr.setCell ⟨w.heap.size, 0, none⟩ u0).setCell ⟨w.heap.size, 1, none⟩ u1) lo' Y n ys :=
  (hY.far_img (i := 0) h.k4 u0).far_img (i := 1) (h.k4.set_ 0 u0) u1
theorem TwoI.own5 {lo' n : Nat} {Y : Option Addr} {ys : List Int} (h : TwoI w wr lo b o q W X x x' xs r4 r5) (hY : Own wr lo' Y n ys) (u0 u1 : Value) : Own ((wr.setCell ⟨w.heap.size + 1, 0, none⟩ u0).setCell ⟨w.heap.size + 1, 1, none⟩ u1) lo' Y n ys :=
  (hY.far_img (i := 0) h.k5 u0).far_img (i := 1) (h.k5.set_ 0 u0) u1
end

section
variable {w wr : World} {lo b o q x x' : Nat} {W : Int} {X : Option Addr} {xs : List Int} {r4 r5 : Array Value}
theorem TwoI.far {g i : Nat} (h : TwoI w wr lo b o q W X x x' xs r4 r5) (hg : o < g) (hXg : ∀ g', X = some ⟨g', 0, none⟩ → g' ≠ g) (u : Value) : TwoI w (wr.setCell ⟨g, i, none⟩ u) lo b o q W X x x' xs r4 r5 := by
  have hb := h.lb
  have ho := h.lo_
  exact ⟨h.k4.far (p := ⟨g, i, none⟩) (by simp; omega) u, h.k5.far (p := ⟨g, i, none⟩) (by simp; omega) u, h.ko.far (p := ⟨g, i, none⟩) (by simp; omega) u, h.own.far (p := ⟨g, i, none⟩) hXg u,
    grown_over h.gr (grown_set u) (by rintro _ ⟨⟩; omega), h.rd.grown (grown_set u) (by omega), ho, hb⟩
theorem img_cells {g : Nat} {v0 v1 : Value} (h : Blk w g 27 #[v0, v1]) : w.cell? ⟨g, 0, none⟩ = some v0 ∧ w.cell? ⟨g, 1, none⟩ = some v1 := ⟨h.cell 0, h.cell 1⟩
theorem Own.of_ints {g base n : Nat} {ys : List Int} (h : Blk w g 3 (ints ys)) (hl : ys.length = n) (hb : base ≤ g) : Own w base (some ⟨g, 0, none⟩) n ys :=
  ⟨hl, fun _ => ⟨g, ints ys, rfl, hb, h, fun k x hx => by rw [ints_get, hx]; rfl⟩⟩
end

def DrawnTwoR (w : World) (lo b : Nat) (e : Ending) (w' : World) : Prop :=
  ∃ (W : Int) (X : Option Addr) (x x' : Nat) (xs : List Int) (V : Int) (Y : Option Addr) (y y' : Nat) (ys : List Int) (q : Nat), e = .returned (.tuple #[.agg #[.int .i64 W, .slice X x x'], .agg #[.int .i64 V, .slice Y y y']]) ∧ x ≤ 6 ∧ y ≤ 6 ∧
    Own w' w.heap.size X x xs ∧ Own w' w.heap.size Y y ys ∧ w.grownBy w' (some b) ∧ Rdr w' lo b q

theorem TwoI.fin {w wr : World} {lo b o q x x' y y' : Nat} {W V : Int} {X Y : Option Addr} {xs ys : List Int} (h : TwoI w wr lo b o q W X x x' xs #[.int .i64 W, .slice X x x'] #[.int .i64 V, .slice Y y y']) (hY : Own wr w.heap.size Y y ys) (hx : x ≤ 6) (hy : y ≤ 6) :
    DrawnTwoR w lo b (.returned (.tuple #[.agg #[.int .i64 W, .slice X x x'], .agg #[.int .i64 V, .slice Y y y']])) wr :=
  ⟨W, X, x, x', xs, V, Y, y, y', ys, q, rfl, hx, hy, h.own, hY, h.gr, h.rd⟩

set_option maxHeartbeats 4000000 in
theorem l91Two_c (lo b p : Nat) (cells : Int) (w : World) (h : Rdr w lo b p) (hp : p ≤ 400000) (hc : 1 ≤ cells) (hc2 : cells ≤ 100) :
    Calls Try.prog 42 #[.pointer (some ⟨b, 0, none⟩), .int .i64 cells] w (DrawnTwoR w lo b) := by
  have hbz := h.lt
  have hA0 := (Blk.new w 27 #[.int .i64 0, .slice none 0 0]).alloc (.cells #[.int .i64 0, .slice none 0 0] 27)
  have hC0 := heap_at2 w (.cells #[.int .i64 0, .slice none 0 0] 27) 27 #[.int .i64 0, .slice none 0 0]
  have hL0 := lo_alloc (lo_alloc (Below.refl w.heap.size w) (.cells #[.int .i64 0, .slice none 0 0] 27)) (.cells #[.int .i64 0, .slice none 0 0] 27)
  have hG0 : w.grownBy _ (some b) := grown_of_below hL0 (some b)
  have hR0 := h.next hL0
  have hz0 : ((w.alloc (.cells #[.int .i64 0, .slice none 0 0] 27)).alloc (.cells #[.int .i64 0, .slice none 0 0] 27)).heap.size = w.heap.size + 2 := by simp
  go_enter Try.func42, Try.ntmps42
  go_wp2_with fail
  generalize (w.alloc (.cells #[.int .i64 0, .slice none 0 0] 27)).alloc (.cells #[.int .i64 0, .slice none 0 0] 27) = w0 at hA0 hC0 hL0 hG0 hR0 hz0 ⊢
  refine (l91Wrong_c lo b p cells w0 hR0 (by omega) hc hc2).mono ?_
  rintro e w1 ⟨W, X, x, x', q, xs, rfl, hW0, hW7, hx6, hX, hg1, hr1, hq⟩
  have hs1 := hg1.size
  obtain ⟨o, ho⟩ : ∃ o, o = w1.heap.size := ⟨_, rfl⟩
  obtain ⟨wz, hwz⟩ : ∃ wz, wz = w1.alloc (.cells #[.int .i64 W, .slice X x x'] 27) := ⟨_, rfl⟩
  have hT : TwoI w wz lo b o q W X x x' xs #[.int .i64 0, .slice none 0 0] #[.int .i64 0, .slice none 0 0] := by
    rw [hwz]
    refine ⟨(hA0.grown hg1 (by intro e; injection e; omega)).alloc _, (hC0.grown hg1 (by intro e; injection e; omega)).alloc _, by rw [ho]; exact Blk.new _ _ _, (hX.alloc _).mono (by omega), grown_trans (grown_trans hG0 hg1) (grown_alloc _ _), hr1.next (by (repeat (first | exact Below.refl _ _ | assumption | refine lo_alloc ?_ _ | refine lo_set ?_ (by simp; try omega) _ | refine Below.drew ?_ | refine below_drewN ?_ _ | refine lo_trans ?_ (by assumption) | refine lo_wr ?_ (by assumption) (by omega)))), by omega, hbz⟩
  clear hA0 hC0 hL0 hG0 hR0 hX hg1 hr1
  go_wp2_with fail
  rw [← ho, ← hwz]
  have ho' := Lib.hid ho; clear ho
  have hwz' := Lib.hid hwz; clear hwz
  refine (pick_c lo b q _ _ hT.rd (by omega)).mono ?_
  rintro e w2 ⟨v, rfl, hv, hg2, hr2⟩
  have hT2 := hT.step hg2 hr2
  have hlo := hT2.lo_
  clear hT hg2 hr2 hv
  by_cases hv0 : 0 < v
  · have hvi : (0 : Int) < (v : Int) := by omega
    have hT0 := hT2.drew
    have hT1 := hT0.set4 (.int .i64 W) (.slice X x x')
    have a0 := hT2.ko.cell 0
    have a1 := hT2.ko.cell 1
    have r0 := hT0.k4.cell 0
    have r1 := hT0.k4.cell 1
    have f0 := hT0.k4.frozen 0
    have f1 := hT0.k4.frozen 1
    have hlb := hT2.lb
    have hl0 : w.heap.size ≤ w2.drew.heap.size := by have := hT0.size; omega
    have hl1 := Lib.hid (Nat.le_of_lt (Nat.lt_of_succ_lt hT1.size))
    have hq7 : q + 1 ≤ 700000 := by omega
    clear hv0
    go_wp2
    go_region_held3 (fun w' => w'.cell? ⟨o, 0, none⟩ = some (.int .i64 W) ∧ w'.cell? ⟨o, 1, none⟩ = some (.slice X x x'))
      (first
        | go_keep
        | with_reducible exact hT1.o0
        | with_reducible exact hT5.o0
        | with_reducible exact hT6.o0
        | with_reducible exact hT7.o0
        | with_reducible exact hT8.o0)
      (first
        | (go_at_call 54
           with_reducible refine (l91Other_c lo b _ w.heap.size W X x x' xs _ hT0.rd hq7 hT0.own hlb hl0 hx6).mono ?_
           rintro e w5 ⟨Y, y', q5, ys, rfl, hY, hg5, hr5, hq5⟩
           have hT5 := hT0.step hg5 hr5
           have hT6 := hT5.set4 (.int .i64 W) (.slice X x x')
           have hT7 := hT5.set5 (.int .i64 W) (.slice Y x y')
           have hT8 := hT6.set5 (.int .i64 W) (.slice Y x y')
           have s0 := hT5.k5.cell 0; have s1 := hT5.k5.cell 1; have t0 := hT5.k5.frozen 0; have t1 := hT5.k5.frozen 1
           have s2 := hT5.k4.cell 0; have s3 := hT5.k4.cell 1; have t2 := hT5.k4.frozen 0; have t3 := hT5.k4.frozen 1
           have hw5 := hT5.size)
        | (go_at_call 54
           with_reducible refine (l91Other_c lo b _ w.heap.size W X x x' xs _ hT1.rd hq7 hT1.own hlb hl1.out hx6).mono ?_
           rintro e w5 ⟨Y, y', q5, ys, rfl, hY, hg5, hr5, hq5⟩
           have hT5 := hT1.step hg5 hr5
           have hT6 := hT5.set5 (.int .i64 W) (.slice Y x y')
           have s0 := hT5.k5.cell 0; have s1 := hT5.k5.cell 1; have t0 := hT5.k5.frozen 0; have t1 := hT5.k5.frozen 1
           have hw5 := hT5.size))
    have hYf := hT6.own5 (hT5.own4 hY (.int .i64 W) (.slice X x x')) (.int .i64 W) (.slice Y x y')
    have z0 := Lib.hid (hT8.k4.cell 0); have z1 := Lib.hid (hT8.k4.cell 1); have z2 := Lib.hid (hT8.k5.cell 0); have z3 := Lib.hid (hT8.k5.cell 1)
    clear hT5 hT6 hT7 hT0 hY hg5 hr5 s0 s1 s2 s3 t0 t1 t2 t3 a0 a1 r0 r1 f0 f1
    go_wp2
    exact bodyPost_ret (v := .tuple #[.agg #[.int .i64 W, .slice X x x'], .agg #[.int .i64 W, .slice Y x y']]) (by simp [results, Try.results42, go_sem, z0.out, z1.out, z2.out, z3.out]) rfl (hT8.fin hYf hx6 hx6)
  · have hv1 : ¬ ((0 : Int) < (v : Int)) := by omega
    clear hv0
    go_wp2_with fail
    refine (pick_c lo b (q + 1) _ _ hT2.rd (by omega)).mono ?_
    rintro e w3 ⟨u, rfl, hu, hg3, hr3⟩
    have hT3 := hT2.step hg3 hr3
    clear hT2 hg3 hr3 hu
    by_cases hu0 : u = 0
    · subst hu0
      have a0 := hT3.ko.cell 0
      have a1 := hT3.ko.cell 1
      go_wp2_with fail
      refine (spec_ImageValid_c _ _ _ _ xs _ hT3.own.rd (by omega)).mono ?_
      cases hk : okB W xs with
      | false =>
        rintro e w4 ⟨rfl, hb4⟩
        have hT4 := hT3.next hb4
        clear hT3 hb4 a0 a1
        have hT0 := hT4.drew
        have a0 := hT4.ko.cell 0
        have a1 := hT4.ko.cell 1
        have r0 := hT0.k4.cell 0
        have r1 := hT0.k4.cell 1
        have f0 := hT0.k4.frozen 0
        have f1 := hT0.k4.frozen 1
        have hl0 := hT0.size
        have hq6 : q + 1 + 1 ≤ 600000 := by omega
        go_wp2
        go_region_held3 (fun w' => w'.cell? ⟨o, 0, none⟩ = some (.int .i64 W) ∧ w'.cell? ⟨o, 1, none⟩ = some (.slice X x x'))
          (first
            | go_keep
            | with_reducible exact hT5.o0
            | with_reducible exact hT6.o0
            | with_reducible exact hT7.o0
            | with_reducible exact hT8.o0)
          (first
            | (go_at_call 34
               with_reducible refine (l91Wrong_c lo b _ cells _ hT0.rd hq6 hc hc2).mono ?_
               rintro e w5 ⟨V, Y, y, y', qy, ys, rfl, hV0, hV7, hy6, hYb, hg5, hr5, hq5⟩
               have hY := hYb.mono (lo' := w.heap.size) (by omega)
               have hT5 := hT0.step hg5 hr5
               have hT6 := hT5.set4 (.int .i64 W) (.slice X x x')
               have hT7 := hT5.set5 (.int .i64 V) (.slice Y y y')
               have hT8 := hT6.set5 (.int .i64 V) (.slice Y y y')
               have s0 := hT5.k5.cell 0; have s1 := hT5.k5.cell 1; have t0 := hT5.k5.frozen 0; have t1 := hT5.k5.frozen 1
               have s2 := hT5.k4.cell 0; have s3 := hT5.k4.cell 1; have t2 := hT5.k4.frozen 0; have t3 := hT5.k4.frozen 1
               have hw5 := hT5.size))
        have hYf := hT6.own5 (hT5.own4 hY (.int .i64 W) (.slice X x x')) (.int .i64 V) (.slice Y y y')
        have z0 := Lib.hid (hT8.k4.cell 0); have z1 := Lib.hid (hT8.k4.cell 1); have z2 := Lib.hid (hT8.k5.cell 0); have z3 := Lib.hid (hT8.k5.cell 1)
        clear hT5 hT6 hT7 hT0 hY hg5 hr5 s0 s1 s2 s3 t0 t1 t2 t3 a0 a1 r0 r1 f0 f1
        go_wp2
        exact bodyPost_ret (v := .tuple #[.agg #[.int .i64 W, .slice X x x'], .agg #[.int .i64 V, .slice Y y y']]) (by simp [results, Try.results42, go_sem, z0.out, z1.out, z2.out, z3.out]) rfl (hT8.fin hYf hx6 hy6)
      | true =>
        rintro e w4 ⟨rfl, hb4⟩
        have hT4 := hT3.next hb4
        clear hT3 hb4 a0 a1
        have hbd := okB_bd hk
        have hxl : xs.length = x := hT4.own.1
        rw [hxl] at hbd
        obtain ⟨m, rfl⟩ := Int.eq_ofNat_of_zero_le (show 0 ≤ W by omega)
        obtain ⟨gx, _, eX, _, hbX, _⟩ := hT4.own.2 (by omega)
        have hgx := hbX.lt
        have ho4 := hT4.ko.lt
        have a0 := hT4.ko.cell 0
        have a1 := hT4.ko.cell 1
        clear hbX hk
        go_wp2_with fail
        refine (l1Blank_c x m _ (by omega)).mono ?_
        rintro e w5 ⟨g, rfl, hb5, hk5, hg5, hg5'⟩
        have hXg : Hid (∀ g', X = some (⟨g', 0, none⟩ : Addr) → g' ≠ g) := Lib.hid (by
          intro g' e
          rw [eX] at e
          cases e
          omega)
        obtain ⟨o2, ho2⟩ : ∃ o2, o2 = w5.heap.size := ⟨_, rfl⟩
        obtain ⟨wt, hwt⟩ : ∃ wt, wt = w5.alloc (.cells #[.int .i64 (m : Int), .slice (some ⟨g, 0, none⟩) x x] 27) := ⟨_, rfl⟩
        have hT5 : TwoI w wt lo b o (q + 1 + 1) (m : Int) X x x' xs #[.int .i64 0, .slice none 0 0] #[.int .i64 0, .slice none 0 0] := by rw [hwt]; exact (hT4.next hb5).next (lo_alloc (Below.refl _ _) _)
        have hO2 : Blk wt o2 27 #[.int .i64 (m : Int), .slice (some ⟨g, 0, none⟩) x x] := by rw [hwt, ho2]; exact Blk.new _ _ _
        have hI2 : Blk wt g 3 (ints (List.replicate x 0)) := by rw [hwt]; exact hk5.alloc _
        have hgo : o < g := by omega
        have hgo2 : g < o2 := by omega
        clear hT4 hb5 hk5 eX a0 a1
        go_wp2_with fail
        rw [← ho2, ← hwt]
        have ho2' := Lib.hid ho2; clear ho2
        have hwt' := Lib.hid hwt; clear hwt
        go_loopw [8] (fun i wr => ∃ (k qk : Nat) (ys : List Int), k ≤ x ∧ i = .int .i64 k ∧ Hid (ys.length = x) ∧ TwoI w wr lo b o qk (m : Int) X x x' xs #[.int .i64 0, .slice none 0 0] #[.int .i64 0, .slice none 0 0] ∧ Blk wr o2 27 #[.int .i64 (m : Int), .slice (some ⟨g, 0, none⟩) x x] ∧
            Blk wr g 3 (ints ys) ∧ qk ≤ q + 2 + k) (fun i _ => x - (intOf i).toNat)
        case atStart => exact ⟨0, _, _, Nat.zero_le _, rfl, Lib.hid (by simp), hT5, hO2, hI2, by omega⟩
        case round =>
          clear hT5 hO2 hI2
          obtain ⟨k, qk, ys, hkx, rfl, hyl, hT, hO, hI, hqk⟩ := hrel
          have hlb := hT.lb
          have hlo2 := hT.lo_
          by_cases hlt : k < x
          · have hTd := hT.drew
            obtain ⟨c0, c1⟩ := img_cells hO
            obtain ⟨a0, a1⟩ := hT.o0
            have hki : (k : Int) < (x : Int) := by omega
            have hki0 : (0 : Int) ≤ (k : Int) := by omega
            have hpw := pow_int (j := m) (by omega)
            have hqk9 : qk ≤ 1000000 := by omega
            go_wp2
            go_region_held3 (fun w' => w'.cell? ⟨o2, 1, none⟩ = some (.slice (some ⟨g, 0, none⟩) x x) ∧ w'.cell? ⟨o, 0, none⟩ = some (.int .i64 (m : Int)))
              (first
                | go_keep
                | with_reducible exact hP6
                | with_reducible exact hP7)
              (first
                | (go_at_call 45; refine (l1Power_c _ _ (by omega) (by omega)).mono ?_; rintro e w' ⟨rfl, rfl⟩)
                | (go_at_call 33
                   refine (pick_c lo b qk _ _ hTd.rd hqk9).mono ?_
                   rintro e w6 ⟨v6, rfl, hv6, hg6, hr6⟩
                   have hT6 := hTd.step hg6 hr6
                   have hO6 := hO.drew.grown hg6 (by intro e; injection e; omega)
                   have hI6 := hI.drew.grown hg6 (by intro e; injection e; omega)
                   have i6 := hI6.icell (k := k) (by rw [hyl.out]; exact hlt)
                   have f6 := hI6.frozen k
                   have hT7 := hT6.far (i := k) hgo hXg.out (.int .i64 (v6 : Int))
                   have hO7 := hO6.far (p := ⟨g, k, none⟩) (show o2 ≠ g by omega) (.int .i64 (v6 : Int))
                   have hP6 := And.intro (img_cells hO6).2 hT6.o0.1
                   have hP7 := And.intro (img_cells hO7).2 hT7.o0.1))
            have hI7 := hI6.iset k (v6 : Int)
            clear c0 c1 a0 a1 i6 f6 hT6 hO6 hI6 hP6 hP7 hT hO hI hTd hv6 hg6 hr6 hpw
            go_wp2
            go_roundw
            case rel => exact ⟨k + 1, _, _, by omega, by go_num, Lib.hid (by rw [List.length_set]; exact hyl.out), hT7, hO7, hI7, by omega⟩
            case measure => simp [intOf]; omega
          · have hkx' : k = x := by omega
            have hkx2 := Lib.hid hkx'
            have hT0 := hT.drew
            obtain ⟨c0, c1⟩ := img_cells hO
            obtain ⟨a0, a1⟩ := hT.o0
            have r0 := hT.k4.cell 0
            have r1 := hT.k4.cell 1
            have f0 := hT.k4.frozen 0
            have f1 := hT.k4.frozen 1
            have s0 := hT.k5.cell 0
            have s1 := hT.k5.cell 1
            have t0 := hT.k5.frozen 0
            have t1 := hT.k5.frozen 1
            have hki : ¬ ((k : Int) < (x : Int)) := by omega
            have hY := Own.of_ints (base := w.heap.size) hI hyl.out (by omega)
            have hT6 := hT.set4 (.int .i64 (m : Int)) (.slice X x x')
            have hT7 := hT.set5 (.int .i64 (m : Int)) (.slice (some ⟨g, 0, none⟩) x x)
            have hT8 := (hT6.set5 (.int .i64 (m : Int)) (.slice (some ⟨g, 0, none⟩) x x)).drew
            clear hkx'
            go_wp2
            go_region
            have hYf := (hT6.own5 (hT.own4 hY (.int .i64 (m : Int)) (.slice X x x')) (.int .i64 (m : Int)) (.slice (some ⟨g, 0, none⟩) x x)).drew
            have z0 := Lib.hid (hT8.k4.cell 0); have z1 := Lib.hid (hT8.k4.cell 1); have z2 := Lib.hid (hT8.k5.cell 0); have z3 := Lib.hid (hT8.k5.cell 1)
            clear hT6 hT7 hT0 hY s0 s1 t0 t1 a0 a1 r0 r1 f0 f1 c0 c1 hT hO hI
            go_wp2
            exact bodyPost_ret (v := .tuple #[.agg #[.int .i64 (m : Int), .slice X x x'], .agg #[.int .i64 (m : Int), .slice (some ⟨g, 0, none⟩) x x]]) (by simp [results, Try.results42, go_sem, z0.out, z1.out, z2.out, z3.out]) rfl (hT8.fin hYf hx6 hx6)
    · have hu1 : ((u : Int) == 0) = false := beq_eq_false_iff_ne.2 (by omega)
      clear hu0
      have hT0 := hT3.drew
      have a0 := hT3.ko.cell 0
      have a1 := hT3.ko.cell 1
      have r0 := hT0.k4.cell 0
      have r1 := hT0.k4.cell 1
      have f0 := hT0.k4.frozen 0
      have f1 := hT0.k4.frozen 1
      have hl0 := hT0.size
      have hq6 : q + 1 + 1 ≤ 600000 := by omega
      go_wp2
      go_region_held3 (fun w' => w'.cell? ⟨o, 0, none⟩ = some (.int .i64 W) ∧ w'.cell? ⟨o, 1, none⟩ = some (.slice X x x'))
        (first
          | go_keep
          | with_reducible exact hT5.o0
          | with_reducible exact hT6.o0
          | with_reducible exact hT7.o0
          | with_reducible exact hT8.o0)
        (first
          | (go_at_call 34
             with_reducible refine (l91Wrong_c lo b _ cells _ hT0.rd hq6 hc hc2).mono ?_
             rintro e w5 ⟨V, Y, y, y', qy, ys, rfl, hV0, hV7, hy6, hYb, hg5, hr5, hq5⟩
             have hY := hYb.mono (lo' := w.heap.size) (by omega)
             have hT5 := hT0.step hg5 hr5
             have hT6 := hT5.set4 (.int .i64 W) (.slice X x x')
             have hT7 := hT5.set5 (.int .i64 V) (.slice Y y y')
             have hT8 := hT6.set5 (.int .i64 V) (.slice Y y y')
             have s0 := hT5.k5.cell 0; have s1 := hT5.k5.cell 1; have t0 := hT5.k5.frozen 0; have t1 := hT5.k5.frozen 1
             have s2 := hT5.k4.cell 0; have s3 := hT5.k4.cell 1; have t2 := hT5.k4.frozen 0; have t3 := hT5.k4.frozen 1
             have hw5 := hT5.size))
      have hYf := hT6.own5 (hT5.own4 hY (.int .i64 W) (.slice X x x')) (.int .i64 V) (.slice Y y y')
      have z0 := Lib.hid (hT8.k4.cell 0); have z1 := Lib.hid (hT8.k4.cell 1); have z2 := Lib.hid (hT8.k5.cell 0); have z3 := Lib.hid (hT8.k5.cell 1)
      clear hT5 hT6 hT7 hT0 hY hg5 hr5 s0 s1 s2 s3 t0 t1 t2 t3 a0 a1 r0 r1 f0 f1
      go_wp2
      exact bodyPost_ret (v := .tuple #[.agg #[.int .i64 W, .slice X x x'], .agg #[.int .i64 V, .slice Y y y']]) (by simp [results, Try.results42, go_sem, z0.out, z1.out, z2.out, z3.out]) rfl (hT8.fin hYf hx6 hy6)
end Go.Proofs.Ytjogfeichnkffaa
