
/- Walks: a drawn image changed by some switches. -/
import Derived.Test.YtjogfeichnkffaaDn
import Derived.Test.YtjogfeichnkffaaSpd
namespace Go.Proofs.Ytjogfeichnkffaa
open Go.RowKit
set_option maxRecDepth 100000

/-- an image of the same shape in new memory, or the old one -/
def DrawnOther (W : Int) (n lo2 : Nat) (w : World) (lo b p : Nat) (e : Ending) (w' : World) : Prop :=
  ∃ (A : Option Addr) (c q : Nat) (xs : List Int), e = .returned (.agg #[.int .i64 W, .slice A n c]) ∧ Own w' lo2 A n xs ∧ w.grownBy w' (some b) ∧ Rdr w' lo b q ∧ q ≤ p + 10

theorem swListW_ok {W : Int} {xs : List Int} (h : 0 < (swListW W xs).length) : okB W xs = true := by
  cases hk : okB W xs with
  | true => rfl
  | false => simp [swListW, hk] at h

theorem Own.far_img {w : World} {lo n k i : Nat} {A : Option Addr} {xs : List Int} {cs : Array Value} (h : Own w lo A n xs) (hC : Blk w k 27 cs) (u : Value) : Own (w.setCell ⟨k, i, none⟩ u) lo A n xs :=
  ⟨h.1, fun hn => by
    obtain ⟨g, cs', e, h1, h2, h3⟩ := h.2 hn
    refine ⟨g, cs', e, h1, h2.far (fun e => ?_) u, h3⟩
    have e' : g = k := e
    subst e'
    unfold Blk at h2 hC
    rw [hC] at h2
    injection h2 with h2
    injection h2 with _ h4
    exact absurd h4 (by decide)⟩

set_option maxHeartbeats 4000000 in
theorem l91Other_c (lo b p lo2 : Nat) (W : Int) (A : Option Addr) (n c : Nat) (xs : List Int) (w : World) (h : Rdr w lo b p) (hp : p ≤ 700000) (hX : Own w lo2 A n xs) (hb2 : b < lo2) (hl2 : lo2 ≤ w.heap.size) (hn : n ≤ 6) :
    Calls Try.prog 54 #[.pointer (some ⟨b, 0, none⟩), .agg #[.int .i64 W, .slice A n c]] w (DrawnOther W n lo2 w lo b p) := by
  have hbz := h.lt
  have hA0 := (Blk.new w 27 #[.int .i64 W, .slice A n c]).alloc (.cells #[.int .i64 0, .slice none 0 0] 27)
  have hC0 := heap_at2 w (.cells #[.int .i64 W, .slice A n c] 27) 27 #[.int .i64 0, .slice none 0 0]
  have hL0 := lo_alloc (lo_alloc (Below.refl w.heap.size w) (.cells #[.int .i64 W, .slice A n c] 27)) (.cells #[.int .i64 0, .slice none 0 0] 27)
  have hG0 : w.grownBy _ (some b) := grown_of_below hL0 (some b)
  have hR0 := h.next hL0
  have hX0 := hX.next hL0
  have hz0 := hL0.size
  go_enter Try.func54, Try.ntmps54
  go_wp2_with fail
  refine (pick_c lo b p _ _ hR0 (by omega)).mono ?_
  rintro e w1 ⟨x6, rfl, hx6, hg1, hr1⟩
  have hA1 := hA0.grown hg1 (by intro e; injection e; omega)
  have hC1 := hC0.grown hg1 (by intro e; injection e; omega)
  have hG1 := grown_trans hG0 hg1
  have hX1 := hX0.grown_lo hg1 (by rintro g ⟨⟩; exact hb2)
  have hx6' := hx6 (by omega)
  have hs1 := hg1.size
  have hw1 := hC1.lt
  clear hA0 hC0 hG0 hR0 hX0 hg1 h hX hx6
  go_wp2
  go_loopw [6] (fun i wr => ∃ (k : Nat) (A' : Option Addr) (c' q : Nat) (ys : List Int), k ≤ x6 ∧ i = .int .i64 k ∧ Blk wr w.heap.size 27 #[.int .i64 W, .slice A' n c'] ∧ Blk wr (w.heap.size + 1) 27 #[.int .i64 0, .slice none 0 0] ∧
      Own wr lo2 A' n ys ∧ w.grownBy wr (some b) ∧ Rdr wr lo b q ∧ q ≤ p + 1 + k) (fun i _ => x6 - (intOf i).toNat)
  case atStart => exact ⟨0, A, c, _, xs, Nat.zero_le _, rfl, hA1, hC1, hX1, hG1, hr1, by omega⟩
  case round =>
    clear hA1 hC1 hX1 hG1 hr1
    obtain ⟨k, A', c', q, ys, hk, rfl, hA, hC, hX, hG, hR, hq⟩ := hrel
    by_cases hlt : k < x6
    · have hki : (k : Int) < (x6 : Int) := by omega
      have a0 := hA.cell 0
      have a1 := hA.cell 1
      have hcz := hC.lt
      go_wp2_with fail
      refine (spec_SwitchList_c W A' n c' ys wr hX.rd (by omega)).mono ?_
      rintro e w2 ⟨R, cR, rfl, hb2', hL⟩
      have hA2 := hA.next hb2'
      have hC2 := hC.next hb2'
      have hX2 := hX.next hb2'
      have hG2 := grown_trans hG (grown_of_below hb2' (some b))
      have hR2 := hR.next hb2'
      have hs2 := hb2'.size
      clear hA hC hX hG hR hb2' a0 a1
      by_cases h0 : (swListW W ys).length = 0
      · rw [h0]
        go_wp2
        go_roundw
        case rel => exact ⟨k + 1, A', c', q, ys, by omega, by go_num, hA2, hC2, hX2, hG2, hR2, by omega⟩
        case measure => simp [intOf]; omega
      · have hok := swListW_ok (W := W) (xs := ys) (by omega)
        have hk' := Lib.hid hok
        have hbd := okB_bd hok
        have hyl : ys.length = n := hX2.1
        rw [hyl] at hbd
        obtain ⟨m, rfl⟩ := Int.eq_ofNat_of_zero_le (show 0 ≤ W by omega)
        obtain ⟨gL, rfl⟩ := hL.addr.resolve_left (by
          rintro rfl
          rcases hL.form with ⟨_, e⟩ | ⟨_, _, e, _⟩
          · exact h0 (by rw [e]; rfl)
          · cases e)
        have hgL := hL.lt gL rfl
        have hswl : Hid (∀ s ∈ swListW (m : Int) ys, (s.a < s.b ∧ s.b < n ∧ s.c < s.d ∧ s.d < m) ∧ swOk ys s = true) := Lib.hid (fun s hs => by
          rw [swListW, if_pos hk'.out, Int.toNat_natCast] at hs
          have := mem_swList.1 hs
          rw [hyl] at this; exact this)
        have hyl' := Lib.hid hyl
        generalize swListW (m : Int) ys = ss at hL h0 hswl
        have hls : 1 ≤ ss.length := by omega
        have a0 := hA2.drew.cell 0
        have a1 := hA2.drew.cell 1
        have b0 := hA2.cell 0
        have b1 := hA2.cell 1
        have f0 := hA2.frozen 0
        have f1 := hA2.frozen 1
        clear hok h0 hyl
        go_wp2
        go_region_with
          (first
            | (go_at_call 33
               refine (pick_c lo b q _ _ (hR2.next (by (repeat (first | exact Below.refl _ _ | assumption | refine lo_alloc ?_ _ | refine lo_set ?_ (by simp; try omega) _ | refine Below.drew ?_ | refine below_drewN ?_ _ | refine lo_trans ?_ (by assumption) | refine lo_wr ?_ (by assumption) (by omega))))) (by omega)).mono ?_
               rintro e w5 ⟨v, rfl, hv, hg5, hr5⟩
               have hA5 := hA2.drew.grown hg5 (by intro e; injection e; omega)
               have hC5 := hC2.drew.grown hg5 (by intro e; injection e; omega)
               have hX5 := hX2.drew.grown_lo hg5 (by rintro g ⟨⟩; exact hb2)
               have hG5 := grown_trans (grown_trans hG2 (grown_drew _)) hg5
               have hL5 := BufW.kept (w := w2.drew) hL hg5 (by rintro g ⟨⟩ e; injection e; omega)
               have hvl : v < ss.length := by have := hv (by omega); omega
               have hvi : (v : Int) < (ss.length : Int) := by omega
               have hvi0 : (0 : Int) ≤ (v : Int) := by omega
               have c0 := hA5.cell 0
               have c1 := hA5.cell 1
               obtain ⟨s, hs⟩ : ∃ s, ss[v]? = some s := ⟨ss[v], List.getElem?_eq_getElem hvl⟩
               obtain ⟨bL, oL, eL, hbL, hcL⟩ := hL5.rd.2 (by omega)
               cases eL
               obtain ⟨l0, l1, l2, l3⟩ := hcL v s hs
               simp only [Nat.zero_add, Nat.mul_comm 4 v] at l0 l1 l2 l3
               obtain ⟨hs1, hs2⟩ := hswl.out s (List.mem_of_getElem? hs)
               have hs2' := Lib.hid hs2
               clear hcL hs hs2)
            | (go_at_call 57
               refine (l11Do_c m n _ _ ys s _ hX5.rd hk'.out hs1 hs2'.out).mono ?_
               rintro e w6 ⟨gr, cr, rfl, hb6, hown6⟩
               have hA6 := hA5.next hb6
               have d0 := hA6.cell 0
               have d1 := hA6.cell 1
               have e0 := hA6.frozen 0
               have e1 := hA6.frozen 1))
        all_goals
          have hA7 : Blk ((w6.setCell ⟨w.heap.size, 0, none⟩ (.int .i64 (m : Int))).setCell ⟨w.heap.size, 1, none⟩ (.slice (some ⟨gr, 0, none⟩) n cr)) w.heap.size 27 #[.int .i64 (m : Int), .slice (some ⟨gr, 0, none⟩) n cr] := (hA6.set_ 0 (.int .i64 (m : Int))).set_ 1 (.slice (some ⟨gr, 0, none⟩) n cr)
          have hC7 := ((hC5.next hb6).far (p := ⟨w.heap.size, 0, none⟩) (by simp) (.int .i64 (m : Int))).far (p := ⟨w.heap.size, 1, none⟩) (by simp) (.slice (some ⟨gr, 0, none⟩) n cr)
          have hs5' : w2.heap.size ≤ w5.heap.size := hg5.size
          have hX7 := ((hown6.far_lo (p := ⟨w.heap.size, 0, none⟩) (by simp; omega) (.int .i64 (m : Int))).far_lo (p := ⟨w.heap.size, 1, none⟩) (by simp; omega) (.slice (some ⟨gr, 0, none⟩) n cr)).mono (lo' := lo2) (by omega)
          obtain ⟨_, _, hG7, hR7⟩ := ret_cells (w := w) hA6 (grown_trans hG5 (grown_of_below hb6 (some b))) (hr5.next hb6) (by omega) (.int .i64 (m : Int)) (.slice (some ⟨gr, 0, none⟩) n cr)
          clear a0 a1 b0 b1 f0 f1 c0 c1 d0 d1 e0 e1 l0 l1 l2 l3 hA6 hC5 hX5 hown6 hG5 hr5 hb6 hg5 hL5 hA2 hC2 hX2 hG2 hR2 hL hbL
          go_wp2
          go_roundw
          case rel => exact ⟨k + 1, _, cr, _, _, by omega, by go_num, hA7, hC7, hX7, hG7, hR7, by omega⟩
          case measure => simp [intOf]; omega
    · have hkx : k = x6 := by omega
      have a0 := hA.cell 0
      have a1 := hA.cell 1
      have hf := (hC.set_ 0 (.int .i64 W)).set_ 1 (.slice A' n c')
      have s0 := Lib.hid (hf.cell 0)
      have s1 := Lib.hid (hf.cell 1)
      have r0 := hC.cell 0
      have r1 := hC.cell 1
      have f0 := hC.frozen 0
      have f1 := hC.frozen 1
      have hG7 := grown_over (grown_over hG (grown_set (w := wr) (g := w.heap.size + 1) (k := 0) (.int .i64 W)) (by rintro _ ⟨⟩; omega)) (grown_set (g := w.heap.size + 1) (k := 1) (.slice A' n c')) (by rintro _ ⟨⟩; omega)
      have hR7 := (hR.grown (grown_set (w := wr) (g := w.heap.size + 1) (k := 0) (.int .i64 W)) (by omega)).grown (grown_set (g := w.heap.size + 1) (k := 1) (.slice A' n c')) (by omega)
      have hX7 := (hX.far_img (i := 0) hC (.int .i64 W)).far_img (i := 1) (hC.set_ 0 (.int .i64 W)) (.slice A' n c')
      clear hA hC hG hR hX hf
      go_wp2
      refine bodyPost_ret (v := .agg #[.int .i64 W, .slice A' n c']) (by simp [results, Try.results54, go_sem, s0.out, s1.out]) rfl ⟨A', c', q, ys, rfl, hX7, hG7, hR7, by omega⟩
end Go.Proofs.Ytjogfeichnkffaa
