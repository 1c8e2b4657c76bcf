/- Plain facts and walks that the law's proof uses; each says its own conditions. -/
import Derived.Test.YtpeiolimdglmhaaGreatDoorZ23
import Derived.Test.YtpeiolimdglmhaaGreatDoorZ24
-- Walks: is a valid image unique, the program's way (no switch is yielded).
namespace Go.Proofs.YtpeiolimdglmhaaGreatDoor
open Go.RowKit Go.Shelf
attribute [local go_sem] Oper.semAt_some
set_option maxRecDepth 100000

theorem uq_none {m : Nat} {xs : List Int} {pre : List (VSw m xs)} (h : pre.map (·.1) = swList m xs) (hp : pre = []) : decide (swList m xs = []) = true := by
  rw [← h, hp]; rfl
theorem uq_some {m : Nat} {xs : List Int} {s : Sw} (h : s ∈ swList m xs) : decide (swList m xs = []) = false := by
  refine decide_eq_false (fun e => ?_)
  rw [e] at h
  cases h

set_option maxHeartbeats 8000000 in
theorem unique_c (m n c : Nat) (A : Option Addr) (xs : List Int) (w : World) (hr : Rd w A n xs) (hx : okB (m : Int) xs = true) :
    Calls Tryz.prog 51 #[.agg #[.int .i64 m, .slice A n c]] w fun e w' => e = .returned (.bool (decide (swList m xs = []))) ∧ Below w.heap.size w w' := by
  have hbd := okB_bd hx
  rw [hr.1] at hbd
  have hx' := Lib.hid hx
  clear hx
  obtain ⟨bA, off, rfl, hbA, _⟩ := hr.2 (by omega)
  refine (callsIn_wide (n := 3)).1 ?_
  refine callsIn_of_wp_marks Tryz.func51 rfl trivial ?_ rfl
  simp only [Tryz.ntmps51, List.size_toArray, List.length_cons, List.length_nil, Nat.reduceAdd, Nat.reduceSub, Array.replicate_succ, Array.replicate_zero, List.push_toArray, List.append_toArray, List.nil_append, List.cons_append]
  have hA5 := (Blk.new w 25 #[.int .i64 (m : Int), .slice (some ⟨bA, off, none⟩) n c]).alloc (.cells #[.bool false] 4)
  have hK5 := heap_at2 w (.cells #[.int .i64 (m : Int), .slice (some ⟨bA, off, none⟩) n c] 25) 4 #[.bool false]
  have hL5 := lo_alloc (lo_alloc (Below.refl w.heap.size w) (.cells #[.int .i64 (m : Int), .slice (some ⟨bA, off, none⟩) n c] 25)) (.cells #[.bool false] 4)
  have a0 := hA5.cell 0
  have a1 := hA5.cell 1
  gi_wp2_with (refine ⟨trivial, ?_⟩; gi_at_call 93; refine (switches_in Fence.wide _ trivial rfl _ _ _).mono ?_; rintro e w3 ⟨rfl, rfl⟩)
  clear a0 a1
  have hz5 : ((w.alloc (.cells #[.int .i64 (m : Int), .slice (some ⟨bA, off, none⟩) n c] 25)).alloc (.cells #[.bool false] 4)).heap.size = w.heap.size + 1 + 1 := by simp
  generalize (w.alloc (.cells #[.int .i64 (m : Int), .slice (some ⟨bA, off, none⟩) n c] 25)).alloc (.cells #[.bool false] 4) = w5 at hA5 hK5 hL5 hz5 ⊢
  obtain ⟨p, hp⟩ : ∃ p, p = w.heap.size := ⟨_, rfl⟩
  rw [← hp] at hA5 hK5 hz5 ⊢
  have hbp : bA < p := by omega
  have hp1 : w.heap.size ≤ p := by omega
  have hp2 : p ≤ w.heap.size := by omega
  clear hp
  have hO := Blk.new w5 25 #[.int .i64 (m : Int), .slice (some ⟨bA, off, none⟩) n c]
  have hL6 := lo_alloc hL5 (.cells #[.int .i64 (m : Int), .slice (some ⟨bA, off, none⟩) n c] 25)
  have hA6 := hA5.alloc (.cells #[.int .i64 (m : Int), .slice (some ⟨bA, off, none⟩) n c] 25)
  have hK6 := hK5.alloc (.cells #[.int .i64 (m : Int), .slice (some ⟨bA, off, none⟩) n c] 25)
  have hsz : (w5.alloc (.cells #[.int .i64 (m : Int), .slice (some ⟨bA, off, none⟩) n c] 25)).heap.size = w5.heap.size + 1 := by simp
  rw [hz5] at hO hsz
  clear hA5 hK5 hL5 hz5
  generalize w5.alloc (.cells #[.int .i64 (m : Int), .slice (some ⟨bA, off, none⟩) n c] 25) = w6 at hO hL6 hA6 hK6 hsz ⊢
  obtain ⟨o, ho⟩ : ∃ o, o = p + 1 + 1 := ⟨_, rfl⟩
  rw [← ho] at hO hsz ⊢
  have hp5 : p + 1 + 1 ≤ o := by omega
  have hp6 : o ≤ p + 1 + 1 := by omega
  clear ho
  have hsz1 : w6.heap.size ≤ o + 1 := by omega
  have hsz2 : o + 1 ≤ w6.heap.size := by omega
  clear hsz
  refine wpIn_rangeFunc_ownH rfl (by omega) (gf := 129) (lb := #[.pointer (some ⟨o, 0, none⟩)]) rfl trivial (enters_of Tryz.func129 (by kernel_rfl) rfl)
    (switches_stops _ (by omega) o n m c bA off xs hx'.out w6 (hr.next hL6) (by omega) (by omega) hO) KB2.trans (KB2.put (by omega) (by omega)) (Below.refl _ _) (fun _ => rfl)
    (fun (pre : List (VSw m xs)) W => Below w.heap.size w W ∧ Blk W (p + 1) 4 #[.bool false] ∧ Hid (pre = []) ∧ w6.heap.size ≤ W.heap.size)
    (fun cc _ W => cc = .ret ∧ Below w.heap.size w W ∧ ∃ s : Sw, s ∈ swList m xs ∧ Blk W (p + 1) 4 #[.bool false])
    (OwnFrom.and (ownFrom_below (Nat.le_refl _) (by omega)) (OwnFrom.and (ownFrom_blk _ (by omega))
      (OwnFrom.and (fun _ _ _ _ hs _ _ => hs) (fun _ _ _ _ hs hg _ => Nat.le_trans hs hg.size))))
    (fun cc => fun pre X Y row ⟨h1, h2, s, h3, h4⟩ hg hr => ⟨h1, h2.grown hg h2.size (fun g e => by have := (hr g e).1; omega), s, h3, h4.ownF hg (fun r e => (hr r e).2)⟩)
    ⟨hL6, hK6, Lib.hid rfl, Nat.le_refl _⟩
    (fun x a' W => a' = { tmps := #[.agg #[.int .i64 (m : Int), .slice (some ⟨bA, off, none⟩) n c], .pointer (some ⟨p, 0, none⟩), .pointer (some ⟨p + 1, 0, none⟩),
        .agg #[.int .i64 (m : Int), .slice (some ⟨bA, off, none⟩) n c], .func (.func 129) #[] #[.pointer (some ⟨o, 0, none⟩)],
        .agg #[.int .i64 (x.1.a : Int), .int .i64 (x.1.b : Int), .int .i64 (x.1.c : Int), .int .i64 (x.1.d : Int)]], defers := [] })
    (fun x a' s X Y row h3 hg hr => h3) ?assign ?body ?done ?stop
  case assign =>
    rintro l pre x W K ⟨h1, h2, h3, h4⟩ hQ
    dsimp only [swEnc]
    gi_wp2
    exact hQ _ _ ((keeps_below (Below.refl _ _)).from _) (KB2.of_below (Below.refl _ _) (by omega) (by omega)) ⟨h1, h2, h3, h4⟩ (by simp)
  case body =>
    rintro l pre ⟨⟨sa, sb, sc, sd⟩, hs⟩ a' W hl _ ⟨h1, h2, h3, h4⟩ rfl hlen
    have hs' := Lib.hid hs
    have k0 := h2.cell 0
    have k1 := h2.frozen 0
    gi_wp2
    have h5 := h2.set_ 0 (.bool false)
    exact ⟨(keepsO_grown (grown_set (g := p + 1) (k := 0) _) (by rintro _ ⟨⟩; exact ⟨_, _, h2⟩)).from _, rfl, lo_set h1 (p := ⟨p + 1, 0, none⟩) (by simp; omega) _, _, hs'.out, h5⟩
  case done =>
    rintro D zs W hD hzs ⟨h1, h2, h3, h4⟩ hKD
    have hF := Lib.hid (uq_none hzs h3.out)
    clear hzs
    have k0 := h2.cell 0
    have k1 := h2.frozen 0
    gi_wp2
    have h5 : Blk (W.setCell ⟨p + 1, 0, none⟩ (.bool true)) (p + 1) 4 #[.bool true] := h2.set_ 0 (.bool true)
    have hKV := Eq.trans (Below.heap_setCell W ⟨p + 1, 0, none⟩ (.bool true) D (by simp; omega)) hKD
    have hBV := lo_set h1 (p := ⟨p + 1, 0, none⟩) (by simp; omega) (.bool true)
    generalize W.setCell ⟨p + 1, 0, none⟩ (.bool true) = V at h5 hKV hBV ⊢
    have hB9 := hBV.trans (belowK_b (w := w) (Nat.le_refl _) _ D _ (.deferred none) (by omega) hKV rfl rfl)
    have q1 := h5.ownF (grownBy_putObj' _ D (.deferred none)) (fun r e => by cases e; exact ⟨_, hKV, rfl⟩)
    refine ⟨by simp, .inl ⟨_, _, rfl, run_takeDeferred hKV, ?_⟩⟩
    refine ⟨.bool true, ?_, ret_bool hF.out.symm, hB9⟩
    have c0 := q1.cell 0
    simp [results, Tryz.results51, go_sem, c0]
  case stop =>
    rintro D cc pre W hD _ ⟨rfl, h1, s, hs, g1⟩ hKD
    have hF := Lib.hid (uq_some hs)
    clear hs
    gi_wp2
    have hB9 := h1.trans (belowK_b (w := w) (Nat.le_refl _) _ D _ (.deferred none) (by omega) hKD rfl rfl)
    have q1 := g1.ownF (grownBy_putObj' _ D (.deferred none)) (fun r e => by cases e; exact ⟨_, hKD, rfl⟩)
    refine ⟨by simp, .inl ⟨_, _, rfl, run_takeDeferred hKD, ?_⟩⟩
    refine ⟨.bool false, ?_, ret_bool hF.out.symm, hB9⟩
    have c0 := q1.cell 0
    simp [results, Tryz.results51, go_sem, c0]

set_option maxHeartbeats 4000000 in
theorem impl_ImageUnique_c (W : Int) (A : Option Addr) (n c : Nat) (xs : List Int) (w : World) (hr : Rd w A n xs) (hn : n ≤ 1073741824) :
    Calls Tryz.prog 19 #[.agg #[.int .i64 W, .slice A n c]] w fun e w' => e = .returned (.bool (uniqB W xs)) ∧ Below w.heap.size w w' := by
  cases hk : okB W xs with
  | false =>
    have hF := Lib.hid (show uniqB W xs = false by rw [uniqB, hk]; rfl)
    go_enter Tryz.func19, Tryz.ntmps19
    go_wp2_with fail
    refine (impl_ImageValid_c _ _ _ _ xs _ (hr.alloc _) (by omega)).mono ?_
    rw [hk]
    rintro e w1 ⟨rfl, hb1⟩
    go_wp2
    go_ret
    exact ⟨ret_bool hF.out.symm, by (repeat (first | exact Below.refl _ _ | assumption | refine lo_alloc ?_ _ | refine lo_set ?_ (by simp; try omega) _ | refine Below.drew ?_ | refine below_drewN ?_ _ | refine lo_trans ?_ (by assumption) | refine lo_wr ?_ (by assumption) (by omega)))⟩
  | true =>
    have hbd := okB_bd hk
    rw [hr.1] at hbd
    obtain ⟨m, rfl⟩ := Int.eq_ofNat_of_zero_le (show 0 ≤ W by omega)
    have hk' := Lib.hid hk
    have hF := Lib.hid (show uniqB (m : Int) xs = decide (swList m xs = []) by rw [uniqB, hk, Int.toNat_natCast]; rfl)
    go_enter Tryz.func19, Tryz.ntmps19
    go_wp2_with fail
    refine (impl_ImageValid_c _ _ _ _ xs _ (hr.alloc _) (by omega)).mono ?_
    rw [hk]
    rintro e w1 ⟨rfl, hb1⟩
    clear hk
    have hKa : Blk w1 w.heap.size _ _ := (Blk.new w 25 #[.int .i64 (m : Int), .slice A n c]).next hb1
    have hB1 : Below w.heap.size w w1 := by (repeat (first | exact Below.refl _ _ | assumption | refine lo_alloc ?_ _ | refine lo_set ?_ (by simp; try omega) _ | refine Below.drew ?_ | refine below_drewN ?_ _ | refine lo_trans ?_ (by assumption) | refine lo_wr ?_ (by assumption) (by omega)))
    clear hb1
    have a0 := hKa.cell 0
    have a1 := hKa.cell 1
    go_wp2_with fail
    refine (unique_c m n c A xs _ (hr.next hB1) hk'.out).mono ?_
    rintro e w2 ⟨rfl, hb2⟩
    go_wp2
    go_ret
    exact ⟨ret_bool hF.out.symm, lo_trans hB1 hb2⟩
end Go.Proofs.YtpeiolimdglmhaaGreatDoor
