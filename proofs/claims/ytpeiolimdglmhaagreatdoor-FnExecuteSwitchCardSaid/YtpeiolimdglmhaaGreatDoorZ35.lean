/- Plain facts and walks that the law's proof uses; each says its own conditions. -/
import Derived.Test.YtpeiolimdglmhaaGreatDoorZ34
import Derived.Test.YtpeiolimdglmhaaGreatDoorZ30
-- Walks: the image with a rank; the next image.
namespace Go.Proofs.YtpeiolimdglmhaaGreatDoor
open Go.RowKit Go.Shelf
attribute [local go_sem] Oper.semAt_some
set_option maxRecDepth 100000

/-- the image of a rank among those with given sums -/
def nthO (rows cols : List Int) (k : Nat) : Option Ig := ((imgL rows cols)[k]?).map (fun y => ((cols.length : Int), y))
theorem nth_pre {L : List (List Int)} {t : List (List Int)} {y : List Int} {k : Nat} (hp : t ++ [y] <+: L) (hk : t.length = k) : L[k]? = some y := by
  obtain ⟨u, rfl⟩ := hp
  subst hk
  rw [List.append_assoc, List.getElem?_append_right (Nat.le_refl _), Nat.sub_self]
  rfl

set_option maxHeartbeats 8000000 in
theorem ImageNth_c (A B : Option Addr) (h m c d k : Nat) (rows cols : List Int) (w : World) (hr : Rd w A h rows) (hs : Rd w B m cols) (hn : h ≤ 1000) (hm : m ≤ 1000) (hk : k ≤ 1000000000000) (hb : cntB rows cols = true) :
    Calls Tryz.prog 50 #[.slice A h c, .slice B m d, .int .i64 (k : Int)] w (Img2 w (nthO rows cols k)) := by
  have hv : sV rows cols = true := by rw [cntB, Bool.and_eq_true] at hb; exact hb.1
  obtain ⟨h1, h6, m1, m6, hle⟩ := sV_le hv
  rw [hr.1] at h1 h6 hle
  rw [hs.1] at m1 m6
  have hsm := imgL_small (rs := rows) (lf := cols) (by rw [hr.1]; exact h6) (by rw [hs.1]; exact m6)
  have hcl := Lib.hid hs.1
  clear hv
  obtain ⟨L, hL⟩ : ∃ L, Hid (imgL rows cols = L) := ⟨_, Lib.hid rfl⟩
  rw [hL.out] at hsm
  obtain ⟨gR, offR, rfl, hgR, _⟩ := hr.2 (by omega)
  obtain ⟨gC, offC, rfl, hgC, _⟩ := hs.2 (by omega)
  have hN0 : Blk (((w.alloc (.cells #[.int .i64 (k : Int)] 3)).alloc (.cells #[.int .i64 0, .slice none 0 0] 25)).alloc (.cells #[.bool false] 4)) w.heap.size 3 #[.int .i64 (k : Int)] := ((Blk.new w 3 #[.int .i64 (k : Int)]).alloc _).alloc _
  have hI0 := (heap_at2 w (.cells #[.int .i64 (k : Int)] 3) 25 #[.int .i64 0, .slice none 0 0]).alloc (.cells #[.bool false] 4)
  have hb0 : Blk (((w.alloc (.cells #[.int .i64 (k : Int)] 3)).alloc (.cells #[.int .i64 0, .slice none 0 0] 25)).alloc (.cells #[.bool false] 4)) (w.heap.size + 1 + 1) 4 #[.bool false] := by
    have := heap_at2 (w.alloc (.cells #[.int .i64 (k : Int)] 3)) (.cells #[.int .i64 0, .slice none 0 0] 25) 4 #[.bool false]
    simpa using this
  have hB0 := lo_alloc (lo_alloc (lo_alloc (Below.refl w.heap.size w) (.cells #[.int .i64 (k : Int)] 3)) (.cells #[.int .i64 0, .slice none 0 0] 25)) (.cells #[.bool false] 4)
  have g0 : decide ((k : Int) < 0) = false := by simp; try omega
  refine (callsIn_wide (n := 3)).1 ?_
  refine callsIn_of_wp_marks Tryz.func50 rfl trivial ?_ rfl
  refine wpIn_wide.2 ?_
  simp only [Tryz.ntmps50, List.size_toArray, List.length_cons, List.length_nil, Nat.reduceAdd, Nat.reduceSub, Array.replicate_succ, Array.replicate_zero, List.push_toArray, List.append_toArray, List.nil_append, List.cons_append]
  go_wp2_with fail
  refine (countable_c _ _ _ _ _ _ rows cols _ (hr.next hB0) (hs.next hB0) (by omega) (by omega)).mono ?_
  rw [hb]
  rintro e w1 ⟨rfl, rfl⟩
  go_wp2_with fail
  refine (callsIn_wide.1 (imagesOf_in Fence.wide 3 trivial rfl _ _ _ _ _ _ _)).mono ?_
  rintro e w8 ⟨rfl, rfl⟩
  obtain ⟨p, hp⟩ : ∃ p, p = w.heap.size := ⟨_, rfl⟩
  have hp1 : w.heap.size ≤ p := by omega
  have hp2 : p ≤ w.heap.size := by omega
  have hN8 := (hN0.alloc (.cells #[.slice (some ⟨gR, offR, none⟩) h c] 23)).alloc (.cells #[.slice (some ⟨gC, offC, none⟩) m d] 23)
  have hI8 := (hI0.alloc (.cells #[.slice (some ⟨gR, offR, none⟩) h c] 23)).alloc (.cells #[.slice (some ⟨gC, offC, none⟩) m d] 23)
  have hb8 := (hb0.alloc (.cells #[.slice (some ⟨gR, offR, none⟩) h c] 23)).alloc (.cells #[.slice (some ⟨gC, offC, none⟩) m d] 23)
  have hL8 := lo_alloc (lo_alloc hB0 (.cells #[.slice (some ⟨gR, offR, none⟩) h c] 23)) (.cells #[.slice (some ⟨gC, offC, none⟩) m d] 23)
  have hbR : Blk (((((w.alloc (.cells #[.int .i64 (k : Int)] 3)).alloc (.cells #[.int .i64 0, .slice none 0 0] 25)).alloc (.cells #[.bool false] 4)).alloc (.cells #[.slice (some ⟨gR, offR, none⟩) h c] 23)).alloc (.cells #[.slice (some ⟨gC, offC, none⟩) m d] 23)) (w.heap.size + 1 + 1 + 1) 23 #[.slice (some ⟨gR, offR, none⟩) h c] := by
    have := (Blk.new (((w.alloc (.cells #[.int .i64 (k : Int)] 3)).alloc (.cells #[.int .i64 0, .slice none 0 0] 25)).alloc (.cells #[.bool false] 4)) 23 #[.slice (some ⟨gR, offR, none⟩) h c]).alloc (.cells #[.slice (some ⟨gC, offC, none⟩) m d] 23)
    simpa using this
  have hbC : Blk (((((w.alloc (.cells #[.int .i64 (k : Int)] 3)).alloc (.cells #[.int .i64 0, .slice none 0 0] 25)).alloc (.cells #[.bool false] 4)).alloc (.cells #[.slice (some ⟨gR, offR, none⟩) h c] 23)).alloc (.cells #[.slice (some ⟨gC, offC, none⟩) m d] 23)) (w.heap.size + 1 + 1 + 1 + 1) 23 #[.slice (some ⟨gC, offC, none⟩) m d] := by
    have := heap_at2 (((w.alloc (.cells #[.int .i64 (k : Int)] 3)).alloc (.cells #[.int .i64 0, .slice none 0 0] 25)).alloc (.cells #[.bool false] 4)) (.cells #[.slice (some ⟨gR, offR, none⟩) h c] 23) 23 #[.slice (some ⟨gC, offC, none⟩) m d]
    simpa using this
  have hz8 : (((((w.alloc (.cells #[.int .i64 (k : Int)] 3)).alloc (.cells #[.int .i64 0, .slice none 0 0] 25)).alloc (.cells #[.bool false] 4)).alloc (.cells #[.slice (some ⟨gR, offR, none⟩) h c] 23)).alloc (.cells #[.slice (some ⟨gC, offC, none⟩) m d] 23)).heap.size = w.heap.size + 5 := by simp
  go_wp2
  rw [← hp] at hN8 hI8 hb8 hbR hbC hz8 ⊢
  have hR8 := hr.next hL8
  have hC8 := hs.next hL8
  generalize ((((w.alloc (.cells #[.int .i64 (k : Int)] 3)).alloc (.cells #[.int .i64 0, .slice none 0 0] 25)).alloc (.cells #[.bool false] 4)).alloc (.cells #[.slice (some ⟨gR, offR, none⟩) h c] 23)).alloc (.cells #[.slice (some ⟨gC, offC, none⟩) m d] 23) = w8 at hN8 hI8 hb8 hL8 hbR hbC hz8 hR8 hC8 ⊢
  clear hp hN0 hI0 hb0 hB0
  refine (wpIn_wide (n := 3)).1 ?_
  refine wpIn_rangeFunc_cells rfl (by omega) (gf := 123) (lb := #[.pointer (some ⟨p + 1 + 1 + 1, 0, none⟩), .pointer (some ⟨p + 1 + 1 + 1 + 1, 0, none⟩)]) rfl trivial (enters_of Tryz.func123 (by kernel_rfl) rfl)
    (encs := imEnc h m h) (Kp := KB2 (p + 1 + 1 + 1) gR) (imPre_keep h) KB2.trans (fun W l o' hl => ⟨World.putObj_heap_other (by omega), World.putObj_heap_other (by omega)⟩)
    (images_seq _ (by omega) m1 m6 h1 h6 w8 hR8 hC8 hbR hbC hle) (Below.refl _ _) (fun _ => rfl)
    (fun (pre : List (Nat × List Int)) W => Below w.heap.size w W ∧ Blk W p 3 #[.int .i64 ((k : Int) - (pre.length : Int))] ∧ Blk W (p + 1) 25 #[.int .i64 0, .slice none 0 0] ∧ Blk W (p + 1 + 1) 4 #[.bool false] ∧ pre.length ≤ k ∧ w8.heap.size ≤ W.heap.size)
    (fun T cc (pre : List (Nat × List Int)) W => cc = .ret ∧ Below w.heap.size w W ∧ Blk W (p + 1 + 1) 4 #[.bool true] ∧ ∃ (g c' : Nat) (t : List (Nat × List Int)) (y : Nat × List Int), pre = t ++ [y] ∧ t.length = k ∧ Blk W (p + 1) 25 #[.int .i64 (m : Int), .slice (some ⟨g, 0, none⟩) h c'] ∧ Own W T (some ⟨g, 0, none⟩) h y.2)
    (Bears.and (bears_below (by omega)) (Bears.and (bears_blk (fun pre : List (Nat × List Int) => #[.int .i64 ((k : Int) - (pre.length : Int))]) (by omega)) (Bears.and (bears_blk _ (by omega)) (Bears.and (bears_blk _ (by omega)) (Bears.and (bears_pure _ _) (fun _ _ _ _ hs hg _ => Nat.le_trans hs hg.size))))))
    (fun T cc s X Y row ⟨h1, h2, h3, g, c', t, y, h4, h5, h6, h7⟩ hg hr => ⟨h1, h2.grown hg h2.size (fun g e => by have := hr g e; omega), h3.grown hg (fun e => by have := hr _ e.symm; omega), g, c', t, y, h4, h5, h6.grown hg (fun e => by have := hr _ e.symm; omega), h7.grown_lo hg (fun g e => (hr g e).2)⟩)
    ⟨hL8, by simpa using hN8, hI8, hb8, Nat.zero_le _, Nat.le_refl _⟩
    (fun x a' W => ∃ g, w8.heap.size ≤ g ∧ Blk W g 25 #[.int .i64 (m : Int), .slice (some ⟨x.1, 0, none⟩) h h] ∧ a' = { tmps := #[.slice (some ⟨gR, offR, none⟩) h c, .slice (some ⟨gC, offC, none⟩) m d, .int .i64 (k : Int), undef, undef, .pointer (some ⟨p, 0, none⟩), .pointer (some ⟨p + 1, 0, none⟩), .pointer (some ⟨p + 1 + 1, 0, none⟩), .pointer (some ⟨g, 0, none⟩), .slice (some ⟨gR, offR, none⟩) h c, .slice (some ⟨gC, offC, none⟩) m d, .bool true, .bool false, .bool false, .int .i64 (k : Int), .bool false, .bool false, undef, .slice (some ⟨gR, offR, none⟩) h c, .slice (some ⟨gC, offC, none⟩) m d, .func (.func 123) #[] #[.pointer (some ⟨p + 1 + 1 + 1, 0, none⟩), .pointer (some ⟨p + 1 + 1 + 1 + 1, 0, none⟩)], .agg #[.int .i64 (m : Int), .slice (some ⟨x.1, 0, none⟩) h h], undef, undef, undef, undef, undef, undef, undef], defers := [] })
    (fun x a' s X Y row ⟨g, h1, h2, h3⟩ hg hr => ⟨g, h1, h2.ownF hg (fun r e => (hr r e).2), h3⟩) ?assign ?body ?done ?stop
  case assign =>
    rintro l pre x W K ⟨i1, i2, i3, i4, i5, i6⟩ hQ
    dsimp only [imEnc]
    gi_wp2
    exact hQ _ _ (KeepsUp.of_below (lo_alloc (Below.refl _ _) _)) (KB2.of_below (lo_alloc (Below.refl _ _) _) (by omega) (by omega)) ⟨lo_alloc i1 _, i2.alloc _, i3.alloc _, i4.alloc _, i5, by simp; omega⟩
      ⟨W.heap.size, i6, Blk.new W _ _, rfl⟩
  case body =>
    rintro T l pre x a' W hT1 hT2 ⟨i1, i2, i3, i4, i5, i6⟩ hPre ⟨g, hg, hX, rfl⟩ hlen
    have hq5 := Lib.hid i5
    obtain ⟨q, hq⟩ : ∃ q : Nat, q = k - pre.length := ⟨_, rfl⟩
    have eq1 : (k : Int) - (pre.length : Int) = (q : Int) := by omega
    rw [eq1] at i2
    have hqk := Lib.hid (show pre.length + q = k by omega)
    have hqb : q ≤ k := by omega
    have k0 := i2.cell 0
    have k1 := i2.frozen 0
    have x0 := hX.cell 0
    have x1 := hX.cell 1
    have hxr := hPre.2.rd
    clear eq1 hq i5
    by_cases hq0 : q = 0
    · subst hq0
      gi_wp2_with fail
      refine ⟨trivial, ?_⟩
      gi_at_call 92
      refine (CallsIn.inRound l (callsIn_wide.2 (clone_c _ _ _ _ x.2 _ hxr (by omega) (by omega)))).mono ?_
      rintro e W1 ⟨g1, c1, rfl, hb1, hO1⟩
      have j3 := i3.next hb1
      have j4 := i4.next hb1
      have d0 := j3.cell 0
      have d1 := j3.cell 1
      have f0 := j3.frozen 0
      have f1 := j3.frozen 1
      have d2 := j4.cell 0
      have f2 := j4.frozen 0
      have hz3 := j3.lt
      have hz4 := j4.lt
      have hzb := hb1.size
      have hF3 := (((j3.set_ 0 (.int .i64 (m : Int))).set_ 1 (.slice (some ⟨g1, 0, none⟩) h c1)).far (p := ⟨p + 1 + 1, 0, none⟩) (by simp) (.bool true))
      have hF4 := ((j4.far (p := ⟨p + 1, 0, none⟩) (by simp) (.int .i64 (m : Int))).far (p := ⟨p + 1, 1, none⟩) (by simp) (.slice (some ⟨g1, 0, none⟩) h c1)).set_ 0 (.bool true)
      have hO3 := ((hO1.far_lo (p := ⟨p + 1, 0, none⟩) (by simp; omega) (.int .i64 (m : Int))).far_lo (p := ⟨p + 1, 1, none⟩) (by simp; omega) (.slice (some ⟨g1, 0, none⟩) h c1)).far_lo (p := ⟨p + 1 + 1, 0, none⟩) (by simp; omega) (.bool true)
      have hL3 := lo_set (lo_set (lo_set (lo_trans i1 hb1) (p := ⟨p + 1, 0, none⟩) (by simp; omega) (.int .i64 (m : Int))) (p := ⟨p + 1, 1, none⟩) (by simp; omega) (.slice (some ⟨g1, 0, none⟩) h c1)) (p := ⟨p + 1 + 1, 0, none⟩) (by simp; omega) (.bool true)
      have hKU := (((KeepsUp.of_below (B := w8.heap.size) hb1).trans (KeepsUp.of_grown (grown_set (g := p + 1) (k := 0) (.int .i64 (m : Int))) (fun r e => by cases e; omega))).trans (KeepsUp.of_grown (grown_set (g := p + 1) (k := 1) (.slice (some ⟨g1, 0, none⟩) h c1)) (fun r e => by cases e; omega))).trans (KeepsUp.of_grown (grown_set (g := p + 1 + 1) (k := 0) (.bool true)) (fun r e => by cases e; omega))
      have hKB := (((KB2.of_below (B := p + 1 + 1 + 1) (b := gR) hb1 (by omega) (by omega)).trans (KB2.of_grown (grown_set (g := p + 1) (k := 0) (.int .i64 (m : Int))) (by omega) (by omega) (fun e => by injection e; omega) (fun e => by injection e; omega))).trans (KB2.of_grown (grown_set (g := p + 1) (k := 1) (.slice (some ⟨g1, 0, none⟩) h c1)) (by simp; omega) (by simp; omega) (fun e => by injection e; omega) (fun e => by injection e; omega))).trans (KB2.of_grown (grown_set (g := p + 1 + 1) (k := 0) (.bool true)) (by simp; omega) (by simp; omega) (fun e => by injection e; omega) (fun e => by injection e; omega))
      clear j3 j4 k0 k1 x0 x1
      gi_wp2
      exact ⟨hKU, hKB, rfl, hL3, hF4, g1, c1, pre, x, rfl, by have := hqk.out; omega, hF3, hO3.mono hT2⟩
    · have g1 : (((q : Nat) : Int) == 0) = false := by simp; omega
      have hset := Lib.hid (i2.set_ 0 (.int .i64 ((q : Int) - 1)))
      have hL3 := lo_set i1 (p := ⟨p, 0, none⟩) hp1 (.int .i64 ((q : Int) - 1))
      have j3 := i3.far (p := ⟨p, 0, none⟩) (by simp) (.int .i64 ((q : Int) - 1))
      have j4 := i4.far (p := ⟨p, 0, none⟩) (by simp; omega) (.int .i64 ((q : Int) - 1))
      have hz2 := i2.lt
      clear i2 i3 i4 x0 x1
      gi_wp2
      refine ⟨KeepsUp.of_grown (grown_set (g := p) (k := 0) _) (fun r e => by cases e; omega), KB2.of_grown (grown_set (g := p) (k := 0) _) (by omega) (by omega) (fun e => by injection e; omega) (fun e => by injection e; omega), hL3, ?_, j3, j4, by have := hqk.out; simp; omega, by simp; omega⟩
      have e2 : (k : Int) - ((pre ++ [x]).length : Int) = (q : Int) - 1 := by have := hqk.out; simp; omega
      rw [e2]
      exact hset.out
  case done =>
    rintro D zs W hD hzs ⟨i1, i2, i3, i4, i5, i6⟩ hKD
    have hT := Lib.hid (show nthO rows cols k = none by
      rw [nthO, ← hzs, List.getElem?_eq_none (by rw [List.length_map]; exact i5)]
      rfl)
    have d0 := i3.cell 0
    have d1 := i3.cell 1
    have f0 := i3.frozen 0
    have f1 := i3.frozen 1
    have d2 := i4.cell 0
    have f2 := i4.frozen 0
    have hF3 := (((i3.set_ 0 (.int .i64 0)).set_ 1 (.slice none 0 0)).far (p := ⟨p + 1 + 1, 0, none⟩) (by simp) (.bool false))
    have hF4 := ((i4.far (p := ⟨p + 1, 0, none⟩) (by simp) (.int .i64 0)).far (p := ⟨p + 1, 1, none⟩) (by simp) (.slice none 0 0)).set_ 0 (.bool false)
    have hL3 := lo_set (lo_set (lo_set i1 (p := ⟨p + 1, 0, none⟩) (by simp; omega) (.int .i64 0)) (p := ⟨p + 1, 1, none⟩) (by simp; omega) (.slice none 0 0)) (p := ⟨p + 1 + 1, 0, none⟩) (by simp; omega) (.bool false)
    have hKV : (((W.setCell ⟨p + 1, 0, none⟩ (.int .i64 0)).setCell ⟨p + 1, 1, none⟩ (.slice none 0 0)).setCell ⟨p + 1 + 1, 0, none⟩ (.bool false)).heap[D]? = some (.deferred (some [])) :=
      (Below.heap_setCell _ _ _ _ (by simp; omega)).trans ((Below.heap_setCell _ _ _ _ (by simp; omega)).trans ((Below.heap_setCell _ _ _ _ (by simp; omega)).trans hKD))
    clear i2 i3 i4
    go_wp2
    generalize ((W.setCell ⟨p + 1, 0, none⟩ (.int .i64 0)).setCell ⟨p + 1, 1, none⟩ (.slice none 0 0)).setCell ⟨p + 1 + 1, 0, none⟩ (.bool false) = V at hF3 hF4 hL3 hKV ⊢
    have q1 := hF3.ownF (grownBy_putObj' _ D (.deferred none)) (fun r e => by cases e; exact ⟨_, hKV, rfl⟩)
    have q2 := hF4.ownF (grownBy_putObj' _ D (.deferred none)) (fun r e => by cases e; exact ⟨_, hKV, rfl⟩)
    have r0 := q1.cell 0
    have r1 := q1.cell 1
    have r2 := q2.cell 0
    have hB9 := hL3.trans (belowK_b (w := w) (Nat.le_refl _) _ D _ (.deferred none) (by omega) hKV rfl rfl)
    refine ⟨by simp, .inl ⟨_, _, rfl, run_takeDeferred hKV, ?_⟩⟩
    exact ⟨.tuple #[.agg #[.int .i64 0, .slice none 0 0], .bool false], by simp [results, Tryz.results50, go_sem, r0, r1, r2], 0, none, 0, 0, [], by rw [hT.out]; rfl, fun z e => (by rw [hT.out] at e; cases e), Own.nil_ _ _ _, hB9⟩
  case stop =>
    rintro D T cc pre W hD hTz hSp ⟨rfl, i1, i2, g, c', t, y, rfl, ht, i3, i4⟩ hKD
    have hT := Lib.hid (show nthO rows cols k = some ((m : Int), y.2) by
      have h1 := hSp.2
      rw [hL.out, List.map_append, List.map_singleton] at h1
      rw [nthO, hL.out, nth_pre h1 (by rw [List.length_map]; exact ht), hcl.out]
      rfl)
    have q1 := i3.ownF (grownBy_putObj' _ D (.deferred none)) (fun r e => by cases e; exact ⟨_, hKD, rfl⟩)
    have q2 := i2.ownF (grownBy_putObj' _ D (.deferred none)) (fun r e => by cases e; exact ⟨_, hKD, rfl⟩)
    have q3 := (i4.mono (lo' := w.heap.size) (by omega)).ownF (grownBy_putObj' _ D (.deferred none)) (fun r e => by cases e; exact ⟨_, hKD, rfl⟩)
    have r0 := q1.cell 0
    have r1 := q1.cell 1
    have r2 := q2.cell 0
    have hB9 := i1.trans (belowK_b (w := w) (Nat.le_refl _) _ D _ (.deferred none) (by omega) hKD rfl rfl)
    refine (wpIn_wide (n := 3)).2 ?_
    go_wp2
    refine ⟨by simp, .inl ⟨_, _, rfl, run_takeDeferred hKD, ?_⟩⟩
    exact ⟨.tuple #[.agg #[.int .i64 (m : Int), .slice (some ⟨g, 0, none⟩) h c'], .bool true], by simp [results, Tryz.results50, go_sem, r0, r1, r2], (m : Int), _, h, c', y.2, by rw [hT.out]; rfl, fun z e => (by rw [hT.out] at e; exact (Option.some.inj e).symm), q3, hB9⟩

theorem ImageNth_c1 (A B : Option Addr) (h m c d k : Nat) (rows cols : List Int) (w : World) (hr : Rd w A h rows) (hs : Rd w B m cols) (hn : h ≤ 1000) (hm : m ≤ 1000) (hk : k + 1 ≤ 1000000000000) (hb : cntB rows cols = true) :
    Calls Tryz.prog 50 #[.slice A h c, .slice B m d, .int .i64 ((k : Int) + 1)] w (Img2 w (nthO rows cols (k + 1))) := by
  have := ImageNth_c A B h m c d (k + 1) rows cols w hr hs hn hm hk hb
  rw [Int.natCast_add, Int.natCast_one] at this
  exact this
theorem exNext_def (s : Ig) : exNext s = if rkB s.1 s.2 then ((imgL (rsum s.2) (csum s.1.toNat s.2))[(imgL (rsum s.2) (csum s.1.toNat s.2)).idxOf s.2 + 1]?).map (fun y => (s.1, y)) else none := rfl
theorem Img2.none_ {w w' : World} {e : Ending} (he : e = .returned (.tuple #[.agg #[.int .i64 0, .slice none 0 0], .bool false])) (hb : Below w.heap.size w w') : Img2 w none e w' :=
  ⟨0, none, 0, 0, [], he, fun _ h => (by cases h), Own.nil_ _ _ _, hb⟩

set_option maxHeartbeats 8000000 in
theorem impl_ImageNext_c (W : Int) (A : Option Addr) (n c : Nat) (xs : List Int) (w : World) (hr : Rd w A n xs) (hn : n ≤ 1000) :
    Calls Tryz.prog 16 #[.agg #[.int .i64 W, .slice A n c]] w (Img2 w (exNext (W, xs))) := by
  have hP := (Blk.new w 25 #[.int .i64 W, .slice A n c]).alloc (.cells #[.int .i64 0, .slice none 0 0] 25)
  have hQ := heap_at2 w (.cells #[.int .i64 W, .slice A n c] 25) 25 #[.int .i64 0, .slice none 0 0]
  have hB0 := lo_alloc (lo_alloc (Below.refl w.heap.size w) (.cells #[.int .i64 W, .slice A n c] 25)) (.cells #[.int .i64 0, .slice none 0 0] 25)
  have hR0 := hr.next hB0
  cases hk : rkB W xs with
  | false =>
    have hv := Lib.hid (show rankV W xs = -1 by rw [rankV, hk]; rfl)
    have hT := Lib.hid (show exNext (W, xs) = none by rw [exNext_def, hk]; rfl)
    clear hk
    go_enter Tryz.func16, Tryz.ntmps16
    go_wp2_with fail
    refine (ImageRank_c W A n c xs _ hR0 hn).mono ?_
    rw [hv.out]
    rintro e w1 ⟨rfl, hb1⟩
    have k2 := hQ.next hb1
    have d0 := k2.cell 0
    have d1 := k2.cell 1
    have f0 := k2.frozen 0
    have f1 := k2.frozen 1
    have hF := (k2.set_ 0 (.int .i64 0)).set_ 1 (.slice none 0 0)
    have r0 := hF.cell 0
    have r1 := hF.cell 1
    have hL1 : Below w.heap.size w ((w1.setCell ⟨w.heap.size + 1, 0, none⟩ (.int .i64 0)).setCell ⟨w.heap.size + 1, 1, none⟩ (.slice none 0 0)) := lo_set (lo_set (lo_trans hB0 hb1) (by simp) _) (by simp) _
    clear hF k2 hP hQ
    go_wp2
    exact bodyPost_ret (v := .tuple #[.agg #[.int .i64 0, .slice none 0 0], .bool false]) (by simp [results, Tryz.results16, go_sem, r0, r1]) rfl (by rw [hT.out]; exact Img2.none_ rfl hL1)
  | true =>
    have h2 := hk
    rw [rkB, Bool.and_eq_true, decide_eq_true_eq] at h2
    have hbd := okB_bd h2.1
    obtain ⟨m, rfl⟩ : ∃ m : Nat, W = (m : Int) := ⟨W.toNat, by omega⟩
    have h3 := h2.2
    rw [hr.1, Int.toNat_natCast] at h3
    rw [hr.1] at hbd
    have hin := own_in h2.1
    have hlt := idx_lt hin
    have hsm := imgL_small (rs := rsum xs) (lf := csum m xs) (by simp [rsum, hr.1]; omega) (by simp [csum]; omega)
    have hcb := Lib.hid (show cntB (rsum xs) (csum m xs) = true by
      have e1 : (rsum xs).length = n := by simp [rsum, hr.1]
      have e2 : (csum m xs).length = m := by simp [csum]
      rw [cntB, sV_own4 h2.1, e1, e2, decide_eq_true h3]; rfl)
    have hSr := Lib.hid (show rSums (m : Int) xs = rsum xs by rw [rSums, h2.1]; rfl)
    have hSc := Lib.hid (show cSums (m : Int) xs = csum m xs by rw [cSums, h2.1, Int.toNat_natCast]; rfl)
    have hrl := Lib.hid (show (rsum xs).length = n by simp [rsum, hr.1])
    have hcl := Lib.hid (show (csum m xs).length = m by simp [csum])
    obtain ⟨q, hq⟩ : ∃ q, Hid ((imgL (rsum xs) (csum m xs)).idxOf xs = q) := ⟨_, Lib.hid rfl⟩
    have hv := Lib.hid (show rankV (m : Int) xs = (q : Int) by rw [rankV, hk, Int.toNat_natCast, hq.out]; rfl)
    have hT := Lib.hid (show exNext ((m : Int), xs) = nthO (rsum xs) (csum m xs) (q + 1) by
      rw [exNext_def, hk]
      simp only [Int.toNat_natCast, if_true, hq.out, nthO, hcl.out])
    rw [hq.out] at hlt
    have hqb : q ≤ 68719476736 := by omega
    have g0 : decide ((q : Int) < 0) = false := by simp; try omega
    have ew : IntKind.i64.wrap ((q : Int) + 1) = (q : Int) + 1 := IntWalk.i64_in _ (by omega)
    clear hk h2 hin hlt hsm
    go_enter Tryz.func16, Tryz.ntmps16
    go_wp2_with fail
    refine (ImageRank_c (m : Int) A n c xs _ hR0 hn).mono ?_
    rw [hv.out]
    rintro e w1 ⟨rfl, hb1⟩
    have hB1 := lo_trans hB0 hb1
    have kP := hP.next hb1
    have kQ := hQ.next hb1
    have hR1d := (hR0.next hb1).drew
    have hz1 := kQ.lt
    obtain ⟨p, hp⟩ : ∃ p, p = w.heap.size := ⟨_, rfl⟩
    have hp1 : w.heap.size ≤ p := by omega
    have hp2 : p ≤ w.heap.size := by omega
    rw [← hp] at kP kQ hz1
    clear hP hQ hB0 hb1
    have p0 := kP.cell 0
    have p1 := kP.cell 1
    have hLr := Below.refl w1.drew.heap.size w1.drew
    go_wp2
    rw [← hp]
    clear hp p0 p1
    go_region_held3 (fun w' => w'.cell? ⟨p, 0, none⟩ = some (.int .i64 (m : Int)) ∧ w'.cell? ⟨p, 1, none⟩ = some (.slice A n c))
      (first
        | exact ⟨(kP.drew.next hLr).cell 0, (kP.drew.next hLr).cell 1⟩
        | exact ⟨(((kP.drew.next hLr).far (p := ⟨p + 1, 0, none⟩) (by simp) _).far (p := ⟨p + 1, 1, none⟩) (by simp) _).cell 0, (((kP.drew.next hLr).far (p := ⟨p + 1, 0, none⟩) (by simp) _).far (p := ⟨p + 1, 1, none⟩) (by simp) _).cell 1⟩)
      (first
        | (go_at_call 22
           refine (RowSums_c _ _ _ _ xs _ (hR1d.next hLr) (by omega)).mono ?_
           rw [hSr.out]
           rintro e w6 ⟨R6, r6, d6, rfl, hb6, hO6⟩
           have hLr := lo_trans hLr hb6)
        | (go_at_call 23
           refine (ColSums_c _ _ _ _ xs _ (hR1d.next hLr) (by omega)).mono ?_
           rw [hSc.out]
           rintro e w7 ⟨R7, r7, d7, rfl, hb7, hO7⟩
           have hO6 := hO6.next hb7
           have hLr := lo_trans hLr hb7)
        | (go_at_call 50
           refine (ImageNth_c1 _ _ _ _ _ _ q (rsum xs) (csum m xs) _ hO6.rd hO7.rd (by have := hO6.1; have := hrl.out; omega) (by have := hO7.1; have := hcl.out; omega) (by omega) hcb.out).mono ?_
           rintro e w8 ⟨V, R, r, k, zs, rfl, h1, h2, hb8⟩
           have hLr := lo_trans hLr hb8
           have d0 := (kQ.drew.next hLr).cell 0
           have d1 := (kQ.drew.next hLr).cell 1
           have f0 := (kQ.drew.next hLr).frozen 0
           have f1 := (kQ.drew.next hLr).frozen 1))
    have hz8 := hLr.size
    have hF := ((kQ.drew.next hLr).set_ 0 (.int .i64 V)).set_ 1 (.slice R r k)
    have r0 := hF.cell 0
    have r1 := hF.cell 1
    have hL9 := lo_set (lo_set (lo_trans (Below.drew hB1) hLr) (p := ⟨p + 1, 0, none⟩) (by simp; omega) (.int .i64 V)) (p := ⟨p + 1, 1, none⟩) (by simp; omega) (.slice R r k)
    have hz7 : p + 1 < w7.heap.size := by have := hb7.size; have := hb6.size; have : w1.drew.heap.size = w1.heap.size := rfl; omega
    have hO9 := ((h2.far_lo (p := ⟨p + 1, 0, none⟩) (by simp; omega) (.int .i64 V)).far_lo (p := ⟨p + 1, 1, none⟩) (by simp; omega) (.slice R r k)).mono (lo' := w.heap.size) (by omega)
    clear hF kP kQ
    go_wp2
    exact bodyPost_ret (v := .tuple #[.agg #[.int .i64 V, .slice R r k], .bool (nthO (rsum xs) (csum m xs) (q + 1)).isSome]) (by simp [results, Tryz.results16, go_sem, r0, r1]) rfl ⟨V, R, r, k, zs, by rw [hT.out], by rw [hT.out]; exact h1, hO9, hL9⟩
end Go.Proofs.YtpeiolimdglmhaaGreatDoor
