/- Plain facts and walks that the law's proof uses; each says its own conditions. -/
import Derived.Test.YtpeiolimdglmhaaGreatDoorZ33
import Derived.Test.YtpeiolimdglmhaaGreatDoorZ28
import Derived.Deep.RegionHeld3
-- Walks: the rank of an image.
namespace Go.Proofs.YtpeiolimdglmhaaGreatDoor
open Go.RowKit Go.Shelf
attribute [local go_sem] Oper.semAt_some
set_option maxRecDepth 100000

def rkB (W : Int) (xs : List Int) : Bool := okB W xs && decide (xs.length * W.toNat ≤ 16)
def rankV (W : Int) (xs : List Int) : Int := if rkB W xs then (((imgL (rsum xs) (csum W.toNat xs)).idxOf xs : Nat) : Int) else -1
theorem cSums_in4 {m : Nat} {xs : List Int} (h : okB (m : Int) xs = true) : sIn (xs.length : Int) (csum m xs) = true := by
  have hb := okB_bd h
  refine sIn_yes (by simp [csum]; omega) (by simp [csum]; omega) (allIn_of fun k hk => ?_)
  have hk' : k < m := by simpa [csum] using hk
  have := ccnt_le xs k
  simp only [csum, List.getElem?_map, List.getElem?_range hk', Option.map_some, Option.getD_some]
  omega
theorem sV_own4 {m : Nat} {xs : List Int} (h : okB (m : Int) xs = true) : sV (rsum xs) (csum m xs) = true := by
  have h1 := rSums_in h
  rw [rSums, if_pos h] at h1
  have e1 : (csum m xs).length = m := by simp [csum]
  have e2 : (rsum xs).length = xs.length := by simp [rsum]
  rw [sV, e1, e2, h1, cSums_in4 h]
  rfl
theorem own_in {m : Nat} {xs : List Int} (h : okB (m : Int) xs = true) : xs ∈ imgL (rsum xs) (csum m xs) := (imgL_sums h xs).2 ⟨rfl, h, rfl, rfl⟩
theorem idx_at {L : List (List Int)} {x : List Int} {t : List (List Int)} (hp : t ++ [x] <+: L) (hn : x ∉ t) : L.idxOf x = t.length := by
  obtain ⟨u, rfl⟩ := hp
  rw [List.append_assoc, List.idxOf_append, if_neg hn, List.singleton_append, List.idxOf_cons_self, Nat.zero_add]

set_option maxHeartbeats 4000000 in
theorem ImageRank_no (W : Int) (A : Option Addr) (n c : Nat) (xs : List Int) (w : World) (hr : Rd w A n xs) (hn : n ≤ 1000) (h : rkB W xs = false) :
    Calls Tryz.prog 49 #[.agg #[.int .i64 W, .slice A n c]] w fun e w' => e = .returned (.int .i64 (-1)) ∧ Below w.heap.size w w' := by
  have hP := Blk.new w 25 #[.int .i64 W, .slice A n c]
  have hB0 := lo_alloc (Below.refl w.heap.size w) (.cells #[.int .i64 W, .slice A n c] 25)
  cases hk : okB W xs with
  | false =>
    have hk' := Lib.hid hk
    clear hk
    go_enter Tryz.func49, Tryz.ntmps49
    go_wp2_with fail
    refine (impl_ImageValid_c _ _ _ _ xs _ (hr.next hB0) (by omega)).mono ?_
    rw [hk'.out]
    rintro e w1 ⟨rfl, hb1⟩
    go_wp2
    go_ret
    exact ⟨rfl, lo_trans hB0 hb1⟩
  | true =>
    have hbd := okB_bd hk
    obtain ⟨m, rfl⟩ : ∃ m : Nat, W = (m : Int) := ⟨W.toNat, by omega⟩
    have hq : ¬ n * m ≤ 16 := by
      intro h2
      rw [rkB, hk, hr.1, Int.toNat_natCast] at h
      simp at h
      omega
    rw [hr.1] at hbd
    have hmul : n * m ≤ 6 * 6 := Nat.mul_le_mul (by omega) (by omega)
    have hmi : (n : Int) * (m : Int) = ((n * m : Nat) : Int) := by simp
    have hw : wrap64 ((n : Int) * (m : Int)) = ((n * m : Nat) : Int) := by rw [hmi]; exact IntWalk.wrap64_in _ (by omega)
    have hk' := Lib.hid hk
    clear hk hmi h
    generalize n * m = q at hq hmul hw
    have g1 : decide ((16 : Int) < ((q : Nat) : Int)) = true := by simp; omega
    go_enter Tryz.func49, Tryz.ntmps49
    go_wp2_with fail
    refine (impl_ImageValid_c _ _ _ _ xs _ (hr.next hB0) (by omega)).mono ?_
    rw [hk'.out]
    rintro e w1 ⟨rfl, hb1⟩
    have hP1 := hP.next hb1
    have c0 := hP1.cell 0
    have c1 := hP1.cell 1
    clear hP hP1
    go_wp2
    go_ret
    exact ⟨rfl, lo_trans hB0 hb1⟩

set_option maxHeartbeats 8000000 in
theorem ImageRank_yes (m : Nat) (A : Option Addr) (n c : Nat) (xs : List Int) (w : World) (hr : Rd w A n xs) (hk : okB (m : Int) xs = true) (hc : n * m ≤ 16) :
    Calls Tryz.prog 49 #[.agg #[.int .i64 (m : Int), .slice A n c]] w fun e w' => e = .returned (.int .i64 (((imgL (rsum xs) (csum m xs)).idxOf xs : Nat) : Int)) ∧ Below w.heap.size w w' := by
  have hbd := okB_bd hk
  rw [hr.1] at hbd
  have hP := Blk.new w 25 #[.int .i64 (m : Int), .slice A n c]
  have hB0 := lo_alloc (Below.refl w.heap.size w) (.cells #[.int .i64 (m : Int), .slice A n c] 25)
  have hmi : (n : Int) * (m : Int) = ((n * m : Nat) : Int) := by simp
  have hw : wrap64 ((n : Int) * (m : Int)) = ((n * m : Nat) : Int) := by rw [hmi]; exact IntWalk.wrap64_in _ (by omega)
  have hk' := Lib.hid hk
  have hin := Lib.hid (own_in hk)
  have hsv := sV_own4 hk
  obtain ⟨_, _, _, _, hle⟩ := sV_le hsv
  have hSr := Lib.hid (show rSums (m : Int) xs = rsum xs by rw [rSums, hk]; rfl)
  have hSc := Lib.hid (show cSums (m : Int) xs = csum m xs by rw [cSums, hk, Int.toNat_natCast]; rfl)
  have hsm := imgL_small (rs := rsum xs) (lf := csum m xs) (by simp [rsum, hr.1]; omega) (by simp [csum]; omega)
  have hrl : (rsum xs).length = n := by simp [rsum, hr.1]
  have hcl : (csum m xs).length = m := by simp [csum]
  rw [hrl] at hle
  clear hk hmi hsv
  generalize n * m = q at hc hw
  have g1 : decide ((16 : Int) < ((q : Nat) : Int)) = false := by simp; omega
  obtain ⟨L, hL⟩ : ∃ L, Hid (imgL (rsum xs) (csum m xs) = L) := ⟨_, Lib.hid rfl⟩
  rw [hL.out] at hin hsm ⊢
  refine (callsIn_wide (n := 3)).1 ?_
  refine callsIn_of_wp_marks Tryz.func49 rfl trivial ?_ rfl
  refine wpIn_wide.2 ?_
  simp only [Tryz.ntmps49, List.size_toArray, List.length_cons, List.length_nil, Nat.reduceAdd, Nat.reduceSub, Array.replicate_succ, Array.replicate_zero, List.push_toArray, List.append_toArray, List.nil_append, List.cons_append]
  go_wp2_with fail
  refine (impl_ImageValid_c _ _ _ _ xs _ (hr.next hB0) (by omega)).mono ?_
  rw [hk'.out]
  rintro e w1 ⟨rfl, hb1⟩
  have hP1 := hP.next hb1
  have hs1 := hb1.size
  have hz1 := hP1.lt
  have hB1 := lo_trans hB0 hb1
  have c0 := hP1.cell 0
  have c1 := hP1.cell 1
  clear hP hB0 hb1
  have hP2 := hP1.alloc (.cells #[.int .i64 0] 3)
  have hK2 := Blk.new w1 3 #[.int .i64 0]
  have hB2 := lo_alloc hB1 (.cells #[.int .i64 0] 3)
  have hsz2 : (w1.alloc (.cells #[.int .i64 0] 3)).heap.size = w1.heap.size + 1 := by simp
  go_wp2
  obtain ⟨p, hp⟩ : ∃ p, p = w.heap.size := ⟨_, rfl⟩
  obtain ⟨o, ho⟩ : ∃ o, o = w1.heap.size := ⟨_, rfl⟩
  rw [← hp] at hP1 hP2 hz1 ⊢
  rw [← ho] at hK2 hsz2 hz1 ⊢
  generalize w1.alloc (.cells #[.int .i64 0] 3) = w2 at hP2 hK2 hB2 hsz2 ⊢
  have hp1 : w.heap.size ≤ p := by omega
  have hp2 : p ≤ w.heap.size := by omega
  clear hp ho c0 c1 hP1 hB1 hs1
  have hR2 := hr.next hB2
  have hRd := hR2.drew
  have hLr := Below.refl w2.drew.heap.size w2.drew
  go_region_held3 (fun w' => Below w2.drew.heap.size w2.drew w' ∧ w'.cell? ⟨p, 0, none⟩ = some (.int .i64 (m : Int)) ∧ w'.cell? ⟨p, 1, none⟩ = some (.slice A n c))
    (first
      | exact ⟨hLr, (hP2.drew.next hLr).cell 0, (hP2.drew.next hLr).cell 1⟩)
    (first
      | (go_at_call 22
         refine (RowSums_c _ _ _ _ xs _ (hRd.next hLr) (by omega)).mono ?_
         rw [hSr.out]
         rintro e w6 ⟨R6, r6, d6, rfl, hb6, hO6⟩
         have hLr := lo_trans hLr hb6)
      | (go_at_call 23
         refine (ColSums_c _ _ _ _ xs _ (hRd.next hLr) (by omega)).mono ?_
         rw [hSc.out]
         rintro e w7 ⟨R7, r7, d7, rfl, hb7, hO7⟩
         have hO6 := hO6.next hb7
         have hLr := lo_trans hLr hb7)
      | (go_at_call 89
         refine (callsIn_wide.1 (imagesOf_in Fence.wide 3 trivial rfl _ _ _ _ _ _ _)).mono ?_
         rintro e w8 ⟨rfl, rfl⟩
         have hLr := lo_alloc (lo_alloc hLr (.cells #[.slice R6 r6 d6] 23)) (.cells #[.slice R7 r7 d7] 23)))
  have e6 : r6 = n := by have := hO6.1; omega
  have e7 : r7 = m := by have := hO7.1; omega
  subst e6 e7
  obtain ⟨g6, rfl, hg6, hg6'⟩ : ∃ g, R6 = some ⟨g, 0, none⟩ ∧ w2.drew.heap.size ≤ g ∧ g < w7.heap.size := by
    rcases hO6.blk with ⟨h, _⟩ | ⟨g, h1, h2, h3⟩
    · omega
    · exact ⟨g, h1, h2, h3⟩
  obtain ⟨g7, rfl⟩ : ∃ g, R7 = some ⟨g, 0, none⟩ := by
    rcases hO7.blk with ⟨h, _⟩ | ⟨g, h1, _⟩
    · omega
    · exact ⟨g, h1⟩
  have hR8 := (hO6.rd.alloc (.cells #[.slice (some ⟨g6, 0, none⟩) r6 d6] 23)).alloc (.cells #[.slice (some ⟨g7, 0, none⟩) r7 d7] 23)
  have hC8 := (hO7.rd.alloc (.cells #[.slice (some ⟨g6, 0, none⟩) r6 d6] 23)).alloc (.cells #[.slice (some ⟨g7, 0, none⟩) r7 d7] 23)
  have hbR := (Blk.new w7 23 #[.slice (some ⟨g6, 0, none⟩) r6 d6]).alloc (.cells #[.slice (some ⟨g7, 0, none⟩) r7 d7] 23)
  have hbC := heap_at2 w7 (.cells #[.slice (some ⟨g6, 0, none⟩) r6 d6] 23) 23 #[.slice (some ⟨g7, 0, none⟩) r7 d7]
  have hP8 := hP2.drew.next hLr
  have hK8 := hK2.drew.next hLr
  have hL8 := lo_trans (Below.drew hB2) hLr
  have hz8 : w7.heap.size + 2 ≤ ((w7.alloc (.cells #[.slice (some ⟨g6, 0, none⟩) r6 d6] 23)).alloc (.cells #[.slice (some ⟨g7, 0, none⟩) r7 d7] 23)).heap.size := by simp
  have hzo := hK2.drew.lt
  go_wp2
  obtain ⟨b, hb⟩ : ∃ b, b = w7.heap.size := ⟨_, rfl⟩
  rw [← hb] at hbR hbC hz8 hg6' ⊢
  generalize (w7.alloc (.cells #[.slice (some ⟨g6, 0, none⟩) r6 d6] 23)).alloc (.cells #[.slice (some ⟨g7, 0, none⟩) r7 d7] 23) = w8 at hR8 hC8 hbR hbC hP8 hK8 hL8 hz8 ⊢
  have hob : o < b := by omega
  clear hb hO6 hO7 hRd hLr hb6 hb7
  have h1 : 1 ≤ r6 := by omega
  have h6 : r6 ≤ 6 := by omega
  have m1 : 1 ≤ r7 := by omega
  have m6 : r7 ≤ 6 := by omega
  refine (wpIn_wide (n := 3)).1 ?_
  refine wpIn_rangeFunc_cells rfl (by omega) (gf := 123) (lb := #[.pointer (some ⟨b, 0, none⟩), .pointer (some ⟨b + 1, 0, none⟩)]) rfl trivial (enters_of Tryz.func123 (by kernel_rfl) rfl)
    (encs := imEnc r6 r7 r6) (Kp := KB2 b g6) (imPre_keep r6) KB2.trans (fun W l o' hl => ⟨World.putObj_heap_other (by omega), World.putObj_heap_other (by omega)⟩)
    (images_seq _ (by omega) m1 m6 h1 h6 w8 hR8 hC8 hbR hbC hle) (Below.refl _ _) (fun _ => rfl)
    (fun (pre : List (Nat × List Int)) W => Below w.heap.size w W ∧ Blk W o 3 #[.int .i64 ((pre.length : Nat) : Int)] ∧ Blk W p 25 #[.int .i64 (r7 : Int), .slice A r6 c] ∧ Hid (∀ z ∈ pre, z.2 ≠ xs) ∧ w8.heap.size ≤ W.heap.size)
    (fun _ cc (pre : List (Nat × List Int)) W => cc = .exit 0 ∧ Below w.heap.size w W ∧ ∃ q : Nat, q + 1 = pre.length ∧ Blk W o 3 #[.int .i64 (q : Int)] ∧ Hid (∃ (t : List (Nat × List Int)) (y : Nat × List Int), pre = t ++ [y] ∧ y.2 = xs ∧ ∀ z ∈ t, z.2 ≠ xs))
    (Bears.and (bears_below (by omega)) (Bears.and (bears_blk (fun pre : List (Nat × List Int) => #[.int .i64 ((pre.length : Nat) : Int)]) (by omega)) (Bears.and (bears_blk _ (by omega)) (Bears.and (bears_pure _ _) (fun _ _ _ _ hs hg _ => Nat.le_trans hs hg.size)))))
    (fun _ cc s X Y row ⟨h1, h2, q, h3, h4, h5⟩ hg hr => ⟨h1, h2.grown hg h2.size (fun g e => by have := hr g e; omega), q, h3, h4.grown hg (fun e => by have := hr _ e.symm; omega), h5⟩)
    ⟨hL8, hK8, hP8, Lib.hid (fun _ h => by cases h), Nat.le_refl _⟩
    (fun x a' W => ∃ g, w8.heap.size ≤ g ∧ Blk W g 25 #[.int .i64 (r7 : Int), .slice (some ⟨x.1, 0, none⟩) r6 r6] ∧ a' = { tmps := #[.agg #[.int .i64 (r7 : Int), .slice A r6 c], .pointer (some ⟨p, 0, none⟩), .int .i64 0, .pointer (some ⟨o, 0, none⟩), .pointer (some ⟨g, 0, none⟩), .agg #[.int .i64 (r7 : Int), .slice A r6 c], .bool true, .bool false, .bool false, .pointer (some ⟨p, 1, none⟩), .slice A r6 c, .int .i64 (r6 : Int), .pointer (some ⟨p, 0, none⟩), .int .i64 (r7 : Int), .int .i64 (q : Int), .bool false, .bool false, .agg #[.int .i64 (r7 : Int), .slice A r6 c], .slice (some ⟨g6, 0, none⟩) r6 d6, .agg #[.int .i64 (r7 : Int), .slice A r6 c], .slice (some ⟨g7, 0, none⟩) r7 d7, .func (.func 123) #[] #[.pointer (some ⟨b, 0, none⟩), .pointer (some ⟨b + 1, 0, none⟩)], .agg #[.int .i64 (r7 : Int), .slice (some ⟨x.1, 0, none⟩) r6 r6], undef, undef, undef, undef, undef, undef], defers := [] })
    (fun x a' s X Y row ⟨g, h1, h2, h3⟩ hg hr => ⟨g, h1, h2.ownF hg (fun r e => (hr r e).2), h3⟩) ?assign ?body ?done ?stop
  case assign =>
    rintro l pre x W K ⟨i1, i2, i3, i4, i5⟩ hQ
    dsimp only [imEnc]
    gi_wp2
    exact hQ _ _ (KeepsUp.of_below (lo_alloc (Below.refl _ _) _)) (KB2.of_below (lo_alloc (Below.refl _ _) _) (by omega) (by omega)) ⟨lo_alloc i1 _, i2.alloc _, i3.alloc _, i4, by simp; omega⟩
      ⟨W.heap.size, i5, Blk.new W _ _, rfl⟩
  case body =>
    rintro T l pre x a' W _ _ ⟨i1, i2, i3, i4, i5⟩ hPre ⟨g, hg, hX, rfl⟩ hlen
    rw [hL.out] at hlen
    have k0 := i2.cell 0
    have k1 := i2.frozen 0
    have p0 := i3.cell 0
    have p1 := i3.cell 1
    have x0 := hX.cell 0
    have x1 := hX.cell 1
    have hxr := hPre.2.rd
    have hzW := i2.lt
    obtain ⟨v, hv⟩ : ∃ v, Hid (decide (xs = x.2) = v) := ⟨_, Lib.hid rfl⟩
    gi_wp2_with fail
    refine ⟨trivial, ?_⟩
    gi_at_call 90
    refine (CallsIn.inRound l (callsIn_wide.2 (sameImage_c _ _ _ _ _ _ _ _ xs x.2 _ (hr.next i1) hxr (by omega)))).mono ?_
    rw [decide_eq_true (rfl : (r7 : Int) = (r7 : Int)), Bool.true_and, hv.out]
    rintro e W1 ⟨rfl, hb1⟩
    have j2 := i2.next hb1
    have k0' := j2.cell 0
    have k1' := j2.frozen 0
    clear k0 k1 p0 p1 x0 x1
    obtain ⟨q2, hq2⟩ : ∃ q2, q2 = pre.length := ⟨_, rfl⟩
    cases v with
    | true =>
      have hxe := Lib.hid (show x.2 = xs by have := hv.out; simp at this; exact this.symm)
      gi_wp2
      refine ⟨KeepsUp.of_below hb1, KB2.of_below hb1 (by omega) (by omega), rfl, lo_trans i1 hb1, pre.length, by simp, j2, Lib.hid ⟨pre, x, rfl, hxe.out, i4.out⟩⟩
    | false =>
      have hxe := Lib.hid (show x.2 ≠ xs by have := hv.out; simp at this; exact fun e => this e.symm)
      rw [← hq2] at k0' hlen j2
      have hq' := Lib.hid hq2
      clear hq2
      have hset := Lib.hid (j2.set_ 0 (.int .i64 ((q2 : Int) + 1)))
      have hlow := lo_set (lo_trans i1 hb1) (p := ⟨o, 0, none⟩) (by simp; omega) (.int .i64 ((q2 : Int) + 1))
      have hp3 := (i3.next hb1).far (p := ⟨o, 0, none⟩) (by simp; omega) (.int .i64 ((q2 : Int) + 1))
      have hsz := hb1.size
      clear j2 hX
      gi_wp2
      refine ⟨(KeepsUp.of_below hb1).trans (KeepsUp.of_grown (grown_set (g := o) (k := 0) _) (fun r e => by cases e; omega)), (KB2.of_below hb1 (by omega) (by omega)).trans (KB2.of_grown (grown_set (g := o) (k := 0) _) (by omega) (by omega) (fun e => by injection e; omega) (fun e => by injection e; omega)), hlow, ?_, hp3, Lib.hid (fun z hz => ?_), by simp; omega⟩
      · rw [List.length_append, ← hq'.out]
        exact hset.out
      · rcases List.mem_append.1 hz with h | h
        · exact i4.out z h
        · rw [List.mem_singleton.1 h]; exact hxe.out
  case done =>
    rintro D zs W hD hzs ⟨i1, i2, i3, i4, i5⟩ hKD
    exfalso
    have := hin.out
    rw [← hL.out, ← hzs] at this
    obtain ⟨z, hz, e⟩ := List.mem_map.1 this
    exact i4.out z hz e
  case stop =>
    rintro D T cc pre W hD _ hSp ⟨rfl, i1, q, hq, i2, i3⟩ hKD
    have hidx := Lib.hid (show ((L.idxOf xs : Nat) : Int) = (q : Int) by
      obtain ⟨t, y, e1, e2, e3⟩ := i3.out
      have h1 := hSp.2
      rw [hL.out, e1, List.map_append, List.map_singleton, e2] at h1
      rw [idx_at h1 (fun h => by obtain ⟨z, hz, e⟩ := List.mem_map.1 h; exact e3 z hz e), List.length_map]
      have := congrArg List.length e1
      simp at this
      omega)
    have k0 := i2.cell 0
    refine (wpIn_wide (n := 3)).2 ?_
    go_wp2
    refine ⟨by simp, .inl ⟨_, _, rfl, run_takeDeferred hKD, ?_⟩⟩
    refine ⟨.int .i64 (q : Int), by simp [results, Tryz.results49, go_sem], by rw [hidx.out], ?_⟩
    exact i1.trans (belowK_b (w := w) (Nat.le_refl _) _ D _ (.deferred none) (by omega) hKD rfl rfl)

/-- ImageRank -/
theorem ImageRank_c (W : Int) (A : Option Addr) (n c : Nat) (xs : List Int) (w : World) (hr : Rd w A n xs) (hn : n ≤ 1000) :
    Calls Tryz.prog 49 #[.agg #[.int .i64 W, .slice A n c]] w fun e w' => e = .returned (.int .i64 (rankV W xs)) ∧ Below w.heap.size w w' := by
  cases h : rkB W xs with
  | false =>
    have e : rankV W xs = -1 := by rw [rankV, h]; rfl
    rw [e]
    exact ImageRank_no W A n c xs w hr hn h
  | true =>
    have h2 := h
    rw [rkB, Bool.and_eq_true, decide_eq_true_eq] at h2
    have hbd := okB_bd h2.1
    obtain ⟨m, rfl⟩ : ∃ m : Nat, W = (m : Int) := ⟨W.toNat, by omega⟩
    have e : rankV (m : Int) xs = (((imgL (rsum xs) (csum m xs)).idxOf xs : Nat) : Int) := by rw [rankV, h, Int.toNat_natCast]; rfl
    rw [e]
    have h3 := h2.2
    rw [hr.1, Int.toNat_natCast] at h3
    exact ImageRank_yes m A n c xs w hr h2.1 h3
end Go.Proofs.YtpeiolimdglmhaaGreatDoor
