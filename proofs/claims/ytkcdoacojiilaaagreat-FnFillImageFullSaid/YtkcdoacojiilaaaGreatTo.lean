
/- Walks: the first switch that leads nearer to another image. -/
import Derived.Test.YtkcdoacojiilaaaGreatRg
import Derived.Test.YtkcdoacojiilaaaGreatKr
namespace Go.Proofs.YtkcdoacojiilaaaGreat
open Go.RowKit Go.Shelf
attribute [local go_sem] Oper.semAt_some
set_option maxRecDepth 100000

/-- what SwitchToward tells -/
def Tow (m : Nat) (xs ys : List Int) (w : World) (e : Ending) (w' : World) : Prop := Below w.heap.size w w' ∧
  ((∃ s ∈ swList m xs, distX (swDo m xs s) ys < distX xs ys ∧ e = .returned (.tuple #[.agg #[.int .i64 (s.a : Int), .int .i64 (s.b : Int), .int .i64 (s.c : Int), .int .i64 (s.d : Int)], .bool true])) ∨
    ((∀ s ∈ swList m xs, ¬ distX (swDo m xs s) ys < distX xs ys) ∧ e = .returned (.tuple #[.agg #[.int .i64 0, .int .i64 0, .int .i64 0, .int .i64 0], .bool false])))

def putSw (W : World) (s k : Nat) (x0 x1 x2 x3 y : Value) : World := ((((W.setCell ⟨s, 0, none⟩ x0).setCell ⟨s, 1, none⟩ x1).setCell ⟨s, 2, none⟩ x2).setCell ⟨s, 3, none⟩ x3).setCell ⟨k, 0, none⟩ y
theorem keepsO_set {W : World} {g i : Nat} {t : TypeId} {cs : Array Value} (h : Blk W g t cs) (u : Value) : KeepsOthers W (W.setCell ⟨g, i, none⟩ u) := keepsO_grown (grown_set (g := g) (k := i) u) (by rintro _ ⟨⟩; exact ⟨_, _, h⟩)
theorem putSw_facts {W : World} {s k : Nat} {t u : TypeId} {a0 a1 a2 a3 b x0 x1 x2 x3 y : Value} (hS : Blk W s t #[a0, a1, a2, a3]) (hK : Blk W k u #[b]) (hne : s ≠ k) :
    Blk (putSw W s k x0 x1 x2 x3 y) s t #[x0, x1, x2, x3] ∧ Blk (putSw W s k x0 x1 x2 x3 y) k u #[y] ∧ (putSw W s k x0 x1 x2 x3 y).heap.size = W.heap.size ∧ (∀ b, b ≠ s → b ≠ k → KB b W (putSw W s k x0 x1 x2 x3 y)) ∧
      (∀ {a : World}, Below a.heap.size a W → a.heap.size ≤ s → a.heap.size ≤ k → Below a.heap.size a (putSw W s k x0 x1 x2 x3 y)) ∧ KeepsOthers W (putSw W s k x0 x1 x2 x3 y) := by
  unfold putSw
  have h1 := hS.set_ 0 x0
  have h2 := h1.set_ 1 x1
  have h3 := h2.set_ 2 x2
  have h4 := h3.set_ 3 x3
  have e : (((#[a0, a1, a2, a3].setIfInBounds 0 x0).setIfInBounds 1 x1).setIfInBounds 2 x2).setIfInBounds 3 x3 = #[x0, x1, x2, x3] := rfl
  have k1 := hK.far (p := ⟨s, 0, none⟩) (Ne.symm hne) x0
  have k2 := k1.far (p := ⟨s, 1, none⟩) (Ne.symm hne) x1
  have k3 := k2.far (p := ⟨s, 2, none⟩) (Ne.symm hne) x2
  have k4 := k3.far (p := ⟨s, 3, none⟩) (Ne.symm hne) x3
  rw [e] at h4
  refine ⟨h4.far (p := ⟨k, 0, none⟩) hne y, k4.set_ 0 y, by simp [World.setCell], fun b hb1 hb2 => ?_, fun h hs hk => ?_, ?_⟩
  · exact ((((show KB b W _ from Below.heap_setCell _ _ _ _ (by simpa using hb1)).trans (Below.heap_setCell _ _ _ _ (by simpa using hb1))).trans (Below.heap_setCell _ _ _ _ (by simpa using hb1))).trans (Below.heap_setCell _ _ _ _ (by simpa using hb1))).trans (Below.heap_setCell _ _ _ _ (by simpa using hb2))
  · exact lo_set (lo_set (lo_set (lo_set (lo_set h (p := ⟨s, 0, none⟩) hs _) (p := ⟨s, 1, none⟩) hs _) (p := ⟨s, 2, none⟩) hs _) (p := ⟨s, 3, none⟩) hs _) (p := ⟨k, 0, none⟩) hk _
  · exact ((((keepsO_set hS x0).trans (keepsO_set h1 x1)).trans (keepsO_set h2 x2)).trans (keepsO_set h3 x3)).trans (keepsO_set k4 y)

set_option maxHeartbeats 8000000 in
theorem SwitchToward_c (m n c d : Nat) (A B : Option Addr) (xs ys : List Int) (w : World) (hr : Rd w A n xs) (hq : Rd w B n ys) (hx : okB (m : Int) xs = true) (hy : okB (m : Int) ys = true) :
    Calls Tryz.prog 32 #[.agg #[.int .i64 m, .slice A n c], .agg #[.int .i64 m, .slice B n d]] w (Tow m xs ys w) := by
  have hbd := okB_bd hx
  rw [hr.1] at hbd
  have hx' := Lib.hid hx; have hy' := Lib.hid hy
  have hsz := sizeB_mk hx hy (by rw [hr.1, hq.1])
  clear hx hy
  obtain ⟨bA, off, rfl, hbA, _⟩ := hr.2 (by omega)
  refine (callsIn_wide (n := 3)).1 ?_
  refine callsIn_of_wp_marks Tryz.func32 rfl trivial ?_ rfl
  simp only [Tryz.ntmps32, List.size_toArray, List.length_cons, List.length_nil, Nat.reduceAdd, Nat.reduceSub, Array.replicate_succ, Array.replicate_zero, List.push_toArray, List.append_toArray, List.nil_append, List.cons_append]
  gi_wp2_with fail
  refine ⟨trivial, ?_⟩
  gi_at_call 54
  have hA0 := (((Blk.new w 27 #[.int .i64 (m : Int), .slice (some ⟨bA, off, none⟩) n c]).alloc (.cells #[.int .i64 (m : Int), .slice B n d] 27)).alloc (.cells #[.int .i64 0, .int .i64 0, .int .i64 0, .int .i64 0] 50)).alloc (.cells #[.bool false] 4)
  have hB0 := ((heap_at2 w (.cells #[.int .i64 (m : Int), .slice (some ⟨bA, off, none⟩) n c] 27) 27 #[.int .i64 (m : Int), .slice B n d]).alloc (.cells #[.int .i64 0, .int .i64 0, .int .i64 0, .int .i64 0] 50)).alloc (.cells #[.bool false] 4)
  have hS0 := (heap_at2 (w.alloc (.cells #[.int .i64 (m : Int), .slice (some ⟨bA, off, none⟩) n c] 27)) (.cells #[.int .i64 (m : Int), .slice B n d] 27) 50 #[.int .i64 0, .int .i64 0, .int .i64 0, .int .i64 0]).alloc (.cells #[.bool false] 4)
  have hK0 := heap_at2 ((w.alloc (.cells #[.int .i64 (m : Int), .slice (some ⟨bA, off, none⟩) n c] 27)).alloc (.cells #[.int .i64 (m : Int), .slice B n d] 27)) (.cells #[.int .i64 0, .int .i64 0, .int .i64 0, .int .i64 0] 50) 4 #[.bool false]
  have hL0 := lo_alloc (lo_alloc (lo_alloc (lo_alloc (Below.refl w.heap.size w) (.cells #[.int .i64 (m : Int), .slice (some ⟨bA, off, none⟩) n c] 27)) (.cells #[.int .i64 (m : Int), .slice B n d] 27)) (.cells #[.int .i64 0, .int .i64 0, .int .i64 0, .int .i64 0] 50)) (.cells #[.bool false] 4)
  simp only [World.size_alloc] at hS0 hK0
  refine (callsIn_wide.2 (sameSize_c _ _ _ _ xs _ _ _ _ ys _ (hr.next hL0) (by omega) (hq.next hL0) (by omega))).mono ?_
  rw [hsz]
  rintro e w5 ⟨rfl, hb5⟩
  obtain ⟨p, hp⟩ : ∃ p, p = w.heap.size := ⟨_, rfl⟩
  have hA5 := hA0.next hb5
  have hB5 := hB0.next hb5
  have hS5 := hS0.next hb5
  have hK5 := hK0.next hb5
  have hL5 := lo_trans hL0 hb5
  clear hsz hA0 hB0 hS0 hK0 hL0 hb5
  rw [← hp] at hA5 hB5 hS5 hK5 ⊢
  have hbp : bA < p := by omega
  have hp1 : w.heap.size ≤ p := by omega
  have hp2 : p ≤ w.heap.size := by omega
  clear hp
  have a0 := hA5.cell 0
  have a1 := hA5.cell 1
  gi_wp2_with (refine ⟨trivial, ?_⟩; gi_at_call 55; refine (switches_in Fence.wide _ trivial rfl _ _ _).mono ?_; rintro e w3 ⟨rfl, rfl⟩)
  clear a0 a1
  have hO := Blk.new w5 27 #[.int .i64 (m : Int), .slice (some ⟨bA, off, none⟩) n c]
  have hL6 := lo_alloc hL5 (.cells #[.int .i64 (m : Int), .slice (some ⟨bA, off, none⟩) n c] 27)
  have hA6 := hA5.alloc (.cells #[.int .i64 (m : Int), .slice (some ⟨bA, off, none⟩) n c] 27)
  have hB6 := hB5.alloc (.cells #[.int .i64 (m : Int), .slice (some ⟨bA, off, none⟩) n c] 27)
  have hS6 := hS5.alloc (.cells #[.int .i64 (m : Int), .slice (some ⟨bA, off, none⟩) n c] 27)
  have hK6 := hK5.alloc (.cells #[.int .i64 (m : Int), .slice (some ⟨bA, off, none⟩) n c] 27)
  have hsz : (w5.alloc (.cells #[.int .i64 (m : Int), .slice (some ⟨bA, off, none⟩) n c] 27)).heap.size = w5.heap.size + 1 := by simp
  have hp5 := hK5.lt
  clear hA5 hB5 hS5 hK5 hL5
  generalize w5.alloc (.cells #[.int .i64 (m : Int), .slice (some ⟨bA, off, none⟩) n c] 27) = w6 at hO hL6 hA6 hB6 hS6 hK6 hsz ⊢
  obtain ⟨o, ho⟩ : ∃ o, o = w5.heap.size := ⟨_, rfl⟩
  rw [← ho] at hO hsz hp5 ⊢
  clear ho
  have hsz1 : w6.heap.size ≤ o + 1 := by omega
  have hsz2 : o + 1 ≤ w6.heap.size := by omega
  clear hsz
  refine wpIn_rangeFunc_ownH rfl (by omega) (gf := 74) (lb := #[.pointer (some ⟨o, 0, none⟩)]) rfl trivial (enters_of Tryz.func74 (by kernel_rfl) rfl)
    (switches_stops _ (by omega) o n m c bA off xs hx'.out w6 (hr.next hL6) (by omega) (by omega) hO) KB2.trans (KB2.put (by omega) (by omega)) (Below.refl _ _) (fun _ => rfl)
    (fun (pre : List (VSw m xs)) W => Below w.heap.size w W ∧ Blk W p 27 #[.int .i64 (m : Int), .slice (some ⟨bA, off, none⟩) n c] ∧ Blk W (p + 1) 27 #[.int .i64 (m : Int), .slice B n d] ∧
      Blk W (p + 1 + 1) 50 #[.int .i64 0, .int .i64 0, .int .i64 0, .int .i64 0] ∧ Blk W (p + 1 + 1 + 1) 4 #[.bool false] ∧ Hid (∀ s ∈ pre, ¬ distX (swDo m xs s.1) ys < distX xs ys) ∧ w6.heap.size ≤ W.heap.size)
    (fun cc _ W => cc = .ret ∧ Below w.heap.size w W ∧ ∃ s : Sw, s ∈ swList m xs ∧ distX (swDo m xs s) ys < distX xs ys ∧ Blk W (p + 1 + 1) 50 #[.int .i64 (s.a : Int), .int .i64 (s.b : Int), .int .i64 (s.c : Int), .int .i64 (s.d : Int)] ∧ Blk W (p + 1 + 1 + 1) 4 #[.bool true])
    (OwnFrom.and (ownFrom_below (Nat.le_refl _) (by omega)) (OwnFrom.and (ownFrom_blk _ (by omega)) (OwnFrom.and (ownFrom_blk _ (by omega)) (OwnFrom.and (ownFrom_blk _ (by omega)) (OwnFrom.and (ownFrom_blk _ (by omega))
      (OwnFrom.and (fun _ _ _ _ hs _ _ => hs) (fun _ _ _ _ hs hg _ => Nat.le_trans hs hg.size)))))))
    (fun cc => fun pre X Y row ⟨h1, h2, s, h3, h4, h5, h6⟩ hg hr => ⟨h1, h2.grown hg h2.size (fun g e => by have := (hr g e).1; omega), s, h3, h4, h5.ownF hg (fun r e => (hr r e).2), h6.ownF hg (fun r e => (hr r e).2)⟩)
    ⟨hL6, hA6, hB6, hS6, hK6, Lib.hid (fun _ h => by cases h), Nat.le_refl _⟩
    (fun x a' W => ∃ g, w6.heap.size ≤ g ∧ Blk W g 50 #[.int .i64 (x.1.a : Int), .int .i64 (x.1.b : Int), .int .i64 (x.1.c : Int), .int .i64 (x.1.d : Int)] ∧
      a' = { tmps := #[.agg #[.int .i64 (m : Int), .slice (some ⟨bA, off, none⟩) n c], .agg #[.int .i64 (m : Int), .slice B n d], .pointer (some ⟨p, 0, none⟩), .pointer (some ⟨p + 1, 0, none⟩), .pointer (some ⟨p + 1 + 1, 0, none⟩), .pointer (some ⟨p + 1 + 1 + 1, 0, none⟩), .pointer (some ⟨g, 0, none⟩),
        .agg #[.int .i64 (m : Int), .slice (some ⟨bA, off, none⟩) n c], .agg #[.int .i64 (m : Int), .slice B n d], .bool true, .bool false, undef, .agg #[.int .i64 (m : Int), .slice (some ⟨bA, off, none⟩) n c], .func (.func 74) #[] #[.pointer (some ⟨o, 0, none⟩)],
        .agg #[.int .i64 (x.1.a : Int), .int .i64 (x.1.b : Int), .int .i64 (x.1.c : Int), .int .i64 (x.1.d : Int)], undef, undef, undef, undef, undef, undef, undef, undef, undef, undef, undef], defers := [] })
    (fun x a' s X Y row ⟨g, h1, h2, h3⟩ hg hr => ⟨g, h1, h2.ownF hg (fun r e => (hr r e).2), h3⟩) ?assign ?body ?done ?stop
  case assign =>
    rintro l pre x W K ⟨h1, h2, h3, h4, h5, h6, h7⟩ hQ
    dsimp only [swEnc]
    gi_wp2
    exact hQ _ _ ((keeps_below (lo_alloc (Below.refl _ _) _)).from _) (KB2.of_below (lo_alloc (Below.refl _ _) _) (by omega) (by omega)) ⟨lo_alloc h1 _, h2.alloc _, h3.alloc _, h4.alloc _, h5.alloc _, h6, by simp; omega⟩
      ⟨W.heap.size, h7, Blk.new W _ _, rfl⟩
  case body =>
    rintro l pre ⟨⟨sa, sb, sc, sd⟩, hs⟩ a' W hl _ ⟨h1, h2, h3, h4, h5, h6, h7⟩ ⟨g, hg, hX, rfl⟩ hlen
    dsimp only at hX ⊢
    have hs' := Lib.hid hs
    have hsm := (mem_swList.1 hs).1
    dsimp only at hsm
    rw [hr.1] at hsm
    have hRW := (hr.next h1).drew
    have hQW := (hq.next h1).drew
    gi_wp2_with fail
    refine wpIn_region_heldR (S := fun w' => Below W.drew.heap.size W.drew w' ∧ w'.cell? ⟨p, 0, none⟩ = some (.int .i64 (m : Int)) ∧ w'.cell? ⟨p, 1, none⟩ = some (.slice (some ⟨bA, off, none⟩) n c) ∧ w'.cell? ⟨p + 1, 0, none⟩ = some (.int .i64 (m : Int)) ∧ w'.cell? ⟨p + 1, 1, none⟩ = some (.slice B n d) ∧
      w'.cell? ⟨g, 0, none⟩ = some (.int .i64 (sa : Int)) ∧ w'.cell? ⟨g, 1, none⟩ = some (.int .i64 (sb : Int)) ∧ w'.cell? ⟨g, 2, none⟩ = some (.int .i64 (sc : Int)) ∧ w'.cell? ⟨g, 3, none⟩ = some (.int .i64 (sd : Int))) (by kernel_rfl) (by kernel_rfl) (by rintro ⟨_, _, h⟩; exact h) ⟨Below.refl _ _, h2.drew.cell 0, h2.drew.cell 1, h3.drew.cell 0, h3.drew.cell 1, hX.drew.cell 0, hX.drew.cell 1, hX.drew.cell 2, hX.drew.cell 3⟩ (fun hHeld => ?_)
    refine wpAnyH_take (i := 0) (v := .agg #[.int .i64 (m : Int), .slice (some ⟨bA, off, none⟩) n c]) rfl (by kernel_rfl) (by kernel_rfl) (by kernel_rfl) (fun _ _ _ h => h) (Or.inl ⟨by rfl, ?_⟩) hHeld ?_
    · intro w' hSw
      go_simp
    simp only [Act.put]
    refine wpAnyH_take (i := 1) (v := .agg #[.int .i64 (sa : Int), .int .i64 (sb : Int), .int .i64 (sc : Int), .int .i64 (sd : Int)]) rfl (by kernel_rfl) (by kernel_rfl) (by kernel_rfl) (fun _ _ _ h => h) (Or.inl ⟨by rfl, ?_⟩) hHeld ?_
    · intro w' hSw
      go_simp
    simp only [Act.put]
    refine wpAnyH_take (i := 3) (v := .agg #[.int .i64 (m : Int), .slice B n d]) rfl (by kernel_rfl) (by kernel_rfl) (by kernel_rfl) (fun _ _ _ h => h) (Or.inl ⟨by rfl, ?_⟩) hHeld ?_
    · intro w' hSw
      go_simp
    simp only [Act.put]
    refine wpAnyH_take (i := 5) (v := .agg #[.int .i64 (m : Int), .slice (some ⟨bA, off, none⟩) n c]) rfl (by kernel_rfl) (by kernel_rfl) (by kernel_rfl) (fun _ _ _ h => h) (Or.inl ⟨by rfl, ?_⟩) hHeld ?_
    · intro w' hSw
      go_simp
    simp only [Act.put]
    refine wpAnyH_take (i := 6) (v := .agg #[.int .i64 (m : Int), .slice B n d]) rfl (by kernel_rfl) (by kernel_rfl) (by kernel_rfl) (fun _ _ _ h => h) (Or.inl ⟨by rfl, ?_⟩) hHeld ?_
    · intro w' hSw
      go_simp
    simp only [Act.put]
    refine wpAnyH_ready (rs := [2]) (by kernel_rfl) (by simp) (AllReadyH.cons rfl (fun KK hKK => ?_) AllReadyH.nil)
    go_simp
    go_at_call 33
    refine (switched_c m n c (some ⟨bA, off, none⟩) xs ⟨sa, sb, sc, sd⟩ _ hRW hx'.out hsm).mono ?_
    rintro e W1 ⟨gr, cr, rfl, hb1, hown⟩
    have hb2 := hb1
    go_wp2_with fail
    refine hKK.out _ _ ⟨hb2, (h2.drew.next hb2).cell 0, (h2.drew.next hb2).cell 1, (h3.drew.next hb2).cell 0, (h3.drew.next hb2).cell 1, (hX.drew.next hb2).cell 0, (hX.drew.next hb2).cell 1, (hX.drew.next hb2).cell 2, (hX.drew.next hb2).cell 3⟩ (fun hHeld => ?_)
    clear hKK KK
    have hown2 := hown.rd
    have hz2 := hb2.size
    refine wpAnyH_ready (rs := [4]) (by kernel_rfl) (by simp) (AllReadyH.cons rfl (fun KK hKK => ?_) AllReadyH.nil)
    go_simp
    go_at_call 56
    refine (distance_c m n cr d _ _ (swDo m xs ⟨sa, sb, sc, sd⟩) ys _ hown2 (hQW.next hb2) (swDo_ok2 hx'.out _) hy'.out).mono ?_
    rintro e W2 ⟨rfl, hb3⟩
    have hb4 := lo_trans hb2 hb3
    go_wp2_with fail
    refine hKK.out _ _ ⟨hb4, (h2.drew.next hb4).cell 0, (h2.drew.next hb4).cell 1, (h3.drew.next hb4).cell 0, (h3.drew.next hb4).cell 1, (hX.drew.next hb4).cell 0, (hX.drew.next hb4).cell 1, (hX.drew.next hb4).cell 2, (hX.drew.next hb4).cell 3⟩ (fun hHeld => ?_)
    clear hKK KK
    refine wpAnyH_ready (rs := [7]) (by kernel_rfl) (by simp) (AllReadyH.cons rfl (fun KK hKK => ?_) AllReadyH.nil)
    go_simp
    go_at_call 56
    refine (distance_c m n c d _ _ xs ys _ (hRW.next hb4) (hQW.next hb4) hx'.out hy'.out).mono ?_
    rintro e W3 ⟨rfl, hb5⟩
    have hb6 := lo_trans hb4 hb5
    go_wp2_with fail
    refine hKK.out _ _ ⟨hb6, (h2.drew.next hb6).cell 0, (h2.drew.next hb6).cell 1, (h3.drew.next hb6).cell 0, (h3.drew.next hb6).cell 1, (hX.drew.next hb6).cell 0, (hX.drew.next hb6).cell 1, (hX.drew.next hb6).cell 2, (hX.drew.next hb6).cell 3⟩ (fun hHeld => ?_)
    clear hKK KK
    refine wpAnyH_ready (rs := [8]) (by kernel_rfl) (by simp) (AllReadyH.cons rfl (fun KK hKK => ?_) AllReadyH.nil)
    have hmem := hs'.out
    by_cases hlt : distX (swDo m xs ⟨sa, sb, sc, sd⟩) ys < distX xs ys
    · have hlt' := Lib.hid hlt
      have hd : decide (distX (swDo m xs ⟨sa, sb, sc, sd⟩) ys < distX xs ys) = true := decide_eq_true hlt
      generalize distX (swDo m xs ⟨sa, sb, sc, sd⟩) ys = d1 at hd ⊢
      generalize distX xs ys = d2 at hd ⊢
      clear hlt
      go_simp
      refine hKK.out _ _ hHeld (fun _ => ?_)
      clear hKK KK
      refine wpAnyH_done (by kernel_rfl) ?_ _
      have hAe := h2.drew.next hb6
      have hBe := h3.drew.next hb6
      have hSe := h4.drew.next hb6
      have hKe := h5.drew.next hb6
      have hXe := hX.drew.next hb6
      have hze := hb6.size
      have s0 := hSe.cell 0
      have s1 := hSe.cell 1
      have s2 := hSe.cell 2
      have s3 := hSe.cell 3
      have f0 := hSe.frozen 0
      have f1 := hSe.frozen 1
      have f2 := hSe.frozen 2
      have f3 := hSe.frozen 3
      have k0 := hKe.cell 0
      have k1 := hKe.frozen 0
      have x0 := hXe.cell 0
      have x1 := hXe.cell 1
      have x2 := hXe.cell 2
      have x3 := hXe.cell 3
      gi_wp2
      have hbW := lo_trans (Below.drew (Below.refl W.heap.size W)) hb6
      obtain ⟨g1, g2, g3, g4, g5, g6⟩ := putSw_facts (x0 := .int .i64 (sa : Int)) (x1 := .int .i64 (sb : Int)) (x2 := .int .i64 (sc : Int)) (x3 := .int .i64 (sd : Int)) (y := .bool true) hSe hKe (by omega)
      exact ⟨((keeps_below hbW).trans g6).from _, rfl, g5 (lo_trans h1 hbW) (by omega) (by omega), _, hmem, hlt'.out, g1, g2⟩
    · have hlt' := Lib.hid hlt
      have hd : decide (distX (swDo m xs ⟨sa, sb, sc, sd⟩) ys < distX xs ys) = false := decide_eq_false hlt
      generalize distX (swDo m xs ⟨sa, sb, sc, sd⟩) ys = d1 at hd ⊢
      generalize distX xs ys = d2 at hd ⊢
      clear hlt
      go_simp
      refine hKK.out _ _ hHeld (fun _ => ?_)
      clear hKK KK
      refine wpAnyH_done (by kernel_rfl) ?_ _
      gi_wp2
      have hbW := lo_trans (Below.drew (Below.refl W.heap.size W)) hb6
      have hzW := hbW.size
      exact ⟨(keeps_below hbW).from _, KB2.of_below hbW (by omega) (by omega), lo_trans h1 hbW, h2.next hbW, h3.next hbW, h4.next hbW, h5.next hbW, Lib.hid (fun s hs => by
        rcases List.mem_append.1 hs with h | h
        · exact h6.out s h
        · rw [List.mem_singleton.1 h]; exact hlt'.out), by omega⟩
  case done =>
    rintro D zs W hD hzs ⟨h1, h2, h3, h4, h5, h6, h7⟩ hKD
    have hzs' := Lib.hid hzs
    clear hzs
    have s0 := h4.cell 0
    have s1 := h4.cell 1
    have s2 := h4.cell 2
    have s3 := h4.cell 3
    have f0 := h4.frozen 0
    have f1 := h4.frozen 1
    have f2 := h4.frozen 2
    have f3 := h4.frozen 3
    have k0 := h5.cell 0
    have k1 := h5.frozen 0
    gi_wp2
    obtain ⟨g1, g2, g3, g4, g5, g6⟩ := putSw_facts (x0 := .int .i64 0) (x1 := .int .i64 0) (x2 := .int .i64 0) (x3 := .int .i64 0) (y := .bool false) h4 h5 (by omega)
    have hKV := Eq.trans (g4 D (by omega) (by omega)) hKD
    have hBV := g5 h1 (by omega) (by omega)
    generalize hV : putSw W (p + 1 + 1) (p + 1 + 1 + 1) (.int .i64 0) (.int .i64 0) (.int .i64 0) (.int .i64 0) (.bool false) = V at g1 g2 hKV hBV
    unfold putSw at hV
    rw [hV]
    clear hV g3 g4 g5 g6
    have hB9 := hBV.trans (belowK_b (w := w) (Nat.le_refl _) _ D _ (.deferred none) (by omega) hKV rfl rfl)
    have q1 := g1.ownF (grownBy_putObj' _ D (.deferred none)) (fun r e => by cases e; exact ⟨_, hKV, rfl⟩)
    have q2 := g2.ownF (grownBy_putObj' _ D (.deferred none)) (fun r e => by cases e; exact ⟨_, hKV, rfl⟩)
    refine ⟨by simp, .inl ⟨_, _, rfl, run_takeDeferred hKV, ?_⟩⟩
    refine ⟨.tuple #[.agg #[.int .i64 0, .int .i64 0, .int .i64 0, .int .i64 0], .bool false], ?_, ?_⟩
    · have c0 := q1.cell 0
      have c1 := q1.cell 1
      have c2 := q1.cell 2
      have c3 := q1.cell 3
      have c4 := q2.cell 0
      simp [results, Tryz.results32, go_sem, c0, c1, c2, c3, c4]
    · exact ⟨hB9, .inr ⟨fun s hs => by
        rw [← hzs'.out] at hs
        obtain ⟨z, hz, rfl⟩ := List.mem_map.1 hs
        exact h6.out z hz, rfl⟩⟩
  case stop =>
    rintro D cc pre W hD _ ⟨rfl, h1, s, hs, hlt, g1, g2⟩ hKD
    have hs' := Lib.hid hs
    have hlt' := Lib.hid hlt
    clear hs hlt
    gi_wp2
    have hB9 := h1.trans (belowK_b (w := w) (Nat.le_refl _) _ D _ (.deferred none) (by omega) hKD rfl rfl)
    have q1 := g1.ownF (grownBy_putObj' _ D (.deferred none)) (fun r e => by cases e; exact ⟨_, hKD, rfl⟩)
    have q2 := g2.ownF (grownBy_putObj' _ D (.deferred none)) (fun r e => by cases e; exact ⟨_, hKD, rfl⟩)
    refine ⟨by simp, .inl ⟨_, _, rfl, run_takeDeferred hKD, ?_⟩⟩
    refine ⟨.tuple #[.agg #[.int .i64 (s.a : Int), .int .i64 (s.b : Int), .int .i64 (s.c : Int), .int .i64 (s.d : Int)], .bool true], ?_, ?_⟩
    · have c0 := q1.cell 0
      have c1 := q1.cell 1
      have c2 := q1.cell 2
      have c3 := q1.cell 3
      have c4 := q2.cell 0
      simp [results, Tryz.results32, go_sem, c0, c1, c2, c3, c4]
    · exact ⟨hB9, .inl ⟨s, hs'.out, hlt'.out, rfl⟩⟩
end Go.Proofs.YtkcdoacojiilaaaGreat
