/- Plain facts and walks that the law's proof uses; each says its own conditions. -/
import Derived.Test.YtpeiolimdglmhaaGreatDoorZ20
import Derived.Test.YtpeiolimdglmhaaGreatDoorZ22
import Derived.Deep.RegionHeld3
import Derived.Test.YtpeiolimdglmhaaGreatDoorZ23
-- Walks: tables of numbers: an empty one; the table of an image.
namespace Go.Proofs.YtpeiolimdglmhaaGreatDoor
open Go.RowKit Go.Shelf
attribute [local go_sem] Oper.semAt_some
set_option maxRecDepth 100000

/-- the cells of a table of which k rows are there, each in the block behind the one before -/
def tabC (g m h k : Nat) : Array Value := ((List.range h).map (fun i => if i < k then Value.slice (some ⟨g + 1 + i, 0, none⟩) m m else Value.slice none 0 0)).toArray
theorem tabC_size (g m h k : Nat) : (tabC g m h k).size = h := by simp [tabC]
theorem tabC_get {g m h k i : Nat} (hi : i < h) : (tabC g m h k)[i]? = some (if i < k then Value.slice (some ⟨g + 1 + i, 0, none⟩) m m else Value.slice none 0 0) := by
  simp [tabC, hi]
theorem tabC_zero (g m h : Nat) : tabC g m h 0 = madeCells #[Value.slice none 0 0] h := by
  apply Array.ext
  · simp [tabC, madeCells]
  · intro i h1 h2
    simp [tabC, madeCells, Nat.mod_one]
theorem tabC_set {g m h k : Nat} (hk : k < h) : (tabC g m h k).setIfInBounds k (.slice (some ⟨g + 1 + k, 0, none⟩) m m) = tabC g m h (k + 1) := by
  apply Array.ext_getElem?
  intro i
  rw [Array.getElem?_setIfInBounds]
  by_cases hi : k = i
  · subst hi
    rw [if_pos rfl, if_pos (by rw [tabC_size]; exact hk), tabC_get hk, if_pos (by omega)]
  · rw [if_neg hi]
    by_cases hlt : i < h
    · rw [tabC_get hlt, tabC_get hlt]
      by_cases h2 : i < k
      · rw [if_pos h2, if_pos (by omega)]
      · rw [if_neg h2, if_neg (by omega)]
    · rw [Array.getElem?_eq_none (by rw [tabC_size]; omega), Array.getElem?_eq_none (by rw [tabC_size]; omega)]
theorem infoSl : (Tryz.prog.info? 23).map (fun i => (i.zero, i.size, i.bytes)) = some (some (.slice none 0 0), 1, 24) := by kernel_rfl
theorem make_tab (n : Nat) (hn : n ≤ 1000000) : ∀ u : World, (Instr.makeSlice 76 (.int .i64 (n : Int)) (.int .i64 (n : Int))).run Tryz.prog u =
      .ok (.slice (some ⟨u.heap.size, 0, none⟩) n n) (u.alloc (.cells (madeCells #[.slice none 0 0] n) 23)) := fun u => by
  obtain ⟨i0, hi, hz0, hz1, hz2⟩ := info_parts infoSl
  have h := run_make (P := Tryz.prog) u 76 23 i0 (.slice none 0 0) Tryz.underlying76 hi hz0 .i64 .i64 (n : Int) (n : Int) (by omega) (Int.le_refl _) (by rw [hz2]; omega) (by omega)
  simpa [hz1, Value.cells] using h

/-- a table in memory: its rows lie in the blocks behind -/
def Tab (w : World) (g m h : Nat) (rows : Nat → List Int) : Prop :=
  Blk w g 23 (tabC g m h h) ∧ ∀ i, i < h → Blk w (g + 1 + i) 3 (ints (rows i)) ∧ (rows i).length = m

set_option maxHeartbeats 4000000 in
theorem emptyTable_c (h m : Nat) (w : World) (hh : h ≤ 1000) (hm : m ≤ 1000) :
    Calls Tryz.prog 94 #[.int .i64 (h : Int), .int .i64 (m : Int)] w fun e w' => e = .returned (.slice (some ⟨w.heap.size, 0, none⟩) h h) ∧ Tab w' w.heap.size m h (fun _ => List.replicate m 0) ∧ Below w.heap.size w w' ∧ w'.heap.size = w.heap.size + 1 + h := by
  have hmk := make_tab h (by omega)
  have hmr := make_row m (by omega)
  have hT0 : Blk (w.alloc (.cells (madeCells #[.slice none 0 0] h) 23)) w.heap.size 23 (tabC w.heap.size m h 0) := by rw [tabC_zero]; exact Blk.new _ _ _
  have hB0 := lo_alloc (Below.refl w.heap.size w) (.cells (madeCells #[.slice none 0 0] h) 23)
  have hz0 : (w.alloc (.cells (madeCells #[.slice none 0 0] h) 23)).heap.size = w.heap.size + 1 + 0 := by simp
  go_enter Tryz.func94, Tryz.ntmps94
  go_wp2
  generalize w.alloc (.cells (madeCells #[.slice none 0 0] h) 23) = w1 at hT0 hB0 hz0 ⊢
  clear hmk
  obtain ⟨g, hg⟩ : ∃ g, g = w.heap.size := ⟨_, rfl⟩
  rw [← hg] at hT0 hz0 ⊢
  have hg' := Lib.hid hg
  clear hg
  go_loopw [11] (fun i wr => ∃ k : Nat, k ≤ h ∧ i = .int .i64 k ∧ wr.heap.size = g + 1 + k ∧ Blk wr g 23 (tabC g m h k) ∧ (∀ i, i < k → Blk wr (g + 1 + i) 3 (ints (List.replicate m 0))) ∧ Below w.heap.size w wr) (fun i _ => h - (intOf i).toNat)
  case atStart => exact ⟨0, Nat.zero_le _, rfl, hz0, hT0, fun i hi => absurd hi (by omega), hB0⟩
  case round =>
    clear hT0 hB0 hz0
    obtain ⟨k, hk, rfl, hz, hT, hR, hL⟩ := hrel
    by_cases hlt : k < h
    · have c0 : wr.cell? ⟨g, k, none⟩ = some (.slice none 0 0) := by rw [hT.cell, tabC_get hlt, if_neg (by omega)]
      have f0 := hT.frozen k
      have hsz := Lib.hid hz
      have hgl := hT.lt
      have hs := Lib.hid (hT.set_ k (.slice (some ⟨g + 1 + k, 0, none⟩) m m))
      clear hz
      go_wp2
      have hgw := hg'.out
      have hz := hsz.out
      have hsz2 : (wr.setCell ⟨g, k, none⟩ (.slice (some ⟨g + 1 + k, 0, none⟩) m m)).heap.size = g + 1 + k := by rw [size_setCell, hz]
      rw [hz]
      refine ⟨⟨k + 1, by omega, by go_num, by rw [World.size_alloc, hsz2]; omega, ?_, fun i hi => ?_, lo_alloc (lo_set hL (by simp; omega) _) _⟩, by simp [intOf]; omega⟩
      · rw [← tabC_set hlt]
        exact hs.out.alloc _
      · by_cases hik : i < k
        · exact ((hR i hik).far (by simp; omega) _).alloc _
        · obtain rfl : i = k := by omega
          have := Blk.new (wr.setCell ⟨g, i, none⟩ (.slice (some ⟨g + 1 + i, 0, none⟩) m m)) 3 (madeCells #[.int .i64 0] m)
          rw [hsz2, made_ints] at this
          rw [made_ints]
          exact this
    · obtain rfl : k = h := by omega
      go_wp2
      go_ret
      have hg := hg'.out
      subst hg
      exact ⟨rfl, ⟨hT, fun i hi => ⟨hR i hi, by simp⟩⟩, hL, hz⟩

/-- the table of an image while its cells are gone through -/
def tabR (xs : List Int) {h m : Nat} (pre : List (Cell h m)) (i : Nat) : List Int := (List.range m).map (fun j => if pre.any (fun x => x.1.1 == i && x.1.2 == j) then ((b1 (cellF xs i j) : Nat) : Int) else 0)
def rowR (xs : List Int) (m i : Nat) : List Int := (List.range m).map (fun j => ((b1 (cellF xs i j) : Nat) : Int))
theorem tabR_len (xs : List Int) {h m : Nat} (pre : List (Cell h m)) (i : Nat) : (tabR xs pre i).length = m := by simp [tabR]
theorem tabR_nil (xs : List Int) (h m i : Nat) : tabR xs ([] : List (Cell h m)) i = List.replicate m 0 := by
  rw [tabR, List.eq_replicate_iff]
  refine ⟨by simp, fun x hx => ?_⟩
  obtain ⟨k, _, rfl⟩ := List.mem_map.1 hx
  rfl
theorem tabR_set (xs : List Int) {h m : Nat} (pre : List (Cell h m)) (x : Cell h m) : (tabR xs pre x.1.1).set x.1.2 ((b1 (cellF xs x.1.1 x.1.2) : Nat) : Int) = tabR xs (pre ++ [x]) x.1.1 := by
  apply List.ext_getElem?
  intro j
  rw [List.getElem?_set]
  by_cases hj : x.1.2 = j
  · rw [if_pos hj, if_pos (by rw [tabR_len]; exact x.2.2)]
    simp [tabR, ← hj, x.2.2]
  · rw [if_neg hj]
    by_cases hm : j < m
    · simp [tabR, hm, hj]
    · simp [tabR, hm]
theorem tabR_other (xs : List Int) {h m : Nat} (pre : List (Cell h m)) (x : Cell h m) {i : Nat} (hi : i ≠ x.1.1) : tabR xs (pre ++ [x]) i = tabR xs pre i := by
  have : (x.1.1 == i) = false := beq_eq_false_iff_ne.2 (fun e => hi e.symm)
  simp [tabR, this]
theorem upto_mem {h m : Nat} : ∀ (i j : Nat) (x : Cell h m), i < h → (x.1.1 < i ∨ x.1.1 = i ∧ x.1.2 < j) → x ∈ cUpto h m i j := by
  have row : ∀ (i j : Nat) (x : Cell h m), x.1.1 = i → x.1.2 < j → x ∈ cRow h m i j := by
    rintro i j ⟨⟨a, b⟩, ha, hb⟩ rfl hj
    exact List.mem_filterMap.2 ⟨b, List.mem_range.2 hj, by simp only; rw [dif_pos ⟨ha, hb⟩]⟩
  intro i
  induction i with
  | zero =>
    intro j x _ hx
    rcases hx with hx | hx
    · omega
    · exact row 0 j x hx.1 hx.2
  | succ i ih =>
    intro j x hi hx
    rw [cUpto, List.mem_append]
    rcases hx with hx | hx
    · refine .inl (ih m x (by omega) ?_)
      by_cases e : x.1.1 = i
      · exact .inr ⟨e, x.2.2⟩
      · exact .inl (by omega)
    · exact .inr (row (i + 1) j x hx.1 hx.2)
theorem upto_all {h m : Nat} (x : Cell h m) : x ∈ cUpto h m h 0 := by
  have hx := x.2.1
  cases h with
  | zero => omega
  | succ h =>
    rw [cUpto_next]
    refine upto_mem h m x (by omega) ?_
    by_cases e : x.1.1 = h
    · exact .inr ⟨e, x.2.2⟩
    · exact .inl (by omega)
theorem tabR_done (xs : List Int) {h m i : Nat} (hi : i < h) : tabR xs (cUpto h m h 0) i = rowR xs m i := by
  apply List.ext_getElem
  · simp [tabR, rowR]
  · intro j h1 h2
    have hj : j < m := by simpa [tabR] using h1
    have : (cUpto h m h 0).any (fun x => x.1.1 == i && x.1.2 == j) = true := List.any_eq_true.2 ⟨⟨(i, j), hi, hj⟩, upto_all _, by simp⟩
    simp only [tabR, rowR, List.getElem_map, List.getElem_range, this, if_true]
end Go.Proofs.YtpeiolimdglmhaaGreatDoor

-- Walks: is a valid image unique, the program's way (no switch is yielded).
namespace Go.Proofs.YtpeiolimdglmhaaGreatDoor
open Go.RowKit Go.Shelf
attribute [local go_sem] Oper.semAt_some
set_option maxRecDepth 100000

theorem uq_none {m : Nat} {xs : List Int} {pre : List (VSw m xs)} (h : pre.map (·.1) = swList m xs) (hp : pre = []) : decide (swList m xs = []) = true := by
  rw [← h, hp]; rfl
theorem uq_some {m : Nat} {xs : List Int} {s : Sw} (h : s ∈ swList m xs) : decide (swList m xs = []) = false := by
  refine decide_eq_false (fun e => ?_)
  rw [e] at h
  cases h

set_option maxHeartbeats 8000000 in
theorem unique_c (m n c : Nat) (A : Option Addr) (xs : List Int) (w : World) (hr : Rd w A n xs) (hx : okB (m : Int) xs = true) :
    Calls Tryz.prog 51 #[.agg #[.int .i64 m, .slice A n c]] w fun e w' => e = .returned (.bool (decide (swList m xs = []))) ∧ Below w.heap.size w w' := by
  have hbd := okB_bd hx
  rw [hr.1] at hbd
  have hx' := Lib.hid hx
  clear hx
  obtain ⟨bA, off, rfl, hbA, _⟩ := hr.2 (by omega)
  refine (callsIn_wide (n := 3)).1 ?_
  refine callsIn_of_wp_marks Tryz.func51 rfl trivial ?_ rfl
  simp only [Tryz.ntmps51, List.size_toArray, List.length_cons, List.length_nil, Nat.reduceAdd, Nat.reduceSub, Array.replicate_succ, Array.replicate_zero, List.push_toArray, List.append_toArray, List.nil_append, List.cons_append]
  have hA5 := (Blk.new w 25 #[.int .i64 (m : Int), .slice (some ⟨bA, off, none⟩) n c]).alloc (.cells #[.bool false] 4)
  have hK5 := heap_at2 w (.cells #[.int .i64 (m : Int), .slice (some ⟨bA, off, none⟩) n c] 25) 4 #[.bool false]
  have hL5 := lo_alloc (lo_alloc (Below.refl w.heap.size w) (.cells #[.int .i64 (m : Int), .slice (some ⟨bA, off, none⟩) n c] 25)) (.cells #[.bool false] 4)
  have a0 := hA5.cell 0
  have a1 := hA5.cell 1
  gi_wp2_with (refine ⟨trivial, ?_⟩; gi_at_call 93; refine (switches_in Fence.wide _ trivial rfl _ _ _).mono ?_; rintro e w3 ⟨rfl, rfl⟩)
  clear a0 a1
  have hz5 : ((w.alloc (.cells #[.int .i64 (m : Int), .slice (some ⟨bA, off, none⟩) n c] 25)).alloc (.cells #[.bool false] 4)).heap.size = w.heap.size + 1 + 1 := by simp
  generalize (w.alloc (.cells #[.int .i64 (m : Int), .slice (some ⟨bA, off, none⟩) n c] 25)).alloc (.cells #[.bool false] 4) = w5 at hA5 hK5 hL5 hz5 ⊢
  obtain ⟨p, hp⟩ : ∃ p, p = w.heap.size := ⟨_, rfl⟩
  rw [← hp] at hA5 hK5 hz5 ⊢
  have hbp : bA < p := by omega
  have hp1 : w.heap.size ≤ p := by omega
  have hp2 : p ≤ w.heap.size := by omega
  clear hp
  have hO := Blk.new w5 25 #[.int .i64 (m : Int), .slice (some ⟨bA, off, none⟩) n c]
  have hL6 := lo_alloc hL5 (.cells #[.int .i64 (m : Int), .slice (some ⟨bA, off, none⟩) n c] 25)
  have hA6 := hA5.alloc (.cells #[.int .i64 (m : Int), .slice (some ⟨bA, off, none⟩) n c] 25)
  have hK6 := hK5.alloc (.cells #[.int .i64 (m : Int), .slice (some ⟨bA, off, none⟩) n c] 25)
  have hsz : (w5.alloc (.cells #[.int .i64 (m : Int), .slice (some ⟨bA, off, none⟩) n c] 25)).heap.size = w5.heap.size + 1 := by simp
  rw [hz5] at hO hsz
  clear hA5 hK5 hL5 hz5
  generalize w5.alloc (.cells #[.int .i64 (m : Int), .slice (some ⟨bA, off, none⟩) n c] 25) = w6 at hO hL6 hA6 hK6 hsz ⊢
  obtain ⟨o, ho⟩ : ∃ o, o = p + 1 + 1 := ⟨_, rfl⟩
  rw [← ho] at hO hsz ⊢
  have hp5 : p + 1 + 1 ≤ o := by omega
  have hp6 : o ≤ p + 1 + 1 := by omega
  clear ho
  have hsz1 : w6.heap.size ≤ o + 1 := by omega
  have hsz2 : o + 1 ≤ w6.heap.size := by omega
  clear hsz
  refine wpIn_rangeFunc_ownH rfl (by omega) (gf := 129) (lb := #[.pointer (some ⟨o, 0, none⟩)]) rfl trivial (enters_of Tryz.func129 (by kernel_rfl) rfl)
    (switches_stops _ (by omega) o n m c bA off xs hx'.out w6 (hr.next hL6) (by omega) (by omega) hO) KB2.trans (KB2.put (by omega) (by omega)) (Below.refl _ _) (fun _ => rfl)
    (fun (pre : List (VSw m xs)) W => Below w.heap.size w W ∧ Blk W (p + 1) 4 #[.bool false] ∧ Hid (pre = []) ∧ w6.heap.size ≤ W.heap.size)
    (fun cc _ W => cc = .ret ∧ Below w.heap.size w W ∧ ∃ s : Sw, s ∈ swList m xs ∧ Blk W (p + 1) 4 #[.bool false])
    (OwnFrom.and (ownFrom_below (Nat.le_refl _) (by omega)) (OwnFrom.and (ownFrom_blk _ (by omega))
      (OwnFrom.and (fun _ _ _ _ hs _ _ => hs) (fun _ _ _ _ hs hg _ => Nat.le_trans hs hg.size))))
    (fun cc => fun pre X Y row ⟨h1, h2, s, h3, h4⟩ hg hr => ⟨h1, h2.grown hg h2.size (fun g e => by have := (hr g e).1; omega), s, h3, h4.ownF hg (fun r e => (hr r e).2)⟩)
    ⟨hL6, hK6, Lib.hid rfl, Nat.le_refl _⟩
    (fun x a' W => a' = { tmps := #[.agg #[.int .i64 (m : Int), .slice (some ⟨bA, off, none⟩) n c], .pointer (some ⟨p, 0, none⟩), .pointer (some ⟨p + 1, 0, none⟩),
        .agg #[.int .i64 (m : Int), .slice (some ⟨bA, off, none⟩) n c], .func (.func 129) #[] #[.pointer (some ⟨o, 0, none⟩)],
        .agg #[.int .i64 (x.1.a : Int), .int .i64 (x.1.b : Int), .int .i64 (x.1.c : Int), .int .i64 (x.1.d : Int)]], defers := [] })
    (fun x a' s X Y row h3 hg hr => h3) ?assign ?body ?done ?stop
  case assign =>
    rintro l pre x W K ⟨h1, h2, h3, h4⟩ hQ
    dsimp only [swEnc]
    gi_wp2
    exact hQ _ _ ((keeps_below (Below.refl _ _)).from _) (KB2.of_below (Below.refl _ _) (by omega) (by omega)) ⟨h1, h2, h3, h4⟩ (by simp)
  case body =>
    rintro l pre ⟨⟨sa, sb, sc, sd⟩, hs⟩ a' W hl _ ⟨h1, h2, h3, h4⟩ rfl hlen
    have hs' := Lib.hid hs
    have k0 := h2.cell 0
    have k1 := h2.frozen 0
    gi_wp2
    have h5 := h2.set_ 0 (.bool false)
    exact ⟨(keepsO_grown (grown_set (g := p + 1) (k := 0) _) (by rintro _ ⟨⟩; exact ⟨_, _, h2⟩)).from _, rfl, lo_set h1 (p := ⟨p + 1, 0, none⟩) (by simp; omega) _, _, hs'.out, h5⟩
  case done =>
    rintro D zs W hD hzs ⟨h1, h2, h3, h4⟩ hKD
    have hF := Lib.hid (uq_none hzs h3.out)
    clear hzs
    have k0 := h2.cell 0
    have k1 := h2.frozen 0
    gi_wp2
    have h5 : Blk (W.setCell ⟨p + 1, 0, none⟩ (.bool true)) (p + 1) 4 #[.bool true] := h2.set_ 0 (.bool true)
    have hKV := Eq.trans (Below.heap_setCell W ⟨p + 1, 0, none⟩ (.bool true) D (by simp; omega)) hKD
    have hBV := lo_set h1 (p := ⟨p + 1, 0, none⟩) (by simp; omega) (.bool true)
    generalize W.setCell ⟨p + 1, 0, none⟩ (.bool true) = V at h5 hKV hBV ⊢
    have hB9 := hBV.trans (belowK_b (w := w) (Nat.le_refl _) _ D _ (.deferred none) (by omega) hKV rfl rfl)
    have q1 := h5.ownF (grownBy_putObj' _ D (.deferred none)) (fun r e => by cases e; exact ⟨_, hKV, rfl⟩)
    refine ⟨by simp, .inl ⟨_, _, rfl, run_takeDeferred hKV, ?_⟩⟩
    refine ⟨.bool true, ?_, ret_bool hF.out.symm, hB9⟩
    have c0 := q1.cell 0
    simp [results, Tryz.results51, go_sem, c0]
  case stop =>
    rintro D cc pre W hD _ ⟨rfl, h1, s, hs, g1⟩ hKD
    have hF := Lib.hid (uq_some hs)
    clear hs
    gi_wp2
    have hB9 := h1.trans (belowK_b (w := w) (Nat.le_refl _) _ D _ (.deferred none) (by omega) hKD rfl rfl)
    have q1 := g1.ownF (grownBy_putObj' _ D (.deferred none)) (fun r e => by cases e; exact ⟨_, hKD, rfl⟩)
    refine ⟨by simp, .inl ⟨_, _, rfl, run_takeDeferred hKD, ?_⟩⟩
    refine ⟨.bool false, ?_, ret_bool hF.out.symm, hB9⟩
    have c0 := q1.cell 0
    simp [results, Tryz.results51, go_sem, c0]

set_option maxHeartbeats 4000000 in
theorem impl_ImageUnique_c (W : Int) (A : Option Addr) (n c : Nat) (xs : List Int) (w : World) (hr : Rd w A n xs) (hn : n ≤ 1073741824) :
    Calls Tryz.prog 19 #[.agg #[.int .i64 W, .slice A n c]] w fun e w' => e = .returned (.bool (uniqB W xs)) ∧ Below w.heap.size w w' := by
  cases hk : okB W xs with
  | false =>
    have hF := Lib.hid (show uniqB W xs = false by rw [uniqB, hk]; rfl)
    go_enter Tryz.func19, Tryz.ntmps19
    go_wp2_with fail
    refine (impl_ImageValid_c _ _ _ _ xs _ (hr.alloc _) (by omega)).mono ?_
    rw [hk]
    rintro e w1 ⟨rfl, hb1⟩
    go_wp2
    go_ret
    exact ⟨ret_bool hF.out.symm, by (repeat (first | exact Below.refl _ _ | assumption | refine lo_alloc ?_ _ | refine lo_set ?_ (by simp; try omega) _ | refine Below.drew ?_ | refine below_drewN ?_ _ | refine lo_trans ?_ (by assumption) | refine lo_wr ?_ (by assumption) (by omega)))⟩
  | true =>
    have hbd := okB_bd hk
    rw [hr.1] at hbd
    obtain ⟨m, rfl⟩ := Int.eq_ofNat_of_zero_le (show 0 ≤ W by omega)
    have hk' := Lib.hid hk
    have hF := Lib.hid (show uniqB (m : Int) xs = decide (swList m xs = []) by rw [uniqB, hk, Int.toNat_natCast]; rfl)
    go_enter Tryz.func19, Tryz.ntmps19
    go_wp2_with fail
    refine (impl_ImageValid_c _ _ _ _ xs _ (hr.alloc _) (by omega)).mono ?_
    rw [hk]
    rintro e w1 ⟨rfl, hb1⟩
    clear hk
    have hKa : Blk w1 w.heap.size _ _ := (Blk.new w 25 #[.int .i64 (m : Int), .slice A n c]).next hb1
    have hB1 : Below w.heap.size w w1 := by (repeat (first | exact Below.refl _ _ | assumption | refine lo_alloc ?_ _ | refine lo_set ?_ (by simp; try omega) _ | refine Below.drew ?_ | refine below_drewN ?_ _ | refine lo_trans ?_ (by assumption) | refine lo_wr ?_ (by assumption) (by omega)))
    clear hb1
    have a0 := hKa.cell 0
    have a1 := hKa.cell 1
    go_wp2_with fail
    refine (unique_c m n c A xs _ (hr.next hB1) hk'.out).mono ?_
    rintro e w2 ⟨rfl, hb2⟩
    go_wp2
    go_ret
    exact ⟨ret_bool hF.out.symm, lo_trans hB1 hb2⟩
end Go.Proofs.YtpeiolimdglmhaaGreatDoor
