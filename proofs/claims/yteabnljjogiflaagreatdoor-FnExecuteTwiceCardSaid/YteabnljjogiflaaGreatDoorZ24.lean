/- Plain facts and walks that the law's proof uses; each says its own conditions. -/
import Derived.Test.YteabnljjogiflaaGreatDoorZ20
import Derived.Test.YteabnljjogiflaaGreatDoorZ23
import Derived.Test.YteabnljjogiflaaGreatDoorZ10
import Derived.Test.YteabnljjogiflaaGreatDoorZ12
import Derived.Test.YteabnljjogiflaaGreatDoorZ22
import Derived.Test.YteabnljjogiflaaGreatDoorZ09
import Derived.Deep.RegionHeld3
import Derived.Test.YteabnljjogiflaaGreatDoorZ21
-- Plain mathematics: is an image unique; the sums of a row bit by bit.
namespace Go.Proofs.YteabnljjogiflaaGreatDoor

/-- an image is valid and has no switch -/
def uniqB (W : Int) (xs : List Int) : Bool := okB W xs && decide (swList W.toNat xs = [])
theorem bit_nat (r k : Nat) : r / 2 ^ k % 2 = if r.testBit k = true then 1 else 0 := by
  have h := div_bit r k
  generalize r / 2 ^ k % 2 = v at h ⊢
  cases hb : r.testBit k with
  | false => rw [hb] at h; simp [b01] at h ⊢; omega
  | true => rw [hb] at h; simp [b01] at h ⊢; omega
def popK (r k : Nat) : Nat := (List.range k).countP (fun j => r.testBit j)
theorem popK_step (r k : Nat) : popK r (k + 1) = popK r k + r / 2 ^ k % 2 := by
  rw [popK, popK, List.range_succ, List.countP_append, List.countP_singleton, bit_nat]
theorem popK_more {r m : Nat} (h : r < 2 ^ m) : ∀ d, popK r (m + d) = popK r m
  | 0 => rfl
  | d + 1 => by
    have h1 := popK_step r (m + d)
    have h2 : r / 2 ^ (m + d) = 0 := Nat.div_eq_of_lt (Nat.lt_of_lt_of_le h (Nat.pow_le_pow_right (by omega) (by omega)))
    rw [h2] at h1
    rw [← Nat.add_assoc, h1, popK_more h d, Nat.zero_mod, Nat.add_zero]
theorem popK_pop {r m : Nat} (h : r < 2 ^ m) (hm : m ≤ 6) : popK r m = pop r := by
  have := popK_more h (6 - m)
  rw [show m + (6 - m) = 6 by omega] at this
  rw [← this]
  rfl
/-- column k of the rows, the first i of them -/
def colK (xs : List Int) (k i : Nat) : Nat := ccnt (xs.take i) k
theorem colK_step {xs : List Int} {k i r : Nat} (hi : i < xs.length) (hx : xs[i]?.getD 0 = (r : Int)) : colK xs k (i + 1) = colK xs k i + r / 2 ^ k % 2 := by
  rw [List.getElem?_eq_getElem hi, Option.getD_some] at hx
  rw [colK, colK, List.take_succ_eq_append_getElem hi, ccnt, ccnt, List.countP_append, List.countP_singleton, hx, Int.toNat_natCast, bit_nat]
theorem colK_all (xs : List Int) (k : Nat) : colK xs k xs.length = ccnt xs k := by rw [colK, List.take_length]
theorem csum_step (k : Nat) (xs : List Int) : csum k xs ++ [((ccnt xs k : Nat) : Int)] = csum (k + 1) xs := by
  rw [csum, csum, List.range_succ, List.map_append]; rfl
theorem csum_len (k : Nat) (xs : List Int) : (csum k xs).length = k := by rw [csum, List.length_map, List.length_range]
theorem rsum_step' {xs : List Int} {k r : Nat} (hk : k < xs.length) (hx : xs[k]?.getD 0 = (r : Int)) : rsum (xs.take k) ++ [((pop r : Nat) : Int)] = rsum (xs.take (k + 1)) := by
  rw [List.getElem?_eq_getElem hk, Option.getD_some] at hx
  rw [rsum, rsum, List.take_succ_eq_append_getElem hk, List.map_append, hx]; rfl
theorem rsum_len (xs : List Int) : (rsum xs).length = xs.length := by rw [rsum, List.length_map]
end Go.Proofs.YteabnljjogiflaaGreatDoor

-- Plain mathematics: the weights of a unique image, place by place.
namespace Go.Proofs.YteabnljjogiflaaGreatDoor

/-- the place of a number in a list -/
def plc : List Int → Int → Nat
  | [], _ => 0
  | a :: l, x => if a = x then 0 else plc l x + 1
theorem plc_at : ∀ {l : List Int} {k : Nat} {x : Int}, l.Nodup → l[k]? = some x → plc l x = k
  | [], k, x, _, h => by simp at h
  | a :: l, 0, x, _, h => by simp at h; simp [plc, h]
  | a :: l, k + 1, x, hd, h => by
    rw [List.nodup_cons] at hd
    simp only [List.getElem?_cons_succ] at h
    have hne : a ≠ x := by rintro rfl; exact hd.1 (List.mem_of_getElem? h)
    simp [plc, hne, plc_at hd.2 h]
theorem plc_get : ∀ {l : List Int} {x : Int}, x ∈ l → l[plc l x]? = some x
  | a :: l, x, h => by
    by_cases e : a = x
    · simp [plc, e]
    · have h2 : x ∈ l := by
        rcases List.mem_cons.1 h with h | h
        · exact absurd h.symm e
        · exact h
      simp [plc, e, plc_get h2]
theorem plc_lt {l : List Int} {x : Int} (h : x ∈ l) : plc l x < l.length := by
  rcases Nat.lt_or_ge (plc l x) l.length with h1 | h1
  · exact h1
  · have := plc_get h
    rw [List.getElem?_eq_none h1] at this
    cases this
theorem ordL_nodup (L : List Int) : (ordL L).Nodup := by
  refine (ordL_perm L).symm.nodup ?_
  exact (iotaL_sorted _).imp (fun h => by omega)
theorem ordL_len (L : List Int) : (ordL L).length = L.length := by rw [(ordL_perm L).length_eq, iotaL_len]
theorem ordL_mem {L : List Int} {x : Int} : x ∈ ordL L ↔ 0 ≤ x ∧ x < L.length := by rw [(ordL_perm L).mem_iff, iotaL_mem]
theorem ordL_at {L : List Int} {k : Nat} (hk : k < L.length) : ∃ c : Nat, (ordL L)[k]?.getD 0 = (c : Int) ∧ c < L.length ∧ plc (ordL L) (c : Int) = k := by
  have hk2 : k < (ordL L).length := by rw [ordL_len]; exact hk
  have hm : (ordL L)[k] ∈ ordL L := List.getElem_mem hk2
  have h1 := ordL_mem.1 hm
  have e : ((ordL L)[k].toNat : Int) = (ordL L)[k] := by omega
  refine ⟨(ordL L)[k].toNat, by rw [List.getElem?_eq_getElem hk2, e]; rfl, by omega, ?_⟩
  rw [e]
  exact plc_at (ordL_nodup L) (List.getElem?_eq_getElem hk2)
theorem rsum_bd (xs : List Int) {k : Nat} (hk : k < xs.length) : 0 ≤ (rsum xs)[k]?.getD 0 ∧ (rsum xs)[k]?.getD 0 ≤ 6 := by
  rw [rsum, List.getElem?_map, List.getElem?_eq_getElem hk]
  simp only [Option.map_some, Option.getD_some]
  have : pop xs[k].toNat ≤ 6 := by
    have h := List.countP_le_length (p := fun j => xs[k].toNat.testBit j) (l := List.range 6)
    rw [List.length_range] at h
    exact h
  omega
theorem csum_bd {m : Nat} {xs : List Int} (hx : xs.length ≤ 6) : ∀ x ∈ csum m xs, 0 ≤ x ∧ x ≤ 6 := by
  intro x h
  obtain ⟨j, _, rfl⟩ := List.mem_map.1 h
  have := ccnt_le xs j
  omega
end Go.Proofs.YteabnljjogiflaaGreatDoor

-- Walks: slices of images compared, marked, held.
namespace Go.Proofs.YteabnljjogiflaaGreatDoor
open Go.RowKit
set_option maxRecDepth 100000

theorem Els.at_ {es : List El} {W : Int} {ys : List (List Int)} (h : Els es W ys) {k : Nat} {e : El} (he : es[k]? = some e) : e.W = W ∧ ys[k]? = some e.xs := by
  refine ⟨h.2 e (List.mem_of_getElem? he), ?_⟩
  rw [← h.1, List.getElem?_map, he]; rfl

end Go.Proofs.YteabnljjogiflaaGreatDoor

-- Walks: tables of numbers: an empty one; the table of an image.
namespace Go.Proofs.YteabnljjogiflaaGreatDoor
open Go.RowKit Go.Shelf
attribute [local go_sem] Oper.semAt_some
set_option maxRecDepth 100000

/-- the cells of a table of which k rows are there, each in the block behind the one before -/
def tabC (g m h k : Nat) : Array Value := ((List.range h).map (fun i => if i < k then Value.slice (some ⟨g + 1 + i, 0, none⟩) m m else Value.slice none 0 0)).toArray
theorem tabC_size (g m h k : Nat) : (tabC g m h k).size = h := by simp [tabC]
theorem tabC_get {g m h k i : Nat} (hi : i < h) : (tabC g m h k)[i]? = some (if i < k then Value.slice (some ⟨g + 1 + i, 0, none⟩) m m else Value.slice none 0 0) := by
  simp [tabC, hi]
theorem tabC_zero (g m h : Nat) : tabC g m h 0 = madeCells #[Value.slice none 0 0] h := by
  apply Array.ext
  · simp [tabC, madeCells]
  · intro i h1 h2
    simp [tabC, madeCells, Nat.mod_one]
theorem tabC_set {g m h k : Nat} (hk : k < h) : (tabC g m h k).setIfInBounds k (.slice (some ⟨g + 1 + k, 0, none⟩) m m) = tabC g m h (k + 1) := by
  apply Array.ext_getElem?
  intro i
  rw [Array.getElem?_setIfInBounds]
  by_cases hi : k = i
  · subst hi
    rw [if_pos rfl, if_pos (by rw [tabC_size]; exact hk), tabC_get hk, if_pos (by omega)]
  · rw [if_neg hi]
    by_cases hlt : i < h
    · rw [tabC_get hlt, tabC_get hlt]
      by_cases h2 : i < k
      · rw [if_pos h2, if_pos (by omega)]
      · rw [if_neg h2, if_neg (by omega)]
    · rw [Array.getElem?_eq_none (by rw [tabC_size]; omega), Array.getElem?_eq_none (by rw [tabC_size]; omega)]
theorem infoSl : (Tryz.prog.info? 27).map (fun i => (i.zero, i.size, i.bytes)) = some (some (.slice none 0 0), 1, 24) := by kernel_rfl
theorem make_tab (n : Nat) (hn : n ≤ 1000000) : ∀ u : World, (Instr.makeSlice 111 (.int .i64 (n : Int)) (.int .i64 (n : Int))).run Tryz.prog u =
      .ok (.slice (some ⟨u.heap.size, 0, none⟩) n n) (u.alloc (.cells (madeCells #[.slice none 0 0] n) 27)) := fun u => by
  obtain ⟨i0, hi, hz0, hz1, hz2⟩ := info_parts infoSl
  have h := run_make (P := Tryz.prog) u 111 27 i0 (.slice none 0 0) Tryz.underlying111 hi hz0 .i64 .i64 (n : Int) (n : Int) (by omega) (Int.le_refl _) (by rw [hz2]; omega) (by omega)
  simpa [hz1, Value.cells] using h

/-- a table in memory: its rows lie in the blocks behind -/
def Tab (w : World) (g m h : Nat) (rows : Nat → List Int) : Prop :=
  Blk w g 27 (tabC g m h h) ∧ ∀ i, i < h → Blk w (g + 1 + i) 3 (ints (rows i)) ∧ (rows i).length = m

set_option maxHeartbeats 4000000 in
theorem emptyTable_c (h m : Nat) (w : World) (hh : h ≤ 1000) (hm : m ≤ 1000) :
    Calls Tryz.prog 146 #[.int .i64 (h : Int), .int .i64 (m : Int)] w fun e w' => e = .returned (.slice (some ⟨w.heap.size, 0, none⟩) h h) ∧ Tab w' w.heap.size m h (fun _ => List.replicate m 0) ∧ Below w.heap.size w w' ∧ w'.heap.size = w.heap.size + 1 + h := by
  have hmk := make_tab h (by omega)
  have hmr := make_row m (by omega)
  have hT0 : Blk (w.alloc (.cells (madeCells #[.slice none 0 0] h) 27)) w.heap.size 27 (tabC w.heap.size m h 0) := by rw [tabC_zero]; exact Blk.new _ _ _
  have hB0 := lo_alloc (Below.refl w.heap.size w) (.cells (madeCells #[.slice none 0 0] h) 27)
  have hz0 : (w.alloc (.cells (madeCells #[.slice none 0 0] h) 27)).heap.size = w.heap.size + 1 + 0 := by simp
  go_enter Tryz.func146, Tryz.ntmps146
  go_wp2
  generalize w.alloc (.cells (madeCells #[.slice none 0 0] h) 27) = w1 at hT0 hB0 hz0 ⊢
  clear hmk
  obtain ⟨g, hg⟩ : ∃ g, g = w.heap.size := ⟨_, rfl⟩
  rw [← hg] at hT0 hz0 ⊢
  have hg' := Lib.hid hg
  clear hg
  go_loopw [11] (fun i wr => ∃ k : Nat, k ≤ h ∧ i = .int .i64 k ∧ wr.heap.size = g + 1 + k ∧ Blk wr g 27 (tabC g m h k) ∧ (∀ i, i < k → Blk wr (g + 1 + i) 3 (ints (List.replicate m 0))) ∧ Below w.heap.size w wr) (fun i _ => h - (intOf i).toNat)
  case atStart => exact ⟨0, Nat.zero_le _, rfl, hz0, hT0, fun i hi => absurd hi (by omega), hB0⟩
  case round =>
    clear hT0 hB0 hz0
    obtain ⟨k, hk, rfl, hz, hT, hR, hL⟩ := hrel
    by_cases hlt : k < h
    · have c0 : wr.cell? ⟨g, k, none⟩ = some (.slice none 0 0) := by rw [hT.cell, tabC_get hlt, if_neg (by omega)]
      have f0 := hT.frozen k
      have hsz := Lib.hid hz
      have hgl := hT.lt
      have hs := Lib.hid (hT.set_ k (.slice (some ⟨g + 1 + k, 0, none⟩) m m))
      clear hz
      go_wp2
      have hgw := hg'.out
      have hz := hsz.out
      have hsz2 : (wr.setCell ⟨g, k, none⟩ (.slice (some ⟨g + 1 + k, 0, none⟩) m m)).heap.size = g + 1 + k := by rw [size_setCell, hz]
      rw [hz]
      refine ⟨⟨k + 1, by omega, by go_num, by rw [World.size_alloc, hsz2]; omega, ?_, fun i hi => ?_, lo_alloc (lo_set hL (by simp; omega) _) _⟩, by simp [intOf]; omega⟩
      · rw [← tabC_set hlt]
        exact hs.out.alloc _
      · by_cases hik : i < k
        · exact ((hR i hik).far (by simp; omega) _).alloc _
        · obtain rfl : i = k := by omega
          have := Blk.new (wr.setCell ⟨g, i, none⟩ (.slice (some ⟨g + 1 + i, 0, none⟩) m m)) 3 (madeCells #[.int .i64 0] m)
          rw [hsz2, made_ints] at this
          rw [made_ints]
          exact this
    · obtain rfl : k = h := by omega
      go_wp2
      go_ret
      have hg := hg'.out
      subst hg
      exact ⟨rfl, ⟨hT, fun i hi => ⟨hR i hi, by simp⟩⟩, hL, hz⟩

/-- the table of an image while its cells are gone through -/
def tabR (xs : List Int) {h m : Nat} (pre : List (Cell h m)) (i : Nat) : List Int := (List.range m).map (fun j => if pre.any (fun x => x.1.1 == i && x.1.2 == j) then ((b1 (cellF xs i j) : Nat) : Int) else 0)
def rowR (xs : List Int) (m i : Nat) : List Int := (List.range m).map (fun j => ((b1 (cellF xs i j) : Nat) : Int))
theorem tabR_len (xs : List Int) {h m : Nat} (pre : List (Cell h m)) (i : Nat) : (tabR xs pre i).length = m := by simp [tabR]
theorem tabR_nil (xs : List Int) (h m i : Nat) : tabR xs ([] : List (Cell h m)) i = List.replicate m 0 := by
  rw [tabR, List.eq_replicate_iff]
  refine ⟨by simp, fun x hx => ?_⟩
  obtain ⟨k, _, rfl⟩ := List.mem_map.1 hx
  rfl
theorem tabR_set (xs : List Int) {h m : Nat} (pre : List (Cell h m)) (x : Cell h m) : (tabR xs pre x.1.1).set x.1.2 ((b1 (cellF xs x.1.1 x.1.2) : Nat) : Int) = tabR xs (pre ++ [x]) x.1.1 := by
  apply List.ext_getElem?
  intro j
  rw [List.getElem?_set]
  by_cases hj : x.1.2 = j
  · rw [if_pos hj, if_pos (by rw [tabR_len]; exact x.2.2)]
    simp [tabR, ← hj, x.2.2]
  · rw [if_neg hj]
    by_cases hm : j < m
    · simp [tabR, hm, hj]
    · simp [tabR, hm]
theorem tabR_other (xs : List Int) {h m : Nat} (pre : List (Cell h m)) (x : Cell h m) {i : Nat} (hi : i ≠ x.1.1) : tabR xs (pre ++ [x]) i = tabR xs pre i := by
  have : (x.1.1 == i) = false := beq_eq_false_iff_ne.2 (fun e => hi e.symm)
  simp [tabR, this]
theorem upto_mem {h m : Nat} : ∀ (i j : Nat) (x : Cell h m), i < h → (x.1.1 < i ∨ x.1.1 = i ∧ x.1.2 < j) → x ∈ cUpto h m i j := by
  have row : ∀ (i j : Nat) (x : Cell h m), x.1.1 = i → x.1.2 < j → x ∈ cRow h m i j := by
    rintro i j ⟨⟨a, b⟩, ha, hb⟩ rfl hj
    exact List.mem_filterMap.2 ⟨b, List.mem_range.2 hj, by simp only; rw [dif_pos ⟨ha, hb⟩]⟩
  intro i
  induction i with
  | zero =>
    intro j x _ hx
    rcases hx with hx | hx
    · omega
    · exact row 0 j x hx.1 hx.2
  | succ i ih =>
    intro j x hi hx
    rw [cUpto, List.mem_append]
    rcases hx with hx | hx
    · refine .inl (ih m x (by omega) ?_)
      by_cases e : x.1.1 = i
      · exact .inr ⟨e, x.2.2⟩
      · exact .inl (by omega)
    · exact .inr (row (i + 1) j x hx.1 hx.2)
theorem upto_all {h m : Nat} (x : Cell h m) : x ∈ cUpto h m h 0 := by
  have hx := x.2.1
  cases h with
  | zero => omega
  | succ h =>
    rw [cUpto_next]
    refine upto_mem h m x (by omega) ?_
    by_cases e : x.1.1 = h
    · exact .inr ⟨e, x.2.2⟩
    · exact .inl (by omega)
theorem tabR_done (xs : List Int) {h m i : Nat} (hi : i < h) : tabR xs (cUpto h m h 0) i = rowR xs m i := by
  apply List.ext_getElem
  · simp [tabR, rowR]
  · intro j h1 h2
    have hj : j < m := by simpa [tabR] using h1
    have : (cUpto h m h 0).any (fun x => x.1.1 == i && x.1.2 == j) = true := List.any_eq_true.2 ⟨⟨(i, j), hi, hj⟩, upto_all _, by simp⟩
    simp only [tabR, rowR, List.getElem_map, List.getElem_range, this, if_true]
end Go.Proofs.YteabnljjogiflaaGreatDoor

-- Walks: is a valid image unique, the program's way (no switch is yielded).
namespace Go.Proofs.YteabnljjogiflaaGreatDoor
open Go.RowKit Go.Shelf
attribute [local go_sem] Oper.semAt_some
set_option maxRecDepth 100000

theorem uq_none {m : Nat} {xs : List Int} {pre : List (VSw m xs)} (h : pre.map (·.1) = swList m xs) (hp : pre = []) : decide (swList m xs = []) = true := by
  rw [← h, hp]; rfl
theorem uq_some {m : Nat} {xs : List Int} {s : Sw} (h : s ∈ swList m xs) : decide (swList m xs = []) = false := by
  refine decide_eq_false (fun e => ?_)
  rw [e] at h
  cases h

set_option maxHeartbeats 8000000 in
theorem unique_c (m n c : Nat) (A : Option Addr) (xs : List Int) (w : World) (hr : Rd w A n xs) (hx : okB (m : Int) xs = true) :
    Calls Tryz.prog 105 #[.agg #[.int .i64 m, .slice A n c]] w fun e w' => e = .returned (.bool (decide (swList m xs = []))) ∧ Below w.heap.size w w' := by
  have hbd := okB_bd hx
  rw [hr.1] at hbd
  have hx' := Lib.hid hx
  clear hx
  obtain ⟨bA, off, rfl, hbA, _⟩ := hr.2 (by omega)
  refine (callsIn_wide (n := 3)).1 ?_
  refine callsIn_of_wp_marks Tryz.func105 rfl trivial ?_ rfl
  simp only [Tryz.ntmps105, List.size_toArray, List.length_cons, List.length_nil, Nat.reduceAdd, Nat.reduceSub, Array.replicate_succ, Array.replicate_zero, List.push_toArray, List.append_toArray, List.nil_append, List.cons_append]
  have hA5 := (Blk.new w 29 #[.int .i64 (m : Int), .slice (some ⟨bA, off, none⟩) n c]).alloc (.cells #[.bool false] 4)
  have hK5 := heap_at2 w (.cells #[.int .i64 (m : Int), .slice (some ⟨bA, off, none⟩) n c] 29) 4 #[.bool false]
  have hL5 := lo_alloc (lo_alloc (Below.refl w.heap.size w) (.cells #[.int .i64 (m : Int), .slice (some ⟨bA, off, none⟩) n c] 29)) (.cells #[.bool false] 4)
  have a0 := hA5.cell 0
  have a1 := hA5.cell 1
  gi_wp2_with (refine ⟨trivial, ?_⟩; gi_at_call 145; refine (switches_in Fence.wide _ trivial rfl _ _ _).mono ?_; rintro e w3 ⟨rfl, rfl⟩)
  clear a0 a1
  have hz5 : ((w.alloc (.cells #[.int .i64 (m : Int), .slice (some ⟨bA, off, none⟩) n c] 29)).alloc (.cells #[.bool false] 4)).heap.size = w.heap.size + 1 + 1 := by simp
  generalize (w.alloc (.cells #[.int .i64 (m : Int), .slice (some ⟨bA, off, none⟩) n c] 29)).alloc (.cells #[.bool false] 4) = w5 at hA5 hK5 hL5 hz5 ⊢
  obtain ⟨p, hp⟩ : ∃ p, p = w.heap.size := ⟨_, rfl⟩
  rw [← hp] at hA5 hK5 hz5 ⊢
  have hbp : bA < p := by omega
  have hp1 : w.heap.size ≤ p := by omega
  have hp2 : p ≤ w.heap.size := by omega
  clear hp
  have hO := Blk.new w5 29 #[.int .i64 (m : Int), .slice (some ⟨bA, off, none⟩) n c]
  have hL6 := lo_alloc hL5 (.cells #[.int .i64 (m : Int), .slice (some ⟨bA, off, none⟩) n c] 29)
  have hA6 := hA5.alloc (.cells #[.int .i64 (m : Int), .slice (some ⟨bA, off, none⟩) n c] 29)
  have hK6 := hK5.alloc (.cells #[.int .i64 (m : Int), .slice (some ⟨bA, off, none⟩) n c] 29)
  have hsz : (w5.alloc (.cells #[.int .i64 (m : Int), .slice (some ⟨bA, off, none⟩) n c] 29)).heap.size = w5.heap.size + 1 := by simp
  rw [hz5] at hO hsz
  clear hA5 hK5 hL5 hz5
  generalize w5.alloc (.cells #[.int .i64 (m : Int), .slice (some ⟨bA, off, none⟩) n c] 29) = w6 at hO hL6 hA6 hK6 hsz ⊢
  obtain ⟨o, ho⟩ : ∃ o, o = p + 1 + 1 := ⟨_, rfl⟩
  rw [← ho] at hO hsz ⊢
  have hp5 : p + 1 + 1 ≤ o := by omega
  have hp6 : o ≤ p + 1 + 1 := by omega
  clear ho
  have hsz1 : w6.heap.size ≤ o + 1 := by omega
  have hsz2 : o + 1 ≤ w6.heap.size := by omega
  clear hsz
  refine wpIn_rangeFunc_ownH rfl (by omega) (gf := 184) (lb := #[.pointer (some ⟨o, 0, none⟩)]) rfl trivial (enters_of Tryz.func184 (by kernel_rfl) rfl)
    (switches_stops _ (by omega) o n m c bA off xs hx'.out w6 (hr.next hL6) (by omega) (by omega) hO) KB2.trans (KB2.put (by omega) (by omega)) (Below.refl _ _) (fun _ => rfl)
    (fun (pre : List (VSw m xs)) W => Below w.heap.size w W ∧ Blk W (p + 1) 4 #[.bool false] ∧ Hid (pre = []) ∧ w6.heap.size ≤ W.heap.size)
    (fun cc _ W => cc = .ret ∧ Below w.heap.size w W ∧ ∃ s : Sw, s ∈ swList m xs ∧ Blk W (p + 1) 4 #[.bool false])
    (OwnFrom.and (ownFrom_below (Nat.le_refl _) (by omega)) (OwnFrom.and (ownFrom_blk _ (by omega))
      (OwnFrom.and (fun _ _ _ _ hs _ _ => hs) (fun _ _ _ _ hs hg _ => Nat.le_trans hs hg.size))))
    (fun cc => fun pre X Y row ⟨h1, h2, s, h3, h4⟩ hg hr => ⟨h1, h2.grown hg h2.size (fun g e => by have := (hr g e).1; omega), s, h3, h4.ownF hg (fun r e => (hr r e).2)⟩)
    ⟨hL6, hK6, Lib.hid rfl, Nat.le_refl _⟩
    (fun x a' W => a' = { tmps := #[.agg #[.int .i64 (m : Int), .slice (some ⟨bA, off, none⟩) n c], .pointer (some ⟨p, 0, none⟩), .pointer (some ⟨p + 1, 0, none⟩),
        .agg #[.int .i64 (m : Int), .slice (some ⟨bA, off, none⟩) n c], .func (.func 184) #[] #[.pointer (some ⟨o, 0, none⟩)],
        .agg #[.int .i64 (x.1.a : Int), .int .i64 (x.1.b : Int), .int .i64 (x.1.c : Int), .int .i64 (x.1.d : Int)]], defers := [] })
    (fun x a' s X Y row h3 hg hr => h3) ?assign ?body ?done ?stop
  case assign =>
    rintro l pre x W K ⟨h1, h2, h3, h4⟩ hQ
    dsimp only [swEnc]
    gi_wp2
    exact hQ _ _ ((keeps_below (Below.refl _ _)).from _) (KB2.of_below (Below.refl _ _) (by omega) (by omega)) ⟨h1, h2, h3, h4⟩ (by simp)
  case body =>
    rintro l pre ⟨⟨sa, sb, sc, sd⟩, hs⟩ a' W hl _ ⟨h1, h2, h3, h4⟩ rfl hlen
    have hs' := Lib.hid hs
    have k0 := h2.cell 0
    have k1 := h2.frozen 0
    gi_wp2
    have h5 := h2.set_ 0 (.bool false)
    exact ⟨(keepsO_grown (grown_set (g := p + 1) (k := 0) _) (by rintro _ ⟨⟩; exact ⟨_, _, h2⟩)).from _, rfl, lo_set h1 (p := ⟨p + 1, 0, none⟩) (by simp; omega) _, _, hs'.out, h5⟩
  case done =>
    rintro D zs W hD hzs ⟨h1, h2, h3, h4⟩ hKD
    have hF := Lib.hid (uq_none hzs h3.out)
    clear hzs
    have k0 := h2.cell 0
    have k1 := h2.frozen 0
    gi_wp2
    have h5 : Blk (W.setCell ⟨p + 1, 0, none⟩ (.bool true)) (p + 1) 4 #[.bool true] := h2.set_ 0 (.bool true)
    have hKV := Eq.trans (Below.heap_setCell W ⟨p + 1, 0, none⟩ (.bool true) D (by simp; omega)) hKD
    have hBV := lo_set h1 (p := ⟨p + 1, 0, none⟩) (by simp; omega) (.bool true)
    generalize W.setCell ⟨p + 1, 0, none⟩ (.bool true) = V at h5 hKV hBV ⊢
    have hB9 := hBV.trans (belowK_b (w := w) (Nat.le_refl _) _ D _ (.deferred none) (by omega) hKV rfl rfl)
    have q1 := h5.ownF (grownBy_putObj' _ D (.deferred none)) (fun r e => by cases e; exact ⟨_, hKV, rfl⟩)
    refine ⟨by simp, .inl ⟨_, _, rfl, run_takeDeferred hKV, ?_⟩⟩
    refine ⟨.bool true, ?_, ret_bool hF.out.symm, hB9⟩
    have c0 := q1.cell 0
    simp [results, Tryz.results105, go_sem, c0]
  case stop =>
    rintro D cc pre W hD _ ⟨rfl, h1, s, hs, g1⟩ hKD
    have hF := Lib.hid (uq_some hs)
    clear hs
    gi_wp2
    have hB9 := h1.trans (belowK_b (w := w) (Nat.le_refl _) _ D _ (.deferred none) (by omega) hKD rfl rfl)
    have q1 := g1.ownF (grownBy_putObj' _ D (.deferred none)) (fun r e => by cases e; exact ⟨_, hKD, rfl⟩)
    refine ⟨by simp, .inl ⟨_, _, rfl, run_takeDeferred hKD, ?_⟩⟩
    refine ⟨.bool false, ?_, ret_bool hF.out.symm, hB9⟩
    have c0 := q1.cell 0
    simp [results, Tryz.results105, go_sem, c0]

set_option maxHeartbeats 4000000 in
theorem impl_ImageUnique_c (W : Int) (A : Option Addr) (n c : Nat) (xs : List Int) (w : World) (hr : Rd w A n xs) (hn : n ≤ 1073741824) :
    Calls Tryz.prog 59 #[.agg #[.int .i64 W, .slice A n c]] w fun e w' => e = .returned (.bool (uniqB W xs)) ∧ Below w.heap.size w w' := by
  cases hk : okB W xs with
  | false =>
    have hF := Lib.hid (show uniqB W xs = false by rw [uniqB, hk]; rfl)
    go_enter Tryz.func59, Tryz.ntmps59
    go_wp2_with fail
    refine (impl_ImageValid_c _ _ _ _ xs _ (hr.alloc _) (by omega)).mono ?_
    rw [hk]
    rintro e w1 ⟨rfl, hb1⟩
    go_wp2
    go_ret
    exact ⟨ret_bool hF.out.symm, by (repeat (first | exact Below.refl _ _ | assumption | refine lo_alloc ?_ _ | refine lo_set ?_ (by simp; try omega) _ | refine Below.drew ?_ | refine below_drewN ?_ _ | refine lo_trans ?_ (by assumption) | refine lo_wr ?_ (by assumption) (by omega)))⟩
  | true =>
    have hbd := okB_bd hk
    rw [hr.1] at hbd
    obtain ⟨m, rfl⟩ := Int.eq_ofNat_of_zero_le (show 0 ≤ W by omega)
    have hk' := Lib.hid hk
    have hF := Lib.hid (show uniqB (m : Int) xs = decide (swList m xs = []) by rw [uniqB, hk, Int.toNat_natCast]; rfl)
    go_enter Tryz.func59, Tryz.ntmps59
    go_wp2_with fail
    refine (impl_ImageValid_c _ _ _ _ xs _ (hr.alloc _) (by omega)).mono ?_
    rw [hk]
    rintro e w1 ⟨rfl, hb1⟩
    clear hk
    have hKa : Blk w1 w.heap.size _ _ := (Blk.new w 29 #[.int .i64 (m : Int), .slice A n c]).next hb1
    have hB1 : Below w.heap.size w w1 := by (repeat (first | exact Below.refl _ _ | assumption | refine lo_alloc ?_ _ | refine lo_set ?_ (by simp; try omega) _ | refine Below.drew ?_ | refine below_drewN ?_ _ | refine lo_trans ?_ (by assumption) | refine lo_wr ?_ (by assumption) (by omega)))
    clear hb1
    have a0 := hKa.cell 0
    have a1 := hKa.cell 1
    go_wp2_with fail
    refine (unique_c m n c A xs _ (hr.next hB1) hk'.out).mono ?_
    rintro e w2 ⟨rfl, hb2⟩
    go_wp2
    go_ret
    exact ⟨ret_bool hF.out.symm, lo_trans hB1 hb2⟩
end Go.Proofs.YteabnljjogiflaaGreatDoor

-- Walks: the sums of a valid image and its uniqueness, the reference's functions, exactly.
namespace Go.Proofs.YteabnljjogiflaaGreatDoor
open Go.RowKit
set_option maxRecDepth 100000

theorem Buf.leR {w : World} {base c n : Nat} {A : Option Addr} {xs : List Int} (h : Buf w base A c xs) (hn : xs.length = n) : n ≤ c := by
  rcases h.2 with ⟨hv, hz⟩ | ⟨g, cap, cur, hv, _, _, h3, _⟩
  · omega
  · injection hv with _ _ e
    subst e
    omega
theorem Buf.monoL {w : World} {lo lo' c : Nat} {A : Option Addr} {xs : List Int} (h : Buf w lo A c xs) (hl : lo' ≤ lo) : Buf w lo' A c xs := by
  refine ⟨h.1, ?_⟩
  rcases h.2 with h1 | ⟨g', cap, cur, hv, hb, hr⟩
  · exact .inl h1
  · exact .inr ⟨g', cap, cur, hv, Nat.le_trans hl hb, hr⟩

set_option maxHeartbeats 2000000 in
theorem l2Row_x (A : Option Addr) (n c m i r : Nat) (xs : List Int) (w : World) (hr : Rd w A n xs) (hi : i < n) (hm : m ≤ 6) (hx : xs[i]?.getD 0 = (r : Int)) (hr2 : r < 2 ^ m) :
    Calls Tryz.prog 122 #[.agg #[.int .i64 m, .slice A n c], .int .i64 i] w fun e w' => e = .returned (.int .i64 ((pop r : Nat) : Int)) ∧ Below w.heap.size w w' := by
  have hr64 : r < 64 := by have := pow_le64 (j := m) (by omega); omega
  have hE := Lib.hid (popK_pop hr2 hm)
  have hR2 := hr.alloc (.cells #[.int .i64 m, .slice A n c] 29)
  obtain ⟨b, off, rfl, hb, hc⟩ := hR2.at_ hi
  rw [hx] at hc
  clear hR2 hx hr2
  go_enter Tryz.func122, Tryz.ntmps122
  have hK := Blk.new w 29 #[.int .i64 m, .slice (some ⟨b, off, none⟩) n c]
  go_wp2
  go_loop [5, 6] (fun s j => ∃ k t : Nat, k ≤ m ∧ t ≤ k ∧ Hid (t = popK r k) ∧ j = .int .i64 k ∧ s = .int .i64 t) (fun _ j => m - (intOf j).toNat)
  case atStart => exact ⟨0, 0, by omega, by omega, Lib.hid rfl, rfl, rfl⟩
  case round =>
    obtain ⟨k, t, hk, htk, ht, rfl, rfl⟩ := hrel
    have c0 := hK.cell 0
    have c1 := hK.cell 1
    by_cases hlt : k < m
    · go_wp2_with fail
      refine (l1Bit_c r k _ (by omega) (by omega)).mono ?_
      rintro e w' ⟨rfl, rfl⟩
      have h2 : r / 2 ^ k % 2 < 2 := Nat.mod_lt _ (by omega)
      have ht2 := Lib.hid (popK_step r k)
      rw [← ht.out] at ht2
      generalize r / 2 ^ k % 2 = v at h2 ht2 ⊢
      go_wp2
      go_round
      case rel => exact ⟨k + 1, t + v, by omega, by omega, Lib.hid ht2.out.symm, by go_num, by go_num⟩
      case measure => simp [intOf]; omega
    · obtain rfl : k = m := by omega
      have hF := Lib.hid (show ((t : Nat) : Int) = ((pop r : Nat) : Int) by rw [ht.out, hE.out])
      go_wp2
      go_ret
      exact ⟨ret_int hF.out, by (repeat (first | exact Below.refl _ _ | assumption | refine lo_alloc ?_ _ | refine lo_set ?_ (by simp; try omega) _ | refine Below.drew ?_ | refine below_drewN ?_ _ | refine lo_trans ?_ (by assumption) | refine lo_wr ?_ (by assumption) (by omega)))⟩

set_option maxHeartbeats 4000000 in
theorem spec_RowSums_z (A : Option Addr) (h c m : Nat) (xs : List Int) (w : World) (hr : Rd w A h xs) (hk : okB (m : Int) xs = true) :
    Calls Tryz.prog 79 #[.agg #[.int .i64 m, .slice A h c]] w fun e w' => ∃ (R : Option Addr) (d : Nat), e = .returned (.slice R h d) ∧ Own w' w.heap.size R h (rsum xs) ∧ h ≤ d ∧ Below w.heap.size w w' := by
  have hbd := okB_bd hk
  rw [hr.1] at hbd
  have hxl := Lib.hid hr.1
  have hk' := Lib.hid hk
  clear hk
  go_enter Tryz.func79, Tryz.ntmps79
  have hK0 : Blk ((w.alloc (.cells #[.int .i64 m, .slice A h c] 29)).alloc (.cells #[] 3)) w.heap.size 29 #[.int .i64 m, .slice A h c] := (Blk.new w 29 #[.int .i64 m, .slice A h c]).alloc _
  have hB0 : Buf ((w.alloc (.cells #[.int .i64 m, .slice A h c] 29)).alloc (.cells #[] 3)) (w.heap.size + 1) (some ⟨w.heap.size + 1, 0, none⟩) 0 (rsum (xs.take 0)) :=
    ⟨rfl, .inr ⟨w.heap.size + 1, 0, #[], rfl, Nat.le_refl _, heap_at2 w _ 3 #[], Nat.le_refl _, Nat.zero_le _, rfl, rfl⟩⟩
  have hL0 : Below w.heap.size w ((w.alloc (.cells #[.int .i64 m, .slice A h c] 29)).alloc (.cells #[] 3)) := lo_alloc (lo_alloc (Below.refl _ _) _) _
  go_wp2
  go_loopw [3, 4] (fun v i wr => ∃ (k : Nat) (R : Option Addr) (d : Nat), k ≤ h ∧ i = .int .i64 k ∧ v = .slice R k d ∧ Buf wr (w.heap.size + 1) R d (rsum (xs.take k)) ∧
      Below w.heap.size w wr ∧ Blk wr w.heap.size 29 #[.int .i64 m, .slice A h c]) (fun _ i _ => h - (intOf i).toNat)
  case atStart => exact ⟨0, _, 0, Nat.zero_le _, rfl, rfl, hB0, hL0, hK0⟩
  case round =>
    clear hB0 hL0 hK0
    obtain ⟨k, R, d, hk, rfl, rfl, hB, hL, hK⟩ := hrel
    have hyl' : Hid ((rsum (xs.take k)).length = k) := Lib.hid (by rw [rsum_len, List.length_take, hxl.out]; omega)
    have hzr := hK.lt
    have c0 := hK.cell 0
    have c1 := hK.cell 1
    by_cases hlt : k < h
    · obtain ⟨r, hxr, hr2⟩ := okB_row hk'.out rfl (k := k) (by rw [hxl.out]; exact hlt)
      have hS := Lib.hid (rsum_step' (by rw [hxl.out]; exact hlt) hxr)
      have hxr' := Lib.hid hxr
      clear hxr
      go_wp2_with fail
      refine (spec_ImageValid_c _ _ _ _ xs _ (hr.next hL) (by omega)).mono ?_
      rw [hk'.out]
      rintro e w1 ⟨rfl, hb1⟩
      have hK1 := hK.next hb1
      clear c0 c1
      have c0 := hK1.cell 0
      have c1 := hK1.cell 1
      have hs1 := hb1.size
      go_wp2_with fail
      refine (l2Row_x _ _ _ _ _ r xs _ (hr.next (lo_trans hL hb1)) hlt (by omega) hxr'.out hr2).mono ?_
      rintro e w2 ⟨rfl, hb2⟩
      have hs2 := hb2.size
      have hbB : Below wr.heap.size wr w2 := lo_trans hb1 hb2
      generalize pop r = s at hS ⊢
      have hB3 : Buf (w2.alloc (.cells #[.int .i64 (s : Int)] 3)) (w.heap.size + 1) R d (rsum (xs.take k)) := (hB.next hbB).next (by (repeat (first | exact Below.refl _ _ | assumption | refine lo_alloc ?_ _ | refine lo_set ?_ (by simp; try omega) _ | refine Below.drew ?_ | refine below_drewN ?_ _ | refine lo_trans ?_ (by assumption) | refine lo_wr ?_ (by assumption) (by omega))))
      have hK3 : Blk (w2.alloc (.cells #[.int .i64 (s : Int)] 3)) w.heap.size _ _ := (hK1.next hb2).alloc (.cells #[.int .i64 (s : Int)] 3)
      have hL3 : Below w.heap.size w (w2.alloc (.cells #[.int .i64 (s : Int)] 3)) := lo_alloc (lo_trans hL hbB) _
      have hrd : Rd (w2.alloc (.cells (ints [(s : Int)]) 3)) (some ⟨w2.heap.size, 0, none⟩) 1 [(s : Int)] := Rd.of_blk (Blk.new _ _ _)
      clear hb1 hb2 hbB c0 c1 hK hK1 hB hL
      go_wp2_with (at_builtin; refine (wpl_append rfl _ _ rfl (w.heap.size + 1) R d k (rsum (xs.take k)) rfl hyl'.out.symm hB3 _ 1 1 [(s : Int)] rfl hrd (by omega) (by omega) (by simp; omega) ?_); intro g c' w4 hB4 hg4 hat)
      have hBk := rowA_ge hB3
      rw [hS.out] at hB4
      go_roundw
      case rel =>
        exact ⟨k + 1, _, c', by omega, by go_num, rfl, hB4, hL3.grown hg4 hL3.size (fun g hg => by have := hBk g hg; omega), hK3.grown hg4 (fun e => by have := hBk _ e.symm; omega)⟩
      case measure => simp [intOf]; omega
    · obtain rfl : k = h := by omega
      have hle := hB.leR hyl'.out
      have hO := (hB.monoL (lo' := w.heap.size) (by omega)).own
      rw [hyl'.out, List.take_of_length_le (by rw [hxl.out]; exact Nat.le_refl _)] at hO
      go_wp2
      go_ret
      exact ⟨_, _, rfl, hO, hle, hL⟩

theorem spec_RowSums_x (A : Option Addr) (h c m : Nat) (xs : List Int) (w : World) (hr : Rd w A h xs) (hk : okB (m : Int) xs = true) :
    Calls Tryz.prog 79 #[.agg #[.int .i64 m, .slice A h c]] w fun e w' => ∃ (R : Option Addr) (d : Nat), e = .returned (.slice R h d) ∧ Own w' w.heap.size R h (rsum xs) ∧ Below w.heap.size w w' := by
  refine (spec_RowSums_z A h c m xs w hr hk).mono ?_
  rintro e w' ⟨R, d, h1, h2, _, h4⟩
  exact ⟨R, d, h1, h2, h4⟩

set_option maxHeartbeats 4000000 in
theorem spec_ColSums_x (A : Option Addr) (h c m : Nat) (xs : List Int) (w : World) (hr : Rd w A h xs) (hk : okB (m : Int) xs = true) :
    Calls Tryz.prog 80 #[.agg #[.int .i64 m, .slice A h c]] w fun e w' => ∃ (R : Option Addr) (d : Nat), e = .returned (.slice R m d) ∧ Own w' w.heap.size R m (csum m xs) ∧ Below w.heap.size w w' := by
  have hbd := okB_bd hk
  rw [hr.1] at hbd
  have hxl := Lib.hid hr.1
  have hk' := Lib.hid hk
  clear hk
  go_enter Tryz.func80, Tryz.ntmps80
  have hK0 : Blk ((w.alloc (.cells #[.int .i64 m, .slice A h c] 29)).alloc (.cells #[] 3)) w.heap.size 29 #[.int .i64 m, .slice A h c] := (Blk.new w 29 #[.int .i64 m, .slice A h c]).alloc _
  have hB0 : Buf ((w.alloc (.cells #[.int .i64 m, .slice A h c] 29)).alloc (.cells #[] 3)) (w.heap.size + 1) (some ⟨w.heap.size + 1, 0, none⟩) 0 (csum 0 xs) :=
    ⟨rfl, .inr ⟨w.heap.size + 1, 0, #[], rfl, Nat.le_refl _, heap_at2 w _ 3 #[], Nat.le_refl _, Nat.zero_le _, rfl, rfl⟩⟩
  have hL0 : Below w.heap.size w ((w.alloc (.cells #[.int .i64 m, .slice A h c] 29)).alloc (.cells #[] 3)) := lo_alloc (lo_alloc (Below.refl _ _) _) _
  have c0 := hK0.cell 0
  have c1 := hK0.cell 1
  go_wp2_with fail
  refine (spec_ImageValid_c _ _ _ _ xs _ (hr.next hL0) (by omega)).mono ?_
  rw [hk'.out]
  rintro e w1 ⟨rfl, hb1⟩
  have hK1 := hK0.next hb1
  have hB1 := hB0.next hb1
  have hL1 := lo_trans hL0 hb1
  clear hK0 hB0 hL0 c0 c1 hb1
  go_wp2
  go_loopw [3, 4] (fun v i wr => ∃ (k : Nat) (R : Option Addr) (d : Nat), k ≤ m ∧ i = .int .i64 k ∧ v = .slice R k d ∧ Buf wr (w.heap.size + 1) R d (csum k xs) ∧
      Below w.heap.size w wr ∧ Blk wr w.heap.size 29 #[.int .i64 m, .slice A h c]) (fun _ i _ => m - (intOf i).toNat)
  case atStart => exact ⟨0, _, 0, Nat.zero_le _, rfl, rfl, hB1, hL1, hK1⟩
  case round =>
    clear hB1 hL1 hK1
    obtain ⟨k, R, d, hk, rfl, rfl, hB, hL, hK⟩ := hrel
    have hyl' : Hid ((csum k xs).length = k) := Lib.hid (csum_len k xs)
    have hzr := hK.lt
    have c0 := hK.cell 0
    have c1 := hK.cell 1
    have hRr := hr.next hL
    by_cases hlt : k < m
    · go_wp2
      go_loop [5, 6] (fun s i => ∃ i' t : Nat, i' ≤ h ∧ t ≤ i' ∧ Hid (t = colK xs k i') ∧ i = .int .i64 i' ∧ s = .int .i64 t) (fun _ i => h - (intOf i).toNat)
      case atStart => exact ⟨0, 0, by omega, by omega, Lib.hid rfl, rfl, rfl⟩
      case round =>
        obtain ⟨i, t, hi, hti, ht, rfl, rfl⟩ := hrel
        by_cases hlt2 : i < h
        · obtain ⟨b, off, rfl, hb, hc⟩ := hRr.at_ hlt2
          obtain ⟨r, hxr, hr2⟩ := okB_at hk'.out (k := i) (by rw [hxl.out]; exact hlt2)
          have ht2 := Lib.hid (colK_step (k := k) (by rw [hxl.out]; exact hlt2) hxr)
          rw [← ht.out] at ht2
          rw [hxr] at hc
          have hxr' := Lib.hid hxr; clear hxr
          go_wp2_with fail
          refine (l1Bit_c r k _ (by omega) (by omega)).mono ?_
          rintro e w' ⟨rfl, rfl⟩
          have h2 : r / 2 ^ k % 2 < 2 := Nat.mod_lt _ (by omega)
          generalize r / 2 ^ k % 2 = v at h2 ht2 ⊢
          go_wp2
          go_round
          case rel => exact ⟨i + 1, t + v, by omega, by omega, Lib.hid ht2.out.symm, by go_num, by go_num⟩
          case measure => simp [intOf]; omega
        · obtain rfl : i = h := by omega
          have hS := Lib.hid (csum_step k xs)
          rw [← colK_all, hxl.out, ← ht.out] at hS
          have hB3 : Buf (wr.alloc (.cells #[.int .i64 (t : Int)] 3)) (w.heap.size + 1) R d (csum k xs) := hB.next (by (repeat (first | exact Below.refl _ _ | assumption | refine lo_alloc ?_ _ | refine lo_set ?_ (by simp; try omega) _ | refine Below.drew ?_ | refine below_drewN ?_ _ | refine lo_trans ?_ (by assumption) | refine lo_wr ?_ (by assumption) (by omega))))
          have hK3 : Blk (wr.alloc (.cells #[.int .i64 (t : Int)] 3)) w.heap.size _ _ := hK.alloc (.cells #[.int .i64 (t : Int)] 3)
          have hL3 : Below w.heap.size w (wr.alloc (.cells #[.int .i64 (t : Int)] 3)) := lo_alloc hL _
          have hrd : Rd (wr.alloc (.cells (ints [(t : Int)]) 3)) (some ⟨wr.heap.size, 0, none⟩) 1 [(t : Int)] := Rd.of_blk (Blk.new _ _ _)
          clear hK hB hL hRr
          go_wp2_with (at_builtin; refine (wpl_append rfl _ _ rfl (w.heap.size + 1) R d k (csum k xs) rfl hyl'.out.symm hB3 _ 1 1 [(t : Int)] rfl hrd (by omega) (by omega) (by simp; omega) ?_); intro g c' w4 hB4 hg4 hat)
          have hBk := rowA_ge hB3
          rw [hS.out] at hB4
          go_roundw
          case rel =>
            exact ⟨k + 1, _, c', by omega, by go_num, rfl, hB4, hL3.grown hg4 hL3.size (fun g hg => by have := hBk g hg; omega), hK3.grown hg4 (fun e => by have := hBk _ e.symm; omega)⟩
          case measure => simp [intOf]; omega
    · obtain rfl : k = m := by omega
      have hO := (hB.monoL (lo' := w.heap.size) (by omega)).own
      rw [hyl'.out] at hO
      go_wp2
      go_ret
      exact ⟨_, _, rfl, hO, hL⟩

set_option maxHeartbeats 4000000 in
theorem spec_ImageUnique_c (W : Int) (A : Option Addr) (n c : Nat) (xs : List Int) (w : World) (hr : Rd w A n xs) (hn : n ≤ 1073741824) :
    Calls Tryz.prog 84 #[.agg #[.int .i64 W, .slice A n c]] w fun e w' => e = .returned (.bool (uniqB W xs)) ∧ Below w.heap.size w w' := by
  cases hk : okB W xs with
  | false =>
    have hF := Lib.hid (show uniqB W xs = false by rw [uniqB, hk]; rfl)
    go_enter Tryz.func84, Tryz.ntmps84
    go_wp2_with fail
    refine (spec_ImageValid_c _ _ _ _ xs _ (hr.alloc _) (by omega)).mono ?_
    rw [hk]
    rintro e w1 ⟨rfl, hb1⟩
    go_wp2
    go_ret
    exact ⟨ret_bool hF.out.symm, by (repeat (first | exact Below.refl _ _ | assumption | refine lo_alloc ?_ _ | refine lo_set ?_ (by simp; try omega) _ | refine Below.drew ?_ | refine below_drewN ?_ _ | refine lo_trans ?_ (by assumption) | refine lo_wr ?_ (by assumption) (by omega)))⟩
  | true =>
    have hbd := okB_bd hk
    rw [hr.1] at hbd
    obtain ⟨m, rfl⟩ := Int.eq_ofNat_of_zero_le (show 0 ≤ W by omega)
    have hk' := Lib.hid hk
    have hsw := Lib.hid (show swListW (m : Int) xs = swList m xs by rw [swListW, hk, if_pos rfl, Int.toNat_natCast])
    have hsl := Lib.hid (swList_len hk)
    go_enter Tryz.func84, Tryz.ntmps84
    go_wp2_with fail
    refine (spec_ImageValid_c _ _ _ _ xs _ (hr.alloc _) (by omega)).mono ?_
    rw [hk]
    rintro e w1 ⟨rfl, hb1⟩
    clear hk
    have hKa : Blk w1 w.heap.size _ _ := (Blk.new w 29 #[.int .i64 (m : Int), .slice A n c]).next hb1
    have hB1 : Below w.heap.size w w1 := by (repeat (first | exact Below.refl _ _ | assumption | refine lo_alloc ?_ _ | refine lo_set ?_ (by simp; try omega) _ | refine Below.drew ?_ | refine below_drewN ?_ _ | refine lo_trans ?_ (by assumption) | refine lo_wr ?_ (by assumption) (by omega)))
    clear hb1
    have a0 := hKa.cell 0
    have a1 := hKa.cell 1
    go_wp2_with fail
    refine (spec_SwitchList_c (m : Int) A n c xs _ (hr.next hB1) hn).mono ?_
    rw [hsw.out]
    rintro e w2 ⟨R, c', rfl, hb2, -⟩
    have hB2 := lo_trans hB1 hb2
    clear a0 a1 hKa
    cases hL : swList m xs with
    | nil =>
      have hF := Lib.hid (show uniqB (m : Int) xs = true by rw [uniqB, hk'.out, Int.toNat_natCast, hL]; rfl)
      go_wp2
      go_ret
      exact ⟨ret_bool hF.out.symm, hB2⟩
    | cons s ss =>
      have hF := Lib.hid (show uniqB (m : Int) xs = false by rw [uniqB, hk'.out, Int.toNat_natCast, hL]; rfl)
      have hl : 0 < (s :: ss).length ∧ (s :: ss).length < 1600 := by rw [← hL]; exact ⟨by rw [hL]; simp, hsl.out⟩
      generalize (s :: ss).length = q at hl ⊢
      clear hL
      have hb : ((q : Int) == 0) = false := by rw [beq_eq_false_iff_ne]; omega
      go_wp2
      go_ret
      exact ⟨ret_bool hF.out.symm, hB2⟩
end Go.Proofs.YteabnljjogiflaaGreatDoor
