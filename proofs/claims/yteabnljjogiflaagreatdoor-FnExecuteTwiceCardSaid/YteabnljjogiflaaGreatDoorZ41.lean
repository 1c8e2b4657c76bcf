/- Plain facts and walks that the law's proof uses; each says its own conditions. -/
import Derived.Test.YteabnljjogiflaaGreatDoorZ39
import Derived.Deep.RegionHeld3
import Derived.Test.YteabnljjogiflaaGreatDoorZ03
import Derived.Deep.QuietTactic
import Derived.BigQuiet
-- Walks: orders of a script are executed: row, clear, show, unique.
namespace Go.Proofs.YteabnljjogiflaaGreatDoor
open Go.RowKit
set_option maxRecDepth 100000

set_option maxHeartbeats 4000000 in
theorem exec_Row (sb wb : Nat) (s : Ig) (x : Bs) (w : World) (h : SS w sb s) (hw : Blk w wb 9 (strs [kRow, x])) (hx : x.length ≤ 1000) :
    Calls Tryz.prog 21 #[.pointer (some ⟨sb, 0, none⟩), .slice (some ⟨wb, 0, none⟩) 2 2] w (Res w sb (stepS s [kRow, x])) := by
  obtain ⟨p, hp⟩ : ∃ p, p = stepS s [kRow, x] := ⟨_, rfl⟩
  rw [← hp]
  rw [step_Row] at hp
  replace hp := Lib.hid hp
  have hmm := @run_makeMap Tryz.prog
  obtain ⟨w1, w2, w3, w4, w5, w6, w7, w8, w9, w10, u1, u2, u3, u4, u5, u6, u7, u8, u9, u10, hM, hB⟩ := wants_map w
  have hlk := want_look hM kRow 1 (by decide) rfl rfl
  have h1 := h.next hB
  have hw1 := hw.next hB
  have hx0 := strs_cell hw1 (k := 0) (x := kRow) rfl
  have hx1 := strs_cell hw1 (k := 1) (x := x) rfl
  have qRow : ((S kRow).toList == [114, 111, 119]) = true := by rw [S_list]; rfl
  clear hM
  go_enter Tryz.func21, Tryz.ntmps21
  go_wp2_with fail
  refine (row_c sb s x w10 h1 hx).mono ?_
  rintro e wr ⟨r, ok, rfl, q1, q2, q3, q4⟩
  go_wp2
  go_ret2
  rw [hp.out]
  exact ⟨r, ok, rfl, q1, q2, q3, grown_trans (grown_of_below hB (some sb)) q4⟩

set_option maxHeartbeats 4000000 in
theorem exec_Clear (sb wb : Nat) (s : Ig) (w : World) (h : SS w sb s) (hw : Blk w wb 9 (strs [kClear])) :
    Calls Tryz.prog 21 #[.pointer (some ⟨sb, 0, none⟩), .slice (some ⟨wb, 0, none⟩) 1 1] w (Res w sb (stepS s [kClear])) := by
  obtain ⟨p, hp⟩ : ∃ p, p = stepS s [kClear] := ⟨_, rfl⟩
  rw [← hp]
  rw [step_Clear] at hp
  replace hp := Lib.hid hp
  have hmm := @run_makeMap Tryz.prog
  obtain ⟨w1, w2, w3, w4, w5, w6, w7, w8, w9, w10, u1, u2, u3, u4, u5, u6, u7, u8, u9, u10, hM, hB⟩ := wants_map w
  have hlk := want_look hM kClear 0 (by decide) rfl rfl
  have h1 := h.next hB
  have hw1 := hw.next hB
  have hx0 := strs_cell hw1 (k := 0) (x := kClear) rfl
  have qRow : ((S kClear).toList == [114, 111, 119]) = false := by rw [S_list]; rfl
  have qClear : ((S kClear).toList == [99, 108, 101, 97, 114]) = true := by rw [S_list]; rfl
  clear hM
  obtain ⟨A, n, c, b1, b2, b3⟩ := id h1
  have c0 := b1.cell 0
  have c1 := b1.cell 1
  have f0 := b1.frozen 0
  have f1 := b1.frozen 1
  have hs := Lib.hid ((b1.set_ 0 (.int .i64 0)).set_ 1 (.slice none 0 0))
  go_enter Tryz.func21, Tryz.ntmps21
  go_wp2
  go_ret2
  rw [hp.out]
  exact Res.of (r := tOk) (ok := true) rfl rfl (by decide) (SS.zero hs.out) (grown_trans (grown_of_below hB (some sb)) (grown_trans (grown_set _) (grown_set _)))

theorem trim_text {m : Nat} {xs : List Int} (h : okB (m : Int) xs = true) : Lib.trimSuffix (textL m xs) [10] = (textL m xs).dropLast := by
  have hb := okB_bd h
  have e : ∃ u, textL m xs = u ++ [10] := by
    rw [textL_eq xs (by omega)]
    rcases List.eq_nil_or_concat xs with rfl | ⟨ys, y, rfl⟩
    · simp at hb
    · refine ⟨ys.flatMap (fun x => rowT m x.toNat) ++ (List.range m).map (fun j => chr01 (y.toNat.testBit j)), ?_⟩
      simp [rowT]
  obtain ⟨u, e⟩ := e
  rw [e, List.dropLast_concat, Lib.trimSuffix, if_pos (by simp [Lib.hasSuffix])]
  simp

set_option maxHeartbeats 4000000 in
theorem exec_Show_no (sb wb : Nat) (W : Int) (xs : List Int) (w : World) (h : SS w sb (W, xs)) (hw : Blk w wb 9 (strs [kShow])) (hk : okB W xs = false) :
    Calls Tryz.prog 21 #[.pointer (some ⟨sb, 0, none⟩), .slice (some ⟨wb, 0, none⟩) 1 1] w (Res w sb (stepS (W, xs) [kShow])) := by
  obtain ⟨p, hp⟩ : ∃ p, p = stepS (W, xs) [kShow] := ⟨_, rfl⟩
  rw [← hp]
  rw [step_Show] at hp
  replace hp := Lib.hid hp
  have hmm := @run_makeMap Tryz.prog
  obtain ⟨w1, w2, w3, w4, w5, w6, w7, w8, w9, w10, u1, u2, u3, u4, u5, u6, u7, u8, u9, u10, hM, hB⟩ := wants_map w
  have hlk := want_look hM kShow 0 (by decide) rfl rfl
  have h1 := h.next hB
  have hw1 := hw.next hB
  have hx0 := strs_cell hw1 (k := 0) (x := kShow) rfl
  have qRow : ((S kShow).toList == [114, 111, 119]) = false := by rw [S_list]; rfl
  have qClear : ((S kShow).toList == [99, 108, 101, 97, 114]) = false := by rw [S_list]; rfl
  have qBuild : ((S kShow).toList == [98, 117, 105, 108, 100]) = false := by rw [S_list]; rfl
  have qSwitch : ((S kShow).toList == [115, 119, 105, 116, 99, 104]) = false := by rw [S_list]; rfl
  have qNext : ((S kShow).toList == [110, 101, 120, 116]) = false := by rw [S_list]; rfl
  have qProof : ((S kShow).toList == [112, 114, 111, 111, 102]) = false := by rw [S_list]; rfl
  have qShow : ((S kShow).toList == [115, 104, 111, 119]) = true := by rw [S_list]; rfl
  clear hM
  obtain ⟨A, n, c, b1, b2, b3⟩ := id h1
  have hn6 : n ≤ 6 := by have := h.len; have := b2.1; simp only at *; omega
  have c0 := b1.cell 0
  have c1 := b1.cell 1
  have hk' := Lib.hid hk
  have hT := Lib.hid (show okB ((W, xs) : Ig).1 ((W, xs) : Ig).2 = false from hk)
  clear hk
  go_enter Tryz.func21, Tryz.ntmps21
  go_wp2_with fail
  refine (impl_ImageValid_c _ _ _ _ xs _ b2.rd (by omega)).mono ?_
  rw [hk'.out]
  rintro e wv ⟨rfl, hbv⟩
  go_wp2
  go_ret2
  rw [hp.out, hT.out]
  exact Res.of (r := []) (ok := false) rfl rfl (by decide) (h1.next hbv) (grown_trans (grown_of_below hB (some sb)) (grown_of_below hbv _))

set_option maxHeartbeats 4000000 in
theorem exec_Show_yes (sb wb : Nat) (W : Int) (xs : List Int) (w : World) (h : SS w sb (W, xs)) (hw : Blk w wb 9 (strs [kShow])) (hk : okB W xs = true) :
    Calls Tryz.prog 21 #[.pointer (some ⟨sb, 0, none⟩), .slice (some ⟨wb, 0, none⟩) 1 1] w (Res w sb (stepS (W, xs) [kShow])) := by
  obtain ⟨p, hp⟩ : ∃ p, p = stepS (W, xs) [kShow] := ⟨_, rfl⟩
  rw [← hp]
  rw [step_Show] at hp
  replace hp := Lib.hid hp
  have hmm := @run_makeMap Tryz.prog
  obtain ⟨w1, w2, w3, w4, w5, w6, w7, w8, w9, w10, u1, u2, u3, u4, u5, u6, u7, u8, u9, u10, hM, hB⟩ := wants_map w
  have hlk := want_look hM kShow 0 (by decide) rfl rfl
  have h1 := h.next hB
  have hw1 := hw.next hB
  have hx0 := strs_cell hw1 (k := 0) (x := kShow) rfl
  have qRow : ((S kShow).toList == [114, 111, 119]) = false := by rw [S_list]; rfl
  have qClear : ((S kShow).toList == [99, 108, 101, 97, 114]) = false := by rw [S_list]; rfl
  have qBuild : ((S kShow).toList == [98, 117, 105, 108, 100]) = false := by rw [S_list]; rfl
  have qSwitch : ((S kShow).toList == [115, 119, 105, 116, 99, 104]) = false := by rw [S_list]; rfl
  have qNext : ((S kShow).toList == [110, 101, 120, 116]) = false := by rw [S_list]; rfl
  have qProof : ((S kShow).toList == [112, 114, 111, 111, 102]) = false := by rw [S_list]; rfl
  have qShow : ((S kShow).toList == [115, 104, 111, 119]) = true := by rw [S_list]; rfl
  clear hM
  obtain ⟨A, n, c, b1, b2, b3⟩ := id h1
  have hn6 : n ≤ 6 := by have := h.len; have := b2.1; simp only at *; omega
  have c0 := b1.cell 0
  have c1 := b1.cell 1
  have hbd := okB_bd hk
  obtain ⟨m, rfl⟩ : ∃ m : Nat, W = (m : Int) := ⟨W.toNat, by omega⟩
  have hk' := Lib.hid hk
  have hT := Lib.hid (show okB (((m : Int), xs) : Ig).1 (((m : Int), xs) : Ig).2 = true from hk)
  have hx := Lib.hid (show textW (m : Int) xs = textL m xs by simp [textW, hk])
  have hlen := textL_len hk
  have htr := Lib.hid (trim_text hk)
  clear hk
  go_enter Tryz.func21, Tryz.ntmps21
  go_wp2_with fail
  refine (impl_ImageValid_c _ _ _ _ xs _ b2.rd (by omega)).mono ?_
  rw [hk'.out]
  rintro e wv ⟨rfl, hbv⟩
  have h2 := h1.next hbv
  have b1v := b1.next hbv
  have b2v := b2.next hbv
  have hw2 := hw1.next hbv
  have d0 := b1v.cell 0
  have d1 := b1v.cell 1
  have hy0 := strs_cell hw2 (k := 0) (x := kShow) rfl
  go_wp2_with fail
  refine (ImageText_c (m : Int) A n c xs _ b2v.rd (by omega)).mono ?_
  rw [hx.out]
  rintro e w12 ⟨rfl, hb12⟩
  have h3 := h2.next hb12
  go_wp2_with fail
  refine (TrimSuffix_c (textL m xs) [10] w12 (by omega)).mono ?_
  rw [htr.out]
  rintro e w13 ⟨rfl, rfl⟩
  go_wp2
  go_ret2
  rw [hp.out, hT.out]
  exact Res.of (r := (textL m xs).dropLast) (ok := true) rfl (by simp only [Int.toNat_natCast]; rfl) (by simp; omega) h3 (grown_trans (grown_of_below hB (some sb)) (grown_trans (grown_of_below hbv _) (grown_of_below hb12 _)))

set_option maxHeartbeats 4000000 in
theorem exec_Unique_no (sb wb : Nat) (W : Int) (xs : List Int) (w : World) (h : SS w sb (W, xs)) (hw : Blk w wb 9 (strs [kUnique])) (hk : okB W xs = false) :
    Calls Tryz.prog 21 #[.pointer (some ⟨sb, 0, none⟩), .slice (some ⟨wb, 0, none⟩) 1 1] w (Res w sb (stepS (W, xs) [kUnique])) := by
  obtain ⟨p, hp⟩ : ∃ p, p = stepS (W, xs) [kUnique] := ⟨_, rfl⟩
  rw [← hp]
  rw [step_Unique] at hp
  replace hp := Lib.hid hp
  have hmm := @run_makeMap Tryz.prog
  obtain ⟨w1, w2, w3, w4, w5, w6, w7, w8, w9, w10, u1, u2, u3, u4, u5, u6, u7, u8, u9, u10, hM, hB⟩ := wants_map w
  have hlk := want_look hM kUnique 0 (by decide) rfl rfl
  have h1 := h.next hB
  have hw1 := hw.next hB
  have hx0 := strs_cell hw1 (k := 0) (x := kUnique) rfl
  have qRow : ((S kUnique).toList == [114, 111, 119]) = false := by rw [S_list]; rfl
  have qClear : ((S kUnique).toList == [99, 108, 101, 97, 114]) = false := by rw [S_list]; rfl
  have qBuild : ((S kUnique).toList == [98, 117, 105, 108, 100]) = false := by rw [S_list]; rfl
  have qSwitch : ((S kUnique).toList == [115, 119, 105, 116, 99, 104]) = false := by rw [S_list]; rfl
  have qNext : ((S kUnique).toList == [110, 101, 120, 116]) = false := by rw [S_list]; rfl
  have qProof : ((S kUnique).toList == [112, 114, 111, 111, 102]) = false := by rw [S_list]; rfl
  have qShow : ((S kUnique).toList == [115, 104, 111, 119]) = false := by rw [S_list]; rfl
  have qSums : ((S kUnique).toList == [115, 117, 109, 115]) = false := by rw [S_list]; rfl
  have qUnique : ((S kUnique).toList == [117, 110, 105, 113, 117, 101]) = true := by rw [S_list]; rfl
  clear hM
  obtain ⟨A, n, c, b1, b2, b3⟩ := id h1
  have hn6 : n ≤ 6 := by have := h.len; have := b2.1; simp only at *; omega
  have c0 := b1.cell 0
  have c1 := b1.cell 1
  have hk' := Lib.hid hk
  have hT := Lib.hid (show okB ((W, xs) : Ig).1 ((W, xs) : Ig).2 = false from hk)
  clear hk
  go_enter Tryz.func21, Tryz.ntmps21
  go_wp2_with fail
  refine (impl_ImageValid_c _ _ _ _ xs _ b2.rd (by omega)).mono ?_
  rw [hk'.out]
  rintro e wv ⟨rfl, hbv⟩
  go_wp2
  go_ret2
  rw [hp.out, hT.out]
  exact Res.of (r := []) (ok := false) rfl rfl (by decide) (h1.next hbv) (grown_trans (grown_of_below hB (some sb)) (grown_of_below hbv _))

set_option maxHeartbeats 4000000 in
theorem exec_Unique_yes (sb wb : Nat) (W : Int) (xs : List Int) (w : World) (h : SS w sb (W, xs)) (hw : Blk w wb 9 (strs [kUnique])) (hk : okB W xs = true) :
    Calls Tryz.prog 21 #[.pointer (some ⟨sb, 0, none⟩), .slice (some ⟨wb, 0, none⟩) 1 1] w (Res w sb (stepS (W, xs) [kUnique])) := by
  obtain ⟨p, hp⟩ : ∃ p, p = stepS (W, xs) [kUnique] := ⟨_, rfl⟩
  rw [← hp]
  rw [step_Unique] at hp
  replace hp := Lib.hid hp
  have hmm := @run_makeMap Tryz.prog
  obtain ⟨w1, w2, w3, w4, w5, w6, w7, w8, w9, w10, u1, u2, u3, u4, u5, u6, u7, u8, u9, u10, hM, hB⟩ := wants_map w
  have hlk := want_look hM kUnique 0 (by decide) rfl rfl
  have h1 := h.next hB
  have hw1 := hw.next hB
  have hx0 := strs_cell hw1 (k := 0) (x := kUnique) rfl
  have qRow : ((S kUnique).toList == [114, 111, 119]) = false := by rw [S_list]; rfl
  have qClear : ((S kUnique).toList == [99, 108, 101, 97, 114]) = false := by rw [S_list]; rfl
  have qBuild : ((S kUnique).toList == [98, 117, 105, 108, 100]) = false := by rw [S_list]; rfl
  have qSwitch : ((S kUnique).toList == [115, 119, 105, 116, 99, 104]) = false := by rw [S_list]; rfl
  have qNext : ((S kUnique).toList == [110, 101, 120, 116]) = false := by rw [S_list]; rfl
  have qProof : ((S kUnique).toList == [112, 114, 111, 111, 102]) = false := by rw [S_list]; rfl
  have qShow : ((S kUnique).toList == [115, 104, 111, 119]) = false := by rw [S_list]; rfl
  have qSums : ((S kUnique).toList == [115, 117, 109, 115]) = false := by rw [S_list]; rfl
  have qUnique : ((S kUnique).toList == [117, 110, 105, 113, 117, 101]) = true := by rw [S_list]; rfl
  clear hM
  obtain ⟨A, n, c, b1, b2, b3⟩ := id h1
  have hn6 : n ≤ 6 := by have := h.len; have := b2.1; simp only at *; omega
  have c0 := b1.cell 0
  have c1 := b1.cell 1
  have hbd := okB_bd hk
  obtain ⟨m, rfl⟩ : ∃ m : Nat, W = (m : Int) := ⟨W.toNat, by omega⟩
  have hk' := Lib.hid hk
  have hT := Lib.hid (show okB (((m : Int), xs) : Ig).1 (((m : Int), xs) : Ig).2 = true from hk)
  have hu : uniqB (m : Int) xs = decide (swList m xs = []) := by rw [uniqB, hk]; rfl
  have hu' := Lib.hid hu
  have hS := Lib.hid (show (if swList ((((m : Int), xs) : Ig).1.toNat) (((m : Int), xs) : Ig).2 = [] then tYes else tSeveral) = if decide (swList m xs = []) then tYes else tSeveral by simp only [Int.toNat_natCast, decide_eq_true_eq])
  clear hk hu
  go_enter Tryz.func21, Tryz.ntmps21
  go_wp2_with fail
  refine (impl_ImageValid_c _ _ _ _ xs _ b2.rd (by omega)).mono ?_
  rw [hk'.out]
  rintro e wv ⟨rfl, hbv⟩
  have h2 := h1.next hbv
  have b1v := b1.next hbv
  have b2v := b2.next hbv
  have hw2 := hw1.next hbv
  have d0 := b1v.cell 0
  have d1 := b1v.cell 1
  have hy0 := strs_cell hw2 (k := 0) (x := kUnique) rfl
  go_wp2_with fail
  refine (impl_ImageUnique_c (m : Int) A n c xs _ b2v.rd (by omega)).mono ?_
  rw [hu'.out]
  replace hp := Lib.hid (hp.out.trans (by rw [hS.out, hT.out]))
  generalize decide (swList m xs = []) = uq at hp ⊢
  rintro e w12 ⟨rfl, hb12⟩
  have h3 := h2.next hb12
  cases uq
  all_goals
    go_wp2
    go_ret2
    rw [hp.out]
    exact Res.of (r := _) (ok := true) rfl rfl (by decide) h3 (grown_trans (grown_of_below hB (some sb)) (grown_trans (grown_of_below hbv _) (grown_of_below hb12 _)))
end Go.Proofs.YteabnljjogiflaaGreatDoor

-- Walks: the text of an image (the reference's way).
namespace Go.Proofs.YteabnljjogiflaaGreatDoor
open Go.RowKit
set_option maxRecDepth 100000

def rowJ (r j : Nat) : Bs := (List.range j).map (fun k => chr01 (r.testBit k))
theorem rowJ_snoc (r j : Nat) : rowJ r (j + 1) = rowJ r j ++ [chr01 (r.testBit j)] := by
  rw [rowJ, List.range_succ, List.map_append]; rfl
theorem rowJ_len (r j : Nat) : (rowJ r j).length = j := by simp [rowJ]
def txtI (m : Nat) (xs : List Int) : Bs := xs.flatMap (fun x => rowT m x.toNat)
theorem txtI_len (m : Nat) (xs : List Int) : (txtI m xs).length = xs.length * (m + 1) := by
  unfold txtI
  induction xs with
  | nil => simp
  | cons x xs ih => rw [List.flatMap_cons, List.length_append, ih, List.length_cons, Nat.add_mul]; simp [rowT]; omega
theorem txtI_snoc {m k q : Nat} {xs : List Int} (hk : k < xs.length) (hx : xs[k]?.getD 0 = (q : Int)) : txtI m (xs.take k) ++ rowJ q m ++ [10] = txtI m (xs.take (k + 1)) := by
  rw [List.getElem?_eq_getElem hk, Option.getD_some] at hx
  unfold txtI
  rw [List.take_succ_eq_append_getElem hk, List.flatMap_append, hx]
  simp [rowT, rowJ]

set_option maxHeartbeats 8000000 in
theorem spec_ImageText_c (m : Nat) (A : Option Addr) (n c : Nat) (xs : List Int) (w : World) (hr : Rd w A n xs) (hk : okB (m : Int) xs = true) :
    Calls Tryz.prog 28 #[.agg #[.int .i64 (m : Int), .slice A n c]] w fun e w' => e = .returned (.string (S (textL m xs))) ∧ Below w.heap.size w w' := by
  have hbd := okB_bd hk
  rw [hr.1] at hbd
  have hxl := Lib.hid hr.1
  have hT := Lib.hid (show textL m xs = txtI m xs from textL_eq xs (by omega))
  have hk' := Lib.hid hk
  have hmul : n * (m + 1) ≤ 6 * 7 := Nat.mul_le_mul (by omega) (by omega)
  clear hk
  have hP := Blk.new w 29 #[.int .i64 (m : Int), .slice A n c]
  have hL0 := lo_alloc (Below.refl w.heap.size w) (.cells #[.int .i64 (m : Int), .slice A n c] 29)
  go_enter Tryz.func28, Tryz.ntmps28
  go_wp2
  go_loopw [3, 4] (fun v i wr => ∃ k : Nat, k ≤ n ∧ i = .int .i64 k ∧ v = .string (S (txtI m (xs.take k))) ∧ Blk wr w.heap.size 29 #[.int .i64 (m : Int), .slice A n c] ∧ Below w.heap.size w wr) (fun _ i _ => n - (intOf i).toNat)
  case atStart => exact ⟨0, Nat.zero_le _, rfl, rfl, hP, hL0⟩
  case round =>
    clear hP hL0
    obtain ⟨k, hkn, rfl, rfl, hP, hL⟩ := hrel
    have p0 := hP.cell 0
    have p1 := hP.cell 1
    by_cases hlt : k < n
    · have hkl : k < xs.length := by rw [hxl.out]; exact hlt
      obtain ⟨q, hxq, hq2⟩ := okB_row hk'.out rfl (k := k) hkl
      have hp64 : 2 ^ m ≤ 64 := pow_le64 (by omega)
      have hq64 : q < 64 := by omega
      have hS := Lib.hid (txtI_snoc (m := m) hkl hxq)
      have hxq' := Lib.hid hxq
      have hul : (txtI m (xs.take k)).length ≤ 42 := by
        rw [txtI_len, List.length_take, hxl.out, Nat.min_eq_left hkn]
        exact Nat.le_trans (Nat.mul_le_mul_right _ hkn) hmul
      obtain ⟨u, hu⟩ : ∃ u, Hid (txtI m (xs.take k) = u) := ⟨_, Lib.hid rfl⟩
      rw [hu.out] at hul hS ⊢
      clear hxq hq2 hp64
      go_wp2_with fail
      refine (spec_ImageValid_c _ _ _ _ xs _ (hr.next hL) (by omega)).mono ?_
      rw [hk'.out]
      rintro e w1 ⟨rfl, hb1⟩
      have hP1 := hP.next hb1
      have hL1 := lo_trans hL hb1
      clear hP hL hb1 p0 p1
      go_wp2
      go_loopw [3, 5] (fun v j wr => ∃ i : Nat, i ≤ m ∧ j = .int .i64 i ∧ v = .string (S (u ++ rowJ q i)) ∧ Blk wr w.heap.size 29 #[.int .i64 (m : Int), .slice A n c] ∧ Below w.heap.size w wr) (fun _ j _ => m - (intOf j).toNat)
      case atStart => exact ⟨0, Nat.zero_le _, rfl, by simp [rowJ], hP1, hL1⟩
      case round =>
        clear hP1 hL1
        obtain ⟨i, him, rfl, rfl, hP, hL⟩ := hrel
        have p0 := hP.cell 0
        have p1 := hP.cell 1
        have hrl := rowJ_len q i
        by_cases hlt2 : i < m
        · obtain ⟨b, off, rfl, hb, hc⟩ := (hr.next hL).at_ hlt
          rw [hxq'.out] at hc
          have hsn := rowJ_snoc q i
          have hbit := still_of (l1Bit_c q i wr.drew (by omega) (by omega))
          have hb2 : q / 2 ^ i % 2 < 2 := Nat.mod_lt _ (by omega)
          have hch : chr01 (q.testBit i) = if q / 2 ^ i % 2 = 1 then 35 else 46 := by
            rw [Nat.testBit_eq_decide_div_mod_eq, chr01]
            by_cases h : q / 2 ^ i % 2 = 1 <;> simp [h]
          rw [hch] at hsn
          have hbit' := fun w => l1Bit_c q i w (by omega) (by omega)
          clear hch hbit
          generalize q / 2 ^ i % 2 = bt at hsn hb2 hbit'
          obtain ⟨ch, hch⟩ : ∃ ch : UInt8, Hid ((if bt = 1 then (35 : UInt8) else 46) = ch) := ⟨_, Lib.hid rfl⟩
          have hsl : ∀ w, (Instr.slice 9 (.string ({ data := #[46, 35] } : ByteArray)) (some (.int .i64 (bt : Int))) (some (.int .i64 ((bt : Int) + 1))) none).run Tryz.prog w = .ok (.string (S [ch])) w := fun w => by
            have := slc_ok [46, 35] bt (bt + 1) (by omega) (by simp; omega) w
            rw [show ((([46, 35] : Bs).drop bt).take (bt + 1 - bt)) = [ch] by
              rw [← hch.out]
              rcases (by omega : bt = 0 ∨ bt = 1) with rfl | rfl <;> rfl] at this
            exact this
          rw [hch.out] at hsn
          obtain ⟨v, hv⟩ : ∃ v, Hid (u ++ rowJ q i = v) := ⟨_, Lib.hid rfl⟩
          have hvl : v.length ≤ 100 := by rw [← hv.out, List.length_append, hrl]; omega
          have hct : ∀ w, (Op.stringOp .add (S v) (S [ch])).run Tryz.prog w = .ok (.string (S (u ++ rowJ q (i + 1)))) w := fun w => by
            have := cat_ok v [ch] (by simp; omega) w
            rw [hsn, ← List.append_assoc, hv.out]
            exact this
          rw [hv.out]
          obtain ⟨v2, hv2⟩ : ∃ v2, Hid (u ++ rowJ q (i + 1) = v2) := ⟨_, Lib.hid rfl⟩
          rw [hv2.out] at hct
          have ew : IntKind.i64.wrap ((bt : Int) + 1) = (bt : Int) + 1 := IntWalk.i64_in _ (by omega)
          clear hsn hrl
          go_wp2
          go_quiet ((go_at_call 43; exact Calls.quiet_of_same (still_of (hbit' _))))
          go_wp2
          clear ew
          go_roundw
          case rel => exact ⟨i + 1, by omega, by go_num, by rw [hv2.out], hP.drewN _, below_drewN hL _⟩
          case measure => simp [intOf]; omega
        · obtain rfl : i = m := by omega
          obtain ⟨v, hv⟩ : ∃ v, Hid (u ++ rowJ q i = v) := ⟨_, Lib.hid rfl⟩
          have hvl : v.length ≤ 100 := by rw [← hv.out, List.length_append, hrl]; omega
          have hS2 := hS.out
          rw [hv.out] at hS2 ⊢
          have hct : ∀ w, (Op.stringOp .add (S v) ({ data := #[10] } : ByteArray)).run Tryz.prog w = .ok (.string (S (v ++ [10]))) w := fun w => cat_ok v [10] (by simp; omega) w
          have hS3 := Lib.hid hS2
          clear hS2
          go_wp2
          go_roundw
          case rel => exact ⟨k + 1, by omega, by go_num, by rw [← hS3.out], hP, hL⟩
          case measure => simp [intOf]; omega
    · obtain rfl : k = n := by omega
      have hF := Lib.hid (show txtI m (xs.take k) = textL m xs by rw [List.take_of_length_le (Nat.le_of_eq hxl.out), hT.out])
      rw [hF.out]
      go_wp2
      go_ret
      exact ⟨rfl, hL⟩
end Go.Proofs.YteabnljjogiflaaGreatDoor
