/- Plain facts and walks that the law's proof uses; each says its own conditions. -/
import Derived.Test.YtpeiolimdglmhaaGreatDoorZ36
import Derived.Deep.RegionHeld3
import Derived.Test.YtpeiolimdglmhaaGreatDoorZ04
-- Walks: orders of a script are executed: row, clear, show, unique.
namespace Go.Proofs.YtpeiolimdglmhaaGreatDoor
open Go.RowKit
set_option maxRecDepth 100000

set_option maxHeartbeats 4000000 in
theorem exec_Row (sb wb : Nat) (s : Ig) (x : Bs) (w : World) (h : SS w sb s) (hw : Blk w wb 9 (strs [kRow, x])) (hx : x.length ≤ 1000) :
    Calls Tryz.prog 45 #[.pointer (some ⟨sb, 0, none⟩), .slice (some ⟨wb, 0, none⟩) 2 2] w (Res w sb (stepS s [kRow, x])) := by
  obtain ⟨p, hp⟩ : ∃ p, p = stepS s [kRow, x] := ⟨_, rfl⟩
  rw [← hp]
  rw [step_Row] at hp
  replace hp := Lib.hid hp
  have hmm := @run_makeMap Tryz.prog
  obtain ⟨w1, w2, w3, w4, w5, w6, w7, w8, w9, w10, u1, u2, u3, u4, u5, u6, u7, u8, u9, u10, hM, hB⟩ := wants_map w
  have hlk := want_look hM kRow 1 (by decide) rfl rfl
  have h1 := h.next hB
  have hw1 := hw.next hB
  have hx0 := strs_cell hw1 (k := 0) (x := kRow) rfl
  have hx1 := strs_cell hw1 (k := 1) (x := x) rfl
  have qRow : ((S kRow).toList == [114, 111, 119]) = true := by rw [S_list]; rfl
  clear hM
  go_enter Tryz.func45, Tryz.ntmps45
  go_wp2_with fail
  refine (row_c sb s x w10 h1 hx).mono ?_
  rintro e wr ⟨r, ok, rfl, q1, q2, q3, q4⟩
  go_wp2
  go_ret2
  rw [hp.out]
  exact ⟨r, ok, rfl, q1, q2, q3, grown_trans (grown_of_below hB (some sb)) q4⟩

set_option maxHeartbeats 4000000 in
theorem exec_Clear (sb wb : Nat) (s : Ig) (w : World) (h : SS w sb s) (hw : Blk w wb 9 (strs [kClear])) :
    Calls Tryz.prog 45 #[.pointer (some ⟨sb, 0, none⟩), .slice (some ⟨wb, 0, none⟩) 1 1] w (Res w sb (stepS s [kClear])) := by
  obtain ⟨p, hp⟩ : ∃ p, p = stepS s [kClear] := ⟨_, rfl⟩
  rw [← hp]
  rw [step_Clear] at hp
  replace hp := Lib.hid hp
  have hmm := @run_makeMap Tryz.prog
  obtain ⟨w1, w2, w3, w4, w5, w6, w7, w8, w9, w10, u1, u2, u3, u4, u5, u6, u7, u8, u9, u10, hM, hB⟩ := wants_map w
  have hlk := want_look hM kClear 0 (by decide) rfl rfl
  have h1 := h.next hB
  have hw1 := hw.next hB
  have hx0 := strs_cell hw1 (k := 0) (x := kClear) rfl
  have qRow : ((S kClear).toList == [114, 111, 119]) = false := by rw [S_list]; rfl
  have qClear : ((S kClear).toList == [99, 108, 101, 97, 114]) = true := by rw [S_list]; rfl
  clear hM
  obtain ⟨A, n, c, b1, b2, b3⟩ := id h1
  have c0 := b1.cell 0
  have c1 := b1.cell 1
  have f0 := b1.frozen 0
  have f1 := b1.frozen 1
  have hs := Lib.hid ((b1.set_ 0 (.int .i64 0)).set_ 1 (.slice none 0 0))
  go_enter Tryz.func45, Tryz.ntmps45
  go_wp2
  go_ret2
  rw [hp.out]
  exact Res.of (r := tOk) (ok := true) rfl rfl (by decide) (SS.zero hs.out) (grown_trans (grown_of_below hB (some sb)) (grown_trans (grown_set _) (grown_set _)))

theorem trim_text {m : Nat} {xs : List Int} (h : okB (m : Int) xs = true) : Lib.trimSuffix (textL m xs) [10] = (textL m xs).dropLast := by
  have hb := okB_bd h
  have e : ∃ u, textL m xs = u ++ [10] := by
    rw [textL_eq xs (by omega)]
    rcases List.eq_nil_or_concat xs with rfl | ⟨ys, y, rfl⟩
    · simp at hb
    · refine ⟨ys.flatMap (fun x => rowT m x.toNat) ++ (List.range m).map (fun j => chr01 (y.toNat.testBit j)), ?_⟩
      simp [rowT]
  obtain ⟨u, e⟩ := e
  rw [e, List.dropLast_concat, Lib.trimSuffix, if_pos (by simp [Lib.hasSuffix])]
  simp

set_option maxHeartbeats 4000000 in
theorem exec_Show_no (sb wb : Nat) (W : Int) (xs : List Int) (w : World) (h : SS w sb (W, xs)) (hw : Blk w wb 9 (strs [kShow])) (hk : okB W xs = false) :
    Calls Tryz.prog 45 #[.pointer (some ⟨sb, 0, none⟩), .slice (some ⟨wb, 0, none⟩) 1 1] w (Res w sb (stepS (W, xs) [kShow])) := by
  obtain ⟨p, hp⟩ : ∃ p, p = stepS (W, xs) [kShow] := ⟨_, rfl⟩
  rw [← hp]
  rw [step_Show] at hp
  replace hp := Lib.hid hp
  have hmm := @run_makeMap Tryz.prog
  obtain ⟨w1, w2, w3, w4, w5, w6, w7, w8, w9, w10, u1, u2, u3, u4, u5, u6, u7, u8, u9, u10, hM, hB⟩ := wants_map w
  have hlk := want_look hM kShow 0 (by decide) rfl rfl
  have h1 := h.next hB
  have hw1 := hw.next hB
  have hx0 := strs_cell hw1 (k := 0) (x := kShow) rfl
  have qRow : ((S kShow).toList == [114, 111, 119]) = false := by rw [S_list]; rfl
  have qClear : ((S kShow).toList == [99, 108, 101, 97, 114]) = false := by rw [S_list]; rfl
  have qBuild : ((S kShow).toList == [98, 117, 105, 108, 100]) = false := by rw [S_list]; rfl
  have qSwitch : ((S kShow).toList == [115, 119, 105, 116, 99, 104]) = false := by rw [S_list]; rfl
  have qNext : ((S kShow).toList == [110, 101, 120, 116]) = false := by rw [S_list]; rfl
  have qProof : ((S kShow).toList == [112, 114, 111, 111, 102]) = false := by rw [S_list]; rfl
  have qShow : ((S kShow).toList == [115, 104, 111, 119]) = true := by rw [S_list]; rfl
  clear hM
  obtain ⟨A, n, c, b1, b2, b3⟩ := id h1
  have hn6 : n ≤ 6 := by have := h.len; have := b2.1; simp only at *; omega
  have c0 := b1.cell 0
  have c1 := b1.cell 1
  have hk' := Lib.hid hk
  have hT := Lib.hid (show okB ((W, xs) : Ig).1 ((W, xs) : Ig).2 = false from hk)
  clear hk
  go_enter Tryz.func45, Tryz.ntmps45
  go_wp2_with fail
  refine (impl_ImageValid_c _ _ _ _ xs _ b2.rd (by omega)).mono ?_
  rw [hk'.out]
  rintro e wv ⟨rfl, hbv⟩
  go_wp2
  go_ret2
  rw [hp.out, hT.out]
  exact Res.of (r := []) (ok := false) rfl rfl (by decide) (h1.next hbv) (grown_trans (grown_of_below hB (some sb)) (grown_of_below hbv _))

set_option maxHeartbeats 4000000 in
theorem exec_Show_yes (sb wb : Nat) (W : Int) (xs : List Int) (w : World) (h : SS w sb (W, xs)) (hw : Blk w wb 9 (strs [kShow])) (hk : okB W xs = true) :
    Calls Tryz.prog 45 #[.pointer (some ⟨sb, 0, none⟩), .slice (some ⟨wb, 0, none⟩) 1 1] w (Res w sb (stepS (W, xs) [kShow])) := by
  obtain ⟨p, hp⟩ : ∃ p, p = stepS (W, xs) [kShow] := ⟨_, rfl⟩
  rw [← hp]
  rw [step_Show] at hp
  replace hp := Lib.hid hp
  have hmm := @run_makeMap Tryz.prog
  obtain ⟨w1, w2, w3, w4, w5, w6, w7, w8, w9, w10, u1, u2, u3, u4, u5, u6, u7, u8, u9, u10, hM, hB⟩ := wants_map w
  have hlk := want_look hM kShow 0 (by decide) rfl rfl
  have h1 := h.next hB
  have hw1 := hw.next hB
  have hx0 := strs_cell hw1 (k := 0) (x := kShow) rfl
  have qRow : ((S kShow).toList == [114, 111, 119]) = false := by rw [S_list]; rfl
  have qClear : ((S kShow).toList == [99, 108, 101, 97, 114]) = false := by rw [S_list]; rfl
  have qBuild : ((S kShow).toList == [98, 117, 105, 108, 100]) = false := by rw [S_list]; rfl
  have qSwitch : ((S kShow).toList == [115, 119, 105, 116, 99, 104]) = false := by rw [S_list]; rfl
  have qNext : ((S kShow).toList == [110, 101, 120, 116]) = false := by rw [S_list]; rfl
  have qProof : ((S kShow).toList == [112, 114, 111, 111, 102]) = false := by rw [S_list]; rfl
  have qShow : ((S kShow).toList == [115, 104, 111, 119]) = true := by rw [S_list]; rfl
  clear hM
  obtain ⟨A, n, c, b1, b2, b3⟩ := id h1
  have hn6 : n ≤ 6 := by have := h.len; have := b2.1; simp only at *; omega
  have c0 := b1.cell 0
  have c1 := b1.cell 1
  have hbd := okB_bd hk
  obtain ⟨m, rfl⟩ : ∃ m : Nat, W = (m : Int) := ⟨W.toNat, by omega⟩
  have hk' := Lib.hid hk
  have hT := Lib.hid (show okB (((m : Int), xs) : Ig).1 (((m : Int), xs) : Ig).2 = true from hk)
  have hx := Lib.hid (show textW (m : Int) xs = textL m xs by simp [textW, hk])
  have hlen := textL_len hk
  have htr := Lib.hid (trim_text hk)
  clear hk
  go_enter Tryz.func45, Tryz.ntmps45
  go_wp2_with fail
  refine (impl_ImageValid_c _ _ _ _ xs _ b2.rd (by omega)).mono ?_
  rw [hk'.out]
  rintro e wv ⟨rfl, hbv⟩
  have h2 := h1.next hbv
  have b1v := b1.next hbv
  have b2v := b2.next hbv
  have hw2 := hw1.next hbv
  have d0 := b1v.cell 0
  have d1 := b1v.cell 1
  have hy0 := strs_cell hw2 (k := 0) (x := kShow) rfl
  go_wp2_with fail
  refine (ImageText_c (m : Int) A n c xs _ b2v.rd (by omega)).mono ?_
  rw [hx.out]
  rintro e w12 ⟨rfl, hb12⟩
  have h3 := h2.next hb12
  go_wp2_with fail
  refine (TrimSuffix_c (textL m xs) [10] w12 (by omega)).mono ?_
  rw [htr.out]
  rintro e w13 ⟨rfl, rfl⟩
  go_wp2
  go_ret2
  rw [hp.out, hT.out]
  exact Res.of (r := (textL m xs).dropLast) (ok := true) rfl (by simp only [Int.toNat_natCast]; rfl) (by simp; omega) h3 (grown_trans (grown_of_below hB (some sb)) (grown_trans (grown_of_below hbv _) (grown_of_below hb12 _)))

set_option maxHeartbeats 4000000 in
theorem exec_Unique_no (sb wb : Nat) (W : Int) (xs : List Int) (w : World) (h : SS w sb (W, xs)) (hw : Blk w wb 9 (strs [kUnique])) (hk : okB W xs = false) :
    Calls Tryz.prog 45 #[.pointer (some ⟨sb, 0, none⟩), .slice (some ⟨wb, 0, none⟩) 1 1] w (Res w sb (stepS (W, xs) [kUnique])) := by
  obtain ⟨p, hp⟩ : ∃ p, p = stepS (W, xs) [kUnique] := ⟨_, rfl⟩
  rw [← hp]
  rw [step_Unique] at hp
  replace hp := Lib.hid hp
  have hmm := @run_makeMap Tryz.prog
  obtain ⟨w1, w2, w3, w4, w5, w6, w7, w8, w9, w10, u1, u2, u3, u4, u5, u6, u7, u8, u9, u10, hM, hB⟩ := wants_map w
  have hlk := want_look hM kUnique 0 (by decide) rfl rfl
  have h1 := h.next hB
  have hw1 := hw.next hB
  have hx0 := strs_cell hw1 (k := 0) (x := kUnique) rfl
  have qRow : ((S kUnique).toList == [114, 111, 119]) = false := by rw [S_list]; rfl
  have qClear : ((S kUnique).toList == [99, 108, 101, 97, 114]) = false := by rw [S_list]; rfl
  have qBuild : ((S kUnique).toList == [98, 117, 105, 108, 100]) = false := by rw [S_list]; rfl
  have qSwitch : ((S kUnique).toList == [115, 119, 105, 116, 99, 104]) = false := by rw [S_list]; rfl
  have qNext : ((S kUnique).toList == [110, 101, 120, 116]) = false := by rw [S_list]; rfl
  have qProof : ((S kUnique).toList == [112, 114, 111, 111, 102]) = false := by rw [S_list]; rfl
  have qShow : ((S kUnique).toList == [115, 104, 111, 119]) = false := by rw [S_list]; rfl
  have qSums : ((S kUnique).toList == [115, 117, 109, 115]) = false := by rw [S_list]; rfl
  have qUnique : ((S kUnique).toList == [117, 110, 105, 113, 117, 101]) = true := by rw [S_list]; rfl
  clear hM
  obtain ⟨A, n, c, b1, b2, b3⟩ := id h1
  have hn6 : n ≤ 6 := by have := h.len; have := b2.1; simp only at *; omega
  have c0 := b1.cell 0
  have c1 := b1.cell 1
  have hk' := Lib.hid hk
  have hT := Lib.hid (show okB ((W, xs) : Ig).1 ((W, xs) : Ig).2 = false from hk)
  clear hk
  go_enter Tryz.func45, Tryz.ntmps45
  go_wp2_with fail
  refine (impl_ImageValid_c _ _ _ _ xs _ b2.rd (by omega)).mono ?_
  rw [hk'.out]
  rintro e wv ⟨rfl, hbv⟩
  go_wp2
  go_ret2
  rw [hp.out, hT.out]
  exact Res.of (r := []) (ok := false) rfl rfl (by decide) (h1.next hbv) (grown_trans (grown_of_below hB (some sb)) (grown_of_below hbv _))

set_option maxHeartbeats 4000000 in
theorem exec_Unique_yes (sb wb : Nat) (W : Int) (xs : List Int) (w : World) (h : SS w sb (W, xs)) (hw : Blk w wb 9 (strs [kUnique])) (hk : okB W xs = true) :
    Calls Tryz.prog 45 #[.pointer (some ⟨sb, 0, none⟩), .slice (some ⟨wb, 0, none⟩) 1 1] w (Res w sb (stepS (W, xs) [kUnique])) := by
  obtain ⟨p, hp⟩ : ∃ p, p = stepS (W, xs) [kUnique] := ⟨_, rfl⟩
  rw [← hp]
  rw [step_Unique] at hp
  replace hp := Lib.hid hp
  have hmm := @run_makeMap Tryz.prog
  obtain ⟨w1, w2, w3, w4, w5, w6, w7, w8, w9, w10, u1, u2, u3, u4, u5, u6, u7, u8, u9, u10, hM, hB⟩ := wants_map w
  have hlk := want_look hM kUnique 0 (by decide) rfl rfl
  have h1 := h.next hB
  have hw1 := hw.next hB
  have hx0 := strs_cell hw1 (k := 0) (x := kUnique) rfl
  have qRow : ((S kUnique).toList == [114, 111, 119]) = false := by rw [S_list]; rfl
  have qClear : ((S kUnique).toList == [99, 108, 101, 97, 114]) = false := by rw [S_list]; rfl
  have qBuild : ((S kUnique).toList == [98, 117, 105, 108, 100]) = false := by rw [S_list]; rfl
  have qSwitch : ((S kUnique).toList == [115, 119, 105, 116, 99, 104]) = false := by rw [S_list]; rfl
  have qNext : ((S kUnique).toList == [110, 101, 120, 116]) = false := by rw [S_list]; rfl
  have qProof : ((S kUnique).toList == [112, 114, 111, 111, 102]) = false := by rw [S_list]; rfl
  have qShow : ((S kUnique).toList == [115, 104, 111, 119]) = false := by rw [S_list]; rfl
  have qSums : ((S kUnique).toList == [115, 117, 109, 115]) = false := by rw [S_list]; rfl
  have qUnique : ((S kUnique).toList == [117, 110, 105, 113, 117, 101]) = true := by rw [S_list]; rfl
  clear hM
  obtain ⟨A, n, c, b1, b2, b3⟩ := id h1
  have hn6 : n ≤ 6 := by have := h.len; have := b2.1; simp only at *; omega
  have c0 := b1.cell 0
  have c1 := b1.cell 1
  have hbd := okB_bd hk
  obtain ⟨m, rfl⟩ : ∃ m : Nat, W = (m : Int) := ⟨W.toNat, by omega⟩
  have hk' := Lib.hid hk
  have hT := Lib.hid (show okB (((m : Int), xs) : Ig).1 (((m : Int), xs) : Ig).2 = true from hk)
  have hu : uniqB (m : Int) xs = decide (swList m xs = []) := by rw [uniqB, hk]; rfl
  have hu' := Lib.hid hu
  have hS := Lib.hid (show (if swList ((((m : Int), xs) : Ig).1.toNat) (((m : Int), xs) : Ig).2 = [] then tYes else tSeveral) = if decide (swList m xs = []) then tYes else tSeveral by simp only [Int.toNat_natCast, decide_eq_true_eq])
  clear hk hu
  go_enter Tryz.func45, Tryz.ntmps45
  go_wp2_with fail
  refine (impl_ImageValid_c _ _ _ _ xs _ b2.rd (by omega)).mono ?_
  rw [hk'.out]
  rintro e wv ⟨rfl, hbv⟩
  have h2 := h1.next hbv
  have b1v := b1.next hbv
  have b2v := b2.next hbv
  have hw2 := hw1.next hbv
  have d0 := b1v.cell 0
  have d1 := b1v.cell 1
  have hy0 := strs_cell hw2 (k := 0) (x := kUnique) rfl
  go_wp2_with fail
  refine (impl_ImageUnique_c (m : Int) A n c xs _ b2v.rd (by omega)).mono ?_
  rw [hu'.out]
  replace hp := Lib.hid (hp.out.trans (by rw [hS.out, hT.out]))
  generalize decide (swList m xs = []) = uq at hp ⊢
  rintro e w12 ⟨rfl, hb12⟩
  have h3 := h2.next hb12
  cases uq
  all_goals
    go_wp2
    go_ret2
    rw [hp.out]
    exact Res.of (r := _) (ok := true) rfl rfl (by decide) h3 (grown_trans (grown_of_below hB (some sb)) (grown_trans (grown_of_below hbv _) (grown_of_below hb12 _)))
end Go.Proofs.YtpeiolimdglmhaaGreatDoor

-- Walks: orders of a script are executed: build, switch, next.
namespace Go.Proofs.YtpeiolimdglmhaaGreatDoor
open Go.RowKit
set_option maxRecDepth 100000

set_option maxHeartbeats 4000000 in
theorem exec_Next (sb wb : Nat) (W : Int) (xs : List Int) (w : World) (h : SS w sb (W, xs)) (hw : Blk w wb 9 (strs [kNext])) :
    Calls Tryz.prog 45 #[.pointer (some ⟨sb, 0, none⟩), .slice (some ⟨wb, 0, none⟩) 1 1] w (Res w sb (stepS (W, xs) [kNext])) := by
  obtain ⟨p, hp⟩ : ∃ p, p = stepS (W, xs) [kNext] := ⟨_, rfl⟩
  rw [← hp]
  rw [step_Next] at hp
  replace hp := Lib.hid hp
  have hmm := @run_makeMap Tryz.prog
  obtain ⟨w1, w2, w3, w4, w5, w6, w7, w8, w9, w10, u1, u2, u3, u4, u5, u6, u7, u8, u9, u10, hM, hB⟩ := wants_map w
  have hlk := want_look hM kNext 0 (by decide) rfl rfl
  have h1 := h.next hB
  have hw1 := hw.next hB
  have hx0 := strs_cell hw1 (k := 0) (x := kNext) rfl
  have qRow : ((S kNext).toList == [114, 111, 119]) = false := by rw [S_list]; rfl
  have qClear : ((S kNext).toList == [99, 108, 101, 97, 114]) = false := by rw [S_list]; rfl
  have qBuild : ((S kNext).toList == [98, 117, 105, 108, 100]) = false := by rw [S_list]; rfl
  have qSwitch : ((S kNext).toList == [115, 119, 105, 116, 99, 104]) = false := by rw [S_list]; rfl
  have qNext : ((S kNext).toList == [110, 101, 120, 116]) = true := by rw [S_list]; rfl
  clear hM
  obtain ⟨A, n, c, b1, b2, b3⟩ := id h1
  have hn6 : n ≤ 6 := by have := h.len; have := b2.1; simp only at *; omega
  have c0 := b1.cell 0
  have c1 := b1.cell 1
  go_enter Tryz.func45, Tryz.ntmps45
  go_wp2_with fail
  refine (impl_ImageNext_c W A n c xs _ b2.rd (by omega)).mono ?_
  rintro e w12 ⟨V, R, r, k, zs, rfl, hv, ho, hb12⟩
  have h3 := h1.next hb12
  have hz := h1.lt
  go_wp2_with fail
  refine (become_res sb (W, xs) (exNext (W, xs)) V R r k zs w w12 (grown_trans (grown_of_below hB (some sb)) (grown_of_below hb12 _)) h3 (ho.mono (by omega)) (fun z e => ?_)).mono ?_
  · have := okB_nx e
    rw [hv z e] at this
    exact ⟨hv z e, this⟩
  · rintro e w13 hR
    obtain ⟨r, ok, rfl, q1, q2, q3, q4⟩ := hR
    go_wp2
    go_ret2
    rw [hp.out]
    exact ⟨r, ok, rfl, q1, q2, q3, q4⟩

set_option maxHeartbeats 4000000 in
theorem exec_Build (sb wb : Nat) (s : Ig) (x y : Bs) (w : World) (h : SS w sb s) (hw : Blk w wb 9 (strs [kBuild, x, y])) (hx : x.length ≤ 1000) (hy : y.length ≤ 1000) (hne : wb ≠ sb) :
    Calls Tryz.prog 45 #[.pointer (some ⟨sb, 0, none⟩), .slice (some ⟨wb, 0, none⟩) 3 3] w (Res w sb (stepS s [kBuild, x, y])) := by
  obtain ⟨p, hp⟩ : ∃ p, p = stepS s [kBuild, x, y] := ⟨_, rfl⟩
  rw [← hp]
  rw [step_Build] at hp
  replace hp := Lib.hid hp
  have hmm := @run_makeMap Tryz.prog
  obtain ⟨w1, w2, w3, w4, w5, w6, w7, w8, w9, w10, u1, u2, u3, u4, u5, u6, u7, u8, u9, u10, hM, hB⟩ := wants_map w
  have hlk := want_look hM kBuild 2 (by decide) rfl rfl
  have h1 := h.next hB
  have hw1 := hw.next hB
  have hx0 := strs_cell hw1 (k := 0) (x := kBuild) rfl
  have hx1 := strs_cell hw1 (k := 1) (x := x) rfl
  have hx2 := strs_cell hw1 (k := 2) (x := y) rfl
  have qRow : ((S kBuild).toList == [114, 111, 119]) = false := by rw [S_list]; rfl
  have qClear : ((S kBuild).toList == [99, 108, 101, 97, 114]) = false := by rw [S_list]; rfl
  have qBuild : ((S kBuild).toList == [98, 117, 105, 108, 100]) = true := by rw [S_list]; rfl
  clear hM
  have hw1d := hw1.drew
  have h1d : SS w10.drew sb s := h1.next (Below.drew (Below.refl _ _))
  have hBd : Below w.heap.size w w10.drew := Below.drew hB
  have hLr := Below.refl w10.drew.heap.size w10.drew
  have hz : sb < w10.drew.heap.size := h1d.lt
  go_enter Tryz.func45, Tryz.ntmps45
  go_wp2
  clear hx0 hx1 hx2
  go_region_held3 (fun w' => w'.cell? ⟨wb, 1, none⟩ = some (.string (S x)) ∧ w'.cell? ⟨wb, 2, none⟩ = some (.string (S y)))
    (first
      | exact ⟨strs_cell (hw1d.next hLr) (k := 1) (x := x) rfl, strs_cell (hw1d.next hLr) (k := 2) (x := y) rfl⟩
      | exact ⟨strs_cell (hw1d.grown q4 (fun e => hne (Option.some.inj e))) (k := 1) (x := x) rfl, strs_cell (hw1d.grown q4 (fun e => hne (Option.some.inj e))) (k := 2) (x := y) rfl⟩)
    (first
      | (go_at_call 82
         first
          | (have hmark := hO1
             clear hmark
             refine (digits_c y _ (by omega)).mono ?_
             rintro e w12 ⟨R2, d2, rfl, hO2, hb2⟩
             have hO1 := hO1.next hb2
             have hLr := lo_trans hLr hb2)
          | (refine (digits_c x _ (by omega)).mono ?_
             rintro e w11 ⟨R1, d1, rfl, hO1, hb1⟩
             have hLr := lo_trans hLr hb1))
      | (go_at_call 33
         refine (BuildImage_i _ _ _ _ _ _ (dgs x) (dgs y) _ hO1.rd hO2.rd (by have := dgs_len x; omega) (by have := dgs_len y; omega)).mono ?_
         rintro e w13 ⟨V, R, r, k, zs, rfl, hv, ho, hb3⟩
         have hz12 := hLr.size
         have hLr := lo_trans hLr hb3)
      | (go_at_call 81
         refine (become_res sb s (exBuild (dgs x) (dgs y)) V R r k zs w10.drew _ (grown_of_below hLr _) (h1d.next hLr) (ho.mono (by omega)) (fun z e => ⟨hv z e, by have := okB_bld e; rw [hv z e] at this; exact this⟩)).mono ?_
         rintro e w14 ⟨rr, ok, rfl, q1, q2, q3, q4⟩))
  go_wp2
  go_ret2
  rw [hp.out]
  exact ⟨rr, ok, rfl, q1, q2, q3, grown_trans (grown_of_below hBd _) q4⟩

set_option maxHeartbeats 4000000 in
theorem exec_Switch (sb wb : Nat) (W : Int) (xs : List Int) (x y z u : Bs) (w : World) (h : SS w sb (W, xs)) (hw : Blk w wb 9 (strs [kSwitch, x, y, z, u])) (hx : x.length ≤ 1000) (hy : y.length ≤ 1000) (hz : z.length ≤ 1000) (hu : u.length ≤ 1000) :
    Calls Tryz.prog 45 #[.pointer (some ⟨sb, 0, none⟩), .slice (some ⟨wb, 0, none⟩) 5 5] w (Res w sb (stepS (W, xs) [kSwitch, x, y, z, u])) := by
  obtain ⟨p, hp⟩ : ∃ p, p = stepS (W, xs) [kSwitch, x, y, z, u] := ⟨_, rfl⟩
  rw [← hp]
  rw [step_Switch] at hp
  replace hp := Lib.hid hp
  have hmm := @run_makeMap Tryz.prog
  obtain ⟨w1, w2, w3, w4, w5, w6, w7, w8, w9, w10, u1, u2, u3, u4, u5, u6, u7, u8, u9, u10, hM, hB⟩ := wants_map w
  have hlk := want_look hM kSwitch 4 (by decide) rfl rfl
  have h1 := h.next hB
  have hw1 := hw.next hB
  have hx0 := strs_cell hw1 (k := 0) (x := kSwitch) rfl
  have hx1 := strs_cell hw1 (k := 1) (x := x) rfl
  have hx2 := strs_cell hw1 (k := 2) (x := y) rfl
  have hx3 := strs_cell hw1 (k := 3) (x := z) rfl
  have hx4 := strs_cell hw1 (k := 4) (x := u) rfl
  have qRow : ((S kSwitch).toList == [114, 111, 119]) = false := by rw [S_list]; rfl
  have qClear : ((S kSwitch).toList == [99, 108, 101, 97, 114]) = false := by rw [S_list]; rfl
  have qBuild : ((S kSwitch).toList == [98, 117, 105, 108, 100]) = false := by rw [S_list]; rfl
  have qSwitch : ((S kSwitch).toList == [115, 119, 105, 116, 99, 104]) = true := by rw [S_list]; rfl
  clear hM
  obtain ⟨A, n, c, b1, b2, b3⟩ := id h1
  have hn6 : n ≤ 6 := by have := h.len; have := b2.1; simp only at *; omega
  have c0 := b1.cell 0
  have c1 := b1.cell 1
  have hw1d := hw1.drew
  have h1d : SS w10.drew sb (W, xs) := h1.next (Below.drew (Below.refl _ _))
  have hBd : Below w.heap.size w w10.drew := Below.drew hB
  have hLr := Below.refl w10.drew.heap.size w10.drew
  have hz : sb < w10.drew.heap.size := h1d.lt
  have b1d := b1.drew
  have b2d := b2.drew
  go_enter Tryz.func45, Tryz.ntmps45
  go_wp2
  clear hx0 hx1 hx2 hx3 hx4 c0 c1
  refine wp_region_noPanic ?_
  refine wp_region_N 25 30 (by kernel_rfl) (S := fun w' => w'.cell? ⟨sb, 0, none⟩ = some (.int .i64 W) ∧ w'.cell? ⟨sb, 1, none⟩ = some (.slice A n c) ∧ w'.cell? ⟨wb, 1, none⟩ = some (.string (S x)) ∧ w'.cell? ⟨wb, 2, none⟩ = some (.string (S y)) ∧ w'.cell? ⟨wb, 3, none⟩ = some (.string (S z)) ∧ w'.cell? ⟨wb, 4, none⟩ = some (.string (S u)))
    (by kernel_rfl) ⟨b1d.cell 0, b1d.cell 1, strs_cell hw1d (k := 1) (x := x) rfl, strs_cell hw1d (k := 2) (x := y) rfl, strs_cell hw1d (k := 3) (x := z) rfl, strs_cell hw1d (k := 4) (x := u) rfl⟩ (fun hHeld => ?_)
  refine wpAnyN_take (i := 0) (v := ?_) rfl (by kernel_rfl) (fun _ _ _ h => h) (Or.inl ⟨by rfl, ?_⟩) hHeld ?_
  rotate_left
  focus
    intro w' hSw
    (try dsimp only at hSw)
    go_simp
    try with_reducible rfl
  (try simp only [Act.put, List.setIfInBounds_toArray, List.set_cons_zero, List.set_cons_succ, List.getElem_toArray, List.getElem_cons_zero])
  refine wpAnyN_take (i := 1) (v := ?_) rfl (by kernel_rfl) (fun _ _ _ h => h) (Or.inl ⟨by rfl, ?_⟩) hHeld ?_
  rotate_left
  focus
    intro w' hSw
    (try dsimp only at hSw)
    go_simp
    try with_reducible rfl
  (try simp only [Act.put, List.setIfInBounds_toArray, List.set_cons_zero, List.set_cons_succ, List.getElem_toArray, List.getElem_cons_zero, List.getElem_cons_succ])
  refine wpAnyN_take (i := 2) (v := ?_) rfl (by kernel_rfl) (fun _ _ _ h => h) (Or.inl ⟨by rfl, ?_⟩) hHeld ?_
  rotate_left
  focus
    intro w' hSw
    (try dsimp only at hSw)
    go_simp
    try with_reducible rfl
  (try simp only [Act.put, List.setIfInBounds_toArray, List.set_cons_zero, List.set_cons_succ, List.getElem_toArray, List.getElem_cons_zero, List.getElem_cons_succ])
  refine wpAnyN_take (i := 3) (v := ?_) rfl (by kernel_rfl) (fun _ _ _ h => h) (Or.inl ⟨by rfl, ?_⟩) hHeld ?_
  rotate_left
  focus
    intro w' hSw
    (try dsimp only at hSw)
    go_simp
    try with_reducible rfl
  (try simp only [Act.put, List.setIfInBounds_toArray, List.set_cons_zero, List.set_cons_succ, List.getElem_toArray, List.getElem_cons_zero, List.getElem_cons_succ])
  refine wpAnyN_take (i := 4) (v := ?_) rfl (by kernel_rfl) (fun _ _ _ h => h) (Or.inl ⟨by rfl, ?_⟩) hHeld ?_
  rotate_left
  focus
    intro w' hSw
    (try dsimp only at hSw)
    go_simp
    try with_reducible rfl
  (try simp only [Act.put, List.setIfInBounds_toArray, List.set_cons_zero, List.set_cons_succ, List.getElem_toArray, List.getElem_cons_zero, List.getElem_cons_succ])
  refine wpAnyN_take (i := 5) (v := ?_) rfl (by kernel_rfl) (fun _ _ _ h => h) (Or.inl ⟨by rfl, ?_⟩) hHeld ?_
  rotate_left
  focus
    intro w' hSw
    (try dsimp only at hSw)
    go_simp
    try with_reducible rfl
  (try simp only [Act.put, List.setIfInBounds_toArray, List.set_cons_zero, List.set_cons_succ, List.getElem_toArray, List.getElem_cons_zero, List.getElem_cons_succ])
  refine wpAnyN_take (i := 6) (v := ?_) rfl (by kernel_rfl) (fun _ _ _ h => h) (Or.inl ⟨by rfl, ?_⟩) hHeld ?_
  rotate_left
  focus
    intro w' hSw
    (try dsimp only at hSw)
    go_simp
    try with_reducible rfl
  (try simp only [Act.put, List.setIfInBounds_toArray, List.set_cons_zero, List.set_cons_succ, List.getElem_toArray, List.getElem_cons_zero, List.getElem_cons_succ])
  refine wpAnyN_take (i := 7) (v := ?_) rfl (by kernel_rfl) (fun _ _ _ h => h) (Or.inl ⟨by rfl, ?_⟩) hHeld ?_
  rotate_left
  focus
    intro w' hSw
    (try dsimp only at hSw)
    go_simp
    try with_reducible rfl
  (try simp only [Act.put, List.setIfInBounds_toArray, List.set_cons_zero, List.set_cons_succ, List.getElem_toArray, List.getElem_cons_zero, List.getElem_cons_succ])
  refine wpAnyN_take (i := 9) (v := ?_) rfl (by kernel_rfl) (fun _ _ _ h => h) (Or.inl ⟨by rfl, ?_⟩) hHeld ?_
  rotate_left
  focus
    intro w' hSw
    (try dsimp only at hSw)
    go_simp
    try with_reducible rfl
  (try simp only [Act.put, List.setIfInBounds_toArray, List.set_cons_zero, List.set_cons_succ, List.getElem_toArray, List.getElem_cons_zero, List.getElem_cons_succ])
  refine wpAnyN_take (i := 10) (v := ?_) rfl (by kernel_rfl) (fun _ _ _ h => h) (Or.inl ⟨by rfl, ?_⟩) hHeld ?_
  rotate_left
  focus
    intro w' hSw
    (try dsimp only at hSw)
    go_simp
    try with_reducible rfl
  (try simp only [Act.put, List.setIfInBounds_toArray, List.set_cons_zero, List.set_cons_succ, List.getElem_toArray, List.getElem_cons_zero, List.getElem_cons_succ])
  refine wpAnyN_take (i := 11) (v := ?_) rfl (by kernel_rfl) (fun _ _ _ h => h) (Or.inl ⟨by rfl, ?_⟩) hHeld ?_
  rotate_left
  focus
    intro w' hSw
    (try dsimp only at hSw)
    go_simp
    try with_reducible rfl
  (try simp only [Act.put, List.setIfInBounds_toArray, List.set_cons_zero, List.set_cons_succ, List.getElem_toArray, List.getElem_cons_zero, List.getElem_cons_succ])
  refine wpAnyN_take (i := 13) (v := ?_) rfl (by kernel_rfl) (fun _ _ _ h => h) (Or.inl ⟨by rfl, ?_⟩) hHeld ?_
  rotate_left
  focus
    intro w' hSw
    (try dsimp only at hSw)
    go_simp
    try with_reducible rfl
  (try simp only [Act.put, List.setIfInBounds_toArray, List.set_cons_zero, List.set_cons_succ, List.getElem_toArray, List.getElem_cons_zero, List.getElem_cons_succ])
  refine wpAnyN_take (i := 14) (v := ?_) rfl (by kernel_rfl) (fun _ _ _ h => h) (Or.inl ⟨by rfl, ?_⟩) hHeld ?_
  rotate_left
  focus
    intro w' hSw
    (try dsimp only at hSw)
    go_simp
    try with_reducible rfl
  (try simp only [Act.put, List.setIfInBounds_toArray, List.set_cons_zero, List.set_cons_succ, List.getElem_toArray, List.getElem_cons_zero, List.getElem_cons_succ])
  refine wpAnyN_take (i := 15) (v := ?_) rfl (by kernel_rfl) (fun _ _ _ h => h) (Or.inl ⟨by rfl, ?_⟩) hHeld ?_
  rotate_left
  focus
    intro w' hSw
    (try dsimp only at hSw)
    go_simp
    try with_reducible rfl
  (try simp only [Act.put, List.setIfInBounds_toArray, List.set_cons_zero, List.set_cons_succ, List.getElem_toArray, List.getElem_cons_zero, List.getElem_cons_succ])
  refine wpAnyN_take (i := 17) (v := ?_) rfl (by kernel_rfl) (fun _ _ _ h => h) (Or.inl ⟨by rfl, ?_⟩) hHeld ?_
  rotate_left
  focus
    intro w' hSw
    (try dsimp only at hSw)
    go_simp
    try with_reducible rfl
  (try simp only [Act.put, List.setIfInBounds_toArray, List.set_cons_zero, List.set_cons_succ, List.getElem_toArray, List.getElem_cons_zero, List.getElem_cons_succ])
  refine wpAnyN_take (i := 18) (v := ?_) rfl (by kernel_rfl) (fun _ _ _ h => h) (Or.inl ⟨by rfl, ?_⟩) hHeld ?_
  rotate_left
  focus
    intro w' hSw
    (try dsimp only at hSw)
    go_simp
    try with_reducible rfl
  (try simp only [Act.put, List.setIfInBounds_toArray, List.set_cons_zero, List.set_cons_succ, List.getElem_toArray, List.getElem_cons_zero, List.getElem_cons_succ])
  refine wpAnyN_take (i := 19) (v := ?_) rfl (by kernel_rfl) (fun _ _ _ h => h) (Or.inl ⟨by rfl, ?_⟩) hHeld ?_
  rotate_left
  focus
    intro w' hSw
    (try dsimp only at hSw)
    go_simp
    try with_reducible rfl
  (try simp only [Act.put, List.setIfInBounds_toArray, List.set_cons_zero, List.set_cons_succ, List.getElem_toArray, List.getElem_cons_zero, List.getElem_cons_succ])
  refine wpAnyN_one (i := 8) (by kernel_rfl) rfl (fun K hK => ?_)
  (try simp only [Act.put, List.setIfInBounds_toArray, List.set_cons_zero, List.set_cons_succ, List.getElem_toArray, List.getElem_cons_zero, List.getElem_cons_succ])
  go_simp
  go_at_call 83
  refine (digit_c _ _ (by omega)).mono ?_
  rintro e w11 ⟨rfl, rfl⟩
  refine hK.out _ _ (fun _ => hHeld) ?_
  clear hK K
  (try simp only [Act.put, List.setIfInBounds_toArray, List.set_cons_zero, List.set_cons_succ, List.getElem_toArray, List.getElem_cons_zero, List.getElem_cons_succ])
  refine wpAnyN_one (i := 12) (by kernel_rfl) rfl (fun K hK => ?_)
  (try simp only [Act.put, List.setIfInBounds_toArray, List.set_cons_zero, List.set_cons_succ, List.getElem_toArray, List.getElem_cons_zero, List.getElem_cons_succ])
  go_simp
  go_at_call 83
  refine (digit_c _ _ (by omega)).mono ?_
  rintro e w11 ⟨rfl, rfl⟩
  refine hK.out _ _ (fun _ => hHeld) ?_
  clear hK K
  (try simp only [Act.put, List.setIfInBounds_toArray, List.set_cons_zero, List.set_cons_succ, List.getElem_toArray, List.getElem_cons_zero, List.getElem_cons_succ])
  refine wpAnyN_one (i := 16) (by kernel_rfl) rfl (fun K hK => ?_)
  (try simp only [Act.put, List.setIfInBounds_toArray, List.set_cons_zero, List.set_cons_succ, List.getElem_toArray, List.getElem_cons_zero, List.getElem_cons_succ])
  go_simp
  go_at_call 83
  refine (digit_c _ _ (by omega)).mono ?_
  rintro e w11 ⟨rfl, rfl⟩
  refine hK.out _ _ (fun _ => hHeld) ?_
  clear hK K
  (try simp only [Act.put, List.setIfInBounds_toArray, List.set_cons_zero, List.set_cons_succ, List.getElem_toArray, List.getElem_cons_zero, List.getElem_cons_succ])
  refine wpAnyN_one (i := 20) (by kernel_rfl) rfl (fun K hK => ?_)
  (try simp only [Act.put, List.setIfInBounds_toArray, List.set_cons_zero, List.set_cons_succ, List.getElem_toArray, List.getElem_cons_zero, List.getElem_cons_succ])
  go_simp
  go_at_call 83
  refine (digit_c _ _ (by omega)).mono ?_
  rintro e w11 ⟨rfl, rfl⟩
  refine hK.out _ _ (fun _ => hHeld) ?_
  clear hK K
  (try simp only [Act.put, List.setIfInBounds_toArray, List.set_cons_zero, List.set_cons_succ, List.getElem_toArray, List.getElem_cons_zero, List.getElem_cons_succ])
  refine wpAnyN_take (i := 21) (v := ?_) rfl (by kernel_rfl) (fun _ _ _ h => h) (Or.inl ⟨by rfl, ?_⟩) hHeld ?_
  rotate_left
  focus
    intro w' hSw
    (try dsimp only at hSw)
    go_simp
    try with_reducible rfl
  (try simp only [Act.put, List.setIfInBounds_toArray, List.set_cons_zero, List.set_cons_succ, List.getElem_toArray, List.getElem_cons_zero, List.getElem_cons_succ])
  refine wpAnyN_one (i := 22) (by kernel_rfl) rfl (fun K hK => ?_)
  (try simp only [Act.put, List.setIfInBounds_toArray, List.set_cons_zero, List.set_cons_succ, List.getElem_toArray, List.getElem_cons_zero, List.getElem_cons_succ])
  go_simp
  go_at_call 29
  refine (impl_SwitchDo_c W n c A xs (dgt x) (dgt y) (dgt z) (dgt u) _ b2d.rd (by omega)).mono ?_
  rintro e w13 ⟨V, R, r, k, zs, rfl, hv, ho, hb3⟩
  have hz12 := hLr.size
  have hLr := lo_trans hLr hb3
  have hHeld := And.intro ((b1d.next hLr).cell 0) (And.intro ((b1d.next hLr).cell 1) (And.intro (strs_cell (hw1d.next hLr) (k := 1) (x := x) rfl) (And.intro (strs_cell (hw1d.next hLr) (k := 2) (x := y) rfl) (And.intro (strs_cell (hw1d.next hLr) (k := 3) (x := z) rfl) (strs_cell (hw1d.next hLr) (k := 4) (x := u) rfl)))))
  refine hK.out _ _ (fun _ => hHeld) ?_
  clear hK K
  (try simp only [Act.put, List.setIfInBounds_toArray, List.set_cons_zero, List.set_cons_succ, List.getElem_toArray, List.getElem_cons_zero, List.getElem_cons_succ])
  refine wpAnyN_take (i := 23) (v := ?_) rfl (by kernel_rfl) (fun _ _ _ h => h) (Or.inl ⟨by rfl, ?_⟩) hHeld ?_
  rotate_left
  focus
    intro w' hSw
    (try dsimp only at hSw)
    go_simp
    try with_reducible rfl
  (try simp only [Act.put, List.setIfInBounds_toArray, List.set_cons_zero, List.set_cons_succ, List.getElem_toArray, List.getElem_cons_zero, List.getElem_cons_succ])
  refine wpAnyN_take (i := 24) (v := ?_) rfl (by kernel_rfl) (fun _ _ _ h => h) (Or.inl ⟨by rfl, ?_⟩) hHeld ?_
  rotate_left
  focus
    intro w' hSw
    (try dsimp only at hSw)
    go_simp
    try with_reducible rfl
  (try simp only [Act.put, List.setIfInBounds_toArray, List.set_cons_zero, List.set_cons_succ, List.getElem_toArray, List.getElem_cons_zero, List.getElem_cons_succ])
  refine wpAnyN_one (i := 25) (by kernel_rfl) rfl (fun K hK => ?_)
  (try simp only [Act.put, List.setIfInBounds_toArray, List.set_cons_zero, List.set_cons_succ, List.getElem_toArray, List.getElem_cons_zero, List.getElem_cons_succ])
  go_simp
  go_at_call 81
  refine (become_res sb (W, xs) (exSwitch (W, xs) (dgt x) (dgt y) (dgt z) (dgt u)) V R r k zs w10.drew _ (grown_of_below hLr _) (h1d.next hLr) (ho.mono (by omega)) (fun z e => ⟨hv z e, by have := okB_sw e; rw [hv z e] at this; exact this⟩)).mono ?_
  rintro e w14 ⟨rr, ok, rfl, q1, q2, q3, q4⟩
  refine hK.out _ _ (fun e => absurd e (by decide)) ?_
  clear hK K
  (try simp only [Act.put, List.setIfInBounds_toArray, List.set_cons_zero, List.set_cons_succ, List.getElem_toArray, List.getElem_cons_zero, List.getElem_cons_succ])
  refine wpAnyN_tail (by kernel_rfl) ?_
  refine wpAny_take (i := 26) (v := ?_) rfl (by kernel_rfl) (by kernel_rfl) (by kernel_rfl) (fun _ _ _ h => h) (Or.inl ⟨by rfl, ?_⟩) ?_
  rotate_left
  focus
    intro w'
    go_simp
    try with_reducible rfl
  (try simp only [Act.put, List.setIfInBounds_toArray, List.set_cons_zero, List.set_cons_succ, List.getElem_toArray, List.getElem_cons_zero, List.getElem_cons_succ])
  refine wpAny_take (i := 27) (v := ?_) rfl (by kernel_rfl) (by kernel_rfl) (by kernel_rfl) (fun _ _ _ h => h) (Or.inl ⟨by rfl, ?_⟩) ?_
  rotate_left
  focus
    intro w'
    go_simp
    try with_reducible rfl
  (try simp only [Act.put, List.setIfInBounds_toArray, List.set_cons_zero, List.set_cons_succ, List.getElem_toArray, List.getElem_cons_zero, List.getElem_cons_succ])
  refine wpAny_take (i := 28) (v := ?_) rfl (by kernel_rfl) (by kernel_rfl) (by kernel_rfl) (fun _ _ _ h => h) (Or.inl ⟨by rfl, ?_⟩) ?_
  rotate_left
  focus
    intro w'
    go_simp
    try with_reducible rfl
  (try simp only [Act.put, List.setIfInBounds_toArray, List.set_cons_zero, List.set_cons_succ, List.getElem_toArray, List.getElem_cons_zero, List.getElem_cons_succ])
  refine wpAny_take (i := 29) (v := ?_) rfl (by kernel_rfl) (by kernel_rfl) (by kernel_rfl) (fun _ _ _ h => h) (Or.inl ⟨by rfl, ?_⟩) ?_
  rotate_left
  focus
    intro w'
    go_simp
    try with_reducible rfl
  (try simp only [Act.put, List.setIfInBounds_toArray, List.set_cons_zero, List.set_cons_succ, List.getElem_toArray, List.getElem_cons_zero, List.getElem_cons_succ])
  refine wpAny_done (by kernel_rfl) ?_ _
  refine NoPanic.normal ?_
  go_wp2
  go_ret2
  rw [hp.out]
  exact ⟨rr, ok, rfl, q1, q2, q3, grown_trans (grown_of_below hBd _) q4⟩
end Go.Proofs.YtpeiolimdglmhaaGreatDoor
