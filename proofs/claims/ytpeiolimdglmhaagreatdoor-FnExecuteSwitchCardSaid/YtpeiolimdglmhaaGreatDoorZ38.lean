/- Plain facts and walks that the law's proof uses; each says its own conditions. -/
import Derived.Test.YtpeiolimdglmhaaGreatDoorZ36
import Derived.Deep.RegionHeld3
import Derived.Test.YtpeiolimdglmhaaGreatDoorZ04
import Derived.Test.YtpeiolimdglmhaaGreatDoorZ37
import Derived.Test.YtpeiolimdglmhaaGreatDoorZ30
import Derived.Deep.QuietTactic
import Derived.BigQuiet
-- Walks: orders of a script are executed: proof, sums, lines.
namespace Go.Proofs.YtpeiolimdglmhaaGreatDoor
open Go.RowKit
set_option maxRecDepth 100000

theorem pOf_lt {r c : List Int} : (pOf r c).getD 0 < 7 := by
  cases h : pOf r c with
  | none => decide
  | some t => exact List.mem_range.1 (List.mem_of_find?_eq_some h)
theorem rsum_100 {xs : List Int} : ∀ x ∈ rsum xs, 0 ≤ x ∧ x < 100 := by
  intro x hx
  obtain ⟨k, hk, rfl⟩ := List.mem_iff_getElem.1 hx
  have := rsum_bd xs (k := k) (by rw [rsum_len] at hk; exact hk)
  rw [List.getElem?_eq_getElem hk, Option.getD_some] at this
  omega
theorem csum_100 {m : Nat} {xs : List Int} (h : xs.length ≤ 6) : ∀ x ∈ csum m xs, 0 ≤ x ∧ x < 100 := by
  intro x hx
  have := csum_bd h x hx
  omega
theorem dirL_100 {d : Int} {m : Nat} {xs : List Int} (h : xs.length ≤ 6) (hm : m ≤ 6) : ∀ x ∈ dirL d m xs, 0 ≤ x ∧ x < 100 := by
  intro x hx
  unfold dirL at hx
  split at hx
  · exact dirS_le h hm x hx
  · cases hx
theorem dirL_len {d : Int} {m : Nat} {xs : List Int} (h : 1 ≤ xs.length ∧ xs.length ≤ 6) (hm : 1 ≤ m ∧ m ≤ 6) : (dirL d m xs).length ≤ 100 := by
  unfold dirL
  split
  · next hd =>
    simp only [dirB, Bool.and_eq_true, decide_eq_true_eq] at hd
    have := (lnK_lt (d := d.toNat) (h := xs.length) (m := m) (i := 0) (j := 0) (by omega) h.2 hm.2 (by omega) (by omega)).2.2
    rw [dirS, dst_len]
    omega
  · simp

set_option maxHeartbeats 4000000 in
theorem exec_Proof (sb wb : Nat) (s : Ig) (x y : Bs) (w : World) (h : SS w sb s) (hw : Blk w wb 9 (strs [kProof, x, y])) (hx : x.length ≤ 1000) (hy : y.length ≤ 1000) :
    Calls Tryz.prog 45 #[.pointer (some ⟨sb, 0, none⟩), .slice (some ⟨wb, 0, none⟩) 3 3] w (Res w sb (stepS s [kProof, x, y])) := by
  obtain ⟨p, hp⟩ : ∃ p, p = stepS s [kProof, x, y] := ⟨_, rfl⟩
  rw [← hp]
  rw [step_Proof] at hp
  replace hp := Lib.hid hp
  have hmm := @run_makeMap Tryz.prog
  obtain ⟨w1, w2, w3, w4, w5, w6, w7, w8, w9, w10, u1, u2, u3, u4, u5, u6, u7, u8, u9, u10, hM, hB⟩ := wants_map w
  have hlk := want_look hM kProof 2 (by decide) rfl rfl
  have h1 := h.next hB
  have hw1 := hw.next hB
  have hx0 := strs_cell hw1 (k := 0) (x := kProof) rfl
  have hx1 := strs_cell hw1 (k := 1) (x := x) rfl
  have hx2 := strs_cell hw1 (k := 2) (x := y) rfl
  have qRow : ((S kProof).toList == [114, 111, 119]) = false := by rw [S_list]; rfl
  have qClear : ((S kProof).toList == [99, 108, 101, 97, 114]) = false := by rw [S_list]; rfl
  have qBuild : ((S kProof).toList == [98, 117, 105, 108, 100]) = false := by rw [S_list]; rfl
  have qSwitch : ((S kProof).toList == [115, 119, 105, 116, 99, 104]) = false := by rw [S_list]; rfl
  have qNext : ((S kProof).toList == [110, 101, 120, 116]) = false := by rw [S_list]; rfl
  have qProof : ((S kProof).toList == [112, 114, 111, 111, 102]) = true := by rw [S_list]; rfl
  clear hM
  obtain ⟨t, ht⟩ : ∃ t : Nat, t = (pOf (dgs x) (dgs y)).getD 0 := ⟨_, rfl⟩
  obtain ⟨ok, hok⟩ : ∃ b : Bool, b = (pOf (dgs x) (dgs y)).isSome := ⟨_, rfl⟩
  have hpv := Lib.hid (show pVal (pOf (dgs x) (dgs y)) = .tuple #[.int .i64 (t : Int), .bool ok] by rw [ht, hok]; rfl)
  have ht7 : t < 7 := by rw [ht]; exact pOf_lt
  have hT : Hid (askO s ((pOf (dgs x) (dgs y)).map dec2) = (s, (if ok then dec2 t else tNo) ++ [10])) := by
    refine Lib.hid ?_
    rw [ht, hok]
    cases pOf (dgs x) (dgs y) <;> rfl
  clear ht hok
  have hw1d := hw1.drew
  have h1d : SS w10.drew sb s := h1.next (Below.drew (Below.refl _ _))
  have hBd : Below w.heap.size w w10.drew := Below.drew hB
  have hLr := Below.refl w10.drew.heap.size w10.drew
  go_enter Tryz.func45, Tryz.ntmps45
  go_wp2
  clear hx0 hx1 hx2
  go_region_held3 (fun w' => w'.cell? ⟨wb, 1, none⟩ = some (.string (S x)) ∧ w'.cell? ⟨wb, 2, none⟩ = some (.string (S y)))
    (exact ⟨strs_cell (hw1d.next hLr) (k := 1) (x := x) rfl, strs_cell (hw1d.next hLr) (k := 2) (x := y) rfl⟩)
    (first
      | (go_at_call 82
         first
          | (have hmark := hO1
             clear hmark
             refine (digits_c y _ (by omega)).mono ?_
             rintro e w12 ⟨R2, d2, rfl, hO2, hb2⟩
             have hO1 := hO1.next hb2
             have hLr := lo_trans hLr hb2)
          | (refine (digits_c x _ (by omega)).mono ?_
             rintro e w11 ⟨R1, d1, rfl, hO1, hb1⟩
             have hLr := lo_trans hLr hb1))
      | (go_at_call 27
         refine (impl_ProofOf_c _ _ _ _ _ _ (dgs x) (dgs y) _ hO1.rd hO2.rd (by have := dgs_len x; omega) (by have := dgs_len y; omega)).mono ?_
         rintro e w13 ⟨he, hb3⟩
         rw [hpv.out] at he
         subst he
         have hLr := lo_trans hLr hb3))
  go_wp2_with fail
  refine (Itoa_c t (by omega) _).mono ?_
  rintro e w14 ⟨rfl, rfl⟩
  go_wp2
  go_ret2
  rw [hp.out, hT.out]
  exact Res.of (r := dec2 t) (ok := ok) rfl rfl (by have := dec2_len t; omega) (h1d.next hLr) (grown_of_below (lo_trans hBd hLr) _)

set_option maxHeartbeats 4000000 in
theorem exec_Sums_no (sb wb : Nat) (W : Int) (xs : List Int) (w : World) (h : SS w sb (W, xs)) (hw : Blk w wb 9 (strs [kSums])) (hk : okB W xs = false) :
    Calls Tryz.prog 45 #[.pointer (some ⟨sb, 0, none⟩), .slice (some ⟨wb, 0, none⟩) 1 1] w (Res w sb (stepS (W, xs) [kSums])) := by
  obtain ⟨p, hp⟩ : ∃ p, p = stepS (W, xs) [kSums] := ⟨_, rfl⟩
  rw [← hp]
  rw [step_Sums] at hp
  replace hp := Lib.hid hp
  have hmm := @run_makeMap Tryz.prog
  obtain ⟨w1, w2, w3, w4, w5, w6, w7, w8, w9, w10, u1, u2, u3, u4, u5, u6, u7, u8, u9, u10, hM, hB⟩ := wants_map w
  have hlk := want_look hM kSums 0 (by decide) rfl rfl
  have h1 := h.next hB
  have hw1 := hw.next hB
  have hx0 := strs_cell hw1 (k := 0) (x := kSums) rfl
  have qRow : ((S kSums).toList == [114, 111, 119]) = false := by rw [S_list]; rfl
  have qClear : ((S kSums).toList == [99, 108, 101, 97, 114]) = false := by rw [S_list]; rfl
  have qBuild : ((S kSums).toList == [98, 117, 105, 108, 100]) = false := by rw [S_list]; rfl
  have qSwitch : ((S kSums).toList == [115, 119, 105, 116, 99, 104]) = false := by rw [S_list]; rfl
  have qNext : ((S kSums).toList == [110, 101, 120, 116]) = false := by rw [S_list]; rfl
  have qProof : ((S kSums).toList == [112, 114, 111, 111, 102]) = false := by rw [S_list]; rfl
  have qShow : ((S kSums).toList == [115, 104, 111, 119]) = false := by rw [S_list]; rfl
  have qSums : ((S kSums).toList == [115, 117, 109, 115]) = true := by rw [S_list]; rfl
  clear hM
  obtain ⟨A, n, c, b1, b2, b3⟩ := id h1
  have hn6 : n ≤ 6 := by have := h.len; have := b2.1; simp only at *; omega
  have c0 := b1.cell 0
  have c1 := b1.cell 1
  have hk' := Lib.hid hk
  have hT := Lib.hid (show okB ((W, xs) : Ig).1 ((W, xs) : Ig).2 = false from hk)
  clear hk
  go_enter Tryz.func45, Tryz.ntmps45
  go_wp2_with fail
  refine (impl_ImageValid_c _ _ _ _ xs _ b2.rd (by omega)).mono ?_
  rw [hk'.out]
  rintro e wv ⟨rfl, hbv⟩
  go_wp2
  go_ret2
  rw [hp.out, hT.out]
  exact Res.of (r := []) (ok := false) rfl rfl (by decide) (h1.next hbv) (grown_trans (grown_of_below hB (some sb)) (grown_of_below hbv _))

set_option maxHeartbeats 4000000 in
theorem exec_Sums_yes (sb wb : Nat) (W : Int) (xs : List Int) (w : World) (h : SS w sb (W, xs)) (hw : Blk w wb 9 (strs [kSums])) (hk : okB W xs = true) :
    Calls Tryz.prog 45 #[.pointer (some ⟨sb, 0, none⟩), .slice (some ⟨wb, 0, none⟩) 1 1] w (Res w sb (stepS (W, xs) [kSums])) := by
  obtain ⟨p, hp⟩ : ∃ p, p = stepS (W, xs) [kSums] := ⟨_, rfl⟩
  rw [← hp]
  rw [step_Sums] at hp
  replace hp := Lib.hid hp
  have hmm := @run_makeMap Tryz.prog
  obtain ⟨w1, w2, w3, w4, w5, w6, w7, w8, w9, w10, u1, u2, u3, u4, u5, u6, u7, u8, u9, u10, hM, hB⟩ := wants_map w
  have hlk := want_look hM kSums 0 (by decide) rfl rfl
  have h1 := h.next hB
  have hw1 := hw.next hB
  have hx0 := strs_cell hw1 (k := 0) (x := kSums) rfl
  have qRow : ((S kSums).toList == [114, 111, 119]) = false := by rw [S_list]; rfl
  have qClear : ((S kSums).toList == [99, 108, 101, 97, 114]) = false := by rw [S_list]; rfl
  have qBuild : ((S kSums).toList == [98, 117, 105, 108, 100]) = false := by rw [S_list]; rfl
  have qSwitch : ((S kSums).toList == [115, 119, 105, 116, 99, 104]) = false := by rw [S_list]; rfl
  have qNext : ((S kSums).toList == [110, 101, 120, 116]) = false := by rw [S_list]; rfl
  have qProof : ((S kSums).toList == [112, 114, 111, 111, 102]) = false := by rw [S_list]; rfl
  have qShow : ((S kSums).toList == [115, 104, 111, 119]) = false := by rw [S_list]; rfl
  have qSums : ((S kSums).toList == [115, 117, 109, 115]) = true := by rw [S_list]; rfl
  clear hM
  obtain ⟨A, n, c, b1, b2, b3⟩ := id h1
  have hn6 : n ≤ 6 := by have := h.len; have := b2.1; simp only at *; omega
  have c0 := b1.cell 0
  have c1 := b1.cell 1
  have hbd := okB_bd hk
  obtain ⟨m, rfl⟩ : ∃ m : Nat, W = (m : Int) := ⟨W.toNat, by omega⟩
  have hk' := Lib.hid hk
  have hT := Lib.hid (show okB (((m : Int), xs) : Ig).1 (((m : Int), xs) : Ig).2 = true from hk)
  have hxl := b2.1
  obtain ⟨d1, hd1⟩ : ∃ d, Hid (decs (rsum xs) = d) := ⟨_, Lib.hid rfl⟩
  obtain ⟨d2, hd2⟩ : ∃ d, Hid (decs (csum m xs) = d) := ⟨_, Lib.hid rfl⟩
  have hl1 : d1.length ≤ 18 := by
    have := decs_len (rsum xs)
    rw [hd1.out, rsum_len] at this
    omega
  have hl2 : d2.length ≤ 18 := by
    have := decs_len (csum m xs)
    rw [hd2.out, csum_len] at this
    omega
  have hSr := Lib.hid (show rSums (m : Int) xs = rsum xs by rw [rSums, hk]; rfl)
  have hSc := Lib.hid (show cSums (m : Int) xs = csum m xs by rw [cSums, hk, if_pos rfl, Int.toNat_natCast])
  have hP := Lib.hid (show (tRowsW ++ decs (rsum xs) ++ tColsW ++ decs (csum m xs)) = tRowsW ++ d1 ++ tColsW ++ d2 by rw [hd1.out, hd2.out])
  obtain ⟨t3, hc3⟩ : ∃ c, Hid (tRowsW ++ d1 ++ tColsW ++ d2 = c) := ⟨_, Lib.hid rfl⟩
  have e3 : ∀ w, (Op.stringOp .add (S (tRowsW ++ d1 ++ tColsW)) (S d2)).run Tryz.prog w = .ok (.string (S t3)) w := fun w => by
    rw [← hc3.out]
    exact cat_ok (tRowsW ++ d1 ++ tColsW) d2 (by simp [tRowsW, tColsW]; omega) w
  have hc3l : t3.length ≤ 1000 := by rw [← hc3.out]; simp [tRowsW, tColsW]; omega
  obtain ⟨t2, hc2⟩ : ∃ c, Hid (tRowsW ++ d1 ++ tColsW = c) := ⟨_, Lib.hid rfl⟩
  have e2 : ∀ w, (Op.stringOp .add (S (tRowsW ++ d1)) ({ data := #[32, 99, 111, 108, 115] } : ByteArray)).run Tryz.prog w = .ok (.string (S t2)) w := fun w => by
    rw [← hc2.out]
    exact cat_ok (tRowsW ++ d1) tColsW (by simp [tRowsW, tColsW]; omega) w
  rw [hc2.out] at e3
  obtain ⟨t1, hc1⟩ : ∃ c, Hid (tRowsW ++ d1 = c) := ⟨_, Lib.hid rfl⟩
  have e1 : ∀ w, (Op.stringOp .add ({ data := #[114, 111, 119, 115] } : ByteArray) (S d1)).run Tryz.prog w = .ok (.string (S t1)) w := fun w => by
    rw [← hc1.out]
    exact cat_ok tRowsW d1 (by simp [tRowsW]; omega) w
  rw [hc1.out] at e2
  have hx6 : xs.length ≤ 6 := by omega
  clear hk
  go_enter Tryz.func45, Tryz.ntmps45
  go_wp2_with fail
  refine (impl_ImageValid_c _ _ _ _ xs _ b2.rd (by omega)).mono ?_
  rw [hk'.out]
  rintro e wv ⟨rfl, hbv⟩
  have h2 := h1.next hbv
  have b1v := b1.next hbv
  have b2v := b2.next hbv
  have hw2 := hw1.next hbv
  have d0 := b1v.cell 0
  have d1 := b1v.cell 1
  have hy0 := strs_cell hw2 (k := 0) (x := kSums) rfl
  have b1d := b1v.drew
  have hRd := b2v.drew
  have h2d : SS wv.drew sb ((m : Int), xs) := h2.next (Below.drew (Below.refl _ _))
  have hBd : Below w.heap.size w wv.drew := Below.drew (lo_trans hB hbv)
  have hLr := Below.refl wv.drew.heap.size wv.drew
  go_wp2
  clear d0 d1 c0 c1
  go_region_held3 (fun w' => w'.cell? ⟨sb, 0, none⟩ = some (.int .i64 (m : Int)) ∧ w'.cell? ⟨sb, 1, none⟩ = some (.slice A n c))
    (exact ⟨(b1d.next hLr).cell 0, (b1d.next hLr).cell 1⟩)
    (first
      | (go_at_call 85
         first
          | (have hmark := hO2
             clear hmark
             refine (listed_c _ _ _ (csum m xs) _ hO2.rd (by have := hO2.1; rw [csum_len] at this; omega) (csum_100 hx6)).mono ?_
             rw [hd2.out]
             rintro e w12 ⟨rfl, rfl⟩)
          | (refine (listed_c _ _ _ (rsum xs) _ hO1.rd (by have := hO1.1; rw [rsum_len] at this; omega) rsum_100).mono ?_
             rw [hd1.out]
             rintro e w11 ⟨rfl, rfl⟩))
      | (go_at_call 22
         refine (RowSums_c _ _ _ _ xs _ (hRd.next hLr).rd (by omega)).mono ?_
         rw [hSr.out]
         rintro e w6 ⟨R6, r6, d6, rfl, hb6, hO1⟩
         have hLr := lo_trans hLr hb6)
      | (go_at_call 23
         refine (ColSums_c _ _ _ _ xs _ (hRd.next hLr).rd (by omega)).mono ?_
         rw [hSc.out]
         rintro e w7 ⟨R7, r7, d7, rfl, hb7, hO2⟩
         have hLr := lo_trans hLr hb7))
  go_wp2
  go_ret2
  rw [hp.out, hT.out]
  exact Res.of (r := t3) (ok := true) rfl (by simp only [if_true, Int.toNat_natCast]; rw [hP.out, hc3.out]) hc3l (h2d.next hLr) (grown_of_below (lo_trans hBd hLr) _)

set_option maxHeartbeats 4000000 in
theorem exec_Lines_no (sb wb : Nat) (W : Int) (xs : List Int) (x : Bs) (w : World) (h : SS w sb (W, xs)) (hw : Blk w wb 9 (strs [kLines, x])) (hk : okB W xs = false) :
    Calls Tryz.prog 45 #[.pointer (some ⟨sb, 0, none⟩), .slice (some ⟨wb, 0, none⟩) 2 2] w (Res w sb (stepS (W, xs) [kLines, x])) := by
  obtain ⟨p, hp⟩ : ∃ p, p = stepS (W, xs) [kLines, x] := ⟨_, rfl⟩
  rw [← hp]
  rw [step_Lines] at hp
  replace hp := Lib.hid hp
  have hmm := @run_makeMap Tryz.prog
  obtain ⟨w1, w2, w3, w4, w5, w6, w7, w8, w9, w10, u1, u2, u3, u4, u5, u6, u7, u8, u9, u10, hM, hB⟩ := wants_map w
  have hlk := want_look hM kLines 1 (by decide) rfl rfl
  have h1 := h.next hB
  have hw1 := hw.next hB
  have hx0 := strs_cell hw1 (k := 0) (x := kLines) rfl
  have hx1 := strs_cell hw1 (k := 1) (x := x) rfl
  have qRow : ((S kLines).toList == [114, 111, 119]) = false := by rw [S_list]; rfl
  have qClear : ((S kLines).toList == [99, 108, 101, 97, 114]) = false := by rw [S_list]; rfl
  have qBuild : ((S kLines).toList == [98, 117, 105, 108, 100]) = false := by rw [S_list]; rfl
  have qSwitch : ((S kLines).toList == [115, 119, 105, 116, 99, 104]) = false := by rw [S_list]; rfl
  have qNext : ((S kLines).toList == [110, 101, 120, 116]) = false := by rw [S_list]; rfl
  have qProof : ((S kLines).toList == [112, 114, 111, 111, 102]) = false := by rw [S_list]; rfl
  have qShow : ((S kLines).toList == [115, 104, 111, 119]) = false := by rw [S_list]; rfl
  have qSums : ((S kLines).toList == [115, 117, 109, 115]) = false := by rw [S_list]; rfl
  have qUnique : ((S kLines).toList == [117, 110, 105, 113, 117, 101]) = false := by rw [S_list]; rfl
  clear hM
  obtain ⟨A, n, c, b1, b2, b3⟩ := id h1
  have hn6 : n ≤ 6 := by have := h.len; have := b2.1; simp only at *; omega
  have c0 := b1.cell 0
  have c1 := b1.cell 1
  have hk' := Lib.hid hk
  have hT := Lib.hid (show okB ((W, xs) : Ig).1 ((W, xs) : Ig).2 = false from hk)
  clear hk
  go_enter Tryz.func45, Tryz.ntmps45
  go_wp2_with fail
  refine (impl_ImageValid_c _ _ _ _ xs _ b2.rd (by omega)).mono ?_
  rw [hk'.out]
  rintro e wv ⟨rfl, hbv⟩
  go_wp2
  go_ret2
  rw [hp.out, hT.out]
  exact Res.of (r := []) (ok := false) rfl rfl (by decide) (h1.next hbv) (grown_trans (grown_of_below hB (some sb)) (grown_of_below hbv _))

set_option maxHeartbeats 4000000 in
theorem exec_Lines_yes (sb wb : Nat) (W : Int) (xs : List Int) (x : Bs) (w : World) (h : SS w sb (W, xs)) (hw : Blk w wb 9 (strs [kLines, x])) (hx : x.length ≤ 1000) (hk : okB W xs = true) (hD : Dir w) :
    Calls Tryz.prog 45 #[.pointer (some ⟨sb, 0, none⟩), .slice (some ⟨wb, 0, none⟩) 2 2] w (Res w sb (stepS (W, xs) [kLines, x])) := by
  obtain ⟨p, hp⟩ : ∃ p, p = stepS (W, xs) [kLines, x] := ⟨_, rfl⟩
  rw [← hp]
  rw [step_Lines] at hp
  replace hp := Lib.hid hp
  have hmm := @run_makeMap Tryz.prog
  obtain ⟨w1, w2, w3, w4, w5, w6, w7, w8, w9, w10, u1, u2, u3, u4, u5, u6, u7, u8, u9, u10, hM, hB⟩ := wants_map w
  have hlk := want_look hM kLines 1 (by decide) rfl rfl
  have h1 := h.next hB
  have hw1 := hw.next hB
  have hx0 := strs_cell hw1 (k := 0) (x := kLines) rfl
  have hx1 := strs_cell hw1 (k := 1) (x := x) rfl
  have qRow : ((S kLines).toList == [114, 111, 119]) = false := by rw [S_list]; rfl
  have qClear : ((S kLines).toList == [99, 108, 101, 97, 114]) = false := by rw [S_list]; rfl
  have qBuild : ((S kLines).toList == [98, 117, 105, 108, 100]) = false := by rw [S_list]; rfl
  have qSwitch : ((S kLines).toList == [115, 119, 105, 116, 99, 104]) = false := by rw [S_list]; rfl
  have qNext : ((S kLines).toList == [110, 101, 120, 116]) = false := by rw [S_list]; rfl
  have qProof : ((S kLines).toList == [112, 114, 111, 111, 102]) = false := by rw [S_list]; rfl
  have qShow : ((S kLines).toList == [115, 104, 111, 119]) = false := by rw [S_list]; rfl
  have qSums : ((S kLines).toList == [115, 117, 109, 115]) = false := by rw [S_list]; rfl
  have qUnique : ((S kLines).toList == [117, 110, 105, 113, 117, 101]) = false := by rw [S_list]; rfl
  clear hM
  obtain ⟨A, n, c, b1, b2, b3⟩ := id h1
  have hn6 : n ≤ 6 := by have := h.len; have := b2.1; simp only at *; omega
  have c0 := b1.cell 0
  have c1 := b1.cell 1
  have hbd := okB_bd hk
  obtain ⟨m, rfl⟩ : ∃ m : Nat, W = (m : Int) := ⟨W.toNat, by omega⟩
  have hk' := Lib.hid hk
  have hT := Lib.hid (show okB (((m : Int), xs) : Ig).1 (((m : Int), xs) : Ig).2 = true from hk)
  have hxl := b2.1
  obtain ⟨d, hd⟩ : ∃ d, Hid (decs (dirL (dgt x) m xs) = d) := ⟨_, Lib.hid rfl⟩
  have hx6 : xs.length ≤ 6 := by omega
  have hll : (dirL (dgt x) m xs).length ≤ 100 := dirL_len ⟨by omega, by omega⟩ ⟨by omega, by omega⟩
  have hl1 : d.length ≤ 300 := by
    have := decs_len (dirL (dgt x) m xs)
    rw [hd.out] at this
    omega
  have hDw := Lib.hid (show dirW (m : Int) xs (dgt x) = dirL (dgt x) m xs by rw [dirW, hk, if_pos rfl, Int.toNat_natCast])
  have h100 := Lib.hid (dirL_100 (d := dgt x) (m := m) hx6 (by omega))
  obtain ⟨ok, hok⟩ : ∃ b, Hid (dirB (dgt x) = b) := ⟨_, Lib.hid rfl⟩
  have hP : Hid (askO (((m : Int), xs) : Ig) (if (true && dirB (dgt x)) = true then some (kLines ++ decs (dirS (dgt x).toNat m xs)) else none) = (((m : Int), xs), (if ok then kLines ++ d else tNo) ++ [10])) := by
    refine Lib.hid ?_
    rw [← hd.out, ← hok.out, dirL]
    cases dirB (dgt x) <;> rfl
  have e1 : ∀ w, (Op.stringOp .add ({ data := #[108, 105, 110, 101, 115] } : ByteArray) (S d)).run Tryz.prog w = .ok (.string (S (kLines ++ d))) w := fun w => cat_ok kLines d (by simp [kLines]; omega) w
  have hD1 := hD.next hB
  clear hk
  go_enter Tryz.func45, Tryz.ntmps45
  go_wp2_with fail
  refine (impl_ImageValid_c _ _ _ _ xs _ b2.rd (by omega)).mono ?_
  rw [hk'.out]
  rintro e wv ⟨rfl, hbv⟩
  have h2 := h1.next hbv
  have b1v := b1.next hbv
  have b2v := b2.next hbv
  have hw2 := hw1.next hbv
  have d0 := b1v.cell 0
  have d1 := b1v.cell 1
  have hy0 := strs_cell hw2 (k := 0) (x := kLines) rfl
  have b1d := b1v.drew
  have hRd := b2v.drew
  have hw2d := hw2.drew
  have hDd : Dir wv.drew := (hD1.next hbv).next (Below.drew (Below.refl _ _))
  have h2d : SS wv.drew sb ((m : Int), xs) := h2.next (Below.drew (Below.refl _ _))
  have hBd : Below w.heap.size w wv.drew := Below.drew (lo_trans hB hbv)
  have hLr := Below.refl wv.drew.heap.size wv.drew
  go_wp2
  clear d0 d1 c0 c1
  go_region_held3 (fun w' => w'.cell? ⟨sb, 0, none⟩ = some (.int .i64 (m : Int)) ∧ w'.cell? ⟨sb, 1, none⟩ = some (.slice A n c) ∧ w'.cell? ⟨wb, 1, none⟩ = some (.string (S x)))
    (exact ⟨(b1d.next hLr).cell 0, (b1d.next hLr).cell 1, strs_cell (hw2d.next hLr) (k := 1) (x := x) rfl⟩)
    (first
      | (go_at_call 85
         refine (listed_c _ _ _ (dirL (dgt x) m xs) _ hO1.rd (by have := hO1.1; omega) h100.out).mono ?_
         rw [hd.out]
         rintro e w11 ⟨rfl, rfl⟩)
      | (go_at_call 83
         refine (digit_c _ _ (by omega)).mono ?_
         rintro e w11 ⟨rfl, rfl⟩)
      | (go_at_call 86
         refine (isDir_c _ _).mono ?_
         rw [hok.out]
         rintro e w11 ⟨rfl, rfl⟩)
      | (go_at_call 20
         refine (DirSums_c _ _ _ _ xs _ _ (hRd.next hLr).rd (by omega) (hDd.next hLr)).mono ?_
         rw [hDw.out]
         rintro e w6 ⟨R6, r6, d6, rfl, hO1, hb6⟩
         have hLr := lo_trans hLr hb6))
  go_wp2
  go_ret2
  rw [hp.out, hT.out]
  simp only [Int.toNat_natCast]
  rw [hP.out]
  exact Res.of (r := kLines ++ d) (ok := ok) rfl rfl (by simp [kLines]; omega) (h2d.next hLr) (grown_of_below (lo_trans hBd hLr) _)
end Go.Proofs.YtpeiolimdglmhaaGreatDoor

-- Walks: a line of words is executed (the program's way).
namespace Go.Proofs.YtpeiolimdglmhaaGreatDoor
open Go.RowKit
set_option maxRecDepth 100000

set_option maxHeartbeats 4000000 in
theorem exec_no (sb wb : Nat) (s : Ig) (x : Bs) (l : List Bs) (w : World) (h : SS w sb s) (hw : Blk w wb 9 (strs (x :: l))) (hx : x.length ≤ 1000) (hl : l.length ≤ 1000) (hk : ∀ e ∈ wantL, e.1 ≠ x) :
    Calls Tryz.prog 45 #[.pointer (some ⟨sb, 0, none⟩), .slice (some ⟨wb, 0, none⟩) (l.length + 1) (l.length + 1)] w (Res w sb (s, tWhat ++ [10])) := by
  have hmm := @run_makeMap Tryz.prog
  obtain ⟨w1, w2, w3, w4, w5, w6, w7, w8, w9, w10, u1, u2, u3, u4, u5, u6, u7, u8, u9, u10, hM, hB⟩ := wants_map w
  obtain ⟨c, hlk, _⟩ := look_int hM (key := .string (S x)) (kT_of (t := x) hx)
  rw [wantD_no hk] at hlk
  have h1 := h.next hB
  have hw1 := hw.next hB
  have hx0 := strs_cell hw1 (k := 0) (x := x) rfl
  clear hM hk
  obtain ⟨n, hn⟩ : ∃ n, n = l.length + 1 := ⟨_, rfl⟩
  rw [← hn]
  have hn1 : (1 : Int) ≤ (n : Int) := by omega
  have hn0 : (0 : Int) < (n : Int) := by omega
  clear hn
  go_enter Tryz.func45, Tryz.ntmps45
  go_wp2
  all_goals
    go_ret2
    exact Res.of (r := tWhat) (ok := true) rfl rfl (by decide) h1 (grown_of_below hB _)
set_option maxHeartbeats 4000000 in
theorem exec_len (sb wb : Nat) (s : Ig) (x : Bs) (v : Int) (l : List Bs) (w : World) (h : SS w sb s) (hw : Blk w wb 9 (strs (x :: l))) (hx : x.length ≤ 1000) (hl : l.length ≤ 1000)
    (h1 : Maps.has wantD (kT x) = true) (h2 : wantD.atKey (kT x) (.lit (.int .i64 0)) = .lit (.int .i64 v)) (hk : (l.length : Int) ≠ v) :
    Calls Tryz.prog 45 #[.pointer (some ⟨sb, 0, none⟩), .slice (some ⟨wb, 0, none⟩) (l.length + 1) (l.length + 1)] w (Res w sb (s, tWhat ++ [10])) := by
  have hmm := @run_makeMap Tryz.prog
  obtain ⟨w1, w2, w3, w4, w5, w6, w7, w8, w9, w10, u1, u2, u3, u4, u5, u6, u7, u8, u9, u10, hM, hB⟩ := wants_map w
  have hlk := want_look hM x v hx h1 h2
  have h1 := h.next hB
  have hw1 := hw.next hB
  have hx0 := strs_cell hw1 (k := 0) (x := x) rfl
  clear hM
  obtain ⟨n, hn⟩ : ∃ n, n = l.length + 1 := ⟨_, rfl⟩
  rw [← hn]
  have hn1 : (1 : Int) ≤ (n : Int) := by omega
  have hn0 : (0 : Int) < (n : Int) := by omega
  have g1 : (v != ((n - 1 : Nat) : Int)) = true := by simp; omega
  clear hn
  go_enter Tryz.func45, Tryz.ntmps45
  go_wp2
  all_goals
    go_ret2
    exact Res.of (r := tWhat) (ok := true) rfl rfl (by decide) h1 (grown_of_below hB _)

theorem wantL_fun : ∀ e ∈ wantL, ∀ e' ∈ wantL, e.1 = e'.1 → e = e' := by decide
set_option maxHeartbeats 1000000 in
/-- a line of words is executed -/
theorem execute_c (sb wb : Nat) (s : Ig) (ws : List Bs) (w : World) (h : SS w sb s) (hw : Blk w wb 9 (strs ws)) (h0 : ws ≠ []) (hn : ws.length ≤ 1000) (hl : ∀ x ∈ ws, x.length ≤ 1000) (hne : wb ≠ sb) (hD : Dir w) :
    Calls Tryz.prog 45 #[.pointer (some ⟨sb, 0, none⟩), .slice (some ⟨wb, 0, none⟩) ws.length ws.length] w (Res w sb (stepS s ws)) := by
  cases ws with
  | nil => exact absurd rfl h0
  | cons x l =>
    rw [List.length_cons] at hn
    have hx := hl x (List.mem_cons_self ..)
    rcases Classical.em (∀ e ∈ wantL, e.1 ≠ x) with hk | hk
    · rw [step_what s (x :: l) (fun e he hw => absurd hw.symm (hk e he))]
      exact exec_no sb wb s x l w h hw hx (by omega) hk
    · obtain ⟨⟨k, v⟩, he, rfl⟩ : ∃ e ∈ wantL, e.1 = x := by
        rcases Classical.em (∃ e ∈ wantL, e.1 = x) with h | h
        · exact h
        · exact absurd (fun e he hx => h ⟨e, he, hx⟩) hk
      have hwhat : (l.length : Int) ≠ v → stepS s (k :: l) = (s, tWhat ++ [10]) := fun hv => step_what s (k :: l) (fun e' he' hw' => by
        have := wantL_fun _ he _ he' hw'
        rw [← this, List.length_cons]
        simp only
        omega)
      have hlw := fun y hy => hl y (List.mem_cons_of_mem _ hy)
      clear hk
      have he0 := he
      simp only [wantL, List.mem_cons, Prod.mk.injEq, List.not_mem_nil, or_false] at he
      rcases he with ⟨rfl, rfl⟩ | ⟨rfl, rfl⟩ | ⟨rfl, rfl⟩ | ⟨rfl, rfl⟩ | ⟨rfl, rfl⟩ | ⟨rfl, rfl⟩ | ⟨rfl, rfl⟩ | ⟨rfl, rfl⟩ | ⟨rfl, rfl⟩ | ⟨rfl, rfl⟩
      · rcases Classical.em ((l.length : Int) = 1) with hv | hv
        · obtain ⟨x, rfl⟩ : ∃ x, l = [x] := by
            match l, hv with
            | [x], _ => exact ⟨x, rfl⟩
          exact exec_Row sb wb s x w h hw (hlw x (by simp))
        · rw [hwhat hv]
          exact exec_len sb wb s kRow 1 l w h hw hx (by omega) rfl rfl hv
      · rcases Classical.em ((l.length : Int) = 0) with hv | hv
        · obtain rfl : l = [] := List.eq_nil_of_length_eq_zero (by omega)
          exact exec_Clear sb wb s w h hw
        · rw [hwhat hv]
          exact exec_len sb wb s kClear 0 l w h hw hx (by omega) rfl rfl hv
      · rcases Classical.em ((l.length : Int) = 0) with hv | hv
        · obtain rfl : l = [] := List.eq_nil_of_length_eq_zero (by omega)
          obtain ⟨W, xs⟩ := s
          cases hk : okB W xs with
          | false => exact exec_Show_no sb wb W xs w h hw hk
          | true => exact exec_Show_yes sb wb W xs w h hw hk
        · rw [hwhat hv]
          exact exec_len sb wb s kShow 0 l w h hw hx (by omega) rfl rfl hv
      · rcases Classical.em ((l.length : Int) = 0) with hv | hv
        · obtain rfl : l = [] := List.eq_nil_of_length_eq_zero (by omega)
          obtain ⟨W, xs⟩ := s
          cases hk : okB W xs with
          | false => exact exec_Sums_no sb wb W xs w h hw hk
          | true => exact exec_Sums_yes sb wb W xs w h hw hk
        · rw [hwhat hv]
          exact exec_len sb wb s kSums 0 l w h hw hx (by omega) rfl rfl hv
      · rcases Classical.em ((l.length : Int) = 1) with hv | hv
        · obtain ⟨x, rfl⟩ : ∃ x, l = [x] := by
            match l, hv with
            | [x], _ => exact ⟨x, rfl⟩
          obtain ⟨W, xs⟩ := s
          cases hk : okB W xs with
          | false => exact exec_Lines_no sb wb W xs x w h hw hk
          | true => exact exec_Lines_yes sb wb W xs x w h hw (hlw x (by simp)) hk hD
        · rw [hwhat hv]
          exact exec_len sb wb s kLines 1 l w h hw hx (by omega) rfl rfl hv
      · rcases Classical.em ((l.length : Int) = 2) with hv | hv
        · obtain ⟨x, y, rfl⟩ : ∃ x y, l = [x, y] := by
            match l, hv with
            | [x, y], _ => exact ⟨x, y, rfl⟩
          exact exec_Build sb wb s x y w h hw (hlw x (by simp)) (hlw y (by simp)) hne
        · rw [hwhat hv]
          exact exec_len sb wb s kBuild 2 l w h hw hx (by omega) rfl rfl hv
      · rcases Classical.em ((l.length : Int) = 4) with hv | hv
        · obtain ⟨x, y, z, u, rfl⟩ : ∃ x y z u, l = [x, y, z, u] := by
            match l, hv with
            | [x, y, z, u], _ => exact ⟨x, y, z, u, rfl⟩
          obtain ⟨W, xs⟩ := s
          exact exec_Switch sb wb W xs x y z u w h hw (hlw x (by simp)) (hlw y (by simp)) (hlw z (by simp)) (hlw u (by simp))
        · rw [hwhat hv]
          exact exec_len sb wb s kSwitch 4 l w h hw hx (by omega) rfl rfl hv
      · rcases Classical.em ((l.length : Int) = 0) with hv | hv
        · obtain rfl : l = [] := List.eq_nil_of_length_eq_zero (by omega)
          obtain ⟨W, xs⟩ := s
          exact exec_Next sb wb W xs w h hw
        · rw [hwhat hv]
          exact exec_len sb wb s kNext 0 l w h hw hx (by omega) rfl rfl hv
      · rcases Classical.em ((l.length : Int) = 0) with hv | hv
        · obtain rfl : l = [] := List.eq_nil_of_length_eq_zero (by omega)
          obtain ⟨W, xs⟩ := s
          cases hk : okB W xs with
          | false => exact exec_Unique_no sb wb W xs w h hw hk
          | true => exact exec_Unique_yes sb wb W xs w h hw hk
        · rw [hwhat hv]
          exact exec_len sb wb s kUnique 0 l w h hw hx (by omega) rfl rfl hv
      · rcases Classical.em ((l.length : Int) = 2) with hv | hv
        · obtain ⟨x, y, rfl⟩ : ∃ x y, l = [x, y] := by
            match l, hv with
            | [x, y], _ => exact ⟨x, y, rfl⟩
          exact exec_Proof sb wb s x y w h hw (hlw x (by simp)) (hlw y (by simp))
        · rw [hwhat hv]
          exact exec_len sb wb s kProof 2 l w h hw hx (by omega) rfl rfl hv
end Go.Proofs.YtpeiolimdglmhaaGreatDoor

-- Walks: a script is executed (the program's way).
namespace Go.Proofs.YtpeiolimdglmhaaGreatDoor
open Go.RowKit
set_option maxRecDepth 100000

theorem blk_type {w : World} {g : Nat} {t t' : TypeId} {cs cs' : Array Value} (h : Blk w g t cs) (h' : Blk w g t' cs') : t = t' := by
  have e := h.symm.trans h'
  injection e with e
  injection e
theorem Bd.blk {w : World} {b : Nat} {l : Bs} (h : Bd b l w) : ∃ cs, Blk w b 55 cs := by
  rcases h with h | h <;>
  · obtain ⟨_, v, hb, _⟩ := h
    exact ⟨_, hb⟩
theorem Bd.grownS {W W' : World} {b g : Nat} {l : Bs} {t : TypeId} {cs : Array Value} (h : Bd b l W) (hg : W.grownBy W' (some g)) (hne : b ≠ g) (hb : Blk W g t cs) (ht : t ≠ 5) : Bd b l W' := by
  have key : ∀ p, Lib.BuilderAtF 55 5 b b p (Lib.byteCells l) W → Lib.BuilderAtF 55 5 b b p (Lib.byteCells l) W' := by
    rintro p ⟨hB, v, hbb, hown, hn⟩
    refine ⟨hB, v, Blk.grown (t := 55) hbb hg (fun e => hne (Option.some.inj e)), hown.kept hg ?_, hn⟩
    rcases hown.2 with ⟨rfl, _⟩ | ⟨g', cap, cur, fz, rfl, _, hgg, _⟩
    · exact .inl rfl
    · refine .inr (fun e => ?_)
      have e2 : g = g' := by
        have := e
        simp [Value.ownBlock] at this
        omega
      subst e2
      have e3 := hb.symm.trans hgg
      injection e3 with e3
      injection e3 with e4 e5
      exact ht e5
  exact Or.imp (key _) (key _) h
theorem SS.kept {w w' : World} {sb b : Nat} {s : Ig} {l : Bs} (h : SS w sb s) (hB : Bd b l w) (k : Lib.OthersKept 5 (some b) w w') : SS w' sb s := by
  obtain ⟨A, n, c, h1, h2, h3⟩ := h
  obtain ⟨cs, hb⟩ := hB.blk
  refine ⟨A, n, c, ok_blk h1 k (fun e => ?_) (by decide), ⟨h2.1, fun hn => ?_⟩, h3⟩
  · subst e
    exact absurd (blk_type h1 hb) (by decide)
  · obtain ⟨g, cs', e1, e2, e3, e4⟩ := h2.2 hn
    refine ⟨g, cs', e1, e2, ok_blk e3 k (fun e => ?_) (by decide), e4⟩
    subst e
    exact absurd (blk_type e3 hb) (by decide)
theorem Dir.lo {w w' : World} {B : Nat} (h : Dir w) (hb : Below B w w') (hd : 0 < B) : Dir w' := fun d hd' =>
  ⟨(hb.cell hd).trans (h d hd').1, (hb.cell hd).trans (h d hd').2⟩
theorem Dir.lt {w : World} (h : Dir w) : 0 < w.heap.size := World.block_lt_of_cell? _ _ (h 0 (by decide)).1
theorem SS.blk {w : World} {sb : Nat} {s : Ig} (h : SS w sb s) : ∃ cs, Blk w sb 66 cs := by
  obtain ⟨A, n, c, h1, _⟩ := h
  exact ⟨_, h1⟩
/-- behind k lines -/
def EI (w wr : World) (ps : List Bs) (k : Nat) : Prop :=
  SS wr w.heap.size (runS (ps.take k)).1 ∧ Bd (w.heap.size + 1) (runS (ps.take k)).2 wr ∧ Blk wr (w.heap.size + 2) 9 (strs ps) ∧ Dir wr ∧ Below w.heap.size w wr
theorem max2 (a : Int) (w : World) : (Builtin.max_ #[3, 3] 3 #[.int .i64 0, .int .i64 a]).run Tryz.prog w = .ok (.int .i64 (max 0 a)) w := by
  simp [Builtin.max_, Builtin.max2, ← ite_max]

set_option maxHeartbeats 4000000 in
theorem impl_Execute_long (t : Bs) (w : World) (h : 400 < t.length) :
    Calls Tryz.prog 14 #[.string (S t)] w fun e w' => e = .returned (.string (S (execT t))) ∧ Below w.heap.size w w' := by
  have hsz := S_size t
  have hT : execT t = tLong := by rw [execT, if_pos h]
  rw [hT]
  clear hT
  go_enter Tryz.func14, Tryz.ntmps14
  go_wp2
  go_ret
  exact ⟨rfl, Below.refl _ _⟩

set_option maxHeartbeats 8000000 in
theorem impl_Execute_short (t : Bs) (w : World) (h : t.length ≤ 400) (hD : Dir w) :
    Calls Tryz.prog 14 #[.string (S t)] w fun e w' => e = .returned (.string (S (execT t))) ∧ Below w.heap.size w w' := by
  have hsz := S_size t
  have hgt : decide ((400 : Int) < ((t.length : Nat) : Int)) = false := by simp; omega
  have hT := Lib.hid (exec_at h)
  have hS0 : SS ((w.alloc (.cells #[.int .i64 0, .slice none 0 0] 66)).alloc (.cells #[.pointer none, .slice none 0 0] 55)) w.heap.size (0, []) := SS.zero ((Blk.new w _ _).alloc _)
  have hB0 := Bd.new (w.alloc (.cells #[.int .i64 0, .slice none 0 0] 66))
  have hs1 : (w.alloc (.cells #[.int .i64 0, .slice none 0 0] 66)).heap.size = w.heap.size + 1 := World.size_alloc _ _
  rw [hs1] at hB0
  have hL2 := lo_alloc (lo_alloc (Below.refl w.heap.size w) (.cells #[.int .i64 0, .slice none 0 0] 66)) (.cells #[.pointer none, .slice none 0 0] 55)
  obtain ⟨w2, hw2⟩ : ∃ w2, w2 = (w.alloc (.cells #[.int .i64 0, .slice none 0 0] 66)).alloc (.cells #[.pointer none, .slice none 0 0] 55) := ⟨_, rfl⟩
  have hs2 : w2.heap.size = w.heap.size + 2 := by rw [hw2, World.size_alloc, hs1]
  rw [← hw2] at hS0 hB0 hL2
  go_enter Tryz.func14, Tryz.ntmps14
  go_wp2_with fail
  rw [← hw2]
  refine (Split_c t 10 w2 (by omega)).mono ?_
  rintro e w3 ⟨rfl, rfl⟩
  have hpn := pcs_len 10 t
  have hpz : 1 ≤ (pcs 10 t).length := List.length_pos_iff.2 (pcs_ne 10 t)
  have hpl : ∀ x ∈ pcs 10 t, x.length ≤ 400 := fun x hx => Nat.le_trans (pcs_piece 10 t x hx) h
  have hls : linesOf t = (pcs 10 t).take ((pcs 10 t).length - 1) := by rw [linesOf, List.dropLast_eq_take]
  rw [hls] at hT
  clear hls
  generalize pcs 10 t = ps at hpn hpz hpl hT ⊢
  obtain ⟨n, hn⟩ : ∃ n, n = ps.length - 1 := ⟨_, rfl⟩
  have hn2 : ps.length = n + 1 := by omega
  have hw : IntKind.i64.wrap (((n + 1 : Nat) : Int) - 1) = (n : Int) := by rw [IntWalk.i64_in _ (by omega)]; omega
  have hn4 : n ≤ 400 := by omega
  have hE : EI w (w2.alloc (.cells (strs ps) 9)) ps 0 := by
    refine ⟨hS0.next (lo_alloc (Below.refl _ _) _), hB0.next (lo_alloc (Below.refl _ _) _), ?_, hD.next ?_, ?_⟩
    · have := Blk.new w2 9 (strs ps)
      rwa [hs2] at this
    · exact lo_alloc hL2 _
    · exact lo_alloc hL2 _
  rw [← hn] at hT
  have hq0 : ((0 : Int) ≤ (n : Int)) := by omega
  have hq1 : ((n : Int) ≤ ((n + 1 : Nat) : Int)) := by omega
  rw [hn2, hs2]
  generalize w2.alloc (.cells (strs ps) 9) = w3 at hE ⊢
  clear hw2 hS0 hB0 hs1 hs2 hL2 hn
  go_wp2
  go_loopw [21] (fun i wr => ∃ k : Nat, k ≤ n ∧ i = .int .i64 k ∧ EI w wr ps k ∧ (runS (ps.take k)).2.length ≤ k * 1001) (fun i _ => n - (intOf i).toNat)
  case atStart => exact ⟨0, Nat.zero_le _, rfl, hE, by simp [runS]⟩
  case round =>
    obtain ⟨k, hk, rfl, hE, hlen⟩ := hrel
    by_cases hlt : k < n
    · obtain ⟨x, hx⟩ : ∃ x, ps[k]? = some x := ⟨ps[k], List.getElem?_eq_getElem _⟩
      have hxl := hpl x (List.mem_of_getElem? hx)
      have hstep := Lib.hid (show runS (ps.take (k + 1)) = lineS (runS (ps.take k)) x by
        have hkp : k < ps.length := by omega
        rw [take_snoc hkp, runS_snoc]
        rw [List.getElem?_eq_getElem hkp] at hx
        rw [Option.some.inj hx])
      obtain ⟨hS, hB, hP, hDr, hL⟩ := hE
      have hl1 := pcs_len 32 x
      have hl2 := pcs_piece 32 x
      have hsz2 := hS.lt
      have hc := strs_cell hP hx
      clear hT
      generalize runS (ps.take k) = st at hS hB hlen hstep
      obtain ⟨s, out⟩ := st
      go_wp2_with fail
      refine (Split_c x 32 wr (by omega)).mono ?_
      rintro e w4 ⟨rfl, rfl⟩
      have hW4 := Blk.new wr 9 (strs (pcs 32 x))
      have hn4' := lo_alloc (Below.refl wr.heap.size wr) (.cells (strs (pcs 32 x)) 9)
      generalize wr.alloc (.cells (strs (pcs 32 x)) 9) = w4 at hW4 hn4' ⊢
      have hS4 := hS.next hn4'
      have hB4 := hB.next hn4'
      have hP4 := hP.next hn4'
      have hD4 := hDr.next hn4'
      have hL4 := lo_trans hL hn4'
      go_wp2_with fail
      refine (execute_c w.heap.size wr.heap.size s (pcs 32 x) w4 hS4 hW4 (pcs_ne 32 x) (by omega) (fun y hy => by have := hl2 y hy; omega) (by omega) hD4).mono ?_
      rintro e w5 ⟨r, ok, rfl, q1, q2, q3, q4⟩
      obtain ⟨cs, hsb⟩ := hS4.blk
      have hB5 := hB4.grownS q4 (by omega) hsb (by decide)
      have hP5 := hP4.grown q4 (by simp)
      have hdl := hD.lt
      have hD5 := hD4.grown q4 (by intro e; injection e; omega)
      have hL5 := hL4.grown q4 hL4.size (fun g e => by cases e; exact Nat.le_refl _)
      have q1' := Lib.hid q1
      clear q1 q4 hS4 hB4 hP4 hD4 hL4 hW4 hn4' hS hB hP hDr hL hc hsb
      have hst : ∀ v : Bs, v = (if ok then r else tNo) ++ [10] → runS (ps.take (k + 1)) = ((stepS s (pcs 32 x)).1, out ++ v) := fun v hv => by
        rw [hstep.out, lineS, hv, ← q1'.out]
      have fin : ∀ (v : Bs) (w6 : World), v = (if ok then r else tNo) ++ [10] → Bd (w.heap.size + 1) (out ++ v) w6 → Below (w.heap.size + 1) w5 w6 → Lib.OthersKept 5 (some (w.heap.size + 1)) w5 w6 → v.length ≤ 1001 →
          EI w w6 ps (k + 1) ∧ (runS (ps.take (k + 1))).2.length ≤ (k + 1) * 1001 := fun v w6 hv h1 h2 h3 h4 => by
        rw [EI, hst v hv]
        refine ⟨⟨q3.kept hB5 h3, h1, ok_blk hP5 h3 (by omega) (by decide), hD5.lo h2 (by have := hD.lt; omega), hL5.trans (h2.mono (by omega))⟩, ?_⟩
        simp only [List.length_append]
        omega
      have fin' := Lib.hid fin
      clear hst fin q1' hstep q3 hP5 hD5 hL5
      cases ok with
      | false =>
        have e1 : ∀ w, (Op.stringOp .add ({ data := #[110, 111] } : ByteArray) ({ data := #[10] } : ByteArray)).run Tryz.prog w = .ok (.string (S (tNo ++ [10]))) w := fun w => cat_ok tNo [10] (by decide) w
        go_wp2_with fail
        refine (ws_c (w.heap.size + 1) out (tNo ++ [10]) w5 hB5 (by simp [tNo]; omega)).mono ?_
        rintro e w6 ⟨rfl, h1, h2, h3⟩
        obtain ⟨g1, g2⟩ := fin'.out (tNo ++ [10]) w6 rfl h1 h2 h3 (by decide)
        have g2' := Lib.hid g2
        clear g2 h1 h2 h3
        go_wp2
        exact ⟨⟨k + 1, by omega, by go_num, g1, g2'.out⟩, by simp [intOf]; omega⟩
      | true =>
        have e1 : ∀ w, (Op.stringOp .add (S r) ({ data := #[10] } : ByteArray)).run Tryz.prog w = .ok (.string (S (r ++ [10]))) w := fun w => cat_ok r [10] (by simp; omega) w
        go_wp2_with fail
        refine (ws_c (w.heap.size + 1) out (r ++ [10]) w5 hB5 (by simp; omega)).mono ?_
        rintro e w6 ⟨rfl, h1, h2, h3⟩
        obtain ⟨g1, g2⟩ := fin'.out (r ++ [10]) w6 rfl h1 h2 h3 (by simp; omega)
        have g2' := Lib.hid g2
        clear g2 h1 h2 h3
        go_wp2
        exact ⟨⟨k + 1, by omega, by go_num, g1, g2'.out⟩, by simp [intOf]; omega⟩
    · obtain rfl : k = n := by omega
      obtain ⟨hS, hB, hP, hDr, hL⟩ := hE
      generalize runS (ps.take k) = st at hS hB hlen hT
      obtain ⟨⟨W, xs⟩, out⟩ := st
      obtain ⟨A, m, c, b1, b2, b3⟩ := id hS
      have hm6 : m ≤ 6 := by have := hS.len; have := b2.1; simp only at *; omega
      have c0 := b1.cell 0
      have c1 := b1.cell 1
      have hl := hS.lt
      obtain ⟨N, hN⟩ : ∃ N, Hid (manyI (W, xs) = N) := ⟨_, Lib.hid rfl⟩
      have hN100 : N < 100 := by rw [← hN.out]; exact manyI_lt _
      obtain ⟨V, hV⟩ : ∃ V, Hid (manyV W xs = V) := ⟨_, Lib.hid rfl⟩
      have hmx : ∀ w, (Builtin.max_ #[3, 3] 3 #[.int .i64 0, .int .i64 V]).run Tryz.prog w = .ok (.int .i64 (N : Int)) w := fun w => by
        rw [max2, ← hV.out, ← hN.out]
        rw [manyV_max (W, xs)]
      obtain ⟨y, hy⟩ : ∃ y, Hid (tCells ++ dec2 N = y) := ⟨_, Lib.hid rfl⟩
      have hyl : y.length ≤ 8 := by
        have := dec2_len N
        rw [← hy.out]; simp [tCells]; omega
      have e1 : ∀ w, (Op.stringOp .add ({ data := #[99, 101, 108, 108, 115, 32] } : ByteArray) (S (dec2 N))).run Tryz.prog w = .ok (.string (S y)) w := fun w => by
        rw [← hy.out]
        exact cat_ok tCells (dec2 N) (by have := dec2_len N; simp [tCells]; omega) w
      have e2 : ∀ w, (Op.stringOp .add (S y) ({ data := #[10] } : ByteArray)).run Tryz.prog w = .ok (.string (S (y ++ [10]))) w := fun w => cat_ok y [10] (by simp; omega) w
      have hT' := Lib.hid (show execT t = out ++ (y ++ [10]) by rw [hT.out, cellsT, hN.out, hy.out])
      clear hT hS hE
      go_wp2_with fail
      refine (impl_ImageMany_w W A m c xs wr b2.rd (by omega)).mono ?_
      rw [hV.out]
      rintro e w7 ⟨rfl, hb7⟩
      have hB7 := hB.next hb7
      have hL7 := lo_trans hL hb7
      go_wp2_with fail
      refine (Itoa_c N hN100 w7).mono ?_
      rintro e w8 ⟨rfl, rfl⟩
      generalize dec2 N = d at e1 ⊢
      go_wp2_with fail
      refine (ws_c (w.heap.size + 1) out (y ++ [10]) _ hB7 (by simp; omega)).mono ?_
      rintro e w9 ⟨rfl, hB9, hL9, _⟩
      go_wp2_with fail
      refine (bString_c (w.heap.size + 1) (w.heap.size + 1) _ w9 hB9 (Nat.le_of_lt hB9.lt)).mono ?_
      rintro e w10 ⟨rfl, _, hL10, _⟩
      go_wp2
      go_ret
      rw [hT'.out]
      exact ⟨rfl, hL7.trans ((hL9.trans hL10).mono (by omega))⟩
/-- Execute (the program's way) -/
theorem impl_Execute_c (t : Bs) (w : World) (hD : Dir w) :
    Calls Tryz.prog 14 #[.string (S t)] w fun e w' => e = .returned (.string (S (execT t))) ∧ Below w.heap.size w w' := by
  rcases Nat.lt_or_ge 400 t.length with h | h
  · exact impl_Execute_long t w h
  · exact impl_Execute_short t w h hD
end Go.Proofs.YtpeiolimdglmhaaGreatDoor

-- Walks: the text of an image (the reference's way).
namespace Go.Proofs.YtpeiolimdglmhaaGreatDoor
open Go.RowKit
set_option maxRecDepth 100000

def rowJ (r j : Nat) : Bs := (List.range j).map (fun k => chr01 (r.testBit k))
theorem rowJ_snoc (r j : Nat) : rowJ r (j + 1) = rowJ r j ++ [chr01 (r.testBit j)] := by
  rw [rowJ, List.range_succ, List.map_append]; rfl
theorem rowJ_len (r j : Nat) : (rowJ r j).length = j := by simp [rowJ]
def txtI (m : Nat) (xs : List Int) : Bs := xs.flatMap (fun x => rowT m x.toNat)
theorem txtI_len (m : Nat) (xs : List Int) : (txtI m xs).length = xs.length * (m + 1) := by
  unfold txtI
  induction xs with
  | nil => simp
  | cons x xs ih => rw [List.flatMap_cons, List.length_append, ih, List.length_cons, Nat.add_mul]; simp [rowT]; omega
theorem txtI_snoc {m k q : Nat} {xs : List Int} (hk : k < xs.length) (hx : xs[k]?.getD 0 = (q : Int)) : txtI m (xs.take k) ++ rowJ q m ++ [10] = txtI m (xs.take (k + 1)) := by
  rw [List.getElem?_eq_getElem hk, Option.getD_some] at hx
  unfold txtI
  rw [List.take_succ_eq_append_getElem hk, List.flatMap_append, hx]
  simp [rowT, rowJ]

set_option maxHeartbeats 8000000 in
theorem spec_ImageText_c (m : Nat) (A : Option Addr) (n c : Nat) (xs : List Int) (w : World) (hr : Rd w A n xs) (hk : okB (m : Int) xs = true) :
    Calls Tryz.prog 13 #[.agg #[.int .i64 (m : Int), .slice A n c]] w fun e w' => e = .returned (.string (S (textL m xs))) ∧ Below w.heap.size w w' := by
  have hbd := okB_bd hk
  rw [hr.1] at hbd
  have hxl := Lib.hid hr.1
  have hT := Lib.hid (show textL m xs = txtI m xs from textL_eq xs (by omega))
  have hk' := Lib.hid hk
  have hmul : n * (m + 1) ≤ 6 * 7 := Nat.mul_le_mul (by omega) (by omega)
  clear hk
  have hP := Blk.new w 25 #[.int .i64 (m : Int), .slice A n c]
  have hL0 := lo_alloc (Below.refl w.heap.size w) (.cells #[.int .i64 (m : Int), .slice A n c] 25)
  go_enter Tryz.func13, Tryz.ntmps13
  go_wp2
  go_loopw [3, 4] (fun v i wr => ∃ k : Nat, k ≤ n ∧ i = .int .i64 k ∧ v = .string (S (txtI m (xs.take k))) ∧ Blk wr w.heap.size 25 #[.int .i64 (m : Int), .slice A n c] ∧ Below w.heap.size w wr) (fun _ i _ => n - (intOf i).toNat)
  case atStart => exact ⟨0, Nat.zero_le _, rfl, rfl, hP, hL0⟩
  case round =>
    clear hP hL0
    obtain ⟨k, hkn, rfl, rfl, hP, hL⟩ := hrel
    have p0 := hP.cell 0
    have p1 := hP.cell 1
    by_cases hlt : k < n
    · have hkl : k < xs.length := by rw [hxl.out]; exact hlt
      obtain ⟨q, hxq, hq2⟩ := okB_row hk'.out rfl (k := k) hkl
      have hp64 : 2 ^ m ≤ 64 := pow_le64 (by omega)
      have hq64 : q < 64 := by omega
      have hS := Lib.hid (txtI_snoc (m := m) hkl hxq)
      have hxq' := Lib.hid hxq
      have hul : (txtI m (xs.take k)).length ≤ 42 := by
        rw [txtI_len, List.length_take, hxl.out, Nat.min_eq_left hkn]
        exact Nat.le_trans (Nat.mul_le_mul_right _ hkn) hmul
      obtain ⟨u, hu⟩ : ∃ u, Hid (txtI m (xs.take k) = u) := ⟨_, Lib.hid rfl⟩
      rw [hu.out] at hul hS ⊢
      clear hxq hq2 hp64
      go_wp2_with fail
      refine (spec_ImageValid_c _ _ _ _ xs _ (hr.next hL) (by omega)).mono ?_
      rw [hk'.out]
      rintro e w1 ⟨rfl, hb1⟩
      have hP1 := hP.next hb1
      have hL1 := lo_trans hL hb1
      clear hP hL hb1 p0 p1
      go_wp2
      go_loopw [3, 5] (fun v j wr => ∃ i : Nat, i ≤ m ∧ j = .int .i64 i ∧ v = .string (S (u ++ rowJ q i)) ∧ Blk wr w.heap.size 25 #[.int .i64 (m : Int), .slice A n c] ∧ Below w.heap.size w wr) (fun _ j _ => m - (intOf j).toNat)
      case atStart => exact ⟨0, Nat.zero_le _, rfl, by simp [rowJ], hP1, hL1⟩
      case round =>
        clear hP1 hL1
        obtain ⟨i, him, rfl, rfl, hP, hL⟩ := hrel
        have p0 := hP.cell 0
        have p1 := hP.cell 1
        have hrl := rowJ_len q i
        by_cases hlt2 : i < m
        · obtain ⟨b, off, rfl, hb, hc⟩ := (hr.next hL).at_ hlt
          rw [hxq'.out] at hc
          have hsn := rowJ_snoc q i
          have hbit := still_of (l1Bit_c q i wr.drew (by omega) (by omega))
          have hb2 : q / 2 ^ i % 2 < 2 := Nat.mod_lt _ (by omega)
          have hch : chr01 (q.testBit i) = if q / 2 ^ i % 2 = 1 then 35 else 46 := by
            rw [Nat.testBit_eq_decide_div_mod_eq, chr01]
            by_cases h : q / 2 ^ i % 2 = 1 <;> simp [h]
          rw [hch] at hsn
          have hbit' := fun w => l1Bit_c q i w (by omega) (by omega)
          clear hch hbit
          generalize q / 2 ^ i % 2 = bt at hsn hb2 hbit'
          obtain ⟨ch, hch⟩ : ∃ ch : UInt8, Hid ((if bt = 1 then (35 : UInt8) else 46) = ch) := ⟨_, Lib.hid rfl⟩
          have hsl : ∀ w, (Instr.slice 9 (.string ({ data := #[46, 35] } : ByteArray)) (some (.int .i64 (bt : Int))) (some (.int .i64 ((bt : Int) + 1))) none).run Tryz.prog w = .ok (.string (S [ch])) w := fun w => by
            have := slc_ok [46, 35] bt (bt + 1) (by omega) (by simp; omega) w
            rw [show ((([46, 35] : Bs).drop bt).take (bt + 1 - bt)) = [ch] by
              rw [← hch.out]
              rcases (by omega : bt = 0 ∨ bt = 1) with rfl | rfl <;> rfl] at this
            exact this
          rw [hch.out] at hsn
          obtain ⟨v, hv⟩ : ∃ v, Hid (u ++ rowJ q i = v) := ⟨_, Lib.hid rfl⟩
          have hvl : v.length ≤ 100 := by rw [← hv.out, List.length_append, hrl]; omega
          have hct : ∀ w, (Op.stringOp .add (S v) (S [ch])).run Tryz.prog w = .ok (.string (S (u ++ rowJ q (i + 1)))) w := fun w => by
            have := cat_ok v [ch] (by simp; omega) w
            rw [hsn, ← List.append_assoc, hv.out]
            exact this
          rw [hv.out]
          obtain ⟨v2, hv2⟩ : ∃ v2, Hid (u ++ rowJ q (i + 1) = v2) := ⟨_, Lib.hid rfl⟩
          rw [hv2.out] at hct
          have ew : IntKind.i64.wrap ((bt : Int) + 1) = (bt : Int) + 1 := IntWalk.i64_in _ (by omega)
          clear hsn hrl
          go_wp2
          go_quiet ((go_at_call 43; exact Calls.quiet_of_same (still_of (hbit' _))))
          go_wp2
          clear ew
          go_roundw
          case rel => exact ⟨i + 1, by omega, by go_num, by rw [hv2.out], hP.drewN _, below_drewN hL _⟩
          case measure => simp [intOf]; omega
        · obtain rfl : i = m := by omega
          obtain ⟨v, hv⟩ : ∃ v, Hid (u ++ rowJ q i = v) := ⟨_, Lib.hid rfl⟩
          have hvl : v.length ≤ 100 := by rw [← hv.out, List.length_append, hrl]; omega
          have hS2 := hS.out
          rw [hv.out] at hS2 ⊢
          have hct : ∀ w, (Op.stringOp .add (S v) ({ data := #[10] } : ByteArray)).run Tryz.prog w = .ok (.string (S (v ++ [10]))) w := fun w => cat_ok v [10] (by simp; omega) w
          have hS3 := Lib.hid hS2
          clear hS2
          go_wp2
          go_roundw
          case rel => exact ⟨k + 1, by omega, by go_num, by rw [← hS3.out], hP, hL⟩
          case measure => simp [intOf]; omega
    · obtain rfl : k = n := by omega
      have hF := Lib.hid (show txtI m (xs.take k) = textL m xs by rw [List.take_of_length_le (Nat.le_of_eq hxl.out), hT.out])
      rw [hF.out]
      go_wp2
      go_ret
      exact ⟨rfl, hL⟩
end Go.Proofs.YtpeiolimdglmhaaGreatDoor
