/- Plain facts and walks that the law's proof uses; each says its own conditions. -/
import Derived.Test.YteabnljjogiflaaGreatDoorZ37
import Derived.Test.YteabnljjogiflaaGreatDoorZ32
import Derived.Test.YteabnljjogiflaaGreatDoorZ36
-- Walks: the image with a rank; the next image (the reference's way).
namespace Go.Proofs.YteabnljjogiflaaGreatDoor
open Go.RowKit
set_option maxRecDepth 100000

set_option maxHeartbeats 2000000 in
theorem spec_SumsCount_c (A B : Option Addr) (h m c d : Nat) (rows cols : List Int) (w : World) (hr : Rd w A h rows) (hs : Rd w B m cols) (hb : cntB rows cols = true) (hc : h ≤ c) :
    Calls Tryz.prog 120 #[.slice A h c, .slice B m d] w fun e w' => e = .returned (.int .i64 (wayN rows cols : Nat)) ∧ Below w.heap.size w w' := by
  have hv : sV rows cols = true := by rw [cntB, Bool.and_eq_true] at hb; exact hb.1
  have h16 : h * m ≤ 16 := by rw [cntB, Bool.and_eq_true, decide_eq_true_eq, hr.1, hs.1] at hb; exact hb.2
  obtain ⟨q1, q2, q3, q4, q5, q6⟩ := sV_out hv
  rw [hr.1] at q1 q2 q6
  rw [hs.1] at q3 q4 q5
  have hx := Lib.hid (show ∀ x ∈ cols, 0 ≤ x ∧ x ≤ 1000 from fun x hx => by have := q6 x hx; omega)
  have hmi : (h : Int) * (m : Int) = ((h * m : Nat) : Int) := by simp
  have hw : wrap64 ((h : Int) * (m : Int)) = ((h * m : Nat) : Int) := by rw [hmi]; exact IntWalk.wrap64_in _ (by omega)
  clear q5 q6 hb hmi
  generalize h * m = q at h16 hw
  have g16 : decide ((q : Int) ≤ 16) = true := decide_eq_true (by omega)
  have hok : Calls Tryz.prog 163 #[.slice A h c, .slice B m d] w fun e w' => e = .returned (.bool true) ∧ w = w' := by
    go_enter Tryz.func163, Tryz.ntmps163
    go_wp2_with fail
    refine (spec_SumsValid_c _ _ _ _ _ _ rows cols _ hr hs (by omega) (by omega)).mono ?_
    rw [hv]
    rintro e w' ⟨rfl, rfl⟩
    go_wp2
    go_ret
    exact ⟨rfl, rfl⟩
  go_enter Tryz.func120, Tryz.ntmps120
  go_wp2_with fail
  refine hok.mono ?_
  rintro e w' ⟨rfl, rfl⟩
  go_wp2_with fail
  refine (l15Ways_c rows A h c B m d cols _ hr hs q2 hc (by omega) q4 hx.out).mono ?_
  rintro e w1 ⟨rfl, hb1⟩
  go_wp2
  go_ret
  exact ⟨rfl, hb1⟩

theorem nth_none {rows cols : List Int} {k : Nat} (h0 : ∀ x ∈ cols, 0 ≤ x) (h : wayN rows cols ≤ k) : nthO rows cols k = none := by
  rw [nthO, List.getElem?_eq_none (by rw [← wayN_img rows cols h0]; exact h)]; rfl

set_option maxHeartbeats 8000000 in
theorem spec_ImageNth_c (A B : Option Addr) (h m c d k : Nat) (rows cols : List Int) (w : World) (hr : Rd w A h rows) (hs : Rd w B m cols) (hk : k ≤ 1000000000000) (hb : cntB rows cols = true) (hc : h ≤ c) :
    Calls Tryz.prog 78 #[.slice A h c, .slice B m d, .int .i64 (k : Int)] w (Img3 w (nthO rows cols k)) := by
  have hv : sV rows cols = true := by rw [cntB, Bool.and_eq_true] at hb; exact hb.1
  obtain ⟨q1, q2, q3, q4, q5, q6⟩ := sV_out hv
  rw [hr.1] at q1 q2 q6
  rw [hs.1] at q3 q4 q5
  have hx := Lib.hid (show ∀ x ∈ cols, 0 ≤ x ∧ x ≤ 1000 from fun x hx => by have := q6 x hx; omega)
  have hx0 := Lib.hid (show ∀ x ∈ cols, 0 ≤ x from fun x h => (hx.out x h).1)
  have hml := Lib.hid hs.1
  have hhl := Lib.hid hr.1
  have hR0 := Blk.new w 29 #[.int .i64 0, .slice none 0 0]
  have hL0 := lo_alloc (Below.refl w.heap.size w) (.cells #[.int .i64 0, .slice none 0 0] 29)
  have hcnt := fun w' (h1 : Rd w' A h rows) (h2 : Rd w' B m cols) => spec_SumsCount_c A B h m c d rows cols w' h1 h2 hb hc
  have hwb : wayN rows cols ≤ 68719476736 := by
    rw [wayN_img rows cols hx0.out]
    exact imgL_small (by rw [hr.1]; exact q2) (by rw [hs.1]; exact q4)
  clear q5 q6 hv hb
  obtain ⟨N, hN⟩ : ∃ N, Hid (wayN rows cols = N) := ⟨_, Lib.hid rfl⟩
  rw [hN.out] at hwb hcnt
  have hsub : IntKind.i64.wrap ((N : Int) - 1) = (N : Int) - 1 := IntWalk.i64_in _ (by omega)
  by_cases hlt : k < N
  case neg =>
    have hT := Lib.hid (nth_none hx0.out (show wayN rows cols ≤ k by rw [hN.out]; omega))
    go_enter Tryz.func78, Tryz.ntmps78
    go_wp2_with fail
    refine (hcnt _ (hr.next hL0) (hs.next hL0)).mono ?_
    rintro e w1 ⟨rfl, hb1⟩
    go_wp2_with fail
    refine (l6In_f _ (by omega)).mono ?_
    rintro e w' ⟨rfl, rfl⟩
    have hK1 := hR0.next hb1
    have c0 := hK1.cell 0
    have c1 := hK1.cell 1
    have f0 := hK1.frozen 0
    have f1 := hK1.frozen 1
    have hz := hK1.lt
    have hF := (hK1.set_ 0 (.int .i64 0)).set_ 1 (.slice none 0 0)
    have r0 := hF.cell 0
    have r1 := hF.cell 1
    have hL1 : Below w.heap.size w ((w1.setCell ⟨w.heap.size, 0, none⟩ (.int .i64 0)).setCell ⟨w.heap.size, 1, none⟩ (.slice none 0 0)) := lo_set (lo_set (lo_trans hL0 hb1) (Nat.le_refl _) _) (Nat.le_refl _) _
    clear hF hK1 hR0 hsub
    go_wp2
    refine bodyPost_ret (v := .tuple #[.agg #[.int .i64 0, .slice none 0 0], .bool false]) (by simp [results, Tryz.results78, go_sem, r0, r1]) rfl (Img3.none hT.out rfl hL1)
  have hI0 := Lib.hid (NtI.zero hx0.out (show k < wayN rows cols by rw [hN.out]; exact hlt))
  go_enter Tryz.func78, Tryz.ntmps78
  go_wp2_with fail
  refine (hcnt _ (hr.next hL0) (hs.next hL0)).mono ?_
  rintro e w1 ⟨rfl, hb1⟩
  go_wp2_with fail
  refine (l6In_t _ (by omega)).mono ?_
  rintro e w' ⟨rfl, rfl⟩
  have hL1 := lo_trans hL0 hb1
  have hR1 := hR0.next hb1
  obtain ⟨bR, offR, rfl, hbR, _⟩ := hr.at_ (k := 0) (by omega)
  have hs1 := hL1.size
  have hz1 := hR1.lt
  have hB2 : Buf ((w1.alloc (.cells #[] 3)).alloc (.cells #[.int .i64 m, .slice (some ⟨w1.heap.size, 0, none⟩) 0 0] 29)) w1.heap.size (some ⟨w1.heap.size, 0, none⟩) 0 [] := (Buf.empty w1 (base := w1.heap.size) (Nat.le_refl _)).next (lo_alloc (Below.refl _ _) _)
  have hO2 : Blk ((w1.alloc (.cells #[] 3)).alloc (.cells #[.int .i64 m, .slice (some ⟨w1.heap.size, 0, none⟩) 0 0] 29)) (w1.heap.size + 1) 29 #[.int .i64 m, .slice (some ⟨w1.heap.size, 0, none⟩) 0 0] := heap_at2 w1 _ _ _
  have hL2 := lo_alloc (lo_alloc (Below.refl w1.heap.size w1) (.cells #[] 3)) (.cells #[.int .i64 m, .slice (some ⟨w1.heap.size, 0, none⟩) 0 0] 29)
  have hsz2 : ((w1.alloc (.cells #[] 3)).alloc (.cells #[.int .i64 m, .slice (some ⟨w1.heap.size, 0, none⟩) 0 0] 29)).heap.size = w1.heap.size + 1 + 1 := by simp
  have hE3 := Buf.empty ((w1.alloc (.cells #[] 3)).alloc (.cells #[.int .i64 m, .slice (some ⟨w1.heap.size, 0, none⟩) 0 0] 29)) (base := w1.heap.size + 1 + 1) (by rw [hsz2]; exact Nat.le_refl _)
  rw [hsz2] at hE3
  have hB3 := hB2.next (lo_alloc (Below.refl _ _) (.cells #[] 3))
  have hO3 := hO2.alloc (.cells #[] 3)
  have hL3 := lo_alloc hL2 (.cells #[] 3)
  have hs3 := (hs.next (lo_trans hL1 hL3))
  have hq3 := hR1.next hL3
  clear hB2 hO2 hL2 hsz2 hcnt hR0 hL0 hsub
  go_wp2_with (at_builtin; refine (wpl_append rfl _ _ rfl (w1.heap.size + 1 + 1) _ 0 0 [] rfl rfl hE3 _ m d cols rfl hs3 (by omega) (by omega) (by simp) ?_); intro gL cL w4 hB4 hg4 hat)
  rw [List.nil_append] at hB4
  have hgE := rowA_ge hE3
  have hgL : w1.heap.size + 1 < gL := by
    have hO := hB4.own
    rw [hml.out] at hO
    obtain ⟨g', e', h', _⟩ := hO.at_ (k := 0) (by omega)
    cases e'
    omega
  have hL4 : Below w1.heap.size w1 w4 := hL3.grown hg4 hL3.size (fun g hg => by have := hgE g hg; omega)
  have hO4 := hO3.grown hg4 (fun e => by have := hgE _ e.symm; omega)
  have hA4 := hB3.kept hg4 (by rintro g e e'; cases e; have := hgE _ e'; omega)
  have hq4 := hq3.grown hg4 (fun e => by have := hgE _ e.symm; omega)
  have hC4 := hB4.own
  rw [hml.out] at hC4
  clear hB3 hO3 hL3 hs3 hq3 hE3 hgE hB4 hat hg4
  obtain ⟨o, ho⟩ : ∃ o, o = w1.heap.size + 1 := ⟨_, rfl⟩
  rw [← ho] at hgL hO4
  have ho' := Lib.hid ho
  have ho1 : o ≤ w1.heap.size + 1 := by omega
  have ho2 : w1.heap.size + 1 ≤ o := by omega
  rw [← ho]
  clear ho
  go_wp2
  go_loopw [2, 9, 10] (fun v lf i wr => ∃ (j V gO cO gR d : Nat) (out L : List Int), j ≤ h ∧ i = .int .i64 j ∧ v = .int .i64 (V : Int) ∧ lf = .slice (some ⟨gR, 0, none⟩) m d ∧ Hid (NtI rows cols k j out L V) ∧ Hid (∀ x ∈ L, 0 ≤ x ∧ x ≤ 1000) ∧
      Blk wr o 29 #[.int .i64 (m : Int), .slice (some ⟨gO, 0, none⟩) j cO] ∧ Buf wr w1.heap.size (some ⟨gO, 0, none⟩) cO out ∧ gO ≠ o ∧ gO < gR ∧ o < gR ∧ Own wr w1.heap.size (some ⟨gR, 0, none⟩) m L ∧ Blk wr w.heap.size 29 #[.int .i64 0, .slice none 0 0] ∧ Below w1.heap.size w1 wr) (fun _ _ i _ => h - (intOf i).toNat)
  case atStart => exact ⟨0, k, w1.heap.size, 0, gL, cL, [], cols, Nat.zero_le _, rfl, rfl, rfl, hI0, hx, hO4, hA4, by omega, by omega, by omega, hC4.mono (by omega), hq4, hL4⟩
  case round =>
    clear hI0 hO4 hA4 hC4 hq4 hL4
    obtain ⟨j, V, gO, cO, gR, d', out, L, hj, rfl, rfl, rfl, hI, hx9, hO, hB, hne, hlt1, hlt3, hC, hq, hL⟩ := hrel
    have c0 := hO.cell 0
    have c1 := hO.cell 1
    by_cases hlt2 : j < h
    · obtain ⟨r, hrj⟩ : ∃ r, rows[j]? = some r := ⟨rows[j]'(by rw [hhl.out]; exact hlt2), List.getElem?_eq_getElem _⟩
      obtain ⟨hi, er⟩ := List.getElem?_eq_some_iff.1 hrj
      have hV := hI.out.2.2.2.1
      rw [List.drop_eq_getElem_cons hi, er] at hV
      have hd1 : Rd wr (some ⟨bR, offR + j, none⟩) (h - j) (r :: rows.drop (j + 1)) := by
        have := (hr.next (lo_trans hL1 hL)).drop j
        rwa [List.drop_eq_getElem_cons hi, er] at this
      have hsl := fun w => sl_from bR offR h c j (by omega) (by omega) w
      have hLl := hI.out.2.1
      have hol := hI.out.1
      have hrow := l16Row_c r (rows.drop (j + 1)) (some ⟨bR, offR + j, none⟩) (h - j) (c - j) (some ⟨gR, 0, none⟩) m d' V L wr hd1 hC.rd (by omega) (by omega) (by omega) q4 hx9.out hV
      have hstep := fun kk q (hK : RowAt r (rows.drop (j + 1)) L V kk q) => Lib.hid (hI.out.step hrj hK)
      have hstep' := Lib.hid hstep
      have hol' := Lib.hid hol
      have hLl' := Lib.hid (show L.length = m by rw [hLl, hml.out])
      clear hV hi er hrj hstep hol hLl hd1 hI
      have hjh : (j : Int) ≤ (h : Int) := by omega
      go_wp2_with fail
      refine hrow.mono ?_
      clear hrow hsl
      rintro e w5 ⟨kk, q, rfl, hK, hb5⟩
      have hS := hstep'.out kk q hK
      have hk1 := hK.1
      have hk3 := hK.2.2.1
      clear hK
      rw [hLl'.out] at hk1
      have hp64 : 2 ^ m ≤ 64 := pow_le64 q4
      have hk64 : kk < 64 := by omega
      have hk3' := Lib.hid hk3
      have h10 := Lib.hid (takeL_1000 (row := kk) hx9.out (takeOk_iff.1 hk3))
      clear hk1 hk3 hp64
      have hO5 := hO.next hb5
      have hB5 := hB.next hb5
      have hC5 := hC.next hb5
      have hq5 := hq.next hb5
      have hL5 := lo_trans hL hb5
      clear hO hB hC hq hL hb5 c0 c1
      have c0 := hO5.cell 0
      have c1 := hO5.cell 1
      have f0 := hO5.frozen 0
      have f1 := hO5.frozen 1
      have hB6 : Buf (w5.alloc (.cells #[.int .i64 (kk : Int)] 3)) w1.heap.size (some ⟨gO, 0, none⟩) cO out := hB5.next (by (repeat (first | exact Below.refl _ _ | assumption | refine lo_alloc ?_ _ | refine lo_set ?_ (by simp; try omega) _ | refine Below.drew ?_ | refine below_drewN ?_ _ | refine lo_trans ?_ (by assumption) | refine lo_wr ?_ (by assumption) (by omega))))
      have hO6 := hO5.alloc (.cells #[.int .i64 (kk : Int)] 3)
      have hC6 := hC5.alloc (.cells #[.int .i64 (kk : Int)] 3)
      have hq6 := hq5.alloc (.cells #[.int .i64 (kk : Int)] 3)
      have hL6 := lo_alloc hL5 (.cells #[.int .i64 (kk : Int)] 3)
      have hsz5 := hL5.size
      have hzo := hO5.lt
      have hrd : Rd (w5.alloc (.cells (ints [(kk : Int)]) 3)) (some ⟨w5.heap.size, 0, none⟩) 1 [(kk : Int)] := Rd.of_blk (Blk.new _ _ _)
      clear hO5 hB5 hC5 hq5 hL5
      go_wp2_with (at_builtin; refine (wpl_append rfl _ _ rfl w1.heap.size (some ⟨gO, 0, none⟩) cO j out rfl hol'.out.symm hB6 _ 1 1 [(kk : Int)] rfl hrd (by omega) (by omega) (by simp; omega) ?_); intro gN cN w7 hB7 hg7 hat; have hO7 := hO6.grown hg7 (fun e => hne (Option.some.inj (show some o = some gO from e)).symm); have d0 := hO7.cell 0; have d1 := hO7.cell 1; have e0 := hO7.frozen 0; have e1 := hO7.frozen 1)
      have hz6 : (w5.alloc (.cells #[.int .i64 (kk : Int)] 3)).heap.size = w5.heap.size + 1 := by simp
      have hgN : gN ≠ o ∧ gN < w7.heap.size := by
        have h7 := hB7.lt gN rfl
        refine ⟨?_, h7.2⟩
        rcases hat with e | e
        · cases e; omega
        · omega
      have hC7 := hC6.grown hg7 (fun g e e' => by cases e; have := Option.some.inj (show some gO = some gR from e'); omega)
      have hgO1 := (hB6.lt gO rfl).1
      have hq7 := hq6.grown hg7 (fun e => by have := Option.some.inj (show some w.heap.size = some gO from e); omega)
      have hL7 : Below w1.heap.size w1 w7 := hL6.grown hg7 hL6.size (fun g e => by have := Option.some.inj (show some gO = some g from e); omega)
      have hs7 := hg7.size
      have hO8 := hO7.set_ 1 (.slice (some ⟨gN, 0, none⟩) (j + 1) cN)
      have hB8 := hB7.kept (grown_set (w := w7) (g := o) (k := 1) (.slice (some ⟨gN, 0, none⟩) (j + 1) cN)) (fun g e e' => by cases e; injection e'; omega)
      have hC8 := hC7.far (p := ⟨o, 1, none⟩) (by rintro g ⟨⟩; simp; omega) (.slice (some ⟨gN, 0, none⟩) (j + 1) cN)
      have hq8 := hq7.far (p := ⟨o, 1, none⟩) (by simp; omega) (.slice (some ⟨gN, 0, none⟩) (j + 1) cN)
      have hL8 := lo_set hL7 (p := ⟨o, 1, none⟩) (by simp; omega) (.slice (some ⟨gN, 0, none⟩) (j + 1) cN)
      have hs8 : (w7.setCell ⟨o, 1, none⟩ (.slice (some ⟨gN, 0, none⟩) (j + 1) cN)).heap.size = w7.heap.size := by simp [World.setCell]
      clear hB6 hO6 hC6 hq6 hL6 hrd hB7 hg7 hO7 hC7 hq7 hL7 hat c0 c1 f0 f1 d0 d1 e0 e1
      generalize w7.setCell ⟨o, 1, none⟩ (.slice (some ⟨gN, 0, none⟩) (j + 1) cN) = w8 at hO8 hB8 hC8 hq8 hL8 hs8 ⊢
      go_wp2_with fail
      refine (l15Take_c (some ⟨gR, 0, none⟩) m d' kk L _ hC8.rd (by omega) q4 hk64 (fun x h => by have := hx9.out x h; omega)).mono ?_
      rw [hk3'.out]
      rintro e w9 ⟨g, c', rfl, hb9, hO⟩
      have hC9 := hO rfl
      have hB9 := hB8.next hb9
      have hq9 := hq8.next hb9
      have hO9 := hO8.next hb9
      have hL9 := lo_trans hL8 hb9
      obtain ⟨_, e', hg9, _⟩ := hC9.at_ (k := 0) (by omega)
      cases e'
      have hs9 := hL8.size
      clear hO hb9 hO8 hB8 hC8 hq8 hL8
      go_wp2
      go_roundw
      case rel => exact ⟨j + 1, q, gN, cN, g, c', _, _, by omega, by go_num, rfl, rfl, hS, h10, hO9, hB9, hgN.1, by omega, by omega, hC9.mono (by omega), hq9, hL9⟩
      case measure => simp [intOf]; omega
    · obtain rfl : j = h := by omega
      have hD := hI.out
      rw [← hhl.out] at hD
      have hT := Lib.hid (show nthO rows cols k = some ((m : Int), out) by rw [nthO, hD.done, hml.out]; rfl)
      have hol := Lib.hid (show out.length = j from hI.out.1)
      have q0 := hq.cell 0
      have q1 := hq.cell 1
      have f0 := hq.frozen 0
      have f1 := hq.frozen 1
      have hF := (hq.set_ 0 (.int .i64 (m : Int))).set_ 1 (.slice (some ⟨gO, 0, none⟩) j cO)
      have r0 := hF.cell 0
      have r1 := hF.cell 1
      have hO9 := hB.own
      rw [hol.out] at hO9
      have hO9' := (hO9.far_lo (p := ⟨w.heap.size, 0, none⟩) (by simp; omega) (.int .i64 (m : Int))).far_lo (p := ⟨w.heap.size, 1, none⟩) (by simp; omega) (.slice (some ⟨gO, 0, none⟩) j cO)
      have hL9 := lo_set (lo_set (lo_trans hL1 hL) (p := ⟨w.heap.size, 0, none⟩) (Nat.le_refl _) (.int .i64 (m : Int))) (p := ⟨w.heap.size, 1, none⟩) (Nat.le_refl _) (.slice (some ⟨gO, 0, none⟩) j cO)
      clear hF hD hI hB hO hC hO9
      go_wp2
      exact bodyPost_ret (v := .tuple #[.agg #[.int .i64 (m : Int), .slice (some ⟨gO, 0, none⟩) j cO], .bool true]) (by simp [results, Tryz.results78, go_sem, r0, r1]) rfl (Img3.some hT.out rfl hL9 (hO9'.mono (by omega)))
theorem spec_ImageNth_c1 (A B : Option Addr) (h m c d k : Nat) (rows cols : List Int) (w : World) (hr : Rd w A h rows) (hs : Rd w B m cols) (hk : k + 1 ≤ 1000000000000) (hb : cntB rows cols = true) (hc : h ≤ c) :
    Calls Tryz.prog 78 #[.slice A h c, .slice B m d, .int .i64 ((k : Int) + 1)] w (Img3 w (nthO rows cols (k + 1))) := by
  have := spec_ImageNth_c A B h m c d (k + 1) rows cols w hr hs hk hb hc
  rw [Int.natCast_add, Int.natCast_one] at this
  exact this

set_option maxHeartbeats 8000000 in
theorem spec_ImageNext_c (W : Int) (A : Option Addr) (n c : Nat) (xs : List Int) (w : World) (hr : Rd w A n xs) (hn : n ≤ 1000) :
    Calls Tryz.prog 36 #[.agg #[.int .i64 W, .slice A n c]] w (Img3 w (exNext (W, xs))) := by
  have hP := (Blk.new w 29 #[.int .i64 W, .slice A n c]).alloc (.cells #[.int .i64 0, .slice none 0 0] 29)
  have hQ := heap_at2 w (.cells #[.int .i64 W, .slice A n c] 29) 29 #[.int .i64 0, .slice none 0 0]
  have hB0 := lo_alloc (lo_alloc (Below.refl w.heap.size w) (.cells #[.int .i64 W, .slice A n c] 29)) (.cells #[.int .i64 0, .slice none 0 0] 29)
  have hR0 := hr.next hB0
  cases hk : rkB W xs with
  | false =>
    have hv := Lib.hid (show rankV W xs = -1 by rw [rankV, hk]; rfl)
    have hT := Lib.hid (show exNext (W, xs) = none by rw [exNext_def, hk]; rfl)
    clear hk
    go_enter Tryz.func36, Tryz.ntmps36
    go_wp2_with fail
    refine (spec_ImageRank_c W A n c xs _ hR0 hn).mono ?_
    rw [hv.out]
    rintro e w1 ⟨rfl, hb1⟩
    have k2 := hQ.next hb1
    have d0 := k2.cell 0
    have d1 := k2.cell 1
    have f0 := k2.frozen 0
    have f1 := k2.frozen 1
    have hF := (k2.set_ 0 (.int .i64 0)).set_ 1 (.slice none 0 0)
    have r0 := hF.cell 0
    have r1 := hF.cell 1
    have hL1 : Below w.heap.size w ((w1.setCell ⟨w.heap.size + 1, 0, none⟩ (.int .i64 0)).setCell ⟨w.heap.size + 1, 1, none⟩ (.slice none 0 0)) := lo_set (lo_set (lo_trans hB0 hb1) (by simp) _) (by simp) _
    clear hF k2 hP hQ
    go_wp2
    exact bodyPost_ret (v := .tuple #[.agg #[.int .i64 0, .slice none 0 0], .bool false]) (by simp [results, Tryz.results36, go_sem, r0, r1]) rfl (Img3.none hT.out rfl hL1)
  | true =>
    have h2 := hk
    rw [rkB, Bool.and_eq_true, decide_eq_true_eq] at h2
    have hbd := okB_bd h2.1
    obtain ⟨m, rfl⟩ : ∃ m : Nat, W = (m : Int) := ⟨W.toNat, by omega⟩
    have h3 := h2.2
    rw [hr.1, Int.toNat_natCast] at h3
    rw [hr.1] at hbd
    have hin := own_in h2.1
    have hlt := idx_lt hin
    have hsm := imgL_small (rs := rsum xs) (lf := csum m xs) (by simp [rsum, hr.1]; omega) (by simp [csum]; omega)
    have hcb := Lib.hid (show cntB (rsum xs) (csum m xs) = true by
      have e1 : (rsum xs).length = n := by simp [rsum, hr.1]
      have e2 : (csum m xs).length = m := by simp [csum]
      rw [cntB, sV_own4 h2.1, e1, e2, decide_eq_true h3]; rfl)
    have hSr := Lib.hid (show rSums (m : Int) xs = rsum xs by rw [rSums, h2.1]; rfl)
    have hSc := Lib.hid (show cSums (m : Int) xs = csum m xs by rw [cSums, h2.1, Int.toNat_natCast]; rfl)
    have hrl := Lib.hid (show (rsum xs).length = n by simp [rsum, hr.1])
    have hcl := Lib.hid (show (csum m xs).length = m by simp [csum])
    obtain ⟨q, hq⟩ : ∃ q, Hid ((imgL (rsum xs) (csum m xs)).idxOf xs = q) := ⟨_, Lib.hid rfl⟩
    have hv := Lib.hid (show rankV (m : Int) xs = (q : Int) by rw [rankV, hk, Int.toNat_natCast, hq.out]; rfl)
    have hT := Lib.hid (show exNext ((m : Int), xs) = nthO (rsum xs) (csum m xs) (q + 1) by
      rw [exNext_def, hk]
      simp only [Int.toNat_natCast, if_true, hq.out, nthO, hcl.out])
    rw [hq.out] at hlt
    have hqb : q ≤ 68719476736 := by omega
    have g0 : decide ((q : Int) < 0) = false := by simp; try omega
    have ew : IntKind.i64.wrap ((q : Int) + 1) = (q : Int) + 1 := IntWalk.i64_in _ (by omega)
    have hk' := Lib.hid h2.1
    clear hk h2 hin hlt hsm
    go_enter Tryz.func36, Tryz.ntmps36
    go_wp2_with fail
    refine (spec_ImageRank_c (m : Int) A n c xs _ hR0 hn).mono ?_
    rw [hv.out]
    rintro e w1 ⟨rfl, hb1⟩
    have hB1 := lo_trans hB0 hb1
    have kP := hP.next hb1
    have kQ := hQ.next hb1
    have hR1d := (hR0.next hb1).drew
    have hz1 := kQ.lt
    obtain ⟨p, hp⟩ : ∃ p, p = w.heap.size := ⟨_, rfl⟩
    have hp1 : w.heap.size ≤ p := by omega
    have hp2 : p ≤ w.heap.size := by omega
    rw [← hp] at kP kQ hz1
    clear hP hQ hB0 hb1
    have p0 := kP.cell 0
    have p1 := kP.cell 1
    have hLr := Below.refl w1.drew.heap.size w1.drew
    go_wp2
    rw [← hp]
    clear hp p0 p1
    go_region_held3 (fun w' => w'.cell? ⟨p, 0, none⟩ = some (.int .i64 (m : Int)) ∧ w'.cell? ⟨p, 1, none⟩ = some (.slice A n c))
      (first
        | exact ⟨(kP.drew.next hLr).cell 0, (kP.drew.next hLr).cell 1⟩
        | exact ⟨(((kP.drew.next hLr).far (p := ⟨p + 1, 0, none⟩) (by simp) _).far (p := ⟨p + 1, 1, none⟩) (by simp) _).cell 0, (((kP.drew.next hLr).far (p := ⟨p + 1, 0, none⟩) (by simp) _).far (p := ⟨p + 1, 1, none⟩) (by simp) _).cell 1⟩)
      (first
        | (go_at_call 79
           refine (spec_RowSums_z A n c m xs _ (hR1d.next hLr) hk'.out).mono ?_
           rintro e w6 ⟨R6, d6, rfl, hO6, hle6, hb6⟩
           have hLr := lo_trans hLr hb6)
        | (go_at_call 80
           refine (spec_ColSums_x A n c m xs _ (hR1d.next hLr) hk'.out).mono ?_
           rintro e w7 ⟨R7, d7, rfl, hO7, hb7⟩
           have hO6 := hO6.next hb7
           have hLr := lo_trans hLr hb7)
        | (go_at_call 78
           refine (spec_ImageNth_c1 _ _ _ _ _ _ q (rsum xs) (csum m xs) _ hO6.rd hO7.rd (by omega) hcb.out hle6).mono ?_
           rintro e w8 ⟨V, R, r, k, rfl, hb8, h2⟩
           have hLr := lo_trans hLr hb8
           have d0 := (kQ.drew.next hLr).cell 0
           have d1 := (kQ.drew.next hLr).cell 1
           have f0 := (kQ.drew.next hLr).frozen 0
           have f1 := (kQ.drew.next hLr).frozen 1))
    have hz8 := hLr.size
    have hF := ((kQ.drew.next hLr).set_ 0 (.int .i64 V)).set_ 1 (.slice R r k)
    have r0 := hF.cell 0
    have r1 := hF.cell 1
    have hL9 := lo_set (lo_set (lo_trans (Below.drew hB1) hLr) (p := ⟨p + 1, 0, none⟩) (by simp; omega) (.int .i64 V)) (p := ⟨p + 1, 1, none⟩) (by simp; omega) (.slice R r k)
    have hz7 : p + 1 < w7.heap.size := by have := hb7.size; have := hb6.size; have : w1.drew.heap.size = w1.heap.size := rfl; omega
    have hO9 := fun z hz => (((h2 z hz).2.far_lo (p := ⟨p + 1, 0, none⟩) (by simp; omega) (.int .i64 V)).far_lo (p := ⟨p + 1, 1, none⟩) (by simp; omega) (.slice R r k)).mono (lo' := w.heap.size) (by omega)
    clear hF kP kQ
    go_wp2
    exact bodyPost_ret (v := .tuple #[.agg #[.int .i64 V, .slice R r k], .bool (nthO (rsum xs) (csum m xs) (q + 1)).isSome]) (by simp [results, Tryz.results36, go_sem, r0, r1]) rfl ⟨V, R, r, k, by rw [hT.out], hL9, fun z hz => by rw [hT.out] at hz; exact ⟨(h2 z hz).1, hO9 z hz⟩⟩
end Go.Proofs.YteabnljjogiflaaGreatDoor
