
/- Walks: a script is drawn: its words, its lines. -/
import Derived.Test.YteabnljjogiflaaGreatDoorZ14
import Derived.Test.YteabnljjogiflaaGreatDoorZ41
import Derived.Test.YteabnljjogiflaaGreatDoorZ19
namespace Go.Proofs.YteabnljjogiflaaGreatDoor
open Go.RowKit
set_option maxRecDepth 100000

/-- some text, not too long -/
def StrP (w : World) (k : Nat) (e : Ending) (w' : World) : Prop := ∃ t : Bs, t.length ≤ k ∧ e = .returned (.string (S t)) ∧ Below w.heap.size w w'
/-- some text, not too long, drawn -/
def StrD (w : World) (k lo b p q : Nat) (e : Ending) (w' : World) : Prop := ∃ (t : Bs) (p' : Nat), t.length ≤ k ∧ e = .returned (.string (S t)) ∧ w.grownBy w' (some b) ∧ Rdr w' lo b p' ∧ p' ≤ p + q
theorem WB.grown {w w' : World} {g : Nat} {ws : List Bs} (h : Blk w g 9 (strs ws)) {row : Option Nat} (hg : w.grownBy w' row) (hne : some g ≠ row) : Blk w' g 9 (strs ws) := Blk.grown h hg hne

set_option maxHeartbeats 2000000 in
theorem l6Dec_s (x : Int) (h0 : -2 ≤ x) (h1 : x < 100) (w : World) : Calls Tryz.prog 18 #[.int .i64 x] w (StrP w 3) := by
  by_cases h : x < 0
  · obtain ⟨n, hn, hn1, hn2⟩ : ∃ n : Nat, x = -(n : Int) ∧ 1 ≤ n ∧ n ≤ 2 := ⟨(-x).toNat, by omega, by omega, by omega⟩
    subst hn
    have hone : ∀ w, Calls Tryz.prog 18 #[.int .i64 (n : Int)] w fun e w' => e = .returned (.string (S (dec2 n))) ∧ Below w.heap.size w w' := fun w => l6Dec_c n (by omega) w
    have hdl := dec2_len n
    generalize dec2 n = d at hone hdl
    have hcat : ∀ w, (Op.stringOp .add ({ data := #[45] } : ByteArray) (S d)).run Tryz.prog w = .ok (.string (S ([45] ++ d))) w := fun w => cat_ok [45] d (by simp; omega) w
    have g1 : decide (-(n : Int) < -9223372036854775807) = false := decide_eq_false (by omega)
    have g2 : decide (-(n : Int) < 0) = true := decide_eq_true (by omega)
    have g3 : wrap64 (-(-(n : Int))) = (n : Int) := by rw [Int.neg_neg]; exact IntWalk.wrap64_in _ (by omega)
    obtain ⟨v, hv⟩ : ∃ v, Hid ([45] ++ d = v) := ⟨_, Lib.hid rfl⟩
    have hvl : v.length ≤ 3 := by rw [← hv.out]; simp; omega
    rw [hv.out] at hcat
    go_enter Tryz.func18, Tryz.ntmps18
    go_wp2_with fail
    refine (hone _).mono ?_
    rintro e w1 ⟨rfl, hb1⟩
    go_wp2
    go_ret
    exact ⟨v, hvl, rfl, hb1⟩
  · obtain ⟨n, rfl⟩ : ∃ n : Nat, x = (n : Int) := ⟨x.toNat, by omega⟩
    exact (l6Dec_c n (by omega) w).mono fun e w' ⟨he, hb⟩ => ⟨dec2 n, by have := dec2_len n; omega, he, hb⟩

set_option maxHeartbeats 2000000 in
theorem l93Digits_c (A : Option Addr) (n c : Nat) (xs : List Int) (w : World) (hr : Rd w A n xs) (hn : n ≤ 6) (hx : ∀ x ∈ xs, -2 ≤ x ∧ x ≤ 50) :
    Calls Tryz.prog 69 #[.slice A n c] w (StrP w 18) := by
  have hx' := Lib.hid hx
  have hxl := Lib.hid hr.1
  clear hx
  go_enter Tryz.func69, Tryz.ntmps69
  go_wp2
  go_loopw [3, 4] (fun v i wr => ∃ (k : Nat) (t : Bs), k ≤ n ∧ i = .int .i64 k ∧ v = .string (S t) ∧ t.length ≤ 3 * k ∧ Below w.heap.size w wr) (fun _ i _ => n - (intOf i).toNat)
  case atStart => exact ⟨0, [], Nat.zero_le _, rfl, rfl, by simp, Below.refl _ _⟩
  case round =>
    obtain ⟨k, t, hk, rfl, rfl, ht, hL⟩ := hrel
    by_cases hlt : k < n
    · obtain ⟨b, off, rfl, hb, hc⟩ := (hr.next hL).at_ hlt
      have hxk := hx'.out _ (mem_at (show k < xs.length by rw [hxl.out]; exact hlt))
      generalize xs[k]?.getD 0 = x at hc hxk
      have hdec := fun w => l6Dec_s x (by omega) (by omega) w
      clear hxk
      go_wp2_with fail
      refine (hdec _).mono ?_
      rintro e w1 ⟨d, hd, rfl, hb1⟩
      have hct := fun w => cat_ok t d (by omega) w
      obtain ⟨v, hv⟩ : ∃ v, Hid (t ++ d = v) := ⟨_, Lib.hid rfl⟩
      have hvl : v.length ≤ 3 * (k + 1) := by rw [← hv.out, List.length_append]; omega
      rw [hv.out] at hct
      clear hdec
      go_wp2
      go_roundw
      case rel => exact ⟨k + 1, v, by omega, by go_num, rfl, hvl, lo_trans hL hb1⟩
      case measure => simp [intOf]; omega
    · go_wp2
      go_ret
      exact ⟨t, by omega, rfl, hL⟩

set_option maxHeartbeats 2000000 in
theorem of_c (lo b p g n : Nat) (ws : List Bs) (w : World) (h : Rdr w lo b p) (hp : p ≤ 500000) (hW : Blk w g 9 (strs ws)) (hne : g ≠ b) (hn : ws.length = n) (h1 : 1 ≤ n) (h2 : n ≤ 20) (hl : ∀ x ∈ ws, x.length ≤ 20) :
    Calls Tryz.prog 68 #[.pointer (some ⟨b, 0, none⟩), .slice (some ⟨g, 0, none⟩) n n] w (StrD w 20 lo b p 1) := by
  go_enter Tryz.func68, Tryz.ntmps68
  go_wp2_with fail
  refine (pick_c lo b p _ _ h (by omega)).mono ?_
  rintro e w1 ⟨k, rfl, hk, hg1, hr1⟩
  have hkn := hk (by omega)
  have hk2 : k < ws.length := by omega
  have hc := (hW.grown hg1 (fun e => hne (Option.some.inj e))).cell k
  have hx := hl _ (List.getElem_mem hk2)
  rw [strs_get, List.getElem?_eq_getElem hk2, Option.map_some] at hc
  generalize ws[k] = x at hc hx
  clear hk
  go_wp2
  go_ret
  exact ⟨x, p + 1, hx, rfl, hg1, hr1, Nat.le_refl _⟩

set_option maxHeartbeats 2000000 in
theorem l6Many_c (u : Bs) (w : World) (hu : u.length ≤ 10) :
    Calls Tryz.prog 31 #[.string (S u), .int .i64 90] w (StrP w 1000) := by
  go_enter Tryz.func31, Tryz.ntmps31
  go_wp2
  go_loop [0, 1, 5] (fun s i v => ∃ (n : Nat) (x y : Bs), n ≤ 90 ∧ i = .int .i64 n ∧ s = .string (S x) ∧ v = .string (S y) ∧ y.length + x.length * n ≤ 900) (fun _ i _ => (intOf i).toNat)
  case atStart => exact ⟨90, u, [], Nat.le_refl _, rfl, rfl, rfl, by simp; omega⟩
  case round =>
    obtain ⟨n, x, y, hn, rfl, rfl, rfl, hl⟩ := hrel
    by_cases h0 : n = 0
    · subst h0
      go_wp2
      go_ret
      exact ⟨y, by simp at hl; omega, rfl, Below.refl _ _⟩
    · have hxl : x.length ≤ 900 := by
        have := Nat.le_mul_of_pos_right x.length (show 0 < n by omega)
        omega
      obtain ⟨q, hq⟩ : ∃ q, n = 2 * q ∨ n = 2 * q + 1 := ⟨n / 2, by omega⟩
      have hxx := fun w => cat_ok x x (by omega) w
      have hyx := fun w => cat_ok y x (by omega) w
      have g0 : decide ((0 : Int) < (n : Int)) = true := by simp; omega
      have d1 : (n : Int).tmod 2 = ((n % 2 : Nat) : Int) := by rw [Int.tmod_eq_emod_of_nonneg (by omega)]; omega
      have d2 : (n : Int).tdiv 2 = ((n / 2 : Nat) : Int) := by rw [Int.tdiv_eq_ediv_of_nonneg (by omega)]; omega
      have d3 : (n : Int) % 2 = ((n % 2 : Nat) : Int) := by omega
      have d4 : (n : Int) / 2 = ((n / 2 : Nat) : Int) := by omega
      have hle : (x ++ x).length * (n / 2) + (if n % 2 = 1 then x.length else 0) = x.length * n := by
        rw [List.length_append, ← Nat.two_mul, Nat.mul_comm 2 x.length, Nat.mul_assoc]
        rcases hq with rfl | rfl
        · rw [Nat.mul_div_cancel_left q (by omega), if_neg (by omega)]; rfl
        · rw [show (2 * q + 1) / 2 = q by omega, if_pos (by omega), Nat.mul_add, Nat.mul_one]
      have hle' := Lib.hid hle
      obtain ⟨v, hv⟩ : ∃ v, Hid (x ++ x = v) := ⟨_, Lib.hid rfl⟩
      obtain ⟨z, hz⟩ : ∃ z, Hid (y ++ x = z) := ⟨_, Lib.hid rfl⟩
      rw [hv.out] at hxx
      rw [hz.out] at hyx
      have hn2 : n / 2 < n := by omega
      clear hle
      by_cases ho : n % 2 = 1
      · have g1 : (((n % 2 : Nat) : Int) == 1) = true := by rw [ho]; rfl
        have hm := hle'.out
        rw [if_pos ho, hv.out] at hm
        have hzl : z.length + v.length * (n / 2) ≤ 900 := by rw [← hz.out, List.length_append]; omega
        clear hm hq ho
        generalize n % 2 = r at *
        generalize n / 2 = m at *
        go_wp2
        go_round
        case rel => exact ⟨m, v, z, by omega, rfl, rfl, rfl, hzl⟩
        case measure => clear d1 d2 d3 d4; simp [intOf]; omega
      · have g1 : (((n % 2 : Nat) : Int) == 1) = false := by rw [beq_eq_false_iff_ne]; omega
        have hm := hle'.out
        rw [if_neg ho, hv.out] at hm
        have hzl : y.length + v.length * (n / 2) ≤ 900 := by omega
        clear hm hq ho
        generalize n % 2 = r at *
        generalize n / 2 = m at *
        go_wp2
        go_round
        case rel => exact ⟨m, v, y, by omega, rfl, rfl, rfl, hzl⟩
        case measure => clear d1 d2 d3 d4; simp [intOf]; omega

theorem bnd_a {z v : Int} (h : z = v + 1) (h3 : 0 ≤ v ∧ v ≤ 6) : -2 ≤ z ∧ z ≤ 50 := by omega
theorem bnd_b {z v : Int} (h : z = v - 1) (h3 : -1 ≤ v ∧ v ≤ 7) : -2 ≤ z ∧ z ≤ 50 := by omega
def DrawnSumsB (w : World) (lo b p k : Nat) (e : Ending) (w' : World) : Prop :=
  ∃ (R : Option Addr) (n c : Nat) (Q : Option Addr) (m d q : Nat) (xs ys : List Int), e = .returned (.tuple #[.slice R n c, .slice Q m d]) ∧ 1 ≤ n ∧ n ≤ 6 ∧ 1 ≤ m ∧ m ≤ 6 ∧ xs.length = n ∧ ys.length = m ∧
    Buf w' w.heap.size R c xs ∧ Buf w' w.heap.size Q d ys ∧ Hid (∀ g, R = some ⟨g, 0, none⟩ → Q ≠ some ⟨g, 0, none⟩) ∧ w.grownBy w' (some b) ∧ Rdr w' lo b q ∧ q ≤ p + k ∧ Hid (∀ x ∈ xs, -2 ≤ x ∧ x ≤ 50) ∧ Hid (∀ y ∈ ys, -2 ≤ y ∧ y ≤ 50)

set_option maxHeartbeats 4000000 in
theorem l91Sums_b (lo b p : Nat) (w : World) (h : Rdr w lo b p) (hp : p ≤ 500000) :
    Calls Tryz.prog 67 #[.pointer (some ⟨b, 0, none⟩), .int .i64 16] w (DrawnSumsB w lo b p 70) := by
  have hbz := h.lt
  go_enter Tryz.func67, Tryz.ntmps67
  go_wp2_with fail
  refine (l91Image_c lo b p 16 _ h (by omega) (by omega) (by omega)).mono ?_
  rintro e w1 ⟨a, m, g, q, f, rfl, ha1, ha2, hm1, hm2, hg, hk1, hg1, hr1, hq⟩
  have hgw := hk1.lt
  have hz1 := hg1.size
  obtain ⟨wz, hwz⟩ : ∃ wz, wz = w1.alloc (.cells #[.int .i64 m, .slice (some ⟨g, 0, none⟩) a a] 29) := ⟨_, rfl⟩
  have hO : Blk wz w1.heap.size 29 #[.int .i64 m, .slice (some ⟨g, 0, none⟩) a a] := by rw [hwz]; exact Blk.new _ _ _
  have hI : Rd wz (some ⟨g, 0, none⟩) a (img f a m) := by rw [hwz]; exact (Own.of_blk (hk1.alloc _) hg (img_len _ _ _)).rd
  have hG : w.grownBy wz (some b) := by rw [hwz]; exact grown_trans hg1 (grown_alloc _ _)
  have hR : Rdr wz lo b q := by rw [hwz]; exact hr1.next (by (repeat (first | exact Below.refl _ _ | assumption | refine lo_alloc ?_ _ | refine lo_set ?_ (by simp; try omega) _ | refine Below.drew ?_ | refine below_drewN ?_ _ | refine lo_trans ?_ (by assumption) | refine lo_wr ?_ (by assumption) (by omega))))
  have hzz : wz.heap.size = w1.heap.size + 1 := by rw [hwz]; simp
  clear hk1 hg1 hr1
  go_wp2_with fail
  rw [← hwz]
  have hwz' := Lib.hid hwz; clear hwz
  have o0 := hO.cell 0
  have o1 := hO.cell 1
  go_wp2_with fail
  refine (spec_RowSums_c _ _ _ _ f _ hI ha1 ha2 hm1 hm2).mono ?_
  rintro e w2 ⟨R, c, xs, rfl, hB2, hxl, hX, hb2⟩
  have hO2 := hO.next hb2
  have hz2 := hb2.size
  clear o0 o1
  have o0 := hO2.cell 0
  have o1 := hO2.cell 1
  have hxl' := Lib.hid hxl; clear hxl
  go_wp2_with fail
  refine (spec_ColSums_c _ _ _ _ f _ (hI.next hb2) ha1 ha2 hm1 hm2).mono ?_
  rintro e w3 ⟨Q, d, ys, rfl, hQ3, hyl, hY, hb3⟩
  have hyl' := Lib.hid hyl; clear hyl
  have hz3 := hb3.size
  have hB3 := hB2.next hb3
  have hD : Hid (∀ g, R = some ⟨g, 0, none⟩ → Q ≠ some ⟨g, 0, none⟩) := Lib.hid (fun g e e' => by have := hB2.lt g e; have := hQ3.lt g e'; omega)
  have hG3 : w.grownBy w3 (some b) := grown_trans (grown_trans hG (grown_of_below hb2 _)) (grown_of_below hb3 _)
  have hR3 := (hR.next hb2).next hb3
  have hB3' := hB3.mono (show w.heap.size ≤ wz.heap.size by omega)
  have hQ3' := hQ3.mono (show w.heap.size ≤ w2.heap.size by omega)
  clear hO hO2 hI hb2 hb3 hB2 hQ3 hB3 hG hR o0 o1
  go_wp2_with fail
  refine (pick_c lo b q _ _ hR3 (by omega)).mono ?_
  rintro e w4 ⟨x, rfl, _, hg4, hr4⟩
  have hB4 := hB3'.kept_lo hg4 (by rintro _ ⟨⟩; exact hbz)
  have hQ4 := hQ3'.kept_lo hg4 (by rintro _ ⟨⟩; exact hbz)
  have hG4 := grown_trans hG3 hg4
  have hz4 := hg4.size
  clear hB3' hQ3' hG3 hg4 hR3
  by_cases s0 : x = 0
  · have s0' : ((x : Int) == 0) = true := by simp; omega
    clear s0
    go_wp2_with fail
    refine (pick_c lo b _ _ _ hr4 (by omega)).mono ?_
    rintro e w5 ⟨x5, rfl, hx5, hg5, hr5⟩
    have hy5 := hx5 (by omega)
    go_wp2_with fail
    refine (pick_c lo b _ _ _ hr5 (by omega)).mono ?_
    rintro e w6 ⟨x6, rfl, hx6, hg6, hr6⟩
    have hy6 := hx6 (by omega)
    clear hx5 hx6
    have hB6 := (hB4.kept_lo hg5 (by rintro _ ⟨⟩; exact hbz)).kept_lo hg6 (by rintro _ ⟨⟩; exact hbz)
    have hQ6 := (hQ4.kept_lo hg5 (by rintro _ ⟨⟩; exact hbz)).kept_lo hg6 (by rintro _ ⟨⟩; exact hbz)
    have hG6 := grown_trans (grown_trans hG4 hg5) hg6
    obtain ⟨gA, rfl, lA, zA, cA, fA⟩ := hB6.at_ (k := x5) hxl'.out (by omega)
    have hF := hB6.set (k := x5) (x6 : Int)
    have hQF := hQ6.kept (grown_set (w := w6) (g := gA) (k := x5) (.int .i64 (x6 : Int))) (fun g e e' => by injection e' with e'; subst e'; exact hD.out _ rfl e)
    have hGF := grown_over hG6 (grown_set (w := w6) (g := gA) (k := x5) (.int .i64 (x6 : Int))) (by rintro _ ⟨⟩; omega)
    have hRF := hr6.grown (grown_set (w := w6) (g := gA) (k := x5) (.int .i64 (x6 : Int))) (by omega)
    clear hB4 hQ4 hG4 hg5 hg6 hr4 hr5 hr6 hB6 hQ6 hG6
    go_wp2
    go_ret2
    exact ⟨_, _, _, _, _, _, _, _, _, rfl, ha1, ha2, hm1, hm2, by rw [List.length_set]; exact hxl'.out, hyl'.out, hF, hQF, hD, hGF, hRF, by omega, Lib.hid (fun z hz => by
      rcases List.mem_or_eq_of_mem_set hz with h | h
      · have := hX.out z h; omega
      · omega), Lib.hid (fun z hz => by have := hY.out z hz; omega)⟩
  have s0' : ((x : Int) == 0) = false := by simp; omega
  by_cases s1 : x = 1
  · have s1' : ((x : Int) == 1) = true := by simp; omega
    clear s0 s1
    go_wp2_with fail
    refine (pick_c lo b _ _ _ hr4 (by omega)).mono ?_
    rintro e w5 ⟨x5, rfl, hx5, hg5, hr5⟩
    have hy5 := hx5 (by omega)
    go_wp2_with fail
    refine (pick_c lo b _ _ _ hr5 (by omega)).mono ?_
    rintro e w6 ⟨x6, rfl, hx6, hg6, hr6⟩
    have hy6 := hx6 (by omega)
    clear hx5 hx6
    have hB6 := (hB4.kept_lo hg5 (by rintro _ ⟨⟩; exact hbz)).kept_lo hg6 (by rintro _ ⟨⟩; exact hbz)
    have hQ6 := (hQ4.kept_lo hg5 (by rintro _ ⟨⟩; exact hbz)).kept_lo hg6 (by rintro _ ⟨⟩; exact hbz)
    have hG6 := grown_trans (grown_trans hG4 hg5) hg6
    obtain ⟨gA, rfl, lA, zA, cA, fA⟩ := hQ6.at_ (k := x5) hyl'.out (by omega)
    have hv5 := hY.out _ (mem_at (show x5 < ys.length by rw [hyl'.out]; omega))
    have hvS : ∀ j, j < m → -1 ≤ (ys.set x5 (ys[x5]?.getD 0 + 1))[j]?.getD 0 ∧ (ys.set x5 (ys[x5]?.getD 0 + 1))[j]?.getD 0 ≤ 7 := by
      intro j hj
      have hm' := mem_at (show j < (ys.set x5 (ys[x5]?.getD 0 + 1)).length by rw [List.length_set, hyl'.out]; exact hj)
      rcases List.mem_or_eq_of_mem_set hm' with h | h
      · have := hY.out _ h; omega
      · omega
    have hv6 := hvS x6 (by omega)
    clear hvS
    have hQ7 := hQ6.set (k := x5) (ys[x5]?.getD 0 + 1)
    generalize ys[x5]?.getD 0 = v5 at cA hv5 hv6 hQ7 ⊢
    have hB7 := hB6.kept (grown_set (w := w6) (g := gA) (k := x5) (.int .i64 (v5 + 1))) (fun g e e' => by injection e' with e'; subst e'; exact hD.out _ e rfl)
    have hG7 := grown_over hG6 (grown_set (w := w6) (g := gA) (k := x5) (.int .i64 (v5 + 1))) (by rintro _ ⟨⟩; omega)
    have hR7 := hr6.grown (grown_set (w := w6) (g := gA) (k := x5) (.int .i64 (v5 + 1))) (by omega)
    obtain ⟨_, e1, _, _, cA2, fA2⟩ := hQ7.at_ (k := x6) (n := m) (by rw [List.length_set]; exact hyl'.out) (by omega)
    cases e1
    have hQ8 := hQ7.set (k := x6) ((ys.set x5 (v5 + 1))[x6]?.getD 0 - 1)
    have hl8 := Lib.hid (show ((ys.set x5 (v5 + 1)).set x6 ((ys.set x5 (v5 + 1))[x6]?.getD 0 - 1)).length = m by rw [List.length_set, List.length_set]; exact hyl'.out)
    generalize (ys.set x5 (v5 + 1))[x6]?.getD 0 = v6 at cA2 hv6 hQ8 hl8 ⊢
    have hB8 := hB7.kept (grown_set (g := gA) (k := x6) (.int .i64 (v6 - 1))) (fun g e e' => by injection e' with e'; subst e'; exact hD.out _ e rfl)
    have hG8 := grown_over hG7 (grown_set (g := gA) (k := x6) (.int .i64 (v6 - 1))) (by rintro _ ⟨⟩; omega)
    have hR8 := hR7.grown (grown_set (g := gA) (k := x6) (.int .i64 (v6 - 1))) (by omega)
    have hvB := Lib.hid hv5
    have hvC := Lib.hid hv6
    clear hB4 hQ4 hG4 hg5 hg6 hr4 hr5 hr6 hB6 hQ6 hG6 hB7 hG7 hR7 hQ7
    go_wp2
    go_ret2
    exact ⟨_, _, _, _, _, _, _, _, _, rfl, ha1, ha2, hm1, hm2, hxl'.out, hl8.out, hB8, hQ8, hD, hG8, hR8, by omega, Lib.hid (fun z hz => by have := hX.out z hz; omega), Lib.hid (fun z hz => by
      rcases List.mem_or_eq_of_mem_set hz with h | h
      · rcases List.mem_or_eq_of_mem_set h with h | h
        · have := hY.out z h; omega
        · exact bnd_a h hvB.out
      · exact bnd_b h hvC.out)⟩
  have s1' : ((x : Int) == 1) = false := by simp; omega
  by_cases s2 : x = 2
  · have s2' : ((x : Int) == 2) = true := by simp; omega
    clear s0 s1 s2
    go_wp2_with fail
    refine (pick_c lo b _ _ _ hr4 (by omega)).mono ?_
    rintro e w5 ⟨x5, rfl, hx5, hg5, hr5⟩
    have hy5 := hx5 (by omega)
    clear hx5
    have hB6 := hB4.kept_lo hg5 (by rintro _ ⟨⟩; exact hbz)
    have hQ6 := hQ4.kept_lo hg5 (by rintro _ ⟨⟩; exact hbz)
    have hG6 := grown_trans hG4 hg5
    obtain ⟨gA, rfl, lA, zA, cA, fA⟩ := hQ6.at_ (k := 0) hyl'.out (by omega)
    have hF := hQ6.set (k := 0) ((a : Int) + (x5 : Int))
    have hBF := hB6.kept (grown_set (w := w5) (g := gA) (k := 0) (.int .i64 ((a : Int) + (x5 : Int)))) (fun g e e' => by injection e' with e'; subst e'; exact hD.out _ e rfl)
    have hGF := grown_over hG6 (grown_set (w := w5) (g := gA) (k := 0) (.int .i64 ((a : Int) + (x5 : Int)))) (by rintro _ ⟨⟩; omega)
    have hRF := hr5.grown (grown_set (w := w5) (g := gA) (k := 0) (.int .i64 ((a : Int) + (x5 : Int)))) (by omega)
    clear hB4 hQ4 hG4 hg5 hr4 hr5 hB6 hQ6 hG6
    go_wp2
    go_ret2
    exact ⟨_, _, _, _, _, _, _, _, _, rfl, ha1, ha2, hm1, hm2, hxl'.out, by rw [List.length_set]; exact hyl'.out, hBF, hF, hD, hGF, hRF, by omega, Lib.hid (fun z hz => by have := hX.out z hz; omega), Lib.hid (fun z hz => by
      rcases List.mem_or_eq_of_mem_set hz with h | h
      · have := hY.out z h; omega
      · omega)⟩
  · have s2' : ((x : Int) == 2) = false := by simp; omega
    clear s0 s1 s2
    go_wp2
    go_ret2
    exact ⟨_, _, _, _, _, _, _, _, _, rfl, ha1, ha2, hm1, hm2, hxl'.out, hyl'.out, hB4, hQ4, hD, hG4, hr4, by omega, Lib.hid (fun z hz => by have := hX.out z hz; omega), Lib.hid (fun z hz => by have := hY.out z hz; omega)⟩
end Go.Proofs.YteabnljjogiflaaGreatDoor
