
/- Walks: the reference's switches: one cell read, a switch looked at, a copy, a switch done. -/
import Derived.Test.YtjogfeichnkffaaSw
import Derived.Test.YtjogfeichnkffaaWg
import Derived.Deep.AppendLies
namespace Go.Proofs.Ytjogfeichnkffaa
open Go.RowKit
set_option maxRecDepth 100000

def b01 (b : Bool) : Int := if b then 1 else 0
theorem div_bit (r j : Nat) : ((r / 2 ^ j % 2 : Nat) : Int) = b01 (r.testBit j) := by
  rw [Nat.testBit_eq_decide_div_mod_eq, b01]
  rcases Nat.mod_two_eq_zero_or_one (r / 2 ^ j) with h | h <;> simp [h]

set_option maxHeartbeats 1000000 in
theorem l11Get_c (m i j n c : Nat) (xs : List Int) (A : Option Addr) (w : World) (hr : Rd w A n xs) (hk : okB (m : Int) xs = true) (hi : i < n) (hj : j < m) :
    Calls Try.prog 63 #[.agg #[.int .i64 (m : Int), .slice A n c], .int .i64 i, .int .i64 j] w fun e w' => e = .returned (.int .i64 (b01 (cellF xs i j))) ∧ Below w.heap.size w w' := by
  have hbd := okB_bd hk
  obtain ⟨r, h1, h2⟩ := okB_at hk (k := i) (by rw [hr.1]; exact hi)
  have e := Lib.hid (show b01 (cellF xs i j) = ((r / 2 ^ j % 2 : Nat) : Int) by rw [div_bit]; simp only [cellF, h1, Int.toNat_natCast])
  obtain ⟨b, off, rfl, hb, hcc⟩ := (hr.alloc (.cells #[.int .i64 (m : Int), .slice A n c] 27)).at_ hi
  rw [h1] at hcc
  clear h1 hk
  go_enter Try.func63, Try.ntmps63
  go_wp2_with (go_at_call 67; refine (l1Bit_c r j _ (by omega) (by omega)).mono ?_; rintro e w' ⟨rfl, rfl⟩)
  go_ret
  exact ⟨ret_int e.out.symm, by (repeat (first | exact Below.refl _ _ | assumption | refine lo_alloc ?_ _ | refine lo_set ?_ (by simp; try omega) _ | refine Below.drew ?_ | refine below_drewN ?_ _ | refine lo_trans ?_ (by assumption) | refine lo_wr ?_ (by assumption) (by omega)))⟩

theorem b01_eq (x y : Bool) : (b01 x == b01 y) = (x == y) := by cases x <;> cases y <;> rfl
theorem b01_not (x y : Bool) : (b01 x == 1 - b01 y) = (x != y) := by cases x <;> cases y <;> rfl

theorem in_yes {x lo hi : Int} (h1 : lo ≤ x) (h2 : x ≤ hi) : (decide (lo ≤ x) && decide (x ≤ hi)) = true := by simp [h1, h2]

set_option maxHeartbeats 4000000 in
theorem l11Ok_c (m n c : Nat) (A : Option Addr) (xs : List Int) (s : Sw) (w : World) (hr : Rd w A n xs) (hk : okB (m : Int) xs = true) (h : s.a < s.b ∧ s.b < n ∧ s.c < s.d ∧ s.d < m) :
    Calls Try.prog 61 #[.agg #[.int .i64 (m : Int), .slice A n c], .agg #[.int .i64 s.a, .int .i64 s.b, .int .i64 s.c, .int .i64 s.d]] w fun e w' => e = .returned (.bool (swOk xs s)) ∧ Below w.heap.size w w' := by
  have hk' := Lib.hid hk
  have hbd := okB_bd hk
  rw [hr.1] at hbd
  obtain ⟨ha, hb, hc, hd⟩ := h
  have e0 : Hid (swOk xs s = ((cellF xs s.b s.d == cellF xs s.a s.c) && (cellF xs s.a s.d != cellF xs s.a s.c) && (cellF xs s.b s.c != cellF xs s.a s.c))) := Lib.hid rfl
  clear hk
  obtain ⟨sa, sb, sc, sd⟩ := s
  dsimp only at ha hb hc hd e0 ⊢
  have i1 := Lib.hid (in_yes (x := (sb : Int)) (lo := 0) (hi := (n : Int) - 1) (by omega) (by omega))
  have i2 := Lib.hid (in_yes (x := (sd : Int)) (lo := 0) (hi := (m : Int) - 1) (by omega) (by omega))
  have i3 := Lib.hid (in_yes (x := (sa : Int)) (lo := 0) (hi := (sb : Int) - 1) (by omega) (by omega))
  have i4 := Lib.hid (in_yes (x := (sc : Int)) (lo := 0) (hi := (sd : Int) - 1) (by omega) (by omega))
  have hP := (Blk.new w 27 #[.int .i64 (m : Int), .slice A n c]).alloc (.cells #[.int .i64 sa, .int .i64 sb, .int .i64 sc, .int .i64 sd] 68)
  have hQ := heap_at2 w (.cells #[.int .i64 (m : Int), .slice A n c] 27) 68 #[.int .i64 sa, .int .i64 sb, .int .i64 sc, .int .i64 sd]
  have hB0 := lo_alloc (lo_alloc (Below.refl w.heap.size w) (.cells #[.int .i64 (m : Int), .slice A n c] 27)) (.cells #[.int .i64 sa, .int .i64 sb, .int .i64 sc, .int .i64 sd] 68)
  have hR0 := (hr.alloc (.cells #[.int .i64 (m : Int), .slice A n c] 27)).alloc (.cells #[.int .i64 sa, .int .i64 sb, .int .i64 sc, .int .i64 sd] 68)
  go_enter Try.func61, Try.ntmps61
  go_wp2_with fail
  refine (l6In_c _ _ _ _).mono ?_; rw [i1.out]; rintro e w' ⟨rfl, rfl⟩
  go_wp2_with fail
  refine (l6In_c _ _ _ _).mono ?_; rw [i2.out]; rintro e w' ⟨rfl, rfl⟩
  go_wp2_with fail
  refine (l6In_c _ _ _ _).mono ?_; rw [i3.out]; rintro e w' ⟨rfl, rfl⟩
  go_wp2_with fail
  refine (l6In_c _ _ _ _).mono ?_; rw [i4.out]; rintro e w' ⟨rfl, rfl⟩
  go_wp2_with fail
  refine (l11Get_c m sa sc n c xs A _ hR0 hk'.out (by omega) (by omega)).mono ?_
  rintro e w1 ⟨rfl, hb1⟩
  have kP := hP.next hb1
  have kQ := hQ.next hb1
  have hB1 := lo_trans hB0 hb1
  have hR1 := hR0.next hb1
  clear hP hQ hB0 hR0 hb1
  have p0 := kP.cell 0
  have p1 := kP.cell 1
  have q0 := kQ.cell 0
  have q1 := kQ.cell 1
  have q2 := kQ.cell 2
  have q3 := kQ.cell 3
  generalize cellF xs sa sc = x at e0 ⊢
  go_wp2_with fail
  refine (l11Get_c m sb sd n c xs A _ hR1 hk'.out (by omega) (by omega)).mono ?_
  rintro e w2 ⟨rfl, hb2⟩
  clear p0 p1 q0 q1 q2 q3
  have hP := kP.next hb2
  have hQ := kQ.next hb2
  have hB2 := lo_trans hB1 hb2
  have hR2 := hR1.next hb2
  clear kP kQ hB1 hR1 hb2
  have p0 := hP.cell 0
  have p1 := hP.cell 1
  have q0 := hQ.cell 0
  have q1 := hQ.cell 1
  have q2 := hQ.cell 2
  have q3 := hQ.cell 3
  generalize cellF xs sb sd = y at e0 ⊢
  by_cases hxy : y = x
  case neg =>
    have e1 : Hid (swOk xs ⟨sa, sb, sc, sd⟩ = false) := Lib.hid (by rw [e0.out]; simp [hxy])
    cases x <;> cases y <;> first
      | exact absurd rfl hxy
      | (simp only [b01]
         go_wp2
         go_ret
         exact ⟨ret_bool (by rw [e1.out]), hB2⟩)
  subst hxy
  cases y <;>
  · simp only [b01]
    go_wp2_with fail
    refine (l11Get_c m sa sd n c xs A _ hR2 hk'.out (by omega) (by omega)).mono ?_
    rintro e w3 ⟨rfl, hb3⟩
    clear p0 p1 q0 q1 q2 q3
    have kP := hP.next hb3
    have kQ := hQ.next hb3
    have hB3 := lo_trans hB2 hb3
    have hR3 := hR2.next hb3
    have p0 := kP.cell 0
    have p1 := kP.cell 1
    have q0 := kQ.cell 0
    have q1 := kQ.cell 1
    have q2 := kQ.cell 2
    have q3 := kQ.cell 3
    clear hP hQ hB2 hR2 hb3 kP kQ
    generalize cellF xs sa sd = z at e0 ⊢
    cases z <;> simp only [b01] <;> first
      | (go_wp2
         go_ret
         exact ⟨ret_bool (by rw [e0.out]; rfl), hB3⟩)
      | (go_wp2_with fail
         refine (l11Get_c m sb sc n c xs A _ hR3 hk'.out (by omega) (by omega)).mono ?_
         rintro e w4 ⟨rfl, hb4⟩
         have hB4 := lo_trans hB3 hb4
         generalize cellF xs sb sc = u at e0 ⊢
         cases u <;>
         · simp only [b01]
           go_wp2
           go_ret
           exact ⟨ret_bool (by rw [e0.out]; rfl), hB4⟩)

/-! 'l1Put' on rows of one's own -/
set_option maxHeartbeats 1000000 in
theorem l1PutO_c (g n c i j r lo : Nat) (b : Bool) (xs : List Int) (W : Int) (w : World) (hb : Own w lo (some ⟨g, 0, none⟩) n xs) (hi : i < n) (hj : j ≤ 30) (hr : r < 1073741824) (hc : xs[i]?.getD 0 = (r : Int)) :
    Calls Try.prog 64 #[.agg #[.int .i64 W, .slice (some ⟨g, 0, none⟩) n c], .int .i64 i, .int .i64 j, .bool b] w fun e w' => e = .returned (.tuple #[]) ∧ Own w' lo (some ⟨g, 0, none⟩) n (xs.set i ((put r j b : Nat) : Int)) ∧ w.grownBy w' (some g) := by
  obtain ⟨_, hz, hcc, hff, hset⟩ := hb.cellSet hi
  have hx : i < xs.length := by rw [hb.1]; exact hi
  rw [hc] at hcc
  have hp := pow_bd (k := j) (by omega)
  have hr1 := put_le r j
  have hr2 : put r j false < 1073741824 := by omega
  have hj2 : j ≤ 60 := by omega
  have hr3 : r < 9223372036854775807 := by omega
  have hj3 : (j : Int) ≤ 60 := by omega
  have hj4 : (0 : Int) ≤ j := by omega
  have hv := Lib.hid (put_wrap r j hr)
  have hpt := Lib.hid (put_true r j)
  obtain ⟨r1, hpf⟩ : ∃ r1, put r j false = r1 := ⟨_, rfl⟩
  rw [hpf] at hv hr1 hr2 hpt
  have hpf' := Lib.hid hpf; clear hpf
  have hs := Lib.hid (hset (r1 : Int))
  clear hset hb
  cases b with
  | false =>
    clear hc
    go_enter Try.func64, Try.ntmps64
    go_wp2_with fail
    refine region_tail 20 (by kernel_rfl) (by kernel_rfl) ?_
    simp only [List.take_succ_cons, List.take_zero, List.drop_succ_cons, List.drop_zero]
    repeat still_step
    still_call (still_of (l1Bit_c r j _ hj2 hr3))
    repeat still_step
    still_call (still_of (l1Power_c _ _ hj4 hj3))
    repeat still_step
    refine wpStill_nil ?_
    go_wp2_with fail
    rw [hv.out]
    go_end0
    rw [hpf'.out]
    exact ⟨rfl, Own.drew (Own.alloc hs.out _), grown_trans (grown_trans (grown_set _) (grown_alloc _ _)) (grown_drew _)⟩
  | true =>
    have hv2 := Lib.hid (put_wrap2 r1 j hj hr2)
    have hwp := Lib.hid (IntWalk.wrap64_in ((put r j true : Nat) : Int) (by
      have e : ((put r j true : Nat) : Int) = r1 + 2 ^ j := by rw [hpt.out]; simp
      rw [e]; omega))
    clear hc
    go_enter Try.func64, Try.ntmps64
    go_wp2_with fail
    refine region_tail 20 (by kernel_rfl) (by kernel_rfl) ?_
    simp only [List.take_succ_cons, List.take_zero, List.drop_succ_cons, List.drop_zero]
    repeat still_step
    still_call (still_of (l1Bit_c r j _ hj2 hr3))
    repeat still_step
    still_call (still_of (l1Power_c _ _ hj4 hj3))
    repeat still_step
    refine wpStill_nil ?_
    go_wp2_with fail
    rw [hv.out]
    have hW := Blk.new (w.setCell ⟨g, i, none⟩ (.int .i64 (r1 : Int))) 27 #[.int .i64 W, .slice (some ⟨g, 0, none⟩) n c]
    have hG := Own.drew (Own.alloc hs.out (.cells #[.int .i64 W, .slice (some ⟨g, 0, none⟩) n c] 27))
    have hg : w.grownBy (((w.setCell ⟨g, i, none⟩ (.int .i64 (r1 : Int))).alloc (.cells #[.int .i64 W, .slice (some ⟨g, 0, none⟩) n c] 27))).drew (some g) := grown_trans (grown_trans (grown_set _) (grown_alloc _ _)) (grown_drew _)
    rw [size_setCell] at hW
    generalize ((w.setCell ⟨g, i, none⟩ (.int .i64 (r1 : Int))).alloc (.cells #[.int .i64 W, .slice (some ⟨g, 0, none⟩) n c] 27)) = w2 at hW hG hg ⊢
    have hW1 := hW.drew.cell 1
    obtain ⟨_, _, hG1, hG2, hG3⟩ := hG.cellSet hi
    have hG3' := Lib.hid (hG3 ((r1 + 2 ^ j : Nat) : Int))
    rw [List.set_set, ← hpt.out] at hG3'
    simp only [List.getElem?_set_self hx, Option.getD_some] at hG1
    clear hcc hff hs hG3
    generalize w2.drew = w3 at hW1 hG1 hG2 hG3' hg hG ⊢
    have hv2 := hv2.out
    refine region_tail 12 (by kernel_rfl) (by kernel_rfl) ?_
    simp only [List.take_succ_cons, List.take_zero, List.drop_succ_cons, List.drop_zero]
    repeat still_step
    still_call (still_of (l1Power_c _ _ hj4 hj3))
    repeat still_step
    refine wpStill_nil ?_
    go_wp2_with fail
    go_end0
    rw [show (r1 : Int) + 2 ^ j = ((put r j true : Nat) : Int) from by rw [hpt.out]; simp]
    rw [hwp.out]
    exact ⟨rfl, Own.drew hG3'.out, grown_trans (grown_trans hg (grown_set _)) (grown_drew _)⟩

end Go.Proofs.Ytjogfeichnkffaa
