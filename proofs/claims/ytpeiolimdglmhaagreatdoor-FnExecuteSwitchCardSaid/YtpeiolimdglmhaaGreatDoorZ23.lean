/- Plain facts and walks that the law's proof uses; each says its own conditions. -/
import Derived.Test.YtpeiolimdglmhaaGreatDoorZ22
import Derived.Test.YtpeiolimdglmhaaGreatDoorZ11
import Derived.Deep.AppendLies
import Derived.Test.YtpeiolimdglmhaaGreatDoorZ20
import Derived.Test.YtpeiolimdglmhaaGreatDoorZ13
import Derived.Test.YtpeiolimdglmhaaGreatDoorZ10
-- Plain facts and walks that the law's proof uses; each says its own conditions.
namespace Go.Proofs.YtpeiolimdglmhaaGreatDoor
open Go.RowKit
set_option maxRecDepth 100000

def b01 (b : Bool) : Int := if b then 1 else 0
theorem div_bit (r j : Nat) : ((r / 2 ^ j % 2 : Nat) : Int) = b01 (r.testBit j) := by
  rw [Nat.testBit_eq_decide_div_mod_eq, b01]
  rcases Nat.mod_two_eq_zero_or_one (r / 2 ^ j) with h | h <;> simp [h]

set_option maxHeartbeats 1000000 in
theorem l11Get_c (m i j n c : Nat) (xs : List Int) (A : Option Addr) (w : World) (hr : Rd w A n xs) (hk : okB (m : Int) xs = true) (hi : i < n) (hj : j < m) :
    Calls Tryz.prog 104 #[.agg #[.int .i64 (m : Int), .slice A n c], .int .i64 i, .int .i64 j] w fun e w' => e = .returned (.int .i64 (b01 (cellF xs i j))) ∧ Below w.heap.size w w' := by
  have hbd := okB_bd hk
  obtain ⟨r, h1, h2⟩ := okB_at hk (k := i) (by rw [hr.1]; exact hi)
  have e := Lib.hid (show b01 (cellF xs i j) = ((r / 2 ^ j % 2 : Nat) : Int) by rw [div_bit]; simp only [cellF, h1, Int.toNat_natCast])
  obtain ⟨b, off, rfl, hb, hcc⟩ := (hr.alloc (.cells #[.int .i64 (m : Int), .slice A n c] 25)).at_ hi
  rw [h1] at hcc
  clear h1 hk
  go_enter Tryz.func104, Tryz.ntmps104
  go_wp2_with (go_at_call 43; refine (l1Bit_c r j _ (by omega) (by omega)).mono ?_; rintro e w' ⟨rfl, rfl⟩)
  go_ret
  exact ⟨ret_int e.out.symm, by (repeat (first | exact Below.refl _ _ | assumption | refine lo_alloc ?_ _ | refine lo_set ?_ (by simp; try omega) _ | refine Below.drew ?_ | refine below_drewN ?_ _ | refine lo_trans ?_ (by assumption) | refine lo_wr ?_ (by assumption) (by omega)))⟩

theorem in_yes {x lo hi : Int} (h1 : lo ≤ x) (h2 : x ≤ hi) : (decide (lo ≤ x) && decide (x ≤ hi)) = true := by simp [h1, h2]

set_option maxHeartbeats 4000000 in
theorem l11Ok_c (m n c : Nat) (A : Option Addr) (xs : List Int) (s : Sw) (w : World) (hr : Rd w A n xs) (hk : okB (m : Int) xs = true) (h : s.a < s.b ∧ s.b < n ∧ s.c < s.d ∧ s.d < m) :
    Calls Tryz.prog 102 #[.agg #[.int .i64 (m : Int), .slice A n c], .agg #[.int .i64 s.a, .int .i64 s.b, .int .i64 s.c, .int .i64 s.d]] w fun e w' => e = .returned (.bool (swOk xs s)) ∧ Below w.heap.size w w' := by
  have hk' := Lib.hid hk
  have hbd := okB_bd hk
  rw [hr.1] at hbd
  obtain ⟨ha, hb, hc, hd⟩ := h
  have e0 : Hid (swOk xs s = ((cellF xs s.b s.d == cellF xs s.a s.c) && (cellF xs s.a s.d != cellF xs s.a s.c) && (cellF xs s.b s.c != cellF xs s.a s.c))) := Lib.hid rfl
  clear hk
  obtain ⟨sa, sb, sc, sd⟩ := s
  dsimp only at ha hb hc hd e0 ⊢
  have i1 := Lib.hid (in_yes (x := (sb : Int)) (lo := 0) (hi := (n : Int) - 1) (by omega) (by omega))
  have i2 := Lib.hid (in_yes (x := (sd : Int)) (lo := 0) (hi := (m : Int) - 1) (by omega) (by omega))
  have i3 := Lib.hid (in_yes (x := (sa : Int)) (lo := 0) (hi := (sb : Int) - 1) (by omega) (by omega))
  have i4 := Lib.hid (in_yes (x := (sc : Int)) (lo := 0) (hi := (sd : Int) - 1) (by omega) (by omega))
  have hP := (Blk.new w 25 #[.int .i64 (m : Int), .slice A n c]).alloc (.cells #[.int .i64 sa, .int .i64 sb, .int .i64 sc, .int .i64 sd] 44)
  have hQ := heap_at2 w (.cells #[.int .i64 (m : Int), .slice A n c] 25) 44 #[.int .i64 sa, .int .i64 sb, .int .i64 sc, .int .i64 sd]
  have hB0 := lo_alloc (lo_alloc (Below.refl w.heap.size w) (.cells #[.int .i64 (m : Int), .slice A n c] 25)) (.cells #[.int .i64 sa, .int .i64 sb, .int .i64 sc, .int .i64 sd] 44)
  have hR0 := (hr.alloc (.cells #[.int .i64 (m : Int), .slice A n c] 25)).alloc (.cells #[.int .i64 sa, .int .i64 sb, .int .i64 sc, .int .i64 sd] 44)
  go_enter Tryz.func102, Tryz.ntmps102
  go_wp2_with fail
  refine (l6In_c _ _ _ _).mono ?_; rw [i1.out]; rintro e w' ⟨rfl, rfl⟩
  go_wp2_with fail
  refine (l6In_c _ _ _ _).mono ?_; rw [i2.out]; rintro e w' ⟨rfl, rfl⟩
  go_wp2_with fail
  refine (l6In_c _ _ _ _).mono ?_; rw [i3.out]; rintro e w' ⟨rfl, rfl⟩
  go_wp2_with fail
  refine (l6In_c _ _ _ _).mono ?_; rw [i4.out]; rintro e w' ⟨rfl, rfl⟩
  go_wp2_with fail
  refine (l11Get_c m sa sc n c xs A _ hR0 hk'.out (by omega) (by omega)).mono ?_
  rintro e w1 ⟨rfl, hb1⟩
  have kP := hP.next hb1
  have kQ := hQ.next hb1
  have hB1 := lo_trans hB0 hb1
  have hR1 := hR0.next hb1
  clear hP hQ hB0 hR0 hb1
  have p0 := kP.cell 0
  have p1 := kP.cell 1
  have q0 := kQ.cell 0
  have q1 := kQ.cell 1
  have q2 := kQ.cell 2
  have q3 := kQ.cell 3
  generalize cellF xs sa sc = x at e0 ⊢
  go_wp2_with fail
  refine (l11Get_c m sb sd n c xs A _ hR1 hk'.out (by omega) (by omega)).mono ?_
  rintro e w2 ⟨rfl, hb2⟩
  clear p0 p1 q0 q1 q2 q3
  have hP := kP.next hb2
  have hQ := kQ.next hb2
  have hB2 := lo_trans hB1 hb2
  have hR2 := hR1.next hb2
  clear kP kQ hB1 hR1 hb2
  have p0 := hP.cell 0
  have p1 := hP.cell 1
  have q0 := hQ.cell 0
  have q1 := hQ.cell 1
  have q2 := hQ.cell 2
  have q3 := hQ.cell 3
  generalize cellF xs sb sd = y at e0 ⊢
  by_cases hxy : y = x
  case neg =>
    have e1 : Hid (swOk xs ⟨sa, sb, sc, sd⟩ = false) := Lib.hid (by rw [e0.out]; simp [hxy])
    cases x <;> cases y <;> first
      | exact absurd rfl hxy
      | (simp only [b01]
         go_wp2
         go_ret
         exact ⟨ret_bool (by rw [e1.out]), hB2⟩)
  subst hxy
  cases y <;>
  · simp only [b01]
    go_wp2_with fail
    refine (l11Get_c m sa sd n c xs A _ hR2 hk'.out (by omega) (by omega)).mono ?_
    rintro e w3 ⟨rfl, hb3⟩
    clear p0 p1 q0 q1 q2 q3
    have kP := hP.next hb3
    have kQ := hQ.next hb3
    have hB3 := lo_trans hB2 hb3
    have hR3 := hR2.next hb3
    have p0 := kP.cell 0
    have p1 := kP.cell 1
    have q0 := kQ.cell 0
    have q1 := kQ.cell 1
    have q2 := kQ.cell 2
    have q3 := kQ.cell 3
    clear hP hQ hB2 hR2 hb3 kP kQ
    generalize cellF xs sa sd = z at e0 ⊢
    cases z <;> simp only [b01] <;> first
      | (go_wp2
         go_ret
         exact ⟨ret_bool (by rw [e0.out]; rfl), hB3⟩)
      | (go_wp2_with fail
         refine (l11Get_c m sb sc n c xs A _ hR3 hk'.out (by omega) (by omega)).mono ?_
         rintro e w4 ⟨rfl, hb4⟩
         have hB4 := lo_trans hB3 hb4
         generalize cellF xs sb sc = u at e0 ⊢
         cases u <;>
         · simp only [b01]
           go_wp2
           go_ret
           exact ⟨ret_bool (by rw [e0.out]; rfl), hB4⟩)

/-! 'l1Put' on rows of one's own -/
set_option maxHeartbeats 1000000 in
theorem l1PutO_c (g n c i j r lo : Nat) (b : Bool) (xs : List Int) (W : Int) (w : World) (hb : Own w lo (some ⟨g, 0, none⟩) n xs) (hi : i < n) (hj : j ≤ 30) (hr : r < 1073741824) (hc : xs[i]?.getD 0 = (r : Int)) :
    Calls Tryz.prog 73 #[.agg #[.int .i64 W, .slice (some ⟨g, 0, none⟩) n c], .int .i64 i, .int .i64 j, .bool b] w fun e w' => e = .returned (.tuple #[]) ∧ Own w' lo (some ⟨g, 0, none⟩) n (xs.set i ((put r j b : Nat) : Int)) ∧ w.grownBy w' (some g) := by
  obtain ⟨_, hz, hcc, hff, hset⟩ := hb.cellSet hi
  have hx : i < xs.length := by rw [hb.1]; exact hi
  rw [hc] at hcc
  have hp := pow_bd (k := j) (by omega)
  have hr1 := put_le r j
  have hr2 : put r j false < 1073741824 := by omega
  have hj2 : j ≤ 60 := by omega
  have hr3 : r < 9223372036854775807 := by omega
  have hj3 : (j : Int) ≤ 60 := by omega
  have hj4 : (0 : Int) ≤ j := by omega
  have hv := Lib.hid (put_wrap r j hr)
  have hpt := Lib.hid (put_true r j)
  obtain ⟨r1, hpf⟩ : ∃ r1, put r j false = r1 := ⟨_, rfl⟩
  rw [hpf] at hv hr1 hr2 hpt
  have hpf' := Lib.hid hpf; clear hpf
  have hs := Lib.hid (hset (r1 : Int))
  clear hset hb
  cases b with
  | false =>
    clear hc
    go_enter Tryz.func73, Tryz.ntmps73
    go_wp2_with fail
    refine region_tail 20 (by kernel_rfl) (by kernel_rfl) ?_
    simp only [List.take_succ_cons, List.take_zero, List.drop_succ_cons, List.drop_zero]
    repeat still_step
    still_call (still_of (l1Bit_c r j _ hj2 hr3))
    repeat still_step
    still_call (still_of (l1Power_c _ _ hj4 hj3))
    repeat still_step
    refine wpStill_nil ?_
    go_wp2_with fail
    rw [hv.out]
    go_end0
    rw [hpf'.out]
    exact ⟨rfl, Own.drew (Own.alloc hs.out _), grown_trans (grown_trans (grown_set _) (grown_alloc _ _)) (grown_drew _)⟩
  | true =>
    have hv2 := Lib.hid (put_wrap2 r1 j hj hr2)
    have hwp := Lib.hid (IntWalk.wrap64_in ((put r j true : Nat) : Int) (by
      have e : ((put r j true : Nat) : Int) = r1 + 2 ^ j := by rw [hpt.out]; simp
      rw [e]; omega))
    clear hc
    go_enter Tryz.func73, Tryz.ntmps73
    go_wp2_with fail
    refine region_tail 20 (by kernel_rfl) (by kernel_rfl) ?_
    simp only [List.take_succ_cons, List.take_zero, List.drop_succ_cons, List.drop_zero]
    repeat still_step
    still_call (still_of (l1Bit_c r j _ hj2 hr3))
    repeat still_step
    still_call (still_of (l1Power_c _ _ hj4 hj3))
    repeat still_step
    refine wpStill_nil ?_
    go_wp2_with fail
    rw [hv.out]
    have hW := Blk.new (w.setCell ⟨g, i, none⟩ (.int .i64 (r1 : Int))) 25 #[.int .i64 W, .slice (some ⟨g, 0, none⟩) n c]
    have hG := Own.drew (Own.alloc hs.out (.cells #[.int .i64 W, .slice (some ⟨g, 0, none⟩) n c] 25))
    have hg : w.grownBy (((w.setCell ⟨g, i, none⟩ (.int .i64 (r1 : Int))).alloc (.cells #[.int .i64 W, .slice (some ⟨g, 0, none⟩) n c] 25))).drew (some g) := grown_trans (grown_trans (grown_set _) (grown_alloc _ _)) (grown_drew _)
    rw [size_setCell] at hW
    generalize ((w.setCell ⟨g, i, none⟩ (.int .i64 (r1 : Int))).alloc (.cells #[.int .i64 W, .slice (some ⟨g, 0, none⟩) n c] 25)) = w2 at hW hG hg ⊢
    have hW1 := hW.drew.cell 1
    obtain ⟨_, _, hG1, hG2, hG3⟩ := hG.cellSet hi
    have hG3' := Lib.hid (hG3 ((r1 + 2 ^ j : Nat) : Int))
    rw [List.set_set, ← hpt.out] at hG3'
    simp only [List.getElem?_set_self hx, Option.getD_some] at hG1
    clear hcc hff hs hG3
    generalize w2.drew = w3 at hW1 hG1 hG2 hG3' hg hG ⊢
    have hv2 := hv2.out
    refine region_tail 12 (by kernel_rfl) (by kernel_rfl) ?_
    simp only [List.take_succ_cons, List.take_zero, List.drop_succ_cons, List.drop_zero]
    repeat still_step
    still_call (still_of (l1Power_c _ _ hj4 hj3))
    repeat still_step
    refine wpStill_nil ?_
    go_wp2_with fail
    go_end0
    rw [show (r1 : Int) + 2 ^ j = ((put r j true : Nat) : Int) from by rw [hpt.out]; simp]
    rw [hwp.out]
    exact ⟨rfl, Own.drew hG3'.out, grown_trans (grown_trans hg (grown_set _)) (grown_drew _)⟩

end Go.Proofs.YtpeiolimdglmhaaGreatDoor

-- Walks: the reference's copy of an image; a switch done.
namespace Go.Proofs.YtpeiolimdglmhaaGreatDoor
open Go.RowKit
set_option maxRecDepth 100000

set_option maxHeartbeats 2000000 in
theorem l1Copy_c (W : Int) (A : Option Addr) (n c : Nat) (xs : List Int) (w : World) (hr : Rd w A n xs) (hn0 : 0 < n) (hn : n ≤ 1048576) :
    Calls Tryz.prog 103 #[.agg #[.int .i64 W, .slice A n c]] w fun e w' => ∃ g c', e = .returned (.agg #[.int .i64 W, .slice (some ⟨g, 0, none⟩) n c']) ∧ Below w.heap.size w w' ∧ Own w' w.heap.size (some ⟨g, 0, none⟩) n xs := by
  obtain ⟨i0, hi0, hz0, hz1, hz2⟩ := info_parts info3
  obtain ⟨b, off, rfl, hb, hcc⟩ := hr.2 hn0
  have hK1 := Blk.new w 25 #[.int .i64 W, .slice (some ⟨b, off, none⟩) n c]
  have hK2 := heap_at2 w (.cells #[.int .i64 W, .slice (some ⟨b, off, none⟩) n c] 25) 25 #[.int .i64 0, .slice none 0 0]
  have hK1' := hK1.alloc (.cells #[.int .i64 0, .slice none 0 0] 25)
  have hB0 := lo_alloc (lo_alloc (Below.refl w.heap.size w) (.cells #[.int .i64 W, .slice (some ⟨b, off, none⟩) n c] 25)) (.cells #[.int .i64 0, .slice none 0 0] 25)
  have hR0 := (hr.alloc (.cells #[.int .i64 W, .slice (some ⟨b, off, none⟩) n c] 25)).alloc (.cells #[.int .i64 0, .slice none 0 0] 25)
  have hsz : ((w.alloc (.cells #[.int .i64 W, .slice (some ⟨b, off, none⟩) n c] 25)).alloc (.cells #[.int .i64 0, .slice none 0 0] 25)).heap.size = w.heap.size + 2 := by simp
  have a0 := hK1'.cell 0
  have a1 := hK1'.cell 1
  clear hK1
  go_enter Tryz.func103, Tryz.ntmps103
  go_wp2_with fail
  generalize (w.alloc (.cells #[.int .i64 W, .slice (some ⟨b, off, none⟩) n c] 25)).alloc (.cells #[.int .i64 0, .slice none 0 0] 25) = w1 at hK2 hK1' hB0 hR0 hsz a0 a1 ⊢
  have hBf : Buf (w1.drew.alloc (.cells #[] 3)) (w.heap.size + 2) (some ⟨w.heap.size + 2, 0, none⟩) 0 [] := by
    rw [← hsz]; exact Buf.lit w1.drew w1.heap.size [] (Nat.le_refl _) (Nat.zero_le _)
  have hsz' := Lib.hid hsz
  go_region_held3 (fun w' => w'.cell? ⟨w.heap.size, 0, none⟩ = some (.int .i64 W) ∧ w'.cell? ⟨w.heap.size, 1, none⟩ = some (.slice (some ⟨b, off, none⟩) n c))
    (first
      | go_keep
      | exact ⟨((hK1'.drew.alloc (.cells #[] 3)).grown hgrow (by simp [Value.ownBlock])).cell 0, ((hK1'.drew.alloc (.cells #[] 3)).grown hgrow (by simp [Value.ownBlock])).cell 1⟩)
    ((refine step_append_lies _ (by rfl) _ _ _ (by rfl) (w.heap.size + 2) 3 i0 _ 1 8 Tryz.underlying23 hi0 hz0 hz1 hz2 rfl (by omega) _ 0 [] (by rfl) hBf
        ⟨b, off, none⟩ n c (xs.map (Value.int .i64)) (by rfl) (by simp [hr.1]) (by intro j u hu; rw [List.getElem?_map, Option.map_eq_some_iff] at hu; obtain ⟨y, hy, rfl⟩ := hu; rw [Go.WideShapes.add_plain]; obtain ⟨b', off', e', _, hx'⟩ := ((hR0.drew).alloc (.cells #[] 3)).2 hn0; cases e'; exact hx' j y hy) (by simp [Value.oneCell'])
        (by omega) (by unfold maxLen; omega) (by omega) (by simp; omega) (w.heap.size + 3) (by simp; omega) ?_; intro gg cap w4 hown4 hgrow hat hlt; have hKr := (hK2.drew.alloc (.cells #[] 3)).grown hgrow (by simp [Value.ownBlock]); have r0 := hKr.cell 0; have r1 := hKr.cell 1; have f0 := hKr.frozen 0; have f1 := hKr.frozen 1))
  have hB4 : Buf w4 (w.heap.size + 2) (some ⟨gg, 0, none⟩) cap xs := by
    unfold Buf; rw [hr.1]; simpa using hown4
  have hO := hB4.own
  rw [hr.1] at hO
  obtain ⟨s0, s1, hB5⟩ := fin_cells1 (w := w) (r := 1) hKr (lo_grown (lo_alloc (Below.drew hB0) (.cells #[] 3)) hgrow (fun g hg => by simp [Value.ownBlock] at hg; omega)) (.int .i64 W) (.slice (some ⟨gg, 0, none⟩) n cap)
  have s0' := Lib.hid s0; have s1' := Lib.hid s1; clear s0 s1 a0 a1
  go_wp2
  refine bodyPost_ret (v := .agg #[.int .i64 W, .slice (some ⟨gg, 0, none⟩) n cap]) (by simp [results, Tryz.results103, go_sem, s0'.out, s1'.out]) rfl ⟨gg, cap, rfl, hB5, ?_⟩
  exact ((hO.far_lo (p := ⟨w.heap.size + 1, 0, none⟩) (by simp) _).far_lo (p := ⟨w.heap.size + 1, 1, none⟩) (by simp) _).mono (by omega)

def putChk (r c d : Nat) : Bool := c == d || r.testBit d == r.testBit c || (put (put r c (r.testBit d)) d (r.testBit c) == r ^^^ (2 ^ c ||| 2 ^ d) && put (put r d (r.testBit c)) c (r.testBit d) == r ^^^ (2 ^ c ||| 2 ^ d) && decide (put r c (r.testBit d) < 64) && decide (put r d (r.testBit c) < 64))
theorem putChk_all : ∀ r, r < 64 → ∀ c, c < 6 → ∀ d, d < 6 → putChk r c d = true := by decide +kernel
theorem put_sw {r c d : Nat} (hr : r < 64) (hc : c < 6) (hd : d < 6) (hne : c ≠ d) (x : Bool) (h1 : r.testBit c = x) (h2 : r.testBit d = !x) :
    put (put r c (!x)) d x = r ^^^ (2 ^ c ||| 2 ^ d) ∧ put (put r d x) c (!x) = r ^^^ (2 ^ c ||| 2 ^ d) ∧ put r c (!x) < 64 ∧ put r d x < 64 := by
  have h := putChk_all r hr c hc d hd
  have e1 : (c == d) = false := beq_eq_false_iff_ne.2 hne
  have e2 : ((!x) == x) = false := by cases x <;> rfl
  simp only [putChk, e1, e2, Bool.false_or, Bool.and_eq_true, beq_iff_eq, decide_eq_true_eq, h1, h2] at h
  exact ⟨h.1.1.1, h.1.1.2, h.1.2, h.2⟩

theorem set4 {xs : List Int} {a b : Nat} (h : a ≠ b) (x y X Y : Int) : (((xs.set a x).set b y).set a X).set b Y = (xs.set a X).set b Y := by
  rw [List.set_comm _ _ (Ne.symm h), List.set_set, List.set_set]
theorem set_get {xs : List Int} {a b : Nat} (h : a ≠ b) (x : Int) : (xs.set a x)[b]?.getD 0 = xs[b]?.getD 0 := by rw [List.getElem?_set_ne h]
theorem set_get_same {xs : List Int} {a : Nat} (h : a < xs.length) (x : Int) : (xs.set a x)[a]?.getD 0 = x := by rw [List.getElem?_set_self h]; rfl

set_option maxHeartbeats 4000000 in
theorem l11Do_c (m n c : Nat) (A : Option Addr) (xs : List Int) (s : Sw) (w : World) (hr : Rd w A n xs) (hk : okB (m : Int) xs = true) (h : s.a < s.b ∧ s.b < n ∧ s.c < s.d ∧ s.d < m) (hs : swOk xs s = true) :
    Calls Tryz.prog 63 #[.agg #[.int .i64 (m : Int), .slice A n c], .agg #[.int .i64 s.a, .int .i64 s.b, .int .i64 s.c, .int .i64 s.d]] w fun e w' => ∃ g c', e = .returned (.agg #[.int .i64 (m : Int), .slice (some ⟨g, 0, none⟩) n c']) ∧ Below w.heap.size w w' ∧
      Own w' w.heap.size (some ⟨g, 0, none⟩) n (swDo m xs s) := by
  have hk' := Lib.hid hk
  have hbd := okB_bd hk
  rw [hr.1] at hbd
  obtain ⟨r1, x1, l1⟩ := okB_row hk rfl (k := s.a) (by rw [hr.1]; omega)
  obtain ⟨r2, x2, l2⟩ := okB_row hk rfl (k := s.b) (by rw [hr.1]; omega)
  have hpm := pow_le64 (j := m) (by omega)
  have hrow := Lib.hid (sw_rows hk (by rw [hr.1]; exact h) x1 x2 l1 l2)
  obtain ⟨sa, sb, sc, sd⟩ := s
  obtain ⟨ha, hb, hc, hd⟩ := h
  dsimp only at ha hb hc hd hrow x1 x2 ⊢
  have hcell : cellF xs sb sd = cellF xs sa sc ∧ cellF xs sa sd = (!cellF xs sa sc) ∧ cellF xs sb sc = (!cellF xs sa sc) := by
    simp only [swOk, Bool.and_eq_true, beq_iff_eq, bne_iff_ne, ne_eq] at hs
    refine ⟨hs.1.1, ?_, ?_⟩
    · revert hs; cases cellF xs sa sd <;> cases cellF xs sa sc <;> simp
    · revert hs; cases cellF xs sb sc <;> cases cellF xs sa sc <;> simp
  have hra : ∀ j, cellF xs sa j = r1.testBit j := fun j => by simp only [cellF, x1, Int.toNat_natCast]
  have hrb : ∀ j, cellF xs sb j = r2.testBit j := fun j => by simp only [cellF, x2, Int.toNat_natCast]
  obtain ⟨p1, -, p3, p4⟩ := put_sw (r := r1) (c := sc) (d := sd) (by omega) (by omega) (by omega) (by omega) (cellF xs sa sc) (hra sc).symm (by rw [← hra]; exact hcell.2.1)
  obtain ⟨q1, q2, q3, q4⟩ := put_sw (r := r2) (c := sc) (d := sd) (by omega) (by omega) (by omega) (by omega) (!cellF xs sa sc) (by rw [← hrb]; exact hcell.2.2) (by rw [← hrb, Bool.not_not]; exact hcell.1)
  rw [Bool.not_not] at q2 q3
  have hget := l11Get_c m sa sc n c xs A
  generalize cellF xs sa sc = x at p1 p3 p4 q1 q2 q3 q4 hget
  have p1' := Lib.hid p1; have q2' := Lib.hid q2; have x1' := Lib.hid x1; have x2' := Lib.hid x2; have hget' := Lib.hid hget
  clear p1 q1 q2 x1 x2 hra hrb hcell hs hk hget
  have hP := ((Blk.new w 25 #[.int .i64 (m : Int), .slice A n c]).alloc (.cells #[.int .i64 sa, .int .i64 sb, .int .i64 sc, .int .i64 sd] 44)).alloc (.cells #[.int .i64 0, .slice none 0 0] 25)
  have hQ := (heap_at2 w (.cells #[.int .i64 (m : Int), .slice A n c] 25) 44 #[.int .i64 sa, .int .i64 sb, .int .i64 sc, .int .i64 sd]).alloc (.cells #[.int .i64 0, .slice none 0 0] 25)
  have hR := Blk.new ((w.alloc (.cells #[.int .i64 (m : Int), .slice A n c] 25)).alloc (.cells #[.int .i64 sa, .int .i64 sb, .int .i64 sc, .int .i64 sd] 44)) 25 #[.int .i64 0, .slice none 0 0]
  have hB0 := lo_alloc (lo_alloc (lo_alloc (Below.refl w.heap.size w) (.cells #[.int .i64 (m : Int), .slice A n c] 25)) (.cells #[.int .i64 sa, .int .i64 sb, .int .i64 sc, .int .i64 sd] 44)) (.cells #[.int .i64 0, .slice none 0 0] 25)
  have hR0 := ((hr.alloc (.cells #[.int .i64 (m : Int), .slice A n c] 25)).alloc (.cells #[.int .i64 sa, .int .i64 sb, .int .i64 sc, .int .i64 sd] 44)).alloc (.cells #[.int .i64 0, .slice none 0 0] 25)
  rw [World.size_alloc, World.size_alloc] at hR
  go_enter Tryz.func63, Tryz.ntmps63
  go_wp2_with fail
  refine (l1Copy_c m _ _ _ xs _ hR0 (by omega) (by omega)).mono ?_
  rintro e w2 ⟨g, cc, rfl, hb2, ho2⟩
  obtain ⟨o, ho⟩ : ∃ o, o = w2.heap.size := ⟨_, rfl⟩
  have hO2 : Blk (w2.alloc (.cells #[.int .i64 (m : Int), .slice (some ⟨g, 0, none⟩) n cc] 25)) o 25 #[.int .i64 (m : Int), .slice (some ⟨g, 0, none⟩) n cc] := by rw [ho]; exact Blk.new _ _ _
  have kP := (hP.next hb2).alloc (.cells #[.int .i64 (m : Int), .slice (some ⟨g, 0, none⟩) n cc] 25)
  have kQ := (hQ.next hb2).alloc (.cells #[.int .i64 (m : Int), .slice (some ⟨g, 0, none⟩) n cc] 25)
  have kR := (hR.next hb2).alloc (.cells #[.int .i64 (m : Int), .slice (some ⟨g, 0, none⟩) n cc] 25)
  have hB2 := lo_alloc (lo_trans hB0 hb2) (.cells #[.int .i64 (m : Int), .slice (some ⟨g, 0, none⟩) n cc] 25)
  have hR2 := hr.next hB2
  have hI2 := ho2.alloc (.cells #[.int .i64 (m : Int), .slice (some ⟨g, 0, none⟩) n cc] 25)
  have hI3 : Own (w2.alloc (.cells #[.int .i64 (m : Int), .slice (some ⟨g, 0, none⟩) n cc] 25)) (w.heap.size + 3) (some ⟨g, 0, none⟩) n xs := hI2.mono (by simp)
  have hgo : g < o := by have := (ho2.cellSet (k := 0) (by omega)).2.1; omega
  have hgl := (hI3.cellSet (k := 0) (by omega)).1
  have ho' := Lib.hid ho
  clear hI2 ho2 hb2 hP hQ hR hB0 hR0
  have p0 := kP.cell 0
  have p1 := kP.cell 1
  have o0 := hO2.cell 0
  have o1 := hO2.cell 1
  have q0 := kQ.cell 0
  have q1 := kQ.cell 1
  have q2 := kQ.cell 2
  have q3 := kQ.cell 3
  go_wp2_with fail
  rw [← ho]
  clear ho
  generalize w2.alloc (.cells #[.int .i64 (m : Int), .slice (some ⟨g, 0, none⟩) n cc] 25) = w3 at hO2 kP kQ kR hB2 hR2 hI3 hgo hgl p0 p1 o0 o1 q0 q1 q2 q3 ⊢
  refine (hget'.out w3 hR2 hk'.out (by omega) (by omega)).mono ?_
  rintro e w4 ⟨rfl, hb4⟩
  clear p0 p1 o0 o1 q0 q1 q2 q3 hR2 kP
  have hO := hO2.next hb4
  have hQ := kQ.next hb4
  have hR := kR.next hb4
  have hB := lo_trans hB2 hb4
  have hI := hI3.next hb4
  clear hO2 kQ kR hB2 hI3 hb4
  have hx : (b01 x == 0) = (!x) := by cases x <;> rfl
  have hx' : (b01 x == 0) = true ∨ (b01 x == 0) = false := by cases x <;> simp [b01]
  have o0 := hO.cell 0
  have o1 := hO.cell 1
  have q0 := hQ.cell 0
  have q1 := hQ.cell 1
  have q2 := hQ.cell 2
  have q3 := hQ.cell 3
  clear hx'
  go_wp2_with fail
  refine (l1PutO_c g n cc sa sc r1 _ (!x) xs m _ hI (by omega) (by omega) (by omega) x1'.out).mono ?_
  rintro e w5 ⟨rfl, hI5, hg5⟩
  have hxl := Lib.hid (show xs.length = n from hr.1)
  have g1 := Lib.hid (show (xs.set sa ((put r1 sc (!x) : Nat) : Int))[sb]?.getD 0 = (r2 : Int) by rw [set_get (by omega)]; exact x2'.out)
  have g2 := Lib.hid (show ((xs.set sa ((put r1 sc (!x) : Nat) : Int)).set sb ((put r2 sd (!x) : Nat) : Int))[sa]?.getD 0 = ((put r1 sc (!x) : Nat) : Int) by rw [set_get (by omega), set_get_same (by rw [hxl.out]; omega)])
  have g3 := Lib.hid (show (((xs.set sa ((put r1 sc (!x) : Nat) : Int)).set sb ((put r2 sd (!x) : Nat) : Int)).set sa ((put (put r1 sc (!x)) sd x : Nat) : Int))[sb]?.getD 0 = ((put r2 sd (!x) : Nat) : Int) by
    rw [set_get (by omega), set_get_same (by rw [List.length_set, hxl.out]; omega)])
  clear o0 o1 q0 q1 q2 q3
  have hO5 := hO.grown hg5 (by intro e; injection e; omega)
  have hQ5 := hQ.grown hg5 (by intro e; injection e; omega)
  have hR5 := hR.grown hg5 (by intro e; injection e; omega)
  have hB5 := lo_grown hB hg5 (by rintro _ ⟨⟩; omega)
  clear hO hQ hR hB hg5 hI
  have o0 := hO5.cell 0
  have o1 := hO5.cell 1
  have q0 := hQ5.cell 0
  have q1 := hQ5.cell 1
  have q2 := hQ5.cell 2
  have q3 := hQ5.cell 3
  go_wp2_with fail
  refine (l1PutO_c g n cc sb sd r2 _ (!x) _ m _ hI5 (by omega) (by omega) (by omega) g1.out).mono ?_
  rintro e w6 ⟨rfl, hI6, hg6⟩
  clear o0 o1 q0 q1 q2 q3
  have hO6 := hO5.grown hg6 (by intro e; injection e; omega)
  have hQ6 := hQ5.grown hg6 (by intro e; injection e; omega)
  have hR6 := hR5.grown hg6 (by intro e; injection e; omega)
  have hB6 := lo_grown hB5 hg6 (by rintro _ ⟨⟩; omega)
  clear hO5 hQ5 hR5 hB5 hg6 hI5
  have o0 := hO6.cell 0
  have o1 := hO6.cell 1
  have q0 := hQ6.cell 0
  have q1 := hQ6.cell 1
  have q2 := hQ6.cell 2
  have q3 := hQ6.cell 3
  go_wp2_with fail
  refine (l1PutO_c g n cc sa sd (put r1 sc (!x)) _ x _ m _ hI6 (by omega) (by omega) (by omega) g2.out).mono ?_
  rintro e w7 ⟨rfl, hI7, hg7⟩
  clear o0 o1 q0 q1 q2 q3
  have hO7 := hO6.grown hg7 (by intro e; injection e; omega)
  have hQ7 := hQ6.grown hg7 (by intro e; injection e; omega)
  have hR7 := hR6.grown hg7 (by intro e; injection e; omega)
  have hB7 := lo_grown hB6 hg7 (by rintro _ ⟨⟩; omega)
  clear hO6 hQ6 hR6 hB6 hg7 hI6
  have o0 := hO7.cell 0
  have o1 := hO7.cell 1
  have q0 := hQ7.cell 0
  have q1 := hQ7.cell 1
  have q2 := hQ7.cell 2
  have q3 := hQ7.cell 3
  go_wp2_with fail
  refine (l1PutO_c g n cc sb sc (put r2 sd (!x)) _ x _ m _ hI7 (by omega) (by omega) (by omega) g3.out).mono ?_
  rintro e w8 ⟨rfl, hI8, hg8⟩
  clear o0 o1 q0 q1 q2 q3
  have hO8 := hO7.grown hg8 (by intro e; injection e; omega)
  have hR8 := hR7.grown hg8 (by intro e; injection e; omega)
  have hB8 := lo_grown hB7 hg8 (by rintro _ ⟨⟩; omega)
  clear hO7 hQ7 hR7 hB7 hg8 hI7
  have o0 := hO8.cell 0
  have o1 := hO8.cell 1
  rw [p1'.out, q2'.out, set4 (by omega), hrow.out] at hI8
  have hz6 := hR8.lt
  have r0 := hR8.cell 0
  have r1 := hR8.cell 1
  have f0 := hR8.frozen 0
  have f1 := hR8.frozen 1
  obtain ⟨s0, s1, hB9⟩ := fin_cells1 (w := w) (r := 1 + 1) hR8 hB8 (.int .i64 (m : Int)) (.slice (some ⟨g, 0, none⟩) n cc)
  have s0' := Lib.hid s0; have s1' := Lib.hid s1; clear s0 s1
  go_wp2
  refine bodyPost_ret (v := .agg #[.int .i64 m, .slice (some ⟨g, 0, none⟩) n cc]) (by simp [results, Tryz.results63, go_sem, s0'.out, s1'.out]) rfl ⟨g, cc, rfl, hB9, ?_⟩
  exact ((hI8.far_lo (p := ⟨w.heap.size + 1 + 1, 0, none⟩) (by simp) _).far_lo (p := ⟨w.heap.size + 1 + 1, 1, none⟩) (by simp) _).mono (by omega)
end Go.Proofs.YtpeiolimdglmhaaGreatDoor

-- Walks: the reference's list of switches.
namespace Go.Proofs.YtpeiolimdglmhaaGreatDoor
open Go.RowKit
set_option maxRecDepth 100000

theorem infoSw : ((Tryz.prog.info? 44).map fun i => (i.zero, i.size, i.bytes)) = some (some (.agg #[.int .i64 0, .int .i64 0, .int .i64 0, .int .i64 0]), 4, 32) := by kernel_rfl

def Sw.cells (s : Sw) : List Value := [.int .i64 (s.a : Int), .int .i64 (s.b : Int), .int .i64 (s.c : Int), .int .i64 (s.d : Int)]
def swCells (ss : List Sw) : List Value := ss.flatMap Sw.cells
theorem swCells_len (ss : List Sw) : (swCells ss).length = ss.length * 4 := by
  induction ss with
  | nil => rfl
  | cons s ss ih =>
    have e1 : swCells (s :: ss) = s.cells ++ swCells ss := rfl
    rw [e1, List.length_append, ih, List.length_cons]; simp [Sw.cells]; omega
theorem swCells_snoc (ss : List Sw) (s : Sw) : swCells (ss ++ [s]) = swCells ss ++ s.cells := by simp [swCells, List.flatMap_append]
theorem swCells_get : ∀ {ss : List Sw} {k : Nat} {s : Sw}, ss[k]? = some s → (swCells ss)[4 * k]? = some (.int .i64 (s.a : Int)) ∧ (swCells ss)[4 * k + 1]? = some (.int .i64 (s.b : Int)) ∧ (swCells ss)[4 * k + 2]? = some (.int .i64 (s.c : Int)) ∧ (swCells ss)[4 * k + 3]? = some (.int .i64 (s.d : Int))
  | s' :: ss, 0, s, h => by
    simp at h; subst h; exact ⟨rfl, rfl, rfl, rfl⟩
  | s' :: ss, k + 1, s, h => by
    have e1 : swCells (s' :: ss) = .int .i64 (s'.a : Int) :: .int .i64 (s'.b : Int) :: .int .i64 (s'.c : Int) :: .int .i64 (s'.d : Int) :: swCells ss := rfl
    have := swCells_get (ss := ss) (k := k) (s := s) (by simpa using h)
    rw [e1, show 4 * (k + 1) = 4 * k + 1 + 1 + 1 + 1 by omega]
    simp only [List.getElem?_cons_succ, Nat.add_assoc, Nat.reduceAdd]
    exact this
theorem swCells_one (ss : List Sw) : ∀ u ∈ swCells ss, u.oneCell' = true := by
  intro u hu
  simp only [swCells, List.mem_flatMap, Sw.cells, List.mem_cons, List.not_mem_nil, or_false] at hu
  obtain ⟨e, _, rfl | rfl | rfl | rfl⟩ := hu <;> rfl

/-- a slice of switches of one's own -/
def BufW (w : World) (base : Nat) (A : Option Addr) (c : Nat) (ss : List Sw) : Prop := w.ownsRow base 44 4 (.slice A ss.length c) ss.length (swCells ss)
section
variable {w w' : World} {base : Nat} {A : Option Addr} {n c : Nat} {ss : List Sw}
theorem BufW.form (h : BufW w base A c ss) : (A = none ∧ ss = []) ∨ ∃ g cs, A = some ⟨g, 0, none⟩ ∧ base ≤ g ∧ Blk w g 44 cs ∧ ∀ (k : Nat) (x : Value), (swCells ss)[k]? = some x → cs[k]? = some x := by
  rcases h.2 with ⟨hv, hn⟩ | ⟨g, cap, cur, hv, hb, hh, hn, hm, hs, ht⟩
  · injection hv with h1 h2 h3
    exact .inl ⟨h1, List.eq_nil_of_length_eq_zero h2⟩
  · injection hv with h1 h2 h3
    refine .inr ⟨g, cur, h1, hb, hh, fun k x hx => ?_⟩
    have hk : k < ss.length * 4 := by
      have := (List.getElem?_eq_some_iff.1 hx).1
      rwa [swCells_len] at this
    have e : (cur.toList.take (ss.length * 4))[k]? = (swCells ss)[k]? := by rw [ht]
    rw [List.getElem?_take, if_pos (by omega), hx] at e
    simpa using e
theorem BufW.addr (h : BufW w base A c ss) : A = none ∨ ∃ g, A = some ⟨g, 0, none⟩ := by
  rcases h.form with ⟨e, _⟩ | ⟨g', cs, e, _⟩
  · exact .inl e
  · exact .inr ⟨_, e⟩
theorem BufW.lt (h : BufW w base A c ss) : ∀ g, A = some ⟨g, 0, none⟩ → base ≤ g ∧ g < w.heap.size := by
  rintro g rfl
  rcases h.form with ⟨e, _⟩ | ⟨g', cs, e, hb, hk, _⟩
  · cases e
  · injection e with e; injection e with e; subst e
    exact ⟨hb, hk.lt⟩
theorem BufW.kept (h : BufW w base A c ss) {row : Option Nat} (hg : w.grownBy w' row) (hne : ∀ g, A = some ⟨g, 0, none⟩ → row ≠ some g) : BufW w' base A c ss := by
  refine World.ownsRow.kept h hg ?_
  rcases h.form with ⟨rfl, _⟩ | ⟨g, cs, rfl, _⟩
  · exact .inl rfl
  · exact .inr (fun e => hne g rfl e.symm)
theorem BufW.next (h : BufW w base A c ss) (hb : Below w.heap.size w w') : BufW w' base A c ss := h.kept (grown_of_below hb none) (fun _ _ e => by cases e)
theorem BufW.mono {lo : Nat} (h : BufW w base A c ss) (hl : lo ≤ base) : BufW w lo A c ss := by
  refine ⟨h.1, ?_⟩
  rcases h.2 with h1 | ⟨g, cap, cur, h1, h2, h3⟩
  · exact .inl h1
  · exact .inr ⟨g, cap, cur, h1, by omega, h3⟩
theorem BufW.row (h : BufW w base A c ss) : ∀ g, rowA A = some g → base ≤ g ∧ g < w.heap.size := by
  intro g hg
  rcases h.addr with rfl | ⟨g', rfl⟩
  · simp [rowA] at hg
  · simp [rowA] at hg
    subst hg
    exact h.lt _ rfl

/-- the slice at A of n switches can be read -/
def RdW (w : World) (A : Option Addr) (n : Nat) (ss : List Sw) : Prop :=
  ss.length = n ∧ (0 < n → ∃ b off, A = some ⟨b, off, none⟩ ∧ b < w.heap.size ∧ ∀ k s, ss[k]? = some s → w.cell? ⟨b, off + 4 * k, none⟩ = some (.int .i64 (s.a : Int)) ∧ w.cell? ⟨b, off + 4 * k + 1, none⟩ = some (.int .i64 (s.b : Int)) ∧
    w.cell? ⟨b, off + 4 * k + 2, none⟩ = some (.int .i64 (s.c : Int)) ∧ w.cell? ⟨b, off + 4 * k + 3, none⟩ = some (.int .i64 (s.d : Int)))
theorem RdW.next (h : RdW w A n ss) (hb : Below w.heap.size w w') : RdW w' A n ss :=
  ⟨h.1, fun hn => by
    obtain ⟨b, off, e, h1, h2⟩ := h.2 hn
    have hs := hb.size
    exact ⟨b, off, e, by omega, fun k e he => ⟨(hb.cell (p := ⟨b, off + 4 * k, none⟩) h1).trans (h2 k e he).1, (hb.cell (p := ⟨b, off + 4 * k + 1, none⟩) h1).trans (h2 k e he).2.1,
      (hb.cell (p := ⟨b, off + 4 * k + 2, none⟩) h1).trans (h2 k e he).2.2.1, (hb.cell (p := ⟨b, off + 4 * k + 3, none⟩) h1).trans (h2 k e he).2.2.2⟩⟩⟩
theorem BufW.rd (h : BufW w base A c ss) : RdW w A ss.length ss := by
  refine ⟨rfl, fun hn => ?_⟩
  rcases h.form with ⟨_, rfl⟩ | ⟨g, cs, e, hb, hk, hx⟩
  · simp at hn
  · refine ⟨g, 0, e, hk.lt, fun k s hs => ?_⟩
    have := swCells_get hs
    rw [Nat.zero_add]
    exact ⟨(hk.cell _).trans (hx _ _ this.1), (hk.cell _).trans (hx _ _ this.2.1), (hk.cell _).trans (hx _ _ this.2.2.1), (hk.cell _).trans (hx _ _ this.2.2.2)⟩
end

theorem wpl_appendW {ops : Array Oper} {rest : List Oper} {o : Oper} {a : Act} {Q : Exit → Act → World → Prop} {w : World} (hgd : o.guard = none) (s x : Operand)
    (ho : o.op = .call { callee := .builtin .append, args := #[s, x], argTypes := #[143, 143] })
    (base : Nat) (A : Option Addr) (c n : Nat) (ss : List Sw) (hs : a.eval s = .slice A n c) (hn : n = ss.length) (hb : BufW w base A c ss)
    (b d : Nat) (e : Sw) (hx : a.eval x = .slice (some ⟨b, 0, none⟩) 1 d) (hr : Blk w b 44 #[.int .i64 (e.a : Int), .int .i64 (e.b : Int), .int .i64 (e.c : Int), .int .i64 (e.d : Int)]) (hlen : n + 1 ≤ 1048576) (hbase : base ≤ w.heap.size)
    (h : ∀ g c' w', BufW w' base (some ⟨g, 0, none⟩) c' (ss ++ [e]) → w.grownBy w' (rowA A) → (A = some ⟨g, 0, none⟩ ∨ g = w.heap.size) → wpList Tryz.prog ops Q rest (a.put o.dst (.slice (some ⟨g, 0, none⟩) (n + 1) c')) w') : wpList Tryz.prog ops Q (o :: rest) a w := by
  obtain ⟨i0, hi, hz0, hz1, hz2⟩ := info_parts infoSw
  subst hn
  refine wpList_append_own_at w hgd s x 143 ho base 44 i0 (.agg #[.int .i64 0, .int .i64 0, .int .i64 0, .int .i64 0]) 4 32 Tryz.underlying143 hi hz0 hz1 hz2 rfl (by decide) _ ss.length _ hs hb ⟨b, 0, none⟩ 1 d e.cells hx rfl ?_ (fun u hu => swCells_one [e] u (by simpa [swCells] using hu)) (by unfold maxLen; omega) (by omega) hbase ?_
  · intro j u hu
    rw [Go.WideShapes.add_plain, hr.cell, Nat.zero_add]
    simpa [Sw.cells] using hu
  · intro v' w' hown hg _ hat
    rcases hown.2 with ⟨hv, hn⟩ | ⟨g, cap, cur, rfl, hb', hh, hn, hm, hsz, ht⟩
    · omega
    · refine h g cap w' ?_ (by cases A <;> exact hg) ?_
      · unfold BufW
        rw [List.length_append, swCells_snoc]
        exact hown
      · rcases hat with h1 | h1
        · cases A with
          | none => simp [Value.ownBlock] at h1
          | some a =>
            rcases hb.form with ⟨e, _⟩ | ⟨g', cs, e, _⟩
            · cases e
            · injection e with e; subst e
              simp [Value.ownBlock] at h1
              exact .inl (by rw [h1])
        · simp [Value.ownBlock] at h1
          exact .inr h1

def swListW (W : Int) (xs : List Int) : List Sw := if okB W xs then swList W.toNat xs else []

/-- the state of the search: the switches so far in memory of one's own from base on -/
def SInv (w wr : World) (base : Nat) (m n c : Nat) (A : Option Addr) (v : Value) (ss : List Sw) : Prop :=
  Below w.heap.size w wr ∧ Blk wr w.heap.size 25 #[.int .i64 (m : Int), .slice A n c] ∧ base ≤ wr.heap.size ∧ ∃ B c', v = .slice B ss.length c' ∧ BufW wr base B c' ss
theorem SInv.next {w wr w2 : World} {base m n c : Nat} {A : Option Addr} {v : Value} {ss : List Sw} (h : SInv w wr base m n c A v ss) (hb : Below wr.heap.size wr w2) : SInv w w2 base m n c A v ss := by
  obtain ⟨h1, h2, h3, B, c', h4, h5⟩ := h
  exact ⟨lo_trans h1 hb, h2.next hb, Nat.le_trans h3 hb.size, B, c', h4, h5.next hb⟩

set_option maxHeartbeats 8000000 in
theorem spec_SwitchList_c (W : Int) (A : Option Addr) (n c : Nat) (xs : List Int) (w : World) (hr : Rd w A n xs) (hn : n ≤ 1073741824) :
    Calls Tryz.prog 132 #[.agg #[.int .i64 W, .slice A n c]] w fun e w' => ∃ R c', e = .returned (.slice R (swListW W xs).length c') ∧ Below w.heap.size w w' ∧ BufW w' w.heap.size R c' (swListW W xs) := by
  have hB00 : BufW ((w.alloc (.cells #[.int .i64 W, .slice A n c] 25)).alloc (.cells #[] 44)) (w.heap.size + 1) (some ⟨w.heap.size + 1, 0, none⟩) 0 [] :=
    ⟨rfl, .inr ⟨w.heap.size + 1, 0, #[], rfl, Nat.le_refl _, heap_at2 w (.cells #[.int .i64 W, .slice A n c] 25) 44 #[], Nat.le_refl _, Nat.zero_le _, rfl, rfl⟩⟩
  cases hk : okB W xs with
  | false =>
    have hT := Lib.hid (show swListW W xs = [] by simp [swListW, hk])
    go_enter Tryz.func132, Tryz.ntmps132
    go_wp2_with fail
    refine (spec_ImageValid_c _ _ _ _ xs _ ((hr.alloc _).alloc _) (by omega)).mono ?_
    rw [hk]
    rintro e w1 ⟨rfl, hb1⟩
    go_wp2
    go_ret
    refine ⟨some ⟨w.heap.size + 1, 0, none⟩, 0, by rw [hT.out]; rfl, by (repeat (first | exact Below.refl _ _ | assumption | refine lo_alloc ?_ _ | refine lo_set ?_ (by simp; try omega) _ | refine Below.drew ?_ | refine below_drewN ?_ _ | refine lo_trans ?_ (by assumption) | refine lo_wr ?_ (by assumption) (by omega))), ?_⟩
    rw [hT.out]
    exact (hB00.next hb1).mono (by omega)
  | true =>
    have hbd := okB_bd hk
    rw [hr.1] at hbd
    obtain ⟨m, rfl⟩ := Int.eq_ofNat_of_zero_le (show 0 ≤ W by omega)
    have hk' := Lib.hid hk
    have hI00 : SInv w ((w.alloc (.cells #[.int .i64 (m : Int), .slice A n c] 25)).alloc (.cells #[] 44)) (w.heap.size + 1) m n c A (.slice (some ⟨w.heap.size + 1, 0, none⟩) 0 0) [] :=
      ⟨by (repeat (first | exact Below.refl _ _ | assumption | refine lo_alloc ?_ _ | refine lo_set ?_ (by simp; try omega) _ | refine Below.drew ?_ | refine below_drewN ?_ _ | refine lo_trans ?_ (by assumption) | refine lo_wr ?_ (by assumption) (by omega))), (Blk.new w _ _).alloc _, by simp, _, _, rfl, hB00⟩
    go_enter Tryz.func132, Tryz.ntmps132
    go_wp2_with fail
    refine (spec_ImageValid_c _ _ _ _ xs _ ((hr.alloc _).alloc _) (by omega)).mono ?_
    rw [hk]
    rintro e w1 ⟨rfl, hb1⟩
    have hI0 := hI00.next hb1
    clear hk hI00 hb1 hB00
    go_wp2
    go_loopw [3, 4] (fun v i wr => ∃ (a : Nat) (ss : List Sw), a ≤ n ∧ i = .int .i64 a ∧ Hid (ss = swS n m xs a (a + 1) 0 1) ∧ SInv w wr (w.heap.size + 1) m n c A v ss) (fun _ i _ => n - (intOf i).toNat)
    case atStart => exact ⟨0, [], Nat.zero_le _, rfl, Lib.hid (by rw [swS_0]), hI0⟩
    case round =>
      clear hI0
      obtain ⟨a, ss, ha, rfl, hss, hI⟩ := hrel
      obtain ⟨wo, rfl⟩ : ∃ wo : World, wo = wr := ⟨_, rfl⟩
      have c1 := hI.2.1.cell 1
      by_cases hlt : a < n
      · go_wp2
        go_loopw [3, 5] (fun v i wr => ∃ (k : Nat) (ss : List Sw), a + 1 ≤ k ∧ k ≤ n ∧ i = .int .i64 k ∧ Hid (ss = swS n m xs a k 0 1) ∧ SInv w wr (w.heap.size + 1) m n c A v ss) (fun _ i _ => n - (intOf i).toNat)
        case atStart => exact ⟨a + 1, ss, Nat.le_refl _, by omega, by go_num, hss, hI⟩
        case round =>
          clear hI hss c1
          obtain ⟨k, ss, hak, hkn, rfl, hss, hI⟩ := hrel
          obtain ⟨wo2, rfl⟩ : ∃ wo : World, wo = wr := ⟨_, rfl⟩
          have c1 := hI.2.1.cell 1
          by_cases hlt2 : k < n
          · go_wp2
            go_loopw [3, 6] (fun v i wr => ∃ (q : Nat) (ss : List Sw), q ≤ m ∧ i = .int .i64 q ∧ Hid (ss = swS n m xs a k q (q + 1)) ∧ SInv w wr (w.heap.size + 1) m n c A v ss) (fun _ i _ => m - (intOf i).toNat)
            case atStart => exact ⟨0, ss, Nat.zero_le _, rfl, hss, hI⟩
            case round =>
              clear hI hss c1
              obtain ⟨q, ss, hq, rfl, hss, hI⟩ := hrel
              obtain ⟨wo3, rfl⟩ : ∃ wo : World, wo = wr := ⟨_, rfl⟩
              have c0 := hI.2.1.cell 0
              by_cases hlt3 : q < m
              · go_wp2
                go_loopw [3, 7] (fun v i wr => ∃ (d : Nat) (ss : List Sw), q + 1 ≤ d ∧ d ≤ m ∧ i = .int .i64 d ∧ Hid (ss = swS n m xs a k q d) ∧ SInv w wr (w.heap.size + 1) m n c A v ss) (fun _ i _ => m - (intOf i).toNat)
                case atStart => exact ⟨q + 1, ss, Nat.le_refl _, by omega, by go_num, hss, hI⟩
                case round =>
                  clear hI hss c0
                  obtain ⟨d, ss, hqd, hdm, rfl, hss, hI⟩ := hrel
                  by_cases hlt4 : d < m
                  · have hlen : ss.length < 1600 := by rw [hss.out]; exact swS_len xs (by omega) (by omega) (by omega) (by omega) (by omega) (by omega)
                    have c0 := hI.2.1.cell 0
                    have c1 := hI.2.1.cell 1
                    have hzw := hI.2.1.lt
                    have hb1 := lo_alloc (Below.refl wr.heap.size wr) (.cells #[.int .i64 (a : Int), .int .i64 (k : Int), .int .i64 (q : Int), .int .i64 (d : Int)] 44)
                    have hx2 := Blk.new wr 44 #[.int .i64 (a : Int), .int .i64 (k : Int), .int .i64 (q : Int), .int .i64 (d : Int)]
                    have hR := (hr.next hI.1).next hb1
                    go_wp2_with fail
                    refine (l11Ok_c m n c A xs ⟨a, k, q, d⟩ _ hR hk'.out ⟨by dsimp only; omega, by dsimp only; omega, by dsimp only; omega, by dsimp only; omega⟩).mono ?_
                    rintro e w2 ⟨rfl, hb2⟩
                    have hI2 := (hI.next hb1).next hb2
                    have hx3 := hx2.next hb2
                    clear hI hb1 hb2 hx2 hR c0 c1
                    have c0 := hI2.2.1.cell 0
                    have x0 := hx3.cell 0
                    have x1 := hx3.cell 1
                    have x2 := hx3.cell 2
                    have x3 := hx3.cell 3
                    cases hsw : swOk xs ⟨a, k, q, d⟩ with
                    | false =>
                      have hN : Hid (ss = swS n m xs a k q (d + 1)) := Lib.hid (by rw [swS_d hqd, if_neg (by rw [hsw]; simp)]; exact hss.out)
                      clear hsw
                      go_wp2
                      go_roundw
                      case rel => exact ⟨d + 1, ss, by omega, by omega, by go_num, hN, hI2⟩
                      case measure => simp [intOf]; omega
                    | true =>
                      have hN : Hid (ss ++ [⟨a, k, q, d⟩] = swS n m xs a k q (d + 1)) := Lib.hid (by rw [swS_d hqd, if_pos hsw, hss.out])
                      clear hsw
                      obtain ⟨hW, hBx, hbs, B, c', rfl, hBf⟩ := hI2
                      have hb3 := lo_alloc (Below.refl w2.heap.size w2) (.cells #[.int .i64 (a : Int), .int .i64 (k : Int), .int .i64 (q : Int), .int .i64 (d : Int)] 44)
                      have hBf3 := hBf.next hb3
                      have hW3 := lo_trans hW hb3
                      have hBx3 := hBx.next hb3
                      have hn3 := Blk.new w2 44 #[.int .i64 (a : Int), .int .i64 (k : Int), .int .i64 (q : Int), .int .i64 (d : Int)]
                      have hs3 : w.heap.size + 1 ≤ (w2.alloc (.cells #[.int .i64 (a : Int), .int .i64 (k : Int), .int .i64 (q : Int), .int .i64 (d : Int)] 44)).heap.size := by simp; omega
                      clear hW hBx hBf hb3 c0
                      go_wp2_with (at_builtin; refine (wpl_appendW rfl _ _ rfl (w.heap.size + 1) B c' ss.length ss rfl rfl hBf3 w2.heap.size 1 ⟨a, k, q, d⟩ rfl hn3 (by omega) hs3 ?_); intro g c4 w4 hB4 hg4 hat)
                      go_roundw
                      case rel =>
                        have hrow := hBf3.row
                        refine ⟨d + 1, _, by omega, by omega, by go_num, hN, lo_grown hW3 hg4 (fun g hg => by have := hrow g hg; omega), hBx3.grown hg4 (fun e => by have := hrow _ e.symm; omega), Nat.le_trans hs3 hg4.size, _, _, ?_, hB4⟩
                        simp
                      case measure => simp [intOf]; omega
                  · have hN : Hid (ss = swS n m xs a k (q + 1) (q + 1 + 1)) := Lib.hid (by rw [hss.out, show d = m by omega, swS_c])
                    have c0 := hI.2.1.cell 0
                    go_wp2
                    go_roundw
                    case rel => exact ⟨q + 1, ss, by omega, by go_num, hN, hI⟩
                    case measure => simp [intOf]; omega
              · have hN : Hid (ss = swS n m xs a (k + 1) 0 1) := Lib.hid (by rw [hss.out, show q = m by omega, swS_b hak])
                go_wp2
                go_roundw
                case rel => exact ⟨k + 1, ss, by omega, by omega, by go_num, hN, hI⟩
                case measure => simp [intOf]; omega
          · have hN : Hid (ss = swS n m xs (a + 1) (a + 1 + 1) 0 1) := Lib.hid (by rw [hss.out, show k = n by omega, swS_a])
            go_wp2
            go_roundw
            case rel => exact ⟨a + 1, ss, by omega, by go_num, hN, hI⟩
            case measure => simp [intOf]; omega
      · have hN : Hid (swListW (m : Int) xs = ss) := Lib.hid (by
          rw [swListW, hk'.out, if_pos rfl, Int.toNat_natCast, hss.out, show a = n by omega, ← hr.1, swS_end])
        obtain ⟨hW, hBx, hbs, B, c', rfl, hBf⟩ := hI
        go_wp2
        go_ret
        refine ⟨B, c', by rw [hN.out]; rfl, hW, ?_⟩
        rw [hN.out]
        exact hBf.mono (by omega)
end Go.Proofs.YtpeiolimdglmhaaGreatDoor

-- Walks: the reference's neighbors of an image.
namespace Go.Proofs.YtpeiolimdglmhaaGreatDoor
open Go.RowKit
set_option maxRecDepth 100000

theorem OwnI.app {W W2 W3 : World} {base n c' cB cr gr gB : Nat} {m : Int} {R : Option Addr} {es : List El} {zs : List Int} {bx : Obj} (hI : OwnI W base R c' es)
    (hbW : base ≤ W.heap.size) (hb2 : Below W.heap.size W W2) (hown2 : Own W2 W.heap.size (some ⟨gr, 0, none⟩) n zs) (hn : 0 < n)
    (hB3 : BufI W3 base (some ⟨gB, 0, none⟩) cB (es ++ [⟨m, some ⟨gr, 0, none⟩, cr, zs⟩])) (hg3 : (W2.alloc bx).grownBy W3 (rowA R)) (hat : R = some ⟨gB, 0, none⟩ ∨ gB = (W2.alloc bx).heap.size) :
    OwnI W3 base (some ⟨gB, 0, none⟩) cB (es ++ [⟨m, some ⟨gr, 0, none⟩, cr, zs⟩]) := by
  have hbx := lo_alloc hb2 bx
  have hIx := hI.next hbx
  obtain ⟨_, eg, hgr1, hgr2⟩ := (hown2.blk).resolve_left (fun h => by omega)
  cases eg
  have hlen : zs.length = n := hown2.1
  have hlt : ∀ e ∈ es, ∀ g, e.A = some (⟨g, 0, none⟩ : Addr) → g < W.heap.size := by
    intro e he g eA
    rcases (hI.rows e he).1.blk with ⟨h0, _⟩ | ⟨g', e', _, h'⟩
    · have := (hI.rows e he).2; omega
    · rw [eA] at e'; cases e'; exact h'
  refine OwnI.snoc hIx ?_ (by show 0 < zs.length; omega) ?_ ?_ hB3 hg3 hat
  · show Own (W2.alloc bx) base (some ⟨gr, 0, none⟩) zs.length zs
    rw [hlen]
    exact (hown2.alloc bx).mono hbW
  · intro hm
    obtain ⟨e, he, eA⟩ := List.mem_map.1 hm
    have := hlt e he gr eA
    omega
  · rintro rfl
    have := (hI.buf.lt gr rfl).2
    omega

end Go.Proofs.YtpeiolimdglmhaaGreatDoor

-- Plain mathematics: is an image unique; the sums of a row bit by bit.
namespace Go.Proofs.YtpeiolimdglmhaaGreatDoor

/-- an image is valid and has no switch -/
def uniqB (W : Int) (xs : List Int) : Bool := okB W xs && decide (swList W.toNat xs = [])
theorem csum_len (k : Nat) (xs : List Int) : (csum k xs).length = k := by rw [csum, List.length_map, List.length_range]
theorem rsum_len (xs : List Int) : (rsum xs).length = xs.length := by rw [rsum, List.length_map]
end Go.Proofs.YtpeiolimdglmhaaGreatDoor

-- Plain mathematics: the weights of a unique image, place by place.
namespace Go.Proofs.YtpeiolimdglmhaaGreatDoor

/-- the place of a number in a list -/
def plc : List Int → Int → Nat
  | [], _ => 0
  | a :: l, x => if a = x then 0 else plc l x + 1
theorem plc_at : ∀ {l : List Int} {k : Nat} {x : Int}, l.Nodup → l[k]? = some x → plc l x = k
  | [], k, x, _, h => by simp at h
  | a :: l, 0, x, _, h => by simp at h; simp [plc, h]
  | a :: l, k + 1, x, hd, h => by
    rw [List.nodup_cons] at hd
    simp only [List.getElem?_cons_succ] at h
    have hne : a ≠ x := by rintro rfl; exact hd.1 (List.mem_of_getElem? h)
    simp [plc, hne, plc_at hd.2 h]
theorem plc_get : ∀ {l : List Int} {x : Int}, x ∈ l → l[plc l x]? = some x
  | a :: l, x, h => by
    by_cases e : a = x
    · simp [plc, e]
    · have h2 : x ∈ l := by
        rcases List.mem_cons.1 h with h | h
        · exact absurd h.symm e
        · exact h
      simp [plc, e, plc_get h2]
theorem ordL_nodup (L : List Int) : (ordL L).Nodup := by
  refine (ordL_perm L).symm.nodup ?_
  exact (iotaL_sorted _).imp (fun h => by omega)
theorem ordL_len (L : List Int) : (ordL L).length = L.length := by rw [(ordL_perm L).length_eq, iotaL_len]
theorem ordL_mem {L : List Int} {x : Int} : x ∈ ordL L ↔ 0 ≤ x ∧ x < L.length := by rw [(ordL_perm L).mem_iff, iotaL_mem]
theorem ordL_at {L : List Int} {k : Nat} (hk : k < L.length) : ∃ c : Nat, (ordL L)[k]?.getD 0 = (c : Int) ∧ c < L.length ∧ plc (ordL L) (c : Int) = k := by
  have hk2 : k < (ordL L).length := by rw [ordL_len]; exact hk
  have hm : (ordL L)[k] ∈ ordL L := List.getElem_mem hk2
  have h1 := ordL_mem.1 hm
  have e : ((ordL L)[k].toNat : Int) = (ordL L)[k] := by omega
  refine ⟨(ordL L)[k].toNat, by rw [List.getElem?_eq_getElem hk2, e]; rfl, by omega, ?_⟩
  rw [e]
  exact plc_at (ordL_nodup L) (List.getElem?_eq_getElem hk2)
theorem rsum_bd (xs : List Int) {k : Nat} (hk : k < xs.length) : 0 ≤ (rsum xs)[k]?.getD 0 ∧ (rsum xs)[k]?.getD 0 ≤ 6 := by
  rw [rsum, List.getElem?_map, List.getElem?_eq_getElem hk]
  simp only [Option.map_some, Option.getD_some]
  have : pop xs[k].toNat ≤ 6 := by
    have h := List.countP_le_length (p := fun j => xs[k].toNat.testBit j) (l := List.range 6)
    rw [List.length_range] at h
    exact h
  omega
theorem csum_bd {m : Nat} {xs : List Int} (hx : xs.length ≤ 6) : ∀ x ∈ csum m xs, 0 ≤ x ∧ x ≤ 6 := by
  intro x h
  obtain ⟨j, _, rfl⟩ := List.mem_map.1 h
  have := ccnt_le xs j
  omega
end Go.Proofs.YtpeiolimdglmhaaGreatDoor

-- Walks: slices of images compared, marked, held.
namespace Go.Proofs.YtpeiolimdglmhaaGreatDoor
open Go.RowKit
set_option maxRecDepth 100000

theorem Els.at_ {es : List El} {W : Int} {ys : List (List Int)} (h : Els es W ys) {k : Nat} {e : El} (he : es[k]? = some e) : e.W = W ∧ ys[k]? = some e.xs := by
  refine ⟨h.2 e (List.mem_of_getElem? he), ?_⟩
  rw [← h.1, List.getElem?_map, he]; rfl

end Go.Proofs.YtpeiolimdglmhaaGreatDoor
