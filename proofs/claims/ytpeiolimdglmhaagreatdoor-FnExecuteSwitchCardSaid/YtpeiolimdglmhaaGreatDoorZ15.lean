/- Plain facts and walks that the law's proof uses; each says its own conditions. -/
import Derived.Test.YtpeiolimdglmhaaGreatDoorZ14
import Derived.Test.YtpeiolimdglmhaaGreatDoorZ12
import Derived.Deep.RegionHeld3
import Derived.Deep.QuietTactic
import Derived.BigQuiet
import Derived.Test.YtpeiolimdglmhaaGreatDoorZ13
-- Walks: partitions: is one valid, sums of its head, one below the other; the conjugate; consistent sums.
namespace Go.Proofs.YtpeiolimdglmhaaGreatDoor
open Go.RowKit Go.Shelf
set_option maxRecDepth 100000

theorem pv_ent : ∀ args w, (callFunc 155 args).run Tryz.prog w = .ok (.enter 155 args) w :=
  enters_of Tryz.func155 (by kernel_rfl) rfl
theorem pv_call {W : World} {x y : Int} (hx : 0 ≤ x ∧ x ≤ 6) (hy : 0 ≤ y ∧ y ≤ 6) : Calls Tryz.prog 155 (#[.int .i64 x, .int .i64 y] ++ #[]) W fun e w' => e = .returned (.int .i64 (y - x)) ∧ Below W.heap.size W w' := by
  simp only [Array.append_empty]
  go_enter Tryz.func155, Tryz.ntmps155
  go_wp2
  go_ret
  exact ⟨rfl, Below.refl _ _⟩

set_option maxHeartbeats 4000000 in
theorem IsSorted_c (lo g n c : Nat) (L : List Int) (w : World) (ho : Own w lo (some ⟨g, 0, none⟩) n L) (hp : PV L) (hn0 : 0 < n) (hn : n ≤ 6) :
    Calls Tryz.prog 154 #[.slice (some ⟨g, 0, none⟩) n c, .func (.func 155) #[] #[]] w fun e w' => e = .returned (.bool true) ∧ Below w.heap.size w w' := by
  have hp' := Lib.hid hp; clear hp
  have hxl := Lib.hid ho.1
  go_enter Tryz.func154, Tryz.ntmps154
  go_wp2
  go_loopw [5] (fun i wr => ∃ k : Nat, k + 1 ≤ n ∧ i = .int .i64 k ∧ Below w.heap.size w wr) (fun i _ => (intOf i).toNat)
  case atStart => exact ⟨n - 1, by omega, by congr 1; omega, Below.refl _ _⟩
  case round =>
    obtain ⟨k, hk, rfl, hbl⟩ := hrel
    rcases Nat.eq_zero_or_pos k with h0 | h0
    · subst h0
      go_wp2
      go_ret
      exact ⟨rfl, hbl⟩
    · obtain ⟨p, rfl⟩ : ∃ p, k = p + 1 := ⟨k - 1, by omega⟩
      have ho' := ho.next hbl
      obtain ⟨_, hz, cx, _, _⟩ := ho'.cellSet' (k := p + 1) (by omega)
      obtain ⟨_, _, cy, _, _⟩ := ho'.cellSet' (k := p) (by omega)
      have hxb := hp'.out.bd _ (mem_at (show p + 1 < L.length by rw [hxl.out]; omega))
      have hyb := hp'.out.bd _ (mem_at (show p < L.length by rw [hxl.out]; omega))
      have hde := hp'.out.desc p (by rw [hxl.out]; omega)
      generalize L[p + 1]?.getD 0 = x at cx hxb hde
      generalize L[p]?.getD 0 = y at cy hyb hde
      have hxy := Lib.hid (show x ≤ y by omega)
      have hxb' := Lib.hid hxb
      have hyb' := Lib.hid hyb
      clear hxb hyb hde ho'
      have w1 : IntKind.i64.wrap ((p : Int) + 1 - 1) = (p : Int) := by rw [Int.add_sub_cancel]; exact IntWalk.i64_in _ (by omega)
      have hent := pv_ent
      have hd1 : decide ((0 : Int) < (p : Int) + 1) = true := decide_eq_true (by omega)
      have w3 : IntKind.i64.wrap (p : Int) = (p : Int) := IntWalk.i64_in _ (by omega)
      have w2 : IntKind.i64.wrap (((p + 1 : Nat) : Int) - 1) = (p : Int) := by rw [Int.natCast_add, Int.natCast_one]; exact w1
      have hp1 : (0 : Int) ≤ (p : Int) := by omega
      have hp2 : (p : Int) < (n : Int) := by omega
      have hp3 : (p : Int) + 1 < (n : Int) := by omega
      have hp4 : (0 : Int) ≤ (p : Int) + 1 := by omega
      have hp5 : ((p : Int) + 1).toNat = p + 1 := by omega
      go_wp2
      go_region_held3 (fun w' => w'.cell? ⟨g, p + 1, none⟩ = some (.int .i64 x) ∧ w'.cell? ⟨g, p, none⟩ = some (.int .i64 y))
        (first
          | exact ⟨(hb5.cell (p := ⟨g, p + 1, none⟩) hz).trans cx, (hb5.cell (p := ⟨g, p, none⟩) hz).trans cy⟩
          | exact ⟨cx, cy⟩)
        (first
          | (refine (pv_call hxb'.out hyb'.out).mono ?_
             rintro e w5 ⟨rfl, hb5⟩))
      clear w1 w2 w3
      have hb6 : Below w.heap.size w w5 := lo_trans hbl (lo_trans (Below.drew (Below.refl wr.heap.size wr)) hb5)
      clear cx cy hz hb5 hbl
      have hxy2 : decide (y - x < 0) = false := decide_eq_false (by have := hxy.out; omega)
      have hxy3 : ¬ (y - x < 0) := by have := hxy.out; omega
      go_wp2
      refine ⟨⟨p, by omega, rfl, hb6⟩, ?_⟩
      simp [intOf]
      try omega

theorem inParts_c (A : Option Addr) (n c : Nat) (L : List Int) (w : World) (hr : Rd w A n L) (hs : sIn 6 L = true) (hn0 : 0 < n) (hn : n ≤ 6) :
    Calls Tryz.prog 153 #[.slice A n c] w fun e w' => e = .returned (.bool true) ∧ w = w' := by
  have hn1 : ¬ n = 0 := by omega
  go_enter Tryz.func153, Tryz.ntmps153
  go_wp2_with fail
  refine (sumsInRange_c _ _ _ _ L _ hr (by omega)).mono ?_
  rw [hs]
  rintro e w' ⟨rfl, rfl⟩
  go_wp2
  go_ret
  exact ⟨rfl, rfl⟩
set_option maxHeartbeats 1000000 in
theorem PartValid_c (lo g n c : Nat) (L : List Int) (w : World) (ho : Own w lo (some ⟨g, 0, none⟩) n L) (hp : PV L) (hn0 : 0 < n) (hn : n ≤ 6) :
    Calls Tryz.prog 133 #[.slice (some ⟨g, 0, none⟩) n c] w fun e w' => e = .returned (.bool true) ∧ Below w.heap.size w w' := by
  have hs := Lib.hid (show sIn 6 L = true from sIn_yes (by rw [ho.1]; omega) (by rw [ho.1]; omega) (allIn_iff.2 hp.bd))
  have hp' := Lib.hid hp; clear hp
  go_enter Tryz.func133, Tryz.ntmps133
  go_wp2_with fail
  refine (inParts_c _ _ _ L _ ho.rd hs.out hn0 hn).mono ?_
  rintro e w' ⟨rfl, rfl⟩
  go_wp2_with fail
  refine (IsSorted_c lo g n c L _ ho hp'.out hn0 hn).mono ?_
  rintro e w1 ⟨rfl, hb1⟩
  go_wp2
  go_ret
  exact ⟨rfl, hb1⟩

set_option maxHeartbeats 2000000 in
theorem PartSum_c (lo g n c k : Nat) (L : List Int) (w : World) (ho : Own w lo (some ⟨g, 0, none⟩) n L) (hp : PV L) (hn0 : 0 < n) (hn : n ≤ 6) (hnc : n ≤ c) (hk : k ≤ 6) :
    Calls Tryz.prog 134 #[.slice (some ⟨g, 0, none⟩) n c, .int .i64 k] w fun e w' => e = .returned (.int .i64 (L.take k).sum) ∧ Below w.heap.size w w' := by
  have hp' := Lib.hid hp; clear hp
  have hxl := Lib.hid ho.1
  go_enter Tryz.func134, Tryz.ntmps134
  go_wp2_with fail
  refine (PartValid_c lo g n c L _ ho hp'.out hn0 hn).mono ?_
  rintro e w1 ⟨rfl, hb1⟩
  have hR := (ho.next hb1).rd
  have hc0 : ¬ c = 0 := by omega
  by_cases hkn : k ≤ n
  · have h1 : (k : Int) ≤ (n : Int) := by omega
    have h2 : (0 : Int) ≤ (k : Int) := by omega
    have h3 : (k : Int) ≤ (c : Int) := by omega
    go_wp2_with fail
    all_goals
      (refine (total_c _ _ _ 6 _ _ (hR.take hkn) (by omega) (by omega) (by omega) (fun x hx => hp'.out.bd x (List.mem_of_mem_take hx))).mono ?_
       rintro e w2 ⟨rfl, rfl⟩
       go_wp2
       go_ret
       exact ⟨rfl, hb1⟩)
  · have h1 : (n : Int) < (k : Int) := by omega
    have h2 : (0 : Int) ≤ (n : Int) := by omega
    have h3 : (n : Int) ≤ (c : Int) := by omega
    have hF := Lib.hid (show L.take k = L by rw [List.take_of_length_le (by rw [hxl.out]; omega)])
    go_wp2_with fail
    all_goals
      (refine (total_c _ _ _ 6 L _ hR (by omega) (by omega) (by omega) (fun x hx => hp'.out.bd x hx)).mono ?_
       rintro e w2 ⟨rfl, rfl⟩
       go_wp2
       go_ret
       exact ⟨by rw [hF.out]; rfl, hb1⟩)

theorem pB_ne {a b : List Int} (h : a.sum ≠ b.sum) : pB a b = false := by simp [pB, h]
theorem pB_no {a b : List Int} {k : Nat} (hk : k < 6) (h : (b.take k).sum < (a.take k).sum) : pB a b = false := by
  cases e : pB a b with
  | false => rfl
  | true =>
    simp only [pB, Bool.and_eq_true, List.all_eq_true, List.mem_range, decide_eq_true_eq] at e
    have := e.2 k hk
    omega
theorem pB_yes {a b : List Int} (h : a.sum = b.sum) (h2 : ∀ k, k < 6 → (a.take k).sum ≤ (b.take k).sum) : pB a b = true := by
  simp only [pB, Bool.and_eq_true, List.all_eq_true, List.mem_range, decide_eq_true_eq]
  exact ⟨h, h2⟩

set_option maxHeartbeats 4000000 in
theorem PartBelow_c (lo g n c lo' g' m d : Nat) (L M : List Int) (w : World) (ho : Own w lo (some ⟨g, 0, none⟩) n L) (hq : Own w lo' (some ⟨g', 0, none⟩) m M) (hp : PV L) (hp2 : PV M) (hn0 : 0 < n) (hn : n ≤ 6) (hnc : n ≤ c) (hm0 : 0 < m) (hm : m ≤ 6) (hmd : m ≤ d) :
    Calls Tryz.prog 105 #[.slice (some ⟨g, 0, none⟩) n c, .slice (some ⟨g', 0, none⟩) m d] w fun e w' => e = .returned (.bool (pB L M)) ∧ Below w.heap.size w w' := by
  have hpL := Lib.hid hp; clear hp
  have hpM := Lib.hid hp2; clear hp2
  go_enter Tryz.func105, Tryz.ntmps105
  go_wp2_with fail
  refine (PartValid_c lo g n c L _ ho hpL.out hn0 hn).mono ?_
  rintro e w1 ⟨rfl, hb1⟩
  go_wp2_with fail
  refine (PartValid_c lo' g' m d M _ (hq.next hb1) hpM.out hm0 hm).mono ?_
  rintro e w2 ⟨rfl, hb2⟩
  have ho2 := ho.next (lo_trans hb1 hb2)
  have hq2 := hq.next (lo_trans hb1 hb2)
  have hL2 := lo_trans hb1 hb2
  clear hb1 hb2 ho hq
  go_wp2_with fail
  refine (total_c _ _ _ 6 L _ ho2.rd (by omega) (by omega) (by omega) (fun x hx => hpL.out.bd x hx)).mono ?_
  rintro e w' ⟨rfl, rfl⟩
  go_wp2_with fail
  refine (total_c _ _ _ 6 M _ hq2.rd (by omega) (by omega) (by omega) (fun x hx => hpM.out.bd x hx)).mono ?_
  rintro e w' ⟨rfl, rfl⟩
  by_cases hs : L.sum = M.sum
  case neg =>
    have hT := Lib.hid (pB_ne hs)
    generalize L.sum = s1 at hs ⊢
    generalize M.sum = s2 at hs ⊢
    go_wp2
    go_ret
    exact ⟨ret_bool (by rw [hT.out]), hL2⟩
  have hs' := Lib.hid hs
  rw [hs]
  clear hs
  generalize M.sum = s2
  go_wp2
  go_loopw [21] (fun i wr => ∃ k : Nat, k ≤ 6 ∧ i = .int .i64 k ∧ Below w.heap.size w wr ∧ Own wr lo (some ⟨g, 0, none⟩) n L ∧ Own wr lo' (some ⟨g', 0, none⟩) m M ∧ Hid (∀ s, s < k → (L.take s).sum ≤ (M.take s).sum)) (fun i _ => 6 - (intOf i).toNat)
  case atStart => exact ⟨0, Nat.zero_le _, rfl, hL2, ho2, hq2, Lib.hid (fun s h => absurd h (by omega))⟩
  case round =>
    clear hL2 ho2 hq2
    obtain ⟨k, hk, rfl, hL, ho, hq, hall⟩ := hrel
    by_cases hlt : k < 6
    · go_wp2_with fail
      refine (PartSum_c lo g n c k L _ ho hpL.out hn0 hn hnc (by omega)).mono ?_
      rintro e w3 ⟨rfl, hb3⟩
      go_wp2_with fail
      refine (PartSum_c lo' g' m d k M _ (hq.next hb3) hpM.out hm0 hm hmd (by omega)).mono ?_
      rintro e w4 ⟨rfl, hb4⟩
      have hb5 := lo_trans hb3 hb4
      have ho5 := ho.next hb5
      have hq5 := hq.next hb5
      have hL5 := lo_trans hL hb5
      clear ho hq hL hb3 hb4 hb5
      by_cases hc : (M.take k).sum < (L.take k).sum
      · have hT := Lib.hid (pB_no hlt hc)
        generalize (M.take k).sum = s3 at hc ⊢
        generalize (L.take k).sum = s4 at hc ⊢
        go_wp2
        go_ret
        exact ⟨ret_bool (by rw [hT.out]), hL5⟩
      · have hN : Hid (∀ s, s < k + 1 → (L.take s).sum ≤ (M.take s).sum) := Lib.hid (fun s hs => by
          rcases Nat.lt_or_ge s k with h | h
          · exact hall.out s h
          · obtain rfl : s = k := by omega
            omega)
        generalize (M.take k).sum = s3 at hc ⊢
        generalize (L.take k).sum = s4 at hc ⊢
        go_wp2
        refine ⟨⟨k + 1, by omega, by go_num, hL5, ho5, hq5, hN⟩, ?_⟩
        simp [intOf]; omega
    · obtain rfl : k = 6 := by omega
      have hT := Lib.hid (pB_yes hs'.out hall.out)
      go_wp2
      go_ret
      exact ⟨ret_bool (by rw [hT.out]), hL⟩

set_option maxHeartbeats 4000000 in
theorem conjugate_c (A : Option Addr) (n c m : Nat) (xs : List Int) (w : World) (hr : Rd w A n xs) (hn : n ≤ 6) (hm : m ≤ 6) (hx : ∀ x ∈ xs, 0 ≤ x ∧ x ≤ m) :
    Calls Tryz.prog 107 #[.slice A n c, .int .i64 m] w fun e w' => e = .returned (.slice (some ⟨w.heap.size, 0, none⟩) m m) ∧ Below w.heap.size w w' ∧ Own w' w.heap.size (some ⟨w.heap.size, 0, none⟩) m (conj xs m) := by
  have hmk := make_row m (by omega)
  have hx' := Lib.hid hx; clear hx
  have hxl := Lib.hid hr.1
  go_enter Tryz.func107, Tryz.ntmps107
  go_wp2
  have hb0 : Blk (w.alloc (.cells (madeCells #[Value.int IntKind.i64 0] m) 3)) w.heap.size 3 (ints (List.replicate m 0)) := by rw [← made_ints]; exact Blk.new _ _ _
  have hO0 : Own (w.alloc (.cells (madeCells #[Value.int IntKind.i64 0] m) 3)) w.heap.size (some ⟨w.heap.size, 0, none⟩) m (conj (xs.take 0) m) := Own.of_blk (by rw [List.take_zero, conj_nil]; exact hb0) (Nat.le_refl _) (conj_len _ _)
  have hL0 : Below w.heap.size w (w.alloc (.cells (madeCells #[Value.int IntKind.i64 0] m) 3)) := lo_alloc (Below.refl _ _) _
  clear hb0
  go_loopw [13] (fun i wr => ∃ k : Nat, k ≤ n ∧ i = .int .i64 k ∧ Below w.heap.size w wr ∧ Own wr w.heap.size (some ⟨w.heap.size, 0, none⟩) m (conj (xs.take k) m)) (fun i _ => n - (intOf i).toNat)
  case atStart => exact ⟨0, Nat.zero_le _, rfl, hL0, hO0⟩
  case round =>
    clear hL0 hO0 hmk
    obtain ⟨k, hk, rfl, hL, hO⟩ := hrel
    by_cases hlt : k < n
    · obtain ⟨b, off, rfl, hb, hc⟩ := (hr.next hL).at_ hlt
      have hkl : k < xs.length := hxl.out ▸ hlt
      have hxb := hx'.out _ (mem_at hkl)
      have hN : Hid (bmp (xs.take k) m (xs[k]?.getD 0) = conj (xs.take (k + 1)) m) := Lib.hid (by
        rw [bmp_snoc, List.take_succ_eq_append_getElem hkl]
        simp [List.getElem?_eq_getElem hkl])
      obtain ⟨x, hxe⟩ : ∃ x : Nat, xs[k]?.getD 0 = (x : Int) := ⟨_, (Int.toNat_of_nonneg hxb.1).symm⟩
      rw [hxe] at hc hxb hN
      have hxe' := Lib.hid hxe; clear hxe
      have hxm : x ≤ m := by omega
      have hO0 : Own wr w.heap.size (some ⟨w.heap.size, 0, none⟩) m (bmp (xs.take k) m ((0 : Nat) : Int)) := by rw [show ((0 : Nat) : Int) = 0 from rfl, bmp_zero]; exact hO
      clear hO hxb
      obtain ⟨wo, rfl⟩ : ∃ wo : World, wo = wr := ⟨_, rfl⟩
      go_wp2
      go_loopw [18] (fun i wr => ∃ j : Nat, j ≤ x ∧ i = .int .i64 j ∧ Below w.heap.size w wr ∧ Own wr w.heap.size (some ⟨w.heap.size, 0, none⟩) m (bmp (xs.take k) m (j : Nat))) (fun i _ => x - (intOf i).toNat)
      case atStart => exact ⟨0, Nat.zero_le _, rfl, hL, hO0⟩
      case round =>
        clear hL hO0 hb hc
        obtain ⟨j, hj, rfl, hL, hO⟩ := hrel
        by_cases hlt2 : j < x
        · have hst := Lib.hid (bmp_step (xs.take k) m j (by omega))
          have hcb := cnt_bd (xs.take k) j
          have htl : (xs.take k).length ≤ 6 := by rw [List.length_take, hxl.out]; omega
          have hat := bmp_at (r := xs.take k) (t := (j : Nat)) (show j < m by omega)
          rw [if_neg (by omega)] at hat
          obtain ⟨g', eg, _, hz, cc, ff, ss⟩ := hO.at_ (k := j) (by omega)
          cases eg
          have hs2 := ss ((bmp (xs.take k) m (j : Nat))[j]?.getD 0 + 1)
          rw [hst.out] at hs2
          rw [hat] at cc hs2
          have hcb' : 0 ≤ cnt (xs.take k) j + 0 ∧ cnt (xs.take k) j + 0 ≤ 6 := by omega
          generalize cnt (xs.take k) j + 0 = v at cc hs2 hcb'
          have hL2 := lo_set hL (p := ⟨w.heap.size, j, none⟩) (Nat.le_refl _) (.int .i64 (v + 1))
          clear ss hat hcb htl hL hO
          go_wp2
          go_roundw
          case rel => exact ⟨j + 1, by omega, by go_num, hL2, hs2⟩
          case measure => simp [intOf]; omega
        · obtain rfl : j = x := by omega
          rw [hN.out] at hO
          go_wp2
          go_roundw
          case rel => exact ⟨k + 1, by omega, by go_num, hL, hO⟩
          case measure => simp [intOf]; omega
    · obtain rfl : k = n := by omega
      rw [List.take_of_length_le (Nat.le_of_eq hxl.out)] at hO
      go_wp2
      go_ret
      exact ⟨rfl, hL, hO⟩

set_option maxHeartbeats 2000000 in
theorem SumsConsistent_c (A B : Option Addr) (n m c d : Nat) (xs ys : List Int) (w : World) (hr : Rd w A n xs) (hq : Rd w B m ys) (hn : n ≤ 1048576) (hm : m ≤ 1048576) :
    Calls Tryz.prog 65 #[.slice A n c, .slice B m d] w fun e w' => e = .returned (.bool (consB xs ys)) ∧ Below w.heap.size w w' := by
  cases hv : sV xs ys with
  | false =>
    have hT := Lib.hid (show consB xs ys = false by simp [consB, hv])
    go_enter Tryz.func65, Tryz.ntmps65
    go_wp2_with (go_at_call 25; refine (SumsValid_c _ _ _ _ _ _ xs ys _ hr hq (by omega) (by omega)).mono ?_; rw [hv]; rintro e w' ⟨rfl, rfl⟩)
    go_ret
    exact ⟨ret_bool (by rw [hT.out]), Below.refl _ _⟩
  | true =>
    have hT := Lib.hid (consB_pB hv)
    obtain ⟨q1, q2, q3, q4, q5, q6⟩ := sV_out hv
    rw [hq.1] at hT q3 q4 q5
    rw [hr.1] at q1 q2 q6
    have hx5 := Lib.hid q5
    have hy6 := Lib.hid (show ∀ x ∈ ys, 0 ≤ x ∧ x ≤ 6 from fun x hx => by have := q6 x hx; omega)
    have hpc := Lib.hid (pv_conj (r := xs) (n := m) (by rw [hr.1]; exact q2) q4)
    have hpd := Lib.hid (pv_dsort (c := ys) (by rw [hq.1]; exact q4) hy6.out)
    clear q5 q6
    go_enter Tryz.func65, Tryz.ntmps65
    go_wp2_with fail
    refine (SumsValid_c _ _ _ _ _ _ xs ys _ hr hq (by omega) (by omega)).mono ?_
    rw [hv]
    rintro e w' ⟨rfl, rfl⟩
    clear hv
    go_wp2_with fail
    refine (sorted_c B m d ys _ hq (by omega) (by omega) (fun x hx => by have := hy6.out x hx; omega)).mono ?_
    rintro e w1 ⟨g, c', rfl, hb1, ho1, hc1, hc2⟩
    go_wp2_with fail
    refine (conjugate_c _ _ _ m xs _ (hr.next hb1) q2 q4 hx5.out).mono ?_
    rintro e w2 ⟨rfl, hb2, ho2⟩
    go_wp2_with fail
    refine (PartBelow_c _ g m c' _ _ m m (dsort ys) (conj xs m) _ (ho1.next hb2) ho2 hpd.out hpc.out (by omega) q4 hc1 (by omega) q4 (Nat.le_refl _)).mono ?_
    rw [hT.out]
    rintro e w3 ⟨rfl, hb3⟩
    go_wp2
    go_ret
    exact ⟨rfl, by (repeat (first | exact Below.refl _ _ | assumption | refine lo_alloc ?_ _ | refine lo_set ?_ (by simp; try omega) _ | refine Below.drew ?_ | refine below_drewN ?_ _ | refine lo_trans ?_ (by assumption) | refine lo_wr ?_ (by assumption) (by omega)))⟩
end Go.Proofs.YtpeiolimdglmhaaGreatDoor

-- Walks: the places of a list by descending value, exactly: the program's way and the reference's.
namespace Go.Proofs.YtpeiolimdglmhaaGreatDoor
open Go.RowKit Go.Shelf
set_option maxRecDepth 100000

theorem iotaL_step (n k : Nat) (hk : k < n) : ((iotaL n).take k ++ List.replicate (n - k) (0 : Int)).set k (k : Int) = (iotaL n).take (k + 1) ++ List.replicate (n - (k + 1)) 0 := by
  have h := copy_step (iotaL n) n k (iotaL_len n) hk
  have e : (iotaL n)[k]?.getD 0 = (k : Int) := by simp [iotaL, hk]
  rw [e] at h
  exact h

set_option maxHeartbeats 4000000 in
theorem descending_x (lo gl n c : Nat) (L : List Int) (w : World) (hr : Own w lo (some ⟨gl, 0, none⟩) n L) (hn0 : 0 < n) (hn : n ≤ 6) (hL : ∀ x ∈ L, -1000 ≤ x ∧ x ≤ 1000) :
    Calls Tryz.prog 108 #[.slice (some ⟨gl, 0, none⟩) n c] w fun e w' => e = .returned (.slice (some ⟨w.heap.size + 1, 0, none⟩) n n) ∧ Below w.heap.size w w' ∧ Own w' w.heap.size (some ⟨w.heap.size + 1, 0, none⟩) n (ordL L) := by
  have hL' := Lib.hid hL; clear hL
  have hxl := Lib.hid hr.1
  obtain ⟨g0, e0, _, hgl, _⟩ := hr.at_ hn0
  cases e0
  have hmk := make_row n (by omega)
  have hK0 : Blk ((w.alloc (.cells #[.slice (some ⟨gl, 0, none⟩) n c] 23)).alloc (.cells (madeCells #[Value.int IntKind.i64 0] n) 3)) w.heap.size 23 #[.slice (some ⟨gl, 0, none⟩) n c] := (Blk.new w 23 #[.slice (some ⟨gl, 0, none⟩) n c]).alloc _
  have hb0 : Blk ((w.alloc (.cells #[.slice (some ⟨gl, 0, none⟩) n c] 23)).alloc (.cells (madeCells #[Value.int IntKind.i64 0] n) 3)) (w.heap.size + 1) 3 (ints (List.replicate n 0)) := by rw [← made_ints]; exact heap_at2 w _ _ _
  have hO0 : Own ((w.alloc (.cells #[.slice (some ⟨gl, 0, none⟩) n c] 23)).alloc (.cells (madeCells #[Value.int IntKind.i64 0] n) 3)) w.heap.size (some ⟨w.heap.size + 1, 0, none⟩) n ((iotaL n).take 0 ++ List.replicate (n - 0) 0) := Own.of_blk (by simpa using hb0) (by omega) (by simp)
  have hL0 : Below w.heap.size w ((w.alloc (.cells #[.slice (some ⟨gl, 0, none⟩) n c] 23)).alloc (.cells (madeCells #[Value.int IntKind.i64 0] n) 3)) := lo_alloc (lo_alloc (Below.refl _ _) _) _
  have c0 := (Blk.new w 23 #[.slice (some ⟨gl, 0, none⟩) n c]).cell 0
  clear hb0
  go_enter Tryz.func108, Tryz.ntmps108
  go_wp2
  clear c0
  go_loopw [10] (fun i wr => ∃ k : Nat, k ≤ n ∧ i = .int .i64 k ∧ Below w.heap.size w wr ∧ Blk wr w.heap.size 23 #[.slice (some ⟨gl, 0, none⟩) n c] ∧ Own wr w.heap.size (some ⟨w.heap.size + 1, 0, none⟩) n ((iotaL n).take k ++ List.replicate (n - k) 0)) (fun i _ => n - (intOf i).toNat)
  case atStart => exact ⟨0, Nat.zero_le _, rfl, hL0, hK0, hO0⟩
  case round =>
    clear hL0 hO0 hK0 hmk
    obtain ⟨k, hk, rfl, hB, hK, hO⟩ := hrel
    by_cases hlt : k < n
    · obtain ⟨g', e', _, hz, cc, ff, ss⟩ := hO.at_ (k := k) hlt
      cases e'
      have hs2 := ss (k : Int)
      rw [iotaL_step n k hlt] at hs2
      have hB2 := lo_set hB (p := ⟨w.heap.size + 1, k, none⟩) (by simp) (.int .i64 (k : Int))
      have hK2 := hK.far (p := ⟨w.heap.size + 1, k, none⟩) (by simp) (.int .i64 (k : Int))
      clear ss hB hK hO
      go_wp2
      go_roundw
      case rel => exact ⟨k + 1, by omega, by go_num, hB2, hK2, hs2⟩
      case measure => simp [intOf]; omega
    · obtain rfl : k = n := by omega
      have hr2 := hr.next hB
      have hO1 : Own wr w.heap.size (some ⟨w.heap.size + 1, 0, none⟩) k (iotaL k) := by
        rw [List.take_of_length_le (by rw [iotaL_len]; omega), Nat.sub_self, List.replicate_zero, List.append_nil] at hO
        exact hO
      go_wp2_with fail
      refine (SortStable_c _ _ _ _ w.heap.size (w.heap.size + 1) k k (ordK w.heap.size gl k c L) (iotaL k) _ (ord_cmp w.heap.size gl k c L _ hL'.out (by omega) (by omega)) hO1 ⟨hK, hr2.mono (Nat.zero_le _)⟩ (by omega) (fun x hx => iotaL_mem.1 hx)).mono ?_
      rintro e w2 ⟨rfl, hI⟩
      have hO2 : Own w2 w.heap.size (some ⟨w.heap.size + 1, 0, none⟩) k (ordL L) := by
        have h := hI.ow
        rw [ordL, hxl.out]
        exact h
      have hB2 : Below w.heap.size w w2 := lo_grown hB hI.gr (by rintro _ ⟨⟩; omega)
      clear hI hO hO1 hB hK hr2
      go_wp2
      go_ret
      exact ⟨rfl, hB2, hO2⟩
end Go.Proofs.YtpeiolimdglmhaaGreatDoor
