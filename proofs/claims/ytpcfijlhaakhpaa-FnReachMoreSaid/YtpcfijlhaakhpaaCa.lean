
/- Walks: the nested image is built; how many images have given row sums. -/
import Derived.Test.YtpcfijlhaakhpaaSv
import Derived.Test.YtpcfijlhaakhpaaKf
import Derived.Test.YtpcfijlhaakhpaaSu
namespace Go.Proofs.Ytpcfijlhaakhpaa
open Go.RowKit
set_option maxRecDepth 100000

theorem allIn_nat {hi : Int} {xs : List Int} (h : allIn 0 hi xs = true) {k : Nat} (hk : k < xs.length) : ∃ q : Nat, xs[k]?.getD 0 = (q : Int) ∧ (q : Int) ≤ hi := by
  have h1 := allIn_at h k hk
  exact ⟨(xs[k]?.getD 0).toNat, by omega, by omega⟩

set_option maxHeartbeats 4000000 in
theorem BuildNested_ok (A : Option Addr) (n c m : Nat) (xs : List Int) (w : World) (hr : Rd w A n xs) (hn : n ≤ 1000000) (hm1 : 1 ≤ m) (hm2 : m ≤ 6) (hx : sIn (m : Int) xs = true) :
    Calls Try.prog 52 #[.slice A n c, .int .i64 m] w fun e w' => ∃ g, e = .returned (.tuple #[.agg #[.int .i64 m, .slice (some ⟨g, 0, none⟩) n n], .bool true]) ∧ Below w.heap.size w w' := by
  have hxl := Lib.hid hr.1
  have hx' := Lib.hid hx
  have hA0 := Blk.new w 25 #[.int .i64 0, .slice none 0 0]
  have hL0 := lo_alloc (Below.refl w.heap.size w) (.cells #[.int .i64 0, .slice none 0 0] 25)
  go_enter Try.func52, Try.ntmps52
  go_wp2_with fail
  refine (sumsInRange_c _ _ _ _ xs _ (hr.next hL0) (by omega)).mono ?_
  rw [hx]
  rintro e w' ⟨rfl, rfl⟩
  clear hx
  go_wp2_with fail
  refine (emptyImage_c n m _ (by omega)).mono ?_
  rintro e w1 ⟨g, rfl, hb1, hg, hg1, hg2⟩
  have hA1 := hA0.next hb1
  have hL1 := lo_trans hL0 hb1
  obtain ⟨o, ho⟩ : ∃ o, o = w1.heap.size := ⟨_, rfl⟩
  have hI0 : WInv w (w1.alloc (.cells #[.int .i64 m, .slice (some ⟨g, 0, none⟩) n n] 25)) o g n m (List.replicate n 0) :=
    ⟨lo_alloc hL1 _, hA1.alloc _, by rw [ho]; exact Blk.new _ _ _, hg.alloc _⟩
  have hgo : g < o := by omega
  have hwg : w.heap.size < g := by simp at hg1; omega
  clear hA0 hL0 hb1 hg hg1 hg2 hA1 hL1
  go_wp2
  rw [← ho]
  generalize w1.alloc (.cells #[.int .i64 m, .slice (some ⟨g, 0, none⟩) n n] 25) = w2 at hI0 ⊢
  clear ho
  go_loopw [28] (fun i wr => ∃ (k : Nat) (zs : List Int), k ≤ n ∧ i = .int .i64 k ∧ WInv w wr o g n m zs ∧ Hid (zs.length = n)) (fun i _ => n - (intOf i).toNat)
  case atStart => exact ⟨0, _, Nat.zero_le _, rfl, hI0, Lib.hid (by simp)⟩
  case round =>
    clear hI0
    obtain ⟨k, zs, hk, rfl, hI, hzl⟩ := hrel
    obtain ⟨c0, c1, f0, f1, d0, d1⟩ := hI.cells
    by_cases hlt : k < n
    · obtain ⟨b, off, rfl, hb, hc⟩ := (hr.next hI.1).at_ hlt
      obtain ⟨q, q1, q2⟩ := allIn_nat (sIn_out hx'.out).2.2 (hxl.out ▸ hlt : k < xs.length)
      rw [q1] at hc
      have hp := pow_int (j := q) (by omega)
      have hzk : k < zs.length := by rw [hzl.out]; exact hlt
      have hcc := hI.2.2.2.icell hzk
      have hff := hI.2.2.2.frozen k
      have hset := Lib.hid (hI.2.2.2.iset k ((2 : Int) ^ q - 1))
      clear q1 hzk
      go_wp2
      have hwz := Lib.hid (show wrap64 ((2 : Int) ^ q - 1) = 2 ^ q - 1 from IntWalk.wrap64_in _ (by omega))
      go_region
      all_goals
        try rw [hwz.out]
        have hI2 := hI.step hwg (by omega) (grown_set _) hset.out
        have hI3 : WInv w _ o g n m _ := ⟨Below.drew hI2.1, hI2.2.1.drew, hI2.2.2.1.drew, hI2.2.2.2.drew⟩
        clear hI2 hset c0 c1 f0 f1 d0 d1 hcc hff
        generalize (World.setCell _ _ _).drew = w9 at hI3 ⊢
        go_wp2
        go_roundw
        case rel => exact ⟨k + 1, _, by omega, by go_num, hI3, Lib.hid (by rw [List.length_set]; exact hzl.out)⟩
        case measure => simp [intOf]; omega
    · have hz0 := hI.2.1.lt
      obtain ⟨s0, s1, hB8⟩ := fin_cells1 (w := w) (r := 0) hI.2.1 hI.1 (.int .i64 (m : Int)) (.slice (some ⟨g, 0, none⟩) n n)
      simp only [Nat.add_zero] at s0 s1 hB8
      have s0' := Lib.hid s0; have s1' := Lib.hid s1; clear s0 s1
      go_wp2
      exact bodyPost_ret (v := .tuple #[.agg #[.int .i64 m, .slice (some ⟨g, 0, none⟩) n n], .bool true]) (by simp [results, Try.results52, go_sem, s0'.out, s1'.out]) rfl ⟨g, rfl, hB8⟩

def prodN : Nat → (Nat → Nat) → Nat
  | 0, _ => 1
  | n + 1, F => prodN n F * F n
theorem prodN_le {c : Nat} {F : Nat → Nat} (h : ∀ i, F i ≤ c) : ∀ n, prodN n F ≤ c ^ n
  | 0 => by simp [prodN]
  | n + 1 => by
    simp only [prodN, Nat.pow_succ]
    exact Nat.mul_le_mul (prodN_le h n) (h n)
/-- how many of the first k rows have r set cells -/
def rowCnt (r : Int) (k : Nat) : Nat := (List.range k).countP (fun x => decide ((pop x : Int) = r))
theorem rowCnt_succ (r : Int) (k : Nat) : rowCnt r (k + 1) = rowCnt r k + (if (pop k : Int) = r then 1 else 0) := by
  simp [rowCnt, List.range_succ, List.countP_append, List.countP_singleton]
theorem rowCnt_le (r : Int) (k : Nat) : rowCnt r k ≤ k := by
  have h : rowCnt r k ≤ (List.range k).length := List.countP_le_length
  simpa using h
/-- CountAll -/
def cAll (m : Nat) (xs : List Int) (k : Nat) : Nat := prodN k (fun i => rowCnt (xs[i]?.getD 0) (2 ^ m))
theorem cAll_le {m : Nat} (hm : m ≤ 6) (xs : List Int) {k : Nat} (hk : k ≤ 6) : cAll m xs k ≤ 68719476736 := by
  have h1 : cAll m xs k ≤ 64 ^ k := prodN_le (fun i => Nat.le_trans (rowCnt_le _ _) (pow_le64 hm)) k
  have h2 : 64 ^ k ≤ 64 ^ 6 := Nat.pow_le_pow_right (by omega) hk
  omega

set_option maxHeartbeats 4000000 in
theorem CountAll_ok (A : Option Addr) (n c m : Nat) (xs : List Int) (w : World) (hr : Rd w A n xs) (hm1 : 1 ≤ m) (hm2 : m ≤ 6) (hx : sIn (m : Int) xs = true) :
    Calls Try.prog 22 #[.slice A n c, .int .i64 m] w fun e w' => e = .returned (.int .i64 (cAll m xs n)) ∧ Below w.heap.size w w' := by
  have hxl := Lib.hid hr.1
  have hbd := sIn_out hx
  rw [hr.1] at hbd
  have hx' := Lib.hid hx; clear hx
  obtain ⟨hbd1, hbd2, _⟩ := hbd
  have hp := pow_int (j := m) hm2
  have hpn := pow_le64 hm2
  have hpe := Lib.hid (show ((2 ^ m : Nat) : Int) = (2 : Int) ^ m by simp)
  go_enter Try.func22, Try.ntmps22
  go_wp2_with fail
  refine (BuildNested_ok _ _ _ m xs _ hr (by omega) hm1 hm2 hx'.out).mono ?_
  rintro e w1 ⟨g, rfl, hb1⟩
  have hL1 := lo_alloc hb1 (.cells #[.int .i64 m, .slice (some ⟨g, 0, none⟩) n n] 25)
  clear hb1
  go_wp2
  generalize w1.alloc (.cells #[.int .i64 m, .slice (some ⟨g, 0, none⟩) n n] 25) = w2 at hL1 ⊢
  go_loop [7, 22] (fun s i => ∃ k : Nat, k ≤ n ∧ i = .int .i64 k ∧ s = .int .i64 (cAll m xs k)) (fun _ i => n - (intOf i).toNat)
  case atStart => exact ⟨0, Nat.zero_le _, rfl, rfl⟩
  case round =>
    obtain ⟨k, hk, rfl, rfl⟩ := hrel
    by_cases hlt : k < n
    · obtain ⟨b, off, rfl, hb, hc⟩ := (hr.next hL1).at_ hlt
      have hcl := cAll_le hm2 xs (show k ≤ 6 by omega)
      have hcl2 := cAll_le hm2 xs (show k + 1 ≤ 6 by omega)
      have hN := Lib.hid (show cAll m xs (k + 1) = cAll m xs k * rowCnt (xs[k]?.getD 0) (2 ^ m) from rfl)
      rw [hN.out] at hcl2
      generalize xs[k]?.getD 0 = r at hc hN hcl2 ⊢
      generalize cAll m xs k = C at hN hcl hcl2 ⊢
      go_wp2
      go_loop [10, 28] (fun s i => ∃ q : Nat, q ≤ 2 ^ m ∧ i = .int .i64 q ∧ s = .int .i64 (rowCnt r q)) (fun _ i => 2 ^ m - (intOf i).toNat)
      case atStart => exact ⟨0, Nat.zero_le _, rfl, rfl⟩
      case round =>
        obtain ⟨q, hq, rfl, rfl⟩ := hrel
        have hql := rowCnt_le r q
        by_cases hlt2 : q < 2 ^ m
        · have hqi : (q : Int) < (2 : Int) ^ m := by rw [← hpe.out]; omega
          have hq64 : q < 64 := by omega
          have hS := rowCnt_succ r q
          by_cases he : (pop q : Int) = r
          · rw [if_pos he] at hS
            have hS' := Lib.hid hS
            have he' : ((pop q : Nat) : Int) = r := he
            have hb' : (((pop q : Nat) : Int) == r) = true := beq_iff_eq.2 he
            clear hS he he'
            generalize rowCnt r q = z at hql hS' ⊢
            go_wp2_with (first | (go_at_call 53; refine (ones_c q _ hq64).mono ?_; rintro e w' ⟨rfl, rfl⟩))
            go_round
            case rel => exact ⟨q + 1, by omega, by go_num, by rw [hS'.out]; go_num⟩
            case measure => simp [intOf]; omega
          · rw [if_neg he] at hS
            have hS' := Lib.hid hS
            have hb' : (((pop q : Nat) : Int) == r) = false := beq_eq_false_iff_ne.2 he
            clear hS he
            generalize rowCnt r q = z at hql hS' ⊢
            go_wp2_with (first | (go_at_call 53; refine (ones_c q _ hq64).mono ?_; rintro e w' ⟨rfl, rfl⟩))
            go_round
            case rel => exact ⟨q + 1, by omega, by go_num, by rw [hS'.out, Nat.add_zero]⟩
            case measure => simp [intOf]; omega
        · obtain rfl : q = 2 ^ m := by omega
          have hqi : ¬ (((2 ^ m : Nat) : Int) < (2 : Int) ^ m) := by rw [← hpe.out]; omega
          generalize rowCnt r (2 ^ m) = z at hN hcl2 hql ⊢
          have hmul : ((C : Nat) : Int) * ((z : Nat) : Int) = ((C * z : Nat) : Int) := by simp
          have hm1 : (0 : Int) ≤ ((C : Nat) : Int) * ((z : Nat) : Int) := by omega
          have hm2 : ((C : Nat) : Int) * ((z : Nat) : Int) ≤ 68719476736 := by omega
          have hmul' := Lib.hid hmul
          clear hmul
          go_wp2
          go_round
          case rel => exact ⟨k + 1, by omega, by go_num, by rw [hN.out, hmul'.out]⟩
          case measure => simp [intOf]; omega
    · obtain rfl : k = n := by omega
      go_wp2
      go_ret
      exact ⟨rfl, hL1⟩
end Go.Proofs.Ytpcfijlhaakhpaa
