
/- Walks: the number of an image. -/
import Derived.Test.YtjogfeichnkffaaMathT
import Derived.Test.YtjogfeichnkffaaWg
import Derived.Deep.QuietTactic
import Derived.BigQuiet
namespace Go.Proofs.Ytjogfeichnkffaa
open Go.RowKit
set_option maxRecDepth 100000

theorem keyN_drop {m : Nat} {xs : List Int} {k : Nat} (hk : k < xs.length) : keyN m (xs.drop k) = keyN m (xs.drop (k + 1)) * 2 ^ m + (xs[k]?.getD 0).toNat := by
  rw [List.drop_eq_getElem_cons hk, List.getElem?_eq_getElem hk]
  rfl
theorem keyN_nil (m : Nat) : keyN m [] = 0 := rfl

set_option maxHeartbeats 4000000 in
theorem l43Key_c (m n c : Nat) (A : Option Addr) (xs : List Int) (w : World) (hr : Rd w A n xs) (hk : okB (m : Int) xs = true) (hc : n * m ≤ 16) :
    Calls Try.prog 30 #[.agg #[.int .i64 (m : Int), .slice A n c]] w fun e w' => e = .returned (.int .i64 (keyN m xs : Nat)) ∧ Below w.heap.size w w' := by
  have hbd := okB_bd hk
  rw [hr.1] at hbd
  have hk' := Lib.hid hk; clear hk
  have hK0 := Blk.new w 27 #[.int .i64 (m : Int), .slice A n c]
  have hB0 := lo_alloc (Below.refl w.heap.size w) (.cells #[.int .i64 (m : Int), .slice A n c] 27)
  go_enter Try.func30, Try.ntmps30
  go_wp2
  go_loopw [3, 4] (fun q i wr => ∃ k : Nat, k ≤ n ∧ i = .int .i64 ((k : Int) - 1) ∧ q = .int .i64 ((keyN m (xs.drop k) : Nat) : Int) ∧ Below w.heap.size w wr ∧ Blk wr w.heap.size 27 #[.int .i64 (m : Int), .slice A n c]) (fun _ i _ => (intOf i + 1).toNat)
  case atStart => exact ⟨n, Nat.le_refl _, rfl, by rw [List.drop_eq_nil_of_le (by rw [hr.1]; exact Nat.le_refl _)]; rfl, hB0, hK0⟩
  case round =>
    clear hK0 hB0
    obtain ⟨k, hkn, rfl, rfl, hB, hK⟩ := hrel
    by_cases hlt : 1 ≤ k
    · obtain ⟨j, rfl⟩ : ∃ j, k = j + 1 := ⟨k - 1, by omega⟩
      have hj : j < xs.length := by rw [hr.1]; omega
      have hstep := Lib.hid (keyN_drop (m := m) hj)
      obtain ⟨r, hr1, hr2⟩ := okB_row hk'.out rfl (k := j) hj
      obtain ⟨b, off, rfl, hb, hc1⟩ := (hr.next hB).at_ (k := j) (by omega)
      rw [hr1] at hc1
      have hr1' := Lib.hid hr1
      have hkb : keyN m (xs.drop (j + 1)) < 2 ^ ((xs.drop (j + 1)).length * m) := keyN_lt (fun x hx => (okB_cells hk'.out x (List.mem_of_mem_drop hx)).2)
      have hkb2 : 2 ^ ((xs.drop (j + 1)).length * m) ≤ 2 ^ 16 := Nat.pow_le_pow_right (by omega) (by
        have h1 : (xs.drop (j + 1)).length ≤ n := by rw [List.length_drop, hr.1]; omega
        exact Nat.le_trans (Nat.mul_le_mul_right m h1) hc)
      have hpm : (2 : Nat) ^ m ≤ 2 ^ 6 := Nat.pow_le_pow_right (by omega) (by omega)
      have hpm2 := pow_bd (k := m) (by omega)
      have hpm3 : ((2 ^ m : Nat) : Int) = (2 : Int) ^ m := by simp
      generalize hv : keyN m (xs.drop (j + 1)) = v at hkb hstep
      have hv' := Lib.hid hv
      have hvm : v * 2 ^ m ≤ 65536 * 64 := Nat.mul_le_mul (by omega) (by omega)
      have hvm2 : (v : Int) * 2 ^ m = ((v * 2 ^ m : Nat) : Int) := by simp
      have w1 : IntKind.i64.wrap ((v : Int) * 2 ^ m) = (v : Int) * 2 ^ m := IntWalk.i64_in _ (by omega)
      have w2 : IntKind.i64.wrap ((v : Int) * 2 ^ m + r) = (v : Int) * 2 ^ m + r := IntWalk.i64_in _ (by omega)
      have a0 := hK.cell 0
      have a1 := hK.cell 1
      have hj0 : (0 : Int) ≤ (j : Int) := by omega
      have hj1 : (j : Int) < (n : Int) := by omega
      clear hr1 hv hpm3 hvm2 hkb
      have hm0 : (0 : Int) ≤ (m : Int) := by omega
      have hm1 : (m : Int) ≤ 60 := by omega
      go_wp2
      go_quiet ((go_at_call 45; exact Calls.quiet_of_same (still_of (l1Power_c (m : Int) _ hm0 hm1))))
      clear w1 w2 hj0 hj1
      go_wp2
      go_roundw
      case rel =>
        refine ⟨j, by omega, by go_num, ?_, below_drewN hB _, hK.drewN _⟩
        rw [hstep.out, hr1'.out]
        simp
      case measure => simp [intOf]
    · have hk0 : Hid (keyN m (xs.drop k) = keyN m xs) := Lib.hid (by rw [show k = 0 by omega]; rfl)
      go_wp2
      go_ret
      exact ⟨by rw [hk0.out]; rfl, hB⟩
end Go.Proofs.Ytjogfeichnkffaa
