
/- Walks: the reference's filling (l41Arrow, l13Turn). -/
import Derived.Test.YtkcdoacojiilaaaGreatFd
import Derived.Test.YtkcdoacojiilaaaGreatRe
import Derived.Test.YtkcdoacojiilaaaGreatKg
namespace Go.Proofs.YtkcdoacojiilaaaGreat
open Go.RowKit
set_option maxRecDepth 100000

theorem ret_b01z (b : Bool) : (b01 b == 0) = !b := by cases b <;> rfl
theorem ret_b01o (b : Bool) : (b01 b == 1) = b := by cases b <;> rfl
theorem b01z_dec (b : Bool) : decide (b01 b = 0) = !b := by cases b <;> rfl
theorem b01o_dec (b : Bool) : decide (b01 b = 1) = b := by cases b <;> rfl

set_option maxHeartbeats 2000000 in
theorem l41Arrow_c (m n c p t : Nat) (A : Option Addr) (xs : List Int) (w : World) (hr : Rd w A n xs) (hk : okB (m : Int) xs = true) (hp : p < n + m) (ht : t < n + m) :
    Calls Tryz.prog 45 #[.agg #[.int .i64 (m : Int), .slice A n c], .int .i64 p, .int .i64 t] w fun e w' => e = .returned (.bool (arrF n xs p t)) ∧ Below w.heap.size w w' := by
  have hk' := Lib.hid hk
  have hbd := okB_bd hk
  rw [hr.1] at hbd
  clear hk
  have hP := Blk.new w 27 #[.int .i64 (m : Int), .slice A n c]
  have hB0 := lo_alloc (Below.refl w.heap.size w) (.cells #[.int .i64 (m : Int), .slice A n c] 27)
  have hR0 := hr.alloc (.cells #[.int .i64 (m : Int), .slice A n c] 27)
  have c0 := hP.cell 0
  have c1 := hP.cell 1
  rcases Nat.lt_or_ge p n with h2 | h2
  · rcases Nat.lt_or_ge t n with h1 | h1
    · have e0 : Hid (arrF n xs p t = false) := Lib.hid (by rw [arrF, if_neg (by omega), if_neg (by omega)])
      go_enter Tryz.func45, Tryz.ntmps45
      go_wp2
      go_ret
      exact ⟨ret_bool e0.out.symm, by (repeat (first | exact Below.refl _ _ | assumption | refine lo_alloc ?_ _ | refine lo_set ?_ (by simp; try omega) _ | refine Below.drew ?_ | refine below_drewN ?_ _ | refine lo_trans ?_ (by assumption) | refine lo_wr ?_ (by assumption) (by omega)))⟩
    · obtain ⟨q, hpq⟩ : ∃ q, Hid (t = n + q) := ⟨t - n, Lib.hid (by omega)⟩
      have hq : q < m := by have := hpq.out; omega
      have e0 : Hid (arrF n xs p t = !cellF xs p q) := Lib.hid (by rw [hpq.out, arrF, if_pos (by omega), Nat.add_sub_cancel_left])
      have hw : IntKind.i64.wrap ((t : Int) - n) = (q : Int) := by rw [IntKind.wrap_i64]; have := hpq.out; omega
      go_enter Tryz.func45, Tryz.ntmps45
      go_wp2_with fail
      refine (l11Get_c m p q n c xs A _ hR0 hk'.out h2 hq).mono ?_
      rintro e w2 ⟨rfl, hb2⟩
      go_wp2
      go_ret
      exact ⟨ret_bool (by rw [e0.out]; exact ret_b01z _), by (repeat (first | exact Below.refl _ _ | assumption | refine lo_alloc ?_ _ | refine lo_set ?_ (by simp; try omega) _ | refine Below.drew ?_ | refine below_drewN ?_ _ | refine lo_trans ?_ (by assumption) | refine lo_wr ?_ (by assumption) (by omega)))⟩
  · obtain ⟨q, hpq⟩ : ∃ q, Hid (p = n + q) := ⟨p - n, Lib.hid (by omega)⟩
    have hq : q < m := by have := hpq.out; omega
    have hw : IntKind.i64.wrap ((p : Int) - n) = (q : Int) := by rw [IntKind.wrap_i64]; have := hpq.out; omega
    rcases Nat.lt_or_ge t n with h1 | h1
    · have e0 : Hid (arrF n xs p t = cellF xs t q) := Lib.hid (by rw [hpq.out, arrF, if_neg (by omega), if_pos (by omega), Nat.add_sub_cancel_left])
      go_enter Tryz.func45, Tryz.ntmps45
      go_wp2_with fail
      refine (l11Get_c m t q n c xs A _ hR0 hk'.out h1 hq).mono ?_
      rintro e w2 ⟨rfl, hb2⟩
      go_wp2
      go_ret
      exact ⟨ret_bool (by rw [e0.out]; exact ret_b01o _), by (repeat (first | exact Below.refl _ _ | assumption | refine lo_alloc ?_ _ | refine lo_set ?_ (by simp; try omega) _ | refine Below.drew ?_ | refine below_drewN ?_ _ | refine lo_trans ?_ (by assumption) | refine lo_wr ?_ (by assumption) (by omega)))⟩
    · have e0 : Hid (arrF n xs p t = false) := Lib.hid (by rw [arrF, if_neg (by omega), if_neg (by omega)])
      go_enter Tryz.func45, Tryz.ntmps45
      go_wp2
      go_ret
      exact ⟨ret_bool e0.out.symm, by (repeat (first | exact Below.refl _ _ | assumption | refine lo_alloc ?_ _ | refine lo_set ?_ (by simp; try omega) _ | refine Below.drew ?_ | refine below_drewN ?_ _ | refine lo_trans ?_ (by assumption) | refine lo_wr ?_ (by assumption) (by omega)))⟩

def putFlip (r j : Nat) : Bool := put r j (!r.testBit j) == r ^^^ 2 ^ j
theorem putFlip_all : ∀ r, r < 64 → ∀ j, j < 6 → putFlip r j = true := by decide +kernel
theorem put_flip {r j : Nat} (hr : r < 64) (hj : j < 6) : put r j (!r.testBit j) = r ^^^ 2 ^ j := beq_iff_eq.1 (putFlip_all r hr j hj)

set_option maxHeartbeats 4000000 in
theorem turn_in (m n c g p u i q : Nat) (X : List Int) (w : World) (hb : Blk w g 3 (ints X)) (hX : okB (m : Int) X = true) (hXl : X.length = n) (hi : i < n) (hq : q < m) (hpu : (p = i ∧ u = n + q) ∨ (u = i ∧ p = n + q)) :
    Calls Tryz.prog 20 #[.agg #[.int .i64 (m : Int), .slice (some ⟨g, 0, none⟩) n c], .int .i64 p, .int .i64 u] w fun e w' => e = .returned (.tuple #[]) ∧ Blk w' g 3 (ints (flipX X i q)) ∧ w.grownBy w' (some g) := by
  have hbd := okB_bd hX
  rw [hXl] at hbd
  obtain ⟨r, h1, h2⟩ := okB_at hX (k := i) (by omega)
  have hfx : Hid (X.set i ((put r q (!cellF X i q) : Nat) : Int) = flipX X i q) := Lib.hid (by
    rw [flipX, cellF, h1, Int.toNat_natCast, put_flip h2 (by omega)])
  have h1' := Lib.hid h1
  have hX' := Lib.hid hX
  have hXl' := Lib.hid hXl
  have hgz := hb.lt
  have hP := Blk.new w 27 #[.int .i64 (m : Int), .slice (some ⟨g, 0, none⟩) n c]
  have hb0 := hb.alloc (.cells #[.int .i64 (m : Int), .slice (some ⟨g, 0, none⟩) n c] 27)
  have hR0 : Rd (w.alloc (.cells #[.int .i64 (m : Int), .slice (some ⟨g, 0, none⟩) n c] 27)) (some ⟨g, 0, none⟩) n X := by have := Rd.of_blk hb0; rwa [hXl] at this
  have c0 := hP.cell 0
  have c1 := hP.cell 1
  have hmn : Hid (min (p : Int) (u : Int) = (i : Int)) := Lib.hid (by omega)
  have hmx : Hid (IntKind.i64.wrap (max (p : Int) (u : Int) - (n : Int)) = (q : Int)) := Lib.hid (by rw [IntKind.wrap_i64]; omega)
  have hqP := Lib.hid (show ∀ W W2 : World, Below (w.alloc (.cells #[.int .i64 (m : Int), .slice (some ⟨g, 0, none⟩) n c] 27)).heap.size (w.alloc (.cells #[.int .i64 (m : Int), .slice (some ⟨g, 0, none⟩) n c] 27)) W → W.grownBy W2 (some g) → Blk W2 w.heap.size 27 #[.int .i64 (m : Int), .slice (some ⟨g, 0, none⟩) n c] ∧ w.grownBy W2 (some g) from
    fun W W2 hW h2 => ⟨(hP.next hW).grown h2 (by intro e; injection e; omega), grown_trans (grown_alloc _ _) (grown_trans (grown_of_below hW (some g)) h2)⟩)
  clear hX h1 hXl
  have hlt : (p = i ∧ u = n + q ∧ (p : Int) < (u : Int)) ∨ (u = i ∧ p = n + q ∧ (u : Int) < (p : Int)) := by omega
  clear hpu
  rcases hlt with ⟨rfl, rfl, h1⟩ | ⟨rfl, rfl, h1⟩
  · have h2 : ¬ (((n : Int) + (q : Int)) < (p : Int)) := by omega
    have h3 : (p : Int) ≤ ((n : Int) + (q : Int)) := by omega
    have h4 : ¬ (((n : Int) + (q : Int)) ≤ (p : Int)) := by omega
    have h5 : (p : Int) < ((n : Int) + (q : Int)) := by omega
    have e7 : min ((p : Int)) ((n : Int) + (q : Int)) = (p : Int) := by omega
    have e8 : max ((p : Int)) ((n : Int) + (q : Int)) - (n : Int) = (q : Int) := by omega
    clear hmn hmx h1
    go_enter Tryz.func20, Tryz.ntmps20
    go_wp2_with fail
    go_region_held3 (fun w' => w'.cell? ⟨w.heap.size, 0, none⟩ = some (.int .i64 (m : Int)) ∧ w'.cell? ⟨w.heap.size, 1, none⟩ = some (.slice (some ⟨g, 0, none⟩) n c))
      (first
        | with_reducible exact ⟨k0, k1⟩
        | go_keep)
      (first
        | (go_at_call 48
           refine (l11Get_c m p q n c X _ _ (by first | with_reducible exact hR0 | with_reducible exact hR0.drew) hX'.out hi hq).mono ?_
           rintro e w6 ⟨rfl, hb6⟩
           have k0 := (hqP.out _ _ (lo_trans (Below.drew (Below.refl _ _)) hb6) (World.grownBy.refl _ _)).1.cell 0
           have k1 := (hqP.out _ _ (lo_trans (Below.drew (Below.refl _ _)) hb6) (World.grownBy.refl _ _)).1.cell 1)
        | (go_at_call 47
           rw [ret_b01z]
           refine (l1Put_c g n c p q r _ X m _ (hb0.next (lo_trans (Below.drew (Below.refl _ _)) hb6)) hi (by rw [hXl'.out]; exact hi) (by omega) (by omega) h1'.out).mono ?_
           rw [hfx.out]
           rintro e w7 ⟨rfl, hb7, hg7⟩
           have hG7 := (hqP.out _ _ (lo_trans (Below.drew (Below.refl _ _)) hb6) hg7).2
           have k0 := (hqP.out _ _ (lo_trans (Below.drew (Below.refl _ _)) hb6) hg7).1.cell 0
           have k1 := (hqP.out _ _ (lo_trans (Below.drew (Below.refl _ _)) hb6) hg7).1.cell 1))
    all_goals
      go_wp2
      go_end0
      exact ⟨rfl, hb7, hG7⟩
  · have h2 : ¬ (((n : Int) + (q : Int)) < (u : Int)) := by omega
    have h3 : (u : Int) ≤ ((n : Int) + (q : Int)) := by omega
    have h4 : ¬ (((n : Int) + (q : Int)) ≤ (u : Int)) := by omega
    have h5 : (u : Int) < ((n : Int) + (q : Int)) := by omega
    have e7 : min ((n : Int) + (q : Int)) ((u : Int)) = (u : Int) := by omega
    have e8 : max ((n : Int) + (q : Int)) ((u : Int)) - (n : Int) = (q : Int) := by omega
    clear hmn hmx h1
    go_enter Tryz.func20, Tryz.ntmps20
    go_wp2_with fail
    go_region_held3 (fun w' => w'.cell? ⟨w.heap.size, 0, none⟩ = some (.int .i64 (m : Int)) ∧ w'.cell? ⟨w.heap.size, 1, none⟩ = some (.slice (some ⟨g, 0, none⟩) n c))
      (first
        | with_reducible exact ⟨k0, k1⟩
        | go_keep)
      (first
        | (go_at_call 48
           refine (l11Get_c m u q n c X _ _ (by first | with_reducible exact hR0 | with_reducible exact hR0.drew) hX'.out hi hq).mono ?_
           rintro e w6 ⟨rfl, hb6⟩
           have k0 := (hqP.out _ _ (lo_trans (Below.drew (Below.refl _ _)) hb6) (World.grownBy.refl _ _)).1.cell 0
           have k1 := (hqP.out _ _ (lo_trans (Below.drew (Below.refl _ _)) hb6) (World.grownBy.refl _ _)).1.cell 1)
        | (go_at_call 47
           rw [ret_b01z]
           refine (l1Put_c g n c u q r _ X m _ (hb0.next (lo_trans (Below.drew (Below.refl _ _)) hb6)) hi (by rw [hXl'.out]; exact hi) (by omega) (by omega) h1'.out).mono ?_
           rw [hfx.out]
           rintro e w7 ⟨rfl, hb7, hg7⟩
           have hG7 := (hqP.out _ _ (lo_trans (Below.drew (Below.refl _ _)) hb6) hg7).2
           have k0 := (hqP.out _ _ (lo_trans (Below.drew (Below.refl _ _)) hb6) hg7).1.cell 0
           have k1 := (hqP.out _ _ (lo_trans (Below.drew (Below.refl _ _)) hb6) hg7).1.cell 1))
    all_goals
      go_wp2
      go_end0
      exact ⟨rfl, hb7, hG7⟩
end Go.Proofs.YtkcdoacojiilaaaGreat
