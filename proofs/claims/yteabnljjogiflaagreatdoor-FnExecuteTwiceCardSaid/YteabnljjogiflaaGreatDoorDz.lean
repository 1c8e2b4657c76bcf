
/- Walks: a script is drawn. -/
import Derived.Test.YteabnljjogiflaaGreatDoorDy
namespace Go.Proofs.YteabnljjogiflaaGreatDoor
open Go.RowKit
set_option maxRecDepth 100000

theorem sl_one (g n k : Nat) (hk : k < n) (w : World) : (Instr.slice 27 (.slice (some ⟨g, 0, none⟩) n n) (some (.int .i64 (k : Int))) (some (.int .i64 ((k : Int) + 1))) none).run Tryz.prog w = .ok (.slice (some ⟨g, k, none⟩) 1 (n - k)) w := by
  have h1 : ¬ n = k := by omega
  rw [run_slice_lh (P := Tryz.prog) w 27 _ n n Tryz.underlying27 .i64 .i64 k (k + 1) (by omega) (by omega) (by omega)]
  have e1 : ((k : Int) + 1).toNat = k + 1 := by omega
  simp [go_sem, sliced, h1, e1]
theorem Rd.one {w : World} {g n k : Nat} {xs : List Int} (h : Rd w (some ⟨g, 0, none⟩) n xs) (hk : k < n) : Rd w (some ⟨g, k, none⟩) 1 [xs[k]?.getD 0] := by
  obtain ⟨b, off, e, hb, hc⟩ := h.2 (by omega)
  cases e
  refine ⟨rfl, fun _ => ⟨g, k, rfl, hb, fun j y hy => ?_⟩⟩
  cases j with
  | zero =>
    have hkl : k < xs.length := by rw [h.1]; exact hk
    have := hc k _ (List.getElem?_eq_getElem hkl)
    rw [List.getElem?_eq_getElem hkl, Option.getD_some] at hy
    cases hy
    rwa [Nat.zero_add] at this
  | succ j => cases hy
theorem okB_one {m r : Nat} (h1 : 1 ≤ m) (h6 : m ≤ 6) (hr : r < 2 ^ m) : okB (m : Int) [(r : Int)] = true := by
  have := okB_img (f := fun _ => r.testBit) (h := 1) (m := m) (by omega) (by omega) h1 h6
  rwa [img, show (List.range 1).map (fun k => ((mkRow ((fun _ => r.testBit) k) m : Nat) : Int)) = [(r : Int)] by simp [mkRow_testBit hr]] at this

set_option maxHeartbeats 8000000 in
theorem DrawExecute_c (A : Option Addr) (n c : Nat) (w : World) (hr : RdB w A n) (hn : n ≤ 1048576) (hc : n ≤ c) :
    Calls Tryz.prog 12 #[.slice A n c] w (StrP w 1000000) := by
  go_enter Tryz.func12, Tryz.ntmps12
  go_wp2_with fail
  refine (l6Open_c A n c _ (hr.next (by (repeat (first | exact Below.refl _ _ | assumption | refine lo_alloc ?_ _ | refine lo_set ?_ (by simp; try omega) _ | refine Below.drew ?_ | refine below_drewN ?_ _ | refine lo_trans ?_ (by assumption) | refine lo_wr ?_ (by assumption) (by omega))))) hn hc).mono ?_
  rintro e w1 ⟨b, rfl, hr1, hb1⟩
  have hbw := hr1.1
  go_wp2_with fail
  refine (l91Image_c w.heap.size b 0 16 _ hr1 (by omega) (by omega) (by omega)).mono ?_
  rintro e w2 ⟨h, m, g, q, f, rfl, hh1, hh6, hm1, hm6, hg, hk2, hg2, hr2, hq⟩
  have hbz := hr1.lt
  have hz2 := hg2.size
  have hL2 : Below w.heap.size w w2 := hb1.grown hg2 hb1.size (fun g e => by cases e; exact hbw)
  have hA2 := Blk.new w2 29 #[.int .i64 (m : Int), .slice (some ⟨g, 0, none⟩) h h]
  have hK2 := hk2.alloc (.cells #[.int .i64 (m : Int), .slice (some ⟨g, 0, none⟩) h h] 29)
  have hR2 := rdr_alloc hr2 (.cells #[.int .i64 (m : Int), .slice (some ⟨g, 0, none⟩) h h] 29)
  have hL3 := lo_alloc hL2 (.cells #[.int .i64 (m : Int), .slice (some ⟨g, 0, none⟩) h h] 29)
  obtain ⟨o, ho⟩ : ∃ o, o = w2.heap.size := ⟨_, rfl⟩
  have hgo : g < o := by have := hk2.lt; omega
  have hbo : b < o := by omega
  go_wp2
  rw [← ho] at hA2 ⊢
  clear hk2 hr2 hL2 hg2 hb1 hr1 hz2 ho
  go_loopw [5, 6] (fun v i wr => ∃ (k : Nat) (t : Bs), k ≤ h ∧ i = .int .i64 k ∧ v = .string (S t) ∧ t.length ≤ 200 * k ∧ Blk wr o 29 #[.int .i64 (m : Int), .slice (some ⟨g, 0, none⟩) h h] ∧ Blk wr g 3 (ints (img f h m)) ∧ Rdr wr w.heap.size b q ∧ Below w.heap.size w wr) (fun _ i _ => h - (intOf i).toNat)
  case atStart => exact ⟨0, [], Nat.zero_le _, rfl, rfl, by simp, hA2, hK2, hR2, hL3⟩
  case round =>
    clear hA2 hK2 hR2 hL3
    obtain ⟨k, t, hk, rfl, rfl, ht, hA, hK, hR, hL⟩ := hrel
    have a0 := hA.cell 0
    have a1 := hA.cell 1
    by_cases hlt : k < h
    · have hsl := fun w => sl_one g h k hlt w
      have hrd := (Rd.of_blk hK)
      rw [img_len] at hrd
      have hone := hrd.one hlt
      rw [img_get hlt] at hone
      have hok := okB_one hm1 hm6 (mkRow_lt (f k) m)
      have htx := fun w' hr' => spec_ImageText_c m (some ⟨g, k, none⟩) 1 (h - k) [((mkRow (f k) m : Nat) : Int)] w' hr' hok
      have htl := textL_len hok
      generalize textL m [((mkRow (f k) m : Nat) : Int)] = tx at htx htl
      have hAd := hA.drew
      have hd := hone.drew
      have ew : IntKind.i64.wrap ((k : Int) + 1) = (k : Int) + 1 := IntWalk.i64_in _ (by omega)
      have hLr := Below.refl wr.drew.heap.size wr.drew
      clear hone hrd hok
      go_wp2
      go_region_held3 (fun w' => w'.cell? ⟨o, 0, none⟩ = some (.int .i64 (m : Int)) ∧ w'.cell? ⟨o, 1, none⟩ = some (.slice (some ⟨g, 0, none⟩) h h))
        (first
          | exact ⟨(hAd.next hLr).cell 0, (hAd.next hLr).cell 1⟩
          | fail)
        (first
          | (go_at_call 28
             refine (htx _ (hd.next hLr)).mono ?_
             rintro e w5 ⟨rfl, hb5⟩
             have hLr := hb5))
      have hA5 := hAd.next hb5
      have hK5 := hK.drew.next hb5
      have hR5 : Rdr w5 w.heap.size b q := (Rdr.next (w := wr.drew) (hR.next (Below.drew (Below.refl _ _))) hb5)
      have hL5 := lo_trans (Below.drew hL) hb5
      have c1 : ∀ w, (Op.stringOp .add (S t) ({ data := #[114, 111, 119, 32] } : ByteArray)).run Tryz.prog w = .ok (.string (S (t ++ [114, 111, 119, 32]))) w := fun w => cat_ok t [114, 111, 119, 32] (by simp; omega) w
      obtain ⟨v1, hv1⟩ : ∃ v, Hid (t ++ [114, 111, 119, 32] = v) := ⟨_, Lib.hid rfl⟩
      have hl1 : v1.length ≤ 200 * k + 4 := by rw [← hv1.out]; simp; omega
      rw [hv1.out] at c1
      have c2 : ∀ w, (Op.stringOp .add (S v1) (S tx)).run Tryz.prog w = .ok (.string (S (v1 ++ tx))) w := fun w => cat_ok v1 tx (by omega) w
      obtain ⟨v2, hv2⟩ : ∃ v, Hid (v1 ++ tx = v) := ⟨_, Lib.hid rfl⟩
      have hl2 : v2.length ≤ 200 * (k + 1) := by rw [← hv2.out, List.length_append]; omega
      rw [hv2.out] at c2
      clear ew hA hK hR hL hAd hd hb5 a0 a1 htx hsl
      go_wp2
      go_roundw
      case rel => exact ⟨k + 1, v2, by omega, by go_num, rfl, hl2, hA5, hK5, hR5, hL5⟩
      case measure => simp [intOf]; omega
    · obtain rfl : k = h := by omega
      have ht0 : t.length ≤ 1200 := by omega
      have hbr := hR.lt
      go_wp2_with fail
      refine (pick_c w.heap.size b q _ _ hR (by omega)).mono ?_
      rintro e w3 ⟨N, rfl, hN, hg3, hr3⟩
      have hN6 := hN (by omega)
      have hA3 := hA.grown hg3 (by intro e; injection e; omega)
      have hL3 : Below w.heap.size w w3 := hL.grown hg3 hL.size (fun g e => by cases e; exact hbw)
      clear hN hA hK hR hL hg3 a0 a1
      go_wp2
      go_loopw [5, 9] (fun v i wr => ∃ (j q2 : Nat) (u : Bs), j ≤ N ∧ i = .int .i64 j ∧ v = .string (S u) ∧ u.length ≤ 1200 + 1001 * j ∧ Blk wr o 29 #[.int .i64 (m : Int), .slice (some ⟨g, 0, none⟩) k k] ∧ Rdr wr w.heap.size b q2 ∧ q2 ≤ 100 + 200 * j ∧ Below w.heap.size w wr) (fun _ i _ => N - (intOf i).toNat)
      case atStart => exact ⟨0, q + 1, t, Nat.zero_le _, rfl, rfl, by omega, hA3, hr3, by omega, hL3⟩
      case round =>
        clear hA3 hr3 hL3
        obtain ⟨j, q2, u, hj, rfl, rfl, hu, hA, hR, hq2, hL⟩ := hrel
        have a0 := hA.cell 0
        have a1 := hA.cell 1
        by_cases hlt2 : j < N
        · go_wp2_with fail
          refine (l93Line_c w.heap.size b q2 m _ hR (by omega) hm6).mono ?_
          rintro e w5 ⟨ln, q3, hln, rfl, hg5, hr5, hq3⟩
          have hA5 := hA.grown hg5 (by intro e; injection e; omega)
          have hL5 : Below w.heap.size w w5 := hL.grown hg5 hL.size (fun g e => by cases e; exact hbw)
          have c1 : ∀ w, (Op.stringOp .add (S u) (S ln)).run Tryz.prog w = .ok (.string (S (u ++ ln))) w := fun w => cat_ok u ln (by omega) w
          obtain ⟨v1, hv1⟩ : ∃ v, Hid (u ++ ln = v) := ⟨_, Lib.hid rfl⟩
          have hl1 : v1.length ≤ 1200 + 1001 * j + 1000 := by rw [← hv1.out, List.length_append]; omega
          rw [hv1.out] at c1
          have c2 : ∀ w, (Op.stringOp .add (S v1) ({ data := #[10] } : ByteArray)).run Tryz.prog w = .ok (.string (S (v1 ++ [10]))) w := fun w => cat_ok v1 [10] (by simp; omega) w
          obtain ⟨v2, hv2⟩ : ∃ v, Hid (v1 ++ [10] = v) := ⟨_, Lib.hid rfl⟩
          have hl2 : v2.length ≤ 1200 + 1001 * (j + 1) := by rw [← hv2.out, List.length_append]; simp; omega
          rw [hv2.out] at c2
          clear hA hR hL hg5 a0 a1
          go_wp2
          go_roundw
          case rel => exact ⟨j + 1, q3, v2, by omega, by go_num, rfl, hl2, hA5, hr5, by omega, hL5⟩
          case measure => simp [intOf]; omega
        · have hul : u.length ≤ 10000 := by omega
          go_wp2_with fail
          refine (pick_c w.heap.size b q2 _ _ hR (by omega)).mono ?_
          rintro e w6 ⟨x, rfl, _, hg6, hr6⟩
          have hL6 : Below w.heap.size w w6 := hL.grown hg6 hL.size (fun g e => by cases e; exact hbw)
          clear hA hR hL hg6 a0 a1 hr6
          by_cases s0 : x = 0
          · have s0' : ((x : Int) == 0) = true := by simp; omega
            have c1 : ∀ w, (Op.stringOp .add (S u) ({ data := #[115, 104, 111, 119] } : ByteArray)).run Tryz.prog w = .ok (.string (S (u ++ [115, 104, 111, 119]))) w := fun w => cat_ok u [115, 104, 111, 119] (by simp; omega) w
            obtain ⟨v1, hv1⟩ : ∃ v, Hid (u ++ [115, 104, 111, 119] = v) := ⟨_, Lib.hid rfl⟩
            have hl1 : v1.length ≤ 10004 := by rw [← hv1.out, List.length_append]; simp; omega
            rw [hv1.out] at c1
            clear s0
            go_wp2
            go_ret
            exact ⟨v1, by omega, rfl, hL6⟩
          have s0' : ((x : Int) == 0) = false := by simp; omega
          by_cases s1 : x = 1
          · have s1' : ((x : Int) == 1) = true := by simp; omega
            clear s0 s1
            have hmany := fun w => l6Many_c [115, 104, 111, 119, 10] w (by decide)
            go_wp2_with fail
            refine (hmany _).mono ?_
            rintro e w7 ⟨z, hzl, rfl, hb7⟩
            have c1 : ∀ w, (Op.stringOp .add (S u) (S z)).run Tryz.prog w = .ok (.string (S (u ++ z))) w := fun w => cat_ok u z (by omega) w
            obtain ⟨v1, hv1⟩ : ∃ v, Hid (u ++ z = v) := ⟨_, Lib.hid rfl⟩
            have hl1 : v1.length ≤ 11000 := by rw [← hv1.out, List.length_append]; omega
            rw [hv1.out] at c1
            clear hmany
            go_wp2
            go_ret
            exact ⟨v1, by omega, rfl, lo_trans hL6 hb7⟩
          have s1' : ((x : Int) == 1) = false := by simp; omega
          by_cases s2 : x = 2
          · have s2' : ((x : Int) == 2) = true := by simp; omega
            clear s0 s1 s2
            go_wp2
            go_ret
            exact ⟨[], by simp, rfl, hL6⟩
          · have s2' : ((x : Int) == 2) = false := by simp; omega
            clear s0 s1 s2
            go_wp2
            go_ret
            exact ⟨u, by omega, rfl, hL6⟩
end Go.Proofs.YteabnljjogiflaaGreatDoor
