/- Plain facts and walks that the law's proof uses; each says its own conditions. -/
import Derived.Test.YteabnljjogiflaaGreatDoorZ18
import Derived.Laws.IdiomStrings
import Derived.Deep.RegionHeld3
-- Walks: numbers of one or two digits as texts; lists of numbers, each with a space ahead.
namespace Go.Proofs.YteabnljjogiflaaGreatDoor
open Go.RowKit
set_option maxRecDepth 100000

theorem conv_cell (b g : Nat) (hb : b < 256) (w : World) (h : w.cell? ⟨g, 0, none⟩ = some (.int .u8 (b : Int))) : (convert 24 9 (.slice (some ⟨g, 0, none⟩) 1 1)).run Tryz.prog w = .ok (.string (S [UInt8.ofNat b])) w := by
  have := run_convert_bytes_back (P := Tryz.prog) w 24 9 5 ⟨g, 0, none⟩ 1 [UInt8.ofNat b] Tryz.underlying24 Tryz.underlying5 Tryz.underlying9 (fun j hj => by
    obtain rfl : j = 0 := by simpa using hj
    rw [Go.WideShapes.add_plain, h]
    simp [Nat.mod_eq_of_lt hb])
  exact this
theorem conv_ok (b g : Nat) (hb : b < 256) (w : World) (h : Blk w g 5 #[.int .u8 (b : Int)]) : (convert 24 9 (.slice (some ⟨g, 0, none⟩) 1 1)).run Tryz.prog w = .ok (.string (S [UInt8.ofNat b])) w := by
  have := run_convert_bytes_back (P := Tryz.prog) w 24 9 5 ⟨g, 0, none⟩ 1 [UInt8.ofNat b] Tryz.underlying24 Tryz.underlying5 Tryz.underlying9 (fun j hj => by
    obtain rfl : j = 0 := by simpa using hj
    rw [Go.WideShapes.add_plain, h.cell 0]
    simp [Nat.mod_eq_of_lt hb])
  exact this
theorem dec2_one {n : Nat} (h : n < 10) : dec2 n = [UInt8.ofNat (48 + n)] := by rw [dec2, if_pos h]
theorem dec2_two {n : Nat} (h : ¬ n < 10) : dec2 n = [UInt8.ofNat (48 + n / 10), UInt8.ofNat (48 + n % 10)] := by rw [dec2, if_neg h]
theorem dec2_len (n : Nat) : (dec2 n).length ≤ 2 := by unfold dec2; split <;> simp

set_option maxHeartbeats 2000000 in
theorem l6Dec_one (n : Nat) (h : n < 10) (w : World) : Calls Tryz.prog 18 #[.int .i64 (n : Int)] w fun e w' => e = .returned (.string (S (dec2 n))) ∧ Below w.heap.size w w' := by
  have hk : Blk (w.alloc (.cells #[.int .u8 (((48 + n : Nat) : Nat) : Int)] 5)) w.heap.size 5 #[.int .u8 (((48 + n : Nat) : Nat) : Int)] := Blk.new _ _ _
  have hc := conv_ok (48 + n) w.heap.size (by omega) _ hk
  rw [← dec2_one h] at hc
  have g1 : decide ((n : Int) < -9223372036854775807) = false := by simp; try omega
  have g2 : decide ((n : Int) < 0) = false := by simp; try omega
  have g3 : decide ((n : Int) < 10) = true := by simp; omega
  have e1 : ((48 + n : Nat) : Int) = 48 + (n : Int) := by omega
  rw [e1] at hc
  go_enter Tryz.func18, Tryz.ntmps18
  go_wp2
  go_ret
  exact ⟨rfl, by (repeat (first | exact Below.refl _ _ | assumption | refine lo_alloc ?_ _ | refine lo_set ?_ (by simp; try omega) _ | refine Below.drew ?_ | refine below_drewN ?_ _ | refine lo_trans ?_ (by assumption) | refine lo_wr ?_ (by assumption) (by omega)))⟩
set_option maxHeartbeats 4000000 in
theorem l6Dec_c (n : Nat) (h : n < 100) (w : World) : Calls Tryz.prog 18 #[.int .i64 (n : Int)] w fun e w' => e = .returned (.string (S (dec2 n))) ∧ Below w.heap.size w w' := by
  by_cases h1 : n < 10
  · exact l6Dec_one n h1 w
  have g1 : decide ((n : Int) < -9223372036854775807) = false := by simp; try omega
  have g2 : decide ((n : Int) < 0) = false := by simp; try omega
  have g3 : decide ((n : Int) < 10) = false := by simp; try omega
  have e1 : ((48 + n % 10 : Nat) : Int) = 48 + (n : Int) % 10 := by omega
  have hd : Hid (dec2 n = dec2 (n / 10) ++ [UInt8.ofNat (48 + n % 10)]) := Lib.hid (by rw [dec2_two h1, dec2_one (n := n / 10) (by omega)]; rfl)
  have hl2 := dec2_len (n / 10)
  have hcat := fun w => cat_ok (dec2 (n / 10)) [UInt8.ofNat (48 + n % 10)] (by simp; omega) w
  go_enter Tryz.func18, Tryz.ntmps18
  have hcv : ∀ (g : Nat) (w' : World), w'.cell? ⟨g, 0, none⟩ = some (.int .u8 (48 + (n : Int) % 10)) → (convert 24 9 (.slice (some ⟨g, 0, none⟩) 1 1)).run Tryz.prog w' = .ok (.string (S [UInt8.ofNat (48 + n % 10)])) w' := fun g w' h => by
    rw [← e1] at h
    exact conv_cell _ g (by omega) w' h
  have eq1 : ((n / 10 : Nat) : Int) = (n : Int) / 10 := by omega
  have w1 : IntKind.i64.wrap ((n : Int) / 10) = (n : Int) / 10 := IntWalk.i64_in _ (by omega)
  have w0 : (n : Int).tmod 10 = (n : Int) % 10 := Int.tmod_eq_emod_of_nonneg (by omega)
  have w2 : IntKind.i64.wrap ((n : Int) % 10) = (n : Int) % 10 := IntWalk.i64_in _ (by omega)
  have w3 : IntKind.i64.wrap (48 + (n : Int) % 10) = 48 + (n : Int) % 10 := IntWalk.i64_in _ (by omega)
  have w4 : IntKind.u8.wrap (48 + (n : Int) % 10) = 48 + (n : Int) % 10 := by show (48 + (n : Int) % 10) % 256 = _; omega
  have hone := l6Dec_one (n / 10) (by omega)
  rw [eq1] at hone
  generalize dec2 (n / 10) = d1 at hd hl2 hcat hone
  generalize UInt8.ofNat (48 + n % 10) = ch at hd hcat hcv
  go_wp2
  go_region_with (go_at_call 18; refine (hone _).mono ?_; rintro e w1 ⟨rfl, hb1⟩; first | (have hx : w1.cell? ⟨w.heap.size, 0, none⟩ = some (.int .u8 (48 + (n : Int) % 10)) := cell_later hb1 ((Blk.new w 5 #[.int .u8 (48 + (n : Int) % 10)]).cell 0)) | skip)
  all_goals
    go_simp
    go_wp2
    go_ret
    rw [hd.out]
    exact ⟨rfl, by (repeat (first | exact Below.refl _ _ | assumption | refine lo_alloc ?_ _ | refine lo_set ?_ (by simp; try omega) _ | refine Below.drew ?_ | refine below_drewN ?_ _ | refine lo_trans ?_ (by assumption) | refine lo_wr ?_ (by assumption) (by omega)))⟩
end Go.Proofs.YteabnljjogiflaaGreatDoor

-- Walks: lists of numbers, each with a space ahead: the program's and the reference's.
namespace Go.Proofs.YteabnljjogiflaaGreatDoor
open Go.RowKit
set_option maxRecDepth 100000

theorem decs_take {xs : List Int} {k : Nat} (hk : k < xs.length) : decs (xs.take (k + 1)) = decs (xs.take k) ++ (32 :: dec2 (xs[k]?.getD 0).toNat) := by
  rw [take_snoc hk, decs, List.flatMap_append, List.getElem?_eq_getElem hk]
  simp [decs]
theorem decs_len (xs : List Int) : (decs xs).length ≤ 3 * xs.length := by
  induction xs with
  | nil => simp [decs]
  | cons x xs ih =>
    have := dec2_len x.toNat
    simp only [decs, List.flatMap_cons, List.length_append, List.length_cons] at ih ⊢
    omega

set_option maxHeartbeats 2000000 in
theorem listed_c (A : Option Addr) (n c : Nat) (xs : List Int) (w : World) (hr : Rd w A n xs) (hn : n ≤ 100000) (hx : ∀ x ∈ xs, 0 ≤ x ∧ x < 100) :
    Calls Tryz.prog 56 #[.slice A n c] w fun e w' => e = .returned (.string (S (decs xs))) ∧ w' = w := by
  have hxl := Lib.hid hr.1
  have hk0 : (⟨#[]⟩ : ByteArray) = S (decs (xs.take 0)) := rfl
  go_enter Tryz.func56, Tryz.ntmps56
  go_wp2
  go_loop [3, 8] (fun v i => ∃ k : Nat, k ≤ n ∧ i = .int .i64 k ∧ v = .string (S (decs (xs.take k)))) (fun _ i => n - (intOf i).toNat)
  case atStart => exact ⟨0, Nat.zero_le _, rfl, rfl⟩
  case round =>
    obtain ⟨k, hk, rfl, rfl⟩ := hrel
    clear hk0
    by_cases hlt : k < n
    · obtain ⟨b, off, rfl, hb, hc⟩ := hr.at_ hlt
      have hgt := Lib.hid (decs_take (xs := xs) (k := k) (by rw [hxl.out]; exact hlt))
      have hxk := hx _ (getD_mem' (l := xs) (k := k) (by rw [hxl.out]; exact hlt))
      obtain ⟨d, hd⟩ : ∃ d : Nat, xs[k]?.getD 0 = (d : Int) := ⟨(xs[k]?.getD 0).toNat, by omega⟩
      rw [hd] at hc hxk hgt
      rw [Int.toNat_natCast] at hgt
      have hl1 := decs_len (xs.take k)
      have hl2 := dec2_len d
      rw [List.length_take] at hl1
      have c1 : ∀ w, (Op.stringOp .add (⟨#[32]⟩ : ByteArray) (S (dec2 d))).run Tryz.prog w = .ok (.string (S (32 :: dec2 d))) w := fun w => cat_ok [32] (dec2 d) (by simp; omega) w
      have c2 := fun w => cat_ok (decs (xs.take k)) (32 :: dec2 d) (by simp; omega) w
      have hxl2 := hxl.out
      generalize decs (xs.take k) = o at c2 hgt ⊢
      clear hd hl1 hxl2
      go_wp2_with fail
      refine (Itoa_c d (by omega) _).mono ?_
      rintro e w1 ⟨rfl, rfl⟩
      generalize dec2 d = t at c1 c2 hgt hl2 ⊢
      go_wp2
      refine ⟨⟨k + 1, by omega, by go_num, by rw [hgt.out]⟩, by simp [intOf]; omega⟩
    · obtain rfl : k = n := by omega
      have he : Hid (xs.take k = xs) := Lib.hid (by rw [← hxl.out, List.take_length])
      go_wp2
      go_ret
      rw [he.out]
      exact ⟨rfl, rfl⟩

set_option maxHeartbeats 4000000 in
theorem l51Join_c (A : Option Addr) (n c : Nat) (xs : List Int) (u : Bs) (w : World) (hr : Rd w A n xs) (hn : n ≤ 100000) (hu : u.length ≤ 100000) (hx : ∀ x ∈ xs, 0 ≤ x ∧ x < 100) :
    Calls Tryz.prog 83 #[.string (S u), .slice A n c] w fun e w' => e = .returned (.string (S (u ++ decs xs))) ∧ Below w.heap.size w w' := by
  have hxl := Lib.hid hr.1
  have hk0 : S u = S (u ++ decs (xs.take 0)) := by simp [decs]
  go_enter Tryz.func83, Tryz.ntmps83
  go_wp2
  go_loopw [0, 5] (fun v i wr => ∃ k : Nat, k ≤ n ∧ i = .int .i64 k ∧ v = .string (S (u ++ decs (xs.take k))) ∧ Below w.heap.size w wr) (fun _ i _ => n - (intOf i).toNat)
  case atStart => exact ⟨0, Nat.zero_le _, rfl, by rw [← hk0], Below.refl _ _⟩
  case round =>
    obtain ⟨k, hk, rfl, rfl, hL⟩ := hrel
    clear hk0
    by_cases hlt : k < n
    · obtain ⟨b, off, rfl, hb, hc⟩ := (hr.next hL).at_ hlt
      have hgt := Lib.hid (decs_take (xs := xs) (k := k) (by rw [hxl.out]; exact hlt))
      have hxk := hx _ (getD_mem' (l := xs) (k := k) (by rw [hxl.out]; exact hlt))
      obtain ⟨d, hd⟩ : ∃ d : Nat, xs[k]?.getD 0 = (d : Int) := ⟨(xs[k]?.getD 0).toNat, by omega⟩
      rw [hd] at hc hxk hgt
      rw [Int.toNat_natCast] at hgt
      have hl1 := decs_len (xs.take k)
      have hl2 := dec2_len d
      rw [List.length_take] at hl1
      have hol : (u ++ decs (xs.take k)).length ≤ 500000 := by simp; omega
      have hgt2 := Lib.hid (show u ++ decs (xs.take (k + 1)) = (u ++ decs (xs.take k)) ++ (32 :: dec2 d) by rw [hgt.out, List.append_assoc])
      clear hgt
      generalize u ++ decs (xs.take k) = o at hgt2 hol ⊢
      have c1 : ∀ w, (Op.stringOp .add (S o) (⟨#[32]⟩ : ByteArray)).run Tryz.prog w = .ok (.string (S (o ++ [32]))) w := fun w => cat_ok o [32] (by simp; omega) w
      have c2 : ∀ w, (Op.stringOp .add (S (o ++ [32])) (S (dec2 d))).run Tryz.prog w = .ok (.string (S ((o ++ [32]) ++ dec2 d))) w := fun w => cat_ok (o ++ [32]) (dec2 d) (by simp; omega) w
      have hgt3 := Lib.hid (show u ++ decs (xs.take (k + 1)) = (o ++ [32]) ++ dec2 d by rw [hgt2.out]; simp)
      generalize o ++ [32] = o' at c1 c2 hgt3
      have hxl2 := hxl.out
      clear hd hl1 hxl2 hgt2
      go_wp2_with fail
      refine (l6Dec_c d (by omega) _).mono ?_
      rintro e w1 ⟨rfl, hb1⟩
      generalize dec2 d = t at c2 hgt3 hl2 ⊢
      go_wp2
      refine ⟨⟨k + 1, by omega, by go_num, by rw [hgt3.out], lo_trans hL hb1⟩, by simp [intOf]; omega⟩
    · obtain rfl : k = n := by omega
      have he : Hid (xs.take k = xs) := Lib.hid (by rw [← hxl.out, List.take_length])
      go_wp2
      go_ret
      rw [he.out]
      exact ⟨rfl, hL⟩
end Go.Proofs.YteabnljjogiflaaGreatDoor
