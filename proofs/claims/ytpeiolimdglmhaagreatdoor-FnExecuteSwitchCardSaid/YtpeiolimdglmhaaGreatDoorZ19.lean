/- Plain facts and walks that the law's proof uses; each says its own conditions. -/
import Derived.Test.YtpeiolimdglmhaaGreatDoorZ18
import Derived.Laws.IdiomStrings
import Derived.Deep.RegionHeld3
-- Walks: numbers of one or two digits as texts; lists of numbers, each with a space ahead.
namespace Go.Proofs.YtpeiolimdglmhaaGreatDoor
open Go.RowKit
set_option maxRecDepth 100000

theorem conv_cell (b g : Nat) (hb : b < 256) (w : World) (h : w.cell? ⟨g, 0, none⟩ = some (.int .u8 (b : Int))) : (convert 22 9 (.slice (some ⟨g, 0, none⟩) 1 1)).run Tryz.prog w = .ok (.string (S [UInt8.ofNat b])) w := by
  have := run_convert_bytes_back (P := Tryz.prog) w 22 9 5 ⟨g, 0, none⟩ 1 [UInt8.ofNat b] Tryz.underlying22 Tryz.underlying5 Tryz.underlying9 (fun j hj => by
    obtain rfl : j = 0 := by simpa using hj
    rw [Go.WideShapes.add_plain, h]
    simp [Nat.mod_eq_of_lt hb])
  exact this
theorem conv_ok (b g : Nat) (hb : b < 256) (w : World) (h : Blk w g 5 #[.int .u8 (b : Int)]) : (convert 22 9 (.slice (some ⟨g, 0, none⟩) 1 1)).run Tryz.prog w = .ok (.string (S [UInt8.ofNat b])) w := by
  have := run_convert_bytes_back (P := Tryz.prog) w 22 9 5 ⟨g, 0, none⟩ 1 [UInt8.ofNat b] Tryz.underlying22 Tryz.underlying5 Tryz.underlying9 (fun j hj => by
    obtain rfl : j = 0 := by simpa using hj
    rw [Go.WideShapes.add_plain, h.cell 0]
    simp [Nat.mod_eq_of_lt hb])
  exact this
theorem dec2_one {n : Nat} (h : n < 10) : dec2 n = [UInt8.ofNat (48 + n)] := by rw [dec2, if_pos h]
theorem dec2_two {n : Nat} (h : ¬ n < 10) : dec2 n = [UInt8.ofNat (48 + n / 10), UInt8.ofNat (48 + n % 10)] := by rw [dec2, if_neg h]
theorem dec2_len (n : Nat) : (dec2 n).length ≤ 2 := by unfold dec2; split <;> simp

end Go.Proofs.YtpeiolimdglmhaaGreatDoor

-- Walks: lists of numbers, each with a space ahead: the program's and the reference's.
namespace Go.Proofs.YtpeiolimdglmhaaGreatDoor
open Go.RowKit
set_option maxRecDepth 100000

theorem decs_take {xs : List Int} {k : Nat} (hk : k < xs.length) : decs (xs.take (k + 1)) = decs (xs.take k) ++ (32 :: dec2 (xs[k]?.getD 0).toNat) := by
  rw [take_snoc hk, decs, List.flatMap_append, List.getElem?_eq_getElem hk]
  simp [decs]
theorem decs_len (xs : List Int) : (decs xs).length ≤ 3 * xs.length := by
  induction xs with
  | nil => simp [decs]
  | cons x xs ih =>
    have := dec2_len x.toNat
    simp only [decs, List.flatMap_cons, List.length_append, List.length_cons] at ih ⊢
    omega

set_option maxHeartbeats 2000000 in
theorem listed_c (A : Option Addr) (n c : Nat) (xs : List Int) (w : World) (hr : Rd w A n xs) (hn : n ≤ 100000) (hx : ∀ x ∈ xs, 0 ≤ x ∧ x < 100) :
    Calls Tryz.prog 85 #[.slice A n c] w fun e w' => e = .returned (.string (S (decs xs))) ∧ w' = w := by
  have hxl := Lib.hid hr.1
  have hk0 : (⟨#[]⟩ : ByteArray) = S (decs (xs.take 0)) := rfl
  go_enter Tryz.func85, Tryz.ntmps85
  go_wp2
  go_loop [3, 8] (fun v i => ∃ k : Nat, k ≤ n ∧ i = .int .i64 k ∧ v = .string (S (decs (xs.take k)))) (fun _ i => n - (intOf i).toNat)
  case atStart => exact ⟨0, Nat.zero_le _, rfl, rfl⟩
  case round =>
    obtain ⟨k, hk, rfl, rfl⟩ := hrel
    clear hk0
    by_cases hlt : k < n
    · obtain ⟨b, off, rfl, hb, hc⟩ := hr.at_ hlt
      have hgt := Lib.hid (decs_take (xs := xs) (k := k) (by rw [hxl.out]; exact hlt))
      have hxk := hx _ (getD_mem' (l := xs) (k := k) (by rw [hxl.out]; exact hlt))
      obtain ⟨d, hd⟩ : ∃ d : Nat, xs[k]?.getD 0 = (d : Int) := ⟨(xs[k]?.getD 0).toNat, by omega⟩
      rw [hd] at hc hxk hgt
      rw [Int.toNat_natCast] at hgt
      have hl1 := decs_len (xs.take k)
      have hl2 := dec2_len d
      rw [List.length_take] at hl1
      have c1 : ∀ w, (Op.stringOp .add (⟨#[32]⟩ : ByteArray) (S (dec2 d))).run Tryz.prog w = .ok (.string (S (32 :: dec2 d))) w := fun w => cat_ok [32] (dec2 d) (by simp; omega) w
      have c2 := fun w => cat_ok (decs (xs.take k)) (32 :: dec2 d) (by simp; omega) w
      have hxl2 := hxl.out
      generalize decs (xs.take k) = o at c2 hgt ⊢
      clear hd hl1 hxl2
      go_wp2_with fail
      refine (Itoa_c d (by omega) _).mono ?_
      rintro e w1 ⟨rfl, rfl⟩
      generalize dec2 d = t at c1 c2 hgt hl2 ⊢
      go_wp2
      refine ⟨⟨k + 1, by omega, by go_num, by rw [hgt.out]⟩, by simp [intOf]; omega⟩
    · obtain rfl : k = n := by omega
      have he : Hid (xs.take k = xs) := Lib.hid (by rw [← hxl.out, List.take_length])
      go_wp2
      go_ret
      rw [he.out]
      exact ⟨rfl, rfl⟩

end Go.Proofs.YtpeiolimdglmhaaGreatDoor
