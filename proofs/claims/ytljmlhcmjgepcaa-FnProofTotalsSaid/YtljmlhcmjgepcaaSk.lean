
/- Walks: ProofOk, ProofOf, ProofColumns of the reference. -/
import Derived.Test.YtljmlhcmjgepcaaPk
namespace Go.Proofs.Ytljmlhcmjgepcaa
open Go.RowKit
set_option maxRecDepth 100000

theorem sV_len {r c : List Int} (h : ¬ (1 ≤ r.length ∧ r.length ≤ 6 ∧ 1 ≤ c.length ∧ c.length ≤ 6)) : sV r c = false := by
  cases e : sV r c with
  | false => rfl
  | true =>
    have := sV_out e
    exact absurd ⟨this.1, this.2.1, this.2.2.1, this.2.2.2.1⟩ h
theorem sV_eq {r c : List Int} (h : 1 ≤ r.length ∧ r.length ≤ 6 ∧ 1 ≤ c.length ∧ c.length ≤ 6) : sV r c = (allIn 0 c.length r && allIn 0 r.length c) := by
  simp [sV, sIn, h]

set_option maxHeartbeats 4000000 in
theorem spec_SumsValid_c (A B : Option Addr) (n m c d : Nat) (xs ys : List Int) (w : World) (hr : Rd w A n xs) (hs : Rd w B m ys) (hn : n ≤ 1073741824) (hm : m ≤ 1073741824) :
    Calls Try.prog 29 #[.slice A n c, .slice B m d] w fun e w' => e = .returned (.bool (sV xs ys)) ∧ w = w' := by
  by_cases h1 : 1 ≤ n ∧ n ≤ 6
  case neg =>
    have hT := Lib.hid (sV_len (r := xs) (c := ys) (fun h => h1 (by rw [hr.1] at h; exact ⟨h.1, h.2.1⟩)))
    go_enter Try.func29, Try.ntmps29
    go_wp2_with fail
    refine (l6In_f _ (by omega)).mono ?_
    rintro e w' ⟨rfl, rfl⟩
    go_wp2
    go_ret
    exact ⟨ret_bool (by rw [hT.out]), rfl⟩
  by_cases h2 : 1 ≤ m ∧ m ≤ 6
  case neg =>
    have hT := Lib.hid (sV_len (r := xs) (c := ys) (fun h => h2 (by rw [hs.1] at h; exact ⟨h.2.2.1, h.2.2.2⟩)))
    go_enter Try.func29, Try.ntmps29
    go_wp2_with fail
    refine (l6In_t _ (by omega)).mono ?_
    rintro e w' ⟨rfl, rfl⟩
    go_wp2_with fail
    refine (l6In_f _ (by omega)).mono ?_
    rintro e w' ⟨rfl, rfl⟩
    go_wp2
    go_ret
    exact ⟨ret_bool (by rw [hT.out]), rfl⟩
  have hT := Lib.hid (show sV xs ys = (allIn 0 (m : Int) xs && allIn 0 (n : Int) ys) by rw [sV_eq (by rw [hr.1, hs.1]; exact ⟨h1.1, h1.2, h2.1, h2.2⟩), hr.1, hs.1])
  cases h3 : allIn 0 (m : Int) xs with
  | false =>
    have hT2 := Lib.hid (hT.out.trans (by rw [h3]; rfl : _ = false))
    go_enter Try.func29, Try.ntmps29
    go_wp2_with fail
    refine (l6In_t _ (by omega)).mono ?_
    rintro e w' ⟨rfl, rfl⟩
    go_wp2_with fail
    refine (l6In_t _ (by omega)).mono ?_
    rintro e w' ⟨rfl, rfl⟩
    go_wp2_with fail
    refine (l2Each_c _ _ _ _ _ xs _ hr hn).mono ?_
    rw [h3]
    rintro e w1 ⟨rfl, rfl⟩
    go_wp2
    go_ret
    exact ⟨ret_bool (by rw [hT2.out]), rfl⟩
  | true =>
    have hT2 := Lib.hid (hT.out.trans (by rw [h3]; rfl : _ = allIn 0 (n : Int) ys))
    go_enter Try.func29, Try.ntmps29
    go_wp2_with fail
    refine (l6In_t _ (by omega)).mono ?_
    rintro e w' ⟨rfl, rfl⟩
    go_wp2_with fail
    refine (l6In_t _ (by omega)).mono ?_
    rintro e w' ⟨rfl, rfl⟩
    go_wp2_with fail
    refine (l2Each_c _ _ _ _ _ xs _ hr hn).mono ?_
    rw [h3]
    rintro e w1 ⟨rfl, rfl⟩
    clear h3
    go_wp2_with fail
    refine (l2Each_c _ _ _ _ _ ys _ hs hm).mono ?_
    rintro e w2 ⟨rfl, rfl⟩
    go_wp2
    go_ret
    exact ⟨ret_bool (by rw [hT2.out]), rfl⟩

/-- what is sorted when k values have been gone through -/
def cDone (xs : List Int) : Nat → List Int
  | 0 => []
  | k + 1 => cDone xs k ++ xs.filter (fun x => decide (x = 6 - (k : Int)))
theorem cDone_all (xs : List Int) : cDone xs 7 = csort xs 6 := by
  simp only [cDone, csort, List.append_assoc, List.nil_append]
  rfl
theorem cDone_len (xs : List Int) : ∀ k : Nat, (cDone xs k).length ≤ k * xs.length
  | 0 => by simp [cDone]
  | k + 1 => by
    have h1 := cDone_len xs k
    have h2 := List.length_filter_le (fun x => decide (x = 6 - (k : Int))) xs
    rw [cDone, List.length_append, Nat.succ_mul]
    omega
theorem filter_snoc (xs : List Int) (v : Int) {k : Nat} (hk : k < xs.length) : (xs.take (k + 1)).filter (fun x => decide (x = v)) = (xs.take k).filter (fun x => decide (x = v)) ++ (if xs[k]?.getD 0 = v then [v] else []) := by
  rw [List.take_succ_eq_append_getElem hk, List.filter_append]
  simp only [List.getElem?_eq_getElem hk, Option.getD_some, List.filter_cons, List.filter_nil]
  by_cases h : xs[k] = v
  · simp [h]
  · simp [h]

/-- a list of one's own, and true -/
def ListOk (w : World) (l : List Int) (e : Ending) (w' : World) : Prop := ∃ R r c', e = .returned (.tuple #[.slice R r c', .bool true]) ∧ Below w.heap.size w w' ∧ Own w' w.heap.size R r l
set_option maxHeartbeats 8000000 in
theorem PartOf_c (A : Option Addr) (n c : Nat) (xs : List Int) (w : World) (hr : Rd w A n xs) (hn : n ≤ 6) (hx : allIn 0 6 xs = true) :
    Calls Try.prog 31 #[.slice A n c] w (ListOk w (dsort xs)) := by
  have hxl := Lib.hid hr.1
  have hE := Lib.hid (show cDone xs 7 = dsort xs by rw [cDone_all]; exact csort_eq (allIn_iff.1 hx))
  have hB0 : Buf (w.alloc (.cells #[] 3)) w.heap.size (some ⟨w.heap.size, 0, none⟩) 0 [] := Buf.lit w w.heap.size [] (Nat.le_refl _) (Nat.zero_le _)
  have hL0 := lo_alloc (Below.refl w.heap.size w) (.cells #[] 3)
  go_enter Try.func31, Try.ntmps31
  go_wp2_with fail
  refine (l2Each_c _ _ _ _ _ xs _ (hr.next hL0) (by omega)).mono ?_
  rw [hx]
  rintro e w1 ⟨rfl, rfl⟩
  clear hx
  go_wp2
  generalize w.alloc (.cells #[] 3) = w1 at hB0 hL0 ⊢
  go_loopw [4, 5, 6] (fun o v i wr => ∃ (k : Nat) (R : Option Addr) (c' : Nat) (q : Int), k ≤ 7 ∧ q ≤ 6 - (k : Int) ∧ 6 - (k : Int) ≤ q ∧ v = .int .i64 q ∧ o = .slice R (cDone xs k).length c' ∧ Buf wr w.heap.size R c' (cDone xs k) ∧ Below w.heap.size w wr) (fun _ v _ _ => (intOf v + 1).toNat)
  case atStart => exact ⟨0, _, _, 6, Nat.zero_le _, by omega, by omega, rfl, rfl, hB0, hL0⟩
  case round =>
    clear hB0 hL0
    obtain ⟨k, R, c', q, hk, hq1, hq2, rfl, rfl, hB, hL⟩ := hrel
    have hz := hL.size
    by_cases hlt : 0 ≤ q
    · have hk7 : k < 7 := by omega
      go_wp2
      go_loopw [4, 6] (fun o i wr => ∃ (j : Nat) (R : Option Addr) (c' : Nat), j ≤ n ∧ i = .int .i64 j ∧ o = .slice R (cDone xs k ++ (xs.take j).filter (fun x => decide (x = q))).length c' ∧ Buf wr w.heap.size R c' (cDone xs k ++ (xs.take j).filter (fun x => decide (x = q))) ∧ Below w.heap.size w wr) (fun _ i _ => n - (intOf i).toNat)
      case atStart => exact ⟨0, R, c', Nat.zero_le _, rfl, by simp, by simpa using hB, hL⟩
      case round =>
        clear hB hL hz
        obtain ⟨j, R, c', hj, rfl, rfl, hB, hL⟩ := hrel
        have hz := hL.size
        by_cases hlt2 : j < n
        · obtain ⟨b, off, rfl, hb, hc⟩ := (hr.next hL).at_ hlt2
          have hS := filter_snoc xs q (hxl.out ▸ hlt2 : j < xs.length)
          have hl1 := cDone_len xs k
          have hl2 := List.length_filter_le (fun x => decide (x = q)) (xs.take j)
          have hl3 : (xs.take j).length ≤ 6 := by rw [List.length_take]; omega
          have hl4 : k * xs.length ≤ 6 * 6 := Nat.mul_le_mul (by omega) (by rw [hxl.out]; exact hn)
          have hlen : (cDone xs k ++ (xs.take j).filter (fun x => decide (x = q))).length ≤ 1000 := by rw [List.length_append]; omega
          clear hl1 hl2 hl3 hl4
          generalize xs[j]?.getD 0 = x at hc hS
          by_cases hxq : x = q
          · subst hxq
            rw [if_pos rfl, ] at hS
            have hN := Lib.hid (show cDone xs k ++ (xs.take (j + 1)).filter (fun y => decide (y = x)) = (cDone xs k ++ (xs.take j).filter (fun y => decide (y = x))) ++ [x] by rw [hS, List.append_assoc])
            clear hS
            generalize cDone xs k ++ (xs.take j).filter (fun y => decide (y = x)) = l at hB hN hlen ⊢
            have hB3 : Buf (wr.alloc (.cells #[.int .i64 x] 3)) w.heap.size R c' l := hB.next (by (repeat (first | exact Below.refl _ _ | assumption | refine lo_alloc ?_ _ | refine lo_set ?_ (by simp; try omega) _ | refine Below.drew ?_ | refine below_drewN ?_ _ | refine lo_trans ?_ (by assumption) | refine lo_wr ?_ (by assumption) (by omega))))
            have hL3 : Below w.heap.size w (wr.alloc (.cells #[.int .i64 x] 3)) := lo_alloc hL _
            have hrd : Rd (wr.alloc (.cells (ints [x]) 3)) (some ⟨wr.heap.size, 0, none⟩) 1 [x] := Rd.of_blk (Blk.new _ _ _)
            have hge := rowA_ge hB3
            clear hB hL
            go_wp2_with (at_builtin; refine (wpl_append rfl _ _ rfl w.heap.size R c' _ _ rfl rfl hB3 _ 1 1 [x] rfl hrd (by omega) (by omega) (by simp; omega) ?_); intro g c4 w4 hB4 hg4 hat)
            have hL4 := lo_grown hL3 hg4 hge
            clear hB3 hL3 hrd hge hg4 hat
            go_roundw
            case rel => exact ⟨j + 1, _, c4, by omega, by go_num, by rw [hN.out, List.length_append]; rfl, by rw [hN.out]; exact hB4, hL4⟩
            case measure => simp [intOf]; omega
          · rw [if_neg hxq, List.append_nil] at hS
            have hS' := Lib.hid hS
            have hxq' : (x == q) = false := beq_eq_false_iff_ne.2 hxq
            clear hS hxq
            go_wp2
            go_roundw
            case rel => exact ⟨j + 1, _, c', by omega, by go_num, by rw [hS'.out], by rw [hS'.out]; exact hB, hL⟩
            case measure => simp [intOf]; omega
        · obtain rfl : j = n := by omega
          have hT := Lib.hid (show cDone xs k ++ (xs.take j).filter (fun x => decide (x = q)) = cDone xs (k + 1) by
            rw [List.take_of_length_le (Nat.le_of_eq hxl.out), cDone, show q = 6 - (k : Int) by omega])
          go_wp2
          go_roundw
          case rel => exact ⟨k + 1, R, c', q - 1, by omega, by omega, by omega, by first | rfl | go_num, by rw [← hT.out], by rw [← hT.out]; exact hB, hL⟩
          case measure => simp [intOf]; omega
    · obtain rfl : k = 7 := by omega
      have hO := hB.own
      rw [hE.out] at hO
      have hlE := Lib.hid (show (cDone xs 7).length = (dsort xs).length by rw [hE.out])
      go_wp2
      go_ret2
      exact ⟨R, _, c', rfl, hL, by rw [hlE.out]; exact hO⟩
end Go.Proofs.Ytljmlhcmjgepcaa
