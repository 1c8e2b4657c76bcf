/- Plain facts and walks that the law's proof uses; each says its own conditions. -/
import Derived.Test.YtpeiolimdglmhaaGreatDoorZ09
import Derived.Test.YtpeiolimdglmhaaGreatDoorZ10
import Derived.WalkLawsBesides
-- Walks: words of a script: a digit, a list of digits, a row.
namespace Go.Proofs.YtpeiolimdglmhaaGreatDoor
open Go.RowKit
set_option maxRecDepth 100000

theorem S_get (l : Bs) (k : Nat) (h : k < (S l).size) : (S l)[k]'h = l[k]?.getD 0 := by
  have h' : k < l.length := by rw [S_size] at h; exact h
  rw [List.getElem?_eq_getElem h', Option.getD_some]
  simp [S, ByteArray.getElem_eq_getElem_data]
theorem idx_ok (l : Bs) (k : Nat) (h : k < l.length) (w : World) : (Instr.index 9 (.string (S l)) (.int .i64 (k : Int))).run Tryz.prog w = .ok (.int .u8 (((l[k]?.getD 0).toNat : Nat) : Int)) w := by
  rw [run_index_string (P := Tryz.prog) w 9 (S l) .i64 k Tryz.underlying9, dif_pos ⟨by omega, by rw [S_size]; omega⟩, S_get]
  rfl
theorem slc_ok (l : Bs) (a b : Nat) (hab : a ≤ b) (hb : b ≤ l.length) (w : World) : (Instr.slice 9 (.string (S l)) (some (.int .i64 (a : Int))) (some (.int .i64 (b : Int))) none).run Tryz.prog w = .ok (.string (S ((l.drop a).take (b - a)))) w := by
  rw [run_slice_string (P := Tryz.prog) w 9 (S l) .i64 .i64 a b Tryz.underlying9 (by omega) (by omega) (by rw [S_size]; omega), Int.toNat_natCast, Int.toNat_natCast, S_ext]
theorem slf_ok (l : Bs) (a : Nat) (ha : a ≤ l.length) (w : World) : (Instr.slice 9 (.string (S l)) (some (.int .i64 (a : Int))) none none).run Tryz.prog w = .ok (.string (S (l.drop a))) w := by
  rw [run_slice_string_from_if (P := Tryz.prog) w 9 (S l) .i64 a Tryz.underlying9, if_pos ⟨by omega, by rw [S_size]; omega⟩, Int.toNat_natCast, S_ext, S_size]
  rw [List.take_of_length_le (by simp)]
theorem slt_ok (l : Bs) (b : Nat) (hb : b ≤ l.length) (w : World) : (Instr.slice 9 (.string (S l)) none (some (.int .i64 (b : Int))) none).run Tryz.prog w = .ok (.string (S (l.take b))) w := by
  rw [run_slice_string_to_if (P := Tryz.prog) w 9 (S l) .i64 b Tryz.underlying9, if_pos ⟨by omega, by rw [S_size]; omega⟩, Int.toNat_natCast, S_ext]
  simp
theorem cat_ok (a b : Bs) (h : a.length + b.length ≤ 9000000000000000000) (w : World) : (Op.stringOp .add (S a) (S b)).run Tryz.prog w = .ok (.string (S (a ++ b))) w := by
  rw [run_string_add_sum w _ _ (by rw [S_size, S_size]; omega), S_app]

theorem isDig_iff {c : UInt8} : isDig c = true ↔ 48 ≤ c.toNat ∧ c.toNat ≤ 57 := by
  simp only [isDig, Bool.and_eq_true, decide_eq_true_eq]
  exact Iff.rfl
theorem digit_c (l : Bs) (w : World) (hl : l.length ≤ 1048576) : Calls Tryz.prog 83 #[.string (S l)] w fun e w' => e = .returned (.int .i64 (dgt l)) ∧ w' = w := by
  have hsz := S_size l
  match l with
  | [] =>
    go_enter Tryz.func83, Tryz.ntmps83
    go_wp2
    go_ret
    exact ⟨rfl, rfl⟩
  | a :: b :: t =>
    have h1 : ((((a :: b :: t).length : Nat) : Int) != 1) = true := by simp; omega
    go_enter Tryz.func83, Tryz.ntmps83
    go_wp2
    go_ret
    exact ⟨rfl, rfl⟩
  | [c] =>
    have hi : ∀ w, (Instr.index 9 (.string (S [c])) (.int .i64 0)).run Tryz.prog w = .ok (.int .u8 ((c.toNat : Nat) : Int)) w := fun w => idx_ok [c] 0 (by simp) w
    have hc := c.toNat_lt
    by_cases h1 : 48 ≤ c.toNat
    · have g1 : decide (((c.toNat : Nat) : Int) < 48) = false := by simp; omega
      by_cases h2 : c.toNat ≤ 57
      · have g2 : decide ((57 : Int) < ((c.toNat : Nat) : Int)) = false := by simp; omega
        have hd := Lib.hid (show dgt [c] = (c.toNat : Int) - 48 by
          have : isDig c = true := by rw [isDig_iff]; omega
          simp [dgt, this, digV])
        go_enter Tryz.func83, Tryz.ntmps83
        go_wp2
        go_ret
        rw [hd.out]; exact ⟨rfl, rfl⟩
      · have g2 : decide ((57 : Int) < ((c.toNat : Nat) : Int)) = true := by simp; omega
        have hd := Lib.hid (show dgt [c] = -1 by
          have : isDig c = false := by rw [Bool.eq_false_iff, ne_eq, isDig_iff]; omega
          simp [dgt, this])
        go_enter Tryz.func83, Tryz.ntmps83
        go_wp2
        go_ret
        rw [hd.out]; exact ⟨rfl, rfl⟩
    · have g1 : decide (((c.toNat : Nat) : Int) < 48) = true := by simp; omega
      have hd := Lib.hid (show dgt [c] = -1 by
        have : isDig c = false := by rw [Bool.eq_false_iff, ne_eq, isDig_iff]; omega
        simp [dgt, this])
      go_enter Tryz.func83, Tryz.ntmps83
      go_wp2
      go_ret
      rw [hd.out]; exact ⟨rfl, rfl⟩

theorem getD_mem' {l : List Int} {k : Nat} (h : k < l.length) : l[k]?.getD 0 ∈ l := by
  rw [List.getElem?_eq_getElem h, Option.getD_some]; exact List.getElem_mem h
theorem dgs_no {l : Bs} (h : ¬ (l.length ≤ 6 ∧ ∀ c ∈ l, isDig c = true)) : dgs l = [] := by
  unfold dgs
  rw [if_neg]
  intro e
  simp only [Bool.and_eq_true, decide_eq_true_eq, List.all_eq_true] at e
  exact h e
theorem dgs_yes {l : Bs} (h : l.length ≤ 6) (h2 : ∀ c ∈ l, isDig c = true) : dgs l = l.map digV := by
  unfold dgs
  rw [if_pos]
  simp only [Bool.and_eq_true, decide_eq_true_eq, List.all_eq_true]
  exact ⟨h, h2⟩
theorem dgs_len (l : Bs) : (dgs l).length ≤ 6 := by
  unfold dgs
  split
  · next h =>
    simp only [Bool.and_eq_true, decide_eq_true_eq] at h
    rw [List.length_map]
    exact h.1
  · simp
theorem take_snoc {α : Type} {l : List α} {k : Nat} (h : k < l.length) : l.take (k + 1) = l.take k ++ [l[k]] := by
  rw [List.take_add_one, List.getElem?_eq_getElem h]; rfl
theorem drop_one {l : Bs} {k : Nat} (h : k < l.length) : (l.drop k).take (k + 1 - k) = [l[k]?.getD 0] := by
  rw [Nat.add_sub_cancel_left, List.drop_eq_getElem_cons h, List.take_succ_cons, List.take_zero, List.getElem?_eq_getElem h]; rfl

set_option maxHeartbeats 2000000 in
theorem digits_c (l : Bs) (w : World) (hl : l.length ≤ 1048576) : Calls Tryz.prog 82 #[.string (S l)] w fun e w' =>
    ∃ (R : Option Addr) (d : Nat), e = .returned (.slice R (dgs l).length d) ∧ Own w' w.heap.size R (dgs l).length (dgs l) ∧ Below w.heap.size w w' := by
  have hsz := S_size l
  go_enter Tryz.func82, Tryz.ntmps82
  go_wp2
  go_loopw [3, 8] (fun v i wr => ∃ (k : Nat) (R : Option Addr) (d : Nat), k ≤ l.length ∧ i = .int .i64 k ∧ v = .slice R k d ∧ Buf wr w.heap.size R d ((l.take k).map digV) ∧
      Below w.heap.size w wr ∧ (∀ c ∈ l.take k, isDig c = true) ∧ (0 < k → l.length ≤ 6)) (fun _ i _ => l.length - (intOf i).toNat)
  case atStart => exact ⟨0, _, 0, Nat.zero_le _, rfl, rfl, Buf.nil_ w _, Below.refl _ _, fun _ h => by simp at h, fun h => absurd h (by omega)⟩
  case round =>
    obtain ⟨k, R, d, hk, rfl, rfl, hB, hL, hD, h6⟩ := hrel
    have hyl' : Hid (((l.take k).map digV).length = k) := Lib.hid (by rw [List.length_map, List.length_take]; omega)
    by_cases hlt : k < l.length
    · have hsl : ∀ w, (Instr.slice 9 (.string (S l)) (some (.int .i64 (k : Int))) (some (.int .i64 ((k : Int) + 1))) none).run Tryz.prog w = .ok (.string (S [l[k]?.getD 0])) w := fun w => by
        have := slc_ok l k (k + 1) (by omega) (by omega) w
        rw [drop_one hlt] at this
        exact this
      have hgt : l.take (k + 1) = l.take k ++ [l[k]?.getD 0] := by rw [take_snoc hlt, List.getElem?_eq_getElem hlt]; rfl
      have hgt' := Lib.hid hgt
      have hmem : l[k]?.getD 0 ∈ l := by rw [List.getElem?_eq_getElem hlt]; exact List.getElem_mem hlt
      clear hgt
      generalize l[k]?.getD 0 = c at hsl hgt' hmem
      go_wp2_with fail
      refine (digit_c [c] _ (by simp)).mono ?_
      rintro e w1 ⟨rfl, rfl⟩
      cases hc : isDig c with
      | false =>
        have hv := Lib.hid (show dgt [c] = -1 by simp [dgt, hc])
        have hno := Lib.hid (dgs_no (l := l) (fun h => by have := h.2 c hmem; rw [hc] at this; cases this))
        rw [hv.out]
        go_wp2
        go_ret
        rw [hno.out]
        exact ⟨none, 0, rfl, Own.nil_ _ _ _, hL⟩
      | true =>
        have hv := Lib.hid (show dgt [c] = digV c by simp [dgt, hc])
        have hr : 0 ≤ digV c ∧ digV c ≤ 9 := by
          have := isDig_iff.1 hc
          unfold digV
          omega
        have hc' := Lib.hid hc
        clear hc
        rw [hv.out]
        generalize hx : digV c = x at hr
        have hx' := Lib.hid hx
        clear hx
        by_cases h7 : l.length ≤ 6
        · have g7 : decide ((6 : Int) < (l.length : Int)) = false := by simp; omega
          have hB3 : Buf (w1.alloc (.cells #[.int .i64 x] 3)) w.heap.size R d ((l.take k).map digV) := hB.next (by (repeat (first | exact Below.refl _ _ | assumption | refine lo_alloc ?_ _ | refine lo_set ?_ (by simp; try omega) _ | refine Below.drew ?_ | refine below_drewN ?_ _ | refine lo_trans ?_ (by assumption) | refine lo_wr ?_ (by assumption) (by omega))))
          have hL3 : Below w.heap.size w (w1.alloc (.cells #[.int .i64 x] 3)) := lo_alloc hL _
          have hrd : Rd (w1.alloc (.cells (ints [x]) 3)) (some ⟨w1.heap.size, 0, none⟩) 1 [x] := Rd.of_blk (Blk.new _ _ _)
          have hsz1 := hL.size
          go_wp2_with (at_builtin; refine (wpl_append rfl _ _ rfl w.heap.size R d k ((l.take k).map digV) rfl hyl'.out.symm hB3 _ 1 1 [x] rfl hrd (by omega) (by omega) (by simp; omega) ?_); intro g c' w4 hB4 hg4 hat)
          have hBk := rowA_ge hB3
          have hS : (l.take k).map digV ++ [x] = (l.take (k + 1)).map digV := by rw [hgt'.out, List.map_append, ← hx'.out]; rfl
          rw [hS] at hB4
          go_roundw
          case rel =>
            refine ⟨k + 1, _, c', by omega, by go_num, rfl, hB4, hL3.grown hg4 hL3.size (fun g hg => by have := hBk g hg; omega), fun y hy => ?_, fun _ => h7⟩
            rw [hgt'.out] at hy
            rcases List.mem_append.1 hy with h | h
            · exact hD y h
            · rw [List.mem_singleton.1 h]; exact hc'.out
          case measure => simp [intOf]; omega
        · have g7 : decide ((6 : Int) < (l.length : Int)) = true := by simp; omega
          have hno := Lib.hid (dgs_no (l := l) (fun h => h7 h.1))
          go_wp2
          go_ret
          rw [hno.out]
          exact ⟨none, 0, rfl, Own.nil_ _ _ _, hL⟩
    · obtain rfl : k = l.length := by omega
      have hO := hB.own
      rw [hyl'.out, List.take_length] at hO
      rw [List.take_length] at hD
      have he : Hid (dgs l = l.map digV) := Lib.hid (dgs_yes (by by_cases h : 0 < l.length; exact h6 h; omega) hD)
      have hn : Hid ((dgs l).length = l.length) := Lib.hid (by rw [he.out, List.length_map])
      go_wp2
      go_ret
      refine ⟨R, d, ?_, ?_, hL⟩
      · rw [hn.out]; rfl
      · rw [hn.out, he.out]; exact hO
end Go.Proofs.YtpeiolimdglmhaaGreatDoor

-- Walks: the row that a word denotes.
namespace Go.Proofs.YtpeiolimdglmhaaGreatDoor
open Go.RowKit
set_option maxRecDepth 100000

def cellB (l : Bs) (j : Nat) : Bool := l[j]? == some 35
def rowOk (l : Bs) : Bool := decide (1 ≤ l.length) && decide (l.length ≤ 6) && l.all isCell
theorem mkRow_or (f : Nat → Bool) (j : Nat) : mkRow f j ||| 2 ^ j = mkRow f j + 2 ^ j := by
  apply Nat.eq_of_testBit_eq
  intro i
  rw [Nat.testBit_or, add_pow_testBit (mkRow_lt f j), Nat.testBit_two_pow]
  congr 1
  rw [Bool.eq_iff_iff]
  simp
  exact eq_comm
theorem or_row {f : Nat → Bool} {k : Nat} (hk : k ≤ 6) (h : f k = true) : bits .or .i64 ((mkRow f k : Nat) : Int) (wrap64 (2 ^ k)) = ((mkRow f (k + 1) : Nat) : Int) := by
  have hp := pow_le64 (j := k) (by omega)
  have hp' := pow_int (j := k) (by omega)
  have hm := mkRow_lt64 f k hk
  have e : wrap64 ((2 : Int) ^ k) = ((2 ^ k : Nat) : Int) := by rw [IntWalk.wrap64_in _ (by omega)]; simp
  rw [e, i64_or_nat _ _ (by omega) (by omega), mkRow_or, mkRow_step_t h]

set_option maxHeartbeats 2000000 in
theorem rowFrom_c (l : Bs) (w : World) (hl : l.length ≤ 1048576) : Calls Tryz.prog 118 #[.string (S l)] w fun e w' =>
    ∃ v : Int, e = .returned (.tuple #[.int .i64 v, .bool (rowOk l)]) ∧ (rowOk l = true → v = (rowV l : Int)) ∧ w' = w := by
  have hsz := S_size l
  go_enter Tryz.func118, Tryz.ntmps118
  go_wp2
  go_loop [4, 8] (fun v i => ∃ (k : Nat) (x : Int), k ≤ l.length ∧ i = .int .i64 k ∧ v = .int .i64 x ∧ (k ≤ 6 → x = ((mkRow (cellB l) k : Nat) : Int)) ∧ (∀ c ∈ l.take k, isCell c = true)) (fun _ i => l.length - (intOf i).toNat)
  case atStart => exact ⟨0, 0, Nat.zero_le _, rfl, rfl, fun _ => rfl, fun _ h => by simp at h⟩
  case round =>
    obtain ⟨k, x, hk, rfl, rfl, hx, hD⟩ := hrel
    by_cases hlt : k < l.length
    · have hi := fun w => idx_ok l k hlt w
      have hgt : l.take (k + 1) = l.take k ++ [l[k]?.getD 0] := by rw [take_snoc hlt, List.getElem?_eq_getElem hlt]; rfl
      have hgt' := Lib.hid hgt
      have hmem : l[k]?.getD 0 ∈ l := by rw [List.getElem?_eq_getElem hlt]; exact List.getElem_mem hlt
      have hcb : Hid (cellB l k = (l[k]?.getD 0 == 35)) := Lib.hid (by rw [cellB, List.getElem?_eq_getElem hlt]; rfl)
      clear hgt
      generalize l[k]?.getD 0 = c at hi hgt' hmem hcb
      have hcl := c.toNat_lt
      by_cases h35 : c = 35
      · have g1 : (((c.toNat : Nat) : Int) == 35) = true := by subst h35; rfl
        have hT : Hid (cellB l k = true) := Lib.hid (by rw [hcb.out, h35]; rfl)
        have hOr : Hid (k ≤ 6 → bits .or .i64 x (wrap64 (2 ^ k)) = ((mkRow (cellB l) (k + 1) : Nat) : Int)) := Lib.hid (fun h => by rw [hx h]; exact or_row h hT.out)
        have hc' := Lib.hid h35
        clear hx h35
        go_wp2
        have hm : k ≤ 6 → min k 64 = k := fun h => by omega
        refine ⟨⟨k + 1, _, by omega, by go_num, rfl, fun h => ?_, fun y hy => ?_⟩, by simp [intOf]; omega⟩
        · rw [hm (by omega)]; exact hOr.out (by omega)
        · rw [hgt'.out] at hy
          rcases List.mem_append.1 hy with h | h
          · exact hD y h
          · rw [List.mem_singleton.1 h, hc'.out]; rfl
      · have g1 : (((c.toNat : Nat) : Int) == 35) = false := by
          rw [beq_eq_false_iff_ne]
          intro e
          exact h35 (UInt8.toNat_inj.1 (by show c.toNat = 35; omega))
        by_cases h46 : c = 46
        · have g2 : (((c.toNat : Nat) : Int) == 46) = true := by subst h46; rfl
          have hc' := Lib.hid h46
          clear h46
          go_wp2
          refine ⟨⟨k + 1, x, by omega, by go_num, rfl, fun h => ?_, fun y hy => ?_⟩, by simp [intOf]; omega⟩
          · rw [hx (by omega), mkRow_step_f (by rw [hcb.out, hc'.out]; rfl)]
          · rw [hgt'.out] at hy
            rcases List.mem_append.1 hy with h | h
            · exact hD y h
            · rw [List.mem_singleton.1 h, hc'.out]; rfl
        · have g2 : (((c.toNat : Nat) : Int) == 46) = false := by
            rw [beq_eq_false_iff_ne]
            intro e
            exact h46 (UInt8.toNat_inj.1 (by show c.toNat = 46; omega))
          have hno : Hid (rowOk l = false) := Lib.hid (by
            have : l.all isCell = false := by
              rw [Bool.eq_false_iff, ne_eq, List.all_eq_true]
              intro h
              have := h c hmem
              simp [isCell, h35, h46] at this
            rw [rowOk, this, Bool.and_false])
          clear h35 h46
          go_wp2
          go_ret2
          rw [hno.out]
          exact ⟨0, rfl, ⟨fun h => by simp at h, rfl⟩⟩
    · obtain rfl : k = l.length := by omega
      rw [List.take_length] at hD
      have ha : l.all isCell = true := List.all_eq_true.2 hD
      by_cases h1 : 1 ≤ l.length
      · have g1 : decide ((1 : Int) ≤ (l.length : Int)) = true := by simp; omega
        by_cases h2 : l.length ≤ 6
        · have g2 : decide ((l.length : Int) ≤ 6) = true := by simp; omega
          have hr : Hid (rowOk l = true) := Lib.hid (by rw [rowOk, ha]; simp; omega)
          have hx' := Lib.hid (hx h2)
          clear hx
          go_wp2
          go_ret2
          rw [hr.out]
          exact ⟨x, rfl, fun _ => by rw [hx'.out]; rfl, rfl⟩
        · have g2 : decide ((l.length : Int) ≤ 6) = false := by simp; omega
          have hr : Hid (rowOk l = false) := Lib.hid (by rw [rowOk, ha]; simp; omega)
          go_wp2
          go_ret2
          rw [hr.out]
          exact ⟨x, rfl, fun h => by simp at h, rfl⟩
      · have g1 : decide ((1 : Int) ≤ (l.length : Int)) = false := by simp; omega
        have hr : Hid (rowOk l = false) := Lib.hid (by rw [rowOk, ha]; simp; omega)
        go_wp2
        go_ret2
        rw [hr.out]
        exact ⟨x, rfl, fun h => by simp at h, rfl⟩
end Go.Proofs.YtpeiolimdglmhaaGreatDoor
