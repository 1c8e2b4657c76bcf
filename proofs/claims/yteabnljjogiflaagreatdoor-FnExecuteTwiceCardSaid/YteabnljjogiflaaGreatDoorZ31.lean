/- Plain facts and walks that the law's proof uses; each says its own conditions. -/
import Derived.Test.YteabnljjogiflaaGreatDoorZ17
import Derived.Test.YteabnljjogiflaaGreatDoorZ30
import Derived.Test.YteabnljjogiflaaGreatDoorZ09
import Derived.Test.YteabnljjogiflaaGreatDoorZ16
-- Walks: a list of digits, a number, the row of a word (the reference's way).
namespace Go.Proofs.YteabnljjogiflaaGreatDoor
open Go.RowKit
set_option maxRecDepth 100000

set_option maxHeartbeats 4000000 in
theorem l51List_c (l : Bs) (w : World) (hl : l.length ≤ 1048576) : Calls Tryz.prog 34 #[.string (S l)] w fun e w' =>
    ∃ (R : Option Addr) (d : Nat), e = .returned (.slice R (dgs l).length d) ∧ Own w' w.heap.size R (dgs l).length (dgs l) ∧ Below w.heap.size w w' := by
  have hsz := S_size l
  have hE := Buf.empty w (base := w.heap.size) (Nat.le_refl _)
  have hL0 := lo_alloc (Below.refl w.heap.size w) (.cells #[] 3)
  go_enter Tryz.func34, Tryz.ntmps34
  go_wp2
  go_loopw [3, 4] (fun v i wr => ∃ (k : Nat) (R : Option Addr) (d : Nat), k ≤ l.length ∧ i = .int .i64 k ∧ v = .slice R k d ∧ Buf wr w.heap.size R d ((l.take k).map digV) ∧
      Below w.heap.size w wr ∧ (∀ c ∈ l.take k, isDig c = true) ∧ (0 < k → l.length ≤ 6)) (fun _ i _ => l.length - (intOf i).toNat)
  case atStart => exact ⟨0, _, 0, Nat.zero_le _, rfl, rfl, hE, hL0, fun _ h => by simp at h, fun h => absurd h (by omega)⟩
  case round =>
    obtain ⟨k, R, d, hk, rfl, rfl, hB, hL, hD, h6⟩ := hrel
    clear hE hL0
    have hsz1 := hL.size
    have hyl' : Hid (((l.take k).map digV).length = k) := Lib.hid (by rw [List.length_map, List.length_take]; omega)
    by_cases hlt : k < l.length
    · have hi := fun w => idx_ok l k hlt w
      have hgt : l.take (k + 1) = l.take k ++ [l[k]?.getD 0] := by rw [take_snoc hlt, List.getElem?_eq_getElem hlt]; rfl
      have hgt' := Lib.hid hgt
      have hmem : l[k]?.getD 0 ∈ l := by rw [List.getElem?_eq_getElem hlt]; exact List.getElem_mem hlt
      clear hgt
      generalize l[k]?.getD 0 = c at hi hgt' hmem
      have hcl := c.toNat_lt
      by_cases h7 : l.length ≤ 6
      · have g7 : decide ((6 : Int) < (l.length : Int)) = false := by simp; omega
        have hno : isDig c = false → Hid (dgs l = []) := fun h => Lib.hid (dgs_no (l := l) (fun h2 => by have := h2.2 c hmem; rw [h] at this; cases this))
        by_cases h1 : 48 ≤ c.toNat
        · have g1 : decide (((c.toNat : Nat) : Int) < 48) = false := by simp; omega
          by_cases h2 : c.toNat ≤ 57
          · have g2 : decide ((57 : Int) < ((c.toNat : Nat) : Int)) = false := by simp; omega
            have hd : Hid (isDig c = true) := Lib.hid (isDig_iff.2 ⟨h1, h2⟩)
            have e1 : IntKind.u8.wrap (((c.toNat : Nat) : Int) - 48) = ((c.toNat - 48 : Nat) : Int) := by
              simp [IntKind.wrap, IntKind.bits, IntKind.signed]
              omega
            have e2 : IntKind.i64.wrap (((c.toNat - 48 : Nat) : Nat) : Int) = ((c.toNat - 48 : Nat) : Int) := IntWalk.i64_in _ (by omega)
            have hx : Hid (digV c = ((c.toNat - 48 : Nat) : Int)) := Lib.hid (by unfold digV; omega)
            have hB3 : Buf (wr.alloc (.cells #[.int .i64 ((c.toNat - 48 : Nat) : Int)] 3)) w.heap.size R d ((l.take k).map digV) := hB.next (lo_alloc (Below.refl _ _) _)
            have hL3 : Below w.heap.size w (wr.alloc (.cells #[.int .i64 ((c.toNat - 48 : Nat) : Int)] 3)) := lo_alloc hL _
            have hrd : Rd (wr.alloc (.cells (ints [((c.toNat - 48 : Nat) : Int)]) 3)) (some ⟨wr.heap.size, 0, none⟩) 1 [((c.toNat - 48 : Nat) : Int)] := Rd.of_blk (Blk.new _ _ _)
            clear hno h1 h2
            generalize ((c.toNat - 48 : Nat) : Int) = x at e1 e2 hx hB3 hL3 hrd
            go_wp2_with (at_builtin; refine (wpl_append rfl _ _ rfl w.heap.size R d k ((l.take k).map digV) rfl hyl'.out.symm hB3 _ 1 1 [x] rfl hrd (by omega) (by omega) (by simp; omega) ?_); intro g c' w4 hB4 hg4 hat)
            have hBk := rowA_ge hB3
            have hS : (l.take k).map digV ++ [x] = (l.take (k + 1)).map digV := by rw [hgt'.out, List.map_append, ← hx.out]; rfl
            rw [hS] at hB4
            go_roundw
            case rel =>
              refine ⟨k + 1, _, c', by omega, by go_num, rfl, hB4, hL3.grown hg4 hL3.size (fun g hg => by have := hBk g hg; omega), fun y hy => ?_, fun _ => h7⟩
              rw [hgt'.out] at hy
              rcases List.mem_append.1 hy with h | h
              · exact hD y h
              · rw [List.mem_singleton.1 h]; exact hd.out
            case measure => simp [intOf]; omega
          · have g2 : decide ((57 : Int) < ((c.toNat : Nat) : Int)) = true := by simp; omega
            have hn := hno (by rw [Bool.eq_false_iff, ne_eq, isDig_iff]; omega)
            clear hno
            have hL9 := lo_alloc hL (.cells #[] 3)
            go_wp2
            go_ret
            rw [hn.out]
            exact ⟨_, 0, rfl, Own.nil_ _ _ _, hL9⟩
        · have g1 : decide (((c.toNat : Nat) : Int) < 48) = true := by simp; omega
          have hn := hno (by rw [Bool.eq_false_iff, ne_eq, isDig_iff]; omega)
          clear hno
          have hL9 := lo_alloc hL (.cells #[] 3)
          go_wp2
          go_ret
          rw [hn.out]
          exact ⟨_, 0, rfl, Own.nil_ _ _ _, hL9⟩
      · have g7 : decide ((6 : Int) < (l.length : Int)) = true := by simp; omega
        have hno := Lib.hid (dgs_no (l := l) (fun h => h7 h.1))
        have hL9 := lo_alloc hL (.cells #[] 3)
        go_wp2
        go_ret
        rw [hno.out]
        exact ⟨_, 0, rfl, Own.nil_ _ _ _, hL9⟩
    · obtain rfl : k = l.length := by omega
      have hO := hB.own
      rw [hyl'.out, List.take_length] at hO
      rw [List.take_length] at hD
      have he : Hid (dgs l = l.map digV) := Lib.hid (dgs_yes (by by_cases h : 0 < l.length; exact h6 h; omega) hD)
      have hn : Hid ((dgs l).length = l.length) := Lib.hid (by rw [he.out, List.length_map])
      go_wp2
      go_ret
      refine ⟨R, d, ?_, ?_, hL⟩
      · rw [hn.out]; rfl
      · rw [hn.out, he.out]; exact hO

theorem dgt_one {l : Bs} (h : (dgs l).length = 1) : (dgs l)[0]? = some (dgt l) := by
  match l with
  | [] => simp [dgs] at h
  | [c] =>
    cases hc : isDig c with
    | false => simp [dgs, hc] at h
    | true => simp [dgs, dgt, hc]
  | a :: b :: t =>
    unfold dgs at h
    split at h
    · simp at h
    · simp at h
theorem dgt_not {l : Bs} (h : (dgs l).length ≠ 1) : dgt l = -1 := by
  match l with
  | [] => rfl
  | [c] =>
    cases hc : isDig c with
    | false => simp [dgt, hc]
    | true => simp [dgs, hc] at h
  | a :: b :: t => rfl
set_option maxHeartbeats 1000000 in
theorem l51Number_c (l : Bs) (w : World) (hl : l.length ≤ 1048576) : Calls Tryz.prog 42 #[.string (S l)] w fun e w' => e = .returned (.int .i64 (dgt l)) ∧ Below w.heap.size w w' := by
  have hd6 := dgs_len l
  by_cases h1 : (dgs l).length = 1
  · have hv := Lib.hid (dgt_one h1)
    have h1' := Lib.hid h1
    clear h1
    go_enter Tryz.func42, Tryz.ntmps42
    go_wp2_with fail
    refine (l51List_c l _ hl).mono ?_
    rw [h1'.out]
    rintro e w1 ⟨R, d, rfl, hO, hb⟩
    obtain ⟨g, rfl, _, _, hc⟩ := hO.at_ (k := 0) (by omega)
    rw [hv.out, Option.getD_some] at hc
    go_wp2
    go_ret
    exact ⟨rfl, hb⟩
  · have hv := Lib.hid (dgt_not h1)
    have g1 : ((((dgs l).length : Nat) : Int) != 1) = true := by simp; omega
    clear h1
    go_enter Tryz.func42, Tryz.ntmps42
    go_wp2_with fail
    refine (l51List_c l _ hl).mono ?_
    rintro e w1 ⟨R, d, rfl, hO, hb⟩
    generalize (dgs l).length = n at g1 hd6 ⊢
    go_wp2
    go_ret
    rw [hv.out]
    exact ⟨rfl, hb⟩

set_option maxHeartbeats 2000000 in
theorem l1Row_c (l : Bs) (w : World) (hl : l.length ≤ 6) : Calls Tryz.prog 71 #[.string (S l)] w fun e w' => e = .returned (.int .i64 (rowV l : Int)) ∧ w = w' := by
  have hsz := S_size l
  rw [rowV_def]
  go_enter Tryz.func71, Tryz.ntmps71
  go_wp2
  go_loop [3, 4] (fun v i => ∃ k : Nat, k ≤ l.length ∧ i = .int .i64 k ∧ v = .int .i64 ((mkRow (cellB l) k : Nat) : Int)) (fun _ i => l.length - (intOf i).toNat)
  case atStart => exact ⟨0, Nat.zero_le _, rfl, rfl⟩
  case round =>
    obtain ⟨k, hk, rfl, rfl⟩ := hrel
    by_cases hlt : k < l.length
    · have hi := fun w => idx_ok l k hlt w
      have g6 : decide (((k : Nat) : Int) < 6) = true := by simp; omega
      have hcb : Hid (cellB l k = (l[k]?.getD 0 == 35)) := Lib.hid (by rw [cellB, List.getElem?_eq_getElem hlt]; rfl)
      have hm := mkRow_lt64 (cellB l) k (by omega)
      have hm2 := mkRow_lt64 (cellB l) (k + 1) (by omega)
      generalize l[k]?.getD 0 = c at hi hcb
      have hcl := c.toNat_lt
      by_cases h35 : c = 35
      · have g1 : (((c.toNat : Nat) : Int) == 35) = true := by subst h35; rfl
        have hT := mkRow_step_t (f := cellB l) (j := k) (by rw [hcb.out, h35]; rfl)
        have hT' := Lib.hid hT
        have hpl : 2 ^ k < 64 := by omega
        have hpi : ((2 : Int) ^ k) = ((2 ^ k : Nat) : Int) := by simp
        clear h35 hT hm2
        generalize mkRow (cellB l) k = a at hT' hm ⊢
        go_wp2_with fail
        refine (l1Power_c (k : Int) _ (by omega) (by omega)).mono ?_
        rw [Int.toNat_natCast, hpi]
        rintro e w1 ⟨rfl, rfl⟩
        generalize 2 ^ k = b at hT' hpl ⊢
        clear hpi
        go_wp2
        refine ⟨⟨k + 1, by omega, by go_num, by rw [hT'.out]; go_num⟩, by simp [intOf]; omega⟩
      · have g1 : (((c.toNat : Nat) : Int) == 35) = false := by
          rw [beq_eq_false_iff_ne]
          intro e
          exact h35 (UInt8.toNat_inj.1 (by show c.toNat = 35; omega))
        have hT' := Lib.hid (mkRow_step_f (f := cellB l) (j := k) (by rw [hcb.out, beq_eq_false_iff_ne]; exact h35))
        clear h35
        go_wp2
        refine ⟨⟨k + 1, by omega, by go_num, by rw [hT'.out]⟩, by simp [intOf]; omega⟩
    · obtain rfl : k = l.length := by omega
      go_wp2
      go_ret
      exact ⟨rfl, rfl⟩
end Go.Proofs.YteabnljjogiflaaGreatDoor
