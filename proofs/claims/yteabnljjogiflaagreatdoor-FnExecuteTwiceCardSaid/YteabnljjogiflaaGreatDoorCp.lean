
/- Walks: a script up to its last newline; the last line of what is said; a script with a line more. -/
import Derived.Test.YteabnljjogiflaaGreatDoorZx
import Derived.Test.YteabnljjogiflaaGreatDoorDz
import Derived.Test.YteabnljjogiflaaGreatDoorZ42
import Derived.Test.YteabnljjogiflaaGreatDoorZ44
namespace Go.Proofs.YteabnljjogiflaaGreatDoor
open Go.RowKit
set_option maxRecDepth 100000

theorem ne10_all {l : Bs} (h : ∀ c ∈ l, c ≠ 10) : ∀ c ∈ l, (c != 10) = true := fun c hc => by simpa using h c hc
theorem compl_hit {t : Bs} {p : Nat} (hp : p < t.length) (hx : t[p]?.getD 0 = 10) (h : ∀ c ∈ t.drop (p + 1), c ≠ 10) : complT t = t.take (p + 1) := by
  have e1 : t = (t.take p ++ [10]) ++ t.drop (p + 1) := by
    rw [List.getElem?_eq_getElem hp, Option.getD_some] at hx
    rw [← hx, ← List.take_succ_eq_append_getElem hp, List.take_append_drop]
  have e2 : t.take (p + 1) = t.take p ++ [10] := by
    rw [List.getElem?_eq_getElem hp, Option.getD_some] at hx
    rw [List.take_succ_eq_append_getElem hp, hx]
  rw [e2]
  generalize t.take p = a at e1
  generalize t.drop (p + 1) = b at e1 h
  subst e1
  rw [complT, List.reverse_append, List.dropWhile_append_of_pos (fun c hc => ne10_all h c (List.mem_reverse.1 hc))]
  simp
theorem compl_none {t : Bs} (h : ∀ c ∈ t, c ≠ 10) : complT t = [] := by
  rw [complT]
  have := List.dropWhile_append_of_pos (l₁ := t.reverse) (l₂ := []) (p := fun c => c != 10) (fun c hc => ne10_all h c (List.mem_reverse.1 hc))
  rw [List.append_nil] at this
  rw [this]
  rfl
theorem drop_ne {t : Bs} {p : Nat} (hp : p < t.length) (hx : t[p]?.getD 0 ≠ 10) (h : ∀ c ∈ t.drop (p + 1), c ≠ 10) : ∀ c ∈ t.drop p, c ≠ 10 := by
  intro c hc
  rw [List.drop_eq_getElem_cons hp] at hc
  rcases List.mem_cons.1 hc with rfl | h1
  · rwa [List.getElem?_eq_getElem hp, Option.getD_some] at hx
  · exact h c h1

set_option maxHeartbeats 2000000 in
theorem complete_c (t : Bs) (w : World) (hl : t.length ≤ 1048576) : Calls Tryz.prog 13 #[.string (S t)] w fun e w' => e = .returned (.string (S (complT t))) ∧ w = w' := by
  have hsz := S_size t
  go_enter Tryz.func13, Tryz.ntmps13
  go_wp2
  go_loop [3] (fun i => ∃ k : Nat, k ≤ t.length ∧ i = .int .i64 k ∧ Hid (∀ c ∈ t.drop k, c ≠ 10)) (fun i => (intOf i).toNat)
  case atStart => exact ⟨t.length, Nat.le_refl _, rfl, Lib.hid (fun c hc => by simp at hc)⟩
  case round =>
    obtain ⟨k, hk, rfl, hI⟩ := hrel
    rcases Nat.eq_zero_or_pos k with rfl | h0
    · have hT := Lib.hid (compl_none (fun c hc => hI.out c (by simpa using hc)))
      go_wp2
      go_ret
      rw [hT.out]
      exact ⟨rfl, rfl⟩
    · obtain ⟨p, rfl⟩ : ∃ p, k = p + 1 := ⟨k - 1, by omega⟩
      have hpl : p < t.length := by omega
      have hi := fun w => idx_ok t p hpl w
      have hx := fun (h : t[p]?.getD 0 = 10) => Lib.hid (compl_hit hpl h hI.out)
      have hy := fun (h : t[p]?.getD 0 ≠ 10) => Lib.hid (drop_ne hpl h hI.out)
      have hsl := fun w => slt_ok t (p + 1) (by omega) w
      have w1 : IntKind.i64.wrap ((p : Int) + 1 - 1) = (p : Int) := by rw [Int.add_sub_cancel]; exact IntWalk.i64_in _ (by omega)
      have w2 : IntKind.i64.wrap (((p + 1 : Nat) : Int) - 1) = (p : Int) := by rw [Int.natCast_add, Int.natCast_one]; exact w1
      have w3 : ((p + 1 : Nat) : Int) = (p : Int) + 1 := by omega
      rw [w3] at hsl
      have hxb := (t[p]?.getD 0).toNat_lt
      generalize t[p]?.getD 0 = x at hi hx hy hxb
      by_cases h10 : x = 10
      · have g1 : (((x.toNat : Nat) : Int) == 10) = true := by subst h10; rfl
        have hT := hx h10
        clear hx hy h10
        go_wp2
        go_ret
        rw [hT.out]
        exact ⟨rfl, rfl⟩
      · have g1 : (((x.toNat : Nat) : Int) == 10) = false := by
          rw [beq_eq_false_iff_ne]
          intro e
          exact h10 (UInt8.toNat_inj.1 (by show x.toNat = 10; omega))
        have hN := hy h10
        clear hx hy h10
        go_wp2
        go_round
        case rel => exact ⟨p, by omega, by first | rfl | go_num, hN⟩
        case measure => clear w1 w2 w3; simp [intOf]; try omega

theorem last_parts {o : Bs} (h : o ≠ []) : o = o.dropLast ++ [o.getLast h] ∧ o.getLast?.toList = [o.getLast h] := by
  refine ⟨(List.dropLast_concat_getLast h).symm, ?_⟩
  rcases List.eq_nil_or_concat o with rfl | ⟨a, x, rfl⟩
  · exact absurd rfl h
  · simp
theorem last_hit {o : Bs} {p : Nat} (hp : p + 1 < o.length) (hx : o[p]?.getD 0 = 10) (h : ∀ c ∈ o.dropLast.drop (p + 1), c ≠ 10) : lastL o = o.drop (p + 1) := by
  have hne : o ≠ [] := by rintro rfl; simp at hp
  obtain ⟨e1, e2⟩ := last_parts hne
  have hpd : p < o.dropLast.length := by rw [List.length_dropLast]; omega
  have hxd : o.dropLast[p] = 10 := by
    rw [List.getElem?_eq_getElem (by omega), Option.getD_some] at hx
    rw [List.getElem_dropLast]
    exact hx
  rw [lastL, e2]
  have e3 : o.drop (p + 1) = o.dropLast.drop (p + 1) ++ [o.getLast hne] := by
    conv => lhs; rw [e1]
    rw [List.drop_append_of_le_length (by omega)]
  rw [e3]
  have e4 : o.dropLast = (o.dropLast.take p ++ [10]) ++ o.dropLast.drop (p + 1) := by
    rw [← hxd, ← List.take_succ_eq_append_getElem hpd, List.take_append_drop]
  congr 1
  generalize o.dropLast.drop (p + 1) = b at e4 h
  generalize o.dropLast.take p = a at e4
  rw [e4, List.reverse_append, List.takeWhile_append_of_pos (fun c hc => ne10_all h c (List.mem_reverse.1 hc))]
  simp
theorem last_none {o : Bs} (h : ∀ c ∈ o.dropLast, c ≠ 10) : lastL o = o := by
  rcases Classical.em (o = []) with rfl | hne
  · rfl
  · obtain ⟨e1, e2⟩ := last_parts hne
    rw [lastL, e2]
    have := List.takeWhile_append_of_pos (l₁ := o.dropLast.reverse) (l₂ := []) (p := fun c => c != 10) (fun c hc => ne10_all h c (List.mem_reverse.1 hc))
    rw [List.append_nil] at this
    rw [this]
    simp only [List.takeWhile_nil, List.append_nil, List.reverse_reverse]
    exact e1.symm

set_option maxHeartbeats 2000000 in
theorem lastLine_c (o : Bs) (w : World) (hl : o.length ≤ 1000000000) : Calls Tryz.prog 14 #[.string (S o)] w fun e w' => e = .returned (.string (S (lastL o))) ∧ w = w' := by
  have hsz := S_size o
  by_cases h2 : o.length < 2
  · have hT := Lib.hid (show lastL o = o by
      refine last_none (fun c hc => ?_)
      have : o.dropLast.length = 0 := by rw [List.length_dropLast]; omega
      rw [List.eq_nil_of_length_eq_zero this] at hc
      cases hc)
    have g0 : decide ((0 : Int) ≤ (o.length : Int) - 2) = false := decide_eq_false (by omega)
    go_enter Tryz.func14, Tryz.ntmps14
    go_wp2
    go_loop [3] (fun i => i = .int .i64 ((o.length : Int) - 2)) (fun _ => 0)
    case atStart => rfl
    case round =>
      subst hrel
      go_wp2
      go_ret
      rw [hT.out]
      exact ⟨rfl, rfl⟩
  · go_enter Tryz.func14, Tryz.ntmps14
    go_wp2
    go_loop [3] (fun i => ∃ (k : Nat) (z : Int), k + 1 ≤ o.length ∧ z + 1 = (k : Int) ∧ i = .int .i64 z ∧ Hid (∀ c ∈ o.dropLast.drop k, c ≠ 10)) (fun i => (intOf i + 1).toNat)
    case atStart => exact ⟨o.length - 1, (o.length : Int) - 2, by omega, by omega, rfl, Lib.hid (fun c hc => by
      rw [List.drop_eq_nil_of_le (by rw [List.length_dropLast]; exact Nat.le_refl _)] at hc
      cases hc)⟩
    case round =>
      obtain ⟨k, z, hk, hz, rfl, hI⟩ := hrel
      rcases Nat.eq_zero_or_pos k with rfl | h0
      · obtain rfl : z = -1 := by omega
        have hT := Lib.hid (last_none (fun c hc => hI.out c (by simpa using hc)))
        go_wp2
        go_ret
        rw [hT.out]
        exact ⟨rfl, rfl⟩
      · obtain ⟨p, rfl⟩ : ∃ p, k = p + 1 := ⟨k - 1, by omega⟩
        obtain rfl : z = (p : Int) := by omega
        have hpl : p < o.length := by omega
        have hi := fun w => idx_ok o p hpl w
        have hx := fun (h : o[p]?.getD 0 = 10) => Lib.hid (last_hit (p := p) (by omega) h hI.out)
        have hdp : o.dropLast[p]?.getD 0 = o[p]?.getD 0 := by
          rw [List.getElem?_eq_getElem (by rw [List.length_dropLast]; omega), List.getElem?_eq_getElem hpl, Option.getD_some, Option.getD_some, List.getElem_dropLast]
        have hy := fun (h : o[p]?.getD 0 ≠ 10) => Lib.hid (drop_ne (t := o.dropLast) (p := p) (by rw [List.length_dropLast]; omega) (by rw [hdp]; exact h) hI.out)
        have hsl := fun w => slf_ok o (p + 1) (by omega) w
        have w3 : ((p + 1 : Nat) : Int) = (p : Int) + 1 := by omega
        rw [w3] at hsl
        have hxb := (o[p]?.getD 0).toNat_lt
        have gz : decide ((0 : Int) ≤ (p : Int)) = true := decide_eq_true (by omega)
        have hp64 : (p : Int) + 1 ≤ 1000000000 := by omega
        have hp0 : (0 : Int) ≤ (p : Int) + 1 := by omega
        generalize o[p]?.getD 0 = x at hi hx hy hxb
        clear hdp w3 hz
        by_cases h10 : x = 10
        · have g1 : (((x.toNat : Nat) : Int) == 10) = true := by subst h10; rfl
          have hT := hx h10
          clear hx hy h10
          go_wp2
          go_ret
          rw [hT.out]
          exact ⟨rfl, rfl⟩
        · have g1 : (((x.toNat : Nat) : Int) == 10) = false := by
            rw [beq_eq_false_iff_ne]
            intro e
            exact h10 (UInt8.toNat_inj.1 (by show x.toNat = 10; omega))
          have hN := hy h10
          clear hx hy h10
          go_wp2
          go_round
          case rel => exact ⟨p, (p : Int) - 1, by omega, by omega, rfl, hN⟩
          case measure => simp [intOf]; try omega

/-- a script with a line more: what was said before, what the line says, the count of cells -/
theorem exec_more {c : Bs} (hf : Full c) (hc : c.length ≤ 400) : ∃ (o : Bs) (s : Ig), execT c = o ++ cellsT s ∧ lastL (execT c) = cellsT s ∧
    ∀ l : Bs, (10 : UInt8) ∉ l → c.length + l.length + 1 ≤ 400 → execT (c ++ (l ++ [10])) = (o ++ (stepS s (pcs 32 l)).2) ++ cellsT (stepS s (pcs 32 l)).1 := by
  obtain ⟨h1, o, h2, h3⟩ := exec_last hc
  refine ⟨o, (runS (linesOf c)).1, h3, h1, fun l hl hn => ?_⟩
  have := exec_add hf hl hn
  rw [← List.append_assoc, this, lineS, ← h2]
theorem cellsT_len (s : Ig) : (cellsT s).length ≤ 9 := by
  have := dec2_len (manyI s)
  simp [cellsT, tCells]
  omega
theorem foldS_len : ∀ (ls : List Bs) (st : Ig × Bs), (ls.foldl lineS st).2.length ≤ st.2.length + 1001 * ls.length
  | [], _ => by simp
  | l :: ls, st => by
    have h1 := foldS_len ls (lineS st l)
    have h2 := stepS_len st.1 (pcs 32 l)
    rw [List.foldl_cons, List.length_cons]
    simp only [lineS, List.length_append] at h1 ⊢
    omega
theorem execT_len (t : Bs) : (execT t).length ≤ 1000000 := by
  by_cases h : 400 < t.length
  · rw [execT, if_pos h]; decide
  · rw [exec_at (by omega), List.length_append]
    have h1 := foldS_len (linesOf t) ((0, []), [])
    have h2 : (linesOf t).length ≤ 400 := by
      have := pcs_len 10 t
      rw [linesOf, List.length_dropLast]
      omega
    have h3 := cellsT_len (runS (linesOf t)).1
    have h4 : (runS (linesOf t)).2.length ≤ 0 + 1001 * (linesOf t).length := h1
    omega
end Go.Proofs.YteabnljjogiflaaGreatDoor
