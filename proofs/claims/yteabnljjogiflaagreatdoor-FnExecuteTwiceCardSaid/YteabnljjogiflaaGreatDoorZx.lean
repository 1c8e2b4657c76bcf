/- Further plain facts and walks that the law's proof uses; each says its own conditions. -/
import Derived.Lib.Split
import Derived.Lib.SplitLaws
import Derived.Test.YteabnljjogiflaaGreatDoorZ02
import Derived.Test.YteabnljjogiflaaGreatDoorZ22
import Derived.Test.YteabnljjogiflaaGreatDoorZ10
import Derived.Deep.AppendLies
import Derived.Test.YteabnljjogiflaaGreatDoorZ20
import Derived.Test.YteabnljjogiflaaGreatDoorZ08
import Derived.Test.YteabnljjogiflaaGreatDoorZ27
import Derived.Test.YteabnljjogiflaaGreatDoorZ28
import Derived.Test.YteabnljjogiflaaGreatDoorZ30
import Derived.Test.YteabnljjogiflaaGreatDoorZ09
import Derived.WalkLawsBesides
import Derived.Test.YteabnljjogiflaaGreatDoorZ17
-- MathP
namespace Go.Proofs.YteabnljjogiflaaGreatDoor
open Go
theorem pcs_ends {c : UInt8} : ∀ {s : List UInt8}, ∀ p ∈ pcs c s, c ∉ p
  | [], p, hp => by
    rw [pcs, List.mem_singleton] at hp
    subst hp
    simp
  | x :: s, p, hp => by
    by_cases h : x = c
    · subst h
      rw [pcs_hit, List.mem_cons] at hp
      rcases hp with rfl | hp
      · simp
      · exact pcs_ends p hp
    · obtain ⟨q, qs, e⟩ := pcs_some c s
      rw [pcs_miss h e, List.mem_cons] at hp
      rcases hp with rfl | hp
      · intro hc
        rcases List.mem_cons.1 hc with rfl | hc
        · exact h rfl
        · exact pcs_ends q (by rw [e]; exact List.mem_cons_self ..) hc
      · exact pcs_ends p (by rw [e]; exact List.mem_cons_of_mem _ hp)
end Go.Proofs.YteabnljjogiflaaGreatDoor
-- MathSc
namespace Go.Proofs.YteabnljjogiflaaGreatDoor
open Go
theorem exec_add {t l : Bs} (h : Full t) (hl : (10 : UInt8) ∉ l) (hn : t.length + l.length + 1 ≤ 400) :
    execT (t ++ l ++ [10]) = (lineS (runS (linesOf t)) l).2 ++ cellsT (lineS (runS (linesOf t)) l).1 := by
  rw [execT, if_neg (by simp; omega), (h.add hl).2, runS_snoc]
/-- a text that is empty or ends in a newline (its end) -/
def EndN (t : Bs) : Prop := t = [] ∨ ∃ u, t = u ++ [10]
theorem EndN.app {t u : Bs} (h : EndN t) (k : EndN u) : EndN (t ++ u) := by
  rcases k with rfl | ⟨v, rfl⟩
  · simpa using h
  · exact .inr ⟨t ++ v, by simp⟩
theorem become_end (s : Ig) (o : Option Ig) : ∃ u, (become s o).2 = u ++ [10] := by
  cases o <;> exact ⟨_, rfl⟩
theorem askO_end (s : Ig) (o : Option Bs) : ∃ u, (askO s o).2 = u ++ [10] := by
  cases o <;> exact ⟨_, rfl⟩
theorem ite_end {c : Prop} [Decidable c] {a b : Ig × Bs} (h : ∃ u, a.2 = u ++ [10]) (k : ∃ u, b.2 = u ++ [10]) : ∃ u, (if c then a else b).2 = u ++ [10] := by
  split
  · exact h
  · exact k
theorem stepS_end (s : Ig) (ws : List Bs) : ∃ u, (stepS s ws).2 = u ++ [10] := by
  unfold stepS
  repeat' refine ite_end ?_ ?_
  all_goals first
    | exact become_end _ _
    | exact askO_end _ _
    | exact ⟨_, rfl⟩
theorem foldS_end : ∀ (ls : List Bs) (st : Ig × Bs), EndN st.2 → EndN (ls.foldl lineS st).2
  | [], _, h => h
  | l :: ls, st, h => foldS_end ls (lineS st l) (h.app (.inr (stepS_end _ _)))
theorem runS_end (ls : List Bs) : EndN (runS ls).2 := foldS_end ls _ (.inl rfl)

/-- the last line -/
def lastL (o : Bs) : Bs := ((o.dropLast.reverse.takeWhile (fun c => c != 10)).reverse) ++ o.getLast?.toList
theorem lastL_of {p q : Bs} (hp : EndN p) (hq : (10 : UInt8) ∉ q) : lastL (p ++ (q ++ [10])) = q ++ [10] := by
  have e1 : p ++ (q ++ [10]) = (p ++ q) ++ [10] := by simp
  have hq' : ∀ c ∈ q.reverse, (c != 10) = true := fun c hc => by
    have : c ≠ 10 := fun e => hq (by rw [← e]; exact List.mem_reverse.1 hc)
    simpa using this
  rw [e1, lastL, List.dropLast_concat, List.getLast?_concat, List.reverse_append, List.takeWhile_append_of_pos hq']
  have e2 : (p.reverse).takeWhile (fun c => c != 10) = [] := by
    rcases hp with rfl | ⟨u, rfl⟩
    · rfl
    · simp
  rw [e2]
  simp
theorem dec2_no10 {n : Nat} (h : n < 100) : (10 : UInt8) ∉ dec2 n := by
  revert n
  decide
theorem cells_no10 (s : Ig) : (10 : UInt8) ∉ tCells ++ dec2 (manyI s) := by
  intro h
  rcases List.mem_append.1 h with h | h
  · revert h; decide
  · exact dec2_no10 (manyI_lt s) h
theorem exec_last {t : Bs} (hn : t.length ≤ 400) : lastL (execT t) = cellsT (runS (linesOf t)).1 ∧ ∃ o, o = (runS (linesOf t)).2 ∧ execT t = o ++ cellsT (runS (linesOf t)).1 := by
  rw [exec_at hn]
  refine ⟨?_, _, rfl, rfl⟩
  exact lastL_of (runS_end _) (cells_no10 _)

/-- the part of a text up to its last newline -/
def complT (t : Bs) : Bs := (t.reverse.dropWhile (fun c => c != 10)).reverse
theorem compl_spec (t : Bs) : Full (complT t) ∧ linesOf (complT t) = linesOf t ∧ (complT t).length ≤ t.length := by
  obtain ⟨d, u, e⟩ : ∃ d u, pcs 10 t = d ++ [u] := ⟨_, _, (List.dropLast_concat_getLast (pcs_ne 10 t)).symm⟩
  obtain ⟨p, hp, hl⟩ := pcs_sum e
  have hu : (10 : UInt8) ∉ u := pcs_ends u (by rw [e]; simp)
  have hc : complT t = p := by
    have hu' : ∀ c ∈ u.reverse, (c != 10) = true := fun c hc => by
      have : c ≠ 10 := fun e => hu (by rw [← e]; exact List.mem_reverse.1 hc)
      simpa using this
    rw [complT, hp, List.reverse_append, List.dropWhile_append_of_pos hu']
    have e2 : (p.reverse).dropWhile (fun c => c != 10) = p.reverse := by
      rcases List.eq_nil_or_concat p with rfl | ⟨q, x, rfl⟩
      · rfl
      · have hx : x = 10 := by
          rcases Classical.em (x = 10) with h | h
          · exact h
          · exfalso
            have e3 : pcs 10 (q ++ x :: u) = d ++ [u] := by rw [← e, hp]; simp
            obtain ⟨d', u', e4⟩ : ∃ d u, pcs 10 q = d ++ [u] := ⟨_, _, (List.dropLast_concat_getLast (pcs_ne 10 q)).symm⟩
            have e5 : ∀ (l v : Bs), (10 : UInt8) ∉ l → ∀ s, pcs 10 s = d' ++ [v] → pcs 10 (s ++ l) = d' ++ [v ++ l] := by
              intro l
              induction l with
              | nil => intro v _ s h; simpa using h
              | cons y l ih =>
                intro v hx s h
                have h1 : y ≠ 10 := fun e => hx (by rw [e]; exact List.mem_cons_self ..)
                have h2 := ih (v ++ [y]) (fun e => hx (List.mem_cons_of_mem _ e)) (s ++ [y]) (pcs_snoc h1 h)
                simpa using h2
            have e6 := e5 (x :: u) u' (by simp; exact ⟨fun e => h e.symm, hu⟩) q e4
            rw [e3] at e6
            have e7 := congrArg List.getLast? e6
            simp at e7
            have := congrArg List.length e7
            simp at this
            omega
        subst hx
        simp
    rw [e2, List.reverse_reverse]
  have hfull : pcs 10 p = d ++ [[]] := by
    rcases List.eq_nil_or_concat p with rfl | ⟨q, x, rfl⟩
    · cases d with
      | nil => rfl
      | cons a d => exfalso; rw [List.map_cons, List.sum_cons, List.length_nil] at hl; omega
    · have hx : x = 10 := by
        rw [complT] at hc
        have h1 : ((t.reverse.dropWhile (fun c => c != 10)).reverse).getLast? = some x := by rw [hc]; simp
        rw [List.getLast?_reverse] at h1
        have h2 := List.head?_dropWhile_not (fun c => c != 10) t.reverse
        rw [h1] at h2
        simpa using h2
      subst hx
      have e3 : t = q ++ 10 :: u := by rw [hp]; simp
      have e4 : pcs 10 (q ++ 10 :: u) = pcs 10 q ++ pcs 10 u := pcs_cat 10 q u
      rw [pcs_none hu, ← e3, e] at e4
      have e5 := List.append_inj_left' e4 rfl
      have e6 : pcs 10 (q ++ [10]) = pcs 10 q ++ pcs 10 [] := pcs_cat 10 q []
      have e7 : pcs 10 (q ++ [10]) = d ++ [[]] := by rw [e6, ← e5]; rfl
      simpa using e7
  rw [hc]
  refine ⟨⟨d, hfull⟩, ?_, ?_⟩
  · rw [linesOf, linesOf, hfull, e, List.dropLast_concat, List.dropLast_concat]
  · rw [hp]; simp
end Go.Proofs.YteabnljjogiflaaGreatDoor
-- Str
namespace Go.Proofs.YteabnljjogiflaaGreatDoor
open Go.RowKit
set_option maxRecDepth 100000
theorem slt_ok (l : Bs) (b : Nat) (hb : b ≤ l.length) (w : World) : (Instr.slice 9 (.string (S l)) none (some (.int .i64 (b : Int))) none).run Tryz.prog w = .ok (.string (S (l.take b))) w := by
  rw [run_slice_string_to_if (P := Tryz.prog) w 9 (S l) .i64 b Tryz.underlying9, if_pos ⟨by omega, by rw [S_size]; omega⟩, Int.toNat_natCast, S_ext]
  simp
end Go.Proofs.YteabnljjogiflaaGreatDoor
