
/- A queue of numbers: a slice of one's own that is cut at its head and appended to at its end. -/
import Derived.Test.YtkcdoacojiilaaaGreatKb
import Derived.ArgAppend
import Derived.Deep.AppendLies
namespace Go.Proofs.YtkcdoacojiilaaaGreat
open Go.RowKit
set_option maxRecDepth 100000

/-- the slice at A with capacity c holds the numbers xs, in a block of one's own -/
def Qi (w : World) (lo : Nat) (A : Option Addr) (c : Nat) (xs : List Int) : Prop :=
  xs.length ≤ c ∧ ((A = none ∧ c = 0) ∨ ∃ g off cs, A = some ⟨g, off, none⟩ ∧ lo ≤ g ∧ Blk w g 3 cs ∧ off + c ≤ cs.size ∧ ∀ (k : Nat) (x : Int), xs[k]? = some x → cs[off + k]? = some (.int .i64 x))
theorem Qi.nil_ (w : World) (lo : Nat) : Qi w lo none 0 [] := ⟨Nat.le_refl _, .inl ⟨rfl, rfl⟩⟩
theorem Qi.kept {w w' : World} {lo c : Nat} {A : Option Addr} {xs : List Int} (h : Qi w lo A c xs) {row : Option Nat} (hg : w.grownBy w' row) (hne : ∀ g off, A = some ⟨g, off, none⟩ → row ≠ some g) : Qi w' lo A c xs := by
  refine ⟨h.1, h.2.imp id ?_⟩
  rintro ⟨g, off, cs, rfl, h1, h2, h3, h4⟩
  exact ⟨g, off, cs, rfl, h1, h2.grown hg (fun e => hne g off rfl e.symm), h3, h4⟩
theorem Qi.next {w w' : World} {lo c : Nat} {A : Option Addr} {xs : List Int} (h : Qi w lo A c xs) (hb : Below w.heap.size w w') : Qi w' lo A c xs := h.kept (grown_of_below hb none) (fun _ _ _ e => by cases e)
theorem Qi.head {w : World} {lo c : Nat} {A : Option Addr} {x : Int} {xs : List Int} (h : Qi w lo A c (x :: xs)) : ∃ g off, A = some ⟨g, off, none⟩ ∧ lo ≤ g ∧ g < w.heap.size ∧ w.cell? ⟨g, off, none⟩ = some (.int .i64 x) ∧ 0 < c := by
  have hc : 0 < c := by have := h.1; simp at this; omega
  rcases h.2 with ⟨_, h2⟩ | ⟨g, off, cs, rfl, h1, h2, h3, h4⟩
  · omega
  · exact ⟨g, off, rfl, h1, h2.lt, by rw [h2.cell]; exact h4 0 x rfl, hc⟩
theorem Qi.tail {w : World} {lo c g off : Nat} {x : Int} {xs : List Int} (h : Qi w lo (some ⟨g, off, none⟩) c (x :: xs)) : Qi w lo (if c = 1 then some ⟨g, off, none⟩ else some ⟨g, off + 1, none⟩) (c - 1) xs := by
  have hl := h.1
  rw [List.length_cons] at hl
  refine ⟨by omega, .inr ?_⟩
  rcases h.2 with ⟨h2, _⟩ | ⟨g', off', cs, e, h1, h2, h3, h4⟩
  · cases e : h2
  · injection e with e
    injection e with e1 e2
    subst e1; subst e2
    by_cases hc : c = 1
    · rw [if_pos hc]
      refine ⟨g, off, cs, rfl, h1, h2, by omega, fun k y hk => ?_⟩
      have : xs = [] := List.eq_nil_of_length_eq_zero (by omega)
      rw [this] at hk
      simp at hk
    · rw [if_neg hc]
      refine ⟨g, off + 1, cs, rfl, h1, h2, by omega, fun k y hk => ?_⟩
      rw [show off + 1 + k = off + (k + 1) by omega]
      exact h4 (k + 1) y (by rw [List.getElem?_cons_succ]; exact hk)

theorem qi_of_owns {w : World} {lo n : Nat} {v : Value} {xs : List Int} (h : w.ownsRow lo 3 1 v n (xs.map (Value.int .i64))) (hn : 0 < n) :
    ∃ g c', v = .slice (some ⟨g, 0, none⟩) n c' ∧ Qi w lo (some ⟨g, 0, none⟩) c' xs ∧ lo ≤ g := by
  have hl := h.1
  rw [List.length_map, Nat.mul_one] at hl
  rcases h.2 with ⟨_, h0⟩ | ⟨g, cap, cur, rfl, hb, hh, hn2, hm, hs, ht⟩
  · omega
  · refine ⟨g, cap, rfl, ⟨by omega, .inr ⟨g, 0, cur, rfl, hb, hh, by omega, fun k x hk => ?_⟩⟩, hb⟩
    have hkl : k < xs.length := (List.getElem?_eq_some_iff.1 hk).1
    have e : (cur.toList.take (n * 1))[k]? = (xs.map (Value.int .i64))[k]? := by rw [ht]
    rw [List.getElem?_take, if_pos (by omega), List.getElem?_map, hk] at e
    rw [Nat.zero_add]
    simpa using e

theorem run_appendQi {w : World} {lo c g1 d : Nat} {A : Option Addr} {xs : List Int} {v : Int} (ty : TypeId) (hq : Qi w lo A c xs) (hc : w.cell? ⟨g1, 0, none⟩ = some (.int .i64 v)) (hlen : xs.length + 1 ≤ 1048576) (hlo : lo ≤ w.heap.size) :
    ∃ g off c' w', (Builtin.append_ #[23, 23] ty #[.slice A xs.length c, .slice (some ⟨g1, 0, none⟩) 1 d]).run Tryz.prog w = .ok (.slice (some ⟨g, off, none⟩) (xs.length + 1) c') w' ∧
      Qi w' lo (some ⟨g, off, none⟩) c' (xs ++ [v]) ∧ w.grownBy w' (rowA A) ∧ ((∃ o, A = some ⟨g, o, none⟩) ∨ w.heap.size ≤ g) := by
  obtain ⟨i0, hi, hz0, hz1, hz2⟩ := info_parts info3
  have hnews : ∀ j u, ([Value.int .i64 v] : List Value)[j]? = some u → w.cell? ((⟨g1, 0, none⟩ : Addr).add j) = some u := by
    intro j u hu
    rcases Nat.eq_zero_or_pos j with rfl | hj
    · simp at hu; subst hu; rw [Addr.add_lit]; exact hc
    · rw [List.getElem?_eq_none (by simp; omega)] at hu; cases hu
  have hmap : xs.map (Value.int .i64) ++ [Value.int .i64 v] = (xs ++ [v]).map (Value.int .i64) := by simp
  rcases hq.2 with ⟨rfl, rfl⟩ | ⟨g, off, cs, rfl, h1, h2, h3, h4⟩
  · have hx0 : xs = [] := List.eq_nil_of_length_eq_zero (by have := hq.1; omega)
    subst hx0
    obtain ⟨g, c', w', hrun, r1, r2, r3, _⟩ := run_append_lies (P := Tryz.prog) w 23 ty lo 3 i0 (.int .i64 0) 1 8 Tryz.underlying23 hi hz0 hz1 hz2 rfl (by decide) (.slice none 0 0) 0 [] (World.ownsRow_nil w _ 3 1) ⟨g1, 0, none⟩ 1 d [.int .i64 v] rfl hnews (by simp [Value.oneCell']) (by decide) (by unfold maxLen; omega) (by omega) hlo _ rfl
    have r1' : w'.ownsRow lo 3 1 (.slice (some ⟨g, 0, none⟩) (0 + 1) c') (0 + 1) (([v] : List Int).map (Value.int .i64)) := r1
    obtain ⟨g2, c2, e, hQ, hge⟩ := qi_of_owns r1' (by decide)
    injection e with e1 e2 e3
    injection e1 with e1
    injection e1 with e1
    subst e1; subst e3
    refine ⟨g, 0, c', w', hrun, hQ, r2, .inr ?_⟩
    rcases r3 with r3 | r3
    · simp [Value.ownBlock] at r3
    · omega
  · by_cases hroom : xs.length < c
    · have hrun := run_append_room_cells (P := Tryz.prog) w 23 ty 3 i0 Tryz.underlying23 hi g off xs.length c ⟨g1, 0, none⟩ 1 d [.int .i64 v] (by rw [hz1]; rfl) hnews (by simp [Value.oneCell']) (by omega)
        (fun j hj => by
          have : j = 0 := by simpa using hj
          subst this
          rw [h2.cell, Array.getElem?_eq_getElem (by rw [hz1]; omega)]
          rfl)
        (fun j hj => h2.frozen _)
      refine ⟨g, off, c, _, hrun, ⟨by simp; omega, .inr ⟨g, off, cs.setIfInBounds (off + xs.length) (.int .i64 v), rfl, h1, ?_, by simpa using h3, fun k x hk => ?_⟩⟩, ?_, .inl ⟨off, rfl⟩⟩
      · rw [hz1, Nat.mul_one]
        exact h2.set_ (off + xs.length) _
      · rcases Nat.lt_or_ge k xs.length with hkl | hkl
        · rw [List.getElem?_append_left hkl] at hk
          rw [Array.getElem?_setIfInBounds_ne (by omega)]
          exact h4 k x hk
        · rw [List.getElem?_append_right hkl] at hk
          have hk0 : k - xs.length = 0 := by
            rcases Nat.eq_zero_or_pos (k - xs.length) with h | h
            · exact h
            · rw [List.getElem?_eq_none (by simp; omega)] at hk; cases hk
          obtain rfl : k = xs.length := by omega
          simp at hk
          subst hk
          rw [Array.getElem?_setIfInBounds_self_of_lt (by omega)]
      · rw [hz1, Nat.mul_one]
        exact grown_set _
    · have hn : xs.length = c := by have := hq.1; omega
      obtain ⟨v', w', hrun, r1, r2⟩ := run_append_arg_grows (P := Tryz.prog) w 23 ty 3 i0 (.int .i64 0) 1 8 Tryz.underlying23 hi hz0 hz1 hz2 rfl (by decide) ⟨g, off, none⟩ xs.length c (xs.map (Value.int .i64)) (by simp) (by
          intro j u hu
          rw [List.getElem?_map, Option.map_eq_some_iff] at hu
          obtain ⟨y, hy, rfl⟩ := hu
          rw [Addr.add_lit, h2.cell]
          exact h4 j y hy) ⟨g1, 0, none⟩ 1 d [.int .i64 v] rfl hnews (by omega) (by unfold maxLen; omega) (by omega)
      rw [hmap] at r1
      obtain ⟨g2, c', rfl, hQ, hge⟩ := qi_of_owns r1 (by omega)
      refine ⟨g2, 0, c', w', hrun, ⟨hQ.1, hQ.2.imp id ?_⟩, ?_, .inr hge⟩
      · rintro ⟨g3, off3, cs3, e, q1, q2⟩
        exact ⟨g3, off3, cs3, e, Nat.le_trans hlo q1, q2⟩
      · exact ⟨r2.1, r2.2, r2.3, r2.size, fun k hk _ => r2.block k hk (by simp)⟩

theorem wpl_appendQi {ops : Array Oper} {rest : List Oper} {o : Oper} {a : Act} {Q : Exit → Act → World → Prop} {w : World} (hgd : o.guard = none) (s x : Operand)
    (ho : o.op = .call { callee := .builtin .append, args := #[s, x], argTypes := #[23, 23] })
    (lo : Nat) (A : Option Addr) (c n : Nat) (xs : List Int) (hs : a.eval s = .slice A n c) (hn : n = xs.length) (hq : Qi w lo A c xs)
    (g1 d : Nat) (v : Int) (hx : a.eval x = .slice (some ⟨g1, 0, none⟩) 1 d) (hc : w.cell? ⟨g1, 0, none⟩ = some (.int .i64 v)) (hlen : n + 1 ≤ 1048576) (hlo : lo ≤ w.heap.size)
    (h : ∀ g off c' w', Qi w' lo (some ⟨g, off, none⟩) c' (xs ++ [v]) → w.grownBy w' (rowA A) → ((∃ o, A = some ⟨g, o, none⟩) ∨ w.heap.size ≤ g) → wpList Tryz.prog ops Q rest (a.put o.dst (.slice (some ⟨g, off, none⟩) (n + 1) c')) w') : wpList Tryz.prog ops Q (o :: rest) a w := by
  subst hn
  obtain ⟨g, off, c', w', hrun, r1, r2, r3⟩ := run_appendQi o.type hq hc hlen hlo (d := d)
  refine wpList_plain hgd fun _ hK => ?_
  unfold Oper.wp execOp
  simp only [ho, resolve, invoke, builtin, Sem.run_bind, Sem.run_pure, Result.andThen_ok, List.map_toArray, List.map_cons, List.map_nil, hs, hx, hrun]
  exact hK _ _ (h g off c' w' r1 r2 r3)
end Go.Proofs.YtkcdoacojiilaaaGreat
