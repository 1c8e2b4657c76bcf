
/- A slice of integers of one's own that is appended to. -/
import Derived.Test.YtjogfeichnkffaaWa
import Derived.Maps.AppendAt
import Derived.OwnWalk
namespace Go.Proofs.Ytjogfeichnkffaa
open Go.RowKit

/-- the slice at A with capacity c is a row of one's own, from block base on, and holds xs -/
def Buf (w : World) (base : Nat) (A : Option Addr) (c : Nat) (xs : List Int) : Prop := w.ownsRow base 3 1 (.slice A xs.length c) xs.length (xs.map (Value.int .i64))

section
variable {w w' : World} {base : Nat} {A : Option Addr} {c : Nat} {xs : List Int}
theorem Buf.form (h : Buf w base A c xs) : (A = none ∧ xs = []) ∨ ∃ g cs, A = some ⟨g, 0, none⟩ ∧ base ≤ g ∧ Blk w g 3 cs ∧ ∀ (k : Nat) (x : Int), xs[k]? = some x → cs[k]? = some (.int .i64 x) := by
  rcases h.2 with ⟨hv, hn⟩ | ⟨g, cap, cur, hv, hb, hh, hn, hm, hs, ht⟩
  · injection hv with h1 h2 h3
    exact .inl ⟨h1, List.eq_nil_of_length_eq_zero h2⟩
  · injection hv with h1 h2 h3
    refine .inr ⟨g, cur, h1, hb, hh, fun k x hx => ?_⟩
    have hk : k < xs.length := by
      rcases Nat.lt_or_ge k xs.length with h | h
      · exact h
      · rw [List.getElem?_eq_none h] at hx; cases hx
    have e : (cur.toList.take (xs.length * 1))[k]? = (xs.map (Value.int .i64))[k]? := by rw [ht]
    rw [List.getElem?_take, if_pos (by omega), List.getElem?_map, hx] at e
    simpa using e
theorem Buf.own (h : Buf w base A c xs) : Own w base A xs.length xs := by
  refine ⟨rfl, fun hn => ?_⟩
  rcases h.form with ⟨_, rfl⟩ | ⟨g, cs, e, hb, hk, hx⟩
  · simp at hn
  · exact ⟨g, cs, e, hb, hk, hx⟩
theorem Buf.kept (h : Buf w base A c xs) {row : Option Nat} (hg : w.grownBy w' row) (hne : ∀ g, A = some ⟨g, 0, none⟩ → row ≠ some g) : Buf w' base A c xs := by
  refine World.ownsRow.kept h hg ?_
  rcases h.form with ⟨rfl, _⟩ | ⟨g, cs, rfl, _⟩
  · exact .inl rfl
  · exact .inr (fun e => hne g rfl e.symm)
theorem Buf.next (h : Buf w base A c xs) (hb : Below w.heap.size w w') : Buf w' base A c xs := h.kept (grown_of_below hb none) (fun _ _ e => by cases e)
theorem Buf.nil_ (w : World) (base : Nat) : Buf w base none 0 [] := World.ownsRow_nil _ _ _ _
theorem Buf.lt (h : Buf w base A c xs) : ∀ g, A = some ⟨g, 0, none⟩ → base ≤ g ∧ g < w.heap.size := by
  rintro g rfl
  rcases h.form with ⟨e, _⟩ | ⟨g', cs, e, hb, hk, _⟩
  · cases e
  · injection e with e; injection e with e; subst e
    exact ⟨hb, hk.lt⟩
theorem Buf.lit (w : World) (base : Nat) (xs : List Int) (hb : base ≤ w.heap.size) (hn : xs.length ≤ maxLen) : Buf (w.alloc (.cells (ints xs) 3)) base (some ⟨w.heap.size, 0, none⟩) xs.length xs := by
  have h := World.ownsRow_lit (e := 3) (size := 1) (base := base) w (ints xs) xs.length hb hn (by simp [ints])
  simpa [Buf, ints] using h
end

/-- the block that an append may write -/
def rowA (A : Option Addr) : Option Nat := A.map (·.block)

theorem wpl_append {ops : Array Oper} {rest : List Oper} {o : Oper} {a : Act} {Q : Exit → Act → World → Prop} {w : World} (hgd : o.guard = none) (s x : Operand)
    (ho : o.op = .call { callee := .builtin .append, args := #[s, x], argTypes := #[22, 22] })
    (base : Nat) (A : Option Addr) (c n : Nat) (xs : List Int) (hs : a.eval s = .slice A n c) (hn : n = xs.length) (hb : Buf w base A c xs)
    (B : Option Addr) (m d : Nat) (ys : List Int) (hx : a.eval x = .slice B m d) (hr : Rd w B m ys) (hm0 : 0 < m) (hlen : n + m ≤ 1048576) (hbase : base ≤ w.heap.size)
    (h : ∀ g c' w', Buf w' base (some ⟨g, 0, none⟩) c' (xs ++ ys) → w.grownBy w' (rowA A) → (A = some ⟨g, 0, none⟩ ∨ g = w.heap.size) → wpList Try.prog ops Q rest (a.put o.dst (.slice (some ⟨g, 0, none⟩) (n + m) c')) w') : wpList Try.prog ops Q (o :: rest) a w := by
  obtain ⟨i0, hi, hz0, hz1, hz2⟩ := info_parts info3
  obtain ⟨b, off, rfl, _, hc⟩ := hr.2 hm0
  subst hn
  refine wpList_append_own_at w hgd s x 22 ho base 3 i0 (.int .i64 0) 1 8 Try.underlying22 hi hz0 hz1 hz2 rfl (by decide) _ xs.length _ hs hb ⟨b, off, none⟩ m d (ys.map (Value.int .i64)) hx (by simp [hr.1]) ?_ (by simp [Value.oneCell']) (by unfold maxLen; omega) (by omega) hbase ?_
  · intro j u hu
    rw [List.getElem?_map, Option.map_eq_some_iff] at hu
    obtain ⟨y, hy, rfl⟩ := hu
    rw [Go.WideShapes.add_plain]
    exact hc j y hy
  · intro v' w' hown hg _ hat
    rcases hown.2 with ⟨hv, hn⟩ | ⟨g, cap, cur, rfl, hb', hh, hn, hm, hsz, ht⟩
    · omega
    · refine h g cap w' ?_ (by cases A <;> exact hg) ?_
      · have e : (xs ++ ys).length = xs.length + m := by rw [List.length_append, hr.1]
        unfold Buf
        rw [e, List.map_append]
        exact hown
      · rcases hat with h1 | h1
        · cases A with
          | none => simp [Value.ownBlock] at h1
          | some a =>
            rcases hb.form with ⟨e, _⟩ | ⟨g', cs, e, _⟩
            · cases e
            · injection e with e; subst e
              simp [Value.ownBlock] at h1
              exact .inl (by rw [h1])
        · simp [Value.ownBlock] at h1
          exact .inr h1
end Go.Proofs.Ytjogfeichnkffaa
