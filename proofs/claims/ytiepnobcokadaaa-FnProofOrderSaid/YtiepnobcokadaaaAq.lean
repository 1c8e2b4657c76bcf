
/- An append at a step of a region that draws its order. -/
import Derived.Test.YtiepnobcokadaaaSe
import Derived.Deep.RegionHeld3
import Derived.Deep.AppendLies
namespace Go.Proofs.Ytiepnobcokadaaa
open Go.RowKit
set_option maxRecDepth 100000

theorem Rd.dropN {w : World} {b n k : Nat} {xs : List Int} (h : Rd w (some ⟨b, 0, none⟩) n xs) (hk : k ≤ n) : Rd w (some ⟨b, k, none⟩) (n - k) (xs.drop k) :=
  ⟨by rw [List.length_drop, h.1], fun hk0 => by
    obtain ⟨b', off, e, hb, hc⟩ := h.2 (by omega)
    cases e
    refine ⟨b, k, rfl, hb, fun j x hx => ?_⟩
    rw [List.getElem?_drop] at hx
    have := hc (k + j) x hx
    rwa [Nat.zero_add] at this⟩
theorem Buf.empty (w : World) {base : Nat} (hb : base ≤ w.heap.size) : Buf (w.alloc (.cells #[] 3)) base (some ⟨w.heap.size, 0, none⟩) 0 [] :=
  ⟨rfl, .inr ⟨w.heap.size, 0, #[], rfl, hb, Blk.new _ _ _, Nat.le_refl _, Nat.zero_le _, rfl, rfl⟩⟩

theorem step_append {ops : Array Oper} {o : Oper} {a : Act} {K : Act → World → Prop} {Q : Exit → Act → World → Prop} {E : Prop} {w : World} (hgd : o.guard = none) (s x : Operand)
    (ho : o.op = .call { callee := .builtin .append, args := #[s, x], argTypes := #[22, 22] })
    (base g c n : Nat) (xs : List Int) (hs : a.eval s = .slice (some ⟨g, 0, none⟩) n c) (hn : n = xs.length) (hb : Buf w base (some ⟨g, 0, none⟩) c xs)
    (b off m d : Nat) (ys : List Int) (hx : a.eval x = .slice (some ⟨b, off, none⟩) m d) (hr : Rd w (some ⟨b, off, none⟩) m ys) (hlen : n + m ≤ 1048576) (hbase : base ≤ w.heap.size)
    (h : ∀ g' c' w', Buf w' base (some ⟨g', 0, none⟩) c' (xs ++ ys) → w.grownBy w' (some g) → (g = g' ∨ g' = w.heap.size) → K (a.put o.dst (.slice (some ⟨g', 0, none⟩) (n + m) c')) w') :
    if Region.wanted o (yielded ops a.tmps) = true then Oper.wp Try.prog o a w K Q else E := by
  have hw : Region.wanted o (yielded ops a.tmps) = true := by simp [Region.wanted, hgd]
  rw [if_pos hw]
  obtain ⟨i0, hi, hz0, hz1, hz2⟩ := info_parts info3
  subst hn
  have hlenr := hr.1
  have hcell : ∀ j u, (ys.map (Value.int .i64))[j]? = some u → w.cell? ((⟨b, off, none⟩ : Addr).add j) = some u := by
    intro j u hu
    rw [List.getElem?_map, Option.map_eq_some_iff] at hu
    obtain ⟨y, hy, rfl⟩ := hu
    have hm0 : 0 < m := by rw [← hlenr]; exact Nat.lt_of_le_of_lt (Nat.zero_le _) (List.getElem?_eq_some_iff.1 hy).1
    obtain ⟨b', off', e, _, hc⟩ := hr.2 hm0
    cases e
    rw [Go.WideShapes.add_plain]
    exact hc j y hy
  rcases Nat.eq_zero_or_pos m with h0 | h0
  · subst h0
    obtain rfl : ys = [] := List.eq_nil_of_length_eq_zero hlenr
    obtain ⟨w', hrun, hown, hg⟩ := run_append_fits (P := Try.prog) w base 22 o.type 3 i0 1 Try.underlying22 hi hz1 g xs.length c _ hb ⟨b, off, none⟩ 0 d [] rfl (by simp) (by simp) (hb.le rfl)
    unfold Oper.wp execOp
    simp only [ho, resolve, invoke, builtin, Sem.run_bind, Sem.run_pure, Result.andThen_ok, List.map_toArray, List.map_cons, List.map_nil, hs, hx, hrun]
    refine h g c w' ?_ hg (.inl rfl)
    unfold Buf
    simpa using hown
  · refine wp_append_lies w s x 22 ho base 3 i0 (.int .i64 0) 1 8 Try.underlying22 hi hz0 hz1 hz2 rfl (by decide) _ xs.length _ hs hb ⟨b, off, none⟩ m d (ys.map (Value.int .i64)) hx (by simp [hlenr]) hcell (by simp [Value.oneCell']) h0 (by unfold maxLen; omega) (by omega) hbase _ rfl ?_
    intro g' c' w' hown hg hat _
    refine h g' c' w' ?_ (by simpa [Value.ownBlock] using hg) (by simpa [Value.ownBlock] using hat)
    have e : (xs ++ ys).length = xs.length + m := by rw [List.length_append, hlenr]
    unfold Buf
    rw [e, List.map_append]
    exact hown
end Go.Proofs.Ytiepnobcokadaaa
