
/- Walks: drawn weights. -/
import Derived.Test.YtjogfeichnkffaaDr
import Derived.Test.YtjogfeichnkffaaBuf
namespace Go.Proofs.Ytjogfeichnkffaa
open Go.RowKit

theorem Rdr.grown {w w' : World} {lo b p x : Nat} (h : Rdr w lo b p) (k : w.grownBy w' (some x)) (hx : b < x) : Rdr w' lo b p :=
  h.wr (lo' := x) (hi := x + 1) ⟨_, k, fun g e => by injection e; omega⟩ (.inl hx) (by have := h.1; omega)
theorem Rdr.grownA {w w' : World} {lo b p : Nat} {row : Option Nat} (h : Rdr w lo b p) (k : w.grownBy w' row) (hx : ∀ g, row = some g → b < g) : Rdr w' lo b p := by
  cases row with
  | none => exact h.next ⟨k.os, k.tape, k.output, k.size, fun i hi => k.block i hi (by simp)⟩
  | some x => exact h.grown k (hx x rfl)
/-- two steps: the one writes block b alone, the other a block from base on -/
theorem grown_over {a w w' : World} {b : Nat} {row : Option Nat} (h : a.grownBy w (some b)) (k : w.grownBy w' row) (hr : ∀ g, row = some g → a.heap.size ≤ g) : a.grownBy w' (some b) :=
  ⟨k.os.trans h.os, k.tape.trans h.tape, k.output.trans h.output, Nat.le_trans h.size k.size, fun i hi hne => (k.block i (Nat.lt_of_lt_of_le hi h.size) (fun e => by have := hr i e.symm; omega)).trans (h.block i hi hne)⟩
theorem rowA_ge {w : World} {base : Nat} {A : Option Addr} {c : Nat} {xs : List Int} (h : Buf w base A c xs) : ∀ g, rowA A = some g → base ≤ g := by
  intro g hg
  rcases h.form with ⟨rfl, _⟩ | ⟨g', cs, rfl, hb, _⟩
  · cases hg
  · injection hg with hg; subst hg; exact hb

theorem rowA_at {w : World} {base : Nat} {A : Option Addr} {c : Nat} {xs : List Int} (h : Buf w base A c xs) : ∀ g, rowA A = some g → A = some ⟨g, 0, none⟩ := by
  intro g hg
  rcases h.form with ⟨rfl, _⟩ | ⟨g', cs, rfl, hb, _⟩
  · cases hg
  · injection hg with hg; subst hg; rfl

end Go.Proofs.Ytjogfeichnkffaa
