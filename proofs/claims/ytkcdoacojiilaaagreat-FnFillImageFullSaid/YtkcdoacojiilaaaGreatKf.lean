
/- Plain facts and walks that the law's proof uses; each says its own conditions. -/
import Derived.RangeFuncNested
import Derived.RangeFuncBound
import Derived.RangeFuncCalls
import Derived.RangeFuncLeaves
import Derived.Shelf.Abstract
import Derived.Shelf.RegionOpen
import Derived.OwnWalkIn
import Derived.TacticsInMore
import Derived.LoopNIn
import Derived.LoopIn
import Derived.Test.YtkcdoacojiilaaaGreatKb
import Derived.Test.YtkcdoacojiilaaaGreatKa
import Derived.Test.YtkcdoacojiilaaaGreatSu
-- Walks: the iterator over an image's cells.
namespace Go.Proofs.YtkcdoacojiilaaaGreat
open Go.RowKit Go.Shelf
attribute [local go_sem] Oper.semAt_some

/-- block B lies as it lay -/
def KB (B : Nat) (W W' : World) : Prop := W'.heap[B]? = W.heap[B]?
theorem KB.refl (B : Nat) (W : World) : KB B W W := rfl
theorem KB.trans {B : Nat} {a b c : World} (h : KB B a b) (k : KB B b c) : KB B a c := Eq.trans k h
theorem KB.put {B : Nat} {w : World} (hB : B < w.heap.size) (W : World) (l : Nat) (o o' : Obj) (hl : w.heap.size ≤ l) (_ : W.heap[l]? = some o) (_ : o.isCells = false) (_ : o.isWalk = false) : KB B W (W.putObj l o') :=
  World.putObj_heap_other (by omega)
theorem KB.cell {B i : Nat} {W W' : World} (h : KB B W W') : W'.cell? ⟨B, i, none⟩ = W.cell? ⟨B, i, none⟩ := World.cell?_of_block h
theorem KB.of_grown {B : Nat} {W W' : World} {row : Option Nat} (h : W.grownBy W' row) (hB : B < W.heap.size) (hr : row ≠ some B) : KB B W W' := h.block B hB (fun e => hr e.symm)
theorem KB.of_below {B : Nat} {W W' : World} (h : Below W.heap.size W W') (hB : B < W.heap.size) : KB B W W' := h.block B hB

theorem keeps_below {W W' : World} (h : Below W.heap.size W W') : KeepsOthers W W' :=
  ⟨h.size, fun k _ hk _ => (h.block k (Array.getElem?_eq_some_iff.1 hk).1).trans hk⟩
end Go.Proofs.YtkcdoacojiilaaaGreat

-- Walks: the image turned.
namespace Go.Proofs.YtkcdoacojiilaaaGreat
open Go.RowKit Go.Shelf
attribute [local go_sem] Oper.semAt_some

/-- 'has': the cell is set -/
theorem has_c (i j r n c : Nat) (W : Int) (xs : List Int) (A : Option Addr) (w : World) (hr : Rd w A n xs) (hi : i < n) (hj : j < 6) (hr6 : r < 64) (hc : xs[i]?.getD 0 = (r : Int)) :
    Calls Tryz.prog 60 #[.agg #[.int .i64 W, .slice A n c], .int .i64 i, .int .i64 j] w fun e w' => e = .returned (.bool (r.testBit j)) ∧ Below w.heap.size w w' := by
  obtain ⟨b, off, rfl, hb, hcc⟩ := (hr.alloc (.cells #[.int .i64 W, .slice A n c] 27)).at_ hi
  rw [hc] at hcc
  have hX := and_bit r j (by omega)
  have hY : ((if r.testBit j then (1 : Int) else 0) == 1) = r.testBit j := by cases r.testBit j <;> rfl
  have hY' := Lib.hid hY
  have hX' := Lib.hid hX
  clear hc hX hY
  go_enter Tryz.func60, Tryz.ntmps60
  go_wp2
  go_ret
  exact ⟨ret_bool (by rw [hX'.out]; exact hY'.out), by (repeat (first | exact Below.refl _ _ | assumption | refine lo_alloc ?_ _ | refine lo_set ?_ (by simp; try omega) _ | refine Below.drew ?_ | refine below_drewN ?_ _ | refine lo_trans ?_ (by assumption) | refine lo_wr ?_ (by assumption) (by omega)))⟩

theorem ownFrom_blk {β : Type} {B g : Nat} {t : TypeId} (f : β → Array Value) (hg : g < B) : OwnFrom B (fun (s : β) W => Blk W g t (f s)) :=
  fun _ _ _ _ hs hgr hr => hs.grown hgr (fun e => by have := (hr g e.symm).1; omega)

theorem fin_cells1 {w wr : World} {r : Nat} {t : TypeId} {v0 v1 : Value} (hK : Blk wr (w.heap.size + r) t #[v0, v1]) (hB : Below w.heap.size w wr) (u0 u1 : Value) :
    (((wr.setCell ⟨w.heap.size + r, 0, none⟩ u0).setCell ⟨w.heap.size + r, 1, none⟩ u1).cell? ⟨w.heap.size + r, 0, none⟩ = some u0) ∧ (((wr.setCell ⟨w.heap.size + r, 0, none⟩ u0).setCell ⟨w.heap.size + r, 1, none⟩ u1).cell? ⟨w.heap.size + r, 1, none⟩ = some u1) ∧
    Below w.heap.size w ((wr.setCell ⟨w.heap.size + r, 0, none⟩ u0).setCell ⟨w.heap.size + r, 1, none⟩ u1) := by
  have h := (hK.set_ 0 u0).set_ 1 u1
  exact ⟨by rw [h.cell]; rfl, by rw [h.cell]; rfl, (hB.setCell (by simp) _).setCell (by simp) _⟩

/-- is the cell set -/
def cellF (xs : List Int) (i j : Nat) : Bool := (xs[i]?.getD 0).toNat.testBit j
def turnW (W : Int) (xs : List Int) : Int := if okB W xs then xs.length else 0
def turnX (W : Int) (xs : List Int) : List Int := if okB W xs then img (fun c t => cellF xs t c) W.toNat xs.length else []

end Go.Proofs.YtkcdoacojiilaaaGreat

-- Plain mathematics: switches and neighbors of an image.
namespace Go.Proofs.YtkcdoacojiilaaaGreat

structure Sw where
  a : Nat
  b : Nat
  c : Nat
  d : Nat
deriving DecidableEq

def swL (a b c lo d : Nat) : List Sw := (List.range' lo (d - lo)).map (fun d => ⟨a, b, c, d⟩)
def swC (m a b c : Nat) : List Sw := (List.range c).flatMap (fun c => swL a b c (c + 1) m)
def swB (m a lo b : Nat) : List Sw := (List.range' lo (b - lo)).flatMap (fun b => swC m a b m)
def swA (h m a : Nat) : List Sw := (List.range a).flatMap (fun a => swB m a (a + 1) h)
/-- the switches ahead of (a, b, c, d) -/
def swP (h m a b c d : Nat) : List Sw := swA h m a ++ (swB m a (a + 1) b ++ (swC m a b c ++ swL a b c (c + 1) d))
def swAll (h m : Nat) : List Sw := swA h m h

theorem range'_snoc {lo d : Nat} (h : lo ≤ d) : List.range' lo (d + 1 - lo) = List.range' lo (d - lo) ++ [d] := by
  have e : d + 1 - lo = (d - lo) + 1 := by omega
  have e2 : lo + (d - lo) = d := by omega
  rw [e, List.range'_concat]
  simp [e2]
theorem swL_nil (a b c lo : Nat) : swL a b c lo lo = [] := by simp [swL]
theorem swP_0 (h m : Nat) : swP h m 0 1 0 1 = [] := by simp [swP, swA, swB, swC, swL]
theorem swP_d {h m a b c d : Nat} (hd : c + 1 ≤ d) : swP h m a b c (d + 1) = swP h m a b c d ++ [⟨a, b, c, d⟩] := by
  have e : swL a b c (c + 1) (d + 1) = swL a b c (c + 1) d ++ [⟨a, b, c, d⟩] := by
    rw [swL, range'_snoc hd, List.map_append]; rfl
  simp only [swP, e, List.append_assoc]
theorem swP_c {h m a b c : Nat} : swP h m a b (c + 1) (c + 1 + 1) = swP h m a b c m := by
  have e : swC m a b (c + 1) = swC m a b c ++ swL a b c (c + 1) m := by
    simp [swC, List.range_succ, List.flatMap_append]
  simp only [swP, e, swL_nil, List.append_nil]
theorem swP_b {h m a b : Nat} (hb : a + 1 ≤ b) : swP h m a (b + 1) 0 1 = swP h m a b m (m + 1) := by
  have e : swB m a (a + 1) (b + 1) = swB m a (a + 1) b ++ swC m a b m := by
    rw [swB, range'_snoc hb, List.flatMap_append]; simp [swB]
  simp only [swP, e, swL_nil, List.append_nil]
  simp [swC, swL]
theorem swP_a {h m a : Nat} : swP h m (a + 1) (a + 1 + 1) 0 1 = swP h m a h 0 1 := by
  have e : swA h m (a + 1) = swA h m a ++ swB m a (a + 1) h := by
    simp [swA, List.range_succ, List.flatMap_append]
  simp only [swP, e]
  simp [swC, swL, swB]
theorem swP_end (h m : Nat) : swP h m h (h + 1) 0 1 = swAll h m := by simp [swP, swB, swC, swL, swAll]

theorem flatMap_le {α β : Type} {l : List α} {f : α → List β} {k : Nat} (hf : ∀ x ∈ l, (f x).length ≤ k) : (l.flatMap f).length ≤ l.length * k := by
  induction l with
  | nil => simp
  | cons a l ih =>
    have h1 := hf a (by simp)
    have h2 := ih (fun x hx => hf x (by simp [hx]))
    simp only [List.flatMap_cons, List.length_append, List.length_cons, Nat.add_mul, Nat.one_mul]
    omega
theorem swL_len (a b c lo d : Nat) : (swL a b c lo d).length ≤ d := by simp [swL]
theorem swC_len (m a b c : Nat) : (swC m a b c).length ≤ c * m := by
  have := flatMap_le (l := List.range c) (f := fun c => swL a b c (c + 1) m) (k := m) (fun x _ => swL_len _ _ _ _ _)
  simpa [swC] using this
theorem swB_len (m a lo b : Nat) : (swB m a lo b).length ≤ b * (m * m) := by
  have := flatMap_le (l := List.range' lo (b - lo)) (f := fun b => swC m a b m) (k := m * m) (fun x _ => swC_len _ _ _ _)
  simp only [List.length_range'] at this
  exact Nat.le_trans this (Nat.mul_le_mul_right _ (by omega))
theorem swA_len (h m a : Nat) : (swA h m a).length ≤ a * (h * (m * m)) := by
  have := flatMap_le (l := List.range a) (f := fun a => swB m a (a + 1) h) (k := h * (m * m)) (fun x _ => swB_len _ _ _ _)
  simpa [swA] using this
theorem swP_len {h m a b c d : Nat} (hh : h ≤ 6) (hm : m ≤ 6) (ha : a ≤ h) (hb : b ≤ h) (hc : c ≤ m) (hd : d ≤ m) : (swP h m a b c d).length < 1600 := by
  have h1 := swA_len h m a
  have h2 := swB_len m a (a + 1) b
  have h3 := swC_len m a b c
  have h4 := swL_len a b c (c + 1) d
  have e1 : m * m ≤ 6 * 6 := Nat.mul_le_mul hm hm
  have e2 : h * (m * m) ≤ 6 * 36 := Nat.mul_le_mul hh e1
  have e3 : a * (h * (m * m)) ≤ 6 * 216 := Nat.mul_le_mul (by omega) e2
  have e4 : b * (m * m) ≤ 6 * 36 := Nat.mul_le_mul (by omega) e1
  have e5 : c * m ≤ 6 * 6 := Nat.mul_le_mul (by omega) hm
  simp only [swP, List.length_append]
  omega

def swOk (xs : List Int) (s : Sw) : Bool := (cellF xs s.b s.d == cellF xs s.a s.c) && (cellF xs s.a s.d != cellF xs s.a s.c) && (cellF xs s.b s.c != cellF xs s.a s.c)
def inSw (s : Sw) (i j : Nat) : Bool := (i == s.a || i == s.b) && (j == s.c || j == s.d)
/-- the image with the switch's four cells turned over -/
def swDo (m : Nat) (xs : List Int) (s : Sw) : List Int := img (fun i j => cellF xs i j ^^ inSw s i j) xs.length m
/-- the switches of an image -/
def swList (m : Nat) (xs : List Int) : List Sw := (swAll xs.length m).filter (swOk xs)
/-- the neighbors of an image -/
def nbrs (m : Nat) (xs : List Int) : List (List Int) := (swList m xs).map (swDo m xs)

theorem cellF_img' {f : Nat → Nat → Bool} {h m i j : Nat} (hi : i < h) (hj : j < m) : cellF (img f h m) i j = f i j := by
  simp [cellF, img_get hi, testBit_mkRow, hj]
theorem mem_swL {a b c lo d : Nat} {s : Sw} : s ∈ swL a b c lo d ↔ s.a = a ∧ s.b = b ∧ s.c = c ∧ lo ≤ s.d ∧ s.d < d := by
  simp only [swL, List.mem_map, List.mem_range'_1]
  constructor
  · rintro ⟨x, hx, rfl⟩; simp; omega
  · rintro ⟨rfl, rfl, rfl, h1, h2⟩; exact ⟨s.d, by omega, rfl⟩
theorem mem_swC {m a b c : Nat} {s : Sw} : s ∈ swC m a b c ↔ s.a = a ∧ s.b = b ∧ s.c < c ∧ s.c < s.d ∧ s.d < m := by
  simp only [swC, List.mem_flatMap, List.mem_range, mem_swL]
  constructor
  · rintro ⟨x, hx, h1, h2, h3, h4, h5⟩; omega
  · rintro ⟨h1, h2, h3, h4, h5⟩; exact ⟨s.c, h3, h1, h2, rfl, by omega, h5⟩
theorem mem_swB {m a lo b : Nat} {s : Sw} : s ∈ swB m a lo b ↔ s.a = a ∧ lo ≤ s.b ∧ s.b < b ∧ s.c < s.d ∧ s.d < m := by
  simp only [swB, List.mem_flatMap, List.mem_range'_1, mem_swC]
  constructor
  · rintro ⟨x, hx, h1, h2, h3, h4, h5⟩; omega
  · rintro ⟨h1, h2, h3, h4, h5⟩; exact ⟨s.b, by omega, h1, rfl, by omega, h4, h5⟩
theorem mem_swAll {h m : Nat} {s : Sw} : s ∈ swAll h m ↔ s.a < s.b ∧ s.b < h ∧ s.c < s.d ∧ s.d < m := by
  simp only [swAll, swA, List.mem_flatMap, List.mem_range, mem_swB]
  constructor
  · rintro ⟨x, hx, h1, h2, h3, h4, h5⟩; omega
  · rintro ⟨h1, h2, h3, h4⟩; exact ⟨s.a, by omega, rfl, by omega, h2, h3, h4⟩
theorem mem_swList {m : Nat} {xs : List Int} {s : Sw} : s ∈ swList m xs ↔ (s.a < s.b ∧ s.b < xs.length ∧ s.c < s.d ∧ s.d < m) ∧ swOk xs s = true := by
  simp only [swList, List.mem_filter, mem_swAll]
theorem swDo_len (m : Nat) (xs : List Int) (s : Sw) : (swDo m xs s).length = xs.length := by simp [swDo, img_len]
theorem swDo_cell {m : Nat} {xs : List Int} {s : Sw} {i j : Nat} (hi : i < xs.length) (hj : j < m) : cellF (swDo m xs s) i j = (cellF xs i j ^^ inSw s i j) := by
  rw [swDo, cellF_img' hi hj]
/-- an image is the image of its cells -/
theorem img_self {m : Nat} {xs : List Int} (h : okB (m : Int) xs = true) : img (cellF xs) xs.length m = xs := by
  obtain ⟨m', f, e1, _, _, e⟩ := okB_rows h
  have e1 : m = m' := by omega
  subst e1
  conv => rhs; rw [e]
  refine img_congr (fun i hi j hj => ?_)
  conv => lhs; rw [e]
  exact cellF_img' hi hj
/-- a switch done twice leaves the image -/
theorem swDo_back {m : Nat} {xs : List Int} (h : okB (m : Int) xs = true) (s : Sw) : swDo m (swDo m xs s) s = xs := by
  conv => rhs; rw [← img_self h]
  rw [swDo, swDo_len]
  refine img_congr (fun i hi j hj => ?_)
  rw [swDo_cell hi hj, Bool.xor_assoc, Bool.xor_self, Bool.xor_false]
theorem swDo_ok {m : Nat} {xs : List Int} {s : Sw} (hs : s ∈ swList m xs) : swOk (swDo m xs s) s = true := by
  obtain ⟨⟨h1, h2, h3, h4⟩, h5⟩ := mem_swList.1 hs
  simp only [swOk] at h5 ⊢
  rw [swDo_cell h2 h4, swDo_cell (by omega) (by omega), swDo_cell (by omega) h4, swDo_cell h2 (by omega)]
  have e1 : inSw s s.b s.d = true := by simp [inSw]
  have e2 : inSw s s.a s.c = true := by simp [inSw]
  have e3 : inSw s s.a s.d = true := by simp [inSw]
  have e4 : inSw s s.b s.c = true := by simp [inSw]
  rw [e1, e2, e3, e4]
  revert h5
  cases cellF xs s.b s.d <;> cases cellF xs s.a s.c <;> cases cellF xs s.a s.d <;> cases cellF xs s.b s.c <;> simp
/-- neighbors are neighbors of each other -/
theorem nbrs_back {m : Nat} {xs ys : List Int} (h : okB (m : Int) xs = true) (hy : ys ∈ nbrs m xs) : xs ∈ nbrs m ys := by
  simp only [nbrs, List.mem_map] at hy ⊢
  obtain ⟨s, hs, rfl⟩ := hy
  refine ⟨s, ?_, swDo_back h s⟩
  have hs' := mem_swList.1 hs
  exact mem_swList.2 ⟨by rw [swDo_len]; exact hs'.1, swDo_ok hs⟩
end Go.Proofs.YtkcdoacojiilaaaGreat

-- Plain mathematics: the images that switches reach, and how far they are.
namespace Go.Proofs.YtkcdoacojiilaaaGreat

inductive Path (m : Nat) (xs : List Int) : List Int → Nat → Prop
  | nil : Path m xs xs 0
  | step {ys zs : List Int} {n : Nat} : Path m xs ys n → zs ∈ nbrs m ys → Path m xs zs (n + 1)

def seen (wk : List (List Int × Nat)) (z : List Int) : Bool := wk.any (fun e => e.1 == z)
def bAdd1 (d : Nat) (wk : List (List Int × Nat)) (z : List Int) : List (List Int × Nat) := if seen wk z then wk else wk ++ [(z, d)]
def bAdd (d : Nat) (wk : List (List Int × Nat)) (zs : List (List Int)) : List (List Int × Nat) := zs.foldl (bAdd1 d) wk
/-- the images found after k of them have been worked off -/
def bfs (m : Nat) (xs : List Int) : Nat → List (List Int × Nat)
  | 0 => [(xs, 0)]
  | k + 1 => match (bfs m xs k)[k]? with
    | some e => bAdd (e.2 + 1) (bfs m xs k) (nbrs m e.1)
    | none => bfs m xs k

theorem seen_iff {wk : List (List Int × Nat)} {z : List Int} : seen wk z = true ↔ ∃ f ∈ wk, f.1 = z := by simp [seen]

structure BInv (m : Nat) (xs : List Int) (k : Nat) (wk : List (List Int × Nat)) : Prop where
  path : ∀ e ∈ wk, Path m xs e.1 e.2
  nodup : (wk.map (·.1)).Nodup
  first : wk[0]? = some (xs, 0)
  sorted : ∀ (i j : Nat) (e f : List Int × Nat), wk[i]? = some e → wk[j]? = some f → i ≤ j → e.2 ≤ f.2
  done : ∀ (i : Nat) (e : List Int × Nat), i < k → wk[i]? = some e → ∀ z ∈ nbrs m e.1, ∃ f ∈ wk, f.1 = z ∧ f.2 ≤ e.2 + 1

theorem snoc_get {α : Type} {l : List α} {x : α} {i : Nat} {e : α} (h : (l ++ [x])[i]? = some e) : l[i]? = some e ∨ (i = l.length ∧ e = x) := by
  rcases Nat.lt_trichotomy i l.length with hi | hi | hi
  · rw [List.getElem?_append_left hi] at h; exact .inl h
  · subst hi; simp at h; exact .inr ⟨rfl, h.symm⟩
  · rw [List.getElem?_append_right (by omega)] at h
    have : i - l.length ≠ 0 := by omega
    simp [this] at h
theorem get_snoc {α : Type} {l : List α} {x : α} {i : Nat} {e : α} (h : l[i]? = some e) : (l ++ [x])[i]? = some e := by
  have hi : i < l.length := by
    rcases Nat.lt_or_ge i l.length with h' | h'
    · exact h'
    · rw [List.getElem?_eq_none h'] at h; cases h
  rw [List.getElem?_append_left hi]; exact h

/-- the state amid the neighbors zs of image k -/
structure BMid (m : Nat) (xs : List Int) (k : Nat) (e0 : List Int × Nat) (zs : List (List Int)) (wk : List (List Int × Nat)) : Prop extends BInv m xs k wk where
  cur : wk[k]? = some e0
  top : ∀ f ∈ wk, f.2 ≤ e0.2 + 1
  part : ∀ z ∈ zs, ∃ f ∈ wk, f.1 = z ∧ f.2 ≤ e0.2 + 1

theorem BMid.add {m : Nat} {xs : List Int} {k : Nat} {e0 : List Int × Nat} {zs : List (List Int)} {wk : List (List Int × Nat)} (h : BMid m xs k e0 zs wk) {z : List Int} (hz : z ∈ nbrs m e0.1) :
    BMid m xs k e0 (zs ++ [z]) (bAdd1 (e0.2 + 1) wk z) := by
  unfold bAdd1
  cases hs : seen wk z with
  | true =>
    rw [if_pos rfl]
    obtain ⟨f, hf, e⟩ := seen_iff.1 hs
    refine { h with part := fun y hy => ?_ }
    rcases List.mem_append.1 hy with hy | hy
    · exact h.part y hy
    · obtain rfl := List.mem_singleton.1 hy
      exact ⟨f, hf, e, h.top f hf⟩
  | false =>
    rw [if_neg (by simp)]
    have hn : ∀ f ∈ wk, f.1 ≠ z := fun f hf e => by
      have := seen_iff.2 ⟨f, hf, e⟩
      rw [hs] at this; cases this
    have hk0 : e0 ∈ wk := List.mem_of_getElem? h.cur
    refine ⟨⟨?_, ?_, get_snoc h.first, ?_, ?_⟩, get_snoc h.cur, ?_, ?_⟩
    · intro e he
      rcases List.mem_append.1 he with he | he
      · exact h.path e he
      · obtain rfl := List.mem_singleton.1 he
        exact .step (h.path e0 hk0) hz
    · rw [List.map_append, List.nodup_append]
      refine ⟨h.nodup, by simp, ?_⟩
      intro a ha b hb
      obtain ⟨f, hf, rfl⟩ := List.mem_map.1 ha
      simp at hb
      subst hb
      exact hn f hf
    · intro i j e f hi hj hij
      rcases snoc_get hi with hi | ⟨hi, rfl⟩
      · rcases snoc_get hj with hj | ⟨hj, rfl⟩
        · exact h.sorted i j e f hi hj hij
        · exact h.top e (List.mem_of_getElem? hi)
      · rcases snoc_get hj with hj | ⟨hj, rfl⟩
        · have : j < wk.length := (List.getElem?_eq_some_iff.1 hj).1
          omega
        · exact Nat.le_refl _
    · intro i e hik hi y hy
      rcases snoc_get hi with hi | ⟨hi, rfl⟩
      · obtain ⟨f, hf, e1, e2⟩ := h.done i e hik hi y hy
        exact ⟨f, List.mem_append_left _ hf, e1, e2⟩
      · have : k < wk.length := (List.getElem?_eq_some_iff.1 h.cur).1
        omega
    · intro f hf
      rcases List.mem_append.1 hf with hf | hf
      · exact h.top f hf
      · obtain rfl := List.mem_singleton.1 hf
        exact Nat.le_refl _
    · intro y hy
      rcases List.mem_append.1 hy with hy | hy
      · obtain ⟨f, hf, e1, e2⟩ := h.part y hy
        exact ⟨f, List.mem_append_left _ hf, e1, e2⟩
      · obtain rfl := List.mem_singleton.1 hy
        exact ⟨_, List.mem_append_right _ (List.mem_singleton.2 rfl), rfl, Nat.le_refl _⟩
theorem BMid.adds {m : Nat} {xs : List Int} {k : Nat} {e0 : List Int × Nat} (ys : List (List Int)) : ∀ {zs : List (List Int)} {wk : List (List Int × Nat)} (_ : BMid m xs k e0 zs wk) (_ : ∀ z ∈ ys, z ∈ nbrs m e0.1),
    BMid m xs k e0 (zs ++ ys) (bAdd (e0.2 + 1) wk ys) := by
  induction ys with
  | nil => intro zs wk h _; simpa [bAdd] using h
  | cons y ys ih =>
    intro zs wk h hy
    have h1 := h.add (hy y (by simp))
    have h2 := ih h1 (fun z hz => hy z (by simp [hz]))
    simpa [bAdd] using h2

theorem bfs_inv (m : Nat) (xs : List Int) : ∀ k, BInv m xs k (bfs m xs k) ∧ ∀ e, (bfs m xs k)[k]? = some e → ∀ f ∈ bfs m xs k, f.2 ≤ e.2 + 1
  | 0 => by
    refine ⟨⟨?_, by simp [bfs], by simp [bfs], ?_, fun i e hi => by omega⟩, ?_⟩
    · intro e he
      simp [bfs] at he
      subst he
      exact .nil
    · intro i j e f hi hj _
      have h1 := List.mem_of_getElem? hi
      have h2 := List.mem_of_getElem? hj
      simp [bfs] at h1 h2
      subst h1; subst h2; exact Nat.le_refl _
    · intro e _ f hf
      simp [bfs] at hf
      subst hf
      exact Nat.zero_le _
  | k + 1 => by
    obtain ⟨h, ht⟩ := bfs_inv m xs k
    cases hk : (bfs m xs k)[k]? with
    | none =>
      have e : bfs m xs (k + 1) = bfs m xs k := by simp [bfs, hk]
      rw [e]
      have hl : (bfs m xs k).length ≤ k := List.getElem?_eq_none_iff.1 hk
      refine ⟨{ h with done := fun i e _ hi => h.done i e (Nat.lt_of_lt_of_le (List.getElem?_eq_some_iff.1 hi).1 hl) hi }, fun e he => ?_⟩
      have := (List.getElem?_eq_some_iff.1 he).1
      omega
    | some e0 =>
      have e : bfs m xs (k + 1) = bAdd (e0.2 + 1) (bfs m xs k) (nbrs m e0.1) := by simp [bfs, hk]
      have h1 : BMid m xs k e0 [] (bfs m xs k) := { h with cur := hk, top := ht e0 hk, part := fun z hz => by cases hz }
      have h2 := h1.adds (nbrs m e0.1) (fun z hz => hz)
      rw [← e] at h2
      rw [List.nil_append] at h2
      refine ⟨{ h2.toBInv with done := fun i f hi hf => ?_ }, fun e' he' f hf => ?_⟩
      · rcases Nat.lt_or_ge i k with hik | hik
        · exact h2.done i f hik hf
        · obtain rfl : i = k := by omega
          rw [h2.cur] at hf
          cases hf
          exact h2.part
      · have h3 := h2.sorted k (k + 1) e0 e' h2.cur he' (by omega)
        have h4 := h2.top f hf
        omega

/-- from some number on nothing is found any more -/
theorem bfs_stay (m : Nat) (xs : List Int) {k : Nat} (h : (bfs m xs k).length ≤ k) : ∀ j, bfs m xs (k + j) = bfs m xs k
  | 0 => rfl
  | j + 1 => by
    have ih := bfs_stay m xs h j
    have e : (bfs m xs (k + j))[k + j]? = none := by rw [ih]; exact List.getElem?_eq_none (by omega)
    rw [← Nat.add_assoc]
    simp only [bfs]
    rw [e]; exact ih

/-- the number of an image -/
def keyN (m : Nat) (xs : List Int) : Nat := xs.foldr (fun x n => n * 2 ^ m + x.toNat) 0
theorem keyN_lt {m : Nat} : ∀ {xs : List Int}, (∀ x ∈ xs, x.toNat < 2 ^ m) → keyN m xs < 2 ^ (xs.length * m)
  | [], _ => by simp [keyN]
  | x :: xs, h => by
    have h1 := h x (by simp)
    have h2 := keyN_lt (xs := xs) (fun y hy => h y (by simp [hy]))
    have e : keyN m (x :: xs) = keyN m xs * 2 ^ m + x.toNat := rfl
    rw [e, List.length_cons, Nat.add_mul, Nat.one_mul, Nat.pow_add]
    have h3 : (keyN m xs + 1) * 2 ^ m ≤ 2 ^ (xs.length * m) * 2 ^ m := Nat.mul_le_mul_right _ h2
    rw [Nat.add_mul, Nat.one_mul] at h3
    omega
theorem keyN_inj {m : Nat} : ∀ {xs ys : List Int}, xs.length = ys.length → (∀ x ∈ xs, 0 ≤ x ∧ x.toNat < 2 ^ m) → (∀ x ∈ ys, 0 ≤ x ∧ x.toNat < 2 ^ m) → keyN m xs = keyN m ys → xs = ys
  | [], [], _, _, _, _ => rfl
  | x :: xs, y :: ys, hl, hx, hy, he => by
    have h1 := hx x (by simp)
    have h2 := hy y (by simp)
    have e1 : keyN m (x :: xs) = keyN m xs * 2 ^ m + x.toNat := rfl
    have e2 : keyN m (y :: ys) = keyN m ys * 2 ^ m + y.toNat := rfl
    rw [e1, e2] at he
    have hp : 0 < 2 ^ m := Nat.pow_pos (by omega)
    have a1 : (keyN m xs * 2 ^ m + x.toNat) % 2 ^ m = x.toNat := by rw [Nat.mul_comm, Nat.mul_add_mod, Nat.mod_eq_of_lt h1.2]
    have a2 : (keyN m ys * 2 ^ m + y.toNat) % 2 ^ m = y.toNat := by rw [Nat.mul_comm, Nat.mul_add_mod, Nat.mod_eq_of_lt h2.2]
    have b1 : (keyN m xs * 2 ^ m + x.toNat) / 2 ^ m = keyN m xs := by rw [Nat.mul_comm, Nat.mul_add_div hp, Nat.div_eq_of_lt h1.2, Nat.add_zero]
    have b2 : (keyN m ys * 2 ^ m + y.toNat) / 2 ^ m = keyN m ys := by rw [Nat.mul_comm, Nat.mul_add_div hp, Nat.div_eq_of_lt h2.2, Nat.add_zero]
    rw [he] at a1 b1
    have c1 : x.toNat = y.toNat := a1.symm.trans a2
    have c2 : keyN m xs = keyN m ys := b1.symm.trans b2
    have c3 : x = y := by omega
    rw [c3, keyN_inj (by simpa using hl) (fun z hz => hx z (by simp [hz])) (fun z hz => hy z (by simp [hz])) c2]
theorem nodup_le : ∀ {N : Nat} {l : List Nat}, l.Nodup → (∀ x ∈ l, x < N) → l.length ≤ N
  | 0, l, _, h => by
    cases l with
    | nil => simp
    | cons x l => exact absurd (h x (by simp)) (by omega)
  | N + 1, l, hd, h => by
    have h1 : (l.erase N).Nodup := hd.erase N
    have h2 : ∀ x ∈ l.erase N, x < N := fun x hx => by
      have h3 := (List.Nodup.mem_erase_iff hd).1 hx
      have := h x h3.2
      have := h3.1
      omega
    have h3 := nodup_le h1 h2
    have h4 : l.length ≤ (l.erase N).length + 1 := by
      rw [List.length_erase]; split <;> omega
    omega

theorem okB_cells {m : Nat} {xs : List Int} (h : okB (m : Int) xs = true) : ∀ x ∈ xs, 0 ≤ x ∧ x.toNat < 2 ^ m := by
  intro x hx
  obtain ⟨i, hi, rfl⟩ := List.getElem_of_mem hx
  have ha := allIn_at (okB_all h) i hi
  rw [Int.toNat_natCast, List.getElem?_eq_getElem hi, Option.getD_some] at ha
  have e2 : ((2 ^ m : Nat) : Int) = (2 : Int) ^ m := by simp
  omega
theorem nbrs_ok {m : Nat} {xs ys : List Int} (h : okB (m : Int) xs = true) (hy : ys ∈ nbrs m xs) : okB (m : Int) ys = true ∧ ys.length = xs.length := by
  simp only [nbrs, List.mem_map] at hy
  obtain ⟨s, _, rfl⟩ := hy
  have hb := okB_bd h
  exact ⟨okB_img (by omega) (by omega) (by omega) (by omega), swDo_len m xs s⟩
theorem path_ok {m n : Nat} {xs ys : List Int} (h : okB (m : Int) xs = true) (hp : Path m xs ys n) : okB (m : Int) ys = true ∧ ys.length = xs.length := by
  induction hp with
  | nil => exact ⟨h, rfl⟩
  | step _ hz ih =>
    have := nbrs_ok ih.1 hz
    exact ⟨this.1, by omega⟩
theorem Path.head {m n : Nat} {xs ys zs : List Int} (h1 : ys ∈ nbrs m xs) (hp : Path m ys zs n) : Path m xs zs (n + 1) := by
  induction hp with
  | nil => exact .step .nil h1
  | step _ hz ih => exact .step ih hz
theorem Path.back {m n : Nat} {xs ys : List Int} (h : okB (m : Int) xs = true) (hp : Path m xs ys n) : Path m ys xs n := by
  induction hp with
  | nil => exact .nil
  | step hp hz ih => exact Path.head (nbrs_back (path_ok h hp).1 hz) ih
theorem Path.trans {m n k : Nat} {xs ys zs : List Int} (hp : Path m xs ys n) (hq : Path m ys zs k) : Path m xs zs (n + k) := by
  induction hq with
  | nil => exact hp
  | step _ hz ih => exact .step ih hz

theorem bfs_len {m : Nat} {xs : List Int} (h : okB (m : Int) xs = true) (k : Nat) : (bfs m xs k).length ≤ 2 ^ (xs.length * m) := by
  have hi := (bfs_inv m xs k).1
  have hok : ∀ z ∈ (bfs m xs k).map (·.1), okB (m : Int) z = true ∧ z.length = xs.length := by
    intro z hz
    obtain ⟨e, he, rfl⟩ := List.mem_map.1 hz
    exact path_ok h (hi.path e he)
  have h1 : (((bfs m xs k).map (·.1)).map (keyN m)).Nodup := by
    rw [List.nodup_iff_pairwise_ne, List.pairwise_map]
    refine List.Pairwise.imp_of_mem ?_ (List.nodup_iff_pairwise_ne.1 hi.nodup)
    intro a b ha hb hne e
    exact hne (keyN_inj (by rw [(hok a ha).2, (hok b hb).2]) (okB_cells (hok a ha).1) (okB_cells (hok b hb).1) e)
  have h2 := nodup_le h1 (N := 2 ^ (xs.length * m)) (fun x hx => by
    obtain ⟨z, hz, rfl⟩ := List.mem_map.1 hx
    have := keyN_lt (fun x hx => (okB_cells (hok z hz).1 x hx).2)
    rwa [(hok z hz).2] at this)
  simpa using h2
/-- all that is reached -/
def reach (m : Nat) (xs : List Int) : List (List Int × Nat) := bfs m xs (2 ^ (xs.length * m))
theorem reach_eq {m : Nat} {xs : List Int} (h : okB (m : Int) xs = true) {k : Nat} (hk : (bfs m xs k).length ≤ k) : bfs m xs k = reach m xs := by
  rcases Nat.le_total k (2 ^ (xs.length * m)) with h1 | h1
  · obtain ⟨j, hj⟩ := Nat.exists_eq_add_of_le h1
    rw [reach, hj, bfs_stay m xs hk j]
  · obtain ⟨j, hj⟩ := Nat.exists_eq_add_of_le h1
    rw [reach, hj, bfs_stay m xs (bfs_len h _) j]
theorem reach_path {m : Nat} {xs : List Int} {e : List Int × Nat} (he : e ∈ reach m xs) : Path m xs e.1 e.2 := (bfs_inv m xs _).1.path e he
theorem reach_nodup (m : Nat) (xs : List Int) : ((reach m xs).map (·.1)).Nodup := (bfs_inv m xs _).1.nodup
theorem reach_all {m n : Nat} {xs ys : List Int} (h : okB (m : Int) xs = true) (hp : Path m xs ys n) : ∃ f ∈ reach m xs, f.1 = ys ∧ f.2 ≤ n := by
  have hi := (bfs_inv m xs (2 ^ (xs.length * m))).1
  induction hp with
  | nil => exact ⟨_, List.mem_of_getElem? hi.first, rfl, Nat.le_refl _⟩
  | step hp hz ih =>
    obtain ⟨f, hf, rfl, hle⟩ := ih
    obtain ⟨i, hi1, hi2⟩ := List.getElem_of_mem hf
    have hlen := bfs_len h (2 ^ (xs.length * m))
    obtain ⟨g, hg, e1, e2⟩ := hi.done i f (Nat.lt_of_lt_of_le hi1 hlen) (by rw [← hi2]; exact List.getElem?_eq_getElem hi1) _ hz
    exact ⟨g, hg, e1, by omega⟩
theorem nodup_fst {wk : List (List Int × Nat)} (hd : (wk.map (·.1)).Nodup) {e f : List Int × Nat} (he : e ∈ wk) (hf : f ∈ wk) (h : e.1 = f.1) : e = f := by
  induction wk with
  | nil => cases he
  | cons a wk ih =>
    simp only [List.map_cons, List.nodup_cons, List.mem_map, not_exists, not_and] at hd
    rcases List.mem_cons.1 he with h1 | h1
    · rcases List.mem_cons.1 hf with h2 | h2
      · rw [h1, h2]
      · rw [h1] at h; exact absurd h.symm (hd.1 f h2)
    · rcases List.mem_cons.1 hf with h2 | h2
      · rw [h2] at h; exact absurd h (hd.1 e h1)
      · exact ih hd.2 h1 h2
/-- what is told of an image is the least number of switches -/
theorem reach_least {m n : Nat} {xs : List Int} (h : okB (m : Int) xs = true) {e : List Int × Nat} (he : e ∈ reach m xs) (hp : Path m xs e.1 n) : e.2 ≤ n := by
  obtain ⟨f, hf, e1, e2⟩ := reach_all h hp
  rw [nodup_fst (reach_nodup m xs) he hf e1.symm]
  exact e2
end Go.Proofs.YtkcdoacojiilaaaGreat

-- Plain mathematics: the switches of an image in the order of the search.
namespace Go.Proofs.YtkcdoacojiilaaaGreat

/-- the switches of the image ahead of (a, b, c, d) -/
def swS (h m : Nat) (xs : List Int) (a b c d : Nat) : List Sw := (swP h m a b c d).filter (swOk xs)
theorem swS_0 (h m : Nat) (xs : List Int) : swS h m xs 0 1 0 1 = [] := by simp [swS, swP_0]
theorem swS_d {h m a b c d : Nat} {xs : List Int} (hd : c + 1 ≤ d) : swS h m xs a b c (d + 1) = if swOk xs ⟨a, b, c, d⟩ then swS h m xs a b c d ++ [⟨a, b, c, d⟩] else swS h m xs a b c d := by
  simp only [swS, swP_d hd, List.filter_append, List.filter_cons, List.filter_nil]
  split <;> simp
theorem swS_c {h m a b c : Nat} {xs : List Int} : swS h m xs a b (c + 1) (c + 1 + 1) = swS h m xs a b c m := by simp only [swS, swP_c]
theorem swS_b {h m a b : Nat} {xs : List Int} (hb : a + 1 ≤ b) : swS h m xs a (b + 1) 0 1 = swS h m xs a b m (m + 1) := by simp only [swS, swP_b hb]
theorem swS_a {h m a : Nat} {xs : List Int} : swS h m xs (a + 1) (a + 1 + 1) 0 1 = swS h m xs a h 0 1 := by simp only [swS, swP_a]
theorem swS_end (m : Nat) (xs : List Int) : swS xs.length m xs xs.length (xs.length + 1) 0 1 = swList m xs := by simp only [swS, swP_end, swList]
theorem swS_len {h m a b c d : Nat} (xs : List Int) (hh : h ≤ 6) (hm : m ≤ 6) (ha : a ≤ h) (hb : b ≤ h) (hc : c ≤ m) (hd : d ≤ m) : (swS h m xs a b c d).length < 1600 :=
  Nat.lt_of_le_of_lt (List.length_filter_le _ _) (swP_len hh hm ha hb hc hd)
theorem swP_b0 {h m a b : Nat} : swP h m a (b + 1) 0 1 = swP h m a (b + 1) 0 1 := rfl
/-- the whole row of columns done: from (c = m) on -/
theorem swP_m {h m a b d : Nat} (hd : d ≤ m + 1) : swP h m a b m d = swP h m a b m (m + 1) := by
  have e : ∀ d, d ≤ m + 1 → swL a b m (m + 1) d = [] := fun d hd => by simp [swL, Nat.sub_eq_zero_of_le hd]
  simp only [swP, e d hd, e (m + 1) (Nat.le_refl _)]
theorem swS_m {h m a b d : Nat} {xs : List Int} (hd : d ≤ m + 1) : swS h m xs a b m d = swS h m xs a b m (m + 1) := by simp only [swS, swP_m hd]
/-- a switch of an image -/
def VSw (m : Nat) (xs : List Int) : Type := { s : Sw // s ∈ swList m xs }
theorem swDo_eq_nbrs {m : Nat} {xs : List Int} (pre : List (VSw m xs)) : pre.map (·.1) = swList m xs → pre.map (fun s => swDo m xs s.1) = nbrs m xs := by
  intro h
  have e := congrArg (List.map (swDo m xs)) h
  rw [List.map_map] at e
  exact e
theorem swList_len {m : Nat} {xs : List Int} (h : okB (m : Int) xs = true) : (swList m xs).length < 1600 := by
  have hb := okB_bd h
  refine Nat.lt_of_le_of_lt (List.length_filter_le _ _) ?_
  rw [← swP_end]
  have := swP_len (h := xs.length) (m := m) (a := xs.length) (b := 0) (c := 0) (d := 0) (by omega) (by omega) (Nat.le_refl _) (by omega) (by omega) (by omega)
  simpa [swP, swB, swC, swL] using this
end Go.Proofs.YtkcdoacojiilaaaGreat
