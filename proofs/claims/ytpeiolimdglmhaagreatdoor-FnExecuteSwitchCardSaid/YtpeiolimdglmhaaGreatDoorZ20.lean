/- Plain facts and walks that the law's proof uses; each says its own conditions. -/
import Derived.RangeFuncNested
import Derived.RangeFuncBound
import Derived.RangeFuncCalls
import Derived.RangeFuncLeaves
import Derived.Shelf.Abstract
import Derived.Shelf.RegionOpen
import Derived.OwnWalkIn
import Derived.TacticsInMore
import Derived.LoopNIn
import Derived.LoopIn
import Derived.Test.YtpeiolimdglmhaaGreatDoorZ10
import Derived.Test.YtpeiolimdglmhaaGreatDoorZ07
import Derived.Test.YtpeiolimdglmhaaGreatDoorZ11
-- Plain facts and walks that the law's proof uses; each says its own conditions.
namespace Go.Proofs.YtpeiolimdglmhaaGreatDoor
open Go.RowKit Go.Shelf
attribute [local go_sem] Oper.semAt_some

/-- block B lies as it lay -/
def KB (B : Nat) (W W' : World) : Prop := W'.heap[B]? = W.heap[B]?
theorem KB.refl (B : Nat) (W : World) : KB B W W := rfl
theorem KB.trans {B : Nat} {a b c : World} (h : KB B a b) (k : KB B b c) : KB B a c := Eq.trans k h
theorem KB.put {B : Nat} {w : World} (hB : B < w.heap.size) (W : World) (l : Nat) (o o' : Obj) (hl : w.heap.size ≤ l) (_ : W.heap[l]? = some o) (_ : o.isCells = false) (_ : o.isWalk = false) : KB B W (W.putObj l o') :=
  World.putObj_heap_other (by omega)
theorem KB.cell {B i : Nat} {W W' : World} (h : KB B W W') : W'.cell? ⟨B, i, none⟩ = W.cell? ⟨B, i, none⟩ := World.cell?_of_block h
theorem KB.of_grown {B : Nat} {W W' : World} {row : Option Nat} (h : W.grownBy W' row) (hB : B < W.heap.size) (hr : row ≠ some B) : KB B W W' := h.block B hB (fun e => hr e.symm)
theorem KB.of_below {B : Nat} {W W' : World} (h : Below W.heap.size W W') (hB : B < W.heap.size) : KB B W W' := h.block B hB

set_option maxRecDepth 100000 in
set_option maxHeartbeats 2000000 in
theorem cells1_in (F : Fence) (n : Nat) (hF : F.fn 77) (hro : F.round = none) (hn : 1 ≤ n) (l B h m c : Nat) (A : Option Addr) (hh : h ≤ 6) (hm : m ≤ 6) (J Jx : List (Cell h m) → World → Prop)
    (hY : ∀ pre x W, J pre W → pre.length < 100 → YieldAt F (n - 1) Tryz.prog l #[.int .i64 (x.1.1 : Int), .int .i64 (x.1.2 : Int)] W fun e W' =>
      (e = .returned (.bool true) ∧ J (pre ++ [x]) W' ∧ KB B W W') ∨ (e = .returned (.bool false) ∧ Jx (pre ++ [x]) W'))
    (W : World) (c0 : W.cell? ⟨B, 0, none⟩ = some (.int .i64 (m : Int))) (c1 : W.cell? ⟨B, 1, none⟩ = some (.slice A h c)) (h0 : J [] W) :
    CallsIn F n Tryz.prog 77 #[.func (.yield l) #[] #[], .pointer (some ⟨B, 0, none⟩)] W fun e W' => (∃ v, e = .returned v) ∧
      ((∃ ys, ys = cUpto h m h 0 ∧ J ys W') ∨ (∃ pre, (∃ i j, i < h ∧ j ≤ m ∧ pre = cUpto h m i j) ∧ Jx pre W')) := by
  refine callsIn_of_wp Tryz.func77 rfl hF ?_ hro
  simp only [Tryz.ntmps77, List.size_toArray, List.length_cons, List.length_nil, Nat.reduceAdd, Nat.reduceSub, Array.replicate_succ, Array.replicate_zero, List.push_toArray, List.append_toArray, List.nil_append, List.cons_append]
  gi_wp2
  gi_loopw [8] (fun i wr => ∃ k : Nat, k ≤ h ∧ i = .int .i64 k ∧ J (cUpto h m k 0) wr ∧ KB B W wr) (fun i _ => h - (intOf i).toNat)
  case atStart => exact ⟨0, Nat.zero_le _, rfl, h0, KB.refl _ _⟩
  case round =>
    obtain ⟨k, hk, rfl, hJs, hnx⟩ := hrel
    have d0 := hnx.cell.trans c0
    obtain ⟨wo, rfl⟩ : ∃ wo : World, wo = wr := ⟨_, rfl⟩
    by_cases hlt : k < h
    · gi_wp2
      gi_loopw [13] (fun i wr => ∃ j : Nat, j ≤ m ∧ i = .int .i64 j ∧ J (cUpto h m k j) wr ∧ KB B W wr) (fun i _ => m - (intOf i).toNat)
      case atStart => exact ⟨0, Nat.zero_le _, rfl, hJs, hnx⟩
      case round =>
        clear hJs hnx d0
        obtain ⟨j, hj, rfl, hJs, hnx⟩ := hrel
        by_cases hlt2 : j < m
        · have hlen := cUpto_len h m k j
          have hkm : k * m ≤ 6 * 6 := Nat.mul_le_mul (by omega) hm
          have hl100 : (cUpto h m k j).length < 100 := by omega
          clear hlen hkm
          obtain ⟨fn, tmps, assign, body, hy, hR⟩ := hY _ ⟨(k, j), hlt, hlt2⟩ wr hJs hl100
          dsimp only at hy
          clear hl100
          gi_wp2
          refine hR.mono ?_
          rintro e W3 (⟨rfl, hJ3, hk3⟩ | ⟨rfl, hJx3⟩)
          · gi_wp2
            go_roundw
            case rel => exact ⟨j + 1, by omega, by go_num, by rw [cUpto_succ hlt hlt2]; exact hJ3, hnx.trans hk3⟩
            case measure => simp [intOf]; omega
          · gi_wp2
            refine bodyPost_ret (results_none rfl _ _ _) rfl ?_
            exact ⟨⟨_, rfl⟩, .inr ⟨_, ⟨k, j + 1, hlt, by omega, (cUpto_succ hlt hlt2).symm⟩, hJx3⟩⟩
        · have hjm : j = m := by omega
          rw [hjm, ← cUpto_next] at hJs
          clear hjm
          gi_wp2
          go_roundw
          case rel => exact ⟨k + 1, by omega, by go_num, hJs, hnx⟩
          case measure => simp [intOf]; omega
    · have hkh : k = h := by omega
      rw [hkh] at hJs
      clear hkh
      gi_wp2
      go_end0
      exact ⟨⟨_, rfl⟩, .inl ⟨_, rfl, hJs⟩⟩

theorem cells_stops (F : Fence) (n : Nat) (hF : F.fn 77) (hro : F.round = none) (hn : 1 ≤ n) (B h m c : Nat) (A : Option Addr) (hh : h ≤ 6) (hm : m ≤ 6) (w : World) (hBw : B < w.heap.size)
    (hk : Blk w B 25 #[.int .i64 (m : Int), .slice A h c]) :
    SeqStopsK F n Tryz.prog 77 #[.pointer (some ⟨B, 0, none⟩)] (fun x : Cell h m => #[Value.int .i64 (x.1.1 : Int), Value.int .i64 (x.1.2 : Int)]) (KB B) (fun ys => ys = cUpto h m h 0)
      (fun pre => ∃ i j, i < h ∧ j ≤ m ∧ pre = cUpto h m i j) 100 w := fun l J Jx W hW _ _ hY h0 =>
  cells1_in F n hF hro hn l B h m c A hh hm J Jx hY W ((hW.cell (p := ⟨B, 0, none⟩) hBw).trans (hk.cell 0)) ((hW.cell (p := ⟨B, 1, none⟩) hBw).trans (hk.cell 1)) h0

set_option maxHeartbeats 400000 in
theorem cells_in (F : Fence) (n : Nat) (hF : F.fn 38) (hro : F.round = none) (v0 v1 : Value) (w : World) :
    CallsIn F n Tryz.prog 38 #[.agg #[v0, v1]] w fun e w' => e = .returned (.func (.func 77) #[] #[.pointer (some ⟨w.heap.size, 0, none⟩)]) ∧ w' = w.alloc (.cells #[v0, v1] 25) := by
  have hmf : ∀ (fn : Fn) (first cap : Array Value) (w : World), (Instr.makeFunc fn first cap).run Tryz.prog w = .ok (.func fn first cap) w := fun _ _ _ _ => rfl
  refine callsIn_of_wp Tryz.func38 rfl hF ?_ hro
  simp only [Tryz.ntmps38, List.size_toArray, List.length_cons, List.length_nil, Nat.reduceAdd, Nat.reduceSub, Array.replicate_succ, Array.replicate_zero, List.push_toArray, List.append_toArray, List.nil_append, List.cons_append]
  gi_wp2
  go_ret
  exact ⟨rfl, rfl⟩

theorem keeps_below {W W' : World} (h : Below W.heap.size W W') : KeepsOthers W W' :=
  ⟨h.size, fun k _ hk _ => (h.block k (Array.getElem?_eq_some_iff.1 hk).1).trans hk⟩
end Go.Proofs.YtpeiolimdglmhaaGreatDoor

-- Walks: the image turned.
namespace Go.Proofs.YtpeiolimdglmhaaGreatDoor
open Go.RowKit Go.Shelf
attribute [local go_sem] Oper.semAt_some

/-- 'has': the cell is set -/
theorem has_c (i j r n c : Nat) (W : Int) (xs : List Int) (A : Option Addr) (w : World) (hr : Rd w A n xs) (hi : i < n) (hj : j < 6) (hr6 : r < 64) (hc : xs[i]?.getD 0 = (r : Int)) :
    Calls Tryz.prog 39 #[.agg #[.int .i64 W, .slice A n c], .int .i64 i, .int .i64 j] w fun e w' => e = .returned (.bool (r.testBit j)) ∧ Below w.heap.size w w' := by
  obtain ⟨b, off, rfl, hb, hcc⟩ := (hr.alloc (.cells #[.int .i64 W, .slice A n c] 25)).at_ hi
  rw [hc] at hcc
  have hX := and_bit r j (by omega)
  have hY : ((if r.testBit j then (1 : Int) else 0) == 1) = r.testBit j := by cases r.testBit j <;> rfl
  have hY' := Lib.hid hY
  have hX' := Lib.hid hX
  clear hc hX hY
  go_enter Tryz.func39, Tryz.ntmps39
  go_wp2
  go_ret
  exact ⟨ret_bool (by rw [hX'.out]; exact hY'.out), by (repeat (first | exact Below.refl _ _ | assumption | refine lo_alloc ?_ _ | refine lo_set ?_ (by simp; try omega) _ | refine Below.drew ?_ | refine below_drewN ?_ _ | refine lo_trans ?_ (by assumption) | refine lo_wr ?_ (by assumption) (by omega)))⟩

theorem ownFrom_blk {β : Type} {B g : Nat} {t : TypeId} (f : β → Array Value) (hg : g < B) : OwnFrom B (fun (s : β) W => Blk W g t (f s)) :=
  fun _ _ _ _ hs hgr hr => hs.grown hgr (fun e => by have := (hr g e.symm).1; omega)

theorem fin_cells1 {w wr : World} {r : Nat} {t : TypeId} {v0 v1 : Value} (hK : Blk wr (w.heap.size + r) t #[v0, v1]) (hB : Below w.heap.size w wr) (u0 u1 : Value) :
    (((wr.setCell ⟨w.heap.size + r, 0, none⟩ u0).setCell ⟨w.heap.size + r, 1, none⟩ u1).cell? ⟨w.heap.size + r, 0, none⟩ = some u0) ∧ (((wr.setCell ⟨w.heap.size + r, 0, none⟩ u0).setCell ⟨w.heap.size + r, 1, none⟩ u1).cell? ⟨w.heap.size + r, 1, none⟩ = some u1) ∧
    Below w.heap.size w ((wr.setCell ⟨w.heap.size + r, 0, none⟩ u0).setCell ⟨w.heap.size + r, 1, none⟩ u1) := by
  have h := (hK.set_ 0 u0).set_ 1 u1
  exact ⟨by rw [h.cell]; rfl, by rw [h.cell]; rfl, (hB.setCell (by simp) _).setCell (by simp) _⟩

/-- is the cell set -/
def cellF (xs : List Int) (i j : Nat) : Bool := (xs[i]?.getD 0).toNat.testBit j
end Go.Proofs.YtpeiolimdglmhaaGreatDoor

-- Plain mathematics: switches and neighbors of an image.
namespace Go.Proofs.YtpeiolimdglmhaaGreatDoor

structure Sw where
  a : Nat
  b : Nat
  c : Nat
  d : Nat
deriving DecidableEq

def swL (a b c lo d : Nat) : List Sw := (List.range' lo (d - lo)).map (fun d => ⟨a, b, c, d⟩)
def swC (m a b c : Nat) : List Sw := (List.range c).flatMap (fun c => swL a b c (c + 1) m)
def swB (m a lo b : Nat) : List Sw := (List.range' lo (b - lo)).flatMap (fun b => swC m a b m)
def swA (h m a : Nat) : List Sw := (List.range a).flatMap (fun a => swB m a (a + 1) h)
/-- the switches ahead of (a, b, c, d) -/
def swP (h m a b c d : Nat) : List Sw := swA h m a ++ (swB m a (a + 1) b ++ (swC m a b c ++ swL a b c (c + 1) d))
def swAll (h m : Nat) : List Sw := swA h m h

theorem range'_snoc {lo d : Nat} (h : lo ≤ d) : List.range' lo (d + 1 - lo) = List.range' lo (d - lo) ++ [d] := by
  have e : d + 1 - lo = (d - lo) + 1 := by omega
  have e2 : lo + (d - lo) = d := by omega
  rw [e, List.range'_concat]
  simp [e2]
theorem swL_nil (a b c lo : Nat) : swL a b c lo lo = [] := by simp [swL]
theorem swP_0 (h m : Nat) : swP h m 0 1 0 1 = [] := by simp [swP, swA, swB, swC, swL]
theorem swP_d {h m a b c d : Nat} (hd : c + 1 ≤ d) : swP h m a b c (d + 1) = swP h m a b c d ++ [⟨a, b, c, d⟩] := by
  have e : swL a b c (c + 1) (d + 1) = swL a b c (c + 1) d ++ [⟨a, b, c, d⟩] := by
    rw [swL, range'_snoc hd, List.map_append]; rfl
  simp only [swP, e, List.append_assoc]
theorem swP_c {h m a b c : Nat} : swP h m a b (c + 1) (c + 1 + 1) = swP h m a b c m := by
  have e : swC m a b (c + 1) = swC m a b c ++ swL a b c (c + 1) m := by
    simp [swC, List.range_succ, List.flatMap_append]
  simp only [swP, e, swL_nil, List.append_nil]
theorem swP_b {h m a b : Nat} (hb : a + 1 ≤ b) : swP h m a (b + 1) 0 1 = swP h m a b m (m + 1) := by
  have e : swB m a (a + 1) (b + 1) = swB m a (a + 1) b ++ swC m a b m := by
    rw [swB, range'_snoc hb, List.flatMap_append]; simp [swB]
  simp only [swP, e, swL_nil, List.append_nil]
  simp [swC, swL]
theorem swP_a {h m a : Nat} : swP h m (a + 1) (a + 1 + 1) 0 1 = swP h m a h 0 1 := by
  have e : swA h m (a + 1) = swA h m a ++ swB m a (a + 1) h := by
    simp [swA, List.range_succ, List.flatMap_append]
  simp only [swP, e]
  simp [swC, swL, swB]
theorem swP_end (h m : Nat) : swP h m h (h + 1) 0 1 = swAll h m := by simp [swP, swB, swC, swL, swAll]

theorem flatMap_le {α β : Type} {l : List α} {f : α → List β} {k : Nat} (hf : ∀ x ∈ l, (f x).length ≤ k) : (l.flatMap f).length ≤ l.length * k := by
  induction l with
  | nil => simp
  | cons a l ih =>
    have h1 := hf a (by simp)
    have h2 := ih (fun x hx => hf x (by simp [hx]))
    simp only [List.flatMap_cons, List.length_append, List.length_cons, Nat.add_mul, Nat.one_mul]
    omega
theorem swL_len (a b c lo d : Nat) : (swL a b c lo d).length ≤ d := by simp [swL]
theorem swC_len (m a b c : Nat) : (swC m a b c).length ≤ c * m := by
  have := flatMap_le (l := List.range c) (f := fun c => swL a b c (c + 1) m) (k := m) (fun x _ => swL_len _ _ _ _ _)
  simpa [swC] using this
theorem swB_len (m a lo b : Nat) : (swB m a lo b).length ≤ b * (m * m) := by
  have := flatMap_le (l := List.range' lo (b - lo)) (f := fun b => swC m a b m) (k := m * m) (fun x _ => swC_len _ _ _ _)
  simp only [List.length_range'] at this
  exact Nat.le_trans this (Nat.mul_le_mul_right _ (by omega))
theorem swA_len (h m a : Nat) : (swA h m a).length ≤ a * (h * (m * m)) := by
  have := flatMap_le (l := List.range a) (f := fun a => swB m a (a + 1) h) (k := h * (m * m)) (fun x _ => swB_len _ _ _ _)
  simpa [swA] using this
theorem swP_len {h m a b c d : Nat} (hh : h ≤ 6) (hm : m ≤ 6) (ha : a ≤ h) (hb : b ≤ h) (hc : c ≤ m) (hd : d ≤ m) : (swP h m a b c d).length < 1600 := by
  have h1 := swA_len h m a
  have h2 := swB_len m a (a + 1) b
  have h3 := swC_len m a b c
  have h4 := swL_len a b c (c + 1) d
  have e1 : m * m ≤ 6 * 6 := Nat.mul_le_mul hm hm
  have e2 : h * (m * m) ≤ 6 * 36 := Nat.mul_le_mul hh e1
  have e3 : a * (h * (m * m)) ≤ 6 * 216 := Nat.mul_le_mul (by omega) e2
  have e4 : b * (m * m) ≤ 6 * 36 := Nat.mul_le_mul (by omega) e1
  have e5 : c * m ≤ 6 * 6 := Nat.mul_le_mul (by omega) hm
  simp only [swP, List.length_append]
  omega

def swOk (xs : List Int) (s : Sw) : Bool := (cellF xs s.b s.d == cellF xs s.a s.c) && (cellF xs s.a s.d != cellF xs s.a s.c) && (cellF xs s.b s.c != cellF xs s.a s.c)
def inSw (s : Sw) (i j : Nat) : Bool := (i == s.a || i == s.b) && (j == s.c || j == s.d)
/-- the image with the switch's four cells turned over -/
def swDo (m : Nat) (xs : List Int) (s : Sw) : List Int := img (fun i j => cellF xs i j ^^ inSw s i j) xs.length m
/-- the switches of an image -/
def swList (m : Nat) (xs : List Int) : List Sw := (swAll xs.length m).filter (swOk xs)
/-- the neighbors of an image -/
def nbrs (m : Nat) (xs : List Int) : List (List Int) := (swList m xs).map (swDo m xs)

theorem cellF_img' {f : Nat → Nat → Bool} {h m i j : Nat} (hi : i < h) (hj : j < m) : cellF (img f h m) i j = f i j := by
  simp [cellF, img_get hi, testBit_mkRow, hj]
theorem mem_swL {a b c lo d : Nat} {s : Sw} : s ∈ swL a b c lo d ↔ s.a = a ∧ s.b = b ∧ s.c = c ∧ lo ≤ s.d ∧ s.d < d := by
  simp only [swL, List.mem_map, List.mem_range'_1]
  constructor
  · rintro ⟨x, hx, rfl⟩; simp; omega
  · rintro ⟨rfl, rfl, rfl, h1, h2⟩; exact ⟨s.d, by omega, rfl⟩
theorem mem_swC {m a b c : Nat} {s : Sw} : s ∈ swC m a b c ↔ s.a = a ∧ s.b = b ∧ s.c < c ∧ s.c < s.d ∧ s.d < m := by
  simp only [swC, List.mem_flatMap, List.mem_range, mem_swL]
  constructor
  · rintro ⟨x, hx, h1, h2, h3, h4, h5⟩; omega
  · rintro ⟨h1, h2, h3, h4, h5⟩; exact ⟨s.c, h3, h1, h2, rfl, by omega, h5⟩
theorem mem_swB {m a lo b : Nat} {s : Sw} : s ∈ swB m a lo b ↔ s.a = a ∧ lo ≤ s.b ∧ s.b < b ∧ s.c < s.d ∧ s.d < m := by
  simp only [swB, List.mem_flatMap, List.mem_range'_1, mem_swC]
  constructor
  · rintro ⟨x, hx, h1, h2, h3, h4, h5⟩; omega
  · rintro ⟨h1, h2, h3, h4, h5⟩; exact ⟨s.b, by omega, h1, rfl, by omega, h4, h5⟩
theorem mem_swAll {h m : Nat} {s : Sw} : s ∈ swAll h m ↔ s.a < s.b ∧ s.b < h ∧ s.c < s.d ∧ s.d < m := by
  simp only [swAll, swA, List.mem_flatMap, List.mem_range, mem_swB]
  constructor
  · rintro ⟨x, hx, h1, h2, h3, h4, h5⟩; omega
  · rintro ⟨h1, h2, h3, h4⟩; exact ⟨s.a, by omega, rfl, by omega, h2, h3, h4⟩
theorem mem_swList {m : Nat} {xs : List Int} {s : Sw} : s ∈ swList m xs ↔ (s.a < s.b ∧ s.b < xs.length ∧ s.c < s.d ∧ s.d < m) ∧ swOk xs s = true := by
  simp only [swList, List.mem_filter, mem_swAll]
theorem swDo_len (m : Nat) (xs : List Int) (s : Sw) : (swDo m xs s).length = xs.length := by simp [swDo, img_len]
theorem swDo_cell {m : Nat} {xs : List Int} {s : Sw} {i j : Nat} (hi : i < xs.length) (hj : j < m) : cellF (swDo m xs s) i j = (cellF xs i j ^^ inSw s i j) := by
  rw [swDo, cellF_img' hi hj]
/-- an image is the image of its cells -/
theorem img_self {m : Nat} {xs : List Int} (h : okB (m : Int) xs = true) : img (cellF xs) xs.length m = xs := by
  obtain ⟨m', f, e1, _, _, e⟩ := okB_rows h
  have e1 : m = m' := by omega
  subst e1
  conv => rhs; rw [e]
  refine img_congr (fun i hi j hj => ?_)
  conv => lhs; rw [e]
  exact cellF_img' hi hj
/-- a switch done twice leaves the image -/
theorem swDo_back {m : Nat} {xs : List Int} (h : okB (m : Int) xs = true) (s : Sw) : swDo m (swDo m xs s) s = xs := by
  conv => rhs; rw [← img_self h]
  rw [swDo, swDo_len]
  refine img_congr (fun i hi j hj => ?_)
  rw [swDo_cell hi hj, Bool.xor_assoc, Bool.xor_self, Bool.xor_false]
theorem swDo_ok {m : Nat} {xs : List Int} {s : Sw} (hs : s ∈ swList m xs) : swOk (swDo m xs s) s = true := by
  obtain ⟨⟨h1, h2, h3, h4⟩, h5⟩ := mem_swList.1 hs
  simp only [swOk] at h5 ⊢
  rw [swDo_cell h2 h4, swDo_cell (by omega) (by omega), swDo_cell (by omega) h4, swDo_cell h2 (by omega)]
  have e1 : inSw s s.b s.d = true := by simp [inSw]
  have e2 : inSw s s.a s.c = true := by simp [inSw]
  have e3 : inSw s s.a s.d = true := by simp [inSw]
  have e4 : inSw s s.b s.c = true := by simp [inSw]
  rw [e1, e2, e3, e4]
  revert h5
  cases cellF xs s.b s.d <;> cases cellF xs s.a s.c <;> cases cellF xs s.a s.d <;> cases cellF xs s.b s.c <;> simp
/-- neighbors are neighbors of each other -/
theorem nbrs_back {m : Nat} {xs ys : List Int} (h : okB (m : Int) xs = true) (hy : ys ∈ nbrs m xs) : xs ∈ nbrs m ys := by
  simp only [nbrs, List.mem_map] at hy ⊢
  obtain ⟨s, hs, rfl⟩ := hy
  refine ⟨s, ?_, swDo_back h s⟩
  have hs' := mem_swList.1 hs
  exact mem_swList.2 ⟨by rw [swDo_len]; exact hs'.1, swDo_ok hs⟩
end Go.Proofs.YtpeiolimdglmhaaGreatDoor

-- Plain mathematics: the images that switches reach, and how far they are.
namespace Go.Proofs.YtpeiolimdglmhaaGreatDoor

inductive Path (m : Nat) (xs : List Int) : List Int → Nat → Prop
  | nil : Path m xs xs 0
  | step {ys zs : List Int} {n : Nat} : Path m xs ys n → zs ∈ nbrs m ys → Path m xs zs (n + 1)

def seen (wk : List (List Int × Nat)) (z : List Int) : Bool := wk.any (fun e => e.1 == z)
def bAdd1 (d : Nat) (wk : List (List Int × Nat)) (z : List Int) : List (List Int × Nat) := if seen wk z then wk else wk ++ [(z, d)]
def bAdd (d : Nat) (wk : List (List Int × Nat)) (zs : List (List Int)) : List (List Int × Nat) := zs.foldl (bAdd1 d) wk
/-- the images found after k of them have been worked off -/
def bfs (m : Nat) (xs : List Int) : Nat → List (List Int × Nat)
  | 0 => [(xs, 0)]
  | k + 1 => match (bfs m xs k)[k]? with
    | some e => bAdd (e.2 + 1) (bfs m xs k) (nbrs m e.1)
    | none => bfs m xs k

theorem seen_iff {wk : List (List Int × Nat)} {z : List Int} : seen wk z = true ↔ ∃ f ∈ wk, f.1 = z := by simp [seen]

structure BInv (m : Nat) (xs : List Int) (k : Nat) (wk : List (List Int × Nat)) : Prop where
  path : ∀ e ∈ wk, Path m xs e.1 e.2
  nodup : (wk.map (·.1)).Nodup
  first : wk[0]? = some (xs, 0)
  sorted : ∀ (i j : Nat) (e f : List Int × Nat), wk[i]? = some e → wk[j]? = some f → i ≤ j → e.2 ≤ f.2
  done : ∀ (i : Nat) (e : List Int × Nat), i < k → wk[i]? = some e → ∀ z ∈ nbrs m e.1, ∃ f ∈ wk, f.1 = z ∧ f.2 ≤ e.2 + 1

theorem snoc_get {α : Type} {l : List α} {x : α} {i : Nat} {e : α} (h : (l ++ [x])[i]? = some e) : l[i]? = some e ∨ (i = l.length ∧ e = x) := by
  rcases Nat.lt_trichotomy i l.length with hi | hi | hi
  · rw [List.getElem?_append_left hi] at h; exact .inl h
  · subst hi; simp at h; exact .inr ⟨rfl, h.symm⟩
  · rw [List.getElem?_append_right (by omega)] at h
    have : i - l.length ≠ 0 := by omega
    simp [this] at h
theorem get_snoc {α : Type} {l : List α} {x : α} {i : Nat} {e : α} (h : l[i]? = some e) : (l ++ [x])[i]? = some e := by
  have hi : i < l.length := by
    rcases Nat.lt_or_ge i l.length with h' | h'
    · exact h'
    · rw [List.getElem?_eq_none h'] at h; cases h
  rw [List.getElem?_append_left hi]; exact h

/-- the state amid the neighbors zs of image k -/
structure BMid (m : Nat) (xs : List Int) (k : Nat) (e0 : List Int × Nat) (zs : List (List Int)) (wk : List (List Int × Nat)) : Prop extends BInv m xs k wk where
  cur : wk[k]? = some e0
  top : ∀ f ∈ wk, f.2 ≤ e0.2 + 1
  part : ∀ z ∈ zs, ∃ f ∈ wk, f.1 = z ∧ f.2 ≤ e0.2 + 1

theorem BMid.add {m : Nat} {xs : List Int} {k : Nat} {e0 : List Int × Nat} {zs : List (List Int)} {wk : List (List Int × Nat)} (h : BMid m xs k e0 zs wk) {z : List Int} (hz : z ∈ nbrs m e0.1) :
    BMid m xs k e0 (zs ++ [z]) (bAdd1 (e0.2 + 1) wk z) := by
  unfold bAdd1
  cases hs : seen wk z with
  | true =>
    rw [if_pos rfl]
    obtain ⟨f, hf, e⟩ := seen_iff.1 hs
    refine { h with part := fun y hy => ?_ }
    rcases List.mem_append.1 hy with hy | hy
    · exact h.part y hy
    · obtain rfl := List.mem_singleton.1 hy
      exact ⟨f, hf, e, h.top f hf⟩
  | false =>
    rw [if_neg (by simp)]
    have hn : ∀ f ∈ wk, f.1 ≠ z := fun f hf e => by
      have := seen_iff.2 ⟨f, hf, e⟩
      rw [hs] at this; cases this
    have hk0 : e0 ∈ wk := List.mem_of_getElem? h.cur
    refine ⟨⟨?_, ?_, get_snoc h.first, ?_, ?_⟩, get_snoc h.cur, ?_, ?_⟩
    · intro e he
      rcases List.mem_append.1 he with he | he
      · exact h.path e he
      · obtain rfl := List.mem_singleton.1 he
        exact .step (h.path e0 hk0) hz
    · rw [List.map_append, List.nodup_append]
      refine ⟨h.nodup, by simp, ?_⟩
      intro a ha b hb
      obtain ⟨f, hf, rfl⟩ := List.mem_map.1 ha
      simp at hb
      subst hb
      exact hn f hf
    · intro i j e f hi hj hij
      rcases snoc_get hi with hi | ⟨hi, rfl⟩
      · rcases snoc_get hj with hj | ⟨hj, rfl⟩
        · exact h.sorted i j e f hi hj hij
        · exact h.top e (List.mem_of_getElem? hi)
      · rcases snoc_get hj with hj | ⟨hj, rfl⟩
        · have : j < wk.length := (List.getElem?_eq_some_iff.1 hj).1
          omega
        · exact Nat.le_refl _
    · intro i e hik hi y hy
      rcases snoc_get hi with hi | ⟨hi, rfl⟩
      · obtain ⟨f, hf, e1, e2⟩ := h.done i e hik hi y hy
        exact ⟨f, List.mem_append_left _ hf, e1, e2⟩
      · have : k < wk.length := (List.getElem?_eq_some_iff.1 h.cur).1
        omega
    · intro f hf
      rcases List.mem_append.1 hf with hf | hf
      · exact h.top f hf
      · obtain rfl := List.mem_singleton.1 hf
        exact Nat.le_refl _
    · intro y hy
      rcases List.mem_append.1 hy with hy | hy
      · obtain ⟨f, hf, e1, e2⟩ := h.part y hy
        exact ⟨f, List.mem_append_left _ hf, e1, e2⟩
      · obtain rfl := List.mem_singleton.1 hy
        exact ⟨_, List.mem_append_right _ (List.mem_singleton.2 rfl), rfl, Nat.le_refl _⟩
/-- the number of an image -/
def keyN (m : Nat) (xs : List Int) : Nat := xs.foldr (fun x n => n * 2 ^ m + x.toNat) 0
theorem keyN_inj {m : Nat} : ∀ {xs ys : List Int}, xs.length = ys.length → (∀ x ∈ xs, 0 ≤ x ∧ x.toNat < 2 ^ m) → (∀ x ∈ ys, 0 ≤ x ∧ x.toNat < 2 ^ m) → keyN m xs = keyN m ys → xs = ys
  | [], [], _, _, _, _ => rfl
  | x :: xs, y :: ys, hl, hx, hy, he => by
    have h1 := hx x (by simp)
    have h2 := hy y (by simp)
    have e1 : keyN m (x :: xs) = keyN m xs * 2 ^ m + x.toNat := rfl
    have e2 : keyN m (y :: ys) = keyN m ys * 2 ^ m + y.toNat := rfl
    rw [e1, e2] at he
    have hp : 0 < 2 ^ m := Nat.pow_pos (by omega)
    have a1 : (keyN m xs * 2 ^ m + x.toNat) % 2 ^ m = x.toNat := by rw [Nat.mul_comm, Nat.mul_add_mod, Nat.mod_eq_of_lt h1.2]
    have a2 : (keyN m ys * 2 ^ m + y.toNat) % 2 ^ m = y.toNat := by rw [Nat.mul_comm, Nat.mul_add_mod, Nat.mod_eq_of_lt h2.2]
    have b1 : (keyN m xs * 2 ^ m + x.toNat) / 2 ^ m = keyN m xs := by rw [Nat.mul_comm, Nat.mul_add_div hp, Nat.div_eq_of_lt h1.2, Nat.add_zero]
    have b2 : (keyN m ys * 2 ^ m + y.toNat) / 2 ^ m = keyN m ys := by rw [Nat.mul_comm, Nat.mul_add_div hp, Nat.div_eq_of_lt h2.2, Nat.add_zero]
    rw [he] at a1 b1
    have c1 : x.toNat = y.toNat := a1.symm.trans a2
    have c2 : keyN m xs = keyN m ys := b1.symm.trans b2
    have c3 : x = y := by omega
    rw [c3, keyN_inj (by simpa using hl) (fun z hz => hx z (by simp [hz])) (fun z hz => hy z (by simp [hz])) c2]
theorem okB_cells {m : Nat} {xs : List Int} (h : okB (m : Int) xs = true) : ∀ x ∈ xs, 0 ≤ x ∧ x.toNat < 2 ^ m := by
  intro x hx
  obtain ⟨i, hi, rfl⟩ := List.getElem_of_mem hx
  have ha := allIn_at (okB_all h) i hi
  rw [Int.toNat_natCast, List.getElem?_eq_getElem hi, Option.getD_some] at ha
  have e2 : ((2 ^ m : Nat) : Int) = (2 : Int) ^ m := by simp
  omega
theorem nbrs_ok {m : Nat} {xs ys : List Int} (h : okB (m : Int) xs = true) (hy : ys ∈ nbrs m xs) : okB (m : Int) ys = true ∧ ys.length = xs.length := by
  simp only [nbrs, List.mem_map] at hy
  obtain ⟨s, _, rfl⟩ := hy
  have hb := okB_bd h
  exact ⟨okB_img (by omega) (by omega) (by omega) (by omega), swDo_len m xs s⟩
theorem path_ok {m n : Nat} {xs ys : List Int} (h : okB (m : Int) xs = true) (hp : Path m xs ys n) : okB (m : Int) ys = true ∧ ys.length = xs.length := by
  induction hp with
  | nil => exact ⟨h, rfl⟩
  | step _ hz ih =>
    have := nbrs_ok ih.1 hz
    exact ⟨this.1, by omega⟩
theorem Path.head {m n : Nat} {xs ys zs : List Int} (h1 : ys ∈ nbrs m xs) (hp : Path m ys zs n) : Path m xs zs (n + 1) := by
  induction hp with
  | nil => exact .step .nil h1
  | step _ hz ih => exact .step ih hz
theorem Path.back {m n : Nat} {xs ys : List Int} (h : okB (m : Int) xs = true) (hp : Path m xs ys n) : Path m ys xs n := by
  induction hp with
  | nil => exact .nil
  | step hp hz ih => exact Path.head (nbrs_back (path_ok h hp).1 hz) ih
theorem Path.trans {m n k : Nat} {xs ys zs : List Int} (hp : Path m xs ys n) (hq : Path m ys zs k) : Path m xs zs (n + k) := by
  induction hq with
  | nil => exact hp
  | step _ hz ih => exact .step ih hz

/-- all that is reached -/
def reach (m : Nat) (xs : List Int) : List (List Int × Nat) := bfs m xs (2 ^ (xs.length * m))
end Go.Proofs.YtpeiolimdglmhaaGreatDoor

-- Plain mathematics: the switches of an image in the order of the search.
namespace Go.Proofs.YtpeiolimdglmhaaGreatDoor

/-- the switches of the image ahead of (a, b, c, d) -/
def swS (h m : Nat) (xs : List Int) (a b c d : Nat) : List Sw := (swP h m a b c d).filter (swOk xs)
theorem swS_0 (h m : Nat) (xs : List Int) : swS h m xs 0 1 0 1 = [] := by simp [swS, swP_0]
theorem swS_d {h m a b c d : Nat} {xs : List Int} (hd : c + 1 ≤ d) : swS h m xs a b c (d + 1) = if swOk xs ⟨a, b, c, d⟩ then swS h m xs a b c d ++ [⟨a, b, c, d⟩] else swS h m xs a b c d := by
  simp only [swS, swP_d hd, List.filter_append, List.filter_cons, List.filter_nil]
  split <;> simp
theorem swS_c {h m a b c : Nat} {xs : List Int} : swS h m xs a b (c + 1) (c + 1 + 1) = swS h m xs a b c m := by simp only [swS, swP_c]
theorem swS_b {h m a b : Nat} {xs : List Int} (hb : a + 1 ≤ b) : swS h m xs a (b + 1) 0 1 = swS h m xs a b m (m + 1) := by simp only [swS, swP_b hb]
theorem swS_a {h m a : Nat} {xs : List Int} : swS h m xs (a + 1) (a + 1 + 1) 0 1 = swS h m xs a h 0 1 := by simp only [swS, swP_a]
theorem swS_end (m : Nat) (xs : List Int) : swS xs.length m xs xs.length (xs.length + 1) 0 1 = swList m xs := by simp only [swS, swP_end, swList]
theorem swS_len {h m a b c d : Nat} (xs : List Int) (hh : h ≤ 6) (hm : m ≤ 6) (ha : a ≤ h) (hb : b ≤ h) (hc : c ≤ m) (hd : d ≤ m) : (swS h m xs a b c d).length < 1600 :=
  Nat.lt_of_le_of_lt (List.length_filter_le _ _) (swP_len hh hm ha hb hc hd)
/-- a switch of an image -/
def VSw (m : Nat) (xs : List Int) : Type := { s : Sw // s ∈ swList m xs }
end Go.Proofs.YtpeiolimdglmhaaGreatDoor

-- Plain mathematics: the line sums of a direction, counted cell by cell.
namespace Go.Proofs.YtpeiolimdglmhaaGreatDoor

def dirB (d : Int) : Bool := decide (0 ≤ d) && decide (d < 8)
def stpXs : List Int := [1, 0, 1, 1, 2, 1, 2, 1]
def stpYs : List Int := [0, 1, 1, -1, 1, 2, -1, -2]
def stpX (d : Nat) : Int := stpXs[d]?.getD 0
def stpY (d : Nat) : Int := stpYs[d]?.getD 0
def lnD (d i j : Nat) : Int := stpX d * (i : Int) - stpY d * (j : Int)
def loD (d h m : Nat) : Int := min (min (min 0 (lnD d (h - 1) 0)) (lnD d 0 (m - 1))) (lnD d (h - 1) (m - 1))
def hiD (d h m : Nat) : Int := max (max (max 0 (lnD d (h - 1) 0)) (lnD d 0 (m - 1))) (lnD d (h - 1) (m - 1))
def nD (d h m : Nat) : Nat := (hiD d h m - loD d h m + 1).toNat
def lnOk (d h m i j : Nat) : Bool := decide (loD d h m ≤ lnD d i j) && decide (lnD d i j ≤ hiD d h m) && decide (-17 ≤ loD d h m) && decide (loD d h m ≤ 0) && decide (0 ≤ hiD d h m) && decide (hiD d h m ≤ 17)
theorem ln_all : ((List.range 8).all fun d => (List.range 7).all fun h => (List.range 7).all fun m => (List.range h).all fun i => (List.range m).all fun j => lnOk d h m i j) = true := by decide +kernel
theorem ln_range (d : Nat) (hd : d < 8) (h : Nat) (hh : h < 7) (m : Nat) (hm : m < 7) (i : Nat) (hi : i < h) (j : Nat) (hj : j < m) :
    loD d h m ≤ lnD d i j ∧ lnD d i j ≤ hiD d h m ∧ -17 ≤ loD d h m ∧ loD d h m ≤ 0 ∧ 0 ≤ hiD d h m ∧ hiD d h m ≤ 17 := by
  have h1 := List.all_eq_true.1 ln_all d (List.mem_range.2 hd)
  have h2 := List.all_eq_true.1 h1 h (List.mem_range.2 hh)
  have h3 := List.all_eq_true.1 h2 m (List.mem_range.2 hm)
  have h4 := List.all_eq_true.1 h3 i (List.mem_range.2 hi)
  have h5 := List.all_eq_true.1 h4 j (List.mem_range.2 hj)
  simp only [lnOk, Bool.and_eq_true, decide_eq_true_eq, and_assoc] at h5
  exact h5
/-- how many set cells of the line have been counted, before the cell (i, j) -/
def dcnt (xs : List Int) (d m i j : Nat) (k : Int) : Nat := sumN i (fun a => sumN m (fun b => b1 (cellF xs a b && decide (lnD d a b = k)))) + sumN j (fun b => b1 (cellF xs i b && decide (lnD d i b = k)))
def dst (xs : List Int) (d h m i j : Nat) : List Int := (List.range (nD d h m)).map (fun k : Nat => ((dcnt xs d m i j (loD d h m + (k : Int)) : Nat) : Int))
/-- the line sums of a direction -/
def dirS (d m : Nat) (xs : List Int) : List Int := dst xs d xs.length m xs.length 0
theorem dst_len (xs : List Int) (d h m i j : Nat) : (dst xs d h m i j).length = nD d h m := by simp [dst]
theorem dst_zero (xs : List Int) (d h m : Nat) : dst xs d h m 0 0 = List.replicate (nD d h m) 0 := by
  rw [dst, List.eq_replicate_iff]
  refine ⟨by simp, fun x hx => ?_⟩
  obtain ⟨k, _, rfl⟩ := List.mem_map.1 hx
  rfl
theorem dst_next (xs : List Int) (d h m i : Nat) : dst xs d h m i m = dst xs d h m (i + 1) 0 := by
  unfold dst dcnt
  simp only [sumN, Nat.add_zero]
theorem dst_get {xs : List Int} {d h m i j k : Nat} (hk : k < nD d h m) : (dst xs d h m i j)[k]?.getD 0 = ((dcnt xs d m i j (loD d h m + k) : Nat) : Int) := by
  simp [dst, List.getElem?_map, List.getElem?_range hk]
theorem dcnt_le (xs : List Int) (d m i j : Nat) (k : Int) : dcnt xs d m i j k ≤ i * m + j := by
  have h1 := sumN_le_mul (n := i) (c := m) (F := fun a => sumN m (fun b => b1 (cellF xs a b && decide (lnD d a b = k)))) (fun a _ => by
    have := sumN_le_mul (n := m) (c := 1) (F := fun b => b1 (cellF xs a b && decide (lnD d a b = k))) (fun b _ => b1_le _)
    omega)
  have h2 := sumN_le_mul (n := j) (c := 1) (F := fun b => b1 (cellF xs i b && decide (lnD d i b = k))) (fun b _ => b1_le _)
  unfold dcnt
  omega
/-- the place of a cell's line -/
def lnK (d h m i j : Nat) : Nat := (lnD d i j - loD d h m).toNat
theorem lnK_lt {d h m i j : Nat} (hd : d < 8) (hh : h ≤ 6) (hm : m ≤ 6) (hi : i < h) (hj : j < m) : lnK d h m i j < nD d h m ∧ lnD d i j - loD d h m = (lnK d h m i j : Int) ∧ nD d h m ≤ 35 := by
  have := ln_range d hd h (by omega) m (by omega) i hi j hj
  unfold lnK nD
  omega
theorem dst_set {xs : List Int} {d h m i j : Nat} (hd : d < 8) (hh : h ≤ 6) (hm : m ≤ 6) (hi : i < h) (hj : j < m) :
    (dst xs d h m i j).set (lnK d h m i j) ((dst xs d h m i j)[lnK d h m i j]?.getD 0 + ((b1 (cellF xs i j) : Nat) : Int)) = dst xs d h m i (j + 1) := by
  obtain ⟨h1, h2, _⟩ := lnK_lt hd hh hm hi hj
  apply List.ext_getElem?
  intro k
  rw [List.getElem?_set]
  by_cases hk : lnK d h m i j = k
  · subst hk
    rw [if_pos rfl, if_pos (by rw [dst_len]; exact h1), dst_get h1]
    simp only [dst, List.getElem?_map, List.getElem?_range h1, Option.map_some]
    have e : loD d h m + (lnK d h m i j : Int) = lnD d i j := by omega
    simp only [dcnt, sumN, e]
    simp
    omega
  · rw [if_neg hk]
    simp only [dst, List.getElem?_map]
    by_cases hn : k < nD d h m
    · rw [List.getElem?_range hn, Option.map_some, Option.map_some]
      have e : ¬ lnD d i j = loD d h m + (k : Int) := by omega
      simp only [dcnt, sumN, e, decide_false, Bool.and_false]
      simp [b1]
    · rw [List.getElem?_eq_none (by simpa using hn)]
      rfl
theorem dirS_le {xs : List Int} {d m : Nat} (hx : xs.length ≤ 6) (hm : m ≤ 6) : ∀ x ∈ dirS d m xs, 0 ≤ x ∧ x < 100 := by
  intro x h
  obtain ⟨k, _, rfl⟩ := List.mem_map.1 h
  have h1 := dcnt_le xs d m xs.length 0 (loD d xs.length m + k)
  have h2 : xs.length * m ≤ 6 * 6 := Nat.mul_le_mul hx hm
  omega
end Go.Proofs.YtpeiolimdglmhaaGreatDoor
