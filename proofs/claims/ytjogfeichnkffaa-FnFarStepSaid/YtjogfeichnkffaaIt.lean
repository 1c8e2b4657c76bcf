
/- Walks: the iterator over an image's cells. -/
import Derived.RangeFuncNested
import Derived.RangeFuncBound
import Derived.RangeFuncCalls
import Derived.RangeFuncLeaves
import Derived.Shelf.Abstract
import Derived.Shelf.RegionOpen
import Derived.OwnWalkIn
import Derived.TacticsInMore
import Derived.LoopNIn
import Derived.LoopIn
import Derived.Test.YtjogfeichnkffaaWa
import Derived.Test.YtjogfeichnkffaaMathG
namespace Go.Proofs.Ytjogfeichnkffaa
open Go.RowKit Go.Shelf
attribute [local go_sem] Oper.semAt_some

/-- block B lies as it lay -/
def KB (B : Nat) (W W' : World) : Prop := W'.heap[B]? = W.heap[B]?
theorem KB.refl (B : Nat) (W : World) : KB B W W := rfl
theorem KB.trans {B : Nat} {a b c : World} (h : KB B a b) (k : KB B b c) : KB B a c := Eq.trans k h
theorem KB.put {B : Nat} {w : World} (hB : B < w.heap.size) (W : World) (l : Nat) (o o' : Obj) (hl : w.heap.size ≤ l) (_ : W.heap[l]? = some o) (_ : o.isCells = false) (_ : o.isWalk = false) : KB B W (W.putObj l o') :=
  World.putObj_heap_other (by omega)
theorem KB.cell {B i : Nat} {W W' : World} (h : KB B W W') : W'.cell? ⟨B, i, none⟩ = W.cell? ⟨B, i, none⟩ := World.cell?_of_block h
theorem KB.of_grown {B : Nat} {W W' : World} {row : Option Nat} (h : W.grownBy W' row) (hB : B < W.heap.size) (hr : row ≠ some B) : KB B W W' := h.block B hB (fun e => hr e.symm)
theorem KB.of_below {B : Nat} {W W' : World} (h : Below W.heap.size W W') (hB : B < W.heap.size) : KB B W W' := h.block B hB

set_option maxRecDepth 100000 in
set_option maxHeartbeats 2000000 in
theorem cells1_in (F : Fence) (n : Nat) (hF : F.fn 50) (hro : F.round = none) (hn : 1 ≤ n) (l B h m c : Nat) (A : Option Addr) (hh : h ≤ 6) (hm : m ≤ 6) (J Jx : List (Cell h m) → World → Prop)
    (hY : ∀ pre x W, J pre W → pre.length < 100 → YieldAt F (n - 1) Try.prog l #[.int .i64 (x.1.1 : Int), .int .i64 (x.1.2 : Int)] W fun e W' =>
      (e = .returned (.bool true) ∧ J (pre ++ [x]) W' ∧ KB B W W') ∨ (e = .returned (.bool false) ∧ Jx (pre ++ [x]) W'))
    (W : World) (c0 : W.cell? ⟨B, 0, none⟩ = some (.int .i64 (m : Int))) (c1 : W.cell? ⟨B, 1, none⟩ = some (.slice A h c)) (h0 : J [] W) :
    CallsIn F n Try.prog 50 #[.func (.yield l) #[] #[], .pointer (some ⟨B, 0, none⟩)] W fun e W' => (∃ v, e = .returned v) ∧
      ((∃ ys, ys = cUpto h m h 0 ∧ J ys W') ∨ (∃ pre, (∃ i j, i < h ∧ j ≤ m ∧ pre = cUpto h m i j) ∧ Jx pre W')) := by
  refine callsIn_of_wp Try.func50 rfl hF ?_ hro
  simp only [Try.ntmps50, List.size_toArray, List.length_cons, List.length_nil, Nat.reduceAdd, Nat.reduceSub, Array.replicate_succ, Array.replicate_zero, List.push_toArray, List.append_toArray, List.nil_append, List.cons_append]
  gi_wp2
  gi_loopw [8] (fun i wr => ∃ k : Nat, k ≤ h ∧ i = .int .i64 k ∧ J (cUpto h m k 0) wr ∧ KB B W wr) (fun i _ => h - (intOf i).toNat)
  case atStart => exact ⟨0, Nat.zero_le _, rfl, h0, KB.refl _ _⟩
  case round =>
    obtain ⟨k, hk, rfl, hJs, hnx⟩ := hrel
    have d0 := hnx.cell.trans c0
    obtain ⟨wo, rfl⟩ : ∃ wo : World, wo = wr := ⟨_, rfl⟩
    by_cases hlt : k < h
    · gi_wp2
      gi_loopw [13] (fun i wr => ∃ j : Nat, j ≤ m ∧ i = .int .i64 j ∧ J (cUpto h m k j) wr ∧ KB B W wr) (fun i _ => m - (intOf i).toNat)
      case atStart => exact ⟨0, Nat.zero_le _, rfl, hJs, hnx⟩
      case round =>
        clear hJs hnx d0
        obtain ⟨j, hj, rfl, hJs, hnx⟩ := hrel
        by_cases hlt2 : j < m
        · have hlen := cUpto_len h m k j
          have hkm : k * m ≤ 6 * 6 := Nat.mul_le_mul (by omega) hm
          have hl100 : (cUpto h m k j).length < 100 := by omega
          clear hlen hkm
          obtain ⟨fn, tmps, assign, body, hy, hR⟩ := hY _ ⟨(k, j), hlt, hlt2⟩ wr hJs hl100
          dsimp only at hy
          clear hl100
          gi_wp2
          refine hR.mono ?_
          rintro e W3 (⟨rfl, hJ3, hk3⟩ | ⟨rfl, hJx3⟩)
          · gi_wp2
            go_roundw
            case rel => exact ⟨j + 1, by omega, by go_num, by rw [cUpto_succ hlt hlt2]; exact hJ3, hnx.trans hk3⟩
            case measure => simp [intOf]; omega
          · gi_wp2
            refine bodyPost_ret (results_none rfl _ _ _) rfl ?_
            exact ⟨⟨_, rfl⟩, .inr ⟨_, ⟨k, j + 1, hlt, by omega, (cUpto_succ hlt hlt2).symm⟩, hJx3⟩⟩
        · have hjm : j = m := by omega
          rw [hjm, ← cUpto_next] at hJs
          clear hjm
          gi_wp2
          go_roundw
          case rel => exact ⟨k + 1, by omega, by go_num, hJs, hnx⟩
          case measure => simp [intOf]; omega
    · have hkh : k = h := by omega
      rw [hkh] at hJs
      clear hkh
      gi_wp2
      go_end0
      exact ⟨⟨_, rfl⟩, .inl ⟨_, rfl, hJs⟩⟩

theorem cells_stops (F : Fence) (n : Nat) (hF : F.fn 50) (hro : F.round = none) (hn : 1 ≤ n) (B h m c : Nat) (A : Option Addr) (hh : h ≤ 6) (hm : m ≤ 6) (w : World) (hBw : B < w.heap.size)
    (hk : Blk w B 27 #[.int .i64 (m : Int), .slice A h c]) :
    SeqStopsK F n Try.prog 50 #[.pointer (some ⟨B, 0, none⟩)] (fun x : Cell h m => #[Value.int .i64 (x.1.1 : Int), Value.int .i64 (x.1.2 : Int)]) (KB B) (fun ys => ys = cUpto h m h 0)
      (fun pre => ∃ i j, i < h ∧ j ≤ m ∧ pre = cUpto h m i j) 100 w := fun l J Jx W hW _ _ hY h0 =>
  cells1_in F n hF hro hn l B h m c A hh hm J Jx hY W ((hW.cell (p := ⟨B, 0, none⟩) hBw).trans (hk.cell 0)) ((hW.cell (p := ⟨B, 1, none⟩) hBw).trans (hk.cell 1)) h0

set_option maxHeartbeats 400000 in
theorem cells_in (F : Fence) (n : Nat) (hF : F.fn 36) (hro : F.round = none) (v0 v1 : Value) (w : World) :
    CallsIn F n Try.prog 36 #[.agg #[v0, v1]] w fun e w' => e = .returned (.func (.func 50) #[] #[.pointer (some ⟨w.heap.size, 0, none⟩)]) ∧ w' = w.alloc (.cells #[v0, v1] 27) := by
  have hmf : ∀ (fn : Fn) (first cap : Array Value) (w : World), (Instr.makeFunc fn first cap).run Try.prog w = .ok (.func fn first cap) w := fun _ _ _ _ => rfl
  refine callsIn_of_wp Try.func36 rfl hF ?_ hro
  simp only [Try.ntmps36, List.size_toArray, List.length_cons, List.length_nil, Nat.reduceAdd, Nat.reduceSub, Array.replicate_succ, Array.replicate_zero, List.push_toArray, List.append_toArray, List.nil_append, List.cons_append]
  gi_wp2
  go_ret
  exact ⟨rfl, rfl⟩

theorem keeps_below {W W' : World} (h : Below W.heap.size W W') : KeepsOthers W W' :=
  ⟨h.size, fun k _ hk _ => (h.block k (Array.getElem?_eq_some_iff.1 hk).1).trans hk⟩
end Go.Proofs.Ytjogfeichnkffaa
