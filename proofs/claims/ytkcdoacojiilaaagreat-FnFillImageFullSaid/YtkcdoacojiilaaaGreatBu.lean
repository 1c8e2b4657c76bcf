
/- Walks: the order of a list's places by descending value; the image that is built of sums. -/
import Derived.Test.YtkcdoacojiilaaaGreatIns
import Derived.Test.YtkcdoacojiilaaaGreatSv
import Derived.Test.YtkcdoacojiilaaaGreatWg
import Derived.Shelf.Abstract
namespace Go.Proofs.YtkcdoacojiilaaaGreat
open Go.RowKit Go.Shelf
set_option maxRecDepth 100000

def ordK (b0 gl n c : Nat) (L : List Int) (W : World) : Prop := Blk W b0 23 #[.slice (some ⟨gl, 0, none⟩) n c] ∧ Own W 0 (some ⟨gl, 0, none⟩) n L

set_option maxHeartbeats 2000000 in
theorem ord_call (b0 gl n c : Nat) (L : List Int) (hL : ∀ x ∈ L, -1000 ≤ x ∧ x ≤ 1000) (W : World) (x y : Int) (hk : ordK b0 gl n c L W) (hx : 0 ≤ x ∧ x < n) (hy : 0 ≤ y ∧ y < n) :
    Calls Tryz.prog 72 (#[.int .i64 x, .int .i64 y] ++ #[.pointer (some ⟨b0, 0, none⟩)]) W fun e w' => e = .returned (.int .i64 (L[y.toNat]?.getD 0 - L[x.toNat]?.getD 0)) ∧ Below W.heap.size W w' := by
  obtain ⟨hB, hO⟩ := hk
  have hxl := Lib.hid hO.1
  obtain ⟨p, rfl⟩ := Int.eq_ofNat_of_zero_le hx.1
  obtain ⟨q, rfl⟩ := Int.eq_ofNat_of_zero_le hy.1
  have hp1 : (0 : Int) ≤ (p : Int) := by omega
  have hp2 : (p : Int) < (n : Int) := by omega
  have hq1 : (0 : Int) ≤ (q : Int) := by omega
  have hq2 : (q : Int) < (n : Int) := by omega
  have hvp := hL _ (mem_at (show p < L.length by rw [hxl.out]; omega))
  have hvq := hL _ (mem_at (show q < L.length by rw [hxl.out]; omega))
  have cp := (hO.cellSet' (k := p) (by omega)).2.2.1
  have cq := (hO.cellSet' (k := q) (by omega)).2.2.1
  have c0 := hB.cell 0
  simp only [Int.toNat_natCast]
  generalize L[p]?.getD 0 = vp at cp hvp ⊢
  generalize L[q]?.getD 0 = vq at cq hvq ⊢
  clear hL hx hy hB hO
  simp only [List.append_toArray, List.cons_append, List.nil_append]
  have hw := Lib.hid (show IntKind.i64.wrap (vq - vp) = vq - vp from IntWalk.i64_in _ (by omega))
  go_enter Tryz.func72, Tryz.ntmps72
  go_wp2
  go_region_held3 (fun w' => w'.cell? ⟨b0, 0, none⟩ = some (.slice (some ⟨gl, 0, none⟩) n c) ∧ w'.cell? ⟨gl, p, none⟩ = some (.int .i64 vp) ∧ w'.cell? ⟨gl, q, none⟩ = some (.int .i64 vq)) (go_keep) (fail)
  go_wp2
  go_ret
  exact ⟨by show Ending.returned (.int .i64 (IntKind.i64.wrap (vq - vp))) = _; rw [hw.out], by (repeat (first | exact Below.refl _ _ | assumption | refine lo_alloc ?_ _ | refine lo_set ?_ (by simp; try omega) _ | refine Below.drew ?_ | refine below_drewN ?_ _ | refine lo_trans ?_ (by assumption) | refine lo_wr ?_ (by assumption) (by omega)))⟩

theorem ord_cmp (b0 gl n c : Nat) (L : List Int) (g : Nat) (hL : ∀ x ∈ L, -1000 ≤ x ∧ x ≤ 1000) (h1 : b0 ≠ g) (h2 : gl ≠ g) :
    Cmp 72 #[.pointer (some ⟨b0, 0, none⟩)] (fun x y => L[y.toNat]?.getD 0 - L[x.toNat]?.getD 0) (fun x => 0 ≤ x ∧ x < n) g (ordK b0 gl n c L) where
  ent := enters_of Tryz.func72 (by kernel_rfl) rfl
  next := fun h hb => ⟨h.1.next hb, h.2.next hb⟩
  set_ := fun i v h => ⟨h.1.far (p := ⟨g, i, none⟩) h1 v, h.2.far (p := ⟨g, i, none⟩) (by rintro g' ⟨⟩; exact h2) v⟩
  call := fun hk hx hy => ord_call b0 gl n c L hL _ _ _ hk hx hy

set_option maxHeartbeats 2000000 in
theorem stable_c (F : Nat) (cap : Array Value) (cf : Int → Int → Int) (ok : Int → Prop) (lo g n c : Nat) (Kp : World → Prop) (xs : List Int) (w : World) (hC : Cmp F cap cf ok g Kp) (ho : Own w lo (some ⟨g, 0, none⟩) n xs) (hk : Kp w) (hn : n ≤ 12) (hok : ∀ x ∈ xs, ok x) :
    Calls Tryz.prog 84 #[.slice (some ⟨g, 0, none⟩) n c, .int .i64 n, .func (.func F) #[] cap] w fun e w' => e = .returned (.tuple #[]) ∧ SI w w' lo g n Kp (isort (ltC cf) xs) := by
  have hC' := Lib.hid hC; clear hC
  have hok' := Lib.hid hok; clear hok
  have hk' := Lib.hid hk; clear hk
  have hn20 : ¬ (20 : Int) ≤ (n : Int) := by omega
  have hn21 : ¬ (20 : Int) < (n : Int) := by omega
  go_enter Tryz.func84, Tryz.ntmps84
  go_wp2
  refine wp_loop_rounds 1 ?_
  rw [rounds_succ]
  go_wp2_with fail
  refine (insertion_c F cap cf ok lo g n c Kp xs _ hC'.out ho hk'.out (by omega) hok'.out).mono ?_
  rintro e w1 ⟨rfl, hI⟩
  go_wp2
  refine wp_loop_rounds 1 ?_
  rw [rounds_succ]
  go_wp2
  go_end0
  exact ⟨rfl, hI⟩

set_option maxHeartbeats 2000000 in
theorem SortStable_c (F : Nat) (cap : Array Value) (cf : Int → Int → Int) (ok : Int → Prop) (lo g n c : Nat) (Kp : World → Prop) (xs : List Int) (w : World) (hC : Cmp F cap cf ok g Kp) (ho : Own w lo (some ⟨g, 0, none⟩) n xs) (hk : Kp w) (hn : n ≤ 12) (hok : ∀ x ∈ xs, ok x) :
    Calls Tryz.prog 71 #[.slice (some ⟨g, 0, none⟩) n c, .func (.func F) #[] cap] w fun e w' => e = .returned (.tuple #[]) ∧ SI w w' lo g n Kp (isort (ltC cf) xs) := by
  have hC' := Lib.hid hC; clear hC
  have hok' := Lib.hid hok; clear hok
  have hk' := Lib.hid hk; clear hk
  go_enter Tryz.func71, Tryz.ntmps71
  go_wp2_with fail
  refine (stable_c F cap cf ok lo g n c Kp xs _ hC'.out ho hk'.out hn hok'.out).mono ?_
  rintro e w1 ⟨rfl, hI⟩
  go_wp2
  go_end0
  exact ⟨rfl, hI⟩

set_option maxHeartbeats 4000000 in
theorem descending_c (lo gl n c : Nat) (L : List Int) (w : World) (hr : Own w lo (some ⟨gl, 0, none⟩) n L) (hn0 : 0 < n) (hn : n ≤ 6) (hL : ∀ x ∈ L, -1000 ≤ x ∧ x ≤ 1000) :
    Calls Tryz.prog 52 #[.slice (some ⟨gl, 0, none⟩) n c] w fun e w' => ∃ ks : List Int, e = .returned (.slice (some ⟨w.heap.size + 1, 0, none⟩) n n) ∧ Below w.heap.size w w' ∧ Own w' w.heap.size (some ⟨w.heap.size + 1, 0, none⟩) n ks ∧ Hid (∀ x ∈ ks, 0 ≤ x ∧ x < n) := by
  have hL' := Lib.hid hL; clear hL
  obtain ⟨g0, e0, _, hgl, _⟩ := hr.at_ hn0
  cases e0
  have hmk := make_row n (by omega)
  have hK0 : Blk ((w.alloc (.cells #[.slice (some ⟨gl, 0, none⟩) n c] 23)).alloc (.cells (madeCells #[Value.int IntKind.i64 0] n) 3)) w.heap.size 23 #[.slice (some ⟨gl, 0, none⟩) n c] := (Blk.new w 23 #[.slice (some ⟨gl, 0, none⟩) n c]).alloc _
  have hb0 : Blk ((w.alloc (.cells #[.slice (some ⟨gl, 0, none⟩) n c] 23)).alloc (.cells (madeCells #[Value.int IntKind.i64 0] n) 3)) (w.heap.size + 1) 3 (ints (List.replicate n 0)) := by rw [← made_ints]; exact heap_at2 w _ _ _
  have hO0 : Own ((w.alloc (.cells #[.slice (some ⟨gl, 0, none⟩) n c] 23)).alloc (.cells (madeCells #[Value.int IntKind.i64 0] n) 3)) w.heap.size (some ⟨w.heap.size + 1, 0, none⟩) n (List.replicate n 0) := Own.of_blk hb0 (by omega) (by simp)
  have hL0 : Below w.heap.size w ((w.alloc (.cells #[.slice (some ⟨gl, 0, none⟩) n c] 23)).alloc (.cells (madeCells #[Value.int IntKind.i64 0] n) 3)) := lo_alloc (lo_alloc (Below.refl _ _) _) _
  have c0 := (Blk.new w 23 #[.slice (some ⟨gl, 0, none⟩) n c]).cell 0
  clear hb0
  go_enter Tryz.func52, Tryz.ntmps52
  go_wp2
  clear c0
  go_loopw [10] (fun i wr => ∃ (k : Nat) (ks : List Int), k ≤ n ∧ i = .int .i64 k ∧ Below w.heap.size w wr ∧ Blk wr w.heap.size 23 #[.slice (some ⟨gl, 0, none⟩) n c] ∧ Own wr w.heap.size (some ⟨w.heap.size + 1, 0, none⟩) n ks ∧ Hid (∀ x ∈ ks, 0 ≤ x ∧ x < n)) (fun i _ => n - (intOf i).toNat)
  case atStart => exact ⟨0, _, Nat.zero_le _, rfl, hL0, hK0, hO0, Lib.hid (fun x hx => by have := List.eq_of_mem_replicate hx; omega)⟩
  case round =>
    clear hL0 hO0 hK0 hmk
    obtain ⟨k, ks, hk, rfl, hB, hK, hO, hks⟩ := hrel
    by_cases hlt : k < n
    · obtain ⟨g', e', _, hz, cc, ff, ss⟩ := hO.at_ (k := k) hlt
      cases e'
      have hs2 := ss (k : Int)
      have hB2 := lo_set hB (p := ⟨w.heap.size + 1, k, none⟩) (by simp) (.int .i64 (k : Int))
      have hK2 := hK.far (p := ⟨w.heap.size + 1, k, none⟩) (by simp) (.int .i64 (k : Int))
      have hks2 : Hid (∀ x ∈ ks.set k (k : Int), 0 ≤ x ∧ x < n) := Lib.hid (fun x hx => by
        rcases List.mem_or_eq_of_mem_set hx with h | rfl
        · exact hks.out x h
        · omega)
      clear ss hB hK hO hks
      go_wp2
      go_roundw
      case rel => exact ⟨k + 1, _, by omega, by go_num, hB2, hK2, hs2, hks2⟩
      case measure => simp [intOf]; omega
    · obtain rfl : k = n := by omega
      have hr2 := hr.next hB
      go_wp2_with fail
      refine (SortStable_c _ _ _ _ w.heap.size (w.heap.size + 1) k k (ordK w.heap.size gl k c L) ks _ (ord_cmp w.heap.size gl k c L _ hL'.out (by omega) (by omega)) hO ⟨hK, hr2.mono (Nat.zero_le _)⟩ (by omega) hks.out).mono ?_
      rintro e w2 ⟨rfl, hI⟩
      have hO2 := hI.ow
      have hB2 : Below w.heap.size w w2 := lo_grown hB hI.gr (by rintro _ ⟨⟩; omega)
      have hks2 : Hid (∀ x ∈ isort (ltC (fun x y => L[y.toNat]?.getD 0 - L[x.toNat]?.getD 0)) ks, 0 ≤ x ∧ x < k) := Lib.hid (fun x hx => hks.out x ((isort_perm _ _).mem_iff.1 hx))
      generalize isort (ltC (fun x y => L[y.toNat]?.getD 0 - L[x.toNat]?.getD 0)) ks = ks2 at hO2 hks2
      clear hI hO hks hB hK hr2
      go_wp2
      go_ret
      exact ⟨ks2, rfl, hB2, hO2, hks2⟩

set_option maxHeartbeats 2000000 in
theorem greatest_c (lo gl n c m : Nat) (L : List Int) (w : World) (hr : Own w lo (some ⟨gl, 0, none⟩) n L) (hn0 : 0 < n) (hn : n ≤ 6) (hm : m ≤ n) (hL : ∀ x ∈ L, -1000 ≤ x ∧ x ≤ 1000) :
    Calls Tryz.prog 24 #[.slice (some ⟨gl, 0, none⟩) n c, .int .i64 m] w fun e w' => ∃ ks : List Int, e = .returned (.slice (some ⟨w.heap.size + 1, 0, none⟩) m n) ∧ Below w.heap.size w w' ∧ Own w' w.heap.size (some ⟨w.heap.size + 1, 0, none⟩) n ks ∧ Hid (∀ x ∈ ks, 0 ≤ x ∧ x < n) := by
  have hL' := Lib.hid hL; clear hL
  have h1 : (m : Int) ≤ (n : Int) := by omega
  have h2 : (0 : Int) ≤ (m : Int) := by omega
  have h3 : ¬ n = 0 := by omega
  go_enter Tryz.func24, Tryz.ntmps24
  go_wp2_with fail
  refine (descending_c lo gl n c L _ hr hn0 hn hL'.out).mono ?_
  rintro e w1 ⟨ks, rfl, hb1, ho1, hk1⟩
  go_wp2
  go_ret
  exact ⟨ks, rfl, hb1, ho1, hk1⟩
end Go.Proofs.YtkcdoacojiilaaaGreat
