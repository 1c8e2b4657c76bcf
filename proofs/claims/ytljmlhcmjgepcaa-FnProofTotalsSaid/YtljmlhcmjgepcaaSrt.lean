
/- Walks: a list is sorted in descending order; the excess; ProofOk and ProofOf of the program. -/
import Derived.Test.YtljmlhcmjgepcaaIns
import Derived.Test.YtljmlhcmjgepcaaCn
import Derived.Test.YtljmlhcmjgepcaaMathZ
import Derived.Shelf.Abstract
namespace Go.Proofs.Ytljmlhcmjgepcaa
open Go.RowKit Go.Shelf
set_option maxRecDepth 100000

theorem desc_cmp (g : Nat) : Cmp 46 #[] (fun x y => y - x) (fun x => -1000 ≤ x ∧ x ≤ 1000) g (fun _ => True) where
  ent := enters_of Try.func46 (by kernel_rfl) rfl
  next := fun _ _ => trivial
  set_ := fun _ _ _ => trivial
  call := by
    intro W x y _ hx hy
    simp only [Array.append_empty]
    go_enter Try.func46, Try.ntmps46
    go_wp2
    go_ret
    exact ⟨rfl, Below.refl _ _⟩

set_option maxHeartbeats 1000000 in
theorem bitsLen_c (n : Int) (w : World) (h0 : 0 ≤ n) (hn : n ≤ 255) : Calls Try.prog 53 #[.int .u64 n] w fun e w' => (∃ k : Int, e = .returned (.int .i64 k)) ∧ w = w' := by
  go_enter Try.func53, Try.ntmps53
  go_wp2
  go_ret
  exact ⟨⟨_, rfl⟩, rfl⟩

set_option maxHeartbeats 4000000 in
theorem pdq_c (F : Nat) (cap : Array Value) (cf : Int → Int → Int) (ok : Int → Prop) (lo g n c : Nat) (lim : Int) (Kp : World → Prop) (xs : List Int) (w : World) (hC : Cmp F cap cf ok g Kp) (ho : Own w lo (some ⟨g, 0, none⟩) n xs) (hk : Kp w) (hn : n ≤ 12) (hok : ∀ x ∈ xs, ok x) :
    Calls Try.prog 52 #[.slice (some ⟨g, 0, none⟩) n c, .int .i64 0, .int .i64 n, .int .i64 lim, .func (.func F) #[] cap] w fun e w' => e = .returned (.tuple #[]) ∧ SI w w' lo g n Kp (isort (ltC cf) xs) := by
  have hC' := Lib.hid hC; clear hC
  have hok' := Lib.hid hok; clear hok
  have hk' := Lib.hid hk; clear hk
  go_enter Try.func52, Try.ntmps52
  go_wp2
  refine wp_loop_rounds 1 ?_
  rw [rounds_succ]
  go_wp2_with fail
  refine (insertion_c F cap cf ok lo g n c Kp xs _ hC'.out ho hk'.out (by omega) hok'.out).mono ?_
  rintro e w1 ⟨rfl, hI⟩
  go_wp2
  refine bodyPost_ret (results_none rfl _ _ _) rfl ?_
  exact ⟨rfl, hI⟩

set_option maxHeartbeats 4000000 in
theorem SortFunc_c (F : Nat) (cap : Array Value) (cf : Int → Int → Int) (ok : Int → Prop) (lo g n c : Nat) (Kp : World → Prop) (xs : List Int) (w : World) (hC : Cmp F cap cf ok g Kp) (ho : Own w lo (some ⟨g, 0, none⟩) n xs) (hk : Kp w) (hn : n ≤ 12) (hok : ∀ x ∈ xs, ok x) :
    Calls Try.prog 45 #[.slice (some ⟨g, 0, none⟩) n c, .func (.func F) #[] cap] w fun e w' => e = .returned (.tuple #[]) ∧ SI w w' lo g n Kp (isort (ltC cf) xs) := by
  have hC' := Lib.hid hC; clear hC
  have hok' := Lib.hid hok; clear hok
  have hk' := Lib.hid hk; clear hk
  go_enter Try.func45, Try.ntmps45
  go_wp2_with fail
  refine (bitsLen_c _ _ (by omega) (by omega)).mono ?_
  rintro e w1 ⟨⟨k, rfl⟩, rfl⟩
  go_wp2_with fail
  refine (pdq_c F cap cf ok lo g n c k Kp xs _ hC'.out ho hk'.out hn hok'.out).mono ?_
  rintro e w1 ⟨rfl, hI⟩
  go_wp2
  go_end0
  exact ⟨rfl, hI⟩

set_option maxHeartbeats 4000000 in
theorem sorted_c (A : Option Addr) (n c : Nat) (xs : List Int) (w : World) (hr : Rd w A n xs) (hn0 : 0 < n) (hn : n ≤ 12) (hok : ∀ x ∈ xs, -1000 ≤ x ∧ x ≤ 1000) :
    Calls Try.prog 35 #[.slice A n c] w fun e w' => ∃ g c', e = .returned (.slice (some ⟨g, 0, none⟩) n c') ∧ Below w.heap.size w w' ∧ Own w' w.heap.size (some ⟨g, 0, none⟩) n (dsort xs) ∧ n ≤ c' ∧ c' ≤ maxLen := by
  have hok' := Lib.hid hok; clear hok
  have hE := Lib.hid (show isort (ltC (fun x y => y - x)) xs = dsort xs by
    unfold dsort
    congr 1
    funext x y
    unfold ltC
    rw [Bool.eq_iff_iff]; simp; omega)
  go_enter Try.func35, Try.ntmps35
  go_wp2_with fail
  refine (Clone_c2 _ _ _ xs _ hr hn0 (by omega)).mono ?_
  rintro e w1 ⟨g, c', rfl, hb1, ho1, hc1, hc2⟩
  go_wp2_with fail
  refine (SortFunc_c _ _ _ _ w.heap.size g n c' (fun _ => True) xs _ (desc_cmp g) ho1 trivial hn hok'.out).mono ?_
  rintro e w2 ⟨rfl, hI⟩
  have hI' := Lib.hid hI; clear hI
  go_wp2
  go_ret
  refine ⟨g, c', rfl, ?_, by rw [← hE.out]; exact hI'.out.ow, hc1, hc2⟩
  refine lo_grown hb1 hI'.out.gr ?_
  rintro _ ⟨⟩
  obtain ⟨g', _, e, h1, _⟩ := ho1.2 hn0
  cases e
  exact h1
end Go.Proofs.Ytljmlhcmjgepcaa
