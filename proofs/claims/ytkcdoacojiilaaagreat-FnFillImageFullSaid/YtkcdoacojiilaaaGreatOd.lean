
/- Walks: the places of a list by descending value, exactly: the program's way and the reference's. -/
import Derived.Test.YtkcdoacojiilaaaGreatBu
import Derived.Test.YtkcdoacojiilaaaGreatMathOd
namespace Go.Proofs.YtkcdoacojiilaaaGreat
open Go.RowKit Go.Shelf
set_option maxRecDepth 100000

theorem iotaL_step (n k : Nat) (hk : k < n) : ((iotaL n).take k ++ List.replicate (n - k) (0 : Int)).set k (k : Int) = (iotaL n).take (k + 1) ++ List.replicate (n - (k + 1)) 0 := by
  have h := copy_step (iotaL n) n k (iotaL_len n) hk
  have e : (iotaL n)[k]?.getD 0 = (k : Int) := by simp [iotaL, hk]
  rw [e] at h
  exact h

set_option maxHeartbeats 4000000 in
theorem descending_x (lo gl n c : Nat) (L : List Int) (w : World) (hr : Own w lo (some ⟨gl, 0, none⟩) n L) (hn0 : 0 < n) (hn : n ≤ 6) (hL : ∀ x ∈ L, -1000 ≤ x ∧ x ≤ 1000) :
    Calls Tryz.prog 52 #[.slice (some ⟨gl, 0, none⟩) n c] w fun e w' => e = .returned (.slice (some ⟨w.heap.size + 1, 0, none⟩) n n) ∧ Below w.heap.size w w' ∧ Own w' w.heap.size (some ⟨w.heap.size + 1, 0, none⟩) n (ordL L) := by
  have hL' := Lib.hid hL; clear hL
  have hxl := Lib.hid hr.1
  obtain ⟨g0, e0, _, hgl, _⟩ := hr.at_ hn0
  cases e0
  have hmk := make_row n (by omega)
  have hK0 : Blk ((w.alloc (.cells #[.slice (some ⟨gl, 0, none⟩) n c] 23)).alloc (.cells (madeCells #[Value.int IntKind.i64 0] n) 3)) w.heap.size 23 #[.slice (some ⟨gl, 0, none⟩) n c] := (Blk.new w 23 #[.slice (some ⟨gl, 0, none⟩) n c]).alloc _
  have hb0 : Blk ((w.alloc (.cells #[.slice (some ⟨gl, 0, none⟩) n c] 23)).alloc (.cells (madeCells #[Value.int IntKind.i64 0] n) 3)) (w.heap.size + 1) 3 (ints (List.replicate n 0)) := by rw [← made_ints]; exact heap_at2 w _ _ _
  have hO0 : Own ((w.alloc (.cells #[.slice (some ⟨gl, 0, none⟩) n c] 23)).alloc (.cells (madeCells #[Value.int IntKind.i64 0] n) 3)) w.heap.size (some ⟨w.heap.size + 1, 0, none⟩) n ((iotaL n).take 0 ++ List.replicate (n - 0) 0) := Own.of_blk (by simpa using hb0) (by omega) (by simp)
  have hL0 : Below w.heap.size w ((w.alloc (.cells #[.slice (some ⟨gl, 0, none⟩) n c] 23)).alloc (.cells (madeCells #[Value.int IntKind.i64 0] n) 3)) := lo_alloc (lo_alloc (Below.refl _ _) _) _
  have c0 := (Blk.new w 23 #[.slice (some ⟨gl, 0, none⟩) n c]).cell 0
  clear hb0
  go_enter Tryz.func52, Tryz.ntmps52
  go_wp2
  clear c0
  go_loopw [10] (fun i wr => ∃ k : Nat, k ≤ n ∧ i = .int .i64 k ∧ Below w.heap.size w wr ∧ Blk wr w.heap.size 23 #[.slice (some ⟨gl, 0, none⟩) n c] ∧ Own wr w.heap.size (some ⟨w.heap.size + 1, 0, none⟩) n ((iotaL n).take k ++ List.replicate (n - k) 0)) (fun i _ => n - (intOf i).toNat)
  case atStart => exact ⟨0, Nat.zero_le _, rfl, hL0, hK0, hO0⟩
  case round =>
    clear hL0 hO0 hK0 hmk
    obtain ⟨k, hk, rfl, hB, hK, hO⟩ := hrel
    by_cases hlt : k < n
    · obtain ⟨g', e', _, hz, cc, ff, ss⟩ := hO.at_ (k := k) hlt
      cases e'
      have hs2 := ss (k : Int)
      rw [iotaL_step n k hlt] at hs2
      have hB2 := lo_set hB (p := ⟨w.heap.size + 1, k, none⟩) (by simp) (.int .i64 (k : Int))
      have hK2 := hK.far (p := ⟨w.heap.size + 1, k, none⟩) (by simp) (.int .i64 (k : Int))
      clear ss hB hK hO
      go_wp2
      go_roundw
      case rel => exact ⟨k + 1, by omega, by go_num, hB2, hK2, hs2⟩
      case measure => simp [intOf]; omega
    · obtain rfl : k = n := by omega
      have hr2 := hr.next hB
      have hO1 : Own wr w.heap.size (some ⟨w.heap.size + 1, 0, none⟩) k (iotaL k) := by
        rw [List.take_of_length_le (by rw [iotaL_len]; omega), Nat.sub_self, List.replicate_zero, List.append_nil] at hO
        exact hO
      go_wp2_with fail
      refine (SortStable_c _ _ _ _ w.heap.size (w.heap.size + 1) k k (ordK w.heap.size gl k c L) (iotaL k) _ (ord_cmp w.heap.size gl k c L _ hL'.out (by omega) (by omega)) hO1 ⟨hK, hr2.mono (Nat.zero_le _)⟩ (by omega) (fun x hx => iotaL_mem.1 hx)).mono ?_
      rintro e w2 ⟨rfl, hI⟩
      have hO2 : Own w2 w.heap.size (some ⟨w.heap.size + 1, 0, none⟩) k (ordL L) := by
        have h := hI.ow
        rw [ordL, hxl.out]
        exact h
      have hB2 : Below w.heap.size w w2 := lo_grown hB hI.gr (by rintro _ ⟨⟩; omega)
      clear hI hO hO1 hB hK hr2
      go_wp2
      go_ret
      exact ⟨rfl, hB2, hO2⟩
end Go.Proofs.YtkcdoacojiilaaaGreat
