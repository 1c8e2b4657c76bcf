
/- Walks: slices.Repeat of a list of one number. -/
import Derived.Test.YtkcdoacojiilaaaGreatKb
import Derived.Laws.CopyOwn
import Derived.Deep.RegionLaw
namespace Go.Proofs.YtkcdoacojiilaaaGreat
open Go.RowKit
set_option maxRecDepth 100000

theorem u64_mask (a : Nat) (ha : a < 4294967296) : bits .and .u64 (a : Int) 4294967295 = (a : Int) := by
  have e : a &&& 4294967295 = a := by
    have := Nat.and_two_pow_sub_one_of_lt_two_pow (n := 32) (x := a) (by omega)
    simpa using this
  have h1 : ∀ b : Nat, b < 18446744073709551616 → (BitVec.ofInt 64 (b : Int)).toNat = b := fun b hb => by
    rw [BitVec.ofInt_natCast, BitVec.toNat_ofNat]; exact Nat.mod_eq_of_lt (by omega)
  show IntKind.u64.wrap ((BitVec.ofInt 64 (a : Int) &&& BitVec.ofInt 64 ((4294967295 : Nat) : Int)).toNat : Int) = _
  rw [BitVec.toNat_and, h1 a (by omega), h1 4294967295 (by omega), e]
  show (a : Int) % 18446744073709551616 = a
  omega
set_option maxHeartbeats 4000000 in
theorem Mul64_c (n : Nat) (w : World) (hn : n ≤ 1000) :
    Calls Tryz.prog 78 #[.int .u64 1, .int .u64 n] w fun e w' => e = .returned (.tuple #[.int .u64 0, .int .u64 n]) ∧ w = w' := by
  have h1 := u64_mask n (by omega)
  have h2 := u64_mask 1 (by omega)
  have h3 := u64_mask 0 (by omega)
  have h4 : (n : Int) / 4294967296 = 0 := by omega
  simp only [Int.natCast_one, Int.natCast_zero] at h2 h3
  go_enter Tryz.func78, Tryz.ntmps78
  go_wp2
  exact bodyPost_ret (v := .tuple #[.int .u64 0, .int .u64 n]) (by simp [results, Tryz.results78, go_sem]) rfl ⟨rfl, rfl⟩
set_option maxHeartbeats 4000000 in
theorem Mul_c (n : Nat) (w : World) (hn : n ≤ 1000) :
    Calls Tryz.prog 59 #[.int .u64 1, .int .u64 n] w fun e w' => e = .returned (.tuple #[.int .u64 0, .int .u64 n]) ∧ w = w' := by
  go_enter Tryz.func59, Tryz.ntmps59
  go_wp2_with fail
  refine (Mul64_c n _ hn).mono ?_
  rintro e w' ⟨rfl, rfl⟩
  go_wp2
  exact bodyPost_ret (v := .tuple #[.int .u64 0, .int .u64 n]) (by simp [results, Tryz.results59, go_sem]) rfl ⟨rfl, rfl⟩
def vals (xs : List Int) : List Value := xs.map (Value.int .i64)
theorem vals_len (xs : List Int) : (vals xs).length = xs.length := by simp [vals]
theorem rep_splice {n k : Nat} (v : Int) (h2 : k < n) : splice (vals (List.replicate k v ++ List.replicate (n - k) 0)) k (vals (List.replicate (min k (n - k)) v)) = vals (List.replicate (k + min k (n - k)) v ++ List.replicate (n - (k + min k (n - k))) 0) := by
  simp only [vals]
  rw [splice, List.length_map, List.length_replicate, ← List.map_take, ← List.map_drop, ← List.map_append, ← List.map_append]
  congr 1
  have e : List.drop (k + min k (n - k)) (List.replicate k v ++ List.replicate (n - k) (0 : Int)) = List.replicate (n - (k + min k (n - k))) 0 := by
    rw [List.drop_append, List.drop_replicate, List.drop_replicate, List.length_replicate, show k - (k + min k (n - k)) = 0 by omega, List.replicate_zero, List.nil_append]
    congr 1
    omega
  rw [List.take_left' (by simp), e, ← List.append_assoc, List.replicate_append_replicate]
set_option maxHeartbeats 4000000 in
theorem Repeat_c (A : Option Addr) (c n : Nat) (v : Int) (w : World) (hr : Rd w A 1 [v]) (h1 : 1 ≤ n) (hn : n ≤ 1000) :
    Calls Tryz.prog 39 #[.slice A 1 c, .int .i64 n] w fun e w' => ∃ g, e = .returned (.slice (some ⟨g, 0, none⟩) n n) ∧ Below w.heap.size w w' ∧ w.heap.size ≤ g ∧ Blk w' g 3 (ints (List.replicate n v)) := by
  have hmk := make_row n (by omega)
  obtain ⟨b, off, rfl, hb, hc⟩ := hr.at_ (k := 0) (by omega)
  simp only [Nat.add_zero, List.getElem?_cons_zero, Option.getD_some] at hc
  go_enter Tryz.func39, Tryz.ntmps39
  go_wp2_with fail
  refine (Mul_c n _ hn).mono ?_
  rintro e w' ⟨rfl, rfl⟩
  have hsz : (Tryz.prog.info? 3).map (·.size) = some 1 := by kernel_rfl
  have hB0 := lo_alloc (Below.refl w.heap.size w) (.cells (madeCells #[Value.int IntKind.i64 0] n) 3)
  have hg0 : (w.alloc (.cells (madeCells #[Value.int IntKind.i64 0] n) 3)).heap[w.heap.size]? = some (.cells (vals (List.replicate n 0)).toArray 3 (0, 0)) := by
    have := Blk.new w 3 (madeCells #[Value.int IntKind.i64 0] n)
    rw [made_ints] at this
    rw [made_ints]
    exact this
  have hc0 : (w.alloc (.cells (madeCells #[Value.int IntKind.i64 0] n) 3)).cell? ⟨b, off, none⟩ = some (.int .i64 v) := by rw [← hc]; exact hB0.cell hb
  have hsp : splice (vals (List.replicate n 0)) 0 (vals [v]) = vals (List.replicate 1 v ++ List.replicate (n - 1) 0) := by
    simp [vals, splice, List.drop_replicate]
  have hsp' := Lib.hid hsp
  have hg0' := Lib.hid hg0
  have hc0' := Lib.hid hc0
  clear hsp hg0 hc0
  obtain ⟨w0, hw0⟩ : ∃ w0, Hid (w0 = w.alloc (.cells (madeCells #[Value.int IntKind.i64 0] n) 3)) := ⟨_, Lib.hid rfl⟩
  go_wp2_with (refine wpList_copy_splice rfl (.tmp 31) (.tmp 32) 23 23 rfl 3 Tryz.underlying23 hsz _ _ _ _ _ _ rfl rfl w.heap.size 0 (vals (List.replicate n 0)) 3 hg0'.out (vals [v]) ?h1 ?h2 ?h3 ?h4 w.heap.size w hB0 (Nat.le_refl _) ?h5)
  case h1 => exact (Nat.min_eq_left h1).symm
  case h2 =>
    intro _ j u hj
    have hj0 : j = 0 := by
      rcases Nat.eq_zero_or_pos j with h | h
      · exact h
      · rw [List.getElem?_eq_none (by rw [vals_len]; exact h)] at hj; cases hj
    subst hj0
    simp [vals] at hj
    subst hj
    exact hc
  case h3 => rw [vals_len, vals_len]; simp; omega
  case h4 => simp [vals, Value.oneCell']
  case h5 =>
    intro w2 hg2 hB2
    rw [hsp'.out] at hg2
    have hg2' := Lib.hid hg2
    clear hg2 hB0 hg0' hc0' hc hb hsp' hmk
    go_wp2
    go_loopw [8] (fun i wr => ∃ k : Nat, 1 ≤ k ∧ k ≤ n ∧ i = .int .i64 k ∧ Below w.heap.size w wr ∧ Hid (wr.heap[w.heap.size]? = some (.cells (vals (List.replicate k v ++ List.replicate (n - k) 0)).toArray 3 (0, 0)))) (fun i _ => n - (intOf i).toNat)
    case atStart => exact ⟨1, Nat.le_refl _, h1, rfl, hB2, hg2'⟩
    case round =>
      obtain ⟨k, hk1, hk, rfl, hbl, hg⟩ := hrel
      by_cases hlt : k < n
      · obtain ⟨q, hq⟩ : ∃ q, Hid (q = min k (n - k)) := ⟨_, Lib.hid rfl⟩
        have hq1 : q ≤ k := by have := hq.out; omega
        have hq2 : k + q ≤ n := by have := hq.out; omega
        have hq3 : 0 < q := by have := hq.out; omega
        have e1 := rep_splice (n := n) (k := k) v hlt
        rw [← hq.out] at e1
        have e1 := Lib.hid e1
        have hln : Hid ((vals (List.replicate q v)).length = Nat.min k (n - k)) := Lib.hid (by rw [vals_len, List.length_replicate]; exact hq.out)
        have hlq : Hid ((vals (List.replicate q v)).length = q) := Lib.hid (by rw [vals_len, List.length_replicate])
        have hgd : Hid (wr.drew.heap[w.heap.size]? = some (.cells (vals (List.replicate k v ++ List.replicate (n - k) 0)).toArray 3 (0, 0))) := hg
        have hbd : Hid (Below w.heap.size w wr.drew) := Lib.hid (by first | exact hbl.drew | exact hbl)
        have hsrc : Hid (∀ j u, (vals (List.replicate q v))[j]? = some u → wr.drew.cell? ((⟨w.heap.size, 0, none⟩ : Addr).add j) = some u) := by
          refine Lib.hid ?_
          intro j u hj
          have hjl : j < q := by
            rcases Nat.lt_or_ge j q with h | h
            · exact h
            · rw [List.getElem?_eq_none (by rw [vals_len]; simpa using h)] at hj; cases hj
          simp only [vals, List.getElem?_map, List.getElem?_replicate, hjl, if_true, Option.map_some, Option.some.injEq] at hj
          subst hj
          have hjk : j < k := by omega
          have hb2 : Blk wr w.heap.size 3 (ints (List.replicate k v ++ List.replicate (n - k) 0)) := hg.out
          have := hb2.icell (k := j) (by simp; omega)
          rw [List.getElem?_append_left (by simpa using hjk), List.getElem?_replicate, if_pos hjk] at this
          rw [Addr.add_lit, Nat.zero_add]
          exact this
        have hfit : Hid (k + (vals (List.replicate q v)).length ≤ (vals (List.replicate k v ++ List.replicate (n - k) 0)).length) := Lib.hid (by rw [vals_len, vals_len]; simp; omega)
        have hone : Hid (∀ u ∈ vals (List.replicate q v), u.oneCell' = true) := Lib.hid (by
          intro u hu
          obtain ⟨x, _, rfl⟩ := List.mem_map.1 hu
          rfl)
        have hp0 : (0 : Int) ≤ (k : Int) := by omega
        have hp1 : (k : Int) ≤ (n : Int) := by omega
        have hne : ¬ n = k := by omega
        have hwr : IntKind.i64.wrap ((k : Int) + (q : Int)) = ((k + q : Nat) : Int) := by rw [IntKind.wrap_i64]; omega
        clear h1 hg2' hB2 hq
        go_wp2_with fail
        go_region_law (refine step_copy_splice rfl (.tmp 41) (.tmp 44) 23 23 rfl 3 Tryz.underlying23 hsz (some ⟨w.heap.size, k, none⟩) (some ⟨w.heap.size, 0, none⟩) (n - k) (n - k) k n (by simp [Act.eval, Act.put]) (by simp [Act.eval, Act.put]) w.heap.size k (vals (List.replicate k v ++ List.replicate (n - k) 0)) 3 hgd.out (vals (List.replicate q v)) hln.out (fun _ => ⟨rfl, ⟨w.heap.size, 0, none⟩, rfl, hsrc.out⟩) hfit.out hone.out w.heap.size w hbd.out (Nat.le_refl _) ?_; intro w4 hg4 hb4; rw [hlq.out]; rw [e1.out] at hg4)
        all_goals (simp [Act.put]; go_wp2; go_roundw)
        case rel => exact ⟨k + q, by omega, hq2, by rw [Int.natCast_add], hb4, hg4⟩
        case measure => simp [intOf]; omega
      · obtain rfl : k = n := by omega
        have hb2 : Blk wr w.heap.size 3 (ints (List.replicate k v)) := by have := hg.out; rw [Nat.sub_self, List.replicate_zero, List.append_nil] at this; exact this
        clear hg2' hB2 hg
        go_wp2
        go_ret
        exact ⟨_, rfl, hbl, Nat.le_refl _, hb2⟩
end Go.Proofs.YtkcdoacojiilaaaGreat
