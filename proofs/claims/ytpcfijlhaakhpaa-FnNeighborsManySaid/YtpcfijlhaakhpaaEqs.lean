
/- Walks: slices of images compared, marked, held. -/
import Derived.Test.YtpcfijlhaakhpaaKl
import Derived.Test.YtpcfijlhaakhpaaKb
namespace Go.Proofs.Ytpcfijlhaakhpaa
open Go.RowKit
set_option maxRecDepth 100000

theorem Els.at_ {es : List El} {W : Int} {ys : List (List Int)} (h : Els es W ys) {k : Nat} {e : El} (he : es[k]? = some e) : e.W = W ∧ ys[k]? = some e.xs := by
  refine ⟨h.2 e (List.mem_of_getElem? he), ?_⟩
  rw [← h.1, List.getElem?_map, he]; rfl

set_option maxHeartbeats 4000000 in
theorem sameImages_t (A B : Option Addr) (n m c d : Nat) (W : Int) (es fs : List El) (ys : List (List Int)) (w : World) (hr : RdI w A n es) (hs : RdI w B m fs) (he : Els es W ys) (hf : Els fs W ys) (hn : n ≤ 1048576) (hy : ∀ y ∈ ys, y.length ≤ 1073741824) :
    Calls Try.prog 12 #[.slice A n c, .slice B m d] w fun e w' => e = .returned (.bool true) ∧ Below w.heap.size w w' := by
  obtain rfl : n = m := by rw [← hr.1, ← hs.1, he.len, hf.len]
  have he' := Lib.hid he; have hf' := Lib.hid hf; have hy' := Lib.hid hy
  clear he hf hy
  go_enter Try.func12, Try.ntmps12
  go_wp2
  go_loopw [5] (fun i wr => ∃ k : Nat, k ≤ n ∧ i = .int .i64 k ∧ Below w.heap.size w wr) (fun i _ => n - (intOf i).toNat)
  case atStart => exact ⟨0, Nat.zero_le _, rfl, Below.refl _ _⟩
  case round =>
    obtain ⟨k, hk, rfl, hbl⟩ := hrel
    by_cases hlt : k < n
    · obtain ⟨e, hek⟩ : ∃ e, es[k]? = some e := ⟨es[k]'(by rw [hr.1]; exact hlt), List.getElem?_eq_getElem _⟩
      obtain ⟨f, hfk⟩ : ∃ f, fs[k]? = some f := ⟨fs[k]'(by rw [hs.1]; exact hlt), List.getElem?_eq_getElem _⟩
      obtain ⟨b, off, rfl, hb, c0, c1, hR1⟩ := (hr.next hbl).at_ hlt hek
      obtain ⟨b', off', rfl, hb', d0, d1, hR2⟩ := (hs.next hbl).at_ hlt hfk
      obtain ⟨W1, A1, k1, x1⟩ := e
      obtain ⟨W2, A2, k2, x2⟩ := f
      obtain ⟨e1, e2⟩ := he'.out.at_ hek
      obtain ⟨f1, f2⟩ := hf'.out.at_ hfk
      dsimp only at c0 c1 d0 d1 hR1 hR2 e1 e2 f1 f2
      subst e1; subst f1
      obtain rfl : x1 = x2 := by rw [e2] at f2; exact Option.some.inj f2
      have hxl : x1.length ≤ 1073741824 := hy'.out _ (List.mem_of_getElem? e2)
      rw [Nat.mul_comm 2 k] at c0 c1 d0 d1
      clear hek hfk e2 f2
      have hki : (k : Int) < (n : Int) := by omega
      have hki0 : (0 : Int) ≤ (k : Int) := by omega
      go_wp2
      go_region_held3 (fun w' => w'.cell? ⟨b, off + k * 2, none⟩ = some (.int .i64 W2) ∧ w'.cell? ⟨b, off + k * 2 + 1, none⟩ = some (.slice A1 x1.length k1) ∧ w'.cell? ⟨b', off' + k * 2, none⟩ = some (.int .i64 W2) ∧ w'.cell? ⟨b', off' + k * 2 + 1, none⟩ = some (.slice A2 x1.length k2))
        (first
          | go_keep
          | exact ⟨(hb3.cell (p := ⟨b, off + k * 2, none⟩) hb).trans c0, (hb3.cell (p := ⟨b, off + k * 2 + 1, none⟩) hb).trans c1, (hb3.cell (p := ⟨b', off' + k * 2, none⟩) hb').trans d0, (hb3.cell (p := ⟨b', off' + k * 2 + 1, none⟩) hb').trans d1⟩)
        (first
          | (go_at_call 15; refine (lsameImage_t W2 A1 A2 x1.length x1.length k1 k2 x1 _ hR1.drew hR2.drew hxl).mono ?_; rintro e w3 ⟨rfl, hb3⟩))
      have hb4 := lo_trans hbl (lo_trans (Below.drew (Below.refl wr.heap.size wr)) hb3)
      go_wp2
      go_roundw
      case rel => exact ⟨k + 1, by omega, by go_num, hb4⟩
      case measure => simp [intOf]; omega
    · go_wp2
      go_ret
      exact ⟨rfl, hbl⟩
end Go.Proofs.Ytpcfijlhaakhpaa
