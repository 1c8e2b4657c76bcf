
/- Walks: a copy of an image; the image's other cells. -/
import Derived.Test.YtkcdoacojiilaaaGreatKf
import Derived.Test.YtkcdoacojiilaaaGreatKb
import Derived.Test.YtkcdoacojiilaaaGreatCn
import Derived.Deep.RegionHeld3
import Derived.Test.YtkcdoacojiilaaaGreatKd
namespace Go.Proofs.YtkcdoacojiilaaaGreat
open Go.RowKit

set_option maxHeartbeats 1000000 in
theorem clone_c (W : Int) (A : Option Addr) (n c : Nat) (xs : List Int) (w : World) (hr : Rd w A n xs) (hn0 : 0 < n) (hn : n ≤ 1048576) :
    Calls Tryz.prog 57 #[.agg #[.int .i64 W, .slice A n c]] w fun e w' => ∃ g c', e = .returned (.agg #[.int .i64 W, .slice (some ⟨g, 0, none⟩) n c']) ∧ Below w.heap.size w w' ∧ Own w' w.heap.size (some ⟨g, 0, none⟩) n xs := by
  have hz : ((w.alloc (.cells #[.int .i64 W, .slice A n c] 27)).alloc (.cells #[.int .i64 0, .slice none 0 0] 27)).heap.size = w.heap.size + 2 := by simp
  have hz' := Lib.hid hz; clear hz
  go_enter Tryz.func57, Tryz.ntmps57
  go_wp2
  go_region_held3 (fun w' => w'.cell? ⟨w.heap.size, 0, none⟩ = some (.int .i64 W) ∧ w'.cell? ⟨w.heap.size, 1, none⟩ = some (.slice A n c))
    (first
      | go_keep
      | exact ⟨((((Blk.new w 27 #[.int .i64 W, .slice A n c]).alloc (.cells #[.int .i64 0, .slice none 0 0] 27)).drew).next hb1).cell 0, ((((Blk.new w 27 #[.int .i64 W, .slice A n c]).alloc (.cells #[.int .i64 0, .slice none 0 0] 27)).drew).next hb1).cell 1⟩)
    (first
      | (go_at_call 23; refine (Clone_c _ _ _ xs _ (((hr.alloc _).alloc _).drew) hn0 hn).mono ?_; rintro e w1 ⟨g, c', rfl, hb1, ho1⟩; have hKr := ((heap_at2 w (.cells #[.int .i64 W, .slice A n c] 27) 27 #[.int .i64 0, .slice none 0 0]).drew).next hb1; have r0 := hKr.cell 0; have r1 := hKr.cell 1; have f0 := hKr.frozen 0; have f1 := hKr.frozen 1))
  obtain ⟨s0, s1, hB5⟩ := fin_cells1 (w := w) hKr (lo_trans (Below.drew (lo_alloc (lo_alloc (Below.refl w.heap.size w) (.cells #[.int .i64 W, .slice A n c] 27)) (.cells #[.int .i64 0, .slice none 0 0] 27))) hb1) (.int .i64 W) (.slice (some ⟨g, 0, none⟩) n c')
  have s0' := Lib.hid s0; have s1' := Lib.hid s1; clear s0 s1
  go_wp2
  refine bodyPost_ret (v := .agg #[.int .i64 W, .slice (some ⟨g, 0, none⟩) n c']) (by simp [results, Tryz.results57, go_sem, s0'.out, s1'.out]) rfl ⟨g, c', rfl, hB5, ?_⟩
  have hz2 : ((w.alloc (.cells #[.int .i64 W, .slice A n c] 27)).alloc (.cells #[.int .i64 0, .slice none 0 0] 27)).drew.heap.size = w.heap.size + 2 := hz'.out
  rw [hz2] at ho1
  exact ((ho1.far_lo (p := ⟨w.heap.size + 1, 0, none⟩) (by simp) _).far_lo (p := ⟨w.heap.size + 1, 1, none⟩) (by simp) _).mono (by omega)

def otherW (W : Int) (xs : List Int) : Int := if okB W xs then W else 0
def otherX (W : Int) (xs : List Int) : List Int := if okB W xs then img (fun i j => !cellF xs i j) xs.length W.toNat else []
theorem other_row {r m : Nat} (hr : r < 2 ^ m) : r ^^^ (2 ^ m - 1) = mkRow (fun j => !r.testBit j) m := by
  have hp : 0 < 2 ^ m := Nat.pow_pos (by omega)
  refine row_ext (Nat.xor_lt_two_pow hr (by omega)) (mkRow_lt _ _) (fun j hj => ?_)
  rw [Nat.testBit_xor, Nat.testBit_two_pow_sub_one, testBit_mkRow]
  simp [hj]
theorem okB_row {W : Int} {xs : List Int} {m : Nat} (h : okB W xs = true) (hW : W = m) {k : Nat} (hk : k < xs.length) : ∃ r : Nat, xs[k]?.getD 0 = (r : Int) ∧ r < 2 ^ m := by
  have h1 := allIn_at (okB_all h) k hk
  subst hW
  rw [Int.toNat_natCast] at h1
  have e : ((2 ^ m : Nat) : Int) = (2 : Int) ^ m := by simp
  exact ⟨(xs[k]?.getD 0).toNat, by omega, by omega⟩
theorem other_step {m k r : Nat} {xs : List Int} (hk : k < xs.length) (hx : xs[k]?.getD 0 = (r : Int)) (hr : r < 2 ^ m) :
    ((img (fun i j => !cellF xs i j) xs.length m).take k ++ xs.drop k).set k ((r ^^^ (2 ^ m - 1) : Nat) : Int) = (img (fun i j => !cellF xs i j) xs.length m).take (k + 1) ++ xs.drop (k + 1) := by
  refine take_drop_set _ _ _ _ hk ?_
  rw [img_get' hk, other_row hr]
  simp only [cellF, hx, Int.toNat_natCast]

end Go.Proofs.YtkcdoacojiilaaaGreat
