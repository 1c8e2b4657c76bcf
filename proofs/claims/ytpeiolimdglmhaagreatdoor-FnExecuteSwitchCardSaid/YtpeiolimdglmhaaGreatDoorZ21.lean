/- Plain facts and walks that the law's proof uses; each says its own conditions. -/
import Derived.Test.YtpeiolimdglmhaaGreatDoorZ20
import Derived.Test.YtpeiolimdglmhaaGreatDoorZ10
import Derived.Deep.RegionHeld3
-- Walks: a copy of an image; the image's other cells.
namespace Go.Proofs.YtpeiolimdglmhaaGreatDoor
open Go.RowKit

set_option maxHeartbeats 1000000 in
theorem clone_c (W : Int) (A : Option Addr) (n c : Nat) (xs : List Int) (w : World) (hr : Rd w A n xs) (hn0 : 0 < n) (hn : n ≤ 1048576) :
    Calls Tryz.prog 92 #[.agg #[.int .i64 W, .slice A n c]] w fun e w' => ∃ g c', e = .returned (.agg #[.int .i64 W, .slice (some ⟨g, 0, none⟩) n c']) ∧ Below w.heap.size w w' ∧ Own w' w.heap.size (some ⟨g, 0, none⟩) n xs := by
  have hz : ((w.alloc (.cells #[.int .i64 W, .slice A n c] 25)).alloc (.cells #[.int .i64 0, .slice none 0 0] 25)).heap.size = w.heap.size + 2 := by simp
  have hz' := Lib.hid hz; clear hz
  go_enter Tryz.func92, Tryz.ntmps92
  go_wp2
  go_region_held3 (fun w' => w'.cell? ⟨w.heap.size, 0, none⟩ = some (.int .i64 W) ∧ w'.cell? ⟨w.heap.size, 1, none⟩ = some (.slice A n c))
    (first
      | go_keep
      | exact ⟨((((Blk.new w 25 #[.int .i64 W, .slice A n c]).alloc (.cells #[.int .i64 0, .slice none 0 0] 25)).drew).next hb1).cell 0, ((((Blk.new w 25 #[.int .i64 W, .slice A n c]).alloc (.cells #[.int .i64 0, .slice none 0 0] 25)).drew).next hb1).cell 1⟩)
    (first
      | (go_at_call 67; refine (Clone_c _ _ _ xs _ (((hr.alloc _).alloc _).drew) hn0 hn).mono ?_; rintro e w1 ⟨g, c', rfl, hb1, ho1⟩; have hKr := ((heap_at2 w (.cells #[.int .i64 W, .slice A n c] 25) 25 #[.int .i64 0, .slice none 0 0]).drew).next hb1; have r0 := hKr.cell 0; have r1 := hKr.cell 1; have f0 := hKr.frozen 0; have f1 := hKr.frozen 1))
  obtain ⟨s0, s1, hB5⟩ := fin_cells1 (w := w) hKr (lo_trans (Below.drew (lo_alloc (lo_alloc (Below.refl w.heap.size w) (.cells #[.int .i64 W, .slice A n c] 25)) (.cells #[.int .i64 0, .slice none 0 0] 25))) hb1) (.int .i64 W) (.slice (some ⟨g, 0, none⟩) n c')
  have s0' := Lib.hid s0; have s1' := Lib.hid s1; clear s0 s1
  go_wp2
  refine bodyPost_ret (v := .agg #[.int .i64 W, .slice (some ⟨g, 0, none⟩) n c']) (by simp [results, Tryz.results92, go_sem, s0'.out, s1'.out]) rfl ⟨g, c', rfl, hB5, ?_⟩
  have hz2 : ((w.alloc (.cells #[.int .i64 W, .slice A n c] 25)).alloc (.cells #[.int .i64 0, .slice none 0 0] 25)).drew.heap.size = w.heap.size + 2 := hz'.out
  rw [hz2] at ho1
  exact ((ho1.far_lo (p := ⟨w.heap.size + 1, 0, none⟩) (by simp) _).far_lo (p := ⟨w.heap.size + 1, 1, none⟩) (by simp) _).mono (by omega)

theorem okB_row {W : Int} {xs : List Int} {m : Nat} (h : okB W xs = true) (hW : W = m) {k : Nat} (hk : k < xs.length) : ∃ r : Nat, xs[k]?.getD 0 = (r : Int) ∧ r < 2 ^ m := by
  have h1 := allIn_at (okB_all h) k hk
  subst hW
  rw [Int.toNat_natCast] at h1
  have e : ((2 ^ m : Nat) : Int) = (2 : Int) ^ m := by simp
  exact ⟨(xs[k]?.getD 0).toNat, by omega, by omega⟩
end Go.Proofs.YtpeiolimdglmhaaGreatDoor
