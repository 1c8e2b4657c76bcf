
/- Walks: a slice of switches is reversed (of its switches no more is said than that they are there). -/
import Derived.Test.YtkcdoacojiilaaaGreatKg
import Derived.RegionTactic
namespace Go.Proofs.YtkcdoacojiilaaaGreat
open Go.RowKit
set_option maxRecDepth 100000

/-- a slice of n switches of one's own -/
def RowV (w : World) (base : Nat) (A : Option Addr) (c n : Nat) : Prop :=
  (A = none ∧ n = 0 ∧ c = 0) ∨ ∃ g cur, A = some ⟨g, 0, none⟩ ∧ base ≤ g ∧ Blk w g 50 cur ∧ n ≤ c ∧ c ≤ maxLen ∧ cur.size = c * 4 ∧ ∀ i, i < n * 4 → ∃ a : Int, cur[i]? = some (.int .i64 a)
theorem RowV.next {w w' : World} {base c n : Nat} {A : Option Addr} (h : RowV w base A c n) (hb : Below w.heap.size w w') : RowV w' base A c n := by
  rcases h with h | ⟨g, cur, h1, h2, h3, h4⟩
  · exact .inl h
  · exact .inr ⟨g, cur, h1, h2, h3.next hb, h4⟩
theorem RowV.grown {w w' : World} {base c n : Nat} {A : Option Addr} {row : Option Nat} (h : RowV w base A c n) (hg : w.grownBy w' row) (hr : ∀ g, A = some ⟨g, 0, none⟩ → row ≠ some g) : RowV w' base A c n := by
  rcases h with h | ⟨g, cur, h1, h2, h3, h4⟩
  · exact .inl h
  · exact .inr ⟨g, cur, h1, h2, h3.grown hg (fun e => hr g h1 e.symm), h4⟩

theorem RowV.set_ {w : World} {base c n g : Nat} (h : RowV w base (some ⟨g, 0, none⟩) c n) (i : Nat) (a : Int) : RowV (w.setCell ⟨g, i, none⟩ (.int .i64 a)) base (some ⟨g, 0, none⟩) c n := by
  rcases h with ⟨h, _⟩ | ⟨g', cur, h1, h2, h3, h4, h5, h6, h7⟩
  · cases h
  · cases h1
    refine .inr ⟨g, _, rfl, h2, h3.set_ i _, h4, h5, by simpa using h6, fun j hj => ?_⟩
    obtain ⟨u, hu⟩ := h7 j hj
    by_cases hij : i = j
    · subst hij
      have : i < cur.size := by
        rcases Nat.lt_or_ge i cur.size with h' | h'
        · exact h'
        · rw [Array.getElem?_eq_none h'] at hu; cases hu
      exact ⟨a, by simp [this]⟩
    · exact ⟨u, by rw [Array.getElem?_setIfInBounds_ne hij]; exact hu⟩
theorem RowV.drew {w : World} {base c n : Nat} {A : Option Addr} (h : RowV w base A c n) : RowV w.drew base A c n := h
theorem RowV.ofBuf {w : World} {base c : Nat} {A : Option Addr} {ss : List Sw} (h : BufW w base A c ss) : RowV w base A c ss.length := by
  rcases h.2 with ⟨h1, h2⟩ | ⟨g, cap, cur, h1, h2, h3, h4, h5, h6, h7⟩
  · injection h1 with h1 h3 h4
    exact .inl ⟨h1, h3, h4⟩
  · injection h1 with h1 h8 h9
    subst h9
    refine .inr ⟨g, cur, h1, h2, h3, h4, h5, h6, fun i hi => ?_⟩
    have hl : i < (swCells ss).length := by rw [swCells_len]; exact hi
    obtain ⟨u, hm, e⟩ : ∃ u ∈ swCells ss, (swCells ss)[i]? = some u := ⟨_, List.getElem_mem hl, List.getElem?_eq_getElem hl⟩
    rw [← h7, List.getElem?_take, if_pos hi] at e
    simp only [swCells, List.mem_flatMap, Sw.cells, List.mem_cons, List.not_mem_nil, or_false] at hm
    obtain ⟨s, _, rfl | rfl | rfl | rfl⟩ := hm <;> exact ⟨_, by simpa using e⟩

set_option maxHeartbeats 4000000 in
theorem Reverse_c (base c n : Nat) (A : Option Addr) (w : World) (h : RowV w base A c n) :
    Calls Tryz.prog 34 #[.slice A n c] w fun e w' => e = .returned (.tuple #[]) ∧ RowV w' base A c n ∧ w.grownBy w' (rowA A) := by
  have hn : n ≤ maxLen := by
    rcases h with ⟨_, rfl, _⟩ | ⟨g, cur, _, _, _, h4, h5, _⟩
    · exact Nat.zero_le _
    · omega
  unfold maxLen at hn
  go_enter Tryz.func34, Tryz.ntmps34
  go_wp2
  go_loopw [2, 3] (fun i j wr => ∃ (k : Nat) (q : Int), q ≤ n - 1 - k ∧ q ≤ (n : Int) ∧ -1 - (n : Int) ≤ q ∧ k ≤ n ∧ i = .int .i64 k ∧ j = .int .i64 q ∧ RowV wr base A c n ∧ w.grownBy wr (rowA A)) (fun i _ _ => n - (intOf i).toNat)
  case atStart => exact ⟨0, _, by omega, by omega, by omega, Nat.zero_le _, rfl, rfl, h, World.grownBy.refl _ _⟩
  case round =>
    obtain ⟨k, q, hq1, hq2, hq3, hk, rfl, rfl, hR, hg⟩ := hrel
    by_cases hlt : (k : Int) < q
    · obtain ⟨p, rfl⟩ := Int.eq_ofNat_of_zero_le (show 0 ≤ q by omega)
      rcases hR with ⟨_, h0, _⟩ | ⟨g, cur, rfl, hb, hB, hc1, hc2, hc3, hall⟩
      · omega
      unfold maxLen at hc2
      obtain ⟨x0, e0⟩ := hall (k * 4) (by omega)
      obtain ⟨x1, e1⟩ := hall (k * 4 + 1) (by omega)
      obtain ⟨x2, e2⟩ := hall (k * 4 + 2) (by omega)
      obtain ⟨x3, e3⟩ := hall (k * 4 + 3) (by omega)
      obtain ⟨y0, d0⟩ := hall (p * 4) (by omega)
      obtain ⟨y1, d1⟩ := hall (p * 4 + 1) (by omega)
      obtain ⟨y2, d2⟩ := hall (p * 4 + 2) (by omega)
      obtain ⟨y3, d3⟩ := hall (p * 4 + 3) (by omega)
      have r0 := (hB.cell (k * 4)).trans e0
      have f0 := hB.frozen (k * 4)
      have r1 := (hB.cell (k * 4 + 1)).trans e1
      have f1 := hB.frozen (k * 4 + 1)
      have r2 := (hB.cell (k * 4 + 2)).trans e2
      have f2 := hB.frozen (k * 4 + 2)
      have r3 := (hB.cell (k * 4 + 3)).trans e3
      have f3 := hB.frozen (k * 4 + 3)
      have r4 := (hB.cell (p * 4)).trans d0
      have f4 := hB.frozen (p * 4)
      have r5 := (hB.cell (p * 4 + 1)).trans d1
      have f5 := hB.frozen (p * 4 + 1)
      have r6 := (hB.cell (p * 4 + 2)).trans d2
      have f6 := hB.frozen (p * 4 + 2)
      have r7 := (hB.cell (p * 4 + 3)).trans d3
      have f7 := hB.frozen (p * 4 + 3)
      have hk1 : (k : Int) < (n : Int) := by omega
      have hk2 : (0 : Int) ≤ (k : Int) := by omega
      have hp1 : (p : Int) < (n : Int) := by omega
      have hp2 : (0 : Int) ≤ (p : Int) := by omega
      clear e0 e1 e2 e3 d0 d1 d2 d3
      go_wp2
      go_region
      have hR : RowV wr base (some ⟨g, 0, none⟩) c n := .inr ⟨g, cur, rfl, hb, hB, hc1, hc2, hc3, hall⟩
      have hR8 := ((((((((hR.set_ (k * 4) y0).set_ (k * 4 + 1) y1).set_ (k * 4 + 2) y2).set_ (k * 4 + 3) y3).set_ (p * 4) x0).set_ (p * 4 + 1) x1).set_ (p * 4 + 2) x2).set_ (p * 4 + 3) x3).drew
      have hg8 := grown_trans (grown_trans (grown_trans (grown_trans (grown_trans (grown_trans (grown_trans (grown_trans (grown_trans hg (grown_set (g := g) (k := k * 4) (.int .i64 y0))) (grown_set (k := k * 4 + 1) (.int .i64 y1))) (grown_set (k := k * 4 + 2) (.int .i64 y2))) (grown_set (k := k * 4 + 3) (.int .i64 y3))) (grown_set (k := p * 4) (.int .i64 x0))) (grown_set (k := p * 4 + 1) (.int .i64 x1))) (grown_set (k := p * 4 + 2) (.int .i64 x2))) (grown_set (k := p * 4 + 3) (.int .i64 x3))) (grown_drew _)
      clear hR hB hall r0 r1 r2 r3 r4 r5 r6 r7 f0 f1 f2 f3 f4 f5 f6 f7
      generalize (World.setCell _ _ _).drew = w9 at hR8 hg8 ⊢
      go_wp2
      go_roundw
      case rel => exact ⟨k + 1, (p : Int) - 1, by omega, by omega, by omega, by omega, by go_num, rfl, hR8, hg8⟩
      case measure => simp [intOf]; omega
    · go_wp2
      go_end0
      exact ⟨rfl, hR, hg⟩
end Go.Proofs.YtkcdoacojiilaaaGreat
