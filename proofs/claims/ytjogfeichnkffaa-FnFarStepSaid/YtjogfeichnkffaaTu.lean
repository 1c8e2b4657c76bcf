
/- Walks: the image turned. -/
import Derived.Test.YtjogfeichnkffaaIt
import Derived.Test.YtjogfeichnkffaaSu
namespace Go.Proofs.Ytjogfeichnkffaa
open Go.RowKit Go.Shelf
attribute [local go_sem] Oper.semAt_some

/-- 'has': the cell is set -/
theorem has_c (i j r n c : Nat) (W : Int) (xs : List Int) (A : Option Addr) (w : World) (hr : Rd w A n xs) (hi : i < n) (hj : j < 6) (hr6 : r < 64) (hc : xs[i]?.getD 0 = (r : Int)) :
    Calls Try.prog 37 #[.agg #[.int .i64 W, .slice A n c], .int .i64 i, .int .i64 j] w fun e w' => e = .returned (.bool (r.testBit j)) ∧ Below w.heap.size w w' := by
  obtain ⟨b, off, rfl, hb, hcc⟩ := (hr.alloc (.cells #[.int .i64 W, .slice A n c] 27)).at_ hi
  rw [hc] at hcc
  have hX := and_bit r j (by omega)
  have hY : ((if r.testBit j then (1 : Int) else 0) == 1) = r.testBit j := by cases r.testBit j <;> rfl
  have hY' := Lib.hid hY
  have hX' := Lib.hid hX
  clear hc hX hY
  go_enter Try.func37, Try.ntmps37
  go_wp2
  go_ret
  exact ⟨ret_bool (by rw [hX'.out]; exact hY'.out), by (repeat (first | exact Below.refl _ _ | assumption | refine lo_alloc ?_ _ | refine lo_set ?_ (by simp; try omega) _ | refine Below.drew ?_ | refine below_drewN ?_ _ | refine lo_trans ?_ (by assumption) | refine lo_wr ?_ (by assumption) (by omega)))⟩

theorem ownFrom_blk {β : Type} {B g : Nat} {t : TypeId} (f : β → Array Value) (hg : g < B) : OwnFrom B (fun (s : β) W => Blk W g t (f s)) :=
  fun _ _ _ _ hs hgr hr => hs.grown hgr (fun e => by have := (hr g e.symm).1; omega)

theorem fin_cells1 {w wr : World} {r : Nat} {t : TypeId} {v0 v1 : Value} (hK : Blk wr (w.heap.size + r) t #[v0, v1]) (hB : Below w.heap.size w wr) (u0 u1 : Value) :
    (((wr.setCell ⟨w.heap.size + r, 0, none⟩ u0).setCell ⟨w.heap.size + r, 1, none⟩ u1).cell? ⟨w.heap.size + r, 0, none⟩ = some u0) ∧ (((wr.setCell ⟨w.heap.size + r, 0, none⟩ u0).setCell ⟨w.heap.size + r, 1, none⟩ u1).cell? ⟨w.heap.size + r, 1, none⟩ = some u1) ∧
    Below w.heap.size w ((wr.setCell ⟨w.heap.size + r, 0, none⟩ u0).setCell ⟨w.heap.size + r, 1, none⟩ u1) := by
  have h := (hK.set_ 0 u0).set_ 1 u1
  exact ⟨by rw [h.cell]; rfl, by rw [h.cell]; rfl, (hB.setCell (by simp) _).setCell (by simp) _⟩

/-- is the cell set -/
def cellF (xs : List Int) (i j : Nat) : Bool := (xs[i]?.getD 0).toNat.testBit j
def turnW (W : Int) (xs : List Int) : Int := if okB W xs then xs.length else 0
def turnX (W : Int) (xs : List Int) : List Int := if okB W xs then img (fun c t => cellF xs t c) W.toNat xs.length else []

set_option maxRecDepth 100000 in
set_option maxHeartbeats 2000000 in
theorem ImageTurn_c (W : Int) (A : Option Addr) (n c : Nat) (xs : List Int) (w : World) (hr : Rd w A n xs) (hn : n ≤ 1073741824) :
    Calls Try.prog 17 #[.agg #[.int .i64 W, .slice A n c]] w fun e w' => ∃ R r k, e = .returned (.tuple #[.agg #[.int .i64 (turnW W xs), .slice R r k], .bool (okB W xs)]) ∧ Below w.heap.size w w' ∧ Own w' w.heap.size R r (turnX W xs) := by
  cases hk : okB W xs with
  | false =>
    have hT := Lib.hid (show turnW W xs = 0 ∧ turnX W xs = [] by simp [turnW, turnX, hk])
    go_enter Try.func17, Try.ntmps17
    go_wp2_with fail
    refine (impl_ImageValid_c _ _ _ _ xs _ ((hr.alloc _).alloc _) (by omega)).mono ?_
    rw [hk]
    rintro e w1 ⟨rfl, hb1⟩
    have hK : Blk w1 (w.heap.size + 1) _ _ := (heap_at2 w (.cells #[.int .i64 W, .slice A n c] 27) 27 #[.int .i64 0, .slice none 0 0]).next hb1
    have r0 := hK.cell 0
    have r1 := hK.cell 1
    have f0 := hK.frozen 0
    have f1 := hK.frozen 1
    go_wp2
    refine bodyPost_ret (v := .tuple #[.agg #[.int .i64 0, .slice none 0 0], .bool false]) (by simp [results, Try.results17, go_sem, r0, r1]) rfl ⟨none, 0, 0, by rw [hT.out.1], ?_, by rw [hT.out.2]; exact Own.nil_ _ _ _⟩
    (repeat (first | exact Below.refl _ _ | assumption | refine lo_alloc ?_ _ | refine lo_set ?_ (by simp; try omega) _ | refine Below.drew ?_ | refine below_drewN ?_ _ | refine lo_trans ?_ (by assumption) | refine lo_wr ?_ (by assumption) (by omega)))
  | true =>
    have hbd := okB_bd hk
    rw [hr.1] at hbd
    obtain ⟨m, rfl⟩ := Int.eq_ofNat_of_zero_le (show 0 ≤ W by omega)
    have hk' := Lib.hid hk
    refine (callsIn_wide (n := 3)).1 ?_
    refine callsIn_of_wp_marks Try.func17 rfl trivial ?_ rfl
    simp only [Try.ntmps17, List.size_toArray, List.length_cons, List.length_nil, Nat.reduceAdd, Nat.reduceSub, Array.replicate_succ, Array.replicate_zero, List.push_toArray, List.append_toArray, List.nil_append, List.cons_append]
    gi_wp2_with fail
    refine ⟨trivial, ?_⟩
    gi_at_call 26
    refine (callsIn_wide.2 (impl_ImageValid_c _ _ _ _ xs _ ((hr.alloc _).alloc _) (by omega))).mono ?_
    rw [hk]
    rintro e w1 ⟨rfl, hb1⟩
    clear hk
    have hKa : Blk w1 w.heap.size _ _ := ((Blk.new w 27 #[.int .i64 (m : Int), .slice A n c]).alloc (.cells #[.int .i64 0, .slice none 0 0] 27)).next hb1
    have hKr : Blk w1 (w.heap.size + 1) _ _ := (heap_at2 w (.cells #[.int .i64 (m : Int), .slice A n c] 27) 27 #[.int .i64 0, .slice none 0 0]).next hb1
    have hB1 : Below w.heap.size w w1 := by (repeat (first | exact Below.refl _ _ | assumption | refine lo_alloc ?_ _ | refine lo_set ?_ (by simp; try omega) _ | refine Below.drew ?_ | refine below_drewN ?_ _ | refine lo_trans ?_ (by assumption) | refine lo_wr ?_ (by assumption) (by omega)))
    have a0 := hKa.cell 0
    have a1 := hKa.cell 1
    have hz1 := hKr.lt
    clear hb1
    gi_wp2_with fail
    refine ⟨trivial, ?_⟩
    gi_at_call 35
    refine (callsIn_wide.2 (emptyImage_c m n _ (by omega))).mono ?_
    rintro e w2 ⟨g, rfl, hb2, hk2, hg1, hg2⟩
    have hKa2 := (hKa.next hb2).alloc (.cells #[.int .i64 (n : Int), .slice (some ⟨g, 0, none⟩) m m] 27)
    have hKr2 := (hKr.next hb2).alloc (.cells #[.int .i64 (n : Int), .slice (some ⟨g, 0, none⟩) m m] 27)
    have hB2 := lo_alloc (lo_trans hB1 hb2) (.cells #[.int .i64 (n : Int), .slice (some ⟨g, 0, none⟩) m m] 27)
    have hO2 := Blk.new w2 27 #[.int .i64 (n : Int), .slice (some ⟨g, 0, none⟩) m m]
    have hI2 := hk2.alloc (.cells #[.int .i64 (n : Int), .slice (some ⟨g, 0, none⟩) m m] 27)
    clear a0 a1 hKa hKr hB1 hb2 hk2
    have a0 := hKa2.cell 0
    have a1 := hKa2.cell 1
    gi_wp2_with (refine ⟨trivial, ?_⟩; gi_at_call 36; refine (cells_in Fence.wide _ trivial rfl _ _ _).mono ?_; rintro e w3 ⟨rfl, rfl⟩)
    have ha := Blk.new (w2.alloc (.cells #[.int .i64 (n : Int), .slice (some ⟨g, 0, none⟩) m m] 27)) 27 #[.int .i64 (m : Int), .slice A n c]
    rw [World.size_alloc] at ha
    have hB3 := lo_alloc hB2 (.cells #[.int .i64 (m : Int), .slice A n c] 27)
    have hKa3 := hKa2.alloc (.cells #[.int .i64 (m : Int), .slice A n c] 27)
    have hKr3 := hKr2.alloc (.cells #[.int .i64 (m : Int), .slice A n c] 27)
    have hO3 := hO2.alloc (.cells #[.int .i64 (m : Int), .slice A n c] 27)
    have hI3 := hI2.alloc (.cells #[.int .i64 (m : Int), .slice A n c] 27)
    have hsz : ((w2.alloc (.cells #[.int .i64 (n : Int), .slice (some ⟨g, 0, none⟩) m m] 27)).alloc (.cells #[.int .i64 (m : Int), .slice A n c] 27)).heap.size = w2.heap.size + 2 := by simp
    have hwg : w.heap.size + 1 < g := by omega
    clear a0 a1 hB2 hKa2 hKr2 hO2 hI2
    generalize (w2.alloc (.cells #[.int .i64 (n : Int), .slice (some ⟨g, 0, none⟩) m m] 27)).alloc (.cells #[.int .i64 (m : Int), .slice A n c] 27) = w4 at ha hB3 hKa3 hKr3 hO3 hI3 hsz ⊢
    have hI3' : Blk w4 g 3 (ints (nats (tRows (h := n) (m := m) (cellF xs) []))) := by
      have e : nats (tRows (h := n) (m := m) (cellF xs) []) = List.replicate m 0 := by simp [nats, tRows]
      rw [e]; exact hI3
    refine wpIn_rangeFunc_ownG rfl (by omega) (gf := 50) (lb := #[.pointer (some ⟨w2.heap.size + 1, 0, none⟩)]) rfl trivial (enters_of Try.func50 (by kernel_rfl) rfl)
      (cells_stops Fence.wide _ trivial rfl (by omega) (w2.heap.size + 1) n m c A (by omega) (by omega) w4 (by omega) ha) KB.trans (KB.put (by omega)) (Below.refl _ _) (fun _ => rfl)
      (fun pre W => Below w.heap.size w W ∧ Blk W w.heap.size 27 #[.int .i64 (m : Int), .slice A n c] ∧ Blk W (w.heap.size + 1) 27 #[.int .i64 0, .slice none 0 0] ∧ Blk W w2.heap.size 27 #[.int .i64 (n : Int), .slice (some ⟨g, 0, none⟩) m m] ∧ Blk W g 3 (ints (nats (tRows (h := n) (m := m) (cellF xs) pre))) ∧ w4.heap.size ≤ W.heap.size)
      (fun _ _ _ => False)
      (OwnFrom.and (ownFrom_below (Nat.le_refl _) (by omega)) (OwnFrom.and (ownFrom_blk _ (by omega)) (OwnFrom.and (ownFrom_blk _ (by omega)) (OwnFrom.and (ownFrom_blk _ (by omega)) (OwnFrom.and (ownFrom_blk _ (by omega)) (fun _ _ _ _ hs hg _ => Nat.le_trans hs hg.size))))))
      (fun _ _ _ _ _ hs _ _ => hs)
      ⟨hB3, hKa3, hKr3, hO3, hI3', Nat.le_refl _⟩
      (fun x => { tmps := #[.agg #[.int .i64 (m : Int), .slice A n c], .pointer (some ⟨w.heap.size, 0, none⟩), .pointer (some ⟨w.heap.size + 1, 0, none⟩), .bool false, .pointer (some ⟨w2.heap.size, 0, none⟩), .int .i64 (x.1.1 : Int), .int .i64 (x.1.2 : Int),
        .agg #[.int .i64 (m : Int), .slice A n c], .bool true, .bool false, undef, .pointer (some ⟨w.heap.size, 0, none⟩), .int .i64 (m : Int), .pointer (some ⟨w.heap.size, 1, none⟩), .slice A n c, .int .i64 (n : Int), .agg #[.int .i64 (n : Int), .slice (some ⟨g, 0, none⟩) m m],
        .agg #[.int .i64 (m : Int), .slice A n c], .func (.func 50) #[] #[.pointer (some ⟨w2.heap.size + 1, 0, none⟩)], .int .i64 (x.1.1 : Int), .int .i64 (x.1.2 : Int), undef, undef, undef, undef, undef, undef, undef, undef, undef], defers := [] }) ?assign ?body ?done ?stop
    case assign =>
      intro l x W K hK
      gi_wp2
      exact hK
    case body =>
      rintro l pre ⟨⟨i, j⟩, hi, hj⟩ W ⟨hB, hKa, hKr, hO, hI, hsW⟩ _
      dsimp only at hi hj
      obtain ⟨r, hr1, hr2⟩ := okB_at hk'.out (k := i) (by rw [hr.1]; exact hi)
      have hcf : Hid (cellF xs i j = r.testBit j) := Lib.hid (by simp only [cellF, hr1, Int.toNat_natCast])
      have a0 := hKa.cell 0
      have a1 := hKa.cell 1
      gi_wp2_with fail
      refine ⟨trivial, ?_⟩
      gi_at_call 37
      refine (CallsIn.inRound l (callsIn_wide.2 (has_c i j r n c m xs A _ (hr.next hB) hi (by omega) hr2 hr1))).mono ?_
      rintro e W2 ⟨rfl, hb2⟩
      have hB2 := lo_trans hB hb2
      have hs2 := hb2.size
      have hzb := ha.lt
      have hKB2 : KB (w2.heap.size + 1) W W2 := KB.of_below hb2 (by omega)
      have hkf : KeepsFrom w4.heap.size W W2 := (keeps_below hb2).from _
      have hKa2 := hKa.next hb2
      have hKr2 := hKr.next hb2
      have hO2 := hO.next hb2
      have hI2 := hI.next hb2
      clear a0 a1 hKa hKr hO hI hb2
      cases hbit : r.testBit j with
      | false =>
        gi_wp2
        refine ⟨hkf, hKB2, hB2, hKa2, hKr2, hO2, ?_, by omega⟩
        rw [tRows_snoc, tStep, if_neg (by rw [hcf.out, hbit]; simp)]
        exact hI2
      | true =>
        have o0 := hO2.cell 0
        have o1 := hO2.cell 1
        have hlt := tRows_lt (cellF xs) (h := n) (m := m) (by omega) pre
        have hln := tRows_len (cellF xs) (h := n) (m := m) pre
        have hget := nats_get (rs := tRows (h := n) (m := m) (cellF xs) pre) (i := j) (by rw [hln]; exact hj)
        have hl64 : (tRows (h := n) (m := m) (cellF xs) pre)[j]?.getD 0 < 64 := by
          rw [List.getElem?_eq_getElem (by rw [hln]; exact hj)]; exact hlt _ (List.getElem_mem _)
        have hget' := Lib.hid hget; have hl64' := Lib.hid hl64; have hln' := Lib.hid hln; clear hget hl64 hlt hln
        gi_wp2_with fail
        refine ⟨trivial, ?_⟩
        gi_at_call 38
        refine (CallsIn.inRound l (callsIn_wide.2 (flip_c g m m j i _ (nats (tRows (h := n) (m := m) (cellF xs) pre)) n _ hI2 hj (by rw [nats_len, hln'.out]; exact hj) (by omega) hl64'.out hget'.out))).mono ?_
        rintro e W3 ⟨rfl, hk3, hg3⟩
        have hs3 := hg3.size
        gi_wp2
        refine ⟨hkf.trans (KeepsFrom.of_grownBy hg3 (by rintro _ ⟨⟩; omega)), hKB2.trans (KB.of_grown hg3 (by omega) (by intro e; injection e; omega)), lo_grown hB2 hg3 (by rintro _ ⟨⟩; omega), hKa2.grown hg3 (by intro e; injection e; omega), hKr2.grown hg3 (by intro e; injection e; omega), hO2.grown hg3 (by intro e; injection e; omega), ?_, by omega⟩
        rw [tRows_snoc, tStep, if_pos (by rw [hcf.out, hbit]), ← nats_set]
        exact hk3
    case done =>
      rintro D ys W hD rfl ⟨hB, hKa, hKr, hO, hI, hsW⟩ hK
      have o0 := hO.cell 0
      have o1 := hO.cell 1
      have r0 := hKr.cell 0
      have r1 := hKr.cell 1
      have f0 := hKr.frozen 0
      have f1 := hKr.frozen 1
      obtain ⟨s0, s1, hB5⟩ := fin_cells1 hKr hB (.int .i64 (n : Int)) (.slice (some ⟨g, 0, none⟩) m m)
      have hK1 := (Below.heap_setCell W ⟨w.heap.size + 1, 0, none⟩ (.int .i64 (n : Int)) D (by simp; omega)).trans hK
      have hK2 := (Below.heap_setCell _ ⟨w.heap.size + 1, 1, none⟩ (.slice (some ⟨g, 0, none⟩) m m) D (by simp; omega)).trans hK1
      have hI5 := (hI.far (p := ⟨w.heap.size + 1, 0, none⟩) (show g ≠ w.heap.size + 1 by omega) (.int .i64 (n : Int))).far (p := ⟨w.heap.size + 1, 1, none⟩) (show g ≠ w.heap.size + 1 by omega) (.slice (some ⟨g, 0, none⟩) m m)
      have hT := Lib.hid (show turnW m xs = n ∧ turnX m xs = nats (tRows (h := n) (m := m) (cellF xs) (cUpto n m n 0)) by
        refine ⟨by simp [turnW, hk'.out, hr.1], ?_⟩
        simp only [turnX, hk'.out, if_true, Int.toNat_natCast, hr.1]
        exact (tRows_done (cellF xs) (by omega)).symm)
      have s0' := Lib.hid s0; have s1' := Lib.hid s1; clear s0 s1
      gi_wp2
      refine ⟨by simp, .inl ⟨_, _, rfl, run_takeDeferred hK2, ?_⟩⟩
      have c0 := cell_kept s0'.out (grownBy_putObj' _ D (.deferred none)) (fun r e => by cases e; exact ⟨_, hK2, rfl⟩)
      have c1 := cell_kept s1'.out (grownBy_putObj' _ D (.deferred none)) (fun r e => by cases e; exact ⟨_, hK2, rfl⟩)
      refine ⟨.tuple #[.agg #[.int .i64 n, .slice (some ⟨g, 0, none⟩) m m], .bool true], by simp [results, Try.results17, go_sem, c0, c1], some ⟨g, 0, none⟩, m, m, by rw [hT.out.1], ?_, ?_⟩
      · exact hB5.trans (belowK_b (w := w) (Nat.le_refl _) _ D _ _ (by omega) hK2 rfl rfl)
      · rw [hT.out.2]
        exact (Own.of_blk (lo := g) (hI5.grown (grownBy_putObj' _ D (.deferred none)) (by intro e; injection e; omega)) (Nat.le_refl _) (by rw [nats_len, tRows_len])).mono (by omega)
    case stop =>
      rintro D cc pre W _ _ h _
      exact h.elim
end Go.Proofs.Ytjogfeichnkffaa
