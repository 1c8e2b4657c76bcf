
/- Walks: drawn images, the rest. -/
import Derived.Test.YtjogfeichnkffaaDs
namespace Go.Proofs.Ytjogfeichnkffaa
open Go.RowKit
set_option maxRecDepth 100000

/-- rows of an image: so many, each in range -/
def Rws (h m : Nat) (rs : List Nat) : Prop := rs.length = h ∧ ∀ x ∈ rs, x < 2 ^ m
theorem Rws.of_img (f : Nat → Nat → Bool) (h m : Nat) : ∃ rs, img f h m = nats rs ∧ Rws h m rs :=
  ⟨_, img_nats f h m, by simp, by
    intro x hx
    obtain ⟨k, _, rfl⟩ := List.mem_map.1 hx
    exact mkRow_lt _ _⟩
theorem Rws.img {h m : Nat} {rs : List Nat} (hr : Rws h m rs) : ∃ f, nats rs = img f h m := ⟨_, nats_img hr.1 hr.2⟩
theorem Rws.set {h m : Nat} {rs : List Nat} (hr : Rws h m rs) (i : Nat) {y : Nat} (hy : y < 2 ^ m) : Rws h m (rs.set i y) :=
  ⟨by simp [hr.1], fun x hx => by
    rcases List.mem_or_eq_of_mem_set hx with h | rfl
    · exact hr.2 x h
    · exact hy⟩
theorem Rws.lt {h m : Nat} {rs : List Nat} (hr : Rws h m rs) {i : Nat} (hi : i < h) : rs[i]?.getD 0 < 2 ^ m := by
  have hl : i < rs.length := by rw [hr.1]; exact hi
  rw [List.getElem?_eq_getElem hl]
  exact hr.2 _ (List.getElem_mem hl)

/-- while rows are drawn: the image's cells, its rows, the result's cells, the reader -/
def NestInv (w wr : World) (lo b o g h m p : Nat) (rs : List Nat) : Prop :=
  Rws h m rs ∧ Blk wr g 3 (ints (nats rs)) ∧ Blk wr o 27 #[.int .i64 m, .slice (some ⟨g, 0, none⟩) h h] ∧ Blk wr w.heap.size 27 #[.int .i64 0, .slice none 0 0] ∧ w.grownBy wr (some b) ∧ Rdr wr lo b p
theorem NestInv.step {w wr w' : World} {lo b o g h m p : Nat} {rs rs' : List Nat} (hI : NestInv w wr lo b o g h m p rs) (hw : w.heap.size < g) (hb : b < w.heap.size) (hgo : g ≠ o)
    (hg : wr.grownBy w' (some g)) (hr : Rws h m rs') (hk : Blk w' g 3 (ints (nats rs'))) : NestInv w w' lo b o g h m p rs' :=
  ⟨hr, hk, hI.2.2.1.grown hg (by intro e; injection e; omega), hI.2.2.2.1.grown hg (by intro e; injection e; omega), grown_over hI.2.2.2.2.1 hg (by rintro _ ⟨⟩; omega), hI.2.2.2.2.2.grown hg (by omega)⟩
theorem NestInv.drew {w wr : World} {lo b o g h m p : Nat} {rs : List Nat} (hI : NestInv w wr lo b o g h m p rs) : NestInv w wr.drew lo b o g h m p rs :=
  ⟨hI.1, hI.2.1.drew, hI.2.2.1.drew, hI.2.2.2.1.drew, grown_trans hI.2.2.2.2.1 (grown_drew _), hI.2.2.2.2.2.next (Below.drew (Below.refl _ _))⟩

set_option maxHeartbeats 1000000 in
theorem l91Nested_c (lo b p : Nat) (cells : Int) (w : World) (h : Rdr w lo b p) (hp : p ≤ 800000) (hc : 1 ≤ cells) (hc2 : cells ≤ 100) :
    Calls Try.prog 59 #[.pointer (some ⟨b, 0, none⟩), .int .i64 cells] w (DrawnImage w lo b p 40) := by
  have hbz := h.lt
  go_enter Try.func59, Try.ntmps59
  go_wp2_with fail
  refine (l91Shape_c lo b p cells _ (h.next (by (repeat (first | exact Below.refl _ _ | assumption | refine lo_alloc ?_ _ | refine lo_set ?_ (by simp; try omega) _ | refine Below.drew ?_ | refine below_drewN ?_ _ | refine lo_trans ?_ (by assumption) | refine lo_wr ?_ (by assumption) (by omega))))) (by omega) hc hc2).mono ?_
  rintro e w1 ⟨a, m, g, q, f, rfl, ha1, ha2, hm1, hm2, hg, hk1, hg1, hr1, hq⟩
  have hz1 : w.heap.size + 1 ≤ w1.heap.size := by have := hg1.size; simp at this; omega
  obtain ⟨o, ho⟩ : ∃ o, o = w1.heap.size := ⟨_, rfl⟩
  obtain ⟨rs, hrs, hrr⟩ := Rws.of_img f a m
  rw [hrs] at hk1
  have hI0 : NestInv w (w1.alloc (.cells #[.int .i64 m, .slice (some ⟨g, 0, none⟩) a a] 27)) lo b o g a m q rs :=
    ⟨hrr, hk1.alloc _, by rw [ho]; exact Blk.new _ _ _, ((Blk.new w _ _).grown hg1 (by intro e; injection e; omega)).alloc _, grown_trans (grown_trans (grown_alloc _ _) hg1) (grown_alloc _ _), hr1.next (by (repeat (first | exact Below.refl _ _ | assumption | refine lo_alloc ?_ _ | refine lo_set ?_ (by simp; try omega) _ | refine Below.drew ?_ | refine below_drewN ?_ _ | refine lo_trans ?_ (by assumption) | refine lo_wr ?_ (by assumption) (by omega))))⟩
  have hgo : g < o := by rw [ho]; exact hk1.lt
  have hwg : w.heap.size < g := by simp at hg; omega
  have hgo' : g ≠ o := by omega
  clear hrs hrr hk1 hg1 hr1 hg
  go_wp2_with fail
  rw [← ho]
  have ho' := Lib.hid ho; clear ho
  obtain ⟨wz, hwz⟩ : ∃ wz, wz = w1.alloc (.cells #[.int .i64 m, .slice (some ⟨g, 0, none⟩) a a] 27) := ⟨_, rfl⟩
  rw [← hwz] at hI0 ⊢
  have hwz' := Lib.hid hwz; clear hwz
  refine (pick_c lo b q _ _ hI0.2.2.2.2.2 (by omega)).mono ?_
  rintro e w2 ⟨s, rfl, hs, hg2, hr2⟩
  have hsm := hs (by omega)
  have hI2 : NestInv w w2 lo b o g a m (q + 1) rs := ⟨hI0.1, hI0.2.1.grown hg2 (by intro e; injection e; omega), hI0.2.2.1.grown hg2 (by intro e; injection e; omega), hI0.2.2.2.1.grown hg2 (by intro e; injection e; omega), grown_trans hI0.2.2.2.2.1 hg2, hr2⟩
  clear hI0 hs hg2 hr2
  go_wp2
  go_loopw [7] (fun i wr => ∃ (k : Nat) (rs : List Nat), k ≤ a ∧ i = .int .i64 k ∧ NestInv w wr lo b o g a m (q + 1) rs) (fun i _ => a - (intOf i).toNat)
  case atStart => exact ⟨0, rs, Nat.zero_le _, rfl, hI2⟩
  case round =>
    clear hI2
    obtain ⟨k, rs, hk, rfl, hI⟩ := hrel
    obtain ⟨wo, rfl⟩ : ∃ wo : World, wo = wr := ⟨_, rfl⟩
    have o0 := hI.2.2.1.cell 0
    have o1 := hI.2.2.1.cell 1
    by_cases hlt : k < a
    · have hkl : k < rs.length := by rw [hI.1.1]; exact hlt
      have hz := hI.2.1.lt
      have ck := hI.2.1.icell (k := k) (by rw [nats_len]; exact hkl)
      rw [nats_get hkl] at ck
      have fk := hI.2.1.frozen k
      have hb6 : rs[k]?.getD 0 < 64 := by
        have h1 := hI.1.lt hlt
        have h2 := pow_le64 (j := m) hm2
        omega
      have hp0 : 0 < 2 ^ m := Nat.pow_pos (by omega)
      have hk0 : Blk (wo.setCell ⟨g, k, none⟩ (.int .i64 ((0 : Nat) : Int))) g 3 (ints (nats (rs.set k 0))) := by
        have h := hI.2.1.iset k ((0 : Nat) : Int)
        rwa [nats_set] at h
      have hI3 := hI.step hwg hbz hgo' (grown_set (w := wo) (g := g) (k := k) (.int .i64 ((0 : Nat) : Int))) (hI.1.set k hp0) hk0
      clear hk0 hp0 hI hkl
      generalize hx : rs[k]?.getD 0 = x at ck hb6
      have hx' := Lib.hid hx; clear hx
      go_wp2_with fail
      refine (l15Count_c _ _ hb6).mono ?_
      rintro e w4 ⟨n, rfl, hn, rfl⟩
      go_wp2
      go_loopw [9] (fun i wr => ∃ (j : Nat) (rs : List Nat), j ≤ n ∧ i = .int .i64 j ∧ NestInv w wr lo b o g a m (q + 1) rs) (fun i _ => n - (intOf i).toNat)
      case atStart => exact ⟨0, _, Nat.zero_le _, rfl, hI3⟩
      case round =>
        clear hI3 ck fk o0 o1 hx'
        obtain ⟨j, rs, hj, rfl, hI⟩ := hrel
        have o0 := hI.2.2.1.cell 0
        have o1 := hI.2.2.1.cell 1
        by_cases hlt2 : j < n
        · have e1 : IntKind.i64.wrap ((j : Int) + s) = (j : Int) + s := IntWalk.i64_in _ (by omega)
          have e2 : ((j : Int) + s).tmod m = (((j + s) % m : Nat) : Int) := by rw [Int.tmod_eq_emod_of_nonneg (by omega)]; simp
          have e3 : ¬ m = 0 := by omega
          have hym : (j + s) % m < m := Nat.mod_lt _ (by omega)
          generalize (j + s) % m = y at e2 hym
          have hxb := hI.1.lt hlt
          have hx64 := pow_le64 (j := m) hm2
          have hP := put_lt true hm2 hxb hym
          have hget := nats_get (rs := rs) (i := k) (by rw [hI.1.1]; exact hlt)
          have hget' := Lib.hid hget; clear hget
          have hI' := hI.drew
          generalize rs[k]?.getD 0 = x2 at hxb hP hget'
          go_wp2
          refine region_tail 8 (by kernel_rfl) (by kernel_rfl) ?_
          simp only [List.take_succ_cons, List.take_zero, List.drop_succ_cons, List.drop_zero]
          repeat still_step
          refine wpStill_nil ?_
          clear e1 e2 e3
          go_wp2_with fail
          refine (l1Put_c g a a k y x2 true (nats rs) m _ hI'.2.1 hlt (by rw [nats_len, hI.1.1]; exact hlt) (by omega) (by omega) hget'.out).mono ?_
          rintro _ w3 ⟨rfl, hk3, hg3⟩
          have hI4 := hI'.step hwg hbz hgo' hg3 (hI.1.set k hP) (by rw [← nats_set]; exact hk3)
          clear hk3 hg3 hI hI' o0 o1 hP hget'
          go_wp2
          go_roundw
          case rel => exact ⟨j + 1, _, by omega, by go_num, hI4⟩
          case measure => simp [intOf]; omega
        · go_wp2
          go_roundw
          case rel => exact ⟨k + 1, rs, by omega, by go_num, hI⟩
          case measure => simp [intOf]; omega
    · obtain ⟨f', hf'⟩ := hI.1.img
      have hB := hI.2.1
      rw [hf'] at hB
      have r0 := hI.2.2.2.1.cell 0
      have r1 := hI.2.2.2.1.cell 1
      have f0 := hI.2.2.2.1.frozen 0
      have f1 := hI.2.2.2.1.frozen 1
      have hgr := grown_over (grown_over hI.2.2.2.2.1 (grown_set (w := wo) (g := w.heap.size) (k := 0) (.int .i64 (m : Int))) (by rintro _ ⟨⟩; omega)) (grown_set (g := w.heap.size) (k := 1) (.slice (some ⟨g, 0, none⟩) a a)) (by rintro _ ⟨⟩; omega)
      have hRf := (hI.2.2.2.2.2.grown (grown_set (w := wo) (g := w.heap.size) (k := 0) (.int .i64 (m : Int))) (by omega)).grown (grown_set (g := w.heap.size) (k := 1) (.slice (some ⟨g, 0, none⟩) a a)) (by omega)
      have hIf := (hB.far (p := ⟨w.heap.size, 0, none⟩) (show g ≠ w.heap.size by omega) (.int .i64 (m : Int))).far (p := ⟨w.heap.size, 1, none⟩) (show g ≠ w.heap.size by omega) (.slice (some ⟨g, 0, none⟩) a a)
      clear hf' hB hI
      go_wp2
      refine bodyPost_ret (v := .agg #[.int .i64 m, .slice (some ⟨g, 0, none⟩) a a]) (by simp [results, Try.results59, go_sem, r0, r1]) rfl ?_
      exact ⟨a, m, g, _, _, rfl, ha1, ha2, hm1, hm2, by omega, hIf, hgr, hRf, by omega⟩

set_option maxHeartbeats 1000000 in
theorem l91Image_c (lo b p : Nat) (cells : Int) (w : World) (h : Rdr w lo b p) (hp : p ≤ 700000) (hc : 1 ≤ cells) (hc2 : cells ≤ 100) :
    Calls Try.prog 49 #[.pointer (some ⟨b, 0, none⟩), .int .i64 cells] w (DrawnImage w lo b p 60) := by
  have hbz := h.lt
  go_enter Try.func49, Try.ntmps49
  go_wp2_with fail
  refine (pick_c lo b p _ _ (h.next (by (repeat (first | exact Below.refl _ _ | assumption | refine lo_alloc ?_ _ | refine lo_set ?_ (by simp; try omega) _ | refine Below.drew ?_ | refine below_drewN ?_ _ | refine lo_trans ?_ (by assumption) | refine lo_wr ?_ (by assumption) (by omega))))) (by omega)).mono ?_
  rintro e w1 ⟨x1, rfl, hx1, hg1, hr1⟩
  have hK1 : Blk w1 w.heap.size _ _ := (Blk.new w 27 #[.int .i64 0, .slice none 0 0]).grown hg1 (by intro e; injection e; omega)
  have hz1 : w.heap.size + 1 ≤ w1.heap.size := by have := hg1.size; simp at this; omega
  clear hx1
  by_cases h0 : x1 = 0
  · have h0' : ((x1 : Int) == 0) = true := by simp; omega
    clear h0
    go_wp2_with fail
    refine (l91Nested_c lo b (p + 1) cells _ hr1 (by omega) hc hc2).mono ?_
    rintro e w2 ⟨a, m, g, q, f, rfl, ha1, ha2, hm1, hm2, hg, hk2, hg2, hr2, hq⟩
    have hK2 := hK1.grown hg2 (by intro e; injection e; omega)
    have r0 := hK2.cell 0
    have r1 := hK2.cell 1
    have f0 := hK2.frozen 0
    have f1 := hK2.frozen 1
    have hgr := grown_over (grown_over (grown_trans (grown_trans (grown_alloc _ _) hg1) hg2) (grown_set (w := w2) (g := w.heap.size) (k := 0) (.int .i64 (m : Int))) (by rintro _ ⟨⟩; omega)) (grown_set (g := w.heap.size) (k := 1) (.slice (some ⟨g, 0, none⟩) a a)) (by rintro _ ⟨⟩; omega)
    have hRf := (hr2.grown (grown_set (w := w2) (g := w.heap.size) (k := 0) (.int .i64 (m : Int))) (by omega)).grown (grown_set (g := w.heap.size) (k := 1) (.slice (some ⟨g, 0, none⟩) a a)) (by omega)
    have hIf := (hk2.far (p := ⟨w.heap.size, 0, none⟩) (show g ≠ w.heap.size by omega) (.int .i64 (m : Int))).far (p := ⟨w.heap.size, 1, none⟩) (show g ≠ w.heap.size by omega) (.slice (some ⟨g, 0, none⟩) a a)
    go_wp2
    refine bodyPost_ret (v := .agg #[.int .i64 m, .slice (some ⟨g, 0, none⟩) a a]) (by simp [results, Try.results49, go_sem, r0, r1]) rfl ?_
    exact ⟨a, m, g, _, _, rfl, ha1, ha2, hm1, hm2, by omega, hIf, hgr, hRf, by omega⟩
  · have h0' : ((x1 : Int) == 0) = false := by simp; omega
    clear h0
    go_wp2_with fail
    refine (l91Shape_c lo b (p + 1) cells _ hr1 (by omega) hc hc2).mono ?_
    rintro e w2 ⟨a, m, g, q, f, rfl, ha1, ha2, hm1, hm2, hg, hk2, hg2, hr2, hq⟩
    have hK2 := hK1.grown hg2 (by intro e; injection e; omega)
    have r0 := hK2.cell 0
    have r1 := hK2.cell 1
    have f0 := hK2.frozen 0
    have f1 := hK2.frozen 1
    have hgr := grown_over (grown_over (grown_trans (grown_trans (grown_alloc _ _) hg1) hg2) (grown_set (w := w2) (g := w.heap.size) (k := 0) (.int .i64 (m : Int))) (by rintro _ ⟨⟩; omega)) (grown_set (g := w.heap.size) (k := 1) (.slice (some ⟨g, 0, none⟩) a a)) (by rintro _ ⟨⟩; omega)
    have hRf := (hr2.grown (grown_set (w := w2) (g := w.heap.size) (k := 0) (.int .i64 (m : Int))) (by omega)).grown (grown_set (g := w.heap.size) (k := 1) (.slice (some ⟨g, 0, none⟩) a a)) (by omega)
    have hIf := (hk2.far (p := ⟨w.heap.size, 0, none⟩) (show g ≠ w.heap.size by omega) (.int .i64 (m : Int))).far (p := ⟨w.heap.size, 1, none⟩) (show g ≠ w.heap.size by omega) (.slice (some ⟨g, 0, none⟩) a a)
    go_wp2
    refine bodyPost_ret (v := .agg #[.int .i64 m, .slice (some ⟨g, 0, none⟩) a a]) (by simp [results, Try.results49, go_sem, r0, r1]) rfl ?_
    exact ⟨a, m, g, _, _, rfl, ha1, ha2, hm1, hm2, by omega, hIf, hgr, hRf, by omega⟩
end Go.Proofs.Ytjogfeichnkffaa
