/- Plain facts and walks that the law's proof uses; each says its own conditions. -/
import Derived.Test.YtpeiolimdglmhaaGreatDoorZ21
import Derived.Test.YtpeiolimdglmhaaGreatDoorZ20
import Derived.Test.YtpeiolimdglmhaaGreatDoorZ10
import Derived.Deep.AppendLies
-- Plain facts and walks that the law's proof uses; each says its own conditions.
namespace Go.Proofs.YtpeiolimdglmhaaGreatDoor
open Go.RowKit

theorem sw_row {r m c d : Nat} (hr : r < 2 ^ m) (hc : c < m) (hd : d < m) : r ^^^ (2 ^ c ||| 2 ^ d) = mkRow (fun j => r.testBit j ^^ (j == c || j == d)) m := by
  refine row_ext (Nat.xor_lt_two_pow hr (Nat.or_lt_two_pow (Nat.pow_lt_pow_right (by omega) hc) (Nat.pow_lt_pow_right (by omega) hd))) (mkRow_lt _ _) (fun j hj => ?_)
  rw [Nat.testBit_xor, Nat.testBit_or, testBit_mkRow, Nat.testBit_two_pow, Nat.testBit_two_pow]
  simp only [hj, decide_true, Bool.true_and]
  have e1 : decide (c = j) = (j == c) := by rw [Bool.eq_iff_iff]; simp; exact eq_comm
  have e2 : decide (d = j) = (j == d) := by rw [Bool.eq_iff_iff]; simp; exact eq_comm
  rw [e1, e2]
theorem sw_rows {m r1 r2 : Nat} {xs : List Int} {s : Sw} (hk : okB (m : Int) xs = true) (h : s.a < s.b ∧ s.b < xs.length ∧ s.c < s.d ∧ s.d < m) (h1 : xs[s.a]?.getD 0 = (r1 : Int)) (h2 : xs[s.b]?.getD 0 = (r2 : Int))
    (l1 : r1 < 2 ^ m) (l2 : r2 < 2 ^ m) : (xs.set s.a ((r1 ^^^ (2 ^ s.c ||| 2 ^ s.d) : Nat) : Int)).set s.b ((r2 ^^^ (2 ^ s.c ||| 2 ^ s.d) : Nat) : Int) = swDo m xs s := by
  obtain ⟨ha, hb, hc, hd⟩ := h
  rw [sw_row l1 (by omega) hd, sw_row l2 (by omega) hd]
  apply List.ext_getElem
  · simp [swDo_len]
  · intro i hi hi2
    rw [swDo_len] at hi2
    have e0 : (swDo m xs s)[i]? = some ((mkRow (fun j => cellF xs i j ^^ inSw s i j) m : Nat) : Int) := by
      rw [swDo, img_get' hi2]
    rw [List.getElem?_eq_getElem (by rw [swDo_len]; exact hi2)] at e0
    injection e0 with e0
    rw [e0]
    have hx : xs[i]?.getD 0 = xs[i] := by simp [List.getElem?_eq_getElem hi2]
    by_cases hb' : i = s.b
    · subst hb'
      rw [List.getElem_set_self]
      congr 1
      refine mkRow_congr (fun j _ => ?_)
      simp only [cellF, h2, Int.toNat_natCast, inSw, BEq.rfl, Bool.or_true, Bool.true_and]
    · rw [List.getElem_set_ne (fun e => hb' e.symm)]
      by_cases ha' : i = s.a
      · subst ha'
        rw [List.getElem_set_self]
        congr 1
        refine mkRow_congr (fun j _ => ?_)
        simp only [cellF, h1, Int.toNat_natCast, inSw, BEq.rfl, Bool.true_or, Bool.true_and]
      · rw [List.getElem_set_ne (fun e => ha' e.symm)]
        obtain ⟨r, hr1, hr2⟩ := okB_row hk rfl (k := i) hi2
        rw [hx] at hr1
        rw [hr1]
        have e3 : mkRow (fun j => cellF xs i j ^^ inSw s i j) m = mkRow r.testBit m := mkRow_congr (fun j _ => by
          simp only [cellF, hx, hr1, Int.toNat_natCast, inSw, beq_eq_false_iff_ne.2 ha', beq_eq_false_iff_ne.2 hb', Bool.or_self, Bool.false_and, Bool.xor_false])
        rw [e3, mkRow_testBit hr2]

theorem has_k (m i j n c : Nat) (xs : List Int) (A : Option Addr) (w : World) (hr : Rd w A n xs) (hk : okB (m : Int) xs = true) (hi : i < n) (hj : j < m) :
    Calls Tryz.prog 39 #[.agg #[.int .i64 (m : Int), .slice A n c], .int .i64 i, .int .i64 j] w fun e w' => e = .returned (.bool (cellF xs i j)) ∧ Below w.heap.size w w' := by
  have hbd := okB_bd hk
  obtain ⟨r, h1, h2⟩ := okB_at hk (k := i) (by rw [hr.1]; exact hi)
  have e : cellF xs i j = r.testBit j := by simp only [cellF, h1, Int.toNat_natCast]
  rw [e]
  exact has_c i j r n c m xs A w hr hi (by omega) h2 h1

set_option maxRecDepth 100000 in
set_option maxHeartbeats 2000000 in
theorem switchOk_c (m n c : Nat) (A : Option Addr) (xs : List Int) (s : Sw) (w : World) (hr : Rd w A n xs) (hk : okB (m : Int) xs = true) (h : s.a < s.b ∧ s.b < n ∧ s.c < s.d ∧ s.d < m) :
    Calls Tryz.prog 101 #[.agg #[.int .i64 (m : Int), .slice A n c], .agg #[.int .i64 s.a, .int .i64 s.b, .int .i64 s.c, .int .i64 s.d]] w fun e w' => e = .returned (.bool (swOk xs s)) ∧ Below w.heap.size w w' := by
  have hk' := Lib.hid hk
  have hbd := okB_bd hk
  rw [hr.1] at hbd
  obtain ⟨ha, hb, hc, hd⟩ := h
  have e0 : Hid (swOk xs s = ((cellF xs s.b s.d == cellF xs s.a s.c) && (cellF xs s.a s.d != cellF xs s.a s.c) && (cellF xs s.b s.c != cellF xs s.a s.c))) := Lib.hid rfl
  clear hk
  obtain ⟨sa, sb, sc, sd⟩ := s
  dsimp only at ha hb hc hd e0 ⊢
  have hP := (Blk.new w 25 #[.int .i64 (m : Int), .slice A n c]).alloc (.cells #[.int .i64 sa, .int .i64 sb, .int .i64 sc, .int .i64 sd] 44)
  have hQ := heap_at2 w (.cells #[.int .i64 (m : Int), .slice A n c] 25) 44 #[.int .i64 sa, .int .i64 sb, .int .i64 sc, .int .i64 sd]
  have hB0 := lo_alloc (lo_alloc (Below.refl w.heap.size w) (.cells #[.int .i64 (m : Int), .slice A n c] 25)) (.cells #[.int .i64 sa, .int .i64 sb, .int .i64 sc, .int .i64 sd] 44)
  have hR0 := (hr.alloc (.cells #[.int .i64 (m : Int), .slice A n c] 25)).alloc (.cells #[.int .i64 sa, .int .i64 sb, .int .i64 sc, .int .i64 sd] 44)
  go_enter Tryz.func101, Tryz.ntmps101
  go_wp2_with fail
  refine (has_k m sa sc n c xs A _ hR0 hk'.out (by omega) (by omega)).mono ?_
  rintro e w1 ⟨rfl, hb1⟩
  have kP := hP.next hb1
  have kQ := hQ.next hb1
  have hB1 := lo_trans hB0 hb1
  have hR1 := hR0.next hb1
  clear hP hQ hB0 hR0 hb1
  have p0 := kP.cell 0
  have p1 := kP.cell 1
  have q0 := kQ.cell 0
  have q1 := kQ.cell 1
  have q2 := kQ.cell 2
  have q3 := kQ.cell 3
  generalize cellF xs sa sc = x at e0 ⊢
  go_wp2_with fail
  refine (has_k m sb sd n c xs A _ hR1 hk'.out (by omega) (by omega)).mono ?_
  rintro e w2 ⟨rfl, hb2⟩
  clear p0 p1 q0 q1 q2 q3
  have hP := kP.next hb2
  have hQ := kQ.next hb2
  have hB2 := lo_trans hB1 hb2
  have hR2 := hR1.next hb2
  clear kP kQ hB1 hR1 hb2
  have p0 := hP.cell 0
  have p1 := hP.cell 1
  have q0 := hQ.cell 0
  have q1 := hQ.cell 1
  have q2 := hQ.cell 2
  have q3 := hQ.cell 3
  generalize cellF xs sb sd = y at e0 ⊢
  by_cases hxy : y = x
  case neg =>
    have e1 : Hid (swOk xs ⟨sa, sb, sc, sd⟩ = false) := Lib.hid (by rw [e0.out]; simp [hxy])
    cases x <;> cases y <;> first
      | exact absurd rfl hxy
      | (go_wp2
         go_ret
         exact ⟨ret_bool (by rw [e1.out]), hB2⟩)
  subst hxy
  cases y <;>
  · go_wp2_with fail
    refine (has_k m sa sd n c xs A _ hR2 hk'.out (by omega) (by omega)).mono ?_
    rintro e w3 ⟨rfl, hb3⟩
    clear p0 p1 q0 q1 q2 q3
    have kP := hP.next hb3
    have kQ := hQ.next hb3
    have hB3 := lo_trans hB2 hb3
    have hR3 := hR2.next hb3
    have p0 := kP.cell 0
    have p1 := kP.cell 1
    have q0 := kQ.cell 0
    have q1 := kQ.cell 1
    have q2 := kQ.cell 2
    have q3 := kQ.cell 3
    clear hP hQ hB2 hR2 hb3 kP kQ
    generalize cellF xs sa sd = z at e0 ⊢
    cases z <;> first
      | (go_wp2
         go_ret
         exact ⟨ret_bool (by rw [e0.out]; rfl), hB3⟩)
      | (go_wp2_with fail
         refine (has_k m sb sc n c xs A _ hR3 hk'.out (by omega) (by omega)).mono ?_
         rintro e w4 ⟨rfl, hb4⟩
         have hB4 := lo_trans hB3 hb4
         generalize cellF xs sb sc = u at e0 ⊢
         cases u <;>
         · go_wp2
           go_ret
           exact ⟨ret_bool (by rw [e0.out]; rfl), hB4⟩)

theorem sw_mask {r c d : Nat} (hr : r < 64) (hc : c < 6) (hd : d < 6) : bits .xor .i64 (r : Int) (bits .or .i64 (2 ^ c) (2 ^ d)) = ((r ^^^ (2 ^ c ||| 2 ^ d) : Nat) : Int) := by
  have h1 := pow_le64 (j := c) (by omega)
  have h2 := pow_le64 (j := d) (by omega)
  have e : bits .or .i64 ((2 : Int) ^ c) (2 ^ d) = ((2 ^ c ||| 2 ^ d : Nat) : Int) := by
    rw [← i64_or_nat (2 ^ c) (2 ^ d) (by omega) (by omega)]; simp
  have h3 : 2 ^ c ||| 2 ^ d < 2 ^ 7 := Nat.or_lt_two_pow (by omega) (by omega)
  rw [e, i64_xor_nat _ _ (by omega) (by omega)]
theorem Own.cellSet {w : World} {lo g n k : Nat} {xs : List Int} (h : Own w lo (some ⟨g, 0, none⟩) n xs) (hk : k < n) : lo ≤ g ∧ g < w.heap.size ∧ w.cell? ⟨g, k, none⟩ = some (.int .i64 (xs[k]?.getD 0)) ∧ w.frozen? ⟨g, k, none⟩ = false ∧
    ∀ y, Own (w.setCell ⟨g, k, none⟩ (.int .i64 y)) lo (some ⟨g, 0, none⟩) n (xs.set k y) := by
  obtain ⟨g', e, h1, h2, h3, h4, h5⟩ := h.at_ hk
  cases e
  exact ⟨h1, h2, h3, h4, h5⟩

set_option maxRecDepth 100000 in
set_option maxHeartbeats 2000000 in
theorem switched_c (m n c : Nat) (A : Option Addr) (xs : List Int) (s : Sw) (w : World) (hr : Rd w A n xs) (hk : okB (m : Int) xs = true) (h : s.a < s.b ∧ s.b < n ∧ s.c < s.d ∧ s.d < m) :
    Calls Tryz.prog 61 #[.agg #[.int .i64 (m : Int), .slice A n c], .agg #[.int .i64 s.a, .int .i64 s.b, .int .i64 s.c, .int .i64 s.d]] w fun e w' => ∃ g c', e = .returned (.agg #[.int .i64 (m : Int), .slice (some ⟨g, 0, none⟩) n c']) ∧ Below w.heap.size w w' ∧
      Own w' w.heap.size (some ⟨g, 0, none⟩) n (swDo m xs s) := by
  have hk' := Lib.hid hk
  have hbd := okB_bd hk
  rw [hr.1] at hbd
  obtain ⟨r1, x1, l1⟩ := okB_row hk rfl (k := s.a) (by rw [hr.1]; omega)
  obtain ⟨r2, x2, l2⟩ := okB_row hk rfl (k := s.b) (by rw [hr.1]; omega)
  have hrow := Lib.hid (sw_rows hk (by rw [hr.1]; exact h) x1 x2 l1 l2)
  have hpm := pow_le64 (j := m) (by omega)
  have hX1 := Lib.hid (sw_mask (r := r1) (c := s.c) (d := s.d) (by omega) (by omega) (by omega))
  have hX2 := Lib.hid (sw_mask (r := r2) (c := s.c) (d := s.d) (by omega) (by omega) (by omega))
  have x2' := Lib.hid x2
  have x1' := Lib.hid x1
  clear hk x1 x2
  obtain ⟨sa, sb, sc, sd⟩ := s
  obtain ⟨ha, hb, hc, hd⟩ := h
  dsimp only at ha hb hc hd hrow hX1 hX2 x1' x2' ⊢
  have hP := ((Blk.new w 25 #[.int .i64 (m : Int), .slice A n c]).alloc (.cells #[.int .i64 sa, .int .i64 sb, .int .i64 sc, .int .i64 sd] 44)).alloc (.cells #[.int .i64 0, .slice none 0 0] 25)
  have hQ := (heap_at2 w (.cells #[.int .i64 (m : Int), .slice A n c] 25) 44 #[.int .i64 sa, .int .i64 sb, .int .i64 sc, .int .i64 sd]).alloc (.cells #[.int .i64 0, .slice none 0 0] 25)
  have hR := Blk.new ((w.alloc (.cells #[.int .i64 (m : Int), .slice A n c] 25)).alloc (.cells #[.int .i64 sa, .int .i64 sb, .int .i64 sc, .int .i64 sd] 44)) 25 #[.int .i64 0, .slice none 0 0]
  have hB0 := lo_alloc (lo_alloc (lo_alloc (Below.refl w.heap.size w) (.cells #[.int .i64 (m : Int), .slice A n c] 25)) (.cells #[.int .i64 sa, .int .i64 sb, .int .i64 sc, .int .i64 sd] 44)) (.cells #[.int .i64 0, .slice none 0 0] 25)
  have hR0 := ((hr.alloc (.cells #[.int .i64 (m : Int), .slice A n c] 25)).alloc (.cells #[.int .i64 sa, .int .i64 sb, .int .i64 sc, .int .i64 sd] 44)).alloc (.cells #[.int .i64 0, .slice none 0 0] 25)
  rw [World.size_alloc, World.size_alloc] at hR
  go_enter Tryz.func61, Tryz.ntmps61
  go_wp2_with fail
  refine (clone_c m _ _ _ xs _ hR0 (by omega) (by omega)).mono ?_
  rintro e w2 ⟨g, cc, rfl, hb2, ho2⟩
  obtain ⟨o, ho⟩ : ∃ o, o = w2.heap.size := ⟨_, rfl⟩
  have hO2 : Blk (w2.alloc (.cells #[.int .i64 (m : Int), .slice (some ⟨g, 0, none⟩) n cc] 25)) o 25 #[.int .i64 (m : Int), .slice (some ⟨g, 0, none⟩) n cc] := by rw [ho]; exact Blk.new _ _ _
  have kQ := (hQ.next hb2).alloc (.cells #[.int .i64 (m : Int), .slice (some ⟨g, 0, none⟩) n cc] 25)
  have kR := (hR.next hb2).alloc (.cells #[.int .i64 (m : Int), .slice (some ⟨g, 0, none⟩) n cc] 25)
  have hB2 := lo_alloc (lo_trans hB0 hb2) (.cells #[.int .i64 (m : Int), .slice (some ⟨g, 0, none⟩) n cc] 25)
  have hI2 := ho2.alloc (.cells #[.int .i64 (m : Int), .slice (some ⟨g, 0, none⟩) n cc] 25)
  have hI3 : Own (w2.alloc (.cells #[.int .i64 (m : Int), .slice (some ⟨g, 0, none⟩) n cc] 25)) (w.heap.size + 3) (some ⟨g, 0, none⟩) n xs := hI2.mono (by simp)
  have hgo : g < o := by have := (ho2.cellSet (k := 0) (by omega)).2.1; omega
  clear hI2 ho2 hb2 hP hQ hR hB0 hR0
  obtain ⟨hgl, hzg, hc0, hf0, hset⟩ := hI3.cellSet (k := sa) (by omega)
  rw [x1'.out] at hc0
  have hset' := Lib.hid (hset ((r1 ^^^ (2 ^ sc ||| 2 ^ sd) : Nat) : Int))
  clear hset
  have hp1 := pow_int (j := sc) (by omega)
  have hp2 := pow_int (j := sd) (by omega)
  have o1 := hO2.cell 1
  have q0 := kQ.cell 0
  have q2 := kQ.cell 2
  have q3 := kQ.cell 3
  go_wp2
  go_region
  rw [hX1.out]
  rw [← ho]
  have ho' := Lib.hid ho
  have hI4 := hset'.out.drew
  have hB4 := Below.drew (lo_set hB2 (p := ⟨g, sa, none⟩) (by simp; omega) (.int .i64 ((r1 ^^^ (2 ^ sc ||| 2 ^ sd) : Nat) : Int)))
  have kQ4 := (kQ.far (p := ⟨g, sa, none⟩) (by simp; omega) (.int .i64 ((r1 ^^^ (2 ^ sc ||| 2 ^ sd) : Nat) : Int))).drew
  have kR4 := (kR.far (p := ⟨g, sa, none⟩) (by simp; omega) (.int .i64 ((r1 ^^^ (2 ^ sc ||| 2 ^ sd) : Nat) : Int))).drew
  have hO4 := (hO2.far (p := ⟨g, sa, none⟩) (by simp; omega) (.int .i64 ((r1 ^^^ (2 ^ sc ||| 2 ^ sd) : Nat) : Int))).drew
  clear ho hset' hI3 hB2 kQ kR hO2 o1 q0 q2 q3 hc0 hf0 hzg
  generalize (World.setCell _ _ _).drew = w5 at hI4 hB4 kQ4 kR4 hO4 ⊢
  obtain ⟨_, hzg, hc0, hf0, hset⟩ := hI4.cellSet (k := sb) (by omega)
  have hx2 : (xs.set sa ((r1 ^^^ (2 ^ sc ||| 2 ^ sd) : Nat) : Int))[sb]?.getD 0 = (r2 : Int) := by rw [List.getElem?_set_ne (by omega)]; exact x2'.out
  rw [hx2] at hc0
  have hset' := Lib.hid (hset ((r2 ^^^ (2 ^ sc ||| 2 ^ sd) : Nat) : Int))
  clear hset hx2
  have o1 := hO4.cell 1
  have q1 := kQ4.cell 1
  have q2 := kQ4.cell 2
  have q3 := kQ4.cell 3
  go_wp2
  go_region
  rw [hX2.out]
  have hI6 := hset'.out.drew
  rw [hrow.out] at hI6
  have hB6 := Below.drew (lo_set hB4 (p := ⟨g, sb, none⟩) (by simp; omega) (.int .i64 ((r2 ^^^ (2 ^ sc ||| 2 ^ sd) : Nat) : Int)))
  have kR6 := (kR4.far (p := ⟨g, sb, none⟩) (by simp; omega) (.int .i64 ((r2 ^^^ (2 ^ sc ||| 2 ^ sd) : Nat) : Int))).drew
  have hO6 := (hO4.far (p := ⟨g, sb, none⟩) (by simp; omega) (.int .i64 ((r2 ^^^ (2 ^ sc ||| 2 ^ sd) : Nat) : Int))).drew
  clear hset' hI4 hB4 kQ4 kR4 hO4 o1 q1 q2 q3 hc0 hf0 hzg
  generalize (World.setCell _ _ _).drew = w7 at hI6 hB6 kR6 hO6 ⊢
  have hz6 := kR6.lt
  have o0 := hO6.cell 0
  have o1 := hO6.cell 1
  have r0 := kR6.cell 0
  have r1 := kR6.cell 1
  have f0 := kR6.frozen 0
  have f1 := kR6.frozen 1
  obtain ⟨s0, s1, hB8⟩ := fin_cells1 (w := w) (r := 1 + 1) kR6 hB6 (.int .i64 (m : Int)) (.slice (some ⟨g, 0, none⟩) n cc)
  have s0' := Lib.hid s0; have s1' := Lib.hid s1; clear s0 s1
  go_wp2
  refine bodyPost_ret (v := .agg #[.int .i64 m, .slice (some ⟨g, 0, none⟩) n cc]) (by simp [results, Tryz.results61, go_sem, s0'.out, s1'.out]) rfl ⟨g, cc, rfl, hB8, ?_⟩
  exact ((hI6.far_lo (p := ⟨w.heap.size + 1 + 1, 0, none⟩) (by simp) _).far_lo (p := ⟨w.heap.size + 1 + 1, 1, none⟩) (by simp) _).mono (by omega)
end Go.Proofs.YtpeiolimdglmhaaGreatDoor

-- Walks: the iterator over an image's switches; the neighbors of an image.
namespace Go.Proofs.YtpeiolimdglmhaaGreatDoor
open Go.RowKit Go.Shelf
attribute [local go_sem] Oper.semAt_some

/-- blocks B and b lie as they lay -/
def KB2 (B b : Nat) (W W' : World) : Prop := KB B W W' ∧ KB b W W'
theorem KB2.trans {B b : Nat} {x y z : World} (h : KB2 B b x y) (k : KB2 B b y z) : KB2 B b x z := ⟨h.1.trans k.1, h.2.trans k.2⟩
theorem KB2.refl (B b : Nat) (W : World) : KB2 B b W W := ⟨rfl, rfl⟩
theorem KB2.put {B b : Nat} {w : World} (hB : B < w.heap.size) (hb : b < w.heap.size) (W : World) (l : Nat) (o o' : Obj) (hl : w.heap.size ≤ l) (_ : W.heap[l]? = some o) (_ : o.isCells = false) (_ : o.isWalk = false) : KB2 B b W (W.putObj l o') :=
  ⟨World.putObj_heap_other (by omega), World.putObj_heap_other (by omega)⟩
theorem KB2.of_below {B b : Nat} {W W' : World} (h : Below W.heap.size W W') (hB : B < W.heap.size) (hb : b < W.heap.size) : KB2 B b W W' := ⟨KB.of_below h hB, KB.of_below h hb⟩
theorem KB2.of_grown {B b : Nat} {W W' : World} {row : Option Nat} (h : W.grownBy W' row) (hB : B < W.heap.size) (hb : b < W.heap.size) (hr : row ≠ some B) (hr' : row ≠ some b) : KB2 B b W W' := ⟨KB.of_grown h hB hr, KB.of_grown h hb hr'⟩
theorem KB.lt {B : Nat} {W W' : World} (h : KB B W W') (hB : B < W.heap.size) : B < W'.heap.size := by
  rcases Nat.lt_or_ge B W'.heap.size with h1 | h1
  · exact h1
  · unfold KB at h
    rw [Array.getElem?_eq_none h1, Array.getElem?_eq_getElem hB] at h
    cases h
theorem Rd.kb {b off n : Nat} {xs : List Int} {W W' : World} (h : Rd W (some ⟨b, off, none⟩) n xs) (hb : b < W.heap.size) (k : KB b W W') : Rd W' (some ⟨b, off, none⟩) n xs :=
  ⟨h.1, fun hn => by
    obtain ⟨b', off', e, _, hc⟩ := h.2 hn
    cases e
    exact ⟨b, off, rfl, k.lt hb, fun i x hx => (World.cell?_of_block (a := ⟨b, off + i, none⟩) k).trans (hc i x hx)⟩⟩
theorem Blk.kb {B : Nat} {t : TypeId} {cs : Array Value} {W W' : World} (h : Blk W B t cs) (k : KB B W W') : Blk W' B t cs := Eq.trans k h

def VSw.of {m : Nat} {xs : List Int} (s : Sw) (h : s ∈ swList m xs) : VSw m xs := ⟨s, h⟩
def swEnc (m : Nat) (xs : List Int) (x : VSw m xs) : Array Value := #[.agg #[.int .i64 (x.1.a : Int), .int .i64 (x.1.b : Int), .int .i64 (x.1.c : Int), .int .i64 (x.1.d : Int)]]

theorem pre_add {m : Nat} {xs : List Int} {h a b c d : Nat} {pre : List (VSw m xs)} (hp : pre.map (·.1) = swS h m xs a b c d) (hd : c + 1 ≤ d) (hk : swOk xs ⟨a, b, c, d⟩ = true) (hm : (⟨a, b, c, d⟩ : Sw) ∈ swList m xs) :
    (pre ++ [VSw.of ⟨a, b, c, d⟩ hm]).map (·.1) = swS h m xs a b c (d + 1) := by
  rw [swS_d hd, if_pos hk, List.map_append, hp]; rfl
theorem pre_not {m : Nat} {xs : List Int} {h a b c d : Nat} {pre : List (VSw m xs)} (hp : pre.map (·.1) = swS h m xs a b c d) (hd : c + 1 ≤ d) (hk : swOk xs ⟨a, b, c, d⟩ = false) :
    pre.map (·.1) = swS h m xs a b c (d + 1) := by
  rw [swS_d hd, if_neg (by rw [hk]; simp), hp]
theorem pre_len {m : Nat} {xs : List Int} {h a b c d : Nat} {pre : List (VSw m xs)} (hp : pre.map (·.1) = swS h m xs a b c d) (hh : h ≤ 6) (hm : m ≤ 6) (ha : a ≤ h) (hb : b ≤ h) (hc : c ≤ m) (hd : d ≤ m) : pre.length < 1600 := by
  have := swS_len xs hh hm ha hb hc hd
  rw [← hp, List.length_map] at this; exact this

set_option maxRecDepth 100000 in
set_option maxHeartbeats 4000000 in
theorem switches1_in (W0 : World) (n : Nat) (hn : 1 ≤ n) (l B h m c b off : Nat) (xs : List Int) (hok : okB (m : Int) xs = true) (hr0 : Rd W0 (some ⟨b, off, none⟩) h xs) (hb0 : b < W0.heap.size) (hB0 : B < W0.heap.size) (J Jx : List (VSw m xs) → World → Prop) (hJ : AbidesFrom W0.heap.size J)
    (hY : ∀ pre x W, J pre W → pre.length < 1600 → YieldAt Fence.wide (n - 1) Tryz.prog l (swEnc m xs x) W fun e W' =>
      (e = .returned (.bool true) ∧ J (pre ++ [x]) W' ∧ KB2 B b W W') ∨ (e = .returned (.bool false) ∧ Jx (pre ++ [x]) W'))
    (hk0 : Blk W0 B 25 #[.int .i64 (m : Int), .slice (some ⟨b, off, none⟩) h c]) (h0 : J [] W0) :
    CallsIn Fence.wide n Tryz.prog 129 #[.func (.yield l) #[] #[], .pointer (some ⟨B, 0, none⟩)] W0 fun e W' => (∃ v, e = .returned v) ∧
      ((∃ ys, ys.map (·.1) = swList m xs ∧ J ys W') ∨ (∃ pre, True ∧ Jx pre W')) := by
  have hbd := okB_bd hok
  rw [hr0.1] at hbd
  have hok' := Lib.hid hok; clear hok
  have hxl := Lib.hid hr0.1
  refine callsIn_of_wp Tryz.func129 rfl trivial ?_ rfl
  simp only [Tryz.ntmps129, List.size_toArray, List.length_cons, List.length_nil, Nat.reduceAdd, Nat.reduceSub, Array.replicate_succ, Array.replicate_zero, List.push_toArray, List.append_toArray, List.nil_append, List.cons_append]
  have c1 := hk0.cell 1
  gi_wp2
  gi_loopw [11] (fun i wr => ∃ (a : Nat) (pre : List (VSw m xs)), a ≤ h ∧ i = .int .i64 a ∧ Hid (pre.map (·.1) = swS h m xs a (a + 1) 0 1) ∧ J pre wr ∧ KB2 B b W0 wr ∧ B < wr.heap.size ∧ b < wr.heap.size) (fun i _ => h - (intOf i).toNat)
  case atStart => exact ⟨0, [], Nat.zero_le _, rfl, Lib.hid (by rw [swS_0]; rfl), h0, KB2.refl _ _ _, hB0, hb0⟩
  case round =>
    clear c1
    obtain ⟨a, pre, ha, rfl, hp, hJp, hK, hBw, hbw⟩ := hrel
    obtain ⟨wo, rfl⟩ : ∃ wo : World, wo = wr := ⟨_, rfl⟩
    by_cases hlt : a < h
    · gi_wp2
      gi_loopw [4] (fun i wr => ∃ (k : Nat) (pre : List (VSw m xs)), a + 1 ≤ k ∧ k ≤ h ∧ i = .int .i64 k ∧ Hid (pre.map (·.1) = swS h m xs a k 0 1) ∧ J pre wr ∧ KB2 B b W0 wr ∧ B < wr.heap.size ∧ b < wr.heap.size) (fun i _ => h - (intOf i).toNat)
      case atStart => exact ⟨a + 1, pre, Nat.le_refl _, by omega, by go_num, hp, hJp, hK, hBw, hbw⟩
      case round =>
        clear hp hJp hK hBw hbw
        obtain ⟨k, pre, hak, hkh, rfl, hp, hJp, hK, hBw, hbw⟩ := hrel
        obtain ⟨wo2, rfl⟩ : ∃ wo : World, wo = wr := ⟨_, rfl⟩
        have c0 := (hk0.kb hK.1).cell 0
        have c1 := (hk0.kb hK.1).cell 1
        by_cases hlt2 : k < h
        · gi_wp2
          clear c0 c1
          gi_loopw [25] (fun i wr => ∃ (q : Nat) (pre : List (VSw m xs)), q ≤ m ∧ i = .int .i64 q ∧ Hid (pre.map (·.1) = swS h m xs a k q (q + 1)) ∧ J pre wr ∧ KB2 B b W0 wr ∧ B < wr.heap.size ∧ b < wr.heap.size) (fun i _ => m - (intOf i).toNat)
          case atStart => exact ⟨0, pre, Nat.zero_le _, rfl, hp, hJp, hK, hBw, hbw⟩
          case round =>
            clear hp hJp hK hBw hbw
            obtain ⟨q, pre, hq, rfl, hp, hJp, hK, hBw, hbw⟩ := hrel
            obtain ⟨wo3, rfl⟩ : ∃ wo : World, wo = wr := ⟨_, rfl⟩
            by_cases hlt3 : q < m
            · gi_wp2
              gi_loopw [6] (fun i wr => ∃ (d : Nat) (pre : List (VSw m xs)), q + 1 ≤ d ∧ d ≤ m ∧ i = .int .i64 d ∧ Hid (pre.map (·.1) = swS h m xs a k q d) ∧ J pre wr ∧ KB2 B b W0 wr ∧ B < wr.heap.size ∧ b < wr.heap.size) (fun i _ => m - (intOf i).toNat)
              case atStart => exact ⟨q + 1, pre, Nat.le_refl _, by omega, by go_num, hp, hJp, hK, hBw, hbw⟩
              case round =>
                clear hp hJp hK hBw hbw
                obtain ⟨d, pre, hqd, hdm, rfl, hp, hJp, hK, hBw, hbw⟩ := hrel
                have c0 := (hk0.kb hK.1).cell 0
                have c1 := (hk0.kb hK.1).cell 1
                by_cases hlt4 : d < m
                · have hdm2 : d + 1 ≤ m := hlt4
                  have hx2 := Blk.new wr 44 #[.int .i64 (a : Int), .int .i64 (k : Int), .int .i64 (q : Int), .int .i64 (d : Int)]
                  have hR := (hr0.kb hb0 hK.2).alloc (.cells #[.int .i64 (a : Int), .int .i64 (k : Int), .int .i64 (q : Int), .int .i64 (d : Int)] 44)
                  have hb1 := lo_alloc (Below.refl wr.heap.size wr) (.cells #[.int .i64 (a : Int), .int .i64 (k : Int), .int .i64 (q : Int), .int .i64 (d : Int)] 44)
                  gi_wp2_with fail
                  refine ⟨trivial, ?_⟩
                  gi_at_call 101
                  refine (callsIn_wide.2 (switchOk_c m h c (some ⟨b, off, none⟩) xs ⟨a, k, q, d⟩ _ hR hok'.out ⟨by dsimp only; omega, by dsimp only; omega, by dsimp only; omega, by dsimp only; omega⟩)).mono ?_
                  rintro e w2 ⟨rfl, hb2⟩
                  have hb3 := lo_trans hb1 hb2
                  have hx3 := hx2.next hb2
                  have hJ2 : J pre w2 := hJ _ _ _ none hJp (grown_of_below hb3 none) (fun r e => by cases e)
                  have hK2 : KB2 B b wr w2 := KB2.of_below hb3 hBw hbw
                  have hs2 := hb3.size
                  have hplen := pre_len hp.out (by omega) (by omega) (by omega) (by omega) (by omega) (by omega)
                  clear hx2 hR hb1 hb2 hb3 c0 c1
                  have hK3 := hK.trans hK2
                  have c0 := (hk0.kb hK3.1).cell 0
                  have c1 := (hk0.kb hK3.1).cell 1
                  have x0 := hx3.cell 0
                  have x1 := hx3.cell 1
                  have x2 := hx3.cell 2
                  have x3 := hx3.cell 3
                  clear hK2 hK hx3 hJp
                  cases hsw : swOk xs ⟨a, k, q, d⟩ with
                  | false =>
                    have hp2 := Lib.hid (pre_not hp.out hqd hsw)
                    clear hsw hplen
                    gi_wp2
                    refine ⟨(fun _ h => by cases h), ?_⟩
                    gi_wp2
                    go_roundw
                    case rel => exact ⟨d + 1, pre, by omega, by omega, by go_num, hp2, hJ2, hK3, by omega, by omega⟩
                    case measure => simp [intOf]; omega
                  | true =>
                    have hmem : (⟨a, k, q, d⟩ : Sw) ∈ swList m xs := mem_swList.2 ⟨⟨by dsimp only; omega, by dsimp only; rw [hxl.out]; omega, by dsimp only; omega, by dsimp only; omega⟩, hsw⟩
                    have hp2 := Lib.hid (pre_add hp.out hqd hsw hmem)
                    obtain ⟨fn, tmps, assign, body, hy, hR⟩ := hY pre (VSw.of ⟨a, k, q, d⟩ hmem) w2 hJ2 hplen
                    have hy' : (Instr.yield l #[.agg #[.int .i64 (a : Int), .int .i64 (k : Int), .int .i64 (q : Int), .int .i64 (d : Int)]]).run Tryz.prog w2 = .ok (.round l fn tmps assign body) w2 := hy
                    clear hsw hplen hy
                    gi_wp2
                    refine hR.mono ?_
                    rintro e W3 (⟨rfl, hJ3, hk3⟩ | ⟨rfl, hJx3⟩)
                    · gi_wp2
                      go_roundw
                      case rel => exact ⟨d + 1, _, by omega, by omega, by go_num, hp2, hJ3, hK3.trans hk3, hk3.1.lt (by omega), hk3.2.lt (by omega)⟩
                      case measure => simp [intOf]; omega
                    · gi_wp2
                      refine bodyPost_ret (results_none rfl _ _ _) rfl ?_
                      exact ⟨⟨_, rfl⟩, .inr ⟨_, trivial, hJx3⟩⟩
                · have hdm' : d = m := by omega
                  have hp2 := Lib.hid (hp.out.trans (by rw [hdm', ← swS_c] : swS h m xs a k q d = swS h m xs a k (q + 1) (q + 1 + 1)))
                  clear hdm'
                  gi_wp2
                  go_roundw
                  case rel => exact ⟨q + 1, pre, by omega, by go_num, hp2, hJp, hK, hBw, hbw⟩
                  case measure => simp [intOf]; omega
            · have hqm : q = m := by omega
              have hp2 := Lib.hid (hp.out.trans (by rw [hqm, ← swS_b hak] : swS h m xs a k q (q + 1) = swS h m xs a (k + 1) 0 1))
              clear hqm
              gi_wp2
              go_roundw
              case rel => exact ⟨k + 1, pre, by omega, by omega, by go_num, hp2, hJp, hK, hBw, hbw⟩
              case measure => simp [intOf]; omega
        · have hkh' : k = h := by omega
          have hp2 := Lib.hid (hp.out.trans (by rw [hkh', ← swS_a] : swS h m xs a k 0 1 = swS h m xs (a + 1) (a + 1 + 1) 0 1))
          clear hkh'
          gi_wp2
          go_roundw
          case rel => exact ⟨a + 1, pre, by omega, by go_num, hp2, hJp, hK, hBw, hbw⟩
          case measure => simp [intOf]; omega
    · have hah : a = h := by omega
      have hp2 : pre.map (·.1) = swList m xs := hp.out.trans (by rw [hah, ← swS_end, hxl.out])
      have hp3 := Lib.hid hp2
      clear hah hp2
      gi_wp2
      go_end0
      exact ⟨⟨_, rfl⟩, .inl ⟨_, hp3.out, hJp⟩⟩

theorem switches_stops (n : Nat) (hn : 1 ≤ n) (B h m c b off : Nat) (xs : List Int) (hok : okB (m : Int) xs = true) (w : World) (hr0 : Rd w (some ⟨b, off, none⟩) h xs) (hb0 : b < w.heap.size) (hB0 : B < w.heap.size)
    (hk0 : Blk w B 25 #[.int .i64 (m : Int), .slice (some ⟨b, off, none⟩) h c]) :
    SeqStopsK Fence.wide n Tryz.prog 129 #[.pointer (some ⟨B, 0, none⟩)] (swEnc m xs) (KB2 B b) (fun ys => ys.map (·.1) = swList m xs) (fun _ => True) 1600 w := fun l J Jx W hW hJ _ hY h0 =>
  switches1_in W n hn l B h m c b off xs hok (hr0.next hW) (Nat.lt_of_lt_of_le hb0 hW.size) (Nat.lt_of_lt_of_le hB0 hW.size) J Jx hJ hY (hk0.next hW) h0

set_option maxHeartbeats 400000 in
theorem switches_in (F : Fence) (n : Nat) (hF : F.fn 93) (hro : F.round = none) (v0 v1 : Value) (w : World) :
    CallsIn F n Tryz.prog 93 #[.agg #[v0, v1]] w fun e w' => e = .returned (.func (.func 129) #[] #[.pointer (some ⟨w.heap.size, 0, none⟩)]) ∧ w' = w.alloc (.cells #[v0, v1] 25) := by
  have hmf : ∀ (fn : Fn) (first cap : Array Value) (w : World), (Instr.makeFunc fn first cap).run Tryz.prog w = .ok (.func fn first cap) w := fun _ _ _ _ => rfl
  refine callsIn_of_wp Tryz.func93 rfl hF ?_ hro
  simp only [Tryz.ntmps93, List.size_toArray, List.length_cons, List.length_nil, Nat.reduceAdd, Nat.reduceSub, Array.replicate_succ, Array.replicate_zero, List.push_toArray, List.append_toArray, List.nil_append, List.cons_append]
  gi_wp2
  go_ret
  exact ⟨rfl, rfl⟩
end Go.Proofs.YtpeiolimdglmhaaGreatDoor

-- Walks: the neighbors of an image.
namespace Go.Proofs.YtpeiolimdglmhaaGreatDoor
open Go.RowKit Go.Shelf
attribute [local go_sem] Oper.semAt_some

theorem Blk.cells_ne {W : World} {g r : Nat} {t : TypeId} {cs : Array Value} (h : Blk W g t cs) (hr : ∃ o : Obj, W.heap[r]? = some o ∧ o.isCells = false) : g ≠ r := by
  rintro rfl
  obtain ⟨o, ho, hc⟩ := hr
  unfold Blk at h
  rw [h] at ho; cases ho; cases hc
theorem Blk.ownF {W W' : World} {g : Nat} {t : TypeId} {cs : Array Value} {row : Option Nat} (h : Blk W g t cs) (hg : W.grownBy W' row) (hr : ∀ r, row = some r → ∃ o : Obj, W.heap[r]? = some o ∧ o.isCells = false) : Blk W' g t cs :=
  h.grown hg (fun e => h.cells_ne (hr g e.symm) rfl)
theorem Own.ownF {W W' : World} {lo n : Nat} {A : Option Addr} {xs : List Int} {row : Option Nat} (h : Own W lo A n xs) (hg : W.grownBy W' row) (hr : ∀ r, row = some r → ∃ o : Obj, W.heap[r]? = some o ∧ o.isCells = false) : Own W' lo A n xs :=
  ⟨h.1, fun hn => by obtain ⟨g, cs, e, h1, h2, h3⟩ := h.2 hn; exact ⟨g, cs, e, h1, h2.ownF hg hr, h3⟩⟩
theorem OwnI.ownF {W W' : World} {lo c : Nat} {A : Option Addr} {es : List El} {row : Option Nat} (h : OwnI W lo A c es) (hg : W.grownBy W' row) (hr : ∀ r, row = some r → ∃ o : Obj, W.heap[r]? = some o ∧ o.isCells = false) : OwnI W' lo A c es := by
  refine ⟨h.buf.kept hg ?_, fun e he => ⟨(h.rows e he).1.ownF hg hr, (h.rows e he).2⟩, h.far, h.apart⟩
  rintro g rfl e
  rcases h.buf.form with ⟨e', _⟩ | ⟨g', cs, e', _, hb, _⟩
  · cases e'
  · cases e'
    exact hb.cells_ne (hr _ e) rfl
theorem OwnI.grown {W W' : World} {lo c : Nat} {A : Option Addr} {es : List El} {row : Option Nat} (h : OwnI W lo A c es) (hg : W.grownBy W' row) (hr : ∀ g, row = some g → g < lo) : OwnI W' lo A c es := by
  refine ⟨h.buf.kept hg ?_, fun e he => ⟨(h.rows e he).1.grown_lo hg hr, (h.rows e he).2⟩, h.far, h.apart⟩
  rintro g rfl e
  have h1 := h.buf.lt g rfl
  have h2 := hr g e
  omega
theorem OwnI.mono {W : World} {lo lo' c : Nat} {A : Option Addr} {es : List El} (h : OwnI W lo A c es) (hl : lo' ≤ lo) : OwnI W lo' A c es := by
  refine ⟨?_, fun e he => ⟨(h.rows e he).1.mono hl, (h.rows e he).2⟩, h.far, h.apart⟩
  have hb := h.buf
  refine ⟨hb.1, ?_⟩
  rcases hb.2 with h1 | ⟨g, cap, cur, h1, h2, h3⟩
  · exact .inl h1
  · exact .inr ⟨g, cap, cur, h1, by omega, h3⟩

/-- the images es are of width W and have the rows ys -/
def Els (es : List El) (W : Int) (ys : List (List Int)) : Prop := es.map (·.xs) = ys ∧ ∀ e ∈ es, e.W = W
theorem Els.nil_ (W : Int) : Els [] W [] := ⟨rfl, fun _ h => by cases h⟩
theorem Els.len {es : List El} {W : Int} {ys : List (List Int)} (h : Els es W ys) : es.length = ys.length := by rw [← h.1, List.length_map]
theorem Els.snoc {es : List El} {W : Int} {ys : List (List Int)} (h : Els es W ys) (A : Option Addr) (c : Nat) (y : List Int) : Els (es ++ [⟨W, A, c, y⟩]) W (ys ++ [y]) :=
  ⟨by rw [List.map_append, h.1]; rfl, fun e he => by
    rcases List.mem_append.1 he with he | he
    · exact h.2 e he
    · obtain rfl := List.mem_singleton.1 he
      rfl⟩

theorem rowA_lt {w : World} {base c : Nat} {A : Option Addr} {es : List El} (h : BufI w base A c es) : ∀ g, rowA A = some g → base ≤ g ∧ g < w.heap.size := by
  intro g hg
  rcases h.addr with rfl | ⟨g', rfl⟩
  · simp [rowA] at hg
  · simp [rowA] at hg
    subst hg
    exact h.lt _ rfl
theorem keepsO_grown {W W' : World} {row : Option Nat} (h : W.grownBy W' row) (hr : ∀ g, row = some g → ∃ t cs, Blk W g t cs) : KeepsOthers W W' :=
  ⟨h.size, fun k o hk hc => (h.block k (Array.getElem?_eq_some_iff.1 hk).1 (fun e => by
    obtain ⟨t, cs, hb⟩ := hr k e.symm
    exact hb.cells_ne ⟨o, hk, hc⟩ rfl)).trans hk⟩

end Go.Proofs.YtpeiolimdglmhaaGreatDoor

-- Plain: how many neighbors, how many rows they have.
namespace Go.Proofs.YtpeiolimdglmhaaGreatDoor

theorem Els.rows {es : List El} {W : Int} {ys : List (List Int)} (h : Els es W ys) {n : Nat} (hy : ∀ y ∈ ys, y.length ≤ n) : ∀ e ∈ es, e.xs.length ≤ n := by
  intro e he
  exact hy _ (by rw [← h.1]; exact List.mem_map_of_mem he)
end Go.Proofs.YtpeiolimdglmhaaGreatDoor
