
/- Walks: a switch of an image. -/
import Derived.Test.YtjogfeichnkffaaCl
import Derived.Test.YtjogfeichnkffaaMathN
import Derived.Test.YtjogfeichnkffaaIm
namespace Go.Proofs.Ytjogfeichnkffaa
open Go.RowKit

theorem sw_row {r m c d : Nat} (hr : r < 2 ^ m) (hc : c < m) (hd : d < m) : r ^^^ (2 ^ c ||| 2 ^ d) = mkRow (fun j => r.testBit j ^^ (j == c || j == d)) m := by
  refine row_ext (Nat.xor_lt_two_pow hr (Nat.or_lt_two_pow (Nat.pow_lt_pow_right (by omega) hc) (Nat.pow_lt_pow_right (by omega) hd))) (mkRow_lt _ _) (fun j hj => ?_)
  rw [Nat.testBit_xor, Nat.testBit_or, testBit_mkRow, Nat.testBit_two_pow, Nat.testBit_two_pow]
  simp only [hj, decide_true, Bool.true_and]
  have e1 : decide (c = j) = (j == c) := by rw [Bool.eq_iff_iff]; simp; exact eq_comm
  have e2 : decide (d = j) = (j == d) := by rw [Bool.eq_iff_iff]; simp; exact eq_comm
  rw [e1, e2]
theorem sw_rows {m r1 r2 : Nat} {xs : List Int} {s : Sw} (hk : okB (m : Int) xs = true) (h : s.a < s.b ∧ s.b < xs.length ∧ s.c < s.d ∧ s.d < m) (h1 : xs[s.a]?.getD 0 = (r1 : Int)) (h2 : xs[s.b]?.getD 0 = (r2 : Int))
    (l1 : r1 < 2 ^ m) (l2 : r2 < 2 ^ m) : (xs.set s.a ((r1 ^^^ (2 ^ s.c ||| 2 ^ s.d) : Nat) : Int)).set s.b ((r2 ^^^ (2 ^ s.c ||| 2 ^ s.d) : Nat) : Int) = swDo m xs s := by
  obtain ⟨ha, hb, hc, hd⟩ := h
  rw [sw_row l1 (by omega) hd, sw_row l2 (by omega) hd]
  apply List.ext_getElem
  · simp [swDo_len]
  · intro i hi hi2
    rw [swDo_len] at hi2
    have e0 : (swDo m xs s)[i]? = some ((mkRow (fun j => cellF xs i j ^^ inSw s i j) m : Nat) : Int) := by
      rw [swDo, img_get' hi2]
    rw [List.getElem?_eq_getElem (by rw [swDo_len]; exact hi2)] at e0
    injection e0 with e0
    rw [e0]
    have hx : xs[i]?.getD 0 = xs[i] := by simp [List.getElem?_eq_getElem hi2]
    by_cases hb' : i = s.b
    · subst hb'
      rw [List.getElem_set_self]
      congr 1
      refine mkRow_congr (fun j _ => ?_)
      simp only [cellF, h2, Int.toNat_natCast, inSw, BEq.rfl, Bool.or_true, Bool.true_and]
    · rw [List.getElem_set_ne (fun e => hb' e.symm)]
      by_cases ha' : i = s.a
      · subst ha'
        rw [List.getElem_set_self]
        congr 1
        refine mkRow_congr (fun j _ => ?_)
        simp only [cellF, h1, Int.toNat_natCast, inSw, BEq.rfl, Bool.true_or, Bool.true_and]
      · rw [List.getElem_set_ne (fun e => ha' e.symm)]
        obtain ⟨r, hr1, hr2⟩ := okB_row hk rfl (k := i) hi2
        rw [hx] at hr1
        rw [hr1]
        have e3 : mkRow (fun j => cellF xs i j ^^ inSw s i j) m = mkRow r.testBit m := mkRow_congr (fun j _ => by
          simp only [cellF, hx, hr1, Int.toNat_natCast, inSw, beq_eq_false_iff_ne.2 ha', beq_eq_false_iff_ne.2 hb', Bool.or_self, Bool.false_and, Bool.xor_false])
        rw [e3, mkRow_testBit hr2]

theorem has_k (m i j n c : Nat) (xs : List Int) (A : Option Addr) (w : World) (hr : Rd w A n xs) (hk : okB (m : Int) xs = true) (hi : i < n) (hj : j < m) :
    Calls Try.prog 37 #[.agg #[.int .i64 (m : Int), .slice A n c], .int .i64 i, .int .i64 j] w fun e w' => e = .returned (.bool (cellF xs i j)) ∧ Below w.heap.size w w' := by
  have hbd := okB_bd hk
  obtain ⟨r, h1, h2⟩ := okB_at hk (k := i) (by rw [hr.1]; exact hi)
  have e : cellF xs i j = r.testBit j := by simp only [cellF, h1, Int.toNat_natCast]
  rw [e]
  exact has_c i j r n c m xs A w hr hi (by omega) h2 h1

set_option maxRecDepth 100000 in
set_option maxHeartbeats 2000000 in
theorem switchOk_c (m n c : Nat) (A : Option Addr) (xs : List Int) (s : Sw) (w : World) (hr : Rd w A n xs) (hk : okB (m : Int) xs = true) (h : s.a < s.b ∧ s.b < n ∧ s.c < s.d ∧ s.d < m) :
    Calls Try.prog 53 #[.agg #[.int .i64 (m : Int), .slice A n c], .agg #[.int .i64 s.a, .int .i64 s.b, .int .i64 s.c, .int .i64 s.d]] w fun e w' => e = .returned (.bool (swOk xs s)) ∧ Below w.heap.size w w' := by
  have hk' := Lib.hid hk
  have hbd := okB_bd hk
  rw [hr.1] at hbd
  obtain ⟨ha, hb, hc, hd⟩ := h
  have e0 : Hid (swOk xs s = ((cellF xs s.b s.d == cellF xs s.a s.c) && (cellF xs s.a s.d != cellF xs s.a s.c) && (cellF xs s.b s.c != cellF xs s.a s.c))) := Lib.hid rfl
  clear hk
  obtain ⟨sa, sb, sc, sd⟩ := s
  dsimp only at ha hb hc hd e0 ⊢
  have hP := (Blk.new w 27 #[.int .i64 (m : Int), .slice A n c]).alloc (.cells #[.int .i64 sa, .int .i64 sb, .int .i64 sc, .int .i64 sd] 68)
  have hQ := heap_at2 w (.cells #[.int .i64 (m : Int), .slice A n c] 27) 68 #[.int .i64 sa, .int .i64 sb, .int .i64 sc, .int .i64 sd]
  have hB0 := lo_alloc (lo_alloc (Below.refl w.heap.size w) (.cells #[.int .i64 (m : Int), .slice A n c] 27)) (.cells #[.int .i64 sa, .int .i64 sb, .int .i64 sc, .int .i64 sd] 68)
  have hR0 := (hr.alloc (.cells #[.int .i64 (m : Int), .slice A n c] 27)).alloc (.cells #[.int .i64 sa, .int .i64 sb, .int .i64 sc, .int .i64 sd] 68)
  go_enter Try.func53, Try.ntmps53
  go_wp2_with fail
  refine (has_k m sa sc n c xs A _ hR0 hk'.out (by omega) (by omega)).mono ?_
  rintro e w1 ⟨rfl, hb1⟩
  have kP := hP.next hb1
  have kQ := hQ.next hb1
  have hB1 := lo_trans hB0 hb1
  have hR1 := hR0.next hb1
  clear hP hQ hB0 hR0 hb1
  have p0 := kP.cell 0
  have p1 := kP.cell 1
  have q0 := kQ.cell 0
  have q1 := kQ.cell 1
  have q2 := kQ.cell 2
  have q3 := kQ.cell 3
  generalize cellF xs sa sc = x at e0 ⊢
  go_wp2_with fail
  refine (has_k m sb sd n c xs A _ hR1 hk'.out (by omega) (by omega)).mono ?_
  rintro e w2 ⟨rfl, hb2⟩
  clear p0 p1 q0 q1 q2 q3
  have hP := kP.next hb2
  have hQ := kQ.next hb2
  have hB2 := lo_trans hB1 hb2
  have hR2 := hR1.next hb2
  clear kP kQ hB1 hR1 hb2
  have p0 := hP.cell 0
  have p1 := hP.cell 1
  have q0 := hQ.cell 0
  have q1 := hQ.cell 1
  have q2 := hQ.cell 2
  have q3 := hQ.cell 3
  generalize cellF xs sb sd = y at e0 ⊢
  by_cases hxy : y = x
  case neg =>
    have e1 : Hid (swOk xs ⟨sa, sb, sc, sd⟩ = false) := Lib.hid (by rw [e0.out]; simp [hxy])
    cases x <;> cases y <;> first
      | exact absurd rfl hxy
      | (go_wp2
         go_ret
         exact ⟨ret_bool (by rw [e1.out]), hB2⟩)
  subst hxy
  cases y <;>
  · go_wp2_with fail
    refine (has_k m sa sd n c xs A _ hR2 hk'.out (by omega) (by omega)).mono ?_
    rintro e w3 ⟨rfl, hb3⟩
    clear p0 p1 q0 q1 q2 q3
    have kP := hP.next hb3
    have kQ := hQ.next hb3
    have hB3 := lo_trans hB2 hb3
    have hR3 := hR2.next hb3
    have p0 := kP.cell 0
    have p1 := kP.cell 1
    have q0 := kQ.cell 0
    have q1 := kQ.cell 1
    have q2 := kQ.cell 2
    have q3 := kQ.cell 3
    clear hP hQ hB2 hR2 hb3 kP kQ
    generalize cellF xs sa sd = z at e0 ⊢
    cases z <;> first
      | (go_wp2
         go_ret
         exact ⟨ret_bool (by rw [e0.out]; rfl), hB3⟩)
      | (go_wp2_with fail
         refine (has_k m sb sc n c xs A _ hR3 hk'.out (by omega) (by omega)).mono ?_
         rintro e w4 ⟨rfl, hb4⟩
         have hB4 := lo_trans hB3 hb4
         generalize cellF xs sb sc = u at e0 ⊢
         cases u <;>
         · go_wp2
           go_ret
           exact ⟨ret_bool (by rw [e0.out]; rfl), hB4⟩)

theorem sw_mask {r c d : Nat} (hr : r < 64) (hc : c < 6) (hd : d < 6) : bits .xor .i64 (r : Int) (bits .or .i64 (2 ^ c) (2 ^ d)) = ((r ^^^ (2 ^ c ||| 2 ^ d) : Nat) : Int) := by
  have h1 := pow_le64 (j := c) (by omega)
  have h2 := pow_le64 (j := d) (by omega)
  have e : bits .or .i64 ((2 : Int) ^ c) (2 ^ d) = ((2 ^ c ||| 2 ^ d : Nat) : Int) := by
    rw [← i64_or_nat (2 ^ c) (2 ^ d) (by omega) (by omega)]; simp
  have h3 : 2 ^ c ||| 2 ^ d < 2 ^ 7 := Nat.or_lt_two_pow (by omega) (by omega)
  rw [e, i64_xor_nat _ _ (by omega) (by omega)]
theorem Own.cellSet {w : World} {lo g n k : Nat} {xs : List Int} (h : Own w lo (some ⟨g, 0, none⟩) n xs) (hk : k < n) : lo ≤ g ∧ g < w.heap.size ∧ w.cell? ⟨g, k, none⟩ = some (.int .i64 (xs[k]?.getD 0)) ∧ w.frozen? ⟨g, k, none⟩ = false ∧
    ∀ y, Own (w.setCell ⟨g, k, none⟩ (.int .i64 y)) lo (some ⟨g, 0, none⟩) n (xs.set k y) := by
  obtain ⟨g', e, h1, h2, h3, h4, h5⟩ := h.at_ hk
  cases e
  exact ⟨h1, h2, h3, h4, h5⟩

set_option maxRecDepth 100000 in
set_option maxHeartbeats 2000000 in
theorem switched_c (m n c : Nat) (A : Option Addr) (xs : List Int) (s : Sw) (w : World) (hr : Rd w A n xs) (hk : okB (m : Int) xs = true) (h : s.a < s.b ∧ s.b < n ∧ s.c < s.d ∧ s.d < m) :
    Calls Try.prog 41 #[.agg #[.int .i64 (m : Int), .slice A n c], .agg #[.int .i64 s.a, .int .i64 s.b, .int .i64 s.c, .int .i64 s.d]] w fun e w' => ∃ g c', e = .returned (.agg #[.int .i64 (m : Int), .slice (some ⟨g, 0, none⟩) n c']) ∧ Below w.heap.size w w' ∧
      Own w' w.heap.size (some ⟨g, 0, none⟩) n (swDo m xs s) := by
  have hk' := Lib.hid hk
  have hbd := okB_bd hk
  rw [hr.1] at hbd
  obtain ⟨r1, x1, l1⟩ := okB_row hk rfl (k := s.a) (by rw [hr.1]; omega)
  obtain ⟨r2, x2, l2⟩ := okB_row hk rfl (k := s.b) (by rw [hr.1]; omega)
  have hrow := Lib.hid (sw_rows hk (by rw [hr.1]; exact h) x1 x2 l1 l2)
  have hpm := pow_le64 (j := m) (by omega)
  have hX1 := Lib.hid (sw_mask (r := r1) (c := s.c) (d := s.d) (by omega) (by omega) (by omega))
  have hX2 := Lib.hid (sw_mask (r := r2) (c := s.c) (d := s.d) (by omega) (by omega) (by omega))
  have x2' := Lib.hid x2
  have x1' := Lib.hid x1
  clear hk x1 x2
  obtain ⟨sa, sb, sc, sd⟩ := s
  obtain ⟨ha, hb, hc, hd⟩ := h
  dsimp only at ha hb hc hd hrow hX1 hX2 x1' x2' ⊢
  have hP := ((Blk.new w 27 #[.int .i64 (m : Int), .slice A n c]).alloc (.cells #[.int .i64 sa, .int .i64 sb, .int .i64 sc, .int .i64 sd] 68)).alloc (.cells #[.int .i64 0, .slice none 0 0] 27)
  have hQ := (heap_at2 w (.cells #[.int .i64 (m : Int), .slice A n c] 27) 68 #[.int .i64 sa, .int .i64 sb, .int .i64 sc, .int .i64 sd]).alloc (.cells #[.int .i64 0, .slice none 0 0] 27)
  have hR := Blk.new ((w.alloc (.cells #[.int .i64 (m : Int), .slice A n c] 27)).alloc (.cells #[.int .i64 sa, .int .i64 sb, .int .i64 sc, .int .i64 sd] 68)) 27 #[.int .i64 0, .slice none 0 0]
  have hB0 := lo_alloc (lo_alloc (lo_alloc (Below.refl w.heap.size w) (.cells #[.int .i64 (m : Int), .slice A n c] 27)) (.cells #[.int .i64 sa, .int .i64 sb, .int .i64 sc, .int .i64 sd] 68)) (.cells #[.int .i64 0, .slice none 0 0] 27)
  have hR0 := ((hr.alloc (.cells #[.int .i64 (m : Int), .slice A n c] 27)).alloc (.cells #[.int .i64 sa, .int .i64 sb, .int .i64 sc, .int .i64 sd] 68)).alloc (.cells #[.int .i64 0, .slice none 0 0] 27)
  rw [World.size_alloc, World.size_alloc] at hR
  go_enter Try.func41, Try.ntmps41
  go_wp2_with fail
  refine (clone_c m _ _ _ xs _ hR0 (by omega) (by omega)).mono ?_
  rintro e w2 ⟨g, cc, rfl, hb2, ho2⟩
  obtain ⟨o, ho⟩ : ∃ o, o = w2.heap.size := ⟨_, rfl⟩
  have hO2 : Blk (w2.alloc (.cells #[.int .i64 (m : Int), .slice (some ⟨g, 0, none⟩) n cc] 27)) o 27 #[.int .i64 (m : Int), .slice (some ⟨g, 0, none⟩) n cc] := by rw [ho]; exact Blk.new _ _ _
  have kQ := (hQ.next hb2).alloc (.cells #[.int .i64 (m : Int), .slice (some ⟨g, 0, none⟩) n cc] 27)
  have kR := (hR.next hb2).alloc (.cells #[.int .i64 (m : Int), .slice (some ⟨g, 0, none⟩) n cc] 27)
  have hB2 := lo_alloc (lo_trans hB0 hb2) (.cells #[.int .i64 (m : Int), .slice (some ⟨g, 0, none⟩) n cc] 27)
  have hI2 := ho2.alloc (.cells #[.int .i64 (m : Int), .slice (some ⟨g, 0, none⟩) n cc] 27)
  have hI3 : Own (w2.alloc (.cells #[.int .i64 (m : Int), .slice (some ⟨g, 0, none⟩) n cc] 27)) (w.heap.size + 3) (some ⟨g, 0, none⟩) n xs := hI2.mono (by simp)
  have hgo : g < o := by have := (ho2.cellSet (k := 0) (by omega)).2.1; omega
  clear hI2 ho2 hb2 hP hQ hR hB0 hR0
  obtain ⟨hgl, hzg, hc0, hf0, hset⟩ := hI3.cellSet (k := sa) (by omega)
  rw [x1'.out] at hc0
  have hset' := Lib.hid (hset ((r1 ^^^ (2 ^ sc ||| 2 ^ sd) : Nat) : Int))
  clear hset
  have hp1 := pow_int (j := sc) (by omega)
  have hp2 := pow_int (j := sd) (by omega)
  have o1 := hO2.cell 1
  have q0 := kQ.cell 0
  have q2 := kQ.cell 2
  have q3 := kQ.cell 3
  go_wp2
  go_region
  rw [hX1.out]
  rw [← ho]
  have ho' := Lib.hid ho
  have hI4 := hset'.out.drew
  have hB4 := Below.drew (lo_set hB2 (p := ⟨g, sa, none⟩) (by simp; omega) (.int .i64 ((r1 ^^^ (2 ^ sc ||| 2 ^ sd) : Nat) : Int)))
  have kQ4 := (kQ.far (p := ⟨g, sa, none⟩) (by simp; omega) (.int .i64 ((r1 ^^^ (2 ^ sc ||| 2 ^ sd) : Nat) : Int))).drew
  have kR4 := (kR.far (p := ⟨g, sa, none⟩) (by simp; omega) (.int .i64 ((r1 ^^^ (2 ^ sc ||| 2 ^ sd) : Nat) : Int))).drew
  have hO4 := (hO2.far (p := ⟨g, sa, none⟩) (by simp; omega) (.int .i64 ((r1 ^^^ (2 ^ sc ||| 2 ^ sd) : Nat) : Int))).drew
  clear ho hset' hI3 hB2 kQ kR hO2 o1 q0 q2 q3 hc0 hf0 hzg
  generalize (World.setCell _ _ _).drew = w5 at hI4 hB4 kQ4 kR4 hO4 ⊢
  obtain ⟨_, hzg, hc0, hf0, hset⟩ := hI4.cellSet (k := sb) (by omega)
  have hx2 : (xs.set sa ((r1 ^^^ (2 ^ sc ||| 2 ^ sd) : Nat) : Int))[sb]?.getD 0 = (r2 : Int) := by rw [List.getElem?_set_ne (by omega)]; exact x2'.out
  rw [hx2] at hc0
  have hset' := Lib.hid (hset ((r2 ^^^ (2 ^ sc ||| 2 ^ sd) : Nat) : Int))
  clear hset hx2
  have o1 := hO4.cell 1
  have q1 := kQ4.cell 1
  have q2 := kQ4.cell 2
  have q3 := kQ4.cell 3
  go_wp2
  go_region
  rw [hX2.out]
  have hI6 := hset'.out.drew
  rw [hrow.out] at hI6
  have hB6 := Below.drew (lo_set hB4 (p := ⟨g, sb, none⟩) (by simp; omega) (.int .i64 ((r2 ^^^ (2 ^ sc ||| 2 ^ sd) : Nat) : Int)))
  have kR6 := (kR4.far (p := ⟨g, sb, none⟩) (by simp; omega) (.int .i64 ((r2 ^^^ (2 ^ sc ||| 2 ^ sd) : Nat) : Int))).drew
  have hO6 := (hO4.far (p := ⟨g, sb, none⟩) (by simp; omega) (.int .i64 ((r2 ^^^ (2 ^ sc ||| 2 ^ sd) : Nat) : Int))).drew
  clear hset' hI4 hB4 kQ4 kR4 hO4 o1 q1 q2 q3 hc0 hf0 hzg
  generalize (World.setCell _ _ _).drew = w7 at hI6 hB6 kR6 hO6 ⊢
  have hz6 := kR6.lt
  have o0 := hO6.cell 0
  have o1 := hO6.cell 1
  have r0 := kR6.cell 0
  have r1 := kR6.cell 1
  have f0 := kR6.frozen 0
  have f1 := kR6.frozen 1
  obtain ⟨s0, s1, hB8⟩ := fin_cells1 (w := w) (r := 1 + 1) kR6 hB6 (.int .i64 (m : Int)) (.slice (some ⟨g, 0, none⟩) n cc)
  have s0' := Lib.hid s0; have s1' := Lib.hid s1; clear s0 s1
  go_wp2
  refine bodyPost_ret (v := .agg #[.int .i64 m, .slice (some ⟨g, 0, none⟩) n cc]) (by simp [results, Try.results41, go_sem, s0'.out, s1'.out]) rfl ⟨g, cc, rfl, hB8, ?_⟩
  exact ((hI6.far_lo (p := ⟨w.heap.size + 1 + 1, 0, none⟩) (by simp) _).far_lo (p := ⟨w.heap.size + 1 + 1, 1, none⟩) (by simp) _).mono (by omega)
end Go.Proofs.Ytjogfeichnkffaa
