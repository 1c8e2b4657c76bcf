
/- Walks: the reference's copy of an image; a switch done. -/
import Derived.Test.YtjogfeichnkffaaSpa
namespace Go.Proofs.Ytjogfeichnkffaa
open Go.RowKit
set_option maxRecDepth 100000

set_option maxHeartbeats 2000000 in
theorem l1Copy_c (W : Int) (A : Option Addr) (n c : Nat) (xs : List Int) (w : World) (hr : Rd w A n xs) (hn0 : 0 < n) (hn : n ≤ 1048576) :
    Calls Try.prog 62 #[.agg #[.int .i64 W, .slice A n c]] w fun e w' => ∃ g c', e = .returned (.agg #[.int .i64 W, .slice (some ⟨g, 0, none⟩) n c']) ∧ Below w.heap.size w w' ∧ Own w' w.heap.size (some ⟨g, 0, none⟩) n xs := by
  obtain ⟨i0, hi0, hz0, hz1, hz2⟩ := info_parts info3
  obtain ⟨b, off, rfl, hb, hcc⟩ := hr.2 hn0
  have hK1 := Blk.new w 27 #[.int .i64 W, .slice (some ⟨b, off, none⟩) n c]
  have hK2 := heap_at2 w (.cells #[.int .i64 W, .slice (some ⟨b, off, none⟩) n c] 27) 27 #[.int .i64 0, .slice none 0 0]
  have hK1' := hK1.alloc (.cells #[.int .i64 0, .slice none 0 0] 27)
  have hB0 := lo_alloc (lo_alloc (Below.refl w.heap.size w) (.cells #[.int .i64 W, .slice (some ⟨b, off, none⟩) n c] 27)) (.cells #[.int .i64 0, .slice none 0 0] 27)
  have hR0 := (hr.alloc (.cells #[.int .i64 W, .slice (some ⟨b, off, none⟩) n c] 27)).alloc (.cells #[.int .i64 0, .slice none 0 0] 27)
  have hsz : ((w.alloc (.cells #[.int .i64 W, .slice (some ⟨b, off, none⟩) n c] 27)).alloc (.cells #[.int .i64 0, .slice none 0 0] 27)).heap.size = w.heap.size + 2 := by simp
  have a0 := hK1'.cell 0
  have a1 := hK1'.cell 1
  clear hK1
  go_enter Try.func62, Try.ntmps62
  go_wp2_with fail
  generalize (w.alloc (.cells #[.int .i64 W, .slice (some ⟨b, off, none⟩) n c] 27)).alloc (.cells #[.int .i64 0, .slice none 0 0] 27) = w1 at hK2 hK1' hB0 hR0 hsz a0 a1 ⊢
  have hBf : Buf (w1.drew.alloc (.cells #[] 3)) (w.heap.size + 2) (some ⟨w.heap.size + 2, 0, none⟩) 0 [] := by
    rw [← hsz]; exact Buf.lit w1.drew w1.heap.size [] (Nat.le_refl _) (Nat.zero_le _)
  have hsz' := Lib.hid hsz
  go_region_held3 (fun w' => w'.cell? ⟨w.heap.size, 0, none⟩ = some (.int .i64 W) ∧ w'.cell? ⟨w.heap.size, 1, none⟩ = some (.slice (some ⟨b, off, none⟩) n c))
    (first
      | go_keep
      | exact ⟨((hK1'.drew.alloc (.cells #[] 3)).grown hgrow (by simp [Value.ownBlock])).cell 0, ((hK1'.drew.alloc (.cells #[] 3)).grown hgrow (by simp [Value.ownBlock])).cell 1⟩)
    ((refine step_append_lies _ (by rfl) _ _ _ (by rfl) (w.heap.size + 2) 3 i0 _ 1 8 Try.underlying22 hi0 hz0 hz1 hz2 rfl (by omega) _ 0 [] (by rfl) hBf
        ⟨b, off, none⟩ n c (xs.map (Value.int .i64)) (by rfl) (by simp [hr.1]) (by intro j u hu; rw [List.getElem?_map, Option.map_eq_some_iff] at hu; obtain ⟨y, hy, rfl⟩ := hu; rw [Go.WideShapes.add_plain]; obtain ⟨b', off', e', _, hx'⟩ := ((hR0.drew).alloc (.cells #[] 3)).2 hn0; cases e'; exact hx' j y hy) (by simp [Value.oneCell'])
        (by omega) (by unfold maxLen; omega) (by omega) (by simp; omega) (w.heap.size + 3) (by simp; omega) ?_; intro gg cap w4 hown4 hgrow hat hlt; have hKr := (hK2.drew.alloc (.cells #[] 3)).grown hgrow (by simp [Value.ownBlock]); have r0 := hKr.cell 0; have r1 := hKr.cell 1; have f0 := hKr.frozen 0; have f1 := hKr.frozen 1))
  have hB4 : Buf w4 (w.heap.size + 2) (some ⟨gg, 0, none⟩) cap xs := by
    unfold Buf; rw [hr.1]; simpa using hown4
  have hO := hB4.own
  rw [hr.1] at hO
  obtain ⟨s0, s1, hB5⟩ := fin_cells1 (w := w) (r := 1) hKr (lo_grown (lo_alloc (Below.drew hB0) (.cells #[] 3)) hgrow (fun g hg => by simp [Value.ownBlock] at hg; omega)) (.int .i64 W) (.slice (some ⟨gg, 0, none⟩) n cap)
  have s0' := Lib.hid s0; have s1' := Lib.hid s1; clear s0 s1 a0 a1
  go_wp2
  refine bodyPost_ret (v := .agg #[.int .i64 W, .slice (some ⟨gg, 0, none⟩) n cap]) (by simp [results, Try.results62, go_sem, s0'.out, s1'.out]) rfl ⟨gg, cap, rfl, hB5, ?_⟩
  exact ((hO.far_lo (p := ⟨w.heap.size + 1, 0, none⟩) (by simp) _).far_lo (p := ⟨w.heap.size + 1, 1, none⟩) (by simp) _).mono (by omega)

def putChk (r c d : Nat) : Bool := c == d || r.testBit d == r.testBit c || (put (put r c (r.testBit d)) d (r.testBit c) == r ^^^ (2 ^ c ||| 2 ^ d) && put (put r d (r.testBit c)) c (r.testBit d) == r ^^^ (2 ^ c ||| 2 ^ d) && decide (put r c (r.testBit d) < 64) && decide (put r d (r.testBit c) < 64))
theorem putChk_all : ∀ r, r < 64 → ∀ c, c < 6 → ∀ d, d < 6 → putChk r c d = true := by decide +kernel
theorem put_sw {r c d : Nat} (hr : r < 64) (hc : c < 6) (hd : d < 6) (hne : c ≠ d) (x : Bool) (h1 : r.testBit c = x) (h2 : r.testBit d = !x) :
    put (put r c (!x)) d x = r ^^^ (2 ^ c ||| 2 ^ d) ∧ put (put r d x) c (!x) = r ^^^ (2 ^ c ||| 2 ^ d) ∧ put r c (!x) < 64 ∧ put r d x < 64 := by
  have h := putChk_all r hr c hc d hd
  have e1 : (c == d) = false := beq_eq_false_iff_ne.2 hne
  have e2 : ((!x) == x) = false := by cases x <;> rfl
  simp only [putChk, e1, e2, Bool.false_or, Bool.and_eq_true, beq_iff_eq, decide_eq_true_eq, h1, h2] at h
  exact ⟨h.1.1.1, h.1.1.2, h.1.2, h.2⟩

theorem set4 {xs : List Int} {a b : Nat} (h : a ≠ b) (x y X Y : Int) : (((xs.set a x).set b y).set a X).set b Y = (xs.set a X).set b Y := by
  rw [List.set_comm _ _ (Ne.symm h), List.set_set, List.set_set]
theorem set_get {xs : List Int} {a b : Nat} (h : a ≠ b) (x : Int) : (xs.set a x)[b]?.getD 0 = xs[b]?.getD 0 := by rw [List.getElem?_set_ne h]
theorem set_get_same {xs : List Int} {a : Nat} (h : a < xs.length) (x : Int) : (xs.set a x)[a]?.getD 0 = x := by rw [List.getElem?_set_self h]; rfl

set_option maxHeartbeats 4000000 in
theorem l11Do_c (m n c : Nat) (A : Option Addr) (xs : List Int) (s : Sw) (w : World) (hr : Rd w A n xs) (hk : okB (m : Int) xs = true) (h : s.a < s.b ∧ s.b < n ∧ s.c < s.d ∧ s.d < m) (hs : swOk xs s = true) :
    Calls Try.prog 57 #[.agg #[.int .i64 (m : Int), .slice A n c], .agg #[.int .i64 s.a, .int .i64 s.b, .int .i64 s.c, .int .i64 s.d]] w fun e w' => ∃ g c', e = .returned (.agg #[.int .i64 (m : Int), .slice (some ⟨g, 0, none⟩) n c']) ∧ Below w.heap.size w w' ∧
      Own w' w.heap.size (some ⟨g, 0, none⟩) n (swDo m xs s) := by
  have hk' := Lib.hid hk
  have hbd := okB_bd hk
  rw [hr.1] at hbd
  obtain ⟨r1, x1, l1⟩ := okB_row hk rfl (k := s.a) (by rw [hr.1]; omega)
  obtain ⟨r2, x2, l2⟩ := okB_row hk rfl (k := s.b) (by rw [hr.1]; omega)
  have hpm := pow_le64 (j := m) (by omega)
  have hrow := Lib.hid (sw_rows hk (by rw [hr.1]; exact h) x1 x2 l1 l2)
  obtain ⟨sa, sb, sc, sd⟩ := s
  obtain ⟨ha, hb, hc, hd⟩ := h
  dsimp only at ha hb hc hd hrow x1 x2 ⊢
  have hcell : cellF xs sb sd = cellF xs sa sc ∧ cellF xs sa sd = (!cellF xs sa sc) ∧ cellF xs sb sc = (!cellF xs sa sc) := by
    simp only [swOk, Bool.and_eq_true, beq_iff_eq, bne_iff_ne, ne_eq] at hs
    refine ⟨hs.1.1, ?_, ?_⟩
    · revert hs; cases cellF xs sa sd <;> cases cellF xs sa sc <;> simp
    · revert hs; cases cellF xs sb sc <;> cases cellF xs sa sc <;> simp
  have hra : ∀ j, cellF xs sa j = r1.testBit j := fun j => by simp only [cellF, x1, Int.toNat_natCast]
  have hrb : ∀ j, cellF xs sb j = r2.testBit j := fun j => by simp only [cellF, x2, Int.toNat_natCast]
  obtain ⟨p1, -, p3, p4⟩ := put_sw (r := r1) (c := sc) (d := sd) (by omega) (by omega) (by omega) (by omega) (cellF xs sa sc) (hra sc).symm (by rw [← hra]; exact hcell.2.1)
  obtain ⟨q1, q2, q3, q4⟩ := put_sw (r := r2) (c := sc) (d := sd) (by omega) (by omega) (by omega) (by omega) (!cellF xs sa sc) (by rw [← hrb]; exact hcell.2.2) (by rw [← hrb, Bool.not_not]; exact hcell.1)
  rw [Bool.not_not] at q2 q3
  have hget := l11Get_c m sa sc n c xs A
  generalize cellF xs sa sc = x at p1 p3 p4 q1 q2 q3 q4 hget
  have p1' := Lib.hid p1; have q2' := Lib.hid q2; have x1' := Lib.hid x1; have x2' := Lib.hid x2; have hget' := Lib.hid hget
  clear p1 q1 q2 x1 x2 hra hrb hcell hs hk hget
  have hP := ((Blk.new w 27 #[.int .i64 (m : Int), .slice A n c]).alloc (.cells #[.int .i64 sa, .int .i64 sb, .int .i64 sc, .int .i64 sd] 68)).alloc (.cells #[.int .i64 0, .slice none 0 0] 27)
  have hQ := (heap_at2 w (.cells #[.int .i64 (m : Int), .slice A n c] 27) 68 #[.int .i64 sa, .int .i64 sb, .int .i64 sc, .int .i64 sd]).alloc (.cells #[.int .i64 0, .slice none 0 0] 27)
  have hR := Blk.new ((w.alloc (.cells #[.int .i64 (m : Int), .slice A n c] 27)).alloc (.cells #[.int .i64 sa, .int .i64 sb, .int .i64 sc, .int .i64 sd] 68)) 27 #[.int .i64 0, .slice none 0 0]
  have hB0 := lo_alloc (lo_alloc (lo_alloc (Below.refl w.heap.size w) (.cells #[.int .i64 (m : Int), .slice A n c] 27)) (.cells #[.int .i64 sa, .int .i64 sb, .int .i64 sc, .int .i64 sd] 68)) (.cells #[.int .i64 0, .slice none 0 0] 27)
  have hR0 := ((hr.alloc (.cells #[.int .i64 (m : Int), .slice A n c] 27)).alloc (.cells #[.int .i64 sa, .int .i64 sb, .int .i64 sc, .int .i64 sd] 68)).alloc (.cells #[.int .i64 0, .slice none 0 0] 27)
  rw [World.size_alloc, World.size_alloc] at hR
  go_enter Try.func57, Try.ntmps57
  go_wp2_with fail
  refine (l1Copy_c m _ _ _ xs _ hR0 (by omega) (by omega)).mono ?_
  rintro e w2 ⟨g, cc, rfl, hb2, ho2⟩
  obtain ⟨o, ho⟩ : ∃ o, o = w2.heap.size := ⟨_, rfl⟩
  have hO2 : Blk (w2.alloc (.cells #[.int .i64 (m : Int), .slice (some ⟨g, 0, none⟩) n cc] 27)) o 27 #[.int .i64 (m : Int), .slice (some ⟨g, 0, none⟩) n cc] := by rw [ho]; exact Blk.new _ _ _
  have kP := (hP.next hb2).alloc (.cells #[.int .i64 (m : Int), .slice (some ⟨g, 0, none⟩) n cc] 27)
  have kQ := (hQ.next hb2).alloc (.cells #[.int .i64 (m : Int), .slice (some ⟨g, 0, none⟩) n cc] 27)
  have kR := (hR.next hb2).alloc (.cells #[.int .i64 (m : Int), .slice (some ⟨g, 0, none⟩) n cc] 27)
  have hB2 := lo_alloc (lo_trans hB0 hb2) (.cells #[.int .i64 (m : Int), .slice (some ⟨g, 0, none⟩) n cc] 27)
  have hR2 := hr.next hB2
  have hI2 := ho2.alloc (.cells #[.int .i64 (m : Int), .slice (some ⟨g, 0, none⟩) n cc] 27)
  have hI3 : Own (w2.alloc (.cells #[.int .i64 (m : Int), .slice (some ⟨g, 0, none⟩) n cc] 27)) (w.heap.size + 3) (some ⟨g, 0, none⟩) n xs := hI2.mono (by simp)
  have hgo : g < o := by have := (ho2.cellSet (k := 0) (by omega)).2.1; omega
  have hgl := (hI3.cellSet (k := 0) (by omega)).1
  have ho' := Lib.hid ho
  clear hI2 ho2 hb2 hP hQ hR hB0 hR0
  have p0 := kP.cell 0
  have p1 := kP.cell 1
  have o0 := hO2.cell 0
  have o1 := hO2.cell 1
  have q0 := kQ.cell 0
  have q1 := kQ.cell 1
  have q2 := kQ.cell 2
  have q3 := kQ.cell 3
  go_wp2_with fail
  rw [← ho]
  clear ho
  generalize w2.alloc (.cells #[.int .i64 (m : Int), .slice (some ⟨g, 0, none⟩) n cc] 27) = w3 at hO2 kP kQ kR hB2 hR2 hI3 hgo hgl p0 p1 o0 o1 q0 q1 q2 q3 ⊢
  refine (hget'.out w3 hR2 hk'.out (by omega) (by omega)).mono ?_
  rintro e w4 ⟨rfl, hb4⟩
  clear p0 p1 o0 o1 q0 q1 q2 q3 hR2 kP
  have hO := hO2.next hb4
  have hQ := kQ.next hb4
  have hR := kR.next hb4
  have hB := lo_trans hB2 hb4
  have hI := hI3.next hb4
  clear hO2 kQ kR hB2 hI3 hb4
  have hx : (b01 x == 0) = (!x) := by cases x <;> rfl
  have hx' : (b01 x == 0) = true ∨ (b01 x == 0) = false := by cases x <;> simp [b01]
  have o0 := hO.cell 0
  have o1 := hO.cell 1
  have q0 := hQ.cell 0
  have q1 := hQ.cell 1
  have q2 := hQ.cell 2
  have q3 := hQ.cell 3
  clear hx'
  go_wp2_with fail
  refine (l1PutO_c g n cc sa sc r1 _ (!x) xs m _ hI (by omega) (by omega) (by omega) x1'.out).mono ?_
  rintro e w5 ⟨rfl, hI5, hg5⟩
  have hxl := Lib.hid (show xs.length = n from hr.1)
  have g1 := Lib.hid (show (xs.set sa ((put r1 sc (!x) : Nat) : Int))[sb]?.getD 0 = (r2 : Int) by rw [set_get (by omega)]; exact x2'.out)
  have g2 := Lib.hid (show ((xs.set sa ((put r1 sc (!x) : Nat) : Int)).set sb ((put r2 sd (!x) : Nat) : Int))[sa]?.getD 0 = ((put r1 sc (!x) : Nat) : Int) by rw [set_get (by omega), set_get_same (by rw [hxl.out]; omega)])
  have g3 := Lib.hid (show (((xs.set sa ((put r1 sc (!x) : Nat) : Int)).set sb ((put r2 sd (!x) : Nat) : Int)).set sa ((put (put r1 sc (!x)) sd x : Nat) : Int))[sb]?.getD 0 = ((put r2 sd (!x) : Nat) : Int) by
    rw [set_get (by omega), set_get_same (by rw [List.length_set, hxl.out]; omega)])
  clear o0 o1 q0 q1 q2 q3
  have hO5 := hO.grown hg5 (by intro e; injection e; omega)
  have hQ5 := hQ.grown hg5 (by intro e; injection e; omega)
  have hR5 := hR.grown hg5 (by intro e; injection e; omega)
  have hB5 := lo_grown hB hg5 (by rintro _ ⟨⟩; omega)
  clear hO hQ hR hB hg5 hI
  have o0 := hO5.cell 0
  have o1 := hO5.cell 1
  have q0 := hQ5.cell 0
  have q1 := hQ5.cell 1
  have q2 := hQ5.cell 2
  have q3 := hQ5.cell 3
  go_wp2_with fail
  refine (l1PutO_c g n cc sb sd r2 _ (!x) _ m _ hI5 (by omega) (by omega) (by omega) g1.out).mono ?_
  rintro e w6 ⟨rfl, hI6, hg6⟩
  clear o0 o1 q0 q1 q2 q3
  have hO6 := hO5.grown hg6 (by intro e; injection e; omega)
  have hQ6 := hQ5.grown hg6 (by intro e; injection e; omega)
  have hR6 := hR5.grown hg6 (by intro e; injection e; omega)
  have hB6 := lo_grown hB5 hg6 (by rintro _ ⟨⟩; omega)
  clear hO5 hQ5 hR5 hB5 hg6 hI5
  have o0 := hO6.cell 0
  have o1 := hO6.cell 1
  have q0 := hQ6.cell 0
  have q1 := hQ6.cell 1
  have q2 := hQ6.cell 2
  have q3 := hQ6.cell 3
  go_wp2_with fail
  refine (l1PutO_c g n cc sa sd (put r1 sc (!x)) _ x _ m _ hI6 (by omega) (by omega) (by omega) g2.out).mono ?_
  rintro e w7 ⟨rfl, hI7, hg7⟩
  clear o0 o1 q0 q1 q2 q3
  have hO7 := hO6.grown hg7 (by intro e; injection e; omega)
  have hQ7 := hQ6.grown hg7 (by intro e; injection e; omega)
  have hR7 := hR6.grown hg7 (by intro e; injection e; omega)
  have hB7 := lo_grown hB6 hg7 (by rintro _ ⟨⟩; omega)
  clear hO6 hQ6 hR6 hB6 hg7 hI6
  have o0 := hO7.cell 0
  have o1 := hO7.cell 1
  have q0 := hQ7.cell 0
  have q1 := hQ7.cell 1
  have q2 := hQ7.cell 2
  have q3 := hQ7.cell 3
  go_wp2_with fail
  refine (l1PutO_c g n cc sb sc (put r2 sd (!x)) _ x _ m _ hI7 (by omega) (by omega) (by omega) g3.out).mono ?_
  rintro e w8 ⟨rfl, hI8, hg8⟩
  clear o0 o1 q0 q1 q2 q3
  have hO8 := hO7.grown hg8 (by intro e; injection e; omega)
  have hR8 := hR7.grown hg8 (by intro e; injection e; omega)
  have hB8 := lo_grown hB7 hg8 (by rintro _ ⟨⟩; omega)
  clear hO7 hQ7 hR7 hB7 hg8 hI7
  have o0 := hO8.cell 0
  have o1 := hO8.cell 1
  rw [p1'.out, q2'.out, set4 (by omega), hrow.out] at hI8
  have hz6 := hR8.lt
  have r0 := hR8.cell 0
  have r1 := hR8.cell 1
  have f0 := hR8.frozen 0
  have f1 := hR8.frozen 1
  obtain ⟨s0, s1, hB9⟩ := fin_cells1 (w := w) (r := 1 + 1) hR8 hB8 (.int .i64 (m : Int)) (.slice (some ⟨g, 0, none⟩) n cc)
  have s0' := Lib.hid s0; have s1' := Lib.hid s1; clear s0 s1
  go_wp2
  refine bodyPost_ret (v := .agg #[.int .i64 m, .slice (some ⟨g, 0, none⟩) n cc]) (by simp [results, Try.results57, go_sem, s0'.out, s1'.out]) rfl ⟨g, cc, rfl, hB9, ?_⟩
  exact ((hI8.far_lo (p := ⟨w.heap.size + 1 + 1, 0, none⟩) (by simp) _).far_lo (p := ⟨w.heap.size + 1 + 1, 1, none⟩) (by simp) _).mono (by omega)
end Go.Proofs.Ytjogfeichnkffaa
