
/- Walks: the list of an image's switches. -/
import Derived.Test.YtpcfijlhaakhpaaKl
import Derived.Test.YtpcfijlhaakhpaaKg
import Derived.OwnWalkIn
namespace Go.Proofs.Ytpcfijlhaakhpaa
open Go.RowKit Go.Shelf
attribute [local go_sem] Oper.semAt_some
set_option maxRecDepth 100000

theorem wplIn_appendR {F : Fence} {n : Nat} {P : Program} {w w' : World} {ops : Array Oper} {rest : List Oper} {o : Oper} {a : Act} {Q : Exit → Act → World → Prop}
    (hg : o.guard = none) (s x : Operand) (t : TypeId) (hop : o.op = Op.call { callee := Callee.builtin Builtin.append, args := #[s, x], argTypes := #[t, t] })
    (v v' xv : Value) (hs : a.eval s = v) (hx : a.eval x = xv) (hrun : (Builtin.append_ #[t, t] o.type #[v, xv]).run P w = .ok v' w')
    (hK : wpListIn F n P ops Q rest (a.put o.dst v') w') : wpListIn F n P ops Q (o :: rest) a w := by
  refine wpListIn_plain hg fun K hK' => ?_
  unfold Oper.wpIn
  refine ⟨?_, ?_⟩
  · simp [Oper.about, hop, resolve, Target.leads, Sem.run_pure]
  · rw [Oper.semAt_plain F _ _ (by rw [hop]; intro c hc'; cases hc')]
    simp [execOp, hop, resolve, invoke, builtin, hs, hx, hrun, Result.andThen]
    exact hK' _ _ hK
theorem appendW_run (w : World) (base : Nat) (A : Option Addr) (c n : Nat) (ss : List Sw) (hn : n = ss.length) (hb : BufW w base A c ss) (b d : Nat) (e : Sw) (hr : Blk w b 53 #[.int .i64 (e.a : Int), .int .i64 (e.b : Int), .int .i64 (e.c : Int), .int .i64 (e.d : Int)]) (hlen : n + 1 ≤ 1048576) (hbase : base ≤ w.heap.size) (ty : TypeId) :
    ∃ g c' w', (Builtin.append_ #[36, 36] ty #[.slice A n c, .slice (some ⟨b, 0, none⟩) 1 d]).run Try.prog w = .ok (.slice (some ⟨g, 0, none⟩) (n + 1) c') w' ∧ BufW w' base (some ⟨g, 0, none⟩) c' (ss ++ [e]) ∧ w.grownBy w' (rowA A) ∧ (A = some ⟨g, 0, none⟩ ∨ g = w.heap.size) := by
  obtain ⟨i0, hi, hz0, hz1, hz2⟩ := info_parts infoSw
  subst hn
  obtain ⟨g, cap, w', hrun, hown, hg, hat, _⟩ := run_append_lies (P := Try.prog) w 36 ty base 53 i0 (.agg #[.int .i64 0, .int .i64 0, .int .i64 0, .int .i64 0]) 4 32 Try.underlying36 hi hz0 hz1 hz2 rfl (by decide) _ ss.length _ hb ⟨b, 0, none⟩ 1 d e.cells rfl
    (by
      intro j u hu
      rw [Go.WideShapes.add_plain, hr.cell, Nat.zero_add]
      simpa [Sw.cells] using hu) (fun u hu => swCells_one [e] u (by simpa [swCells] using hu)) (by omega) (by unfold maxLen; omega) (by omega) hbase _ rfl
  refine ⟨g, cap, w', hrun, ?_, by cases A <;> exact hg, ?_⟩
  · unfold BufW
    rw [List.length_append, swCells_snoc]
    exact hown
  · rcases hat with h1 | h1
    · cases A with
      | none => simp [Value.ownBlock] at h1
      | some a =>
        rcases hb.form with ⟨e, _⟩ | ⟨g', cs, e, _⟩
        · cases e
        · injection e with e; subst e
          simp [Value.ownBlock] at h1
          exact .inl (by rw [h1])
    · exact .inr h1
theorem BufW.ownF {W W' : World} {lo c : Nat} {A : Option Addr} {ss : List Sw} {row : Option Nat} (h : BufW W lo A c ss) (hg : W.grownBy W' row) (hr : ∀ r, row = some r → ∃ o : Obj, W.heap[r]? = some o ∧ o.isCells = false) : BufW W' lo A c ss := by
  refine h.kept hg ?_
  rintro g rfl e
  rcases h.form with ⟨e', _⟩ | ⟨g', cs, e', _, hb, _⟩
  · cases e'
  · cases e'
    exact hb.cells_ne (hr g e) rfl
theorem rowAW_ne {w : World} {base c o : Nat} {A : Option Addr} {ss : List Sw} (h : BufW w base A c ss) (ho : o < base) : some o ≠ rowA A := by
  intro e
  have := h.row o e.symm
  omega
theorem rowAW_cells {w : World} {base c : Nat} {A : Option Addr} {ss : List Sw} (h : BufW w base A c ss) : ∀ g, rowA A = some g → ∃ t cs, Blk w g t cs := by
  intro g hg
  rcases h.form with ⟨rfl, _⟩ | ⟨g', cs, rfl, _, hb, _⟩
  · simp [rowA] at hg
  · simp [rowA] at hg
    subst hg
    exact ⟨_, _, hb⟩

/-- the list so far, in the box o -/
def LInv (W : World) (o base : Nat) (ss : List Sw) : Prop := ∃ R c', Blk W o 36 #[.slice R ss.length c'] ∧ BufW W base R c' ss

theorem LInv.step {W W3 : World} {o base gB cB c' : Nat} {R : Option Addr} {ss : List Sw} {x : Sw} {bx : Obj} (hO : Blk W o 36 #[.slice R ss.length c']) (hB : BufW W base R c' ss) (ho : o < base) (hbW : base ≤ W.heap.size)
    (hB3 : BufW W3 base (some ⟨gB, 0, none⟩) cB (ss ++ [x])) (hg3 : (W.alloc bx).grownBy W3 (rowA R)) :
    LInv (W3.setCell ⟨o, 0, none⟩ (.slice (some ⟨gB, 0, none⟩) (ss.length + 1) cB)) o base (ss ++ [x]) ∧ KeepsOthers W (W3.setCell ⟨o, 0, none⟩ (.slice (some ⟨gB, 0, none⟩) (ss.length + 1) cB)) ∧
      (∀ b, b < base → b ≠ o → KB b W (W3.setCell ⟨o, 0, none⟩ (.slice (some ⟨gB, 0, none⟩) (ss.length + 1) cB))) ∧ W.heap.size ≤ (W3.setCell ⟨o, 0, none⟩ (.slice (some ⟨gB, 0, none⟩) (ss.length + 1) cB)).heap.size ∧
      (∀ {a : World}, Below a.heap.size a W → a.heap.size ≤ o → Below a.heap.size a (W3.setCell ⟨o, 0, none⟩ (.slice (some ⟨gB, 0, none⟩) (ss.length + 1) cB))) := by
  have hbx := lo_alloc (Below.refl W.heap.size W) bx
  have hBx := hB.next hbx
  have hz2 := hbx.size
  have hO3 := (hO.next hbx).grown hg3 (rowAW_ne hB ho)
  have hrow : ∀ g, rowA R = some g → base ≤ g := fun g h => (hB.row g h).1
  refine ⟨⟨some ⟨gB, 0, none⟩, cB, ?_, ?_⟩, ?_, ?_, ?_, ?_⟩
  · have := hO3.set_ 0 (.slice (some ⟨gB, 0, none⟩) (ss.length + 1) cB)
    simpa using this
  · exact hB3.kept (grown_set (g := o) (k := 0) _) (by rintro g ⟨⟩ e; injection e with e; have := (hB3.lt _ rfl).1; omega)
  · have h1 : KeepsOthers W (W.alloc bx) := keeps_below hbx
    have h2 : KeepsOthers (W.alloc bx) W3 := keepsO_grown hg3 (rowAW_cells hBx)
    have h3 : KeepsOthers W3 (W3.setCell ⟨o, 0, none⟩ (.slice (some ⟨gB, 0, none⟩) (ss.length + 1) cB)) := keepsO_grown (grown_set (g := o) (k := 0) _) (by rintro g ⟨⟩; exact ⟨_, _, hO3⟩)
    exact (h1.trans h2).trans h3
  · intro b hb hne
    have h1 : KB b W (W.alloc bx) := KB.of_below hbx (by omega)
    have h2 : KB b (W.alloc bx) W3 := KB.of_grown hg3 (by omega) (fun e => by have := hrow b e; omega)
    exact h1.trans (h2.trans (Below.heap_setCell _ _ _ _ (by simpa using hne)))
  · rw [size_setCell]
    exact Nat.le_trans hz2 hg3.size
  · intro a hB hao
    exact lo_set (lo_grown (lo_trans hB hbx) hg3 (fun g hg => by have := hrow g hg; omega)) (p := ⟨o, 0, none⟩) hao _

set_option maxHeartbeats 4000000 in
theorem AppendSeq_in (B h m c b off : Nat) (xs : List Int) (hok : okB (m : Int) xs = true) (w : World) (hr0 : Rd w (some ⟨b, off, none⟩) h xs) (hb0 : b < w.heap.size) (hB0 : B < w.heap.size)
    (hk0 : Blk w B 25 #[.int .i64 (m : Int), .slice (some ⟨b, off, none⟩) h c]) :
    CallsIn Fence.wide 3 Try.prog 89 #[.slice none 0 0, .func (.func 62) #[] #[.pointer (some ⟨B, 0, none⟩)]] w fun e w' =>
      ∃ R c', e = .returned (.slice R (swList m xs).length c') ∧ Below w.heap.size w w' ∧ BufW w' w.heap.size R c' (swList m xs) := by
  refine callsIn_of_wp_marks Try.func89 rfl trivial ?_ rfl
  simp only [Try.ntmps89, List.size_toArray, List.length_cons, List.length_nil, Nat.reduceAdd, Nat.reduceSub, Array.replicate_succ, Array.replicate_zero, List.push_toArray, List.append_toArray, List.nil_append, List.cons_append]
  have hok' := Lib.hid hok; clear hok
  gi_wp2
  have hL1 := lo_alloc (Below.refl w.heap.size w) (.cells #[.slice none 0 0] 36)
  have hO1 := Blk.new w 36 #[.slice none 0 0]
  have hR1 := hr0.next hL1
  have hK1 := hk0.next hL1
  have hz1 : (w.alloc (.cells #[.slice none 0 0] 36)).heap.size = w.heap.size + 1 := by simp
  generalize w.alloc (.cells #[.slice none 0 0] 36) = w1 at hL1 hO1 hR1 hK1 hz1 ⊢
  obtain ⟨o, ho⟩ : ∃ o, o = w.heap.size := ⟨_, rfl⟩
  rw [← ho] at hb0 hB0 hO1 hz1 ⊢
  have ho1 : w.heap.size ≤ o := by omega
  clear ho
  have hN0 : LInv w1 o w1.heap.size [] := ⟨none, 0, hO1, ⟨rfl, .inl ⟨rfl, rfl⟩⟩⟩
  refine wpIn_rangeFunc_ownH rfl (by omega) (gf := 62) (lb := #[.pointer (some ⟨B, 0, none⟩)]) rfl trivial (enters_of Try.func62 (by kernel_rfl) rfl)
    (switches_stops _ (by omega) B h m c b off xs hok'.out w1 hR1 (by omega) (by omega) hK1) KB2.trans (KB2.put (by omega) (by omega)) (Below.refl _ _) (fun _ => rfl)
    (fun (pre : List (VSw m xs)) W => Below w.heap.size w W ∧ LInv W o w1.heap.size (pre.map (fun x : VSw m xs => x.1)) ∧ w1.heap.size ≤ W.heap.size)
    (fun _ _ _ => False)
    (OwnFrom.and (ownFrom_below (Nat.le_refl _) (by omega)) (OwnFrom.and
      (fun pre X Y row ⟨R, c', h1, h2⟩ hg hr => ⟨R, c', h1.ownF hg (fun r e => (hr r e).2), h2.ownF hg (fun r e => (hr r e).2)⟩) (fun _ _ _ _ hs hg _ => Nat.le_trans hs hg.size)))
    (fun _ _ _ _ _ hs _ _ => hs)
    ⟨hL1, hN0, Nat.le_refl _⟩
    (fun x a' W => ∃ g, w1.heap.size ≤ g ∧ Blk W g 53 #[.int .i64 (x.1.a : Int), .int .i64 (x.1.b : Int), .int .i64 (x.1.c : Int), .int .i64 (x.1.d : Int)] ∧
      a' = { tmps := #[.slice none 0 0, .func (.func 62) #[] #[.pointer (some ⟨B, 0, none⟩)], .pointer (some ⟨o, 0, none⟩), undef, .slice none 0 0, .pointer (some ⟨g, 0, none⟩), .func (.func 62) #[] #[.pointer (some ⟨B, 0, none⟩)],
        .agg #[.int .i64 (x.1.a : Int), .int .i64 (x.1.b : Int), .int .i64 (x.1.c : Int), .int .i64 (x.1.d : Int)], undef, undef, undef, undef, undef], defers := [] })
    (fun x a' s X Y row ⟨g, h1, h2, h3⟩ hg hr => ⟨g, h1, h2.ownF hg (fun r e => (hr r e).2), h3⟩) ?assign ?body ?done ?stop
  case assign =>
    rintro l pre x W K ⟨hB, hN, hsW⟩ hQ
    have hlt : B < W.heap.size ∧ b < W.heap.size := ⟨by omega, by omega⟩
    dsimp only [swEnc]
    gi_wp2
    obtain ⟨R, c', h1, h2⟩ := hN
    exact hQ _ _ ((keeps_below (lo_alloc (Below.refl _ _) _)).from _) (KB2.of_below (lo_alloc (Below.refl _ _) _) hlt.1 hlt.2) ⟨lo_alloc hB _, ⟨R, c', h1.alloc _, h2.next (lo_alloc (Below.refl _ _) _)⟩, by simp; omega⟩
      ⟨W.heap.size, hsW, Blk.new W _ _, rfl⟩
  case body =>
    rintro l pre ⟨⟨sa, sb, sc, sd⟩, hs⟩ a' W hl _ ⟨hB, hN, hsW⟩ ⟨g, hg, hX, rfl⟩ hlen
    dsimp only at hX ⊢
    obtain ⟨R, c', hO4, hI4⟩ := hN
    have hs' := Lib.hid hs
    have hss : (pre.map (fun x : VSw m xs => x.1)).length ≤ 1048575 := by simp; omega
    obtain ⟨ss, hsse⟩ : ∃ ss, ss = pre.map (fun x : VSw m xs => x.1) := ⟨_, rfl⟩
    rw [← hsse] at hO4 hI4 hss
    have hsse' := Lib.hid hsse
    clear hsse
    have hX0 : Blk (W.alloc (.cells #[.int .i64 (sa : Int), .int .i64 (sb : Int), .int .i64 (sc : Int), .int .i64 (sd : Int)] 53)) W.heap.size 53 #[.int .i64 (sa : Int), .int .i64 (sb : Int), .int .i64 (sc : Int), .int .i64 (sd : Int)] := Blk.new _ _ _
    obtain ⟨gB, cB, W3, hap, hB3, hg3, hat⟩ := appendW_run _ w1.heap.size R c' ss.length ss rfl (hI4.next (lo_alloc (Below.refl _ _) _)) W.heap.size 1 ⟨sa, sb, sc, sd⟩ hX0 (by omega) (by simp; omega) 36
    have hO5 := (hO4.alloc (.cells #[.int .i64 (sa : Int), .int .i64 (sb : Int), .int .i64 (sc : Int), .int .i64 (sd : Int)] 53)).grown hg3 (rowAW_ne hI4 (by omega))
    obtain ⟨s1, s2, s3, s4, s5⟩ := LInv.step hO4 hI4 (by omega) hsW hB3 hg3
    have s1' := Lib.hid s1
    have s3' := Lib.hid s3
    have s5' := Lib.hid (s5 hB (by omega))
    have hap' := Lib.hid hap
    clear s1 s3 s5 hap
    have f5 := hO5.frozen 0
    have o5 := hO5.cell 0
    have o0 := hO4.cell 0
    have x0 := hX.cell 0
    have x1 := hX.cell 1
    have x2 := hX.cell 2
    have x3 := hX.cell 3
    gi_wp2_with (gi_at_builtin; refine wplIn_appendR rfl _ _ 36 rfl _ _ _ rfl rfl hap'.out ?_)
    refine ⟨s2.from _, ⟨s3'.out B (by omega) (by omega), s3'.out b (by omega) (by omega)⟩, s5'.out, ?_, by omega⟩
    show LInv _ o w1.heap.size ((pre ++ [VSw.of ⟨sa, sb, sc, sd⟩ hs'.out]).map (fun x : VSw m xs => x.1))
    rw [List.map_append, ← hsse'.out]
    exact s1'.out
  case done =>
    rintro D ys W hD hys ⟨hB, ⟨R, c', h1, h2⟩, hsW⟩ hKD
    rw [hys] at h1 h2
    have hys' := Lib.hid hys
    clear hys
    have o0 := h1.cell 0
    gi_wp2
    refine ⟨by simp, .inl ⟨_, _, rfl, run_takeDeferred hKD, ?_⟩⟩
    refine ⟨.slice R (swList m xs).length c', by simp [results, Try.results89, go_sem], R, c', rfl, ?_, ?_⟩
    · exact hB.trans (belowK_b (w := w) (Nat.le_refl _) _ D _ _ (by omega) hKD rfl rfl)
    · exact (h2.ownF (grownBy_putObj' _ D (.deferred none)) (fun r e => by cases e; exact ⟨_, hKD, rfl⟩)).mono (by omega)
  case stop =>
    rintro D cc pre W _ _ h _
    exact h.elim

set_option maxHeartbeats 4000000 in
theorem Collect_in (B h m c b off : Nat) (xs : List Int) (hok : okB (m : Int) xs = true) (w : World) (hr0 : Rd w (some ⟨b, off, none⟩) h xs) (hb0 : b < w.heap.size) (hB0 : B < w.heap.size)
    (hk0 : Blk w B 25 #[.int .i64 (m : Int), .slice (some ⟨b, off, none⟩) h c]) :
    CallsIn Fence.wide 4 Try.prog 70 #[.func (.func 62) #[] #[.pointer (some ⟨B, 0, none⟩)]] w fun e w' =>
      ∃ R c', e = .returned (.slice R (swList m xs).length c') ∧ Below w.heap.size w w' ∧ BufW w' w.heap.size R c' (swList m xs) := by
  have hok' := Lib.hid hok; clear hok
  refine callsIn_of_wp Try.func70 rfl trivial ?_ rfl
  simp only [Try.ntmps70, List.size_toArray, List.length_cons, List.length_nil, Nat.reduceAdd, Nat.reduceSub, Array.replicate_succ, Array.replicate_zero, List.push_toArray, List.append_toArray, List.nil_append, List.cons_append]
  gi_wp2_with fail
  refine ⟨trivial, ?_⟩
  gi_at_call 89
  refine (AppendSeq_in B h m c b off xs hok'.out _ hr0 hb0 hB0 hk0).mono ?_
  rintro e w1 ⟨R, c', rfl, hb1, hB1⟩
  gi_wp2
  go_ret
  exact ⟨R, c', rfl, hb1, hB1⟩

set_option maxHeartbeats 4000000 in
theorem SwitchList_c (W : Int) (A : Option Addr) (n c : Nat) (xs : List Int) (w : World) (hr : Rd w A n xs) (hn : n ≤ 1073741824) :
    Calls Try.prog 40 #[.agg #[.int .i64 W, .slice A n c]] w fun e w' => ∃ R c', e = .returned (.slice R (swListW W xs).length c') ∧ Below w.heap.size w w' ∧ BufW w' w.heap.size R c' (swListW W xs) := by
  cases hk : okB W xs with
  | false =>
    have hT := Lib.hid (show swListW W xs = [] by simp [swListW, hk])
    go_enter Try.func40, Try.ntmps40
    go_wp2_with fail
    refine (impl_ImageValid_c _ _ _ _ xs _ (hr.alloc _) (by omega)).mono ?_
    rw [hk]
    rintro e w1 ⟨rfl, hb1⟩
    go_wp2
    go_ret
    rw [hT.out]
    exact ⟨none, 0, rfl, by (repeat (first | exact Below.refl _ _ | assumption | refine lo_alloc ?_ _ | refine lo_set ?_ (by simp; try omega) _ | refine Below.drew ?_ | refine below_drewN ?_ _ | refine lo_trans ?_ (by assumption) | refine lo_wr ?_ (by assumption) (by omega))), rfl, .inl ⟨rfl, rfl⟩⟩
  | true =>
    have hbd := okB_bd hk
    rw [hr.1] at hbd
    obtain ⟨m, rfl⟩ := Int.eq_ofNat_of_zero_le (show 0 ≤ W by omega)
    have hk' := Lib.hid hk
    have hT := Lib.hid (show swListW (m : Int) xs = swList m xs by simp [swListW, hk])
    obtain ⟨bA, off, rfl, hbA, _⟩ := hr.2 (by omega)
    refine (callsIn_wide (n := 5)).1 ?_
    refine callsIn_of_wp Try.func40 rfl trivial ?_ rfl
    simp only [Try.ntmps40, List.size_toArray, List.length_cons, List.length_nil, Nat.reduceAdd, Nat.reduceSub, Array.replicate_succ, Array.replicate_zero, List.push_toArray, List.append_toArray, List.nil_append, List.cons_append]
    gi_wp2_with fail
    refine ⟨trivial, ?_⟩
    gi_at_call 31
    refine (callsIn_wide.2 (impl_ImageValid_c _ _ _ _ xs _ (hr.alloc _) (by omega))).mono ?_
    rw [hk]
    rintro e w1 ⟨rfl, hb1⟩
    clear hk
    have hKa : Blk w1 w.heap.size _ _ := (Blk.new w 25 #[.int .i64 (m : Int), .slice (some ⟨bA, off, none⟩) n c]).next hb1
    have hB1 : Below w.heap.size w w1 := by (repeat (first | exact Below.refl _ _ | assumption | refine lo_alloc ?_ _ | refine lo_set ?_ (by simp; try omega) _ | refine Below.drew ?_ | refine below_drewN ?_ _ | refine lo_trans ?_ (by assumption) | refine lo_wr ?_ (by assumption) (by omega)))
    have a0 := hKa.cell 0
    have a1 := hKa.cell 1
    clear hb1
    gi_wp2_with (refine ⟨trivial, ?_⟩; gi_at_call 32; refine (switches_in Fence.wide _ trivial rfl _ _ _).mono ?_; rintro e w3 ⟨rfl, rfl⟩)
    have hB2 := lo_alloc hB1 (.cells #[.int .i64 (m : Int), .slice (some ⟨bA, off, none⟩) n c] 25)
    have hS := Blk.new w1 25 #[.int .i64 (m : Int), .slice (some ⟨bA, off, none⟩) n c]
    have hR2 := hr.next hB2
    have hs2 := hB2.size
    have hz2 := hS.lt
    refine ⟨trivial, ?_⟩
    gi_at_call 70
    refine (Collect_in w1.heap.size n m c bA off xs hk'.out _ hR2 (by omega) hz2 hS).mono ?_
    rintro e w4 ⟨R, c', rfl, hb4, hBf⟩
    gi_wp2
    go_ret
    rw [hT.out]
    exact ⟨R, c', rfl, lo_trans hB2 hb4, hBf.mono (by omega)⟩

/-- SwitchMany -/
def swManyW (W : Int) (xs : List Int) : Int := if okB W xs then ((swListW W xs).length : Int) else -1
set_option maxHeartbeats 4000000 in
theorem SwitchMany_c (W : Int) (A : Option Addr) (n c : Nat) (xs : List Int) (w : World) (hr : Rd w A n xs) (hn : n ≤ 1073741824) :
    Calls Try.prog 16 #[.agg #[.int .i64 W, .slice A n c]] w fun e w' => e = .returned (.int .i64 (swManyW W xs)) ∧ Below w.heap.size w w' := by
  have hL0 := lo_alloc (Below.refl w.heap.size w) (.cells #[.int .i64 W, .slice A n c] 25)
  have hA0 := Blk.new w 25 #[.int .i64 W, .slice A n c]
  go_enter Try.func16, Try.ntmps16
  go_wp2_with fail
  refine (impl_ImageValid_c _ _ _ _ xs _ (hr.alloc _) (by omega)).mono ?_
  cases hk : okB W xs with
  | false =>
    have hT := Lib.hid (show swManyW W xs = -1 by simp [swManyW, hk])
    rintro e w1 ⟨rfl, hb1⟩
    go_wp2
    go_ret
    exact ⟨by rw [hT.out]; rfl, lo_trans hL0 hb1⟩
  | true =>
    have hT := Lib.hid (show swManyW W xs = ((swListW W xs).length : Int) by simp [swManyW, hk])
    rintro e w1 ⟨rfl, hb1⟩
    have hL1 := lo_trans hL0 hb1
    have hA1 := hA0.next hb1
    clear hA0 hL0 hb1 hk
    have a0 := hA1.cell 0
    have a1 := hA1.cell 1
    go_wp2_with fail
    refine (SwitchList_c _ _ _ _ xs _ (hr.next hL1) hn).mono ?_
    rintro e w2 ⟨R, c', rfl, hb2, _⟩
    go_wp2
    go_ret
    exact ⟨by rw [hT.out]; rfl, lo_trans hL1 hb2⟩
end Go.Proofs.Ytpcfijlhaakhpaa
