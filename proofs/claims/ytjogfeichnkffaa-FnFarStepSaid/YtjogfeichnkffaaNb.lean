
/- Walks: the neighbors of an image. -/
import Derived.Test.YtjogfeichnkffaaSi
namespace Go.Proofs.Ytjogfeichnkffaa
open Go.RowKit Go.Shelf
attribute [local go_sem] Oper.semAt_some

theorem Blk.cells_ne {W : World} {g r : Nat} {t : TypeId} {cs : Array Value} (h : Blk W g t cs) (hr : ∃ o : Obj, W.heap[r]? = some o ∧ o.isCells = false) : g ≠ r := by
  rintro rfl
  obtain ⟨o, ho, hc⟩ := hr
  unfold Blk at h
  rw [h] at ho; cases ho; cases hc
theorem Blk.ownF {W W' : World} {g : Nat} {t : TypeId} {cs : Array Value} {row : Option Nat} (h : Blk W g t cs) (hg : W.grownBy W' row) (hr : ∀ r, row = some r → ∃ o : Obj, W.heap[r]? = some o ∧ o.isCells = false) : Blk W' g t cs :=
  h.grown hg (fun e => h.cells_ne (hr g e.symm) rfl)
theorem Own.ownF {W W' : World} {lo n : Nat} {A : Option Addr} {xs : List Int} {row : Option Nat} (h : Own W lo A n xs) (hg : W.grownBy W' row) (hr : ∀ r, row = some r → ∃ o : Obj, W.heap[r]? = some o ∧ o.isCells = false) : Own W' lo A n xs :=
  ⟨h.1, fun hn => by obtain ⟨g, cs, e, h1, h2, h3⟩ := h.2 hn; exact ⟨g, cs, e, h1, h2.ownF hg hr, h3⟩⟩
theorem OwnI.ownF {W W' : World} {lo c : Nat} {A : Option Addr} {es : List El} {row : Option Nat} (h : OwnI W lo A c es) (hg : W.grownBy W' row) (hr : ∀ r, row = some r → ∃ o : Obj, W.heap[r]? = some o ∧ o.isCells = false) : OwnI W' lo A c es := by
  refine ⟨h.buf.kept hg ?_, fun e he => ⟨(h.rows e he).1.ownF hg hr, (h.rows e he).2⟩, h.far, h.apart⟩
  rintro g rfl e
  rcases h.buf.form with ⟨e', _⟩ | ⟨g', cs, e', _, hb, _⟩
  · cases e'
  · cases e'
    exact hb.cells_ne (hr _ e) rfl
theorem OwnI.grown {W W' : World} {lo c : Nat} {A : Option Addr} {es : List El} {row : Option Nat} (h : OwnI W lo A c es) (hg : W.grownBy W' row) (hr : ∀ g, row = some g → g < lo) : OwnI W' lo A c es := by
  refine ⟨h.buf.kept hg ?_, fun e he => ⟨(h.rows e he).1.grown_lo hg hr, (h.rows e he).2⟩, h.far, h.apart⟩
  rintro g rfl e
  have h1 := h.buf.lt g rfl
  have h2 := hr g e
  omega
theorem OwnI.mono {W : World} {lo lo' c : Nat} {A : Option Addr} {es : List El} (h : OwnI W lo A c es) (hl : lo' ≤ lo) : OwnI W lo' A c es := by
  refine ⟨?_, fun e he => ⟨(h.rows e he).1.mono hl, (h.rows e he).2⟩, h.far, h.apart⟩
  have hb := h.buf
  refine ⟨hb.1, ?_⟩
  rcases hb.2 with h1 | ⟨g, cap, cur, h1, h2, h3⟩
  · exact .inl h1
  · exact .inr ⟨g, cap, cur, h1, by omega, h3⟩

theorem appendI_run (w : World) (base : Nat) (A : Option Addr) (c n : Nat) (es : List El) (hn : n = es.length) (hb : BufI w base A c es) (b d : Nat) (e : El) (hr : Blk w b 27 #[.int .i64 e.W, .slice e.A e.xs.length e.c]) (hlen : n + 1 ≤ 1048576) (hbase : base ≤ w.heap.size) (ty : TypeId) :
    ∃ g c' w', (Builtin.append_ #[37, 37] ty #[.slice A n c, .slice (some ⟨b, 0, none⟩) 1 d]).run Try.prog w = .ok (.slice (some ⟨g, 0, none⟩) (n + 1) c') w' ∧ BufI w' base (some ⟨g, 0, none⟩) c' (es ++ [e]) ∧ w.grownBy w' (rowA A) ∧ (A = some ⟨g, 0, none⟩ ∨ g = w.heap.size) := by
  obtain ⟨i0, hi, hz0, hz1, hz2⟩ := info_parts infoImg
  subst hn
  obtain ⟨g, cap, w', hrun, hown, hg, hat, _⟩ := run_append_lies (P := Try.prog) w 37 ty base 27 i0 (.agg #[.int .i64 0, .slice none 0 0]) 2 32 Try.underlying37 hi hz0 hz1 hz2 rfl (by decide) _ es.length _ hb ⟨b, 0, none⟩ 1 d e.cells rfl
    (by
      intro j u hu
      rw [Go.WideShapes.add_plain, hr.cell, Nat.zero_add]
      simpa [El.cells] using hu) (fun u hu => elCells_one [e] u (by simpa [elCells] using hu)) (by omega) (by unfold maxLen; omega) (by omega) hbase _ rfl
  refine ⟨g, cap, w', hrun, ?_, by cases A <;> exact hg, ?_⟩
  · unfold BufI
    rw [List.length_append, elCells_snoc]
    exact hown
  · rcases hat with h1 | h1
    · cases A with
      | none => simp [Value.ownBlock] at h1
      | some a =>
        rcases hb.form with ⟨e, _⟩ | ⟨g', cs, e, _⟩
        · cases e
        · injection e with e; subst e
          simp [Value.ownBlock] at h1
          exact .inl (by rw [h1])
    · exact .inr h1

theorem stepIn_append {F : Fence} {n : Nat} {P : Program} {ops : Array Oper} {o : Oper} {a : Act} {K : Act → World → Prop} {Q : Exit → Act → World → Prop} {E : Prop} {w w' : World} (hgd : o.guard = none) (s x : Operand) (t : TypeId)
    (ho : o.op = .call { callee := .builtin .append, args := #[s, x], argTypes := #[t, t] }) (v v' xv : Value) (hs : a.eval s = v) (hx : a.eval x = xv)
    (hrun : (Builtin.append_ #[t, t] o.type #[v, xv]).run P w = .ok v' w') (h : K (a.put o.dst v') w') :
    if Region.wanted o (yielded ops a.tmps) = true then Oper.wpIn F n P o a w K Q else E := by
  have hw : Region.wanted o (yielded ops a.tmps) = true := by simp [Region.wanted, hgd]
  rw [if_pos hw]
  refine ⟨fun f hf => ?_, ?_⟩
  · simp [Oper.about, ho, resolve, Target.leads] at hf
  · rw [Oper.semAt_eq _ _ _ (by rw [ho]; simp)]
    unfold execOp
    simp only [ho, resolve, invoke, builtin, Sem.run_bind, Sem.run_pure, Result.andThen_ok, List.map_toArray, List.map_cons, List.map_nil, hs, hx, hrun]
    exact h

/-- the images es are of width W and have the rows ys -/
def Els (es : List El) (W : Int) (ys : List (List Int)) : Prop := es.map (·.xs) = ys ∧ ∀ e ∈ es, e.W = W
theorem Els.nil_ (W : Int) : Els [] W [] := ⟨rfl, fun _ h => by cases h⟩
theorem Els.len {es : List El} {W : Int} {ys : List (List Int)} (h : Els es W ys) : es.length = ys.length := by rw [← h.1, List.length_map]
theorem Els.snoc {es : List El} {W : Int} {ys : List (List Int)} (h : Els es W ys) (A : Option Addr) (c : Nat) (y : List Int) : Els (es ++ [⟨W, A, c, y⟩]) W (ys ++ [y]) :=
  ⟨by rw [List.map_append, h.1]; rfl, fun e he => by
    rcases List.mem_append.1 he with he | he
    · exact h.2 e he
    · obtain rfl := List.mem_singleton.1 he
      rfl⟩

/-- block o holds a slice of images of one's own -/
def NInv (W' : World) (o base m : Nat) (ys : List (List Int)) : Prop :=
  ∃ R c' es, Blk W' o 37 #[.slice R es.length c'] ∧ OwnI W' base R c' es ∧ Els es (m : Int) ys
def swDones (m : Nat) (xs : List Int) (pre : List (VSw m xs)) : List (List Int) := pre.map (fun s => swDo m xs s.1)
theorem swDones_snoc {m : Nat} {xs : List Int} (pre : List (VSw m xs)) (x : VSw m xs) : swDones m xs (pre ++ [x]) = swDones m xs pre ++ [swDo m xs x.1] := by simp [swDones]
/-- the neighbors, none of an invalid image -/
def nbrsW (W : Int) (xs : List Int) : List (List Int) := if okB W xs then nbrs W.toNat xs else []

theorem rowA_ne {w : World} {base c o : Nat} {A : Option Addr} {es : List El} (h : BufI w base A c es) (ho : o < base) : some o ≠ rowA A := by
  rcases h.addr with rfl | ⟨g, rfl⟩
  · simp [rowA]
  · have := h.lt g rfl
    simp [rowA]; omega
theorem rowA_lt {w : World} {base c : Nat} {A : Option Addr} {es : List El} (h : BufI w base A c es) : ∀ g, rowA A = some g → base ≤ g ∧ g < w.heap.size := by
  intro g hg
  rcases h.addr with rfl | ⟨g', rfl⟩
  · simp [rowA] at hg
  · simp [rowA] at hg
    subst hg
    exact h.lt _ rfl
theorem rowA_cells {w : World} {base c : Nat} {A : Option Addr} {es : List El} (h : BufI w base A c es) : ∀ g, rowA A = some g → ∃ t cs, Blk w g t cs := by
  intro g hg
  rcases h.form with ⟨rfl, _⟩ | ⟨g', cs, rfl, _, hb, _⟩
  · simp [rowA] at hg
  · simp [rowA] at hg
    subst hg
    exact ⟨_, _, hb⟩
theorem keepsO_grown {W W' : World} {row : Option Nat} (h : W.grownBy W' row) (hr : ∀ g, row = some g → ∃ t cs, Blk W g t cs) : KeepsOthers W W' :=
  ⟨h.size, fun k o hk hc => (h.block k (Array.getElem?_eq_some_iff.1 hk).1 (fun e => by
    obtain ⟨t, cs, hb⟩ := hr k e.symm
    exact hb.cells_ne ⟨o, hk, hc⟩ rfl)).trans hk⟩

theorem NInv.step {W W2 W3 : World} {o base m n c' cB cr gr gB : Nat} {R : Option Addr} {es : List El} {ys : List (List Int)} {zs : List Int} {bx : Obj} (hO : Blk W o 37 #[.slice R es.length c']) (hI : OwnI W base R c' es) (hE : Els es (m : Int) ys)
    (ho : o < base) (hbW : base ≤ W.heap.size) (hb2 : Below W.heap.size W W2) (hown2 : Own W2 W.heap.size (some ⟨gr, 0, none⟩) n zs) (hn : 0 < n)
    (hB3 : BufI W3 base (some ⟨gB, 0, none⟩) cB (es ++ [⟨m, some ⟨gr, 0, none⟩, cr, zs⟩])) (hg3 : (W2.alloc bx).grownBy W3 (rowA R)) (hat : R = some ⟨gB, 0, none⟩ ∨ gB = (W2.alloc bx).heap.size) :
    NInv (W3.setCell ⟨o, 0, none⟩ (.slice (some ⟨gB, 0, none⟩) (es.length + 1) cB)) o base m (ys ++ [zs]) ∧ KeepsOthers W (W3.setCell ⟨o, 0, none⟩ (.slice (some ⟨gB, 0, none⟩) (es.length + 1) cB)) ∧
      (∀ b, b < base → b ≠ o → KB b W (W3.setCell ⟨o, 0, none⟩ (.slice (some ⟨gB, 0, none⟩) (es.length + 1) cB))) ∧ W.heap.size ≤ (W3.setCell ⟨o, 0, none⟩ (.slice (some ⟨gB, 0, none⟩) (es.length + 1) cB)).heap.size ∧
      (∀ {a : World}, Below a.heap.size a W → a.heap.size ≤ o → Below a.heap.size a (W3.setCell ⟨o, 0, none⟩ (.slice (some ⟨gB, 0, none⟩) (es.length + 1) cB))) := by
  have hbx := lo_alloc hb2 bx
  have hIx := hI.next hbx
  have hz2 := hbx.size
  obtain ⟨_, eg, hgr1, hgr2⟩ := (hown2.blk).resolve_left (fun h => by omega)
  cases eg
  have hO3 := (hO.next hbx).grown hg3 (rowA_ne hI.buf ho)
  have hlen : zs.length = n := hown2.1
  have hlt : ∀ e ∈ es, ∀ g, e.A = some (⟨g, 0, none⟩ : Addr) → g < W.heap.size := by
    intro e he g eA
    rcases (hI.rows e he).1.blk with ⟨h0, _⟩ | ⟨g', e', _, h'⟩
    · have := (hI.rows e he).2; omega
    · rw [eA] at e'; cases e'; exact h'
  have hsn : OwnI W3 base (some ⟨gB, 0, none⟩) cB (es ++ [⟨m, some ⟨gr, 0, none⟩, cr, zs⟩]) := by
    refine OwnI.snoc hIx ?_ (by show 0 < zs.length; omega) ?_ ?_ hB3 hg3 hat
    · show Own (W2.alloc bx) base (some ⟨gr, 0, none⟩) zs.length zs
      rw [hlen]
      exact (hown2.alloc bx).mono hbW
    · intro hm
      obtain ⟨e, he, eA⟩ := List.mem_map.1 hm
      have := hlt e he gr eA
      omega
    · rintro rfl
      have := (hI.buf.lt gr rfl).2
      omega
  have hrow : ∀ g, rowA R = some g → base ≤ g := fun g h => (rowA_lt hI.buf g h).1
  have hkb : ∀ b, b < base → b ≠ o → KB b W (W3.setCell ⟨o, 0, none⟩ (.slice (some ⟨gB, 0, none⟩) (es.length + 1) cB)) := by
    intro b hb hne
    have h1 : KB b W (W2.alloc bx) := KB.of_below hbx (by omega)
    have h2 : KB b (W2.alloc bx) W3 := KB.of_grown hg3 (by omega) (fun e => by have := hrow b e; omega)
    exact h1.trans (h2.trans (Below.heap_setCell _ _ _ _ (by simpa using hne)))
  refine ⟨⟨some ⟨gB, 0, none⟩, cB, _, ?_, hsn.grown (grown_set (g := o) (k := 0) _) (by rintro g ⟨⟩; exact ho), hE.snoc _ _ _⟩, ?_, hkb, ?_, ?_⟩
  · have := hO3.set_ 0 (.slice (some ⟨gB, 0, none⟩) (es.length + 1) cB)
    simpa using this
  · have h1 : KeepsOthers W (W2.alloc bx) := keeps_below hbx
    have h2 : KeepsOthers (W2.alloc bx) W3 := keepsO_grown hg3 (rowA_cells hIx.buf)
    have h3 : KeepsOthers W3 (W3.setCell ⟨o, 0, none⟩ (.slice (some ⟨gB, 0, none⟩) (es.length + 1) cB)) := keepsO_grown (grown_set (g := o) (k := 0) _) (by rintro g ⟨⟩; exact ⟨_, _, hO3⟩)
    exact (h1.trans h2).trans h3
  · rw [size_setCell]
    exact Nat.le_trans hz2 hg3.size
  · intro a hB hao
    exact lo_set (lo_grown (lo_trans hB hbx) hg3 (fun g hg => by have := hrow g hg; omega)) (p := ⟨o, 0, none⟩) hao _

set_option maxRecDepth 100000 in
set_option maxHeartbeats 4000000 in
theorem impl_ImageNeighbors_c (W : Int) (A : Option Addr) (n c : Nat) (xs : List Int) (w : World) (hr : Rd w A n xs) (hn : n ≤ 1073741824) :
    Calls Try.prog 19 #[.agg #[.int .i64 W, .slice A n c]] w fun e w' => ∃ R c' es, e = .returned (.slice R es.length c') ∧ Below w.heap.size w w' ∧ OwnI w' w.heap.size R c' es ∧ Els es W (nbrsW W xs) := by
  cases hk : okB W xs with
  | false =>
    have hT := Lib.hid (show nbrsW W xs = [] by simp [nbrsW, hk])
    go_enter Try.func19, Try.ntmps19
    go_wp2_with fail
    refine (impl_ImageValid_c _ _ _ _ xs _ (hr.alloc _) (by omega)).mono ?_
    rw [hk]
    rintro e w1 ⟨rfl, hb1⟩
    go_wp2
    go_ret
    exact ⟨none, 0, [], rfl, by (repeat (first | exact Below.refl _ _ | assumption | refine lo_alloc ?_ _ | refine lo_set ?_ (by simp; try omega) _ | refine Below.drew ?_ | refine below_drewN ?_ _ | refine lo_trans ?_ (by assumption) | refine lo_wr ?_ (by assumption) (by omega))), OwnI.nil_ _ _, by rw [hT.out]; exact Els.nil_ _⟩
  | true =>
    have hbd := okB_bd hk
    rw [hr.1] at hbd
    obtain ⟨m, rfl⟩ := Int.eq_ofNat_of_zero_le (show 0 ≤ W by omega)
    have hk' := Lib.hid hk
    obtain ⟨bA, off, rfl, hbA, _⟩ := hr.2 (by omega)
    refine (callsIn_wide (n := 3)).1 ?_
    refine callsIn_of_wp_marks Try.func19 rfl trivial ?_ rfl
    simp only [Try.ntmps19, List.size_toArray, List.length_cons, List.length_nil, Nat.reduceAdd, Nat.reduceSub, Array.replicate_succ, Array.replicate_zero, List.push_toArray, List.append_toArray, List.nil_append, List.cons_append]
    gi_wp2_with fail
    refine ⟨trivial, ?_⟩
    gi_at_call 26
    refine (callsIn_wide.2 (impl_ImageValid_c _ _ _ _ xs _ (hr.alloc _) (by omega))).mono ?_
    rw [hk]
    rintro e w1 ⟨rfl, hb1⟩
    clear hk
    have hKa : Blk w1 w.heap.size _ _ := (Blk.new w 27 #[.int .i64 (m : Int), .slice (some ⟨bA, off, none⟩) n c]).next hb1
    have hB1 : Below w.heap.size w w1 := by (repeat (first | exact Below.refl _ _ | assumption | refine lo_alloc ?_ _ | refine lo_set ?_ (by simp; try omega) _ | refine Below.drew ?_ | refine below_drewN ?_ _ | refine lo_trans ?_ (by assumption) | refine lo_wr ?_ (by assumption) (by omega)))
    have a0 := hKa.cell 0
    have a1 := hKa.cell 1
    have hz1 := hKa.lt
    clear hb1
    gi_wp2_with (refine ⟨trivial, ?_⟩; gi_at_call 40; refine (switches_in Fence.wide _ trivial rfl _ _ _).mono ?_; rintro e w3 ⟨rfl, rfl⟩)
    have hO0 := Blk.new w1 37 #[.slice none 0 0]
    have hO := hO0.alloc (.cells #[.int .i64 (m : Int), .slice (some ⟨bA, off, none⟩) n c] 27)
    have hS := Blk.new (w1.alloc (.cells #[.slice none 0 0] 37)) 27 #[.int .i64 (m : Int), .slice (some ⟨bA, off, none⟩) n c]
    rw [World.size_alloc] at hS
    have hKa4 := (hKa.alloc (.cells #[.slice none 0 0] 37)).alloc (.cells #[.int .i64 (m : Int), .slice (some ⟨bA, off, none⟩) n c] 27)
    have hB4 := lo_alloc (lo_alloc hB1 (.cells #[.slice none 0 0] 37)) (.cells #[.int .i64 (m : Int), .slice (some ⟨bA, off, none⟩) n c] 27)
    have hsz : ((w1.alloc (.cells #[.slice none 0 0] 37)).alloc (.cells #[.int .i64 (m : Int), .slice (some ⟨bA, off, none⟩) n c] 27)).heap.size = w1.heap.size + 2 := by simp
    clear a0 a1 hKa hO0 hB1
    generalize (w1.alloc (.cells #[.slice none 0 0] 37)).alloc (.cells #[.int .i64 (m : Int), .slice (some ⟨bA, off, none⟩) n c] 27) = w4 at hO hS hKa4 hB4 hsz ⊢
    obtain ⟨o, ho⟩ : ∃ o, o = w1.heap.size := ⟨_, rfl⟩
    rw [← ho] at hO hS hsz hz1 ⊢
    clear ho
    have hR4 := hr.next hB4
    have hbA4 : bA < w4.heap.size := by have := hB4.size; omega
    have hN0 : NInv w4 o w4.heap.size m [] := ⟨none, 0, [], hO, OwnI.nil_ _ _, Els.nil_ _⟩
    refine wpIn_rangeFunc_ownH rfl (by omega) (gf := 52) (lb := #[.pointer (some ⟨o + 1, 0, none⟩)]) rfl trivial (enters_of Try.func52 (by kernel_rfl) rfl)
      (switches_stops _ (by omega) (o + 1) n m c bA off xs hk'.out w4 hR4 hbA4 (by omega) hS) KB2.trans (KB2.put (by omega) hbA4) (Below.refl _ _) (fun _ => rfl)
      (fun pre W => Below w.heap.size w W ∧ Blk W w.heap.size 27 #[.int .i64 (m : Int), .slice (some ⟨bA, off, none⟩) n c] ∧ NInv W o w4.heap.size m (swDones m xs pre) ∧ w4.heap.size ≤ W.heap.size)
      (fun _ _ _ => False)
      (OwnFrom.and (ownFrom_below (Nat.le_refl _) (by omega)) (OwnFrom.and (ownFrom_blk _ (by omega)) (OwnFrom.and
        (fun pre X Y row ⟨R, c', es, h1, h2, h3⟩ hg hr => ⟨R, c', es, h1.ownF hg (fun r e => (hr r e).2), h2.ownF hg (fun r e => (hr r e).2), h3⟩) (fun _ _ _ _ hs hg _ => Nat.le_trans hs hg.size))))
      (fun _ _ _ _ _ hs _ _ => hs)
      ⟨hB4, hKa4, hN0, Nat.le_refl _⟩
      (fun x a' W => ∃ g, w4.heap.size ≤ g ∧ Blk W g 68 #[.int .i64 (x.1.a : Int), .int .i64 (x.1.b : Int), .int .i64 (x.1.c : Int), .int .i64 (x.1.d : Int)] ∧
        a' = { tmps := #[.agg #[.int .i64 (m : Int), .slice (some ⟨bA, off, none⟩) n c], .pointer (some ⟨w.heap.size, 0, none⟩), .slice none 0 0, .pointer (some ⟨o, 0, none⟩), .pointer (some ⟨g, 0, none⟩),
          .agg #[.int .i64 (m : Int), .slice (some ⟨bA, off, none⟩) n c], .bool true, .bool false, .agg #[.int .i64 (m : Int), .slice (some ⟨bA, off, none⟩) n c], .func (.func 52) #[] #[.pointer (some ⟨o + 1, 0, none⟩)],
          .agg #[.int .i64 (x.1.a : Int), .int .i64 (x.1.b : Int), .int .i64 (x.1.c : Int), .int .i64 (x.1.d : Int)], undef, undef, undef, undef, undef, undef, undef], defers := [] })
      (fun x a' s X Y row ⟨g, h1, h2, h3⟩ hg hr => ⟨g, h1, h2.ownF hg (fun r e => (hr r e).2), h3⟩) ?assign ?body ?done ?stop
    case assign =>
      rintro l pre x W K ⟨hB, hK, hN, hsW⟩ hQ
      have hlt : o + 1 < W.heap.size ∧ bA < W.heap.size := ⟨by omega, by omega⟩
      dsimp only [swEnc]
      gi_wp2
      obtain ⟨R, c', es, h1, h2, h3⟩ := hN
      exact hQ _ _ ((keeps_below (lo_alloc (Below.refl _ _) _)).from _) (KB2.of_below (lo_alloc (Below.refl _ _) _) hlt.1 hlt.2) ⟨lo_alloc hB _, hK.alloc _, ⟨R, c', es, h1.alloc _, h2.alloc _, h3⟩, by simp; omega⟩
        ⟨W.heap.size, hsW, Blk.new W _ _, rfl⟩
    case body =>
      rintro l pre ⟨⟨sa, sb, sc, sd⟩, hs⟩ a' W hl _ ⟨hB, hK, hN, hsW⟩ ⟨g, hg, hX, rfl⟩ hlen
      dsimp only at hX ⊢
      obtain ⟨R, c', es, hO4, hI4, hE4⟩ := hN
      have hs' := Lib.hid hs
      have hsm := (mem_swList.1 hs).1
      dsimp only at hsm
      rw [hr.1] at hsm
      have a0 := hK.cell 0
      have a1 := hK.cell 1
      have o0 := hO4.cell 0
      have x0 := hX.cell 0
      have x1 := hX.cell 1
      have x2 := hX.cell 2
      have x3 := hX.cell 3
      have hRW := hr.next hB
      gi_wp2_with fail
      have hBW : W.heap.size ≤ W.heap.size := Nat.le_refl _
      refine wpIn_region_any (by kernel_rfl) ?_
      try (change wpAnyIn _ _ _ _ _ _ _ _ _ (World.drew _))
      iterate 7
        all_goals (first | refine wpAnyIn_ready (rs := [0, 1, 2]) (by decide +kernel) (by simp) ?_ | refine wpAnyIn_ready (rs := [1, 2]) (by decide +kernel) (by simp) ?_ | refine wpAnyIn_ready (rs := [0, 2]) (by decide +kernel) (by simp) ?_ | refine wpAnyIn_ready (rs := [0, 1]) (by decide +kernel) (by simp) ?_ | refine wpAnyIn_ready (rs := [0, 3]) (by decide +kernel) (by simp) ?_ | refine wpAnyIn_ready (rs := [0, 4]) (by decide +kernel) (by simp) ?_ | refine wpAnyIn_ready (rs := [0]) (by decide +kernel) (by simp) ?_ | refine wpAnyIn_ready (rs := [1]) (by decide +kernel) (by simp) ?_ | refine wpAnyIn_ready (rs := [2]) (by decide +kernel) (by simp) ?_ | refine wpAnyIn_ready (rs := [3]) (by decide +kernel) (by simp) ?_ | refine wpAnyIn_ready (rs := [4]) (by decide +kernel) (by simp) ?_ | refine wpAnyIn_ready (rs := [5]) (by decide +kernel) (by simp) ?_ | refine wpAnyIn_ready (rs := [6]) (by decide +kernel) (by simp) ?_)
        all_goals (first | refine AllReadyIn.cons rfl (fun KK hKK => ?_) (AllReadyIn.cons rfl (fun KK hKK => ?_) (AllReadyIn.cons rfl (fun KK hKK => ?_) AllReadyIn.nil)) | refine AllReadyIn.cons rfl (fun KK hKK => ?_) (AllReadyIn.cons rfl (fun KK hKK => ?_) AllReadyIn.nil) | refine AllReadyIn.cons rfl (fun KK hKK => ?_) AllReadyIn.nil)
        all_goals (first | refine stepIn_append (o := ⟨some 16, _, _, _, _, _⟩) rfl (.tmp 11) (.tmp 15) 37 rfl _ _ _ rfl rfl hap ?_ | (go_simp; try (gi_wp2_with (refine ⟨trivial, ?_⟩; gi_at_call 41; refine (CallsIn.inRound l (callsIn_wide.2 (switched_c m n c (some ⟨bA, off, none⟩) xs ⟨sa, sb, sc, sd⟩ _ hRW.drew hk'.out hsm))).mono ?_; rintro e W2 ⟨gr, cr, rfl, hb2, hown2⟩; have O0 := (hO4.drew.next hb2).cell 0; obtain ⟨gB, cB, W3, hap, hB3, hg3, hat⟩ := appendI_run (W2.alloc (.cells #[.int .i64 (m : Int), .slice (some ⟨gr, 0, none⟩) n cr] 27)) w4.heap.size R c' es.length es rfl (hI4.buf.next (lo_alloc (lo_trans (Below.drew (Below.refl _ _)) hb2) _)) W2.heap.size 1 ⟨m, some ⟨gr, 0, none⟩, cr, swDo m xs ⟨sa, sb, sc, sd⟩⟩ (by have := Blk.new W2 27 #[.int .i64 (m : Int), .slice (some ⟨gr, 0, none⟩) n cr]; simpa [swDo_len, hr.1] using this) (by rw [hE4.len]; simp [swDones]; omega) (by have := hb2.size; simp at this ⊢; omega) 37; have O3 := ((hO4.drew.next hb2).alloc (.cells #[.int .i64 (m : Int), .slice (some ⟨gr, 0, none⟩) n cr] 27)).grown hg3 (rowA_ne hI4.buf (by omega)); have O1 := ((hO4.drew.next hb2).alloc (.cells #[.int .i64 (m : Int), .slice (some ⟨gr, 0, none⟩) n cr] 27)).cell 0; have o3 := O3.cell 0; have f3 := O3.frozen 0; clear O3))))
        all_goals (try (refine hKK _ _ ?_; clear hKK KK))
      all_goals refine wpAnyIn_done (by kernel_rfl) ?_ _
      all_goals gi_wp2
      all_goals
        obtain ⟨s1, s2, s3, s4, s5⟩ := NInv.step hO4 hI4 hE4 (by omega) hsW (lo_trans (Below.drew (Below.refl _ _)) hb2) hown2 (by omega) hB3 hg3 hat
        refine ⟨s2.from _, ⟨s3 (o + 1) (by omega) (by omega), s3 bA hbA4 (by omega)⟩, s5 hB (by omega), hK.kb (s3 w.heap.size (by omega) (by omega)), ?_, by omega⟩
        show NInv _ o w4.heap.size m (swDones m xs (pre ++ [VSw.of ⟨sa, sb, sc, sd⟩ hs'.out]))
        rw [swDones_snoc]
        exact s1
    case done =>
      rintro D ys W hD hys ⟨hB, hK, ⟨R, c', es, h1, h2, h3⟩, hsW⟩ hKD
      have hys' := Lib.hid hys
      clear hys
      have o0 := h1.cell 0
      have hT := Lib.hid (show nbrsW (m : Int) xs = nbrs m xs by simp [nbrsW, hk'.out])
      gi_wp2
      refine ⟨by simp, .inl ⟨_, _, rfl, run_takeDeferred hKD, ?_⟩⟩
      refine ⟨.slice R es.length c', by simp [results, Try.results19, go_sem], R, c', es, rfl, ?_, ?_, ?_⟩
      · exact hB.trans (belowK_b (w := w) (Nat.le_refl _) _ D _ _ (by omega) hKD rfl rfl)
      · exact (h2.ownF (grownBy_putObj' _ D (.deferred none)) (fun r e => by cases e; exact ⟨_, hKD, rfl⟩)).mono (by omega)
      · rw [hT.out, ← swDo_eq_nbrs ys hys'.out]
        exact h3
    case stop =>
      rintro D cc pre W _ _ h _
      exact h.elim
end Go.Proofs.Ytjogfeichnkffaa
