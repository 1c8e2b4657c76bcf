
/- Walks: the reference's neighbors of an image. -/
import Derived.Test.YtjogfeichnkffaaSpc
import Derived.Test.YtjogfeichnkffaaNb
namespace Go.Proofs.Ytjogfeichnkffaa
open Go.RowKit
set_option maxRecDepth 100000

theorem rowIW {w : World} {base base' c c' : Nat} {A B : Option Addr} {es : List El} {ss : List Sw} (h : BufI w base A c es) (k : BufW w base' B c' ss) : ∀ g, B = some ⟨g, 0, none⟩ → rowA A ≠ some g := by
  rintro g rfl e
  rcases h.form with ⟨rfl, _⟩ | ⟨g1, cs, rfl, _, hb, _⟩
  · simp [rowA] at e
  · simp [rowA] at e
    subst e
    rcases k.form with ⟨e', _⟩ | ⟨g2, cs', e', _, hb', _⟩
    · cases e'
    · cases e'
      unfold Blk at hb hb'
      rw [hb] at hb'
      injection hb' with hb'
      injection hb' with _ h2
      exact absurd h2 (by decide)

theorem step_append_run {P : Program} {ops : Array Oper} {o : Oper} {a : Act} {K : Act → World → Prop} {Q : Exit → Act → World → Prop} {E : Prop} {w w' : World} (hgd : o.guard = none) (s x : Operand) (t : TypeId)
    (ho : o.op = .call { callee := .builtin .append, args := #[s, x], argTypes := #[t, t] }) (v v' xv : Value) (hs : a.eval s = v) (hx : a.eval x = xv)
    (hrun : (Builtin.append_ #[t, t] o.type #[v, xv]).run P w = .ok v' w') (h : K (a.put o.dst v') w') :
    if Region.wanted o (yielded ops a.tmps) = true then Oper.wp P o a w K Q else E := by
  have hw : Region.wanted o (yielded ops a.tmps) = true := by simp [Region.wanted, hgd]
  rw [if_pos hw]
  unfold Oper.wp execOp
  simp only [ho, resolve, invoke, builtin, Sem.run_bind, Sem.run_pure, Result.andThen_ok, List.map_toArray, List.map_cons, List.map_nil, hs, hx, hrun]
  exact h

theorem OwnI.app {W W2 W3 : World} {base n c' cB cr gr gB : Nat} {m : Int} {R : Option Addr} {es : List El} {zs : List Int} {bx : Obj} (hI : OwnI W base R c' es)
    (hbW : base ≤ W.heap.size) (hb2 : Below W.heap.size W W2) (hown2 : Own W2 W.heap.size (some ⟨gr, 0, none⟩) n zs) (hn : 0 < n)
    (hB3 : BufI W3 base (some ⟨gB, 0, none⟩) cB (es ++ [⟨m, some ⟨gr, 0, none⟩, cr, zs⟩])) (hg3 : (W2.alloc bx).grownBy W3 (rowA R)) (hat : R = some ⟨gB, 0, none⟩ ∨ gB = (W2.alloc bx).heap.size) :
    OwnI W3 base (some ⟨gB, 0, none⟩) cB (es ++ [⟨m, some ⟨gr, 0, none⟩, cr, zs⟩]) := by
  have hbx := lo_alloc hb2 bx
  have hIx := hI.next hbx
  obtain ⟨_, eg, hgr1, hgr2⟩ := (hown2.blk).resolve_left (fun h => by omega)
  cases eg
  have hlen : zs.length = n := hown2.1
  have hlt : ∀ e ∈ es, ∀ g, e.A = some (⟨g, 0, none⟩ : Addr) → g < W.heap.size := by
    intro e he g eA
    rcases (hI.rows e he).1.blk with ⟨h0, _⟩ | ⟨g', e', _, h'⟩
    · have := (hI.rows e he).2; omega
    · rw [eA] at e'; cases e'; exact h'
  refine OwnI.snoc hIx ?_ (by show 0 < zs.length; omega) ?_ ?_ hB3 hg3 hat
  · show Own (W2.alloc bx) base (some ⟨gr, 0, none⟩) zs.length zs
    rw [hlen]
    exact (hown2.alloc bx).mono hbW
  · intro hm
    obtain ⟨e, he, eA⟩ := List.mem_map.1 hm
    have := hlt e he gr eA
    omega
  · rintro rfl
    have := (hI.buf.lt gr rfl).2
    omega

theorem infoImg' : ((Try.prog.info? 27).map fun i => (i.zero, i.size, i.bytes)) = some (some (.agg #[.int .i64 0, .slice none 0 0]), 2, 32) := infoImg

set_option maxHeartbeats 8000000 in
theorem spec_ImageNeighbors_c (W : Int) (A : Option Addr) (n c : Nat) (xs : List Int) (w : World) (hr : Rd w A n xs) (hn : n ≤ 1073741824) :
    Calls Try.prog 46 #[.agg #[.int .i64 W, .slice A n c]] w fun e w' => ∃ R c' es, e = .returned (.slice R es.length c') ∧ Below w.heap.size w w' ∧ OwnI w' w.heap.size R c' es ∧ Els es W (nbrsW W xs) := by
  have hB00 : BufI ((w.alloc (.cells #[.int .i64 W, .slice A n c] 27)).alloc (.cells #[] 27)) (w.heap.size + 1) (some ⟨w.heap.size + 1, 0, none⟩) 0 [] :=
    ⟨rfl, .inr ⟨w.heap.size + 1, 0, #[], rfl, Nat.le_refl _, heap_at2 w (.cells #[.int .i64 W, .slice A n c] 27) 27 #[], Nat.le_refl _, Nat.zero_le _, rfl, rfl⟩⟩
  have hI00 : OwnI ((w.alloc (.cells #[.int .i64 W, .slice A n c] 27)).alloc (.cells #[] 27)) (w.heap.size + 1) (some ⟨w.heap.size + 1, 0, none⟩) 0 [] := ⟨hB00, fun _ h => (by cases h), List.nodup_nil, by simp⟩
  have hx00 := (Blk.new w 27 #[.int .i64 W, .slice A n c]).alloc (.cells #[] 27)
  have hL00 : Below w.heap.size w ((w.alloc (.cells #[.int .i64 W, .slice A n c] 27)).alloc (.cells #[] 27)) := by (repeat (first | exact Below.refl _ _ | assumption | refine lo_alloc ?_ _ | refine lo_set ?_ (by simp; try omega) _ | refine Below.drew ?_ | refine below_drewN ?_ _ | refine lo_trans ?_ (by assumption) | refine lo_wr ?_ (by assumption) (by omega)))
  have hR00 := (hr.alloc (.cells #[.int .i64 W, .slice A n c] 27)).alloc (.cells #[] 27)
  have hs00 : ((w.alloc (.cells #[.int .i64 W, .slice A n c] 27)).alloc (.cells #[] 27)).heap.size = w.heap.size + 2 := by simp
  clear hB00
  obtain ⟨i0, hi0, hz0, hz1, hz2⟩ := info_parts infoImg'
  go_enter Try.func46, Try.ntmps46
  go_wp2_with fail
  generalize (w.alloc (.cells #[.int .i64 W, .slice A n c] 27)).alloc (.cells #[] 27) = w1 at hI00 hx00 hL00 hR00 hs00 ⊢
  refine (spec_SwitchList_c W A n c xs _ hR00 hn).mono ?_
  rintro e w2 ⟨L, cL, rfl, hb2, hL2⟩
  have hI2 := hI00.next hb2
  have hx2 := hx00.next hb2
  have hW2 := lo_trans hL00 hb2
  have hs2 := hb2.size
  obtain ⟨ss, hss⟩ : ∃ ss, ss = swListW W xs := ⟨_, rfl⟩
  rw [← hss] at hL2 ⊢
  have hss' := Lib.hid hss
  clear hss hI00 hx00 hL00 hR00 hb2
  have hlen : ss.length < 1600 := by
    rw [hss'.out, swListW]
    split
    · rename_i h
      obtain ⟨m, rfl⟩ := Int.eq_ofNat_of_zero_le (show 0 ≤ W by have := okB_bd h; omega)
      exact swList_len h
    · simp
  go_wp2
  go_loopw [3, 5] (fun v i wr => ∃ (k : Nat) (R : Option Addr) (c' : Nat) (es : List El), k ≤ ss.length ∧ i = .int .i64 k ∧ v = .slice R es.length c' ∧ OwnI wr (w.heap.size + 1) R c' es ∧ Hid (Els es W ((ss.take k).map (swDo W.toNat xs))) ∧
      Below w.heap.size w wr ∧ Blk wr w.heap.size 27 #[.int .i64 W, .slice A n c] ∧ BufW wr w1.heap.size L cL ss ∧ w1.heap.size ≤ wr.heap.size) (fun _ i _ => ss.length - (intOf i).toNat)
  case atStart => exact ⟨0, _, _, [], Nat.zero_le _, rfl, rfl, hI2, Lib.hid (by simpa using Els.nil_ W), hW2, hx2, hL2, hs2⟩
  case round =>
    clear hI2 hW2 hx2 hL2 hs2
    obtain ⟨k, R, c', es, hk, rfl, rfl, hI, hE, hW, hx, hL, hsz⟩ := hrel
    by_cases hlt : k < ss.length
    · have hmem : ss[k] ∈ swListW W xs := by rw [← hss'.out]; exact List.getElem_mem _
      have hok : Hid (okB W xs = true) := Lib.hid (by
        cases h : okB W xs with
        | true => rfl
        | false => simp [swListW, h] at hmem)
      obtain ⟨m, hm⟩ := Int.eq_ofNat_of_zero_le (show 0 ≤ W by have := okB_bd hok.out; omega)
      have hbd := okB_bd hok.out
      rw [hr.1] at hbd
      have hsm := mem_swList.1 (show ss[k] ∈ swList m xs by have h := hmem; rw [swListW, hok.out, if_pos rfl, hm] at h; exact h)
      have helen : es.length = k := by rw [hE.out.len]; simp; omega
      subst hm
      have hget : ss[k]? = some ss[k] := List.getElem?_eq_getElem hlt
      have hN : Hid (Els es (m : Int) ((ss.take k).map (swDo m xs)) ∧ (ss.take (k + 1)).map (swDo m xs) = (ss.take k).map (swDo m xs) ++ [swDo m xs ss[k]]) := Lib.hid ⟨hE.out, by rw [List.take_succ_eq_append_getElem hlt, List.map_append]; rfl⟩
      generalize ss[k] = s at hmem hsm hget hN
      obtain ⟨gL, rfl⟩ := hL.addr.resolve_left (by rintro rfl; rcases hL.2 with ⟨_, h0⟩ | ⟨g, _, _, e, _⟩; omega; cases e)
      obtain ⟨b, ol, e1, hbl, hcl⟩ := hL.rd.2 (by omega)
      cases e1
      obtain ⟨l0, l1, l2, l3⟩ := hcl k s hget
      simp only [Nat.zero_add, Nat.mul_comm 4 k] at l0 l1 l2 l3
      have x0 := hx.cell 0
      have x1 := hx.cell 1
      have hRw := hr.next hW
      have hk' := Lib.hid hok.out
      have hki : (k : Int) < (ss.length : Int) := by omega
      have hki0 : (0 : Int) ≤ (k : Int) := by omega
      have hzx := hx.lt
      have helen2 : es.length + 1 ≤ 1048576 := by omega
      have helen' := Lib.hid helen
      have hget' := Lib.hid hget
      clear hcl hget hmem helen
      rw [hr.1] at hsm
      go_wp2
      go_region_held3 (fun w' => w'.cell? ⟨w.heap.size, 0, none⟩ = some (.int .i64 (m : Int)) ∧ w'.cell? ⟨w.heap.size, 1, none⟩ = some (.slice A n c) ∧ w'.cell? ⟨gL, k * 4, none⟩ = some (.int .i64 (s.a : Int)) ∧
          w'.cell? ⟨gL, k * 4 + 1, none⟩ = some (.int .i64 (s.b : Int)) ∧ w'.cell? ⟨gL, k * 4 + 2, none⟩ = some (.int .i64 (s.c : Int)) ∧ w'.cell? ⟨gL, k * 4 + 3, none⟩ = some (.int .i64 (s.d : Int)))
        (first
          | go_keep
          | exact ⟨(hx.drew.next hb3).cell 0, (hx.drew.next hb3).cell 1, (hb3.cell (p := ⟨gL, k * 4, none⟩) hbl).trans l0, (hb3.cell (p := ⟨gL, k * 4 + 1, none⟩) hbl).trans l1, (hb3.cell (p := ⟨gL, k * 4 + 2, none⟩) hbl).trans l2, (hb3.cell (p := ⟨gL, k * 4 + 3, none⟩) hbl).trans l3⟩
          | (obtain ⟨b5, o5, e5, _, hc5⟩ := hL5.rd.2 (by omega); cases e5; obtain ⟨z0, z1, z2, z3⟩ := hc5 k s hget'.out; simp only [Nat.zero_add, Nat.mul_comm 4 k] at z0 z1 z2 z3; exact ⟨hx5.cell 0, hx5.cell 1, z0, z1, z2, z3⟩))
        (first
          | (go_at_call 57; refine (l11Do_c m n c A xs s _ hRw.drew hk'.out hsm.1 hsm.2).mono ?_; rintro e w3 ⟨gr, cr, rfl, hb3, hown3⟩; obtain ⟨gB, cB, w5, hap, hB5, hg5, hat⟩ := appendI_run (w3.alloc (.cells #[.int .i64 (m : Int), .slice (some ⟨gr, 0, none⟩) n cr] 27)) (w.heap.size + 1) R c' es.length es rfl (hI.buf.next (lo_alloc (lo_trans (Below.drew (Below.refl _ _)) hb3) _)) w3.heap.size 1 ⟨m, some ⟨gr, 0, none⟩, cr, swDo m xs s⟩ (by have := Blk.new w3 27 #[.int .i64 (m : Int), .slice (some ⟨gr, 0, none⟩) n cr]; simpa [swDo_len, hr.1] using this) helen2 (by have := hb3.size; simp at this ⊢; omega) 37; have hx5 := ((hx.drew.next hb3).alloc (.cells #[.int .i64 (m : Int), .slice (some ⟨gr, 0, none⟩) n cr] 27)).grown hg5 (rowA_ne hI.buf (by omega)); have hL5 := (BufW.next (w := w3) (w' := w3.alloc (.cells #[.int .i64 (m : Int), .slice (some ⟨gr, 0, none⟩) n cr] 27)) (BufW.next (w := wr) hL (lo_trans (Below.drew (Below.refl _ _)) hb3)) (lo_alloc (Below.refl _ _) _)).kept hg5 (rowIW hI.buf hL))
          | (refine step_append_run rfl (.tmp 15) (.tmp 22) 37 rfl _ _ _ rfl rfl hap ?_))
      have hb4 := lo_trans (Below.drew (Below.refl wr.heap.size wr)) hb3
      have hI5 := OwnI.app hI (by omega) hb4 hown3 (by omega) hB5 hg5 hat
      have hrw := fun g hg => (rowA_lt hI.buf g hg).1
      have hW5 := lo_grown (lo_alloc (lo_trans hW hb4) (.cells #[.int .i64 (m : Int), .slice (some ⟨gr, 0, none⟩) n cr] 27)) hg5 (fun g hg => by have := hrw g hg; omega)
      have hs5 : w1.heap.size ≤ w5.heap.size := by
        have h1 := hb4.size
        have h2 := hg5.size
        simp at h2; omega
      clear hap
      go_wp2
      go_roundw
      case rel =>
        refine ⟨k + 1, _, cB, _, by omega, by go_num, by simp, hI5, Lib.hid ?_, hW5, hx5, hL5, hs5⟩
        rw [Int.toNat_natCast, hN.out.2]
        exact hN.out.1.snoc _ _ _
      case measure => simp [intOf]; omega
    · have hke : Hid (Els es W (nbrsW W xs)) := Lib.hid (by
        have h := hE.out
        rw [List.take_of_length_le (by omega), hss'.out] at h
        rw [nbrsW]
        cases hk : okB W xs with
        | false => simpa [swListW, hk] using h
        | true => simpa [swListW, hk, nbrs] using h)
      go_wp2
      go_ret
      exact ⟨R, c', es, rfl, hW, hI.mono (by omega), hke.out⟩
end Go.Proofs.Ytjogfeichnkffaa
