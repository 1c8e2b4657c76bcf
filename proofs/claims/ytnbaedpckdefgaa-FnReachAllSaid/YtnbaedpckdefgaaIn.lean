
/- Walks: the iterator over all images with given sums: the function within it that calls itself. -/
import Derived.Test.YtnbaedpckdefgaaIm
import Derived.Test.YtnbaedpckdefgaaKl
import Derived.Sort.BigQuietIn
namespace Go.Proofs.Ytnbaedpckdefgaa
open Go.RowKit Go.Shelf
theorem wide_fn (f : FuncId) : Fence.wide.fn f = True := rfl
attribute [local go_sem] Oper.semAt_some wide_fn
set_option maxRecDepth 100000

theorem Own.keepsUp {W W' : World} {lo B n : Nat} {A : Option Addr} {xs : List Int} (h : Own W lo A n xs) (k : KeepsUp B W W') (hl : B ≤ lo) : Own W' lo A n xs :=
  ⟨h.1, fun hn => by
    obtain ⟨g, cs, e, h1, h2, h3⟩ := h.2 hn
    exact ⟨g, cs, e, h1, k.blk h2 (by omega), h3⟩⟩
theorem YieldAt.any {m m' l : Nat} {P : Program} {args : Array Value} {W : World} {R : Ending → World → Prop} (h : YieldAt Fence.wide m P l args W R) : YieldAt Fence.wide m' P l args W R := by
  obtain ⟨fn, tmps, assign, body, hy, hR⟩ := h
  exact ⟨fn, tmps, assign, body, hy, hR.1, fun c cs _ => hR.2 c cs (room_wide _)⟩

/-- the iterator's own memory: its boxes, its image, its list -/
structure FillSt (B y i l f gA gL h m cA cL lY bR : Nat) (x lf : List Int) (W : World) : Prop where
  by_ : Blk W y 40 #[.func (.yield lY) #[] #[]]
  bi : Blk W i 25 #[.int .i64 (m : Int), .slice (some ⟨gA, 0, none⟩) h cA]
  bl : Blk W l 23 #[.slice (some ⟨gL, 0, none⟩) m cL]
  bf : Blk W f 63 #[.func (.func 46) #[] #[.pointer (some ⟨bR, 0, none⟩), .pointer (some ⟨l, 0, none⟩), .pointer (some ⟨y, 0, none⟩), .pointer (some ⟨i, 0, none⟩), .pointer (some ⟨f, 0, none⟩)]]
  oA : Own W B (some ⟨gA, 0, none⟩) h x
  oL : Own W B (some ⟨gL, 0, none⟩) m lf
/-- its blocks are new and differ -/
structure FillNe (B y i l f gA gL bR gR : Nat) : Prop where
  up : B ≤ y ∧ B ≤ i ∧ B ≤ l ∧ B ≤ f ∧ B ≤ gA ∧ B ≤ gL ∧ bR < B ∧ gR < B
  ne : gA ≠ y ∧ gA ≠ i ∧ gA ≠ l ∧ gA ≠ f ∧ gL ≠ y ∧ gL ≠ i ∧ gL ≠ l ∧ gL ≠ f ∧ gA ≠ gL
section
variable {B y i l f gA gL h m cA cL lY bR gR : Nat} {x lf : List Int} {W W' : World}
theorem FillSt.keep (s : FillSt B y i l f gA gL h m cA cL lY bR x lf W) (ne : FillNe B y i l f gA gL bR gR) (k : KeepsUp B W W') : FillSt B y i l f gA gL h m cA cL lY bR x lf W' :=
  ⟨k.blk s.by_ ne.up.1, k.blk s.bi ne.up.2.1, k.blk s.bl ne.up.2.2.1, k.blk s.bf ne.up.2.2.2.1, s.oA.keepsUp k (Nat.le_refl _), s.oL.keepsUp k (Nat.le_refl _)⟩
theorem FillSt.setA (s : FillSt B y i l f gA gL h m cA cL lY bR x lf W) (ne : FillNe B y i l f gA gL bR gR) {k : Nat} (hk : k < h) (v : Int) : FillSt B y i l f gA gL h m cA cL lY bR (x.set k v) lf (W.setCell ⟨gA, k, none⟩ (.int .i64 v)) := by
  obtain ⟨g', e', _, _, _, _, ss⟩ := s.oA.at_ hk
  cases e'
  obtain ⟨n1, n2, n3, n4, n5, n6, n7, n8, n9⟩ := ne.ne
  exact ⟨s.by_.far (by simpa using Ne.symm n1) _, s.bi.far (by simpa using Ne.symm n2) _, s.bl.far (by simpa using Ne.symm n3) _, s.bf.far (by simpa using Ne.symm n4) _, ss v, s.oL.far (by rintro g ⟨⟩; simpa using Ne.symm n9) _⟩
theorem FillSt.takeA (s : FillSt B y i l f gA gL h m cA cL lY bR x lf W) (ne : FillNe B y i l f gA gL bR gR) {lf' : List Int} (hg : W.grownBy W' (some gL)) (ho : Own W' B (some ⟨gL, 0, none⟩) m lf') : FillSt B y i l f gA gL h m cA cL lY bR x lf' W' := by
  obtain ⟨n1, n2, n3, n4, n5, n6, n7, n8, n9⟩ := ne.ne
  exact ⟨s.by_.grown hg (fun e => by injection e with e; exact n5 e.symm), s.bi.grown hg (fun e => by injection e with e; exact n6 e.symm), s.bl.grown hg (fun e => by injection e with e; exact n7 e.symm), s.bf.grown hg (fun e => by injection e with e; exact n8 e.symm),
    s.oA.grown hg (by rintro g ⟨⟩ e; injection e with e; exact n9 e.symm), ho⟩
end

def imEnc (h m cA : Nat) (x : Nat × List Int) : Array Value := #[.agg #[.int .i64 (m : Int), .slice (some ⟨x.1, 0, none⟩) h cA]]
def imPre (B : Nat) (x : Nat × List Int) (W : World) : Prop := B ≤ x.1 ∧ Own W B (some ⟨x.1, 0, none⟩) x.2.length x.2
theorem imPre_keep (B : Nat) (x : Nat × List Int) (W W' : World) (h : imPre B x W) (k : KeepsUp B W W') : imPre B x W' := ⟨h.1, h.2.keepsUp k (Nat.le_refl _)⟩
/-- what the inner function leaves -/
structure FillFr (bR gR : Nat) (W W' : World) : Prop where
  kb : KB2 bR gR W W'
  sz : W.heap.size ≤ W'.heap.size
theorem FillFr.trans {bR gR : Nat} {X Y Z : World} (h : FillFr bR gR X Y) (k : FillFr bR gR Y Z) : FillFr bR gR X Z := ⟨h.kb.trans k.kb, Nat.le_trans h.sz k.sz⟩
theorem FillFr.refl (bR gR : Nat) (W : World) : FillFr bR gR W W := ⟨KB2.refl _ _ _, Nat.le_refl _⟩
theorem FillFr.grown {bR gR g B : Nat} {W W' : World} (hg : W.grownBy W' (some g)) (hB : B ≤ g) (h1 : bR < B) (h2 : gR < B) (hW : B ≤ W.heap.size) : FillFr bR gR W W' :=
  ⟨KB2.of_grown hg (by omega) (by omega) (fun e => by injection e; omega) (fun e => by injection e; omega), hg.size⟩

def withG (gA : Nat) (p : List Int) (L : List (List Int)) : List (Nat × List Int) := L.map (fun t => (gA, p ++ t))
theorem withG_append (gA : Nat) (p : List Int) (L M : List (List Int)) : withG gA p (L ++ M) = withG gA p L ++ withG gA p M := by simp [withG]
theorem withG_cons (gA : Nat) (p : List Int) (a : Int) (L : List (List Int)) : withG gA p (L.map (fun x => a :: x)) = withG gA (p ++ [a]) L := by simp [withG]
theorem withG_len (gA : Nat) (p : List Int) (L : List (List Int)) : (withG gA p L).length = L.length := by simp [withG]
theorem imgK_prefix (r : Int) (rs lf : List Int) {k k' : Nat} (h : k ≤ k') : imgK r rs lf k <+: imgK r rs lf k' := by
  obtain ⟨d, rfl⟩ := Nat.exists_eq_add_of_le h
  refine ⟨(List.range' k d).flatMap (fun row => if ((pop row : Nat) : Int) = r ∧ fitB row lf ((rs.length + 1 : Nat) : Int) = true then (imgL rs (takeL row lf)).map (fun x => (row : Int) :: x) else []), ?_⟩
  rw [imgK, imgK, List.range_eq_range', List.range_eq_range', ← List.flatMap_append]
  congr 1
  have := List.range'_append (s := 0) (m := k) (n := d) (step := 1)
  simpa using this
theorem withG_prefix {gA : Nat} {p : List Int} {L M : List (List Int)} (h : L <+: M) : withG gA p L <+: withG gA p M := by
  obtain ⟨t, rfl⟩ := h
  exact ⟨withG gA p t, (withG_append _ _ _ _).symm⟩

def FillPost (J Jx : List (Nat × List Int) → World → Prop) (B y i l f gA gL h m cA cL lY bR gR : Nat) (k : Nat) (x lf : List Int) (pre : List (Nat × List Int)) (L : List (List Int)) (W : World) (e : Ending) (W' : World) : Prop :=
  (e = .returned (.bool true) ∧ J (pre ++ withG gA (x.take k) L) W' ∧ (∃ x', x'.take k = x.take k ∧ FillSt B y i l f gA gL h m cA cL lY bR x' lf W') ∧ FillFr bR gR W W') ∨
  (e = .returned (.bool false) ∧ (∃ pre', pre' ≠ [] ∧ pre' <+: withG gA (x.take k) L ∧ Jx (pre ++ pre') W') ∧ (∃ x', FillSt B y i l f gA gL h m cA cL lY bR x' lf W') ∧ FillFr bR gR W W')

def sumsLe (k : Nat) (lf : List Int) : Prop := ∀ j, j < lf.length → 0 ≤ lf[j]?.getD 0 ∧ lf[j]?.getD 0 ≤ k
theorem sumsLe_mem {k : Nat} {lf : List Int} (h : sumsLe k lf) : ∀ v ∈ lf, 0 ≤ v ∧ v ≤ (k : Int) := by
  intro v hv
  obtain ⟨j, hj, rfl⟩ := List.mem_iff_getElem.1 hv
  have := h j hj
  rwa [List.getElem?_eq_getElem hj, Option.getD_some] at this
theorem sumsLe_take {k row : Nat} {lf : List Int} (h : sumsLe (k + 1) lf) (hf : fitB row lf ((k + 1 : Nat) : Int) = true) : sumsLe k (takeL row lf) := by
  intro j hj
  rw [takeL_len] at hj
  rw [takeL_get hj]
  have h1 := h j hj
  have h2 := fitB_iff.1 hf j hj
  cases hb : row.testBit j with
  | true => have := h2.1 hb; simp [b1]; omega
  | false => have := h2.2 hb; simp [b1]; omega

set_option maxHeartbeats 16000000 in
theorem fill_c {B y i l f gA gL h m cA cL lY bR gR offR cR : Nat} {rows : List Int} (hm1 : 1 ≤ m) (hm : m ≤ 6) (hh1 : 1 ≤ h) (hh : h ≤ 6) (ne : FillNe B y i l f gA gL bR gR) (N : Nat)
    (J Jx : List (Nat × List Int) → World → Prop) (hJ : Bears B J) (hJx : Bears B Jx)
    (hY : ∀ k pre x W1, J pre W1 → imPre B x W1 → pre.length < N → YieldAt Fence.wide k Try.prog lY (imEnc h m cA x) W1 fun e W' =>
      (e = .returned (.bool true) ∧ J (pre ++ [x]) W' ∧ KeepsUp B W1 W' ∧ KB2 bR gR W1 W') ∨ (e = .returned (.bool false) ∧ Jx (pre ++ [x]) W' ∧ KeepsUp B W1 W' ∧ KB2 bR gR W1 W')) :
    ∀ (k t : Nat) (x lf : List Int) (pre : List (Nat × List Int)) (W : World), t + k = h → FillSt B y i l f gA gL h m cA cL lY bR x lf W → Rd W (some ⟨gR, offR, none⟩) h rows → Blk W bR 23 #[.slice (some ⟨gR, offR, none⟩) h cR] → B ≤ W.heap.size → J pre W → sumsLe k lf →
      pre.length + (imgL (rows.drop t) lf).length ≤ N →
      Calls Try.prog 46 #[.int .i64 (t : Int), .pointer (some ⟨bR, 0, none⟩), .pointer (some ⟨l, 0, none⟩), .pointer (some ⟨y, 0, none⟩), .pointer (some ⟨i, 0, none⟩), .pointer (some ⟨f, 0, none⟩)] W
        (FillPost J Jx B y i l f gA gL h m cA cL lY bR gR t x lf pre (imgL (rows.drop t) lf) W) := by
  have hne' := Lib.hid ne
  have hup := ne.up
  clear ne
  intro k
  induction k with
  | zero =>
    intro t x lf pre W htk hS hR hbR hBW hJp hlf hN
    obtain rfl : t = h := by omega
    have hlen := Lib.hid hS.oL.1
    have hxl := Lib.hid hS.oA.1
    have hrl := Lib.hid hR.1
    have hz : lf.sum = 0 := sum_zero (fun j hj => by have := hlf j hj; omega)
    have hL := Lib.hid (show imgL (rows.drop t) lf = [[]] by rw [List.drop_of_length_le (by rw [hR.1]; exact Nat.le_refl _), imgL, hz, if_neg (by omega)])
    rw [hL.out] at hN
    have hlm := sumsLe_mem hlf
    refine (callsIn_wide (n := 2)).1 ?_
    refine callsIn_of_wp Try.func46 rfl trivial ?_ rfl
    simp only [Try.ntmps46, List.size_toArray, List.length_cons, List.length_nil, Nat.reduceAdd, Nat.reduceSub, Array.replicate_succ, Array.replicate_zero, List.push_toArray, List.append_toArray, List.nil_append, List.cons_append]
    have r0 := hbR.cell 0
    have l0 := hS.bl.cell 0
    have y0 := hS.by_.cell 0
    have i0 := hS.bi.cell 0
    have i1 := hS.bi.cell 1
    have hfull := Lib.hid (show x.take t = x by rw [List.take_of_length_le (by rw [hS.oA.1]; exact Nat.le_refl _)])
    obtain ⟨fn, tmps, assign, body, hy, hRd⟩ := hY 1 pre (gA, x) W hJp ⟨hup.2.2.2.2.1, by have := hS.oA; rw [← hS.oA.1] at this; exact this⟩ (by simp at hN; omega)
    have hy' : (Instr.yield lY #[.agg #[.int .i64 (m : Int), .slice (some ⟨gA, 0, none⟩) t cA]]).run Try.prog W = .ok (.round lY fn tmps assign body) W := hy
    clear hy
    gi_wp2_with (gi_at_call 47; refine (callsIn_wide.2 (total_c _ _ _ 0 lf _ hS.oL.rd (by omega) (by omega) (by omega) (fun v hv => by have := hlm v hv; omega))).mono ?_; rw [hz]; rintro e w2 ⟨rfl, rfl⟩)
    refine hRd.mono ?_
    rintro e W3 (⟨rfl, hJ3, hk3, hb3⟩ | ⟨rfl, hJx3, hk3, hb3⟩)
    · gi_wp2
      refine bodyPost_ret (v := .bool true) (by simp [results, Try.results46, go_sem]) rfl (.inl ⟨rfl, ?_, ⟨x, rfl, hS.keep hne'.out hk3⟩, hb3, hk3.size⟩)
      rw [hL.out, hfull.out]
      simpa [withG] using hJ3
    · gi_wp2
      refine bodyPost_ret (v := .bool false) (by simp [results, Try.results46, go_sem]) rfl (.inr ⟨rfl, ⟨[(gA, x)], by simp, ?_, hJx3⟩, ⟨x, hS.keep hne'.out hk3⟩, hb3, hk3.size⟩)
      rw [hL.out, hfull.out]
      simp [withG]
  | succ k ih =>
    intro t x lf pre W htk hS hR hbR hBW hJp hlf hN
    have hlt : t < h := by omega
    have hlen := Lib.hid hS.oL.1
    have hrl := Lib.hid hR.1
    have hdr := Lib.hid (show rows.drop t = (rows[t]?.getD 0) :: rows.drop (t + 1) by
      have : t < rows.length := by rw [hR.1]; exact hlt
      rw [List.drop_eq_getElem_cons this, List.getElem?_eq_getElem this]; rfl)
    have hrs := Lib.hid (show (rows.drop (t + 1)).length = k by rw [List.length_drop, hR.1]; omega)
    obtain ⟨r, hrv⟩ : ∃ r, Hid (r = rows[t]?.getD 0) := ⟨_, Lib.hid rfl⟩
    have hrc : ∀ {V : World}, Rd V (some ⟨gR, offR, none⟩) h rows → V.cell? ⟨gR, offR + t, none⟩ = some (.int .i64 r) := fun {V} hV => by
      obtain ⟨b', off', e', _, hc⟩ := hV.at_ hlt
      cases e'
      rw [hrv.out]
      exact hc
    rw [hdr.out, ← hrv.out] at hN ⊢
    obtain ⟨rs, hrsd⟩ : ∃ rs, Hid (rs = rows.drop (t + 1)) := ⟨_, Lib.hid rfl⟩
    rw [← hrsd.out] at hN hrs ⊢
    obtain ⟨M, hMd⟩ : ∃ M, Hid (M = 2 ^ m) := ⟨_, Lib.hid rfl⟩
    have hM64 : M ≤ 64 := by rw [hMd.out]; exact pow_le64 hm
    have hpm := pow_int (j := m) hm
    have hpw := Lib.hid (show ((2 : Int) ^ m) = (M : Int) by rw [hMd.out]; simp)
    have hAll := Lib.hid (show imgK r rs lf M = imgL (r :: rs) lf by rw [hMd.out, ← hS.oL.1]; exact imgK_all r rs lf)
    refine (callsIn_wide (n := 2)).1 ?_
    refine callsIn_of_wp Try.func46 rfl trivial ?_ rfl
    simp only [Try.ntmps46, List.size_toArray, List.length_cons, List.length_nil, Nat.reduceAdd, Nat.reduceSub, Array.replicate_succ, Array.replicate_zero, List.push_toArray, List.append_toArray, List.nil_append, List.cons_append]
    have r0 := hbR.cell 0
    have i0 := hS.bi.cell 0
    have i1 := hS.bi.cell 1
    have hth : ((t : Int) == (h : Int)) = false := by rw [beq_eq_false_iff_ne]; omega
    gi_wp2
    clear r0 i0 i1
    rw [hpw.out]
    clear hpm
    have hJ0 : J (pre ++ withG gA (x.take t) (imgK r rs lf 0)) W := by rw [imgK_zero]; simpa [withG] using hJp
    gi_loopw [25] (fun q wr => ∃ (q' : Nat) (x' : List Int), q' ≤ M ∧ q = .int .i64 q' ∧ Hid (x'.take t = x.take t) ∧ FillSt B y i l f gA gL h m cA cL lY bR x' lf wr ∧ J (pre ++ withG gA (x.take t) (imgK r rs lf q')) wr ∧ FillFr bR gR W wr) (fun q _ => M - (intOf q).toNat)
    case atStart => exact ⟨0, x, Nat.zero_le _, rfl, Lib.hid rfl, hS, hJ0, FillFr.refl _ _ _⟩
    case round =>
      clear hJ0 hJp hS
      obtain ⟨q, x', hq, rfl, hx', hS, hJq, hF⟩ := hrel
      have hRw := hR.kb (by omega) hF.kb.2
      have hbw := hbR.kb hF.kb.1
      by_cases hlq : q < M
      · have hq64 : q < 64 := by omega
        have r0 := hbw.cell 0
        have rc := hrc hRw
        have l0 := hS.bl.cell 0
        have hkk : ((k + 1 : Nat) : Int) = (h : Int) - (t : Int) := by omega
        have hbz : bR < wr.heap.size ∧ gR < wr.heap.size := ⟨by have := hF.sz; omega, by have := hF.sz; omega⟩
        have hadv : ∀ {V : World}, Below wr.heap.size wr V → FillSt B y i l f gA gL h m cA cL lY bR x' lf V ∧ J (pre ++ withG gA (x.take t) (imgK r rs lf q)) V ∧ FillFr bR gR W V := fun {V} hb =>
          ⟨hS.keep hne'.out (KeepsUp.of_below hb), hJ _ _ _ none hJq (grown_of_below hb none) (fun r e => by cases e), hF.trans ⟨KB2.of_below hb hbz.1 hbz.2, hb.size⟩⟩
        by_cases hpop : ((pop q : Nat) : Int) = r
        · have hp1 : (((pop q : Nat) : Int) != r) = false := by simp [hpop]
          cases hfit : fitB q lf ((k + 1 : Nat) : Int) with
          | false =>
            have hM := Lib.hid (imgK_miss (r := r) (rs := rs) (lf := lf) (k := q) (by rw [hrs.out, hfit]; simp))
            rw [hkk] at hfit
            clear hpop hkk
            gi_wp2
            gi_big_quiet_th (first
              | (gi_at_call 25; exact CallsIn.quiet_of_same (callsIn_wide.2 (still_of (ones_c q _ hq64))))
              | (gi_at_call 48; exact CallsIn.quiet_of_same (callsIn_wide.2 (still_of (fits_c _ _ _ _ _ lf _ (hS.oL.next (below_drewN (Below.refl _ _) _)).rd hm hq64)))))
            obtain ⟨hS2, hJ2, hF2⟩ := hadv (below_drewN (Below.refl wr.heap.size wr) nq)
            rw [← hM.out] at hJ2
            gi_wp2
            go_roundw
            case rel => exact ⟨q + 1, x', by omega, by go_num, hx', hS2, hJ2, hF2⟩
            case measure => simp [intOf]; omega
          | true =>
            have hH := Lib.hid (imgK_hit (r := r) (rs := rs) (lf := lf) (k := q) hpop (by rw [hrs.out]; exact hfit))
            have hle := Lib.hid (sumsLe_take hlf hfit)
            rw [hkk] at hfit
            clear hpop hkk
            gi_wp2
            gi_big_quiet_th (first
              | (gi_at_call 25; exact CallsIn.quiet_of_same (callsIn_wide.2 (still_of (ones_c q _ hq64))))
              | (gi_at_call 48; exact CallsIn.quiet_of_same (callsIn_wide.2 (still_of (fits_c _ _ _ _ _ lf _ (hS.oL.next (below_drewN (Below.refl _ _) _)).rd hm hq64)))))
            obtain ⟨hS2, hJ2, hF2⟩ := hadv (below_drewN (Below.refl wr.heap.size wr) nq)
            have hRw2 := hR.kb (by omega) hF2.kb.2
            have hbw2 := hbR.kb hF2.kb.1
            clear r0 rc l0 hadv hS hJq hF hbz hRw hbw
            generalize wr.drewN nq = W1 at hS2 hJ2 hF2 hRw2 hbw2 ⊢
            have i1 := hS2.bi.cell 1
            obtain ⟨g', e', _, _, cA0, fA0, _⟩ := hS2.oA.at_ hlt
            cases e'
            have hS3 := hS2.setA hne'.out hlt (q : Int)
            have hJ3 := hJ _ _ _ (some gA) hJ2 (grown_set (g := gA) (k := t) (.int .i64 (q : Int))) (fun r e => by cases e; exact hup.2.2.2.2.1)
            have hF3 := hF2.trans (FillFr.grown (grown_set (g := gA) (k := t) (.int .i64 (q : Int))) hup.2.2.2.2.1 hup.2.2.2.2.2.2.1 hup.2.2.2.2.2.2.2 (by have := hF2.sz; omega))
            have l0 := hS3.bl.cell 0
            gi_wp2_with fail
            clear i1 cA0 fA0 hS2 hJ2 hF2
            generalize W1.setCell ⟨gA, t, none⟩ (.int .i64 (q : Int)) = W2 at hS3 hJ3 hF3 l0 ⊢
            gi_at_call 49
            refine (callsIn_wide.2 (take_c B gL m cL q 1 lf _ hS3.oL hm hq64 (.inl rfl) (fun v hv => by have := sumsLe_mem hlf v hv; omega))).mono ?_
            rw [takeT_one]
            rintro e W3 ⟨rfl, hg3, ho3⟩
            have hS4 := hS3.takeA hne'.out hg3 ho3
            have hJ4 := hJ _ _ _ (some gL) hJ3 hg3 (fun r e => by cases e; exact hup.2.2.2.2.2.1)
            have hF4 := hF3.trans (FillFr.grown hg3 hup.2.2.2.2.2.1 hup.2.2.2.2.2.2.1 hup.2.2.2.2.2.2.2 (by have := hF3.sz; omega))
            clear hS3 hJ3 hF3 hg3 ho3 l0
            have f0 := hS4.bf.cell 0
            have hRw4 := hR.kb (by omega) hF4.kb.2
            have hbw4 := hbR.kb hF4.kb.1
            have hlq1 : (imgK r rs lf (q + 1)).length ≤ (imgL (r :: rs) lf).length := by rw [← hAll.out]; exact (imgK_prefix r rs lf (show q + 1 ≤ M by omega)).length_le
            have hih := ih (t + 1) (x'.set t (q : Int)) (takeL q lf) (pre ++ withG gA (x.take t) (imgK r rs lf q)) W3 (by omega) hS4 hRw4 hbw4 (by have := hF4.sz; omega) hJ4 hle.out (by
              rw [← hrsd.out, List.length_append, withG_len]
              rw [hH.out, List.length_append, List.length_map] at hlq1
              omega)
            rw [← hrsd.out, Int.natCast_succ] at hih
            have hx2 : Hid ((x'.set t (q : Int)).take (t + 1) = x.take t ++ [(q : Int)]) := Lib.hid (by
              have hxl : t < x'.length := by rw [hS4.oA.1.symm.trans (List.length_set ..) |>.symm]; exact hlt
              rw [List.take_succ_eq_append_getElem (by rw [List.length_set]; exact hxl), List.getElem_set_self, List.take_set_of_le (Nat.le_refl _), hx'.out])
            gi_wp2_with fail
            gi_at_call 46
            refine (callsIn_wide.2 hih).mono ?_
            clear hih
            rintro e W4 (⟨rfl, hJ5, ⟨x2, hx3, hS5⟩, hF5⟩ | ⟨rfl, ⟨pre', hp1', hp2', hJ5⟩, ⟨x2, hS5⟩, hF5⟩)
            · have hF6 := hF4.trans hF5
              rw [hx2.out] at hJ5 hx3
              have l0 := hS5.bl.cell 0
              gi_wp2_with fail
              gi_at_call 49
              refine (callsIn_wide.2 (take_c B gL m cL q (-1) (takeL q lf) _ hS5.oL hm hq64 (.inr rfl) (fun v hv => by have := sumsLe_mem hle.out v hv; omega))).mono ?_
              rw [takeT_back, give_take]
              rintro e W5 ⟨rfl, hg6, ho6⟩
              have hS7 := hS5.takeA hne'.out hg6 ho6
              have hJ7 := hJ _ _ _ (some gL) hJ5 hg6 (fun r e => by cases e; exact hup.2.2.2.2.2.1)
              have hF7 := hF6.trans (FillFr.grown hg6 hup.2.2.2.2.2.1 hup.2.2.2.2.2.2.1 hup.2.2.2.2.2.2.2 (by have := hF6.sz; omega))
              rw [List.append_assoc, ← withG_cons, ← withG_append, ← hH.out] at hJ7
              have hx4 : Hid (x2.take t = x.take t) := Lib.hid (by
                have := congrArg (List.take t) hx3
                rw [List.take_take, Nat.min_eq_left (by omega), List.take_append_of_le_length (by rw [List.length_take]; have := hS7.oA.1; have := congrArg List.length hx3; simp at this; omega), List.take_take, Nat.min_self] at this
                exact this)
              gi_wp2
              go_roundw
              case rel => exact ⟨q + 1, x2, by omega, by go_num, hx4, hS7, hJ7, hF7⟩
              case measure => simp [intOf]; omega
            · have hF6 := hF4.trans hF5
              rw [hx2.out] at hp2'
              have l0 := hS5.bl.cell 0
              gi_wp2_with fail
              gi_at_call 49
              refine (callsIn_wide.2 (take_c B gL m cL q (-1) (takeL q lf) _ hS5.oL hm hq64 (.inr rfl) (fun v hv => by have := sumsLe_mem hle.out v hv; omega))).mono ?_
              rw [takeT_back, give_take]
              rintro e W5 ⟨rfl, hg6, ho6⟩
              have hS7 := hS5.takeA hne'.out hg6 ho6
              have hJ7 := hJx _ _ _ (some gL) hJ5 hg6 (fun r e => by cases e; exact hup.2.2.2.2.2.1)
              have hF7 := hF6.trans (FillFr.grown hg6 hup.2.2.2.2.2.1 hup.2.2.2.2.2.2.1 hup.2.2.2.2.2.2.2 (by have := hF6.sz; omega))
              rw [List.append_assoc] at hJ7
              have hpp : Hid (withG gA (x.take t) (imgK r rs lf q) ++ pre' <+: withG gA (x.take t) (imgL (r :: rs) lf)) := Lib.hid (by
                rw [← hAll.out]
                refine List.IsPrefix.trans ?_ (withG_prefix (imgK_prefix r rs lf (show q + 1 ≤ M by omega)))
                rw [hH.out, withG_append, withG_cons]
                exact (List.prefix_append_right_inj _).2 hp2')
              gi_wp2
              exact bodyPost_ret (v := .bool false) (by simp [results, Try.results46, go_sem]) rfl (.inr ⟨rfl, ⟨_, by simp [hp1'], hpp.out, hJ7⟩, ⟨x2, hS7⟩, hF7⟩)
        · have hM := Lib.hid (imgK_miss (r := r) (rs := rs) (lf := lf) (k := q) (fun hh => hpop hh.1))
          have hp1 : (((pop q : Nat) : Int) != r) = true := by simp [hpop]
          clear hpop hkk
          gi_wp2
          gi_big_quiet_th ((gi_at_call 25; exact CallsIn.quiet_of_same (callsIn_wide.2 (still_of (ones_c q _ hq64)))))
          obtain ⟨hS2, hJ2, hF2⟩ := hadv (below_drewN (Below.refl wr.heap.size wr) nq)
          rw [← hM.out] at hJ2
          gi_wp2
          go_roundw
          case rel => exact ⟨q + 1, x', by omega, by go_num, hx', hS2, hJ2, hF2⟩
          case measure => simp [intOf]; omega
      · obtain rfl : q = M := by omega
        rw [hAll.out] at hJq
        gi_wp2
        exact bodyPost_ret (v := .bool true) (by simp [results, Try.results46, go_sem]) rfl (.inl ⟨rfl, hJq, ⟨x', hx'.out, hS⟩, hF⟩)
end Go.Proofs.Ytnbaedpckdefgaa
