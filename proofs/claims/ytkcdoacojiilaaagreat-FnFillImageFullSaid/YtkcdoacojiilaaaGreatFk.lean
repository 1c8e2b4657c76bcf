
/- Walks: the reference's filling: the search for a path (l41Search). -/
import Derived.Test.YtkcdoacojiilaaaGreatFe
import Derived.Test.YtkcdoacojiilaaaGreatFh
import Derived.Test.YtkcdoacojiilaaaGreatKo
import Derived.Deep.LoopGhost
namespace Go.Proofs.YtkcdoacojiilaaaGreat
open Go.RowKit
set_option maxRecDepth 100000

theorem parN_step (k n : Nat) (xs rs : List Int) : parK (k + 1) xs rs n = parK k xs rs n ++ [if k < n ∧ lackR xs rs k = true then (k : Int) else -1] := by
  rw [parK, List.range_succ, List.map_append]; rfl
theorem parN_len (k n : Nat) (xs rs : List Int) : (parK k xs rs n).length = k := by simp [parK]
def wkN (n : Nat) (xs rs : List Int) (k : Nat) : List Nat := wkK xs rs (min k n)
theorem wkN_step (n k : Nat) (xs rs : List Int) : wkN n xs rs (k + 1) = wkN n xs rs k ++ if k < n ∧ lackR xs rs k = true then [k] else [] := by
  unfold wkN
  by_cases h : k < n
  · rw [show min (k + 1) n = k + 1 by omega, show min k n = k by omega, wk_step]
    simp [h]
  · rw [show min (k + 1) n = n by omega, show min k n = n by omega, if_neg (fun e => h e.1), List.append_nil]
theorem wkN_len (n k : Nat) (xs rs : List Int) : (wkN n xs rs k).length ≤ k := by
  have := List.length_filter_le (lackR xs rs) (List.range (min k n))
  rw [List.length_range] at this
  unfold wkN wkK
  omega
theorem bufE_ (w : World) {base : Nat} (hb : base ≤ w.heap.size) : Buf (w.alloc (.cells #[] 3)) base (some ⟨w.heap.size, 0, none⟩) 0 [] :=
  ⟨rfl, .inr ⟨w.heap.size, 0, #[], rfl, hb, Blk.new _ _ _, Nat.le_refl _, Nat.zero_le _, rfl, rfl⟩⟩
theorem set_snoc {k : Nat} (l : List Int) (h : k = l.length) (a x : Int) : (l ++ [a]).set k x = l ++ [x] := by subst h; simp
def atI : Option Nat → Int
  | some t => (t : Int)
  | none => -1

structure SrI (w wr : World) (m n c : Nat) (A R P Q : Option Addr) (cp cq : Nat) (xs par wk : List Int) : Prop where
  lo : Below w.heap.size w wr
  bx : Blk wr w.heap.size 27 #[.int .i64 (m : Int), .slice A n c]
  sm : Own wr (w.heap.size + 1) R n (rsum xs)
  p : Buf wr (w.heap.size + 1) P cp par
  q : Buf wr (w.heap.size + 1) Q cq wk
  d1 : ∀ g, P = some ⟨g, 0, none⟩ → Q ≠ some ⟨g, 0, none⟩
  d2 : ∀ g, P = some ⟨g, 0, none⟩ → R ≠ some ⟨g, 0, none⟩
  d3 : ∀ g, Q = some ⟨g, 0, none⟩ → R ≠ some ⟨g, 0, none⟩
section
variable {w wr w' : World} {m n c cp cq : Nat} {A R P Q : Option Addr} {xs par wk : List Int}
theorem SrI.next (h : SrI w wr m n c A R P Q cp cq xs par wk) (hb : Below wr.heap.size wr w') : SrI w w' m n c A R P Q cp cq xs par wk :=
  ⟨lo_trans h.lo hb, h.bx.next hb, h.sm.next hb, h.p.next hb, h.q.next hb, h.d1, h.d2, h.d3⟩
theorem SrI.size (h : SrI w wr m n c A R P Q cp cq xs par wk) : w.heap.size + 1 ≤ wr.heap.size := h.bx.lt
theorem SrI.rlt (h : SrI w wr m n c A R P Q cp cq xs par wk) (hn : 0 < n) : ∀ g, R = some ⟨g, 0, none⟩ → g < wr.heap.size := by
  rintro g rfl
  rcases h.sm.blk with ⟨h0, _⟩ | ⟨g', e, _, h2⟩
  · omega
  · injection e with e; injection e with e; omega
theorem SrI.addP {g c' : Nat} {par' : List Int} (h : SrI w wr m n c A R P Q cp cq xs par wk) (hn : 0 < n) (hp : Buf w' (w.heap.size + 1) (some ⟨g, 0, none⟩) c' par') (hg : wr.grownBy w' (rowA P)) (hat : P = some ⟨g, 0, none⟩ ∨ g = wr.heap.size) :
    SrI w w' m n c A R (some ⟨g, 0, none⟩) Q c' cq xs par' wk := by
  have hP := rowA_at h.p
  have hge := rowA_ge h.p
  refine ⟨lo_grown h.lo hg (fun g e => by have := hge g e; omega), h.bx.grown hg (fun e => by have := hge _ e.symm; omega), h.sm.grown hg (fun g e e' => h.d2 g (hP g e') e), hp, h.q.kept hg (fun g e e' => h.d1 g (hP g e') e), ?_, ?_, h.d3⟩
  · rintro g' ⟨⟩ e
    rcases hat with h1 | h1
    · exact h.d1 _ h1 e
    · have := h.q.lt _ e; omega
  · rintro g' ⟨⟩ e
    rcases hat with h1 | h1
    · exact h.d2 _ h1 e
    · have := h.rlt hn _ e; omega
theorem SrI.addQ {g c' : Nat} {wk' : List Int} (h : SrI w wr m n c A R P Q cp cq xs par wk) (hn : 0 < n) (hp : Buf w' (w.heap.size + 1) (some ⟨g, 0, none⟩) c' wk') (hg : wr.grownBy w' (rowA Q)) (hat : Q = some ⟨g, 0, none⟩ ∨ g = wr.heap.size) :
    SrI w w' m n c A R P (some ⟨g, 0, none⟩) cp c' xs par wk' := by
  have hQ := rowA_at h.q
  have hge := rowA_ge h.q
  refine ⟨lo_grown h.lo hg (fun g e => by have := hge g e; omega), h.bx.grown hg (fun e => by have := hge _ e.symm; omega), h.sm.grown hg (fun g e e' => h.d3 g (hQ g e') e), h.p.kept hg (fun g e e' => h.d1 g e (hQ g e')), hp, ?_, h.d2, ?_⟩
  · rintro g' e ⟨⟩
    rcases hat with h1 | h1
    · exact h.d1 _ e h1
    · have := h.p.lt _ e; omega
  · rintro g' ⟨⟩ e
    rcases hat with h1 | h1
    · exact h.d3 _ h1 e
    · have := h.rlt hn _ e; omega
theorem SrI.setP {g k : Nat} (h : SrI w wr m n c A R (some ⟨g, 0, none⟩) Q cp cq xs par wk) (y : Int) : SrI w (wr.setCell ⟨g, k, none⟩ (.int .i64 y)) m n c A R (some ⟨g, 0, none⟩) Q cp cq xs (par.set k y) wk := by
  have hl := h.p.lt g rfl
  exact ⟨lo_set h.lo (by simp; omega) _, h.bx.far (by simp; omega) _, h.sm.far (fun g' e e' => h.d2 g rfl (by rw [e]; simp at e'; rw [e'])) _, h.p.set y, h.q.kept (grown_set _) (fun g' e e' => h.d1 g rfl (by rw [e]; injection e' with e'; rw [e'])), h.d1, h.d2, h.d3⟩
end

set_option maxHeartbeats 8000000 in
theorem l41Search_c (m n N c a b : Nat) (A B G : Option Addr) (xs rs ys : List Int) (w : World) (hx : Rd w G n xs) (hr : Rd w A n rs) (hs : Rd w B m ys) (hk : okB (m : Int) xs = true) (hN : Hid (N = n + m)) :
    Calls Tryz.prog 19 #[.agg #[.int .i64 (m : Int), .slice G n c], .slice A n a, .slice B m b] w fun e w' => ∃ P cp, e = .returned (.tuple #[.slice P N cp, .int .i64 (atI (srchAll n N xs rs ys).1)]) ∧ Below w.heap.size w w' ∧ Own w' w.heap.size P N (srchAll n N xs rs ys).2 := by
  have hbd := okB_bd hk
  rw [hx.1] at hbd
  have hk' := Lib.hid hk
  have hn0 : 0 < n := by omega
  have hxl := Lib.hid hx.1
  have hP := Blk.new w 27 #[.int .i64 (m : Int), .slice G n c]
  have hB0 := lo_alloc (Below.refl w.heap.size w) (.cells #[.int .i64 (m : Int), .slice G n c] 27)
  have hwr : IntKind.i64.wrap ((n : Int) + (m : Int)) = ((n + m : Nat) : Int) := by rw [IntKind.wrap_i64]; omega
  have hE1 : Buf ((w.alloc (.cells #[.int .i64 (m : Int), .slice G n c] 27)).alloc (.cells #[] 3)) (w.heap.size + 1) (some ⟨w.heap.size + 1, 0, none⟩) 0 [] := by
    have := bufE_ (w.alloc (.cells #[.int .i64 (m : Int), .slice G n c] 27)) (base := w.heap.size + 1) (by simp)
    rwa [World.size_alloc] at this
  have hE2 : Buf (((w.alloc (.cells #[.int .i64 (m : Int), .slice G n c] 27)).alloc (.cells #[] 3)).alloc (.cells #[] 3)) (w.heap.size + 1) (some ⟨w.heap.size + 1 + 1, 0, none⟩) 0 [] := by
    have := bufE_ ((w.alloc (.cells #[.int .i64 (m : Int), .slice G n c] 27)).alloc (.cells #[] 3)) (base := w.heap.size + 1) (by simp)
    rwa [World.size_alloc, World.size_alloc] at this
  have hP2 := (hP.alloc (.cells #[] 3)).alloc (.cells #[] 3)
  have hB2 := lo_alloc (lo_alloc hB0 (.cells #[] 3)) (.cells #[] 3)
  have c0 := hP2.cell 0
  have c1 := hP2.cell 1
  go_enter Tryz.func19, Tryz.ntmps19
  go_wp2_with fail
  refine (spec_RowSums_x G n c m xs _ (hx.next hB2) hk).mono ?_
  rintro e w3 ⟨R, d, rfl, hO3, hb3⟩
  have hRn : ∀ g, R = some ⟨g, 0, none⟩ → w.heap.size + 3 ≤ g := by
    intro g e
    rcases hO3.blk with ⟨h0, _⟩ | ⟨g', e2, h1, h2⟩
    · omega
    · rw [e2] at e; injection e with e; injection e with e; simp at h1; omega
  have hS3 : SrI w w3 m n c G R (some ⟨w.heap.size + 1, 0, none⟩) (some ⟨w.heap.size + 1 + 1, 0, none⟩) 0 0 xs [] [] :=
    ⟨lo_trans hB2 hb3, hP2.next hb3, hO3.mono (by simp), hE1.next (lo_trans (lo_alloc (Below.refl _ _) _) hb3), hE2.next hb3, by rintro g ⟨⟩ e; injection e with e; injection e with e; omega,
      fun g e e' => by have := hRn g e'; injection e with e; injection e with e; omega,
      fun g e e' => by have := hRn g e'; injection e with e; injection e with e; omega⟩
  clear hE1 hE2 hP2 hB2 hb3 hO3 hP hB0 c0 c1 hRn
  have hw0 : Hid (asI (wkN n xs rs 0) = []) := Lib.hid (by simp [wkN, wkK, asI])
  have hp0 : Hid (parK 0 xs rs n = []) := Lib.hid (by simp [parK])
  have hl0 : Hid ((wkN n xs rs 0).length = 0) := Lib.hid (by simp [wkN, wkK])
  have hNe : (n : Int) + (m : Int) = (N : Int) := by rw [hN.out]; omega
  have hN12 : N ≤ 12 := by rw [hN.out]; omega
  have hnN : n ≤ N := by rw [hN.out]; omega
  go_wp2
  clear hNe hwr
  go_loopw [9, 10, 12] (fun p q i wr => ∃ (k : Nat) (P Q : Option Addr) (cp cq : Nat), k ≤ N ∧ i = .int .i64 k ∧ p = .slice P k cp ∧ q = .slice Q (wkN n xs rs k).length cq ∧ Hid (SrI w wr m n c G R P Q cp cq xs (parK k xs rs n) (asI (wkN n xs rs k)))) (fun _ _ i _ => N - (intOf i).toNat)
  case atStart => exact ⟨0, _, _, 0, 0, Nat.zero_le _, rfl, rfl, by rw [hl0.out], Lib.hid (by rw [hw0.out, hp0.out]; exact hS3)⟩
  case round =>
    clear hS3 hw0 hp0 hl0
    obtain ⟨k, P, Q, cp, cq, hkN, rfl, rfl, rfl, hS⟩ := hrel
    have hwl := wkN_len n k xs rs
    by_cases hlt : k < N
    · have hS1 := Lib.hid (hS.out.next (lo_alloc (Below.refl _ _) (.cells #[.int .i64 (-1)] 3)))
      have hzr := hS.out.size
      have hrd : Rd (wr.alloc (.cells (ints [-1]) 3)) (some ⟨wr.heap.size, 0, none⟩) 1 [-1] := Rd.of_blk (Blk.new _ _ _)
      have hpl : Hid (k = (parK k xs rs n).length) := Lib.hid (parN_len k n xs rs).symm
      clear hS
      go_wp2_with (at_builtin; refine (wpl_append rfl _ _ rfl (w.heap.size + 1) P cp k _ rfl hpl.out hS1.out.p _ 1 1 [-1] rfl hrd (by omega) (by omega) (by simp; omega) ?_); intro g c' w4 hB4 hg4 hat)
      have hS4 := Lib.hid (hS1.out.addP hn0 hB4 hg4 hat)
      clear hB4 hg4 hat hrd hS1
      have hpk : Hid (∀ x, (parK k xs rs n ++ [-1]).set k x = parK k xs rs n ++ [x]) := Lib.hid (fun x => set_snoc _ hpl.out _ x)
      have hle4 : (parK k xs rs n ++ [-1]).length = k + 1 := by rw [List.length_append, parN_len]; rfl
      obtain ⟨g0, e0, _, hzg, hcg, hfg⟩ := hS4.out.p.at_ hle4 (Nat.lt_succ_self k)
      injection e0 with e0
      injection e0 with e0
      subst e0
      clear hle4
      generalize (parK k xs rs n ++ [-1])[k]?.getD 0 = y0 at hcg
      have hS5 := Lib.hid (hS4.out.next (Below.drew (Below.refl _ _)))
      have hql : Hid ((wkN n xs rs k).length = (asI (wkN n xs rs k)).length) := Lib.hid (asI_len _).symm
      by_cases hkn : k < n
      · obtain ⟨gS, rfl, _, hzS, hcS, _, _⟩ := hS4.out.sm.at_ hkn
        obtain ⟨b2, off2, rfl, hb2, hc2⟩ := (hr.next hS4.out.lo).at_ hkn
        rw [rsum_get xs (by rw [hxl.out]; exact hkn)] at hcS
        have hpp : popI xs k = pop (xs[k]?.getD 0).toNat := rfl
        by_cases hl : lackR xs rs k = true
        · have hp1 := Lib.hid (show parK (k + 1) xs rs n = parK k xs rs n ++ [(k : Int)] by rw [parN_step, if_pos ⟨hkn, hl⟩])
          have hw1 := Lib.hid (show asI (wkN n xs rs (k + 1)) = asI (wkN n xs rs k) ++ [(k : Int)] by rw [wkN_step, if_pos ⟨hkn, hl⟩, asI, List.map_append]; rfl)
          have hw2 := Lib.hid (show (wkN n xs rs k).length + 1 = (wkN n xs rs (k + 1)).length by rw [wkN_step, if_pos ⟨hkn, hl⟩, List.length_append]; rfl)
          have hlt2 : ((popI xs k : Nat) : Int) < rs[k]?.getD 0 := by rw [hpp]; simpa [lackR] using hl
          clear hl hpp
          generalize popI xs k = x at hcS hlt2
          generalize rs[k]?.getD 0 = y at hc2 hlt2
          have hS6 := Lib.hid ((hS5.out.setP (k := k) (k : Int)).next (lo_alloc (Below.refl _ _) (.cells #[.int .i64 k] 3)))
          have hrd : Rd ((w4.drew.setCell ⟨g, k, none⟩ (.int .i64 k)).alloc (.cells (ints [(k : Int)]) 3)) (some ⟨w4.heap.size, 0, none⟩) 1 [(k : Int)] := by
            have := Rd.of_blk (Blk.new (w4.drew.setCell ⟨g, k, none⟩ (.int .i64 k)) 3 (ints [(k : Int)]))
            simpa using this
          have hz4 : w.heap.size + 1 ≤ w4.heap.size := hS4.out.size
          go_wp2_with fail
          go_region
          go_wp2_with (at_builtin; refine (wpl_append rfl _ _ rfl (w.heap.size + 1) Q cq _ _ rfl hql.out hS6.out.q _ 1 1 [(k : Int)] rfl hrd (by omega) (by omega) (by simp; omega) ?_); intro g2 c2 w5 hB5 hg5 hat5)
          have hS7 := Lib.hid (hS6.out.addQ hn0 hB5 hg5 hat5)
          rw [hpk.out] at hS7
          clear hB5 hg5 hat5 hS6 hS5 hS4
          go_roundw
          case rel => exact ⟨k + 1, _, _, c', c2, by omega, by go_num, rfl, by rw [hw2.out], Lib.hid (by rw [hw1.out, hp1.out]; exact hS7.out)⟩
          case measure => simp [intOf]; omega
        · have hp1 := Lib.hid (show parK (k + 1) xs rs n = parK k xs rs n ++ [-1] by rw [parN_step, if_neg (fun h => hl h.2)])
          have hw1 := Lib.hid (show wkN n xs rs (k + 1) = wkN n xs rs k by rw [wkN_step, if_neg (fun h => hl h.2), List.append_nil])
          have hlt2 : ¬ ((popI xs k : Nat) : Int) < rs[k]?.getD 0 := by rw [hpp]; simpa [lackR] using hl
          clear hl hpp
          generalize popI xs k = x at hcS hlt2
          generalize rs[k]?.getD 0 = y at hc2 hlt2
          go_wp2_with fail
          go_region
          go_wp2
          go_roundw
          case rel => exact ⟨k + 1, _, _, c', cq, by omega, by go_num, rfl, by rw [hw1.out], Lib.hid (by rw [hw1.out, hp1.out]; exact hS5.out)⟩
          case measure => simp [intOf]; omega
      · have hp1 := Lib.hid (show parK (k + 1) xs rs n = parK k xs rs n ++ [-1] by rw [parN_step, if_neg (fun h => hkn h.1)])
        have hw1 := Lib.hid (show wkN n xs rs (k + 1) = wkN n xs rs k by rw [wkN_step, if_neg (fun h => hkn h.1), List.append_nil])
        go_wp2_with fail
        go_region
        go_wp2
        go_roundw
        case rel => exact ⟨k + 1, _, _, c', cq, by omega, by go_num, rfl, by rw [hw1.out], Lib.hid (by rw [hw1.out, hp1.out]; exact hS5.out)⟩
        case measure => simp [intOf]; omega
    · have hkE : k = N := by omega
      have hw9 : Hid (wkN n xs rs k = wkK xs rs n) := Lib.hid (by rw [wkN, show min k n = n by omega])
      have hS9 : Hid (SrI w wr m n c G R P Q cp cq xs (parK N xs rs n) (asI (wkK xs rs n))) := Lib.hid (by rw [← hw9.out, ← hkE]; exact hS.out)
      have hbf := Lib.hid (bfs_start (h := n) (n := N) xs rs (ys := ys) hnN)
      have hl9 : Hid ((wkN n xs rs k).length = (wkK xs rs n).length) := Lib.hid (by rw [hw9.out])
      obtain ⟨F, rfl, _⟩ := hS9.out.p.at_ (parN_len N n xs rs) (k := 0) (by omega)
      have hkE' := Lib.hid hkE
      have hkn' : ¬ k < N := hlt
      clear hS hkE hlt
      go_wp2
      rw [hkE'.out]
      go_loopg [10, 13] (N + 1) (fun f q i wr => ∃ (at_ : Nat) (par : List Int) (wk : List Nat) (Q : Option Addr) (cq : Nat), at_ + f = N + 1 ∧ at_ ≤ wk.length ∧ i = .int .i64 at_ ∧ Hid (srch n N xs ys f at_ par wk = srchAll n N xs rs ys) ∧ Hid (Bfs n N xs rs ys par wk) ∧ q = .slice Q wk.length cq ∧ Hid (SrI w wr m n c G R (some ⟨F, 0, none⟩) Q cp cq xs par (asI wk)))
      case atStart => exact ⟨0, _, _, Q, cq, by omega, Nat.zero_le _, rfl, Lib.hid rfl, hbf, by rw [← hl9.out, ← hkE'.out], hS9⟩
      case round =>
        clear hS9 hl9 hbf hw9 hwl hkn' hkE' hkN
        obtain ⟨at_, par, wk, Q, cq, hat, haw, rfl, hsr, hbf, rfl, hS⟩ := hrel
        have hlen := wk_len hbf.out
        by_cases hne : at_ < wk.length
        · obtain ⟨p, hp⟩ : ∃ p, wk[at_]? = some p := ⟨_, List.getElem?_eq_getElem hne⟩
          have hpN : p < n + m := by have := hbf.out.lt p (List.mem_of_getElem? hp); have := hN.out; omega
          obtain ⟨f, rfl⟩ : ∃ f, gk = f + 1 := ⟨gk - 1, by omega⟩
          have hp' := Lib.hid hp
          clear hp
          go_wp2
          go_loopw [10, 14] (fun q i wr => ∃ (t k' : Nat) (par' : List Int) (wk' : List Nat) (Q : Option Addr) (cq : Nat), t + k' = N ∧ i = .int .i64 t ∧ at_ < wk'.length ∧ Hid (scan n N xs ys p k' par' wk' = scan n N xs ys p N par wk) ∧ Hid (Bfs n N xs rs ys par' wk') ∧ Hid (wk'[at_]? = some p) ∧ q = .slice Q wk'.length cq ∧ Hid (SrI w wr m n c G R (some ⟨F, 0, none⟩) Q cp cq xs par' (asI wk'))) (fun _ i _ => N - (intOf i).toNat)
          case atStart => exact ⟨0, N, par, wk, _, cq, by omega, rfl, hne, Lib.hid rfl, hbf, hp', rfl, hS⟩
          case round =>
            clear hS hbf hlen
            obtain ⟨t, k', par', wk', Q', c', htk, rfl, hne', hsn, hbf', hp2, rfl, hS'⟩ := hrel
            have hz' := hS'.out.size
            by_cases hlt : t < N
            · obtain ⟨k', rfl⟩ : ∃ j, k' = j + 1 := ⟨k' - 1, by omega⟩
              have htN : N - (k' + 1) = t := by omega
              obtain ⟨F', e0, hlF, hzF, hcF, hfF⟩ := hS'.out.p.at_ hbf'.out.pl hlt
              injection e0 with e0
              injection e0 with e0
              subst e0
              obtain ⟨gQ, rfl, hlQ, hzQ, hcQ, hfQ⟩ := hS'.out.q.at_ (asI_len wk') hne'
              have hpv : (asI wk')[at_]?.getD 0 = (p : Int) := by rw [asI, List.getElem?_map, hp2.out]; rfl
              rw [hpv] at hcQ
              clear hpv
              by_cases h0 : 0 ≤ par'[t]?.getD 0
              · have hsk : Hid (scan n N xs ys p k' par' wk' = scan n N xs ys p N par wk) := Lib.hid (by
                  rw [← hsn.out, scan, htN, if_pos (by simp [skipB, h0])])
                clear htN
                generalize par'[t]?.getD 0 = y at hcF h0
                go_wp2_with fail
                go_region
                go_wp2
                go_roundw
                case rel => exact ⟨t + 1, k', par', wk', _, c', by omega, by go_num, hne', hsk, hbf', hp2, rfl, Lib.hid (hS'.out.next (Below.drew (Below.refl _ _)))⟩
                case measure => simp [intOf]; omega
              · have hs0 : Hid (skipB n xs par' p t = !arrF n xs p t) := Lib.hid (by rw [skipB, decide_eq_false h0, Bool.false_or])
                generalize par'[t]?.getD 0 = y at hcF h0
                have hd : decide (0 ≤ y) = false := decide_eq_false h0
                have c0 := hS'.out.bx.cell 0
                have c1 := hS'.out.bx.cell 1
                have hqS := Lib.hid (show ∀ W, Below wr.heap.size wr W → SrI w W m n c G R (some ⟨F, 0, none⟩) (some ⟨gQ, 0, none⟩) cp c' xs par' (asI wk') ∧ W.cell? ⟨F, t, none⟩ = some (.int .i64 y) ∧ W.cell? ⟨gQ, at_, none⟩ = some (.int .i64 p) from
                  fun W hW => ⟨hS'.out.next hW, (hW.cell (p := ⟨F, t, none⟩) hzF).trans hcF, (hW.cell (p := ⟨gQ, at_, none⟩) hzQ).trans hcQ⟩)
                have hXr := hx.next hS'.out.lo
                have htM : t < n + m := by have := hN.out; omega
                go_wp2_with fail
                go_region_held3 (fun w' => w'.cell? ⟨w.heap.size, 0, none⟩ = some (.int .i64 (m : Int)) ∧ w'.cell? ⟨w.heap.size, 1, none⟩ = some (.slice G n c) ∧ w'.cell? ⟨F, t, none⟩ = some (.int .i64 y) ∧ w'.cell? ⟨gQ, at_, none⟩ = some (.int .i64 p))
                  (first
                    | with_reducible exact ⟨k0, k1, k2, k3⟩
                    | go_keep)
                  (first
                    | (go_at_call 45
                       refine (l41Arrow_c m n c p t G xs _ (by first | with_reducible exact hXr | with_reducible exact hXr.drew) hk'.out hpN htM).mono ?_
                       rintro e w5 ⟨rfl, hb5⟩
                       have hq5 := hqS.out _ (lo_trans (Below.drew (Below.refl _ _)) hb5)
                       have k0 := hq5.1.bx.cell 0
                       have k1 := hq5.1.bx.cell 1
                       have k2 := hq5.2.1
                       have k3 := hq5.2.2))
                have hS5 := Lib.hid hq5.1
                clear hq5 hqS hcF hfF hcQ hfQ hd c0 c1 hXr hS' hzF hzQ hlF hlQ
                cases hA : arrF n xs p t with
                | false =>
                  have hsk : Hid (scan n N xs ys p k' par' wk' = scan n N xs ys p N par wk) := Lib.hid (by
                    rw [← hsn.out, scan, htN, if_pos (by rw [hs0.out, hA]; rfl)])
                  clear htN hA h0 hs0
                  go_wp2
                  go_roundw
                  case rel => exact ⟨t + 1, k', par', wk', _, c', by omega, by go_num, hne', hsk, hbf', hp2, rfl, hS5⟩
                  case measure => simp [intOf]; omega
                | true =>
                  have hsb : skipB n xs par' p t = false := by rw [hs0.out, hA]; rfl
                  have hbf2 := Lib.hid (bfs_add hbf'.out hlt (List.mem_of_getElem? hp2.out) hsb)
                  have hstep : Hid ((if lackC n xs ys t = true then (some t, par'.set t (p : Int), wk' ++ [t]) else scan n N xs ys p k' (par'.set t (p : Int)) (wk' ++ [t])) = scan n N xs ys p N par wk) := Lib.hid (by
                    rw [← hsn.out, scan, htN, hsb]; rfl)
                  have hwl2 := wk_len hbf2.out
                  rw [List.length_append, List.length_singleton] at hwl2
                  have hnl := Lib.hid (asI_len wk').symm
                  have hdp : Hid (asI (wk' ++ [t]) = asI wk' ++ [(t : Int)]) := Lib.hid (by rw [asI, List.map_append]; rfl)
                  have hl9 : Hid (wk'.length + 1 = (wk' ++ [t]).length) := Lib.hid (by rw [List.length_append, List.length_singleton])
                  have hp3 : Hid ((wk' ++ [t])[at_]? = some p) := Lib.hid (by rw [List.getElem?_append_left hne']; exact hp2.out)
                  have hat3 : Hid (at_ < (wk' ++ [t]).length) := Lib.hid (by rw [List.length_append]; omega)
                  obtain ⟨F', e0, hlF, hzF, hcF, hfF⟩ := hS5.out.p.at_ hbf'.out.pl hlt
                  injection e0 with e0
                  injection e0 with e0
                  subst e0
                  generalize par'[t]?.getD 0 = y9 at hcF
                  have hS6 := Lib.hid ((hS5.out.setP (k := t) (p : Int)).next (lo_alloc (Below.refl _ _) (.cells #[.int .i64 t] 3)))
                  have hrd : Rd ((w5.setCell ⟨F, t, none⟩ (.int .i64 p)).alloc (.cells (ints [(t : Int)]) 3)) (some ⟨w5.heap.size, 0, none⟩) 1 [(t : Int)] := by
                    have := Rd.of_blk (Blk.new (w5.setCell ⟨F, t, none⟩ (.int .i64 p)) 3 (ints [(t : Int)]))
                    simpa using this
                  have hz5 : w.heap.size + 1 ≤ w5.heap.size := hS5.out.size
                  have hLb : wk'.length ≤ 2000 := by omega
                  clear htN hA h0 hs0 hsb hsn hwl2 hp2 hbf'
                  generalize wk'.length = L at hnl hl9 hLb hne'
                  go_wp2_with (at_builtin; refine (wpl_append rfl _ _ rfl (w.heap.size + 1) (some ⟨gQ, 0, none⟩) c' _ _ rfl hnl.out hS6.out.q _ 1 1 [(t : Int)] rfl hrd (by omega) (by omega) (by simp; omega) ?_); intro g2 c2 w6 hB6 hg6 hat6; have hS7 := Lib.hid (hS6.out.addQ hn0 hB6 hg6 hat6); rw [← hdp.out] at hS7; have d0 := hS7.out.bx.cell 0; have d1 := hS7.out.bx.cell 1)
                  clear hB6 hg6 hat6 hS6 hS5 hrd hcF hfF
                  refine (l41Goal_c m n c t b G B xs ys _ (hx.next hS7.out.lo) (hs.next hS7.out.lo) hk'.out htM).mono ?_
                  rintro e w7 ⟨rfl, hb7⟩
                  have hS8 := Lib.hid (hS7.out.next hb7)
                  clear hS7 d0 d1 k0 k1 k2 k3
                  cases hG : lackC n xs ys t with
                  | true =>
                    have hres : Hid (srchAll n N xs rs ys = (some t, par'.set t (p : Int))) := Lib.hid (by
                      rw [← hsr.out, srch, hp'.out]
                      simp only
                      rw [← hstep.out, if_pos hG])
                    clear hstep hG
                    go_wp2
                    refine bodyPost_ret (v := .tuple #[.slice (some ⟨F, 0, none⟩) N cp, .int .i64 t]) (by simp [results, Tryz.results19, go_sem]) rfl ?_
                    exact ⟨_, _, by rw [hres.out]; rfl, hS8.out.lo, by rw [hres.out]; have := (hS8.out.p.mono (lo' := w.heap.size) (by omega)).own; rwa [hbf2.out.pl] at this⟩
                  | false =>
                    have hsk : Hid (scan n N xs ys p k' (par'.set t (p : Int)) (wk' ++ [t]) = scan n N xs ys p N par wk) := Lib.hid (by
                      rw [← hstep.out, hG]; rfl)
                    clear hstep hG
                    go_wp2
                    go_roundw
                    case rel => exact ⟨t + 1, k', par'.set t (p : Int), wk' ++ [t], _, c2, by omega, by go_num, hat3.out, hsk, hbf2, hp3, by rw [hl9.out], hS8⟩
                    case measure => simp [intOf]; omega
            · obtain rfl : k' = 0 := by omega
              have hnx : Hid (srch n N xs ys f (at_ + 1) par' wk' = srchAll n N xs rs ys) := Lib.hid (by
                rw [← hsr.out, srch, hp'.out]
                simp only
                rw [← hsn.out, scan])
              go_wp2
              go_roundg f
              case measure => omega
              case rel => exact ⟨at_ + 1, par', wk', _, c', by omega, by omega, by go_num, hnx, hbf', rfl, hS'⟩
        · have hres : Hid (srchAll n N xs rs ys = (none, par)) := Lib.hid (by
            have hnn : wk[at_]? = none := List.getElem?_eq_none (by omega)
            rw [← hsr.out]
            cases gk with
            | zero => rw [srch]
            | succ f => rw [srch, hnn])
          go_wp2
          refine bodyPost_ret (v := .tuple #[.slice (some ⟨F, 0, none⟩) N cp, .int .i64 (-1)]) (by simp [results, Tryz.results19, go_sem]) rfl ?_
          exact ⟨_, _, by rw [hres.out]; rfl, hS.out.lo, by rw [hres.out]; have := (hS.out.p.mono (lo' := w.heap.size) (by omega)).own; rwa [hbf.out.pl] at this⟩
end Go.Proofs.YtkcdoacojiilaaaGreat
