
/- Walks: the reference's list of switches. -/
import Derived.Test.YtjogfeichnkffaaSpb
import Derived.Test.YtjogfeichnkffaaMathP
namespace Go.Proofs.Ytjogfeichnkffaa
open Go.RowKit
set_option maxRecDepth 100000

theorem infoSw : ((Try.prog.info? 68).map fun i => (i.zero, i.size, i.bytes)) = some (some (.agg #[.int .i64 0, .int .i64 0, .int .i64 0, .int .i64 0]), 4, 32) := by kernel_rfl

def Sw.cells (s : Sw) : List Value := [.int .i64 (s.a : Int), .int .i64 (s.b : Int), .int .i64 (s.c : Int), .int .i64 (s.d : Int)]
def swCells (ss : List Sw) : List Value := ss.flatMap Sw.cells
theorem swCells_len (ss : List Sw) : (swCells ss).length = ss.length * 4 := by
  induction ss with
  | nil => rfl
  | cons s ss ih =>
    have e1 : swCells (s :: ss) = s.cells ++ swCells ss := rfl
    rw [e1, List.length_append, ih, List.length_cons]; simp [Sw.cells]; omega
theorem swCells_snoc (ss : List Sw) (s : Sw) : swCells (ss ++ [s]) = swCells ss ++ s.cells := by simp [swCells, List.flatMap_append]
theorem swCells_get : ∀ {ss : List Sw} {k : Nat} {s : Sw}, ss[k]? = some s → (swCells ss)[4 * k]? = some (.int .i64 (s.a : Int)) ∧ (swCells ss)[4 * k + 1]? = some (.int .i64 (s.b : Int)) ∧ (swCells ss)[4 * k + 2]? = some (.int .i64 (s.c : Int)) ∧ (swCells ss)[4 * k + 3]? = some (.int .i64 (s.d : Int))
  | s' :: ss, 0, s, h => by
    simp at h; subst h; exact ⟨rfl, rfl, rfl, rfl⟩
  | s' :: ss, k + 1, s, h => by
    have e1 : swCells (s' :: ss) = .int .i64 (s'.a : Int) :: .int .i64 (s'.b : Int) :: .int .i64 (s'.c : Int) :: .int .i64 (s'.d : Int) :: swCells ss := rfl
    have := swCells_get (ss := ss) (k := k) (s := s) (by simpa using h)
    rw [e1, show 4 * (k + 1) = 4 * k + 1 + 1 + 1 + 1 by omega]
    simp only [List.getElem?_cons_succ, Nat.add_assoc, Nat.reduceAdd]
    exact this
theorem swCells_one (ss : List Sw) : ∀ u ∈ swCells ss, u.oneCell' = true := by
  intro u hu
  simp only [swCells, List.mem_flatMap, Sw.cells, List.mem_cons, List.not_mem_nil, or_false] at hu
  obtain ⟨e, _, rfl | rfl | rfl | rfl⟩ := hu <;> rfl

/-- a slice of switches of one's own -/
def BufW (w : World) (base : Nat) (A : Option Addr) (c : Nat) (ss : List Sw) : Prop := w.ownsRow base 68 4 (.slice A ss.length c) ss.length (swCells ss)
section
variable {w w' : World} {base : Nat} {A : Option Addr} {n c : Nat} {ss : List Sw}
theorem BufW.form (h : BufW w base A c ss) : (A = none ∧ ss = []) ∨ ∃ g cs, A = some ⟨g, 0, none⟩ ∧ base ≤ g ∧ Blk w g 68 cs ∧ ∀ (k : Nat) (x : Value), (swCells ss)[k]? = some x → cs[k]? = some x := by
  rcases h.2 with ⟨hv, hn⟩ | ⟨g, cap, cur, hv, hb, hh, hn, hm, hs, ht⟩
  · injection hv with h1 h2 h3
    exact .inl ⟨h1, List.eq_nil_of_length_eq_zero h2⟩
  · injection hv with h1 h2 h3
    refine .inr ⟨g, cur, h1, hb, hh, fun k x hx => ?_⟩
    have hk : k < ss.length * 4 := by
      have := (List.getElem?_eq_some_iff.1 hx).1
      rwa [swCells_len] at this
    have e : (cur.toList.take (ss.length * 4))[k]? = (swCells ss)[k]? := by rw [ht]
    rw [List.getElem?_take, if_pos (by omega), hx] at e
    simpa using e
theorem BufW.addr (h : BufW w base A c ss) : A = none ∨ ∃ g, A = some ⟨g, 0, none⟩ := by
  rcases h.form with ⟨e, _⟩ | ⟨g', cs, e, _⟩
  · exact .inl e
  · exact .inr ⟨_, e⟩
theorem BufW.lt (h : BufW w base A c ss) : ∀ g, A = some ⟨g, 0, none⟩ → base ≤ g ∧ g < w.heap.size := by
  rintro g rfl
  rcases h.form with ⟨e, _⟩ | ⟨g', cs, e, hb, hk, _⟩
  · cases e
  · injection e with e; injection e with e; subst e
    exact ⟨hb, hk.lt⟩
theorem BufW.kept (h : BufW w base A c ss) {row : Option Nat} (hg : w.grownBy w' row) (hne : ∀ g, A = some ⟨g, 0, none⟩ → row ≠ some g) : BufW w' base A c ss := by
  refine World.ownsRow.kept h hg ?_
  rcases h.form with ⟨rfl, _⟩ | ⟨g, cs, rfl, _⟩
  · exact .inl rfl
  · exact .inr (fun e => hne g rfl e.symm)
theorem BufW.next (h : BufW w base A c ss) (hb : Below w.heap.size w w') : BufW w' base A c ss := h.kept (grown_of_below hb none) (fun _ _ e => by cases e)
theorem BufW.mono {lo : Nat} (h : BufW w base A c ss) (hl : lo ≤ base) : BufW w lo A c ss := by
  refine ⟨h.1, ?_⟩
  rcases h.2 with h1 | ⟨g, cap, cur, h1, h2, h3⟩
  · exact .inl h1
  · exact .inr ⟨g, cap, cur, h1, by omega, h3⟩
theorem BufW.row (h : BufW w base A c ss) : ∀ g, rowA A = some g → base ≤ g ∧ g < w.heap.size := by
  intro g hg
  rcases h.addr with rfl | ⟨g', rfl⟩
  · simp [rowA] at hg
  · simp [rowA] at hg
    subst hg
    exact h.lt _ rfl

/-- the slice at A of n switches can be read -/
def RdW (w : World) (A : Option Addr) (n : Nat) (ss : List Sw) : Prop :=
  ss.length = n ∧ (0 < n → ∃ b off, A = some ⟨b, off, none⟩ ∧ b < w.heap.size ∧ ∀ k s, ss[k]? = some s → w.cell? ⟨b, off + 4 * k, none⟩ = some (.int .i64 (s.a : Int)) ∧ w.cell? ⟨b, off + 4 * k + 1, none⟩ = some (.int .i64 (s.b : Int)) ∧
    w.cell? ⟨b, off + 4 * k + 2, none⟩ = some (.int .i64 (s.c : Int)) ∧ w.cell? ⟨b, off + 4 * k + 3, none⟩ = some (.int .i64 (s.d : Int)))
theorem RdW.next (h : RdW w A n ss) (hb : Below w.heap.size w w') : RdW w' A n ss :=
  ⟨h.1, fun hn => by
    obtain ⟨b, off, e, h1, h2⟩ := h.2 hn
    have hs := hb.size
    exact ⟨b, off, e, by omega, fun k e he => ⟨(hb.cell (p := ⟨b, off + 4 * k, none⟩) h1).trans (h2 k e he).1, (hb.cell (p := ⟨b, off + 4 * k + 1, none⟩) h1).trans (h2 k e he).2.1,
      (hb.cell (p := ⟨b, off + 4 * k + 2, none⟩) h1).trans (h2 k e he).2.2.1, (hb.cell (p := ⟨b, off + 4 * k + 3, none⟩) h1).trans (h2 k e he).2.2.2⟩⟩⟩
theorem BufW.rd (h : BufW w base A c ss) : RdW w A ss.length ss := by
  refine ⟨rfl, fun hn => ?_⟩
  rcases h.form with ⟨_, rfl⟩ | ⟨g, cs, e, hb, hk, hx⟩
  · simp at hn
  · refine ⟨g, 0, e, hk.lt, fun k s hs => ?_⟩
    have := swCells_get hs
    rw [Nat.zero_add]
    exact ⟨(hk.cell _).trans (hx _ _ this.1), (hk.cell _).trans (hx _ _ this.2.1), (hk.cell _).trans (hx _ _ this.2.2.1), (hk.cell _).trans (hx _ _ this.2.2.2)⟩
end

theorem wpl_appendW {ops : Array Oper} {rest : List Oper} {o : Oper} {a : Act} {Q : Exit → Act → World → Prop} {w : World} (hgd : o.guard = none) (s x : Operand)
    (ho : o.op = .call { callee := .builtin .append, args := #[s, x], argTypes := #[84, 84] })
    (base : Nat) (A : Option Addr) (c n : Nat) (ss : List Sw) (hs : a.eval s = .slice A n c) (hn : n = ss.length) (hb : BufW w base A c ss)
    (b d : Nat) (e : Sw) (hx : a.eval x = .slice (some ⟨b, 0, none⟩) 1 d) (hr : Blk w b 68 #[.int .i64 (e.a : Int), .int .i64 (e.b : Int), .int .i64 (e.c : Int), .int .i64 (e.d : Int)]) (hlen : n + 1 ≤ 1048576) (hbase : base ≤ w.heap.size)
    (h : ∀ g c' w', BufW w' base (some ⟨g, 0, none⟩) c' (ss ++ [e]) → w.grownBy w' (rowA A) → (A = some ⟨g, 0, none⟩ ∨ g = w.heap.size) → wpList Try.prog ops Q rest (a.put o.dst (.slice (some ⟨g, 0, none⟩) (n + 1) c')) w') : wpList Try.prog ops Q (o :: rest) a w := by
  obtain ⟨i0, hi, hz0, hz1, hz2⟩ := info_parts infoSw
  subst hn
  refine wpList_append_own_at w hgd s x 84 ho base 68 i0 (.agg #[.int .i64 0, .int .i64 0, .int .i64 0, .int .i64 0]) 4 32 Try.underlying84 hi hz0 hz1 hz2 rfl (by decide) _ ss.length _ hs hb ⟨b, 0, none⟩ 1 d e.cells hx rfl ?_ (fun u hu => swCells_one [e] u (by simpa [swCells] using hu)) (by unfold maxLen; omega) (by omega) hbase ?_
  · intro j u hu
    rw [Go.WideShapes.add_plain, hr.cell, Nat.zero_add]
    simpa [Sw.cells] using hu
  · intro v' w' hown hg _ hat
    rcases hown.2 with ⟨hv, hn⟩ | ⟨g, cap, cur, rfl, hb', hh, hn, hm, hsz, ht⟩
    · omega
    · refine h g cap w' ?_ (by cases A <;> exact hg) ?_
      · unfold BufW
        rw [List.length_append, swCells_snoc]
        exact hown
      · rcases hat with h1 | h1
        · cases A with
          | none => simp [Value.ownBlock] at h1
          | some a =>
            rcases hb.form with ⟨e, _⟩ | ⟨g', cs, e, _⟩
            · cases e
            · injection e with e; subst e
              simp [Value.ownBlock] at h1
              exact .inl (by rw [h1])
        · simp [Value.ownBlock] at h1
          exact .inr h1

def swListW (W : Int) (xs : List Int) : List Sw := if okB W xs then swList W.toNat xs else []

/-- the state of the search: the switches so far in memory of one's own from base on -/
def SInv (w wr : World) (base : Nat) (m n c : Nat) (A : Option Addr) (v : Value) (ss : List Sw) : Prop :=
  Below w.heap.size w wr ∧ Blk wr w.heap.size 27 #[.int .i64 (m : Int), .slice A n c] ∧ base ≤ wr.heap.size ∧ ∃ B c', v = .slice B ss.length c' ∧ BufW wr base B c' ss
theorem SInv.next {w wr w2 : World} {base m n c : Nat} {A : Option Addr} {v : Value} {ss : List Sw} (h : SInv w wr base m n c A v ss) (hb : Below wr.heap.size wr w2) : SInv w w2 base m n c A v ss := by
  obtain ⟨h1, h2, h3, B, c', h4, h5⟩ := h
  exact ⟨lo_trans h1 hb, h2.next hb, Nat.le_trans h3 hb.size, B, c', h4, h5.next hb⟩

set_option maxHeartbeats 8000000 in
theorem spec_SwitchList_c (W : Int) (A : Option Addr) (n c : Nat) (xs : List Int) (w : World) (hr : Rd w A n xs) (hn : n ≤ 1073741824) :
    Calls Try.prog 56 #[.agg #[.int .i64 W, .slice A n c]] w fun e w' => ∃ R c', e = .returned (.slice R (swListW W xs).length c') ∧ Below w.heap.size w w' ∧ BufW w' w.heap.size R c' (swListW W xs) := by
  have hB00 : BufW ((w.alloc (.cells #[.int .i64 W, .slice A n c] 27)).alloc (.cells #[] 68)) (w.heap.size + 1) (some ⟨w.heap.size + 1, 0, none⟩) 0 [] :=
    ⟨rfl, .inr ⟨w.heap.size + 1, 0, #[], rfl, Nat.le_refl _, heap_at2 w (.cells #[.int .i64 W, .slice A n c] 27) 68 #[], Nat.le_refl _, Nat.zero_le _, rfl, rfl⟩⟩
  cases hk : okB W xs with
  | false =>
    have hT := Lib.hid (show swListW W xs = [] by simp [swListW, hk])
    go_enter Try.func56, Try.ntmps56
    go_wp2_with fail
    refine (spec_ImageValid_c _ _ _ _ xs _ ((hr.alloc _).alloc _) (by omega)).mono ?_
    rw [hk]
    rintro e w1 ⟨rfl, hb1⟩
    go_wp2
    go_ret
    refine ⟨some ⟨w.heap.size + 1, 0, none⟩, 0, by rw [hT.out]; rfl, by (repeat (first | exact Below.refl _ _ | assumption | refine lo_alloc ?_ _ | refine lo_set ?_ (by simp; try omega) _ | refine Below.drew ?_ | refine below_drewN ?_ _ | refine lo_trans ?_ (by assumption) | refine lo_wr ?_ (by assumption) (by omega))), ?_⟩
    rw [hT.out]
    exact (hB00.next hb1).mono (by omega)
  | true =>
    have hbd := okB_bd hk
    rw [hr.1] at hbd
    obtain ⟨m, rfl⟩ := Int.eq_ofNat_of_zero_le (show 0 ≤ W by omega)
    have hk' := Lib.hid hk
    have hI00 : SInv w ((w.alloc (.cells #[.int .i64 (m : Int), .slice A n c] 27)).alloc (.cells #[] 68)) (w.heap.size + 1) m n c A (.slice (some ⟨w.heap.size + 1, 0, none⟩) 0 0) [] :=
      ⟨by (repeat (first | exact Below.refl _ _ | assumption | refine lo_alloc ?_ _ | refine lo_set ?_ (by simp; try omega) _ | refine Below.drew ?_ | refine below_drewN ?_ _ | refine lo_trans ?_ (by assumption) | refine lo_wr ?_ (by assumption) (by omega))), (Blk.new w _ _).alloc _, by simp, _, _, rfl, hB00⟩
    go_enter Try.func56, Try.ntmps56
    go_wp2_with fail
    refine (spec_ImageValid_c _ _ _ _ xs _ ((hr.alloc _).alloc _) (by omega)).mono ?_
    rw [hk]
    rintro e w1 ⟨rfl, hb1⟩
    have hI0 := hI00.next hb1
    clear hk hI00 hb1 hB00
    go_wp2
    go_loopw [3, 4] (fun v i wr => ∃ (a : Nat) (ss : List Sw), a ≤ n ∧ i = .int .i64 a ∧ Hid (ss = swS n m xs a (a + 1) 0 1) ∧ SInv w wr (w.heap.size + 1) m n c A v ss) (fun _ i _ => n - (intOf i).toNat)
    case atStart => exact ⟨0, [], Nat.zero_le _, rfl, Lib.hid (by rw [swS_0]), hI0⟩
    case round =>
      clear hI0
      obtain ⟨a, ss, ha, rfl, hss, hI⟩ := hrel
      obtain ⟨wo, rfl⟩ : ∃ wo : World, wo = wr := ⟨_, rfl⟩
      have c1 := hI.2.1.cell 1
      by_cases hlt : a < n
      · go_wp2
        go_loopw [3, 5] (fun v i wr => ∃ (k : Nat) (ss : List Sw), a + 1 ≤ k ∧ k ≤ n ∧ i = .int .i64 k ∧ Hid (ss = swS n m xs a k 0 1) ∧ SInv w wr (w.heap.size + 1) m n c A v ss) (fun _ i _ => n - (intOf i).toNat)
        case atStart => exact ⟨a + 1, ss, Nat.le_refl _, by omega, by go_num, hss, hI⟩
        case round =>
          clear hI hss c1
          obtain ⟨k, ss, hak, hkn, rfl, hss, hI⟩ := hrel
          obtain ⟨wo2, rfl⟩ : ∃ wo : World, wo = wr := ⟨_, rfl⟩
          have c1 := hI.2.1.cell 1
          by_cases hlt2 : k < n
          · go_wp2
            go_loopw [3, 6] (fun v i wr => ∃ (q : Nat) (ss : List Sw), q ≤ m ∧ i = .int .i64 q ∧ Hid (ss = swS n m xs a k q (q + 1)) ∧ SInv w wr (w.heap.size + 1) m n c A v ss) (fun _ i _ => m - (intOf i).toNat)
            case atStart => exact ⟨0, ss, Nat.zero_le _, rfl, hss, hI⟩
            case round =>
              clear hI hss c1
              obtain ⟨q, ss, hq, rfl, hss, hI⟩ := hrel
              obtain ⟨wo3, rfl⟩ : ∃ wo : World, wo = wr := ⟨_, rfl⟩
              have c0 := hI.2.1.cell 0
              by_cases hlt3 : q < m
              · go_wp2
                go_loopw [3, 7] (fun v i wr => ∃ (d : Nat) (ss : List Sw), q + 1 ≤ d ∧ d ≤ m ∧ i = .int .i64 d ∧ Hid (ss = swS n m xs a k q d) ∧ SInv w wr (w.heap.size + 1) m n c A v ss) (fun _ i _ => m - (intOf i).toNat)
                case atStart => exact ⟨q + 1, ss, Nat.le_refl _, by omega, by go_num, hss, hI⟩
                case round =>
                  clear hI hss c0
                  obtain ⟨d, ss, hqd, hdm, rfl, hss, hI⟩ := hrel
                  by_cases hlt4 : d < m
                  · have hlen : ss.length < 1600 := by rw [hss.out]; exact swS_len xs (by omega) (by omega) (by omega) (by omega) (by omega) (by omega)
                    have c0 := hI.2.1.cell 0
                    have c1 := hI.2.1.cell 1
                    have hzw := hI.2.1.lt
                    have hb1 := lo_alloc (Below.refl wr.heap.size wr) (.cells #[.int .i64 (a : Int), .int .i64 (k : Int), .int .i64 (q : Int), .int .i64 (d : Int)] 68)
                    have hx2 := Blk.new wr 68 #[.int .i64 (a : Int), .int .i64 (k : Int), .int .i64 (q : Int), .int .i64 (d : Int)]
                    have hR := (hr.next hI.1).next hb1
                    go_wp2_with fail
                    refine (l11Ok_c m n c A xs ⟨a, k, q, d⟩ _ hR hk'.out ⟨by dsimp only; omega, by dsimp only; omega, by dsimp only; omega, by dsimp only; omega⟩).mono ?_
                    rintro e w2 ⟨rfl, hb2⟩
                    have hI2 := (hI.next hb1).next hb2
                    have hx3 := hx2.next hb2
                    clear hI hb1 hb2 hx2 hR c0 c1
                    have c0 := hI2.2.1.cell 0
                    have x0 := hx3.cell 0
                    have x1 := hx3.cell 1
                    have x2 := hx3.cell 2
                    have x3 := hx3.cell 3
                    cases hsw : swOk xs ⟨a, k, q, d⟩ with
                    | false =>
                      have hN : Hid (ss = swS n m xs a k q (d + 1)) := Lib.hid (by rw [swS_d hqd, if_neg (by rw [hsw]; simp)]; exact hss.out)
                      clear hsw
                      go_wp2
                      go_roundw
                      case rel => exact ⟨d + 1, ss, by omega, by omega, by go_num, hN, hI2⟩
                      case measure => simp [intOf]; omega
                    | true =>
                      have hN : Hid (ss ++ [⟨a, k, q, d⟩] = swS n m xs a k q (d + 1)) := Lib.hid (by rw [swS_d hqd, if_pos hsw, hss.out])
                      clear hsw
                      obtain ⟨hW, hBx, hbs, B, c', rfl, hBf⟩ := hI2
                      have hb3 := lo_alloc (Below.refl w2.heap.size w2) (.cells #[.int .i64 (a : Int), .int .i64 (k : Int), .int .i64 (q : Int), .int .i64 (d : Int)] 68)
                      have hBf3 := hBf.next hb3
                      have hW3 := lo_trans hW hb3
                      have hBx3 := hBx.next hb3
                      have hn3 := Blk.new w2 68 #[.int .i64 (a : Int), .int .i64 (k : Int), .int .i64 (q : Int), .int .i64 (d : Int)]
                      have hs3 : w.heap.size + 1 ≤ (w2.alloc (.cells #[.int .i64 (a : Int), .int .i64 (k : Int), .int .i64 (q : Int), .int .i64 (d : Int)] 68)).heap.size := by simp; omega
                      clear hW hBx hBf hb3 c0
                      go_wp2_with (at_builtin; refine (wpl_appendW rfl _ _ rfl (w.heap.size + 1) B c' ss.length ss rfl rfl hBf3 w2.heap.size 1 ⟨a, k, q, d⟩ rfl hn3 (by omega) hs3 ?_); intro g c4 w4 hB4 hg4 hat)
                      go_roundw
                      case rel =>
                        have hrow := hBf3.row
                        refine ⟨d + 1, _, by omega, by omega, by go_num, hN, lo_grown hW3 hg4 (fun g hg => by have := hrow g hg; omega), hBx3.grown hg4 (fun e => by have := hrow _ e.symm; omega), Nat.le_trans hs3 hg4.size, _, _, ?_, hB4⟩
                        simp
                      case measure => simp [intOf]; omega
                  · have hN : Hid (ss = swS n m xs a k (q + 1) (q + 1 + 1)) := Lib.hid (by rw [hss.out, show d = m by omega, swS_c])
                    have c0 := hI.2.1.cell 0
                    go_wp2
                    go_roundw
                    case rel => exact ⟨q + 1, ss, by omega, by go_num, hN, hI⟩
                    case measure => simp [intOf]; omega
              · have hN : Hid (ss = swS n m xs a (k + 1) 0 1) := Lib.hid (by rw [hss.out, show q = m by omega, swS_b hak])
                go_wp2
                go_roundw
                case rel => exact ⟨k + 1, ss, by omega, by omega, by go_num, hN, hI⟩
                case measure => simp [intOf]; omega
          · have hN : Hid (ss = swS n m xs (a + 1) (a + 1 + 1) 0 1) := Lib.hid (by rw [hss.out, show k = n by omega, swS_a])
            go_wp2
            go_roundw
            case rel => exact ⟨a + 1, ss, by omega, by go_num, hN, hI⟩
            case measure => simp [intOf]; omega
      · have hN : Hid (swListW (m : Int) xs = ss) := Lib.hid (by
          rw [swListW, hk'.out, if_pos rfl, Int.toNat_natCast, hss.out, show a = n by omega, ← hr.1, swS_end])
        obtain ⟨hW, hBx, hbs, B, c', rfl, hBf⟩ := hI
        go_wp2
        go_ret
        refine ⟨B, c', by rw [hN.out]; rfl, hW, ?_⟩
        rw [hN.out]
        exact hBf.mono (by omega)
end Go.Proofs.Ytjogfeichnkffaa
