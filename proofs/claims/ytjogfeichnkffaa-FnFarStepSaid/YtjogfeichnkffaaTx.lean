
/- Walks: the text of an image. -/
import Derived.Test.YtjogfeichnkffaaNb
import Derived.Test.YtjogfeichnkffaaBld
namespace Go.Proofs.Ytjogfeichnkffaa
open Go.RowKit Go.Shelf
attribute [local go_sem] Oper.semAt_some

def chr01 (b : Bool) : UInt8 := if b then 35 else 46
/-- the text of the cells so far -/
def txtPre {h m : Nat} (xs : List Int) (pre : List (Cell h m)) : List UInt8 := pre.flatMap (fun x => chr01 (cellF xs x.1.1 x.1.2) :: (if x.1.2 + 1 = m then [10] else []))
def textL (m : Nat) (xs : List Int) : List UInt8 := txtPre xs (cUpto xs.length m xs.length 0)
theorem textL_at {m n : Nat} {xs : List Int} (h : xs.length = n) : textL m xs = txtPre xs (cUpto n m n 0) := by subst h; rfl
def textW (W : Int) (xs : List Int) : List UInt8 := if okB W xs then textL W.toNat xs else []
theorem txtPre_snoc {h m : Nat} (xs : List Int) (pre : List (Cell h m)) (x : Cell h m) : txtPre xs (pre ++ [x]) = txtPre xs pre ++ (chr01 (cellF xs x.1.1 x.1.2) :: (if x.1.2 + 1 = m then [10] else [])) := by
  simp [txtPre]
theorem txtPre_len {h m : Nat} (xs : List Int) (pre : List (Cell h m)) : (txtPre xs pre).length ≤ pre.length * 2 := by
  have := flatMap_le (l := pre) (f := fun x => chr01 (cellF xs x.1.1 x.1.2) :: (if x.1.2 + 1 = m then [10] else [])) (k := 2) (fun x _ => by split <;> simp)
  exact this
theorem byteCells_snoc (l : List UInt8) (c : UInt8) : Lib.byteCells (l ++ [c]) = Lib.byteCells l ++ [.int .u8 (c.toNat : Int)] := by simp [Lib.byteCells]

abbrev Bd (b : Nat) (l : List UInt8) (w : World) : Prop := Lib.IsBuilderF 74 5 b b (Lib.byteCells l) w
theorem Bd.ownF {W W' : World} {b : Nat} {l : List UInt8} {row : Option Nat} (h : Bd b l W) (hg : W.grownBy W' row) (hr : ∀ r, row = some r → ∃ o : Obj, W.heap[r]? = some o ∧ o.isCells = false) : Bd b l W' := by
  have key : ∀ p, Lib.BuilderAtF 74 5 b b p (Lib.byteCells l) W → Lib.BuilderAtF 74 5 b b p (Lib.byteCells l) W' := by
    rintro p ⟨hB, v, hb, hown, hne⟩
    refine ⟨hB, v, Blk.ownF (t := 74) hb hg hr, hown.kept hg ?_, hne⟩
    rcases hown.2 with ⟨rfl, _⟩ | ⟨g, cap, cur, fz, rfl, _, hgg, _⟩
    · exact .inl rfl
    · refine .inr (fun e => ?_)
      obtain ⟨o, ho, hc⟩ := hr g (by rw [← e]; rfl)
      rw [hgg] at ho; cases ho; cases hc
  exact Or.imp (key _) (key _) h
theorem Bd.next {W W' : World} {b : Nat} {l : List UInt8} (h : Bd b l W) (hb : Below W.heap.size W W') : Bd b l W' := h.ownF (grown_of_below hb none) (fun r e => by cases e)
theorem Bd.new (w : World) : Bd w.heap.size [] (w.alloc (.cells #[.pointer none, .slice none 0 0] 74)) :=
  .inl ⟨Nat.le_refl _, .slice none 0 0, Blk.new w _ _, World.ownsRowF_nil _ _ _ _, by simp [Value.ownBlock]⟩
theorem ok_blk {W W' : World} {b g : Nat} {t : TypeId} {cs : Array Value} (h : Blk W g t cs) (k : Lib.OthersKept 5 (some b) W W') (hne : g ≠ b) (ht : t ≠ 5) : Blk W' g t cs :=
  k g _ h (by simpa using hne) (by intro c fz e; cases e; exact ht rfl)
theorem ok_keeps {W W' : World} {b : Nat} (k : Lib.OthersKept 5 (some b) W W') (hs : W.heap.size ≤ W'.heap.size) (hb : ∀ o : Obj, W.heap[b]? = some o → o.isCells = true) : KeepsOthers W W' :=
  ⟨hs, fun i o hi hc => k i o hi (by rintro ⟨⟩; have := hb o hi; rw [hc] at this; cases this) (by rintro c fz rfl; cases hc)⟩

theorem Bd.lt {W : World} {b : Nat} {l : List UInt8} (h : Bd b l W) : b < W.heap.size := by
  rcases h with h | h <;> exact h.lt
theorem Bd.isCells {W : World} {b : Nat} {l : List UInt8} (h : Bd b l W) : ∀ o : Obj, W.heap[b]? = some o → o.isCells = true := by
  intro o ho
  rcases h with h | h <;>
  · obtain ⟨_, v, hb, _⟩ := h
    rw [hb] at ho; cases ho; rfl
theorem wb_c (b : Nat) (l : List UInt8) (ch : UInt8) (c : Int) (hc : c = (ch.toNat : Int)) (w : World) (h : Bd b l w) (hl : l.length ≤ 1000) :
    Calls Try.prog 47 #[.pointer (some ⟨b, 0, none⟩), .int .u8 c] w fun e w' => e = .returned .nilIface ∧ Bd b (l ++ [ch]) w' ∧ Below b w w' ∧ Lib.OthersKept 5 (some b) w w' := by
  refine (bWriteByte_c b b _ c w h (by simp [Lib.byteCells]; omega) (Nat.le_of_lt h.lt)).mono ?_
  rintro e w' ⟨rfl, h1, h2, h3⟩
  refine ⟨rfl, .inr ?_, h2, h3⟩
  rw [byteCells_snoc, ← hc]
  exact h1
theorem KB.of_blk {W W' : World} {g : Nat} {t : TypeId} {cs : Array Value} (h : Blk W g t cs) (k : Blk W' g t cs) : KB g W W' := Eq.trans k (Eq.symm h)

/-- what lies in memory while the text is written -/
def TInv (w W4 W : World) (b n c m : Nat) (A : Option Addr) (l : List UInt8) : Prop :=
  Below w.heap.size w W ∧ Blk W w.heap.size 27 #[.int .i64 (m : Int), .slice A n c] ∧ Blk W (b + 1) 27 #[.int .i64 (m : Int), .slice A n c] ∧ Bd b l W ∧ W4.heap.size ≤ W.heap.size
theorem TInv.next {w W4 W W' : World} {b n c m : Nat} {A : Option Addr} {l : List UInt8} (h : TInv w W4 W b n c m A l) (hb : Below W.heap.size W W') : TInv w W4 W' b n c m A l :=
  ⟨lo_trans h.1 hb, h.2.1.next hb, h.2.2.1.next hb, h.2.2.2.1.next hb, Nat.le_trans h.2.2.2.2 hb.size⟩
theorem TInv.wrote {w W4 W W' : World} {b n c m : Nat} {A : Option Addr} {l l' : List UInt8} (h : TInv w W4 W b n c m A l) (hwb : w.heap.size < b) (h1 : Bd b l' W') (h2 : Below b W W') (h3 : Lib.OthersKept 5 (some b) W W') :
    TInv w W4 W' b n c m A l' ∧ KeepsOthers W W' ∧ KB (b + 1) W W' := by
  have k1 := ok_blk h.2.1 h3 (by omega) (by decide)
  have k2 := ok_blk h.2.2.1 h3 (by omega) (by decide)
  exact ⟨⟨h.1.trans (h2.mono (by omega)), k1, k2, h1, Nat.le_trans h.2.2.2.2 h2.size⟩, ok_keeps h3 h2.size h.2.2.2.1.isCells, KB.of_blk h.2.2.1 k2⟩

set_option maxRecDepth 100000 in
set_option maxHeartbeats 4000000 in
theorem ImageText_c (W : Int) (A : Option Addr) (n c : Nat) (xs : List Int) (w : World) (hr : Rd w A n xs) (hn : n ≤ 1073741824) :
    Calls Try.prog 31 #[.agg #[.int .i64 W, .slice A n c]] w fun e w' => e = .returned (.string ⟨(textW W xs).toArray⟩) ∧ Below w.heap.size w w' := by
  cases hk : okB W xs with
  | false =>
    have hT := Lib.hid (show textW W xs = [] by simp [textW, hk])
    go_enter Try.func31, Try.ntmps31
    go_wp2_with fail
    refine (impl_ImageValid_c _ _ _ _ xs _ (hr.alloc _) (by omega)).mono ?_
    rw [hk]
    rintro e w1 ⟨rfl, hb1⟩
    go_wp2
    go_ret
    exact ⟨by rw [hT.out]; rfl, by (repeat (first | exact Below.refl _ _ | assumption | refine lo_alloc ?_ _ | refine lo_set ?_ (by simp; try omega) _ | refine Below.drew ?_ | refine below_drewN ?_ _ | refine lo_trans ?_ (by assumption) | refine lo_wr ?_ (by assumption) (by omega)))⟩
  | true =>
    have hbd := okB_bd hk
    rw [hr.1] at hbd
    obtain ⟨m, rfl⟩ := Int.eq_ofNat_of_zero_le (show 0 ≤ W by omega)
    have hk' := Lib.hid hk
    refine (callsIn_wide (n := 3)).1 ?_
    refine callsIn_of_wp_marks Try.func31 rfl trivial ?_ rfl
    simp only [Try.ntmps31, List.size_toArray, List.length_cons, List.length_nil, Nat.reduceAdd, Nat.reduceSub, Array.replicate_succ, Array.replicate_zero, List.push_toArray, List.append_toArray, List.nil_append, List.cons_append]
    gi_wp2_with fail
    refine ⟨trivial, ?_⟩
    gi_at_call 26
    refine (callsIn_wide.2 (impl_ImageValid_c _ _ _ _ xs _ (hr.alloc _) (by omega))).mono ?_
    rw [hk]
    rintro e w1 ⟨rfl, hb1⟩
    clear hk
    have hKa : Blk w1 w.heap.size _ _ := (Blk.new w 27 #[.int .i64 (m : Int), .slice A n c]).next hb1
    have hB1 : Below w.heap.size w w1 := by (repeat (first | exact Below.refl _ _ | assumption | refine lo_alloc ?_ _ | refine lo_set ?_ (by simp; try omega) _ | refine Below.drew ?_ | refine below_drewN ?_ _ | refine lo_trans ?_ (by assumption) | refine lo_wr ?_ (by assumption) (by omega)))
    have a0 := hKa.cell 0
    have a1 := hKa.cell 1
    have hz1 := hKa.lt
    clear hb1
    gi_wp2_with (refine ⟨trivial, ?_⟩; gi_at_call 36; refine (cells_in Fence.wide _ trivial rfl _ _ _).mono ?_; rintro e w3 ⟨rfl, rfl⟩)
    have hBd := (Bd.new w1).next (lo_alloc (Below.refl _ _) (.cells #[.int .i64 (m : Int), .slice A n c] 27))
    have hS := Blk.new (w1.alloc (.cells #[.pointer none, .slice none 0 0] 74)) 27 #[.int .i64 (m : Int), .slice A n c]
    rw [World.size_alloc] at hS
    have hKa4 := (hKa.alloc (.cells #[.pointer none, .slice none 0 0] 74)).alloc (.cells #[.int .i64 (m : Int), .slice A n c] 27)
    have hB4 := lo_alloc (lo_alloc hB1 (.cells #[.pointer none, .slice none 0 0] 74)) (.cells #[.int .i64 (m : Int), .slice A n c] 27)
    have hsz : ((w1.alloc (.cells #[.pointer none, .slice none 0 0] 74)).alloc (.cells #[.int .i64 (m : Int), .slice A n c] 27)).heap.size = w1.heap.size + 2 := by simp
    clear a0 a1 hKa hB1
    generalize (w1.alloc (.cells #[.pointer none, .slice none 0 0] 74)).alloc (.cells #[.int .i64 (m : Int), .slice A n c] 27) = w4 at hBd hS hKa4 hB4 hsz ⊢
    obtain ⟨b, hb⟩ : ∃ b, b = w1.heap.size := ⟨_, rfl⟩
    rw [← hb] at hBd hS hsz hz1 ⊢
    clear hb
    have hI0 : TInv w w4 w4 b n c m A (txtPre (h := n) (m := m) xs []) := ⟨hB4, hKa4, hS, hBd, Nat.le_refl _⟩
    refine wpIn_rangeFunc_ownG rfl (by omega) (gf := 50) (lb := #[.pointer (some ⟨b + 1, 0, none⟩)]) rfl trivial (enters_of Try.func50 (by kernel_rfl) rfl)
      (cells_stops Fence.wide _ trivial rfl (by omega) (b + 1) n m c A (by omega) (by omega) w4 (by omega) hS) KB.trans (KB.put (by omega)) (Below.refl _ _) (fun _ => rfl)
      (fun pre W => TInv w w4 W b n c m A (txtPre (h := n) (m := m) xs pre) ∧ pre.length ≤ 100)
      (fun _ _ _ => False)
      (fun pre X Y row hs hg hr => ⟨⟨ownFrom_below (β := Unit) (Nat.le_refl w.heap.size) (by omega) () X Y row hs.1.1 hg hr, hs.1.2.1.ownF hg (fun r e => (hr r e).2), hs.1.2.2.1.ownF hg (fun r e => (hr r e).2), hs.1.2.2.2.1.ownF hg (fun r e => (hr r e).2), Nat.le_trans hs.1.2.2.2.2 hg.size⟩, hs.2⟩)
      (fun _ _ _ _ _ hs _ _ => hs)
      ⟨hI0, by simp⟩
      (fun x => { tmps := #[.agg #[.int .i64 (m : Int), .slice A n c], .pointer (some ⟨w.heap.size, 0, none⟩), .string ⟨#[]⟩, .pointer (some ⟨b, 0, none⟩), .int .i64 (x.1.1 : Int), .int .i64 (x.1.2 : Int),
        .agg #[.int .i64 (m : Int), .slice A n c], .bool true, .bool false, .agg #[.int .i64 (m : Int), .slice A n c], .func (.func 50) #[] #[.pointer (some ⟨b + 1, 0, none⟩)], .int .i64 (x.1.1 : Int), .int .i64 (x.1.2 : Int),
        undef, undef, undef, undef, undef, undef, undef, undef, undef, undef, undef, undef, undef], defers := [] }) ?assign ?body ?done ?stop
    case assign =>
      intro l x W K hK
      gi_wp2
      exact hK
    case body =>
      rintro l pre ⟨⟨i, j⟩, hi, hj⟩ W ⟨hI, _⟩ hlen
      dsimp only at hi hj
      obtain ⟨r, hr1, hr2⟩ := okB_at hk'.out (k := i) (by rw [hr.1]; exact hi)
      have hcf : Hid (cellF xs i j = r.testBit j) := Lib.hid (by simp only [cellF, hr1, Int.toNat_natCast])
      have hl2 := txtPre_len (h := n) (m := m) xs pre
      have hsn := Lib.hid (txtPre_snoc (h := n) (m := m) xs pre ⟨(i, j), hi, hj⟩)
      have hpl : (pre ++ [(⟨(i, j), hi, hj⟩ : Cell n m)]).length ≤ 100 := by simp; omega
      generalize txtPre xs pre = t0 at hI hl2 hsn
      have a0 := hI.2.1.cell 0
      have a1 := hI.2.1.cell 1
      gi_wp2_with fail
      refine ⟨trivial, ?_⟩
      gi_at_call 37
      refine (CallsIn.inRound l (callsIn_wide.2 (has_c i j r n c m xs A _ (hr.next hI.1) hi (by omega) hr2 hr1))).mono ?_
      rintro e W2 ⟨rfl, hb2⟩
      have hI2 := hI.next hb2
      have hkf : KeepsOthers W W2 := keeps_below hb2
      have hKB : KB (b + 1) W W2 := KB.of_below hb2 hI.2.2.1.lt
      clear a0 a1 hI hb2
      have a0 := hI2.2.1.cell 0
      cases hbit : r.testBit j with
      | false =>
        gi_wp2_with fail
        refine ⟨trivial, ?_⟩
        gi_at_call 47
        refine (CallsIn.inRound l (callsIn_wide.2 (wb_c b t0 46 46 rfl _ hI2.2.2.2.1 (by omega)))).mono ?_
        rintro e W3 ⟨rfl, h1, h2, h3⟩
        obtain ⟨hI3, hk3, hb3⟩ := hI2.wrote hz1 h1 h2 h3
        clear a0 hI2 h1 h2 h3
        have a0 := hI3.2.1.cell 0
        by_cases hjm : j + 1 = m
        · have hd : ((j : Int) == (m : Int) - 1) = true := by simp; omega
          gi_wp2_with fail
          refine ⟨trivial, ?_⟩
          gi_at_call 47
          refine (CallsIn.inRound l (callsIn_wide.2 (wb_c b (t0 ++ [46]) 10 10 rfl _ hI3.2.2.2.1 (by simp; omega)))).mono ?_
          rintro e W4 ⟨rfl, h1, h2, h3⟩
          obtain ⟨hI4, hk4, hb4⟩ := hI3.wrote hz1 h1 h2 h3
          gi_wp2
          refine ⟨((hkf.trans hk3).trans hk4).from _, (hKB.trans hb3).trans hb4, ?_, hpl⟩
          rw [hsn.out]
          simp only [hcf.out, hbit, chr01, if_pos hjm]
          simpa using hI4
        · have hd : ((j : Int) == (m : Int) - 1) = false := by simp; omega
          gi_wp2
          refine ⟨(hkf.trans hk3).from _, hKB.trans hb3, ?_, hpl⟩
          rw [hsn.out]
          simp only [hcf.out, hbit, chr01, if_neg hjm]
          simpa using hI3
      | true =>
        gi_wp2_with fail
        refine ⟨trivial, ?_⟩
        gi_at_call 47
        refine (CallsIn.inRound l (callsIn_wide.2 (wb_c b t0 35 35 rfl _ hI2.2.2.2.1 (by omega)))).mono ?_
        rintro e W3 ⟨rfl, h1, h2, h3⟩
        obtain ⟨hI3, hk3, hb3⟩ := hI2.wrote hz1 h1 h2 h3
        clear a0 hI2 h1 h2 h3
        have a0 := hI3.2.1.cell 0
        by_cases hjm : j + 1 = m
        · have hd : ((j : Int) == (m : Int) - 1) = true := by simp; omega
          gi_wp2_with fail
          refine ⟨trivial, ?_⟩
          gi_at_call 47
          refine (CallsIn.inRound l (callsIn_wide.2 (wb_c b (t0 ++ [35]) 10 10 rfl _ hI3.2.2.2.1 (by simp; omega)))).mono ?_
          rintro e W4 ⟨rfl, h1, h2, h3⟩
          obtain ⟨hI4, hk4, hb4⟩ := hI3.wrote hz1 h1 h2 h3
          gi_wp2
          refine ⟨((hkf.trans hk3).trans hk4).from _, (hKB.trans hb3).trans hb4, ?_, hpl⟩
          rw [hsn.out]
          simp only [hcf.out, hbit, chr01, if_pos hjm]
          simpa using hI4
        · have hd : ((j : Int) == (m : Int) - 1) = false := by simp; omega
          gi_wp2
          refine ⟨(hkf.trans hk3).from _, hKB.trans hb3, ?_, hpl⟩
          rw [hsn.out]
          simp only [hcf.out, hbit, chr01, if_neg hjm]
          simpa using hI3
    case done =>
      rintro D ys W hD rfl ⟨hI, _⟩ hK
      have hT := Lib.hid (show textW m xs = txtPre xs (cUpto n m n 0) by
        simp only [textW, hk'.out, if_true, Int.toNat_natCast]
        exact textL_at hr.1)
      gi_wp2_with fail
      refine ⟨trivial, ?_⟩
      gi_at_call 48
      refine (callsIn_wide.2 (bString_c b b _ _ hI.2.2.2.1 (Nat.le_of_lt hI.2.2.2.1.lt))).mono ?_
      rintro e W5 ⟨rfl, h1, h2, h3⟩
      obtain ⟨hI5, hk5, _⟩ := hI.wrote hz1 h1 h2 h3
      have hK5 := hk5.same D _ hK rfl
      gi_wp2
      refine ⟨by simp, .inl ⟨_, _, rfl, run_takeDeferred hK5, ?_⟩⟩
      refine ⟨.string ⟨(txtPre xs (cUpto n m n 0)).toArray⟩, by simp [results, Try.results31, go_sem], by rw [hT.out], ?_⟩
      exact hI5.1.trans (belowK_b (w := w) (Nat.le_refl _) _ D _ _ (by omega) hK5 rfl rfl)
    case stop =>
      rintro D cc pre W _ _ h _
      exact h.elim
end Go.Proofs.Ytjogfeichnkffaa
