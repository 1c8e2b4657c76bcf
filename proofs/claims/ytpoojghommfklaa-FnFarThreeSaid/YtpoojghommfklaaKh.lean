
/- Plain facts and walks that the law's proof uses; each says its own conditions. -/
import Derived.Shelf.Strings.BuilderK
import Derived.Test.YtpoojghommfklaaKa
import Derived.Test.YtpoojghommfklaaProg
import Derived.Test.YtpoojghommfklaaKl
import Derived.Test.YtpoojghommfklaaKf
import Derived.Maps.OwnSet
import Derived.Maps.OwnOps
import Derived.Deep.AppendSrc
-- The library's strings.Builder at this program: its contracts laid.
namespace Go.Proofs.Ytpoojghommfklaa
open Go.Shelf Go.RowKit

def renS : Go.Shelf.Ren := ⟨fun | 169 => 34 | n => n, fun | 70 => 57 | 9 => 9 | 0 => 0 | 72 => 59 | 37 => 22 | 127 => 79 | 3 => 3 | 5 => 5 | n => n, fun | n => n⟩
theorem laysS : Go.Proofs.Lays.n169 Try.prog renS := {
  mixed := by kernel_rfl
  f169 := Try.func34.trans (congrArg some (by kernel_rfl))
  t0 := Try.underlying0
  a0 := Try.isAgg0
  z0 := Try.sizeOf0
  v0 := Try.zeroValue0
  t3 := Try.underlying3
  a3 := Try.isAgg3
  z3 := Try.sizeOf3
  v3 := Try.zeroValue3
  t9 := Try.underlying9
  a9 := Try.isAgg9
  z9 := Try.sizeOf9
  v9 := Try.zeroValue9
  t37 := Try.underlying22
  a37 := Try.isAgg22
  z37 := Try.sizeOf22
  v37 := Try.zeroValue22
  t70 := Try.underlying57
  a70 := Try.isAgg57
  z70 := Try.sizeOf57
  v70 := Try.zeroValue57
  t72 := Try.underlying59
  a72 := Try.isAgg59
  z72 := Try.sizeOf59
  v72 := Try.zeroValue59
  t127 := Try.underlying79
  a127 := Try.isAgg79
  z127 := Try.sizeOf79
  v127 := Try.zeroValue79 }
theorem extraS : Builder.Extra Try.prog renS := {
  sizeBuilder := by kernel_rfl
  liesBuilder := by kernel_rfl
  t5 := Try.underlying5
  a5 := Try.isAgg5
  z5 := Try.sizeOf5
  v5 := Try.zeroValue5
  infoByte := by kernel_rfl
  cellsByte := by kernel_rfl
  sizeByte := by kernel_rfl
  neB5 := by decide }
/-- the accumulated string -/
theorem bString_c (B b : Nat) (l : List UInt8) (w : World) (h : Lib.IsBuilderF 59 5 B b (Lib.byteCells l) w) (hBw : B ≤ w.heap.size) :
    Calls Try.prog 34 #[.pointer (some ⟨b, 0, none⟩)] w fun e w' => e = .returned (.string ⟨l.toArray⟩) ∧ (Lib.IsBuilderF 59 5 B b (Lib.byteCells l) w' ∧ Below B w w' ∧ Lib.OthersKept 5 (some b) w w') :=
  Any.Builder_String_any_k laysS extraS B b l w h hBw

def renW : Go.Shelf.Ren := ⟨fun | 167 => 33 | 240 => 49 | 276 => 69 | n => n,
  fun | 0 => 0 | 4 => 4 | 5 => 5 | 9 => 9 | 20 => 20 | 37 => 22 | 70 => 57 | 72 => 59 | 75 => 65 | 80 => 67 | 164 => 96 | n => n, fun | n => n⟩
theorem laysW : Go.Proofs.Lays.n167 Try.prog renW := {
  mixed := by kernel_rfl
  f167 := Try.func33.trans (congrArg some (by kernel_rfl))
  f240 := Try.func49.trans (congrArg some (by kernel_rfl))
  f276 := Try.func69.trans (congrArg some (by kernel_rfl))
  t0 := Try.underlying0
  a0 := Try.isAgg0
  z0 := Try.sizeOf0
  v0 := Try.zeroValue0
  t4 := Try.underlying4
  a4 := Try.isAgg4
  z4 := Try.sizeOf4
  v4 := Try.zeroValue4
  t5 := Try.underlying5
  a5 := Try.isAgg5
  z5 := Try.sizeOf5
  v5 := Try.zeroValue5
  t9 := Try.underlying9
  a9 := Try.isAgg9
  z9 := Try.sizeOf9
  v9 := Try.zeroValue9
  t20 := by kernel_rfl
  a20 := fun _ => by kernel_rfl
  z20 := fun _ => by kernel_rfl
  v20 := fun _ => by kernel_rfl
  t37 := Try.underlying22
  a37 := Try.isAgg22
  z37 := Try.sizeOf22
  v37 := Try.zeroValue22
  t70 := Try.underlying57
  a70 := Try.isAgg57
  z70 := Try.sizeOf57
  v70 := Try.zeroValue57
  t72 := Try.underlying59
  a72 := Try.isAgg59
  z72 := Try.sizeOf59
  v72 := Try.zeroValue59
  t75 := by kernel_rfl
  a75 := fun _ => by kernel_rfl
  z75 := fun _ => by kernel_rfl
  v75 := fun _ => by kernel_rfl
  t164 := by kernel_rfl
  a164 := fun _ => by kernel_rfl
  z164 := fun _ => by kernel_rfl
  v164 := fun _ => by kernel_rfl }
theorem extraW : Builder.Extra Try.prog renW := {
  sizeBuilder := by kernel_rfl
  liesBuilder := by kernel_rfl
  t5 := Try.underlying5
  a5 := Try.isAgg5
  z5 := Try.sizeOf5
  v5 := Try.zeroValue5
  infoByte := by kernel_rfl
  cellsByte := by kernel_rfl
  sizeByte := by kernel_rfl
  neB5 := by decide }
/-- one byte more -/
theorem bWriteByte_c (B b : Nat) (bs : List Value) (c : Int) (w : World) (h : Lib.IsBuilderF 59 5 B b bs w) (hlen : bs.length + 1 ≤ 140737488355328) (hBw : B ≤ w.heap.size) :
    Calls Try.prog 33 #[.pointer (some ⟨b, 0, none⟩), .int .u8 c] w fun e w' => e = .returned .nilIface ∧ (Lib.BuilderAtF 59 5 B b (.pointer (some ⟨b, 0, none⟩)) (bs ++ [.int .u8 c]) w' ∧ Below B w w' ∧ Lib.OthersKept 5 (some b) w w') :=
  Any.Builder_WriteByte_k laysW extraW B b bs c w h hlen hBw
end Go.Proofs.Ytpoojghommfklaa

-- Walks: the text of an image.
namespace Go.Proofs.Ytpoojghommfklaa
open Go.RowKit Go.Shelf
attribute [local go_sem] Oper.semAt_some

def chr01 (b : Bool) : UInt8 := if b then 35 else 46
/-- the text of the cells so far -/
def txtPre {h m : Nat} (xs : List Int) (pre : List (Cell h m)) : List UInt8 := pre.flatMap (fun x => chr01 (cellF xs x.1.1 x.1.2) :: (if x.1.2 + 1 = m then [10] else []))
def textL (m : Nat) (xs : List Int) : List UInt8 := txtPre xs (cUpto xs.length m xs.length 0)
theorem textL_at {m n : Nat} {xs : List Int} (h : xs.length = n) : textL m xs = txtPre xs (cUpto n m n 0) := by subst h; rfl
def textW (W : Int) (xs : List Int) : List UInt8 := if okB W xs then textL W.toNat xs else []
theorem txtPre_snoc {h m : Nat} (xs : List Int) (pre : List (Cell h m)) (x : Cell h m) : txtPre xs (pre ++ [x]) = txtPre xs pre ++ (chr01 (cellF xs x.1.1 x.1.2) :: (if x.1.2 + 1 = m then [10] else [])) := by
  simp [txtPre]
theorem txtPre_len {h m : Nat} (xs : List Int) (pre : List (Cell h m)) : (txtPre xs pre).length ≤ pre.length * 2 := by
  have := flatMap_le (l := pre) (f := fun x => chr01 (cellF xs x.1.1 x.1.2) :: (if x.1.2 + 1 = m then [10] else [])) (k := 2) (fun x _ => by split <;> simp)
  exact this
theorem byteCells_snoc (l : List UInt8) (c : UInt8) : Lib.byteCells (l ++ [c]) = Lib.byteCells l ++ [.int .u8 (c.toNat : Int)] := by simp [Lib.byteCells]

abbrev Bd (b : Nat) (l : List UInt8) (w : World) : Prop := Lib.IsBuilderF 59 5 b b (Lib.byteCells l) w
theorem Bd.ownF {W W' : World} {b : Nat} {l : List UInt8} {row : Option Nat} (h : Bd b l W) (hg : W.grownBy W' row) (hr : ∀ r, row = some r → ∃ o : Obj, W.heap[r]? = some o ∧ o.isCells = false) : Bd b l W' := by
  have key : ∀ p, Lib.BuilderAtF 59 5 b b p (Lib.byteCells l) W → Lib.BuilderAtF 59 5 b b p (Lib.byteCells l) W' := by
    rintro p ⟨hB, v, hb, hown, hne⟩
    refine ⟨hB, v, Blk.ownF (t := 59) hb hg hr, hown.kept hg ?_, hne⟩
    rcases hown.2 with ⟨rfl, _⟩ | ⟨g, cap, cur, fz, rfl, _, hgg, _⟩
    · exact .inl rfl
    · refine .inr (fun e => ?_)
      obtain ⟨o, ho, hc⟩ := hr g (by rw [← e]; rfl)
      rw [hgg] at ho; cases ho; cases hc
  exact Or.imp (key _) (key _) h
theorem Bd.next {W W' : World} {b : Nat} {l : List UInt8} (h : Bd b l W) (hb : Below W.heap.size W W') : Bd b l W' := h.ownF (grown_of_below hb none) (fun r e => by cases e)
theorem Bd.new (w : World) : Bd w.heap.size [] (w.alloc (.cells #[.pointer none, .slice none 0 0] 59)) :=
  .inl ⟨Nat.le_refl _, .slice none 0 0, Blk.new w _ _, World.ownsRowF_nil _ _ _ _, by simp [Value.ownBlock]⟩
theorem ok_blk {W W' : World} {b g : Nat} {t : TypeId} {cs : Array Value} (h : Blk W g t cs) (k : Lib.OthersKept 5 (some b) W W') (hne : g ≠ b) (ht : t ≠ 5) : Blk W' g t cs :=
  k g _ h (by simpa using hne) (by intro c fz e; cases e; exact ht rfl)
theorem ok_keeps {W W' : World} {b : Nat} (k : Lib.OthersKept 5 (some b) W W') (hs : W.heap.size ≤ W'.heap.size) (hb : ∀ o : Obj, W.heap[b]? = some o → o.isCells = true) : KeepsOthers W W' :=
  ⟨hs, fun i o hi hc => k i o hi (by rintro ⟨⟩; have := hb o hi; rw [hc] at this; cases this) (by rintro c fz rfl; cases hc)⟩

theorem Bd.lt {W : World} {b : Nat} {l : List UInt8} (h : Bd b l W) : b < W.heap.size := by
  rcases h with h | h <;> exact h.lt
theorem Bd.isCells {W : World} {b : Nat} {l : List UInt8} (h : Bd b l W) : ∀ o : Obj, W.heap[b]? = some o → o.isCells = true := by
  intro o ho
  rcases h with h | h <;>
  · obtain ⟨_, v, hb, _⟩ := h
    rw [hb] at ho; cases ho; rfl
theorem wb_c (b : Nat) (l : List UInt8) (ch : UInt8) (c : Int) (hc : c = (ch.toNat : Int)) (w : World) (h : Bd b l w) (hl : l.length ≤ 1000) :
    Calls Try.prog 33 #[.pointer (some ⟨b, 0, none⟩), .int .u8 c] w fun e w' => e = .returned .nilIface ∧ Bd b (l ++ [ch]) w' ∧ Below b w w' ∧ Lib.OthersKept 5 (some b) w w' := by
  refine (bWriteByte_c b b _ c w h (by simp [Lib.byteCells]; omega) (Nat.le_of_lt h.lt)).mono ?_
  rintro e w' ⟨rfl, h1, h2, h3⟩
  refine ⟨rfl, .inr ?_, h2, h3⟩
  rw [byteCells_snoc, ← hc]
  exact h1
theorem KB.of_blk {W W' : World} {g : Nat} {t : TypeId} {cs : Array Value} (h : Blk W g t cs) (k : Blk W' g t cs) : KB g W W' := Eq.trans k (Eq.symm h)

/-- what lies in memory while the text is written -/
def TInv (w W4 W : World) (b n c m : Nat) (A : Option Addr) (l : List UInt8) : Prop :=
  Below w.heap.size w W ∧ Blk W w.heap.size 25 #[.int .i64 (m : Int), .slice A n c] ∧ Blk W (b + 1) 25 #[.int .i64 (m : Int), .slice A n c] ∧ Bd b l W ∧ W4.heap.size ≤ W.heap.size
theorem TInv.next {w W4 W W' : World} {b n c m : Nat} {A : Option Addr} {l : List UInt8} (h : TInv w W4 W b n c m A l) (hb : Below W.heap.size W W') : TInv w W4 W' b n c m A l :=
  ⟨lo_trans h.1 hb, h.2.1.next hb, h.2.2.1.next hb, h.2.2.2.1.next hb, Nat.le_trans h.2.2.2.2 hb.size⟩
theorem TInv.wrote {w W4 W W' : World} {b n c m : Nat} {A : Option Addr} {l l' : List UInt8} (h : TInv w W4 W b n c m A l) (hwb : w.heap.size < b) (h1 : Bd b l' W') (h2 : Below b W W') (h3 : Lib.OthersKept 5 (some b) W W') :
    TInv w W4 W' b n c m A l' ∧ KeepsOthers W W' ∧ KB (b + 1) W W' := by
  have k1 := ok_blk h.2.1 h3 (by omega) (by decide)
  have k2 := ok_blk h.2.2.1 h3 (by omega) (by decide)
  exact ⟨⟨h.1.trans (h2.mono (by omega)), k1, k2, h1, Nat.le_trans h.2.2.2.2 h2.size⟩, ok_keeps h3 h2.size h.2.2.2.1.isCells, KB.of_blk h.2.2.1 k2⟩

set_option maxRecDepth 100000 in
set_option maxHeartbeats 4000000 in
theorem ImageText_c (W : Int) (A : Option Addr) (n c : Nat) (xs : List Int) (w : World) (hr : Rd w A n xs) (hn : n ≤ 1073741824) :
    Calls Try.prog 14 #[.agg #[.int .i64 W, .slice A n c]] w fun e w' => e = .returned (.string ⟨(textW W xs).toArray⟩) ∧ Below w.heap.size w w' := by
  cases hk : okB W xs with
  | false =>
    have hT := Lib.hid (show textW W xs = [] by simp [textW, hk])
    go_enter Try.func14, Try.ntmps14
    go_wp2_with fail
    refine (impl_ImageValid_c _ _ _ _ xs _ (hr.alloc _) (by omega)).mono ?_
    rw [hk]
    rintro e w1 ⟨rfl, hb1⟩
    go_wp2
    go_ret
    exact ⟨by rw [hT.out]; rfl, by (repeat (first | exact Below.refl _ _ | assumption | refine lo_alloc ?_ _ | refine lo_set ?_ (by simp; try omega) _ | refine Below.drew ?_ | refine below_drewN ?_ _ | refine lo_trans ?_ (by assumption) | refine lo_wr ?_ (by assumption) (by omega)))⟩
  | true =>
    have hbd := okB_bd hk
    rw [hr.1] at hbd
    obtain ⟨m, rfl⟩ := Int.eq_ofNat_of_zero_le (show 0 ≤ W by omega)
    have hk' := Lib.hid hk
    refine (callsIn_wide (n := 3)).1 ?_
    refine callsIn_of_wp_marks Try.func14 rfl trivial ?_ rfl
    simp only [Try.ntmps14, List.size_toArray, List.length_cons, List.length_nil, Nat.reduceAdd, Nat.reduceSub, Array.replicate_succ, Array.replicate_zero, List.push_toArray, List.append_toArray, List.nil_append, List.cons_append]
    gi_wp2_with fail
    refine ⟨trivial, ?_⟩
    gi_at_call 12
    refine (callsIn_wide.2 (impl_ImageValid_c _ _ _ _ xs _ (hr.alloc _) (by omega))).mono ?_
    rw [hk]
    rintro e w1 ⟨rfl, hb1⟩
    clear hk
    have hKa : Blk w1 w.heap.size _ _ := (Blk.new w 25 #[.int .i64 (m : Int), .slice A n c]).next hb1
    have hB1 : Below w.heap.size w w1 := by (repeat (first | exact Below.refl _ _ | assumption | refine lo_alloc ?_ _ | refine lo_set ?_ (by simp; try omega) _ | refine Below.drew ?_ | refine below_drewN ?_ _ | refine lo_trans ?_ (by assumption) | refine lo_wr ?_ (by assumption) (by omega)))
    have a0 := hKa.cell 0
    have a1 := hKa.cell 1
    have hz1 := hKa.lt
    clear hb1
    gi_wp2_with (refine ⟨trivial, ?_⟩; gi_at_call 31; refine (cells_in Fence.wide _ trivial rfl _ _ _).mono ?_; rintro e w3 ⟨rfl, rfl⟩)
    have hBd := (Bd.new w1).next (lo_alloc (Below.refl _ _) (.cells #[.int .i64 (m : Int), .slice A n c] 25))
    have hS := Blk.new (w1.alloc (.cells #[.pointer none, .slice none 0 0] 59)) 25 #[.int .i64 (m : Int), .slice A n c]
    rw [World.size_alloc] at hS
    have hKa4 := (hKa.alloc (.cells #[.pointer none, .slice none 0 0] 59)).alloc (.cells #[.int .i64 (m : Int), .slice A n c] 25)
    have hB4 := lo_alloc (lo_alloc hB1 (.cells #[.pointer none, .slice none 0 0] 59)) (.cells #[.int .i64 (m : Int), .slice A n c] 25)
    have hsz : ((w1.alloc (.cells #[.pointer none, .slice none 0 0] 59)).alloc (.cells #[.int .i64 (m : Int), .slice A n c] 25)).heap.size = w1.heap.size + 2 := by simp
    clear a0 a1 hKa hB1
    generalize (w1.alloc (.cells #[.pointer none, .slice none 0 0] 59)).alloc (.cells #[.int .i64 (m : Int), .slice A n c] 25) = w4 at hBd hS hKa4 hB4 hsz ⊢
    obtain ⟨b, hb⟩ : ∃ b, b = w1.heap.size := ⟨_, rfl⟩
    rw [← hb] at hBd hS hsz hz1 ⊢
    clear hb
    have hI0 : TInv w w4 w4 b n c m A (txtPre (h := n) (m := m) xs []) := ⟨hB4, hKa4, hS, hBd, Nat.le_refl _⟩
    refine wpIn_rangeFunc_ownG rfl (by omega) (gf := 48) (lb := #[.pointer (some ⟨b + 1, 0, none⟩)]) rfl trivial (enters_of Try.func48 (by kernel_rfl) rfl)
      (cells_stops Fence.wide _ trivial rfl (by omega) (b + 1) n m c A (by omega) (by omega) w4 (by omega) hS) KB.trans (KB.put (by omega)) (Below.refl _ _) (fun _ => rfl)
      (fun pre W => TInv w w4 W b n c m A (txtPre (h := n) (m := m) xs pre) ∧ pre.length ≤ 100)
      (fun _ _ _ => False)
      (fun pre X Y row hs hg hr => ⟨⟨ownFrom_below (β := Unit) (Nat.le_refl w.heap.size) (by omega) () X Y row hs.1.1 hg hr, hs.1.2.1.ownF hg (fun r e => (hr r e).2), hs.1.2.2.1.ownF hg (fun r e => (hr r e).2), hs.1.2.2.2.1.ownF hg (fun r e => (hr r e).2), Nat.le_trans hs.1.2.2.2.2 hg.size⟩, hs.2⟩)
      (fun _ _ _ _ _ hs _ _ => hs)
      ⟨hI0, by simp⟩
      (fun x => { tmps := #[.agg #[.int .i64 (m : Int), .slice A n c], .pointer (some ⟨w.heap.size, 0, none⟩), .string ⟨#[]⟩, .pointer (some ⟨b, 0, none⟩), .int .i64 (x.1.1 : Int), .int .i64 (x.1.2 : Int),
        .agg #[.int .i64 (m : Int), .slice A n c], .bool true, .bool false, .agg #[.int .i64 (m : Int), .slice A n c], .func (.func 48) #[] #[.pointer (some ⟨b + 1, 0, none⟩)], .int .i64 (x.1.1 : Int), .int .i64 (x.1.2 : Int),
        undef, undef, undef, undef, undef, undef, undef, undef, undef, undef, undef, undef, undef], defers := [] }) ?assign ?body ?done ?stop
    case assign =>
      intro l x W K hK
      gi_wp2
      exact hK
    case body =>
      rintro l pre ⟨⟨i, j⟩, hi, hj⟩ W ⟨hI, _⟩ hlen
      dsimp only at hi hj
      obtain ⟨r, hr1, hr2⟩ := okB_at hk'.out (k := i) (by rw [hr.1]; exact hi)
      have hcf : Hid (cellF xs i j = r.testBit j) := Lib.hid (by simp only [cellF, hr1, Int.toNat_natCast])
      have hl2 := txtPre_len (h := n) (m := m) xs pre
      have hsn := Lib.hid (txtPre_snoc (h := n) (m := m) xs pre ⟨(i, j), hi, hj⟩)
      have hpl : (pre ++ [(⟨(i, j), hi, hj⟩ : Cell n m)]).length ≤ 100 := by simp; omega
      generalize txtPre xs pre = t0 at hI hl2 hsn
      have a0 := hI.2.1.cell 0
      have a1 := hI.2.1.cell 1
      gi_wp2_with fail
      refine ⟨trivial, ?_⟩
      gi_at_call 32
      refine (CallsIn.inRound l (callsIn_wide.2 (has_c i j r n c m xs A _ (hr.next hI.1) hi (by omega) hr2 hr1))).mono ?_
      rintro e W2 ⟨rfl, hb2⟩
      have hI2 := hI.next hb2
      have hkf : KeepsOthers W W2 := keeps_below hb2
      have hKB : KB (b + 1) W W2 := KB.of_below hb2 hI.2.2.1.lt
      clear a0 a1 hI hb2
      have a0 := hI2.2.1.cell 0
      cases hbit : r.testBit j with
      | false =>
        gi_wp2_with fail
        refine ⟨trivial, ?_⟩
        gi_at_call 33
        refine (CallsIn.inRound l (callsIn_wide.2 (wb_c b t0 46 46 rfl _ hI2.2.2.2.1 (by omega)))).mono ?_
        rintro e W3 ⟨rfl, h1, h2, h3⟩
        obtain ⟨hI3, hk3, hb3⟩ := hI2.wrote hz1 h1 h2 h3
        clear a0 hI2 h1 h2 h3
        have a0 := hI3.2.1.cell 0
        by_cases hjm : j + 1 = m
        · have hd : ((j : Int) == (m : Int) - 1) = true := by simp; omega
          gi_wp2_with fail
          refine ⟨trivial, ?_⟩
          gi_at_call 33
          refine (CallsIn.inRound l (callsIn_wide.2 (wb_c b (t0 ++ [46]) 10 10 rfl _ hI3.2.2.2.1 (by simp; omega)))).mono ?_
          rintro e W4 ⟨rfl, h1, h2, h3⟩
          obtain ⟨hI4, hk4, hb4⟩ := hI3.wrote hz1 h1 h2 h3
          gi_wp2
          refine ⟨((hkf.trans hk3).trans hk4).from _, (hKB.trans hb3).trans hb4, ?_, hpl⟩
          rw [hsn.out]
          simp only [hcf.out, hbit, chr01, if_pos hjm]
          simpa using hI4
        · have hd : ((j : Int) == (m : Int) - 1) = false := by simp; omega
          gi_wp2
          refine ⟨(hkf.trans hk3).from _, hKB.trans hb3, ?_, hpl⟩
          rw [hsn.out]
          simp only [hcf.out, hbit, chr01, if_neg hjm]
          simpa using hI3
      | true =>
        gi_wp2_with fail
        refine ⟨trivial, ?_⟩
        gi_at_call 33
        refine (CallsIn.inRound l (callsIn_wide.2 (wb_c b t0 35 35 rfl _ hI2.2.2.2.1 (by omega)))).mono ?_
        rintro e W3 ⟨rfl, h1, h2, h3⟩
        obtain ⟨hI3, hk3, hb3⟩ := hI2.wrote hz1 h1 h2 h3
        clear a0 hI2 h1 h2 h3
        have a0 := hI3.2.1.cell 0
        by_cases hjm : j + 1 = m
        · have hd : ((j : Int) == (m : Int) - 1) = true := by simp; omega
          gi_wp2_with fail
          refine ⟨trivial, ?_⟩
          gi_at_call 33
          refine (CallsIn.inRound l (callsIn_wide.2 (wb_c b (t0 ++ [35]) 10 10 rfl _ hI3.2.2.2.1 (by simp; omega)))).mono ?_
          rintro e W4 ⟨rfl, h1, h2, h3⟩
          obtain ⟨hI4, hk4, hb4⟩ := hI3.wrote hz1 h1 h2 h3
          gi_wp2
          refine ⟨((hkf.trans hk3).trans hk4).from _, (hKB.trans hb3).trans hb4, ?_, hpl⟩
          rw [hsn.out]
          simp only [hcf.out, hbit, chr01, if_pos hjm]
          simpa using hI4
        · have hd : ((j : Int) == (m : Int) - 1) = false := by simp; omega
          gi_wp2
          refine ⟨(hkf.trans hk3).from _, hKB.trans hb3, ?_, hpl⟩
          rw [hsn.out]
          simp only [hcf.out, hbit, chr01, if_neg hjm]
          simpa using hI3
    case done =>
      rintro D ys W hD rfl ⟨hI, _⟩ hK
      have hT := Lib.hid (show textW m xs = txtPre xs (cUpto n m n 0) by
        simp only [textW, hk'.out, if_true, Int.toNat_natCast]
        exact textL_at hr.1)
      gi_wp2_with fail
      refine ⟨trivial, ?_⟩
      gi_at_call 34
      refine (callsIn_wide.2 (bString_c b b _ _ hI.2.2.2.1 (Nat.le_of_lt hI.2.2.2.1.lt))).mono ?_
      rintro e W5 ⟨rfl, h1, h2, h3⟩
      obtain ⟨hI5, hk5, _⟩ := hI.wrote hz1 h1 h2 h3
      have hK5 := hk5.same D _ hK rfl
      gi_wp2
      refine ⟨by simp, .inl ⟨_, _, rfl, run_takeDeferred hK5, ?_⟩⟩
      refine ⟨.string ⟨(txtPre xs (cUpto n m n 0)).toArray⟩, by simp [results, Try.results14, go_sem], by rw [hT.out], ?_⟩
      exact hI5.1.trans (belowK_b (w := w) (Nat.le_refl _) _ D _ _ (by omega) hK5 rfl rfl)
    case stop =>
      rintro D cc pre W _ _ h _
      exact h.elim
end Go.Proofs.Ytpoojghommfklaa

-- Plain mathematics: the text of an image tells the image.
namespace Go.Proofs.Ytpoojghommfklaa

theorem chr01_ne (b : Bool) : chr01 b ≠ 10 := by cases b <;> decide
theorem chr01_inj {a b : Bool} (h : chr01 a = chr01 b) : a = b := by revert h; cases a <;> cases b <;> decide
def rowT (m r : Nat) : List UInt8 := (List.range m).map (fun j => chr01 (r.testBit j)) ++ [10]
theorem txt_row {h m : Nat} (xs : List Int) (hm : 1 ≤ m) {k : Nat} (hk : k < h) : ∀ j, j ≤ m → txtPre xs (cUpto h m k j) = txtPre xs (cUpto h m k 0) ++ (List.range j).map (fun j => chr01 (cellF xs k j)) ++ (if j = m then [10] else [])
  | 0, _ => by simp; omega
  | j + 1, hj => by
    have ih := txt_row xs hm hk j (by omega)
    rw [cUpto_succ hk (by omega), txtPre_snoc, ih, if_neg (by omega), List.append_nil, List.range_succ, List.map_append]
    simp
theorem txt_rows {h m : Nat} (xs : List Int) (hm : 1 ≤ m) : ∀ k, k ≤ h → txtPre xs (cUpto h m k 0) = (List.range k).flatMap (fun i => rowT m (xs[i]?.getD 0).toNat)
  | 0, _ => by
    have : cUpto h m 0 0 = [] := by
      have := cUpto_len h m 0 0
      exact List.eq_nil_of_length_eq_zero (by omega)
    rw [this]; rfl
  | k + 1, hk => by
    rw [cUpto_next, txt_row xs hm (by omega) m (Nat.le_refl _), txt_rows xs hm k (by omega), if_pos rfl, List.range_succ, List.flatMap_append, List.append_assoc]
    simp only [List.flatMap_cons, List.flatMap_nil, List.append_nil, rowT]
    rfl
theorem range_flatMap {β : Type} (g : Int → List β) : ∀ xs : List Int, (List.range xs.length).flatMap (fun i => g (xs[i]?.getD 0)) = xs.flatMap g
  | [] => rfl
  | x :: xs => by
    rw [List.length_cons, List.range_succ_eq_map, List.flatMap_cons, List.flatMap_map, List.flatMap_cons]
    have := range_flatMap g xs
    simp only [List.getElem?_cons_zero, Option.getD_some, List.getElem?_cons_succ]
    rw [this]
theorem textL_eq {m : Nat} (xs : List Int) (hm : 1 ≤ m) : textL m xs = xs.flatMap (fun x => rowT m x.toNat) := by
  rw [textL, txt_rows xs hm _ (Nat.le_refl _)]
  exact range_flatMap (fun x => rowT m x.toNat) xs
theorem rowT_cut {m m' r r' : Nat} {s s' : List UInt8} (h : rowT m r ++ s = rowT m' r' ++ s') : (List.range m).map (fun j => chr01 (r.testBit j)) = (List.range m').map (fun j => chr01 (r'.testBit j)) ∧ s = s' := by
  have key : ∀ (m r : Nat) (s : List UInt8), (rowT m r ++ s).takeWhile (· != 10) = (List.range m).map (fun j => chr01 (r.testBit j)) := by
    intro m r s
    rw [rowT, List.append_assoc, List.takeWhile_append_of_pos]
    · simp
    · intro a ha
      obtain ⟨j, _, rfl⟩ := List.mem_map.1 ha
      simpa using chr01_ne _
  have h1 := congrArg (List.takeWhile (· != 10)) h
  rw [key, key] at h1
  refine ⟨h1, ?_⟩
  rw [rowT, rowT, h1] at h
  exact List.append_cancel_left h
theorem bits_inj {m r r' : Nat} (hr : r < 2 ^ m) (hr' : r' < 2 ^ m) (h : (List.range m).map (fun j => chr01 (r.testBit j)) = (List.range m).map (fun j => chr01 (r'.testBit j))) : r = r' := by
  refine row_ext hr hr' (fun j hj => ?_)
  have := congrArg (fun l => l[j]?) h
  simp only [List.getElem?_map, List.getElem?_range hj, Option.map_some] at this
  exact chr01_inj (Option.some.inj this)
theorem text_rows {m m' : Nat} : ∀ {xs ys : List Int}, xs ≠ [] → (∀ x ∈ xs, 0 ≤ x ∧ x.toNat < 2 ^ m) → (∀ x ∈ ys, 0 ≤ x ∧ x.toNat < 2 ^ m') → xs.flatMap (fun x => rowT m x.toNat) = ys.flatMap (fun x => rowT m' x.toNat) → m = m' ∧ xs = ys
  | [], _, h, _, _, _ => absurd rfl h
  | x :: xs, [], _, _, _, e => by simp [rowT] at e
  | x :: xs, y :: ys, _, hx, hy, e => by
    rw [List.flatMap_cons, List.flatMap_cons] at e
    obtain ⟨h1, h2⟩ := rowT_cut e
    have hm : m = m' := by simpa using congrArg List.length h1
    subst hm
    have a := hx x (by simp)
    have b := hy y (by simp)
    have e1 := bits_inj a.2 b.2 h1
    have e2 : x = y := by omega
    subst e2
    refine ⟨rfl, ?_⟩
    cases xs with
    | nil =>
      cases ys with
      | nil => rfl
      | cons z zs => simp [rowT] at h2
    | cons z zs =>
      rw [(text_rows (xs := z :: zs) (ys := ys) (by simp) (fun w hw => hx w (by simp [hw])) (fun w hw => hy w (by simp [hw])) h2).2]
/-- two valid images with the same text are the same image -/
theorem text_inj {m m' : Nat} {xs ys : List Int} (h : okB (m : Int) xs = true) (h' : okB (m' : Int) ys = true) (e : textL m xs = textL m' ys) : m = m' ∧ xs = ys := by
  have b1 := okB_bd h
  have b2 := okB_bd h'
  rw [textL_eq xs (by omega), textL_eq ys (by omega)] at e
  exact text_rows (by rintro rfl; simp at b1) (okB_cells h) (okB_cells h') e
theorem textL_len {m : Nat} {xs : List Int} (h : okB (m : Int) xs = true) : (textL m xs).length ≤ 100 := by
  have b1 := okB_bd h
  have h1 := txtPre_len xs (cUpto xs.length m xs.length 0)
  have h2 := cUpto_len xs.length m xs.length 0
  have h3 : xs.length * m ≤ 6 * 6 := Nat.mul_le_mul (by omega) (by omega)
  rw [textL]; omega
end Go.Proofs.Ytpoojghommfklaa

-- A map from the images' texts to numbers; a queue of images.
namespace Go.Proofs.Ytpoojghommfklaa
open Go.RowKit Go.Maps

theorem keyLaw : Keyed Try.prog 9 := string_keyed Try.underlying9
theorem zeroInt (w : World) : (zeroValue 3).run Try.prog w = .ok (.int .i64 0) w := Try.zeroValue3 w
def kT (t : List UInt8) : Lit := .string t
theorem kT_key (t : List UInt8) : WideAt.IsKeyLit (kT t) := trivial
theorem kT_of {t : List UInt8} (ht : t.length ≤ 1000) : keyOf Try.prog 9 (.string ⟨t.toArray⟩) = some (kT t) := by
  have h := WideMaps.keyOf_string_mk (P := Try.prog) Try.underlying9 (s := ⟨t.toArray⟩) (by
    show t.toArray.size ≤ maxLen
    unfold maxLen; simp; omega)
  simpa [kT] using h

/-- the map's datum D tells for the images of wk their numbers, and no other text -/
structure MapIs (D : DataW Unit) (m : Nat) (wk : List (List Int × Nat)) : Prop where
  has : ∀ t, Maps.has D (kT t) = wk.any (fun e => textL m e.1 == t)
  at_ : ∀ e ∈ wk, D.atKey (kT (textL m e.1)) (.lit (.int .i64 0)) = .lit (.int .i64 (e.2 : Int))
  size : Maps.size D = wk.length
  tidy : Tidy D
theorem MapIs.empty (m : Nat) : MapIs (.map []) m [] := ⟨fun _ => rfl, fun _ h => (by cases h), rfl, tidy_empty⟩
theorem MapIs.put {D : DataW Unit} {m : Nat} {wk : List (List Int × Nat)} (h : MapIs D m wk) {z : List Int} (d : Nat) (hz : wk.any (fun e => textL m e.1 == textL m z) = false) (ht : Tidy (D.put (kT (textL m z)) (.lit (.int .i64 (d : Int))))) :
    MapIs (D.put (kT (textL m z)) (.lit (.int .i64 (d : Int)))) m (wk ++ [(z, d)]) := by
  have hne : ∀ e ∈ wk, textL m e.1 ≠ textL m z := by
    intro e he heq
    have : wk.any (fun e => textL m e.1 == textL m z) = true := List.any_eq_true.2 ⟨e, he, by simp [heq]⟩
    rw [hz] at this; cases this
  have inj : ∀ {t u : List UInt8}, kT t = kT u → t = u := fun h => by cases h; rfl
  refine ⟨fun t => ?_, fun e he => ?_, ?_, ht⟩
  · by_cases htz : t = textL m z
    · subst htz
      rw [Maps.has_put_same h.tidy.isMap (kT_key _)]
      simp
    · rw [Maps.has_put_other (fun e => htz (inj e)), h.has t]
      have : (textL m z == t) = false := beq_eq_false_iff_ne.2 (fun e => htz e.symm)
      simp [this]
  · rcases List.mem_append.1 he with he | he
    · rw [Maps.atKey_put_other (fun x => hne e he (inj x))]
      exact h.at_ e he
    · obtain rfl := List.mem_singleton.1 he
      exact Maps.atKey_put_same h.tidy.isMap (kT_key _) _ _
  · rw [Maps.size_put h.tidy, h.has, hz, h.size]
    simp

theorem wpl_insert {ops : Array Oper} {rest : List Oper} {o : Oper} {a : Act} {Q : Exit → Act → World → Prop} {w : World}
    (hg : o.guard = none) (m x v : Operand) (t : TypeId) (hop : o.op = Op.insert t m x v)
    (ht : Try.prog.underlying t = some (.map 9 3)) (b n : Nat) (D : DataW Unit)
    (hm : a.eval m = .map (some b)) (hown : w.ownsMap Try.prog 9 (plainElem Try.prog 3) b n D) (hn : n < maxLen) (key : Value) (q : Int) (kl : Lit) (hx : a.eval x = key) (hv : a.eval v = .int .i64 q) (hkey : keyOf Try.prog 9 key = some kl)
    (hq : (Lit.int .i64 q).wf = true)
    (hK : ∀ w', w'.ownsMap Try.prog 9 (plainElem Try.prog 3) b (n + 1) (D.put kl (.lit (.int .i64 q))) → w.grownBy w' (some b) → wpList Try.prog ops Q rest (a.put o.dst undef) w') :
    wpList Try.prog ops Q (o :: rest) a w := by
  refine wpList_plain hg fun K' hK' => ?_
  obtain ⟨w', hrun, r1, r2⟩ := hown.update keyLaw ht hn hkey (plainElem_int Try.underlying3 hq)
  unfold Oper.wp
  simp [execOp, hop, hm, hx, hv, hrun, Result.andThen]
  exact hK' _ _ (hK w' r1 r2)

/-- a queue of images: a slice into a row of one's own, from block base on -/
def Qu (w : World) (base : Nat) (A : Option Addr) (n c : Nat) (es : List El) : Prop :=
  es.length = n ∧ n ≤ c ∧ c ≤ maxLen ∧ ∃ g off cs, A = some ⟨g, off, none⟩ ∧ base ≤ g ∧ Blk w g 25 cs ∧ off + c * 2 ≤ cs.size ∧ ∀ k x, (elCells es)[k]? = some x → cs[off + k]? = some x
section
variable {w w' : World} {base : Nat} {A : Option Addr} {n c : Nat} {es : List El}
theorem Qu.grown (h : Qu w base A n c es) {row : Option Nat} (hg : w.grownBy w' row) (hr : ∀ g off, A = some ⟨g, off, none⟩ → row ≠ some g) : Qu w' base A n c es := by
  obtain ⟨h1, h2, h3, g, off, cs, h4, h5, h6, h7, h8⟩ := h
  exact ⟨h1, h2, h3, g, off, cs, h4, h5, h6.grown hg (fun e => hr g off h4 e.symm), h7, h8⟩
theorem Qu.next (h : Qu w base A n c es) (hb : Below w.heap.size w w') : Qu w' base A n c es := h.grown (grown_of_below hb none) (fun _ _ _ e => by cases e)
theorem Qu.addr (h : Qu w base A n c es) : ∃ g off, A = some ⟨g, off, none⟩ ∧ base ≤ g ∧ g < w.heap.size := by
  obtain ⟨h1, h2, h3, g, off, cs, h4, h5, h6, h7, h8⟩ := h
  exact ⟨g, off, h4, h5, h6.lt⟩
theorem Qu.first {e : El} {es : List El} (h : Qu w base A n c (e :: es)) : ∃ g off, A = some ⟨g, off, none⟩ ∧ g < w.heap.size ∧ w.cell? ⟨g, off, none⟩ = some (.int .i64 e.W) ∧ w.cell? ⟨g, off + 1, none⟩ = some (.slice e.A e.xs.length e.c) := by
  obtain ⟨h1, h2, h3, g, off, cs, h4, h5, h6, h7, h8⟩ := h
  refine ⟨g, off, h4, h6.lt, ?_, ?_⟩
  · rw [h6.cell]; exact h8 0 _ rfl
  · rw [h6.cell]; exact h8 1 _ rfl
theorem Qu.lit (w : World) (base : Nat) (hb : base ≤ w.heap.size) (e : El) : Qu (w.alloc (.cells #[.int .i64 e.W, .slice e.A e.xs.length e.c] 25)) base (some ⟨w.heap.size, 0, none⟩) 1 1 [e] :=
  ⟨rfl, Nat.le_refl _, by unfold maxLen; omega, w.heap.size, 0, _, rfl, hb, Blk.new w _ _, by simp, fun k x hx => by simpa [elCells, El.cells] using hx⟩
/-- the queue without its first image; at its end the address may stay -/
theorem Qu.tail {e : El} {es : List El} {g off : Nat} (h : Qu w base (some ⟨g, off, none⟩) n c (e :: es)) : Qu w base (some ⟨g, off + 2, none⟩) (n - 1) (c - 1) es ∧ (c = 1 → Qu w base (some ⟨g, off, none⟩) (n - 1) (c - 1) es) := by
  obtain ⟨h1, h2, h3, g', off', cs, h4, h5, h6, h7, h8⟩ := h
  cases h4
  rw [List.length_cons] at h1
  refine ⟨⟨by omega, by omega, by omega, g, off + 2, cs, rfl, h5, h6, by omega, fun k x hx => ?_⟩, fun hc => ⟨by omega, by omega, by omega, g, off, cs, rfl, h5, h6, by omega, fun k x hx => ?_⟩⟩
  · have e1 : elCells (e :: es) = .int .i64 e.W :: .slice e.A e.xs.length e.c :: elCells es := rfl
    have := h8 (k + 2) x (by rw [e1, List.getElem?_cons_succ, List.getElem?_cons_succ]; exact hx)
    rw [show off + 2 + k = off + (k + 2) by omega]; exact this
  · have : es = [] := List.eq_nil_of_length_eq_zero (by omega)
    subst this
    simp [elCells] at hx
end

theorem appendQ_run (w : World) (base : Nat) (A : Option Addr) (c n : Nat) (es : List El) (hq : Qu w base A n c es) (b d : Nat) (e : El) (hr : Blk w b 25 #[.int .i64 e.W, .slice e.A e.xs.length e.c]) (hlen : n + 1 ≤ 500000) (hbase : base ≤ w.heap.size) (ty : TypeId) :
    ∃ A' c' w' row, (Builtin.append_ #[55, 55] ty #[.slice A n c, .slice (some ⟨b, 0, none⟩) 1 d]).run Try.prog w = .ok (.slice A' (n + 1) c') w' ∧ Qu w' base A' (n + 1) c' (es ++ [e]) ∧ w.grownBy w' row ∧ (∀ g, row = some g → base ≤ g ∧ (∃ off, A = some ⟨g, off, none⟩) ∧ ∃ cs, Blk w g 25 cs) ∧ (∀ g off, A' = some ⟨g, off, none⟩ → (∃ off0, A = some ⟨g, off0, none⟩) ∨ g = w.heap.size) := by
  obtain ⟨i0, hi, hz0, hz1, hz2⟩ := info_parts infoImg
  obtain ⟨h1, h2, h3, g, off, cs, rfl, h5, h6, h7, h8⟩ := hq
  have hsrc : Src Try.prog i0.size 55 (.slice (some ⟨b, 0, none⟩) 1 d) 1 e.cells w := by
    rw [hz1]
    exact Src.ofSlice w Try.underlying55 ⟨b, 0, none⟩ 1 d e.cells rfl (by
      intro j u hu
      rw [Go.WideShapes.add_plain, hr.cell, Nat.zero_add]
      simpa [El.cells] using hu) (fun u hu => elCells_one [e] u (by simpa [elCells] using hu))
  have hel : (elCells es).length = n * 2 := by rw [elCells_len, h1]
  by_cases hroom : n + 1 ≤ c
  · have hz : ∀ j, j < e.cells.length → off + n * i0.size + j < cs.size := by
      intro j hj
      have : e.cells.length = 2 := rfl
      rw [hz1]; omega
    have hrun := run_append_room_src w 55 55 ty 25 i0 Try.underlying55 hi g off n c (.slice (some ⟨b, 0, none⟩) 1 d) 1 e.cells hsrc hroom
      (fun j hj => by rw [h6.cell, Array.getElem?_eq_getElem (hz j hj)]; rfl) (fun j _ => h6.frozen _)
    rw [hz1] at hrun
    refine ⟨_, _, _, some g, hrun, ?_, ?_, ?_, ?_⟩
    · refine ⟨by simp [h1], hroom, h3, g, off, (cs.setIfInBounds (off + n * 2) (.int .i64 e.W)).setIfInBounds (off + n * 2 + 1) (.slice e.A e.xs.length e.c), rfl, h5, (h6.set_ _ _).set_ _ _, by simpa using h7, ?_⟩
      intro k x hx
      rw [elCells_snoc] at hx
      rcases Nat.lt_trichotomy k (n * 2) with hk | hk | hk
      · rw [List.getElem?_append_left (by omega)] at hx
        rw [Array.getElem?_setIfInBounds_ne (by omega), Array.getElem?_setIfInBounds_ne (by omega)]
        exact h8 k x hx
      · subst hk
        rw [List.getElem?_append_right (by omega), hel, Nat.sub_self] at hx
        rw [Array.getElem?_setIfInBounds_ne (by omega), Array.getElem?_setIfInBounds_self_of_lt (by omega)]
        exact hx
      · rw [List.getElem?_append_right (by omega), hel] at hx
        have hk1 : k = n * 2 + 1 := by
          have h9 := (List.getElem?_eq_some_iff.1 hx).1
          have : e.cells.length = 2 := rfl
          omega
        subst hk1
        have e3 : n * 2 + 1 - n * 2 = 1 := by omega
        rw [e3] at hx
        rw [show off + (n * 2 + 1) = off + n * 2 + 1 by omega, Array.getElem?_setIfInBounds_self_of_lt (by simp; omega)]
        exact hx
    · exact grown_trans (grown_set _) (grown_set _)
    · rintro _ ⟨⟩
      exact ⟨h5, ⟨off, rfl⟩, cs, h6⟩
    · rintro g1 off1 ⟨⟩
      exact .inl ⟨off, rfl⟩
  · have hold : (Builtin.firstCells i0.size n (.slice (some ⟨g, off, none⟩) n c)).run Try.prog w.drew = .ok (elCells es).toArray w.drew := by
      rw [hz1]
      refine run_firstCells_some w.drew 2 n ⟨g, off, none⟩ n c (elCells es) hel (fun j v hv => ?_)
      rw [Go.WideShapes.add_plain, h6.drew.cell]
      exact h8 j v hv
    have hrun := run_append_grow_src w 55 55 ty 25 i0 (.agg #[.int .i64 0, .slice none 0 0]) Try.underlying55 hi hz0 (some ⟨g, off, none⟩) n c (elCells es) hold (.slice (some ⟨b, 0, none⟩) 1 d) 1 e.cells hsrc
      (by omega) (by omega) (by rw [hz2]; exact growslice_fits (by omega) (by omega))
    refine ⟨_, _, _, none, hrun, ?_, ?_, ?_, ?_⟩
    · refine ⟨by simp [h1], grownCap_ge _ _ _ _, grownCap_le_maxLen _ _ _ _ (by unfold maxLen; omega), w.heap.size, 0, _, rfl, hbase, Blk.new w.drew _ _, ?_, ?_⟩
      · have hge := grownCap_ge w (n + 1) c 25
        have e4 : e.cells.length = 2 := rfl
        have e5 : (Value.cells (.agg #[.int .i64 0, .slice none 0 0])).size = 2 := rfl
        simp only [Array.size_append, List.size_toArray, List.length_append, hel, size_zeroCells, e4, e5]
        omega
      · intro k x hx
        rw [elCells_snoc] at hx
        have hk := (List.getElem?_eq_some_iff.1 hx).1
        rw [Nat.zero_add, Array.getElem?_append_left (by simpa using hk)]
        simpa using hx
    · exact grown_trans (grown_drew _) (grown_alloc _ _)
    · rintro _ ⟨⟩
    · rintro g1 off1 ⟨⟩
      exact .inr rfl
end Go.Proofs.Ytpoojghommfklaa
