/- Plain facts and walks that the law's proof uses; each says its own conditions. -/
import Derived.Shelf.Strings.BuilderK
import Derived.Test.YtpeiolimdglmhaaGreatDoorZ07
import Derived.Test.YtpeiolimdglmhaaGreatDoorProg
import Derived.Test.YtpeiolimdglmhaaGreatDoorZ22
import Derived.Test.YtpeiolimdglmhaaGreatDoorZ20
import Derived.Maps.OwnSet
import Derived.Maps.OwnOps
import Derived.Deep.AppendSrc
import Derived.Test.YtpeiolimdglmhaaGreatDoorZ23
import Derived.Test.YtpeiolimdglmhaaGreatDoorZ11
import Derived.Deep.QuietTactic
import Derived.BigQuiet
import Derived.Test.YtpeiolimdglmhaaGreatDoorZ21
-- Plain facts and walks that the law's proof uses; each says its own conditions.
namespace Go.Proofs.YtpeiolimdglmhaaGreatDoor
open Go.Shelf Go.RowKit

def renS : Go.Shelf.Ren := ⟨fun | 169 => 41 | n => n, fun | 70 => 53 | 9 => 9 | 0 => 0 | 72 => 55 | 37 => 22 | 127 => 96 | 3 => 3 | 5 => 5 | n => n, fun | n => n⟩
theorem laysS : Go.Proofs.Lays.n169 Tryz.prog renS := {
  mixed := by kernel_rfl
  f169 := Tryz.func41.trans (congrArg some (by kernel_rfl))
  t0 := Tryz.underlying0
  a0 := Tryz.isAgg0
  z0 := Tryz.sizeOf0
  v0 := Tryz.zeroValue0
  t3 := Tryz.underlying3
  a3 := Tryz.isAgg3
  z3 := Tryz.sizeOf3
  v3 := Tryz.zeroValue3
  t9 := Tryz.underlying9
  a9 := Tryz.isAgg9
  z9 := Tryz.sizeOf9
  v9 := Tryz.zeroValue9
  t37 := Tryz.underlying22
  a37 := Tryz.isAgg22
  z37 := Tryz.sizeOf22
  v37 := Tryz.zeroValue22
  t70 := Tryz.underlying53
  a70 := Tryz.isAgg53
  z70 := Tryz.sizeOf53
  v70 := Tryz.zeroValue53
  t72 := Tryz.underlying55
  a72 := Tryz.isAgg55
  z72 := Tryz.sizeOf55
  v72 := Tryz.zeroValue55
  t127 := Tryz.underlying96
  a127 := Tryz.isAgg96
  z127 := Tryz.sizeOf96
  v127 := Tryz.zeroValue96 }
theorem extraS : Builder.Extra Tryz.prog renS := {
  sizeBuilder := by kernel_rfl
  liesBuilder := by kernel_rfl
  t5 := Tryz.underlying5
  a5 := Tryz.isAgg5
  z5 := Tryz.sizeOf5
  v5 := Tryz.zeroValue5
  infoByte := by kernel_rfl
  cellsByte := by kernel_rfl
  sizeByte := by kernel_rfl
  neB5 := by decide }
/-- the accumulated string -/
theorem bString_c (B b : Nat) (l : List UInt8) (w : World) (h : Lib.IsBuilderF 55 5 B b (Lib.byteCells l) w) (hBw : B ≤ w.heap.size) :
    Calls Tryz.prog 41 #[.pointer (some ⟨b, 0, none⟩)] w fun e w' => e = .returned (.string ⟨l.toArray⟩) ∧ (Lib.IsBuilderF 55 5 B b (Lib.byteCells l) w' ∧ Below B w w' ∧ Lib.OthersKept 5 (some b) w w') :=
  Any.Builder_String_any_k laysS extraS B b l w h hBw

def renW : Go.Shelf.Ren := ⟨fun | 167 => 40 | 240 => 78 | 276 => 114 | n => n,
  fun | 0 => 0 | 4 => 4 | 5 => 5 | 9 => 9 | 20 => 20 | 37 => 22 | 70 => 53 | 72 => 55 | 75 => 61 | 80 => 63 | 164 => 127 | n => n, fun | n => n⟩
theorem laysW : Go.Proofs.Lays.n167 Tryz.prog renW := {
  mixed := by kernel_rfl
  f167 := Tryz.func40.trans (congrArg some (by kernel_rfl))
  f240 := Tryz.func78.trans (congrArg some (by kernel_rfl))
  f276 := Tryz.func114.trans (congrArg some (by kernel_rfl))
  t0 := Tryz.underlying0
  a0 := Tryz.isAgg0
  z0 := Tryz.sizeOf0
  v0 := Tryz.zeroValue0
  t4 := Tryz.underlying4
  a4 := Tryz.isAgg4
  z4 := Tryz.sizeOf4
  v4 := Tryz.zeroValue4
  t5 := Tryz.underlying5
  a5 := Tryz.isAgg5
  z5 := Tryz.sizeOf5
  v5 := Tryz.zeroValue5
  t9 := Tryz.underlying9
  a9 := Tryz.isAgg9
  z9 := Tryz.sizeOf9
  v9 := Tryz.zeroValue9
  t20 := by kernel_rfl
  a20 := fun _ => by kernel_rfl
  z20 := fun _ => by kernel_rfl
  v20 := fun _ => by kernel_rfl
  t37 := Tryz.underlying22
  a37 := Tryz.isAgg22
  z37 := Tryz.sizeOf22
  v37 := Tryz.zeroValue22
  t70 := Tryz.underlying53
  a70 := Tryz.isAgg53
  z70 := Tryz.sizeOf53
  v70 := Tryz.zeroValue53
  t72 := Tryz.underlying55
  a72 := Tryz.isAgg55
  z72 := Tryz.sizeOf55
  v72 := Tryz.zeroValue55
  t75 := by kernel_rfl
  a75 := fun _ => by kernel_rfl
  z75 := fun _ => by kernel_rfl
  v75 := fun _ => by kernel_rfl
  t164 := by kernel_rfl
  a164 := fun _ => by kernel_rfl
  z164 := fun _ => by kernel_rfl
  v164 := fun _ => by kernel_rfl }
theorem extraW : Builder.Extra Tryz.prog renW := {
  sizeBuilder := by kernel_rfl
  liesBuilder := by kernel_rfl
  t5 := Tryz.underlying5
  a5 := Tryz.isAgg5
  z5 := Tryz.sizeOf5
  v5 := Tryz.zeroValue5
  infoByte := by kernel_rfl
  cellsByte := by kernel_rfl
  sizeByte := by kernel_rfl
  neB5 := by decide }
/-- one byte more -/
theorem bWriteByte_c (B b : Nat) (bs : List Value) (c : Int) (w : World) (h : Lib.IsBuilderF 55 5 B b bs w) (hlen : bs.length + 1 ≤ 140737488355328) (hBw : B ≤ w.heap.size) :
    Calls Tryz.prog 40 #[.pointer (some ⟨b, 0, none⟩), .int .u8 c] w fun e w' => e = .returned .nilIface ∧ (Lib.BuilderAtF 55 5 B b (.pointer (some ⟨b, 0, none⟩)) (bs ++ [.int .u8 c]) w' ∧ Below B w w' ∧ Lib.OthersKept 5 (some b) w w') :=
  Any.Builder_WriteByte_k laysW extraW B b bs c w h hlen hBw
end Go.Proofs.YtpeiolimdglmhaaGreatDoor

-- Walks: the text of an image.
namespace Go.Proofs.YtpeiolimdglmhaaGreatDoor
open Go.RowKit Go.Shelf
attribute [local go_sem] Oper.semAt_some

def chr01 (b : Bool) : UInt8 := if b then 35 else 46
/-- the text of the cells so far -/
def txtPre {h m : Nat} (xs : List Int) (pre : List (Cell h m)) : List UInt8 := pre.flatMap (fun x => chr01 (cellF xs x.1.1 x.1.2) :: (if x.1.2 + 1 = m then [10] else []))
def textL (m : Nat) (xs : List Int) : List UInt8 := txtPre xs (cUpto xs.length m xs.length 0)
theorem textL_at {m n : Nat} {xs : List Int} (h : xs.length = n) : textL m xs = txtPre xs (cUpto n m n 0) := by subst h; rfl
def textW (W : Int) (xs : List Int) : List UInt8 := if okB W xs then textL W.toNat xs else []
theorem txtPre_snoc {h m : Nat} (xs : List Int) (pre : List (Cell h m)) (x : Cell h m) : txtPre xs (pre ++ [x]) = txtPre xs pre ++ (chr01 (cellF xs x.1.1 x.1.2) :: (if x.1.2 + 1 = m then [10] else [])) := by
  simp [txtPre]
theorem txtPre_len {h m : Nat} (xs : List Int) (pre : List (Cell h m)) : (txtPre xs pre).length ≤ pre.length * 2 := by
  have := flatMap_le (l := pre) (f := fun x => chr01 (cellF xs x.1.1 x.1.2) :: (if x.1.2 + 1 = m then [10] else [])) (k := 2) (fun x _ => by split <;> simp)
  exact this
theorem byteCells_snoc (l : List UInt8) (c : UInt8) : Lib.byteCells (l ++ [c]) = Lib.byteCells l ++ [.int .u8 (c.toNat : Int)] := by simp [Lib.byteCells]

abbrev Bd (b : Nat) (l : List UInt8) (w : World) : Prop := Lib.IsBuilderF 55 5 b b (Lib.byteCells l) w
theorem Bd.ownF {W W' : World} {b : Nat} {l : List UInt8} {row : Option Nat} (h : Bd b l W) (hg : W.grownBy W' row) (hr : ∀ r, row = some r → ∃ o : Obj, W.heap[r]? = some o ∧ o.isCells = false) : Bd b l W' := by
  have key : ∀ p, Lib.BuilderAtF 55 5 b b p (Lib.byteCells l) W → Lib.BuilderAtF 55 5 b b p (Lib.byteCells l) W' := by
    rintro p ⟨hB, v, hb, hown, hne⟩
    refine ⟨hB, v, Blk.ownF (t := 55) hb hg hr, hown.kept hg ?_, hne⟩
    rcases hown.2 with ⟨rfl, _⟩ | ⟨g, cap, cur, fz, rfl, _, hgg, _⟩
    · exact .inl rfl
    · refine .inr (fun e => ?_)
      obtain ⟨o, ho, hc⟩ := hr g (by rw [← e]; rfl)
      rw [hgg] at ho; cases ho; cases hc
  exact Or.imp (key _) (key _) h
theorem Bd.next {W W' : World} {b : Nat} {l : List UInt8} (h : Bd b l W) (hb : Below W.heap.size W W') : Bd b l W' := h.ownF (grown_of_below hb none) (fun r e => by cases e)
theorem Bd.new (w : World) : Bd w.heap.size [] (w.alloc (.cells #[.pointer none, .slice none 0 0] 55)) :=
  .inl ⟨Nat.le_refl _, .slice none 0 0, Blk.new w _ _, World.ownsRowF_nil _ _ _ _, by simp [Value.ownBlock]⟩
theorem ok_blk {W W' : World} {b g : Nat} {t : TypeId} {cs : Array Value} (h : Blk W g t cs) (k : Lib.OthersKept 5 (some b) W W') (hne : g ≠ b) (ht : t ≠ 5) : Blk W' g t cs :=
  k g _ h (by simpa using hne) (by intro c fz e; cases e; exact ht rfl)
theorem ok_keeps {W W' : World} {b : Nat} (k : Lib.OthersKept 5 (some b) W W') (hs : W.heap.size ≤ W'.heap.size) (hb : ∀ o : Obj, W.heap[b]? = some o → o.isCells = true) : KeepsOthers W W' :=
  ⟨hs, fun i o hi hc => k i o hi (by rintro ⟨⟩; have := hb o hi; rw [hc] at this; cases this) (by rintro c fz rfl; cases hc)⟩

theorem Bd.lt {W : World} {b : Nat} {l : List UInt8} (h : Bd b l W) : b < W.heap.size := by
  rcases h with h | h <;> exact h.lt
theorem Bd.isCells {W : World} {b : Nat} {l : List UInt8} (h : Bd b l W) : ∀ o : Obj, W.heap[b]? = some o → o.isCells = true := by
  intro o ho
  rcases h with h | h <;>
  · obtain ⟨_, v, hb, _⟩ := h
    rw [hb] at ho; cases ho; rfl
theorem wb_c (b : Nat) (l : List UInt8) (ch : UInt8) (c : Int) (hc : c = (ch.toNat : Int)) (w : World) (h : Bd b l w) (hl : l.length ≤ 1000) :
    Calls Tryz.prog 40 #[.pointer (some ⟨b, 0, none⟩), .int .u8 c] w fun e w' => e = .returned .nilIface ∧ Bd b (l ++ [ch]) w' ∧ Below b w w' ∧ Lib.OthersKept 5 (some b) w w' := by
  refine (bWriteByte_c b b _ c w h (by simp [Lib.byteCells]; omega) (Nat.le_of_lt h.lt)).mono ?_
  rintro e w' ⟨rfl, h1, h2, h3⟩
  refine ⟨rfl, .inr ?_, h2, h3⟩
  rw [byteCells_snoc, ← hc]
  exact h1
theorem KB.of_blk {W W' : World} {g : Nat} {t : TypeId} {cs : Array Value} (h : Blk W g t cs) (k : Blk W' g t cs) : KB g W W' := Eq.trans k (Eq.symm h)

/-- what lies in memory while the text is written -/
def TInv (w W4 W : World) (b n c m : Nat) (A : Option Addr) (l : List UInt8) : Prop :=
  Below w.heap.size w W ∧ Blk W w.heap.size 25 #[.int .i64 (m : Int), .slice A n c] ∧ Blk W (b + 1) 25 #[.int .i64 (m : Int), .slice A n c] ∧ Bd b l W ∧ W4.heap.size ≤ W.heap.size
theorem TInv.next {w W4 W W' : World} {b n c m : Nat} {A : Option Addr} {l : List UInt8} (h : TInv w W4 W b n c m A l) (hb : Below W.heap.size W W') : TInv w W4 W' b n c m A l :=
  ⟨lo_trans h.1 hb, h.2.1.next hb, h.2.2.1.next hb, h.2.2.2.1.next hb, Nat.le_trans h.2.2.2.2 hb.size⟩
theorem TInv.wrote {w W4 W W' : World} {b n c m : Nat} {A : Option Addr} {l l' : List UInt8} (h : TInv w W4 W b n c m A l) (hwb : w.heap.size < b) (h1 : Bd b l' W') (h2 : Below b W W') (h3 : Lib.OthersKept 5 (some b) W W') :
    TInv w W4 W' b n c m A l' ∧ KeepsOthers W W' ∧ KB (b + 1) W W' := by
  have k1 := ok_blk h.2.1 h3 (by omega) (by decide)
  have k2 := ok_blk h.2.2.1 h3 (by omega) (by decide)
  exact ⟨⟨h.1.trans (h2.mono (by omega)), k1, k2, h1, Nat.le_trans h.2.2.2.2 h2.size⟩, ok_keeps h3 h2.size h.2.2.2.1.isCells, KB.of_blk h.2.2.1 k2⟩

set_option maxRecDepth 100000 in
set_option maxHeartbeats 4000000 in
theorem ImageText_c (W : Int) (A : Option Addr) (n c : Nat) (xs : List Int) (w : World) (hr : Rd w A n xs) (hn : n ≤ 1073741824) :
    Calls Tryz.prog 12 #[.agg #[.int .i64 W, .slice A n c]] w fun e w' => e = .returned (.string ⟨(textW W xs).toArray⟩) ∧ Below w.heap.size w w' := by
  cases hk : okB W xs with
  | false =>
    have hT := Lib.hid (show textW W xs = [] by simp [textW, hk])
    go_enter Tryz.func12, Tryz.ntmps12
    go_wp2_with fail
    refine (impl_ImageValid_c _ _ _ _ xs _ (hr.alloc _) (by omega)).mono ?_
    rw [hk]
    rintro e w1 ⟨rfl, hb1⟩
    go_wp2
    go_ret
    exact ⟨by rw [hT.out]; rfl, by (repeat (first | exact Below.refl _ _ | assumption | refine lo_alloc ?_ _ | refine lo_set ?_ (by simp; try omega) _ | refine Below.drew ?_ | refine below_drewN ?_ _ | refine lo_trans ?_ (by assumption) | refine lo_wr ?_ (by assumption) (by omega)))⟩
  | true =>
    have hbd := okB_bd hk
    rw [hr.1] at hbd
    obtain ⟨m, rfl⟩ := Int.eq_ofNat_of_zero_le (show 0 ≤ W by omega)
    have hk' := Lib.hid hk
    refine (callsIn_wide (n := 3)).1 ?_
    refine callsIn_of_wp_marks Tryz.func12 rfl trivial ?_ rfl
    simp only [Tryz.ntmps12, List.size_toArray, List.length_cons, List.length_nil, Nat.reduceAdd, Nat.reduceSub, Array.replicate_succ, Array.replicate_zero, List.push_toArray, List.append_toArray, List.nil_append, List.cons_append]
    gi_wp2_with fail
    refine ⟨trivial, ?_⟩
    gi_at_call 37
    refine (callsIn_wide.2 (impl_ImageValid_c _ _ _ _ xs _ (hr.alloc _) (by omega))).mono ?_
    rw [hk]
    rintro e w1 ⟨rfl, hb1⟩
    clear hk
    have hKa : Blk w1 w.heap.size _ _ := (Blk.new w 25 #[.int .i64 (m : Int), .slice A n c]).next hb1
    have hB1 : Below w.heap.size w w1 := by (repeat (first | exact Below.refl _ _ | assumption | refine lo_alloc ?_ _ | refine lo_set ?_ (by simp; try omega) _ | refine Below.drew ?_ | refine below_drewN ?_ _ | refine lo_trans ?_ (by assumption) | refine lo_wr ?_ (by assumption) (by omega)))
    have a0 := hKa.cell 0
    have a1 := hKa.cell 1
    have hz1 := hKa.lt
    clear hb1
    gi_wp2_with (refine ⟨trivial, ?_⟩; gi_at_call 38; refine (cells_in Fence.wide _ trivial rfl _ _ _).mono ?_; rintro e w3 ⟨rfl, rfl⟩)
    have hBd := (Bd.new w1).next (lo_alloc (Below.refl _ _) (.cells #[.int .i64 (m : Int), .slice A n c] 25))
    have hS := Blk.new (w1.alloc (.cells #[.pointer none, .slice none 0 0] 55)) 25 #[.int .i64 (m : Int), .slice A n c]
    rw [World.size_alloc] at hS
    have hKa4 := (hKa.alloc (.cells #[.pointer none, .slice none 0 0] 55)).alloc (.cells #[.int .i64 (m : Int), .slice A n c] 25)
    have hB4 := lo_alloc (lo_alloc hB1 (.cells #[.pointer none, .slice none 0 0] 55)) (.cells #[.int .i64 (m : Int), .slice A n c] 25)
    have hsz : ((w1.alloc (.cells #[.pointer none, .slice none 0 0] 55)).alloc (.cells #[.int .i64 (m : Int), .slice A n c] 25)).heap.size = w1.heap.size + 2 := by simp
    clear a0 a1 hKa hB1
    generalize (w1.alloc (.cells #[.pointer none, .slice none 0 0] 55)).alloc (.cells #[.int .i64 (m : Int), .slice A n c] 25) = w4 at hBd hS hKa4 hB4 hsz ⊢
    obtain ⟨b, hb⟩ : ∃ b, b = w1.heap.size := ⟨_, rfl⟩
    rw [← hb] at hBd hS hsz hz1 ⊢
    clear hb
    have hI0 : TInv w w4 w4 b n c m A (txtPre (h := n) (m := m) xs []) := ⟨hB4, hKa4, hS, hBd, Nat.le_refl _⟩
    refine wpIn_rangeFunc_ownG rfl (by omega) (gf := 77) (lb := #[.pointer (some ⟨b + 1, 0, none⟩)]) rfl trivial (enters_of Tryz.func77 (by kernel_rfl) rfl)
      (cells_stops Fence.wide _ trivial rfl (by omega) (b + 1) n m c A (by omega) (by omega) w4 (by omega) hS) KB.trans (KB.put (by omega)) (Below.refl _ _) (fun _ => rfl)
      (fun pre W => TInv w w4 W b n c m A (txtPre (h := n) (m := m) xs pre) ∧ pre.length ≤ 100)
      (fun _ _ _ => False)
      (fun pre X Y row hs hg hr => ⟨⟨ownFrom_below (β := Unit) (Nat.le_refl w.heap.size) (by omega) () X Y row hs.1.1 hg hr, hs.1.2.1.ownF hg (fun r e => (hr r e).2), hs.1.2.2.1.ownF hg (fun r e => (hr r e).2), hs.1.2.2.2.1.ownF hg (fun r e => (hr r e).2), Nat.le_trans hs.1.2.2.2.2 hg.size⟩, hs.2⟩)
      (fun _ _ _ _ _ hs _ _ => hs)
      ⟨hI0, by simp⟩
      (fun x => { tmps := #[.agg #[.int .i64 (m : Int), .slice A n c], .pointer (some ⟨w.heap.size, 0, none⟩), .string ⟨#[]⟩, .pointer (some ⟨b, 0, none⟩), .int .i64 (x.1.1 : Int), .int .i64 (x.1.2 : Int),
        .agg #[.int .i64 (m : Int), .slice A n c], .bool true, .bool false, .agg #[.int .i64 (m : Int), .slice A n c], .func (.func 77) #[] #[.pointer (some ⟨b + 1, 0, none⟩)], .int .i64 (x.1.1 : Int), .int .i64 (x.1.2 : Int),
        undef, undef, undef, undef, undef, undef, undef, undef, undef, undef, undef, undef, undef], defers := [] }) ?assign ?body ?done ?stop
    case assign =>
      intro l x W K hK
      gi_wp2
      exact hK
    case body =>
      rintro l pre ⟨⟨i, j⟩, hi, hj⟩ W ⟨hI, _⟩ hlen
      dsimp only at hi hj
      obtain ⟨r, hr1, hr2⟩ := okB_at hk'.out (k := i) (by rw [hr.1]; exact hi)
      have hcf : Hid (cellF xs i j = r.testBit j) := Lib.hid (by simp only [cellF, hr1, Int.toNat_natCast])
      have hl2 := txtPre_len (h := n) (m := m) xs pre
      have hsn := Lib.hid (txtPre_snoc (h := n) (m := m) xs pre ⟨(i, j), hi, hj⟩)
      have hpl : (pre ++ [(⟨(i, j), hi, hj⟩ : Cell n m)]).length ≤ 100 := by simp; omega
      generalize txtPre xs pre = t0 at hI hl2 hsn
      have a0 := hI.2.1.cell 0
      have a1 := hI.2.1.cell 1
      gi_wp2_with fail
      refine ⟨trivial, ?_⟩
      gi_at_call 39
      refine (CallsIn.inRound l (callsIn_wide.2 (has_c i j r n c m xs A _ (hr.next hI.1) hi (by omega) hr2 hr1))).mono ?_
      rintro e W2 ⟨rfl, hb2⟩
      have hI2 := hI.next hb2
      have hkf : KeepsOthers W W2 := keeps_below hb2
      have hKB : KB (b + 1) W W2 := KB.of_below hb2 hI.2.2.1.lt
      clear a0 a1 hI hb2
      have a0 := hI2.2.1.cell 0
      cases hbit : r.testBit j with
      | false =>
        gi_wp2_with fail
        refine ⟨trivial, ?_⟩
        gi_at_call 40
        refine (CallsIn.inRound l (callsIn_wide.2 (wb_c b t0 46 46 rfl _ hI2.2.2.2.1 (by omega)))).mono ?_
        rintro e W3 ⟨rfl, h1, h2, h3⟩
        obtain ⟨hI3, hk3, hb3⟩ := hI2.wrote hz1 h1 h2 h3
        clear a0 hI2 h1 h2 h3
        have a0 := hI3.2.1.cell 0
        by_cases hjm : j + 1 = m
        · have hd : ((j : Int) == (m : Int) - 1) = true := by simp; omega
          gi_wp2_with fail
          refine ⟨trivial, ?_⟩
          gi_at_call 40
          refine (CallsIn.inRound l (callsIn_wide.2 (wb_c b (t0 ++ [46]) 10 10 rfl _ hI3.2.2.2.1 (by simp; omega)))).mono ?_
          rintro e W4 ⟨rfl, h1, h2, h3⟩
          obtain ⟨hI4, hk4, hb4⟩ := hI3.wrote hz1 h1 h2 h3
          gi_wp2
          refine ⟨((hkf.trans hk3).trans hk4).from _, (hKB.trans hb3).trans hb4, ?_, hpl⟩
          rw [hsn.out]
          simp only [hcf.out, hbit, chr01, if_pos hjm]
          simpa using hI4
        · have hd : ((j : Int) == (m : Int) - 1) = false := by simp; omega
          gi_wp2
          refine ⟨(hkf.trans hk3).from _, hKB.trans hb3, ?_, hpl⟩
          rw [hsn.out]
          simp only [hcf.out, hbit, chr01, if_neg hjm]
          simpa using hI3
      | true =>
        gi_wp2_with fail
        refine ⟨trivial, ?_⟩
        gi_at_call 40
        refine (CallsIn.inRound l (callsIn_wide.2 (wb_c b t0 35 35 rfl _ hI2.2.2.2.1 (by omega)))).mono ?_
        rintro e W3 ⟨rfl, h1, h2, h3⟩
        obtain ⟨hI3, hk3, hb3⟩ := hI2.wrote hz1 h1 h2 h3
        clear a0 hI2 h1 h2 h3
        have a0 := hI3.2.1.cell 0
        by_cases hjm : j + 1 = m
        · have hd : ((j : Int) == (m : Int) - 1) = true := by simp; omega
          gi_wp2_with fail
          refine ⟨trivial, ?_⟩
          gi_at_call 40
          refine (CallsIn.inRound l (callsIn_wide.2 (wb_c b (t0 ++ [35]) 10 10 rfl _ hI3.2.2.2.1 (by simp; omega)))).mono ?_
          rintro e W4 ⟨rfl, h1, h2, h3⟩
          obtain ⟨hI4, hk4, hb4⟩ := hI3.wrote hz1 h1 h2 h3
          gi_wp2
          refine ⟨((hkf.trans hk3).trans hk4).from _, (hKB.trans hb3).trans hb4, ?_, hpl⟩
          rw [hsn.out]
          simp only [hcf.out, hbit, chr01, if_pos hjm]
          simpa using hI4
        · have hd : ((j : Int) == (m : Int) - 1) = false := by simp; omega
          gi_wp2
          refine ⟨(hkf.trans hk3).from _, hKB.trans hb3, ?_, hpl⟩
          rw [hsn.out]
          simp only [hcf.out, hbit, chr01, if_neg hjm]
          simpa using hI3
    case done =>
      rintro D ys W hD rfl ⟨hI, _⟩ hK
      have hT := Lib.hid (show textW m xs = txtPre xs (cUpto n m n 0) by
        simp only [textW, hk'.out, if_true, Int.toNat_natCast]
        exact textL_at hr.1)
      gi_wp2_with fail
      refine ⟨trivial, ?_⟩
      gi_at_call 41
      refine (callsIn_wide.2 (bString_c b b _ _ hI.2.2.2.1 (Nat.le_of_lt hI.2.2.2.1.lt))).mono ?_
      rintro e W5 ⟨rfl, h1, h2, h3⟩
      obtain ⟨hI5, hk5, _⟩ := hI.wrote hz1 h1 h2 h3
      have hK5 := hk5.same D _ hK rfl
      gi_wp2
      refine ⟨by simp, .inl ⟨_, _, rfl, run_takeDeferred hK5, ?_⟩⟩
      refine ⟨.string ⟨(txtPre xs (cUpto n m n 0)).toArray⟩, by simp [results, Tryz.results12, go_sem], by rw [hT.out], ?_⟩
      exact hI5.1.trans (belowK_b (w := w) (Nat.le_refl _) _ D _ _ (by omega) hK5 rfl rfl)
    case stop =>
      rintro D cc pre W _ _ h _
      exact h.elim
end Go.Proofs.YtpeiolimdglmhaaGreatDoor

-- Plain mathematics: the text of an image tells the image.
namespace Go.Proofs.YtpeiolimdglmhaaGreatDoor

def rowT (m r : Nat) : List UInt8 := (List.range m).map (fun j => chr01 (r.testBit j)) ++ [10]
theorem txt_row {h m : Nat} (xs : List Int) (hm : 1 ≤ m) {k : Nat} (hk : k < h) : ∀ j, j ≤ m → txtPre xs (cUpto h m k j) = txtPre xs (cUpto h m k 0) ++ (List.range j).map (fun j => chr01 (cellF xs k j)) ++ (if j = m then [10] else [])
  | 0, _ => by simp; omega
  | j + 1, hj => by
    have ih := txt_row xs hm hk j (by omega)
    rw [cUpto_succ hk (by omega), txtPre_snoc, ih, if_neg (by omega), List.append_nil, List.range_succ, List.map_append]
    simp
theorem txt_rows {h m : Nat} (xs : List Int) (hm : 1 ≤ m) : ∀ k, k ≤ h → txtPre xs (cUpto h m k 0) = (List.range k).flatMap (fun i => rowT m (xs[i]?.getD 0).toNat)
  | 0, _ => by
    have : cUpto h m 0 0 = [] := by
      have := cUpto_len h m 0 0
      exact List.eq_nil_of_length_eq_zero (by omega)
    rw [this]; rfl
  | k + 1, hk => by
    rw [cUpto_next, txt_row xs hm (by omega) m (Nat.le_refl _), txt_rows xs hm k (by omega), if_pos rfl, List.range_succ, List.flatMap_append, List.append_assoc]
    simp only [List.flatMap_cons, List.flatMap_nil, List.append_nil, rowT]
    rfl
theorem range_flatMap {β : Type} (g : Int → List β) : ∀ xs : List Int, (List.range xs.length).flatMap (fun i => g (xs[i]?.getD 0)) = xs.flatMap g
  | [] => rfl
  | x :: xs => by
    rw [List.length_cons, List.range_succ_eq_map, List.flatMap_cons, List.flatMap_map, List.flatMap_cons]
    have := range_flatMap g xs
    simp only [List.getElem?_cons_zero, Option.getD_some, List.getElem?_cons_succ]
    rw [this]
theorem textL_eq {m : Nat} (xs : List Int) (hm : 1 ≤ m) : textL m xs = xs.flatMap (fun x => rowT m x.toNat) := by
  rw [textL, txt_rows xs hm _ (Nat.le_refl _)]
  exact range_flatMap (fun x => rowT m x.toNat) xs
theorem textL_len {m : Nat} {xs : List Int} (h : okB (m : Int) xs = true) : (textL m xs).length ≤ 100 := by
  have b1 := okB_bd h
  have h1 := txtPre_len xs (cUpto xs.length m xs.length 0)
  have h2 := cUpto_len xs.length m xs.length 0
  have h3 : xs.length * m ≤ 6 * 6 := Nat.mul_le_mul (by omega) (by omega)
  rw [textL]; omega
end Go.Proofs.YtpeiolimdglmhaaGreatDoor

-- A map from the images' texts to numbers; a queue of images.
namespace Go.Proofs.YtpeiolimdglmhaaGreatDoor
open Go.RowKit Go.Maps

theorem keyLaw : Keyed Tryz.prog 9 := string_keyed Tryz.underlying9
theorem zeroInt (w : World) : (zeroValue 3).run Tryz.prog w = .ok (.int .i64 0) w := Tryz.zeroValue3 w
def kT (t : List UInt8) : Lit := .string t
theorem kT_key (t : List UInt8) : WideAt.IsKeyLit (kT t) := trivial
theorem kT_of {t : List UInt8} (ht : t.length ≤ 1000) : keyOf Tryz.prog 9 (.string ⟨t.toArray⟩) = some (kT t) := by
  have h := WideMaps.keyOf_string_mk (P := Tryz.prog) Tryz.underlying9 (s := ⟨t.toArray⟩) (by
    show t.toArray.size ≤ maxLen
    unfold maxLen; simp; omega)
  simpa [kT] using h

/-- the map's datum D tells for the images of wk their numbers, and no other text -/
structure MapIs (D : DataW Unit) (m : Nat) (wk : List (List Int × Nat)) : Prop where
  has : ∀ t, Maps.has D (kT t) = wk.any (fun e => textL m e.1 == t)
  at_ : ∀ e ∈ wk, D.atKey (kT (textL m e.1)) (.lit (.int .i64 0)) = .lit (.int .i64 (e.2 : Int))
  size : Maps.size D = wk.length
  tidy : Tidy D
theorem MapIs.empty (m : Nat) : MapIs (.map []) m [] := ⟨fun _ => rfl, fun _ h => (by cases h), rfl, tidy_empty⟩
theorem MapIs.put {D : DataW Unit} {m : Nat} {wk : List (List Int × Nat)} (h : MapIs D m wk) {z : List Int} (d : Nat) (hz : wk.any (fun e => textL m e.1 == textL m z) = false) (ht : Tidy (D.put (kT (textL m z)) (.lit (.int .i64 (d : Int))))) :
    MapIs (D.put (kT (textL m z)) (.lit (.int .i64 (d : Int)))) m (wk ++ [(z, d)]) := by
  have hne : ∀ e ∈ wk, textL m e.1 ≠ textL m z := by
    intro e he heq
    have : wk.any (fun e => textL m e.1 == textL m z) = true := List.any_eq_true.2 ⟨e, he, by simp [heq]⟩
    rw [hz] at this; cases this
  have inj : ∀ {t u : List UInt8}, kT t = kT u → t = u := fun h => by cases h; rfl
  refine ⟨fun t => ?_, fun e he => ?_, ?_, ht⟩
  · by_cases htz : t = textL m z
    · subst htz
      rw [Maps.has_put_same h.tidy.isMap (kT_key _)]
      simp
    · rw [Maps.has_put_other (fun e => htz (inj e)), h.has t]
      have : (textL m z == t) = false := beq_eq_false_iff_ne.2 (fun e => htz e.symm)
      simp [this]
  · rcases List.mem_append.1 he with he | he
    · rw [Maps.atKey_put_other (fun x => hne e he (inj x))]
      exact h.at_ e he
    · obtain rfl := List.mem_singleton.1 he
      exact Maps.atKey_put_same h.tidy.isMap (kT_key _) _ _
  · rw [Maps.size_put h.tidy, h.has, hz, h.size]
    simp

/-- a queue of images: a slice into a row of one's own, from block base on -/
def Qu (w : World) (base : Nat) (A : Option Addr) (n c : Nat) (es : List El) : Prop :=
  es.length = n ∧ n ≤ c ∧ c ≤ maxLen ∧ ∃ g off cs, A = some ⟨g, off, none⟩ ∧ base ≤ g ∧ Blk w g 25 cs ∧ off + c * 2 ≤ cs.size ∧ ∀ k x, (elCells es)[k]? = some x → cs[off + k]? = some x
section
variable {w w' : World} {base : Nat} {A : Option Addr} {n c : Nat} {es : List El}
theorem Qu.grown (h : Qu w base A n c es) {row : Option Nat} (hg : w.grownBy w' row) (hr : ∀ g off, A = some ⟨g, off, none⟩ → row ≠ some g) : Qu w' base A n c es := by
  obtain ⟨h1, h2, h3, g, off, cs, h4, h5, h6, h7, h8⟩ := h
  exact ⟨h1, h2, h3, g, off, cs, h4, h5, h6.grown hg (fun e => hr g off h4 e.symm), h7, h8⟩
theorem Qu.next (h : Qu w base A n c es) (hb : Below w.heap.size w w') : Qu w' base A n c es := h.grown (grown_of_below hb none) (fun _ _ _ e => by cases e)
theorem Qu.addr (h : Qu w base A n c es) : ∃ g off, A = some ⟨g, off, none⟩ ∧ base ≤ g ∧ g < w.heap.size := by
  obtain ⟨h1, h2, h3, g, off, cs, h4, h5, h6, h7, h8⟩ := h
  exact ⟨g, off, h4, h5, h6.lt⟩
theorem Qu.first {e : El} {es : List El} (h : Qu w base A n c (e :: es)) : ∃ g off, A = some ⟨g, off, none⟩ ∧ g < w.heap.size ∧ w.cell? ⟨g, off, none⟩ = some (.int .i64 e.W) ∧ w.cell? ⟨g, off + 1, none⟩ = some (.slice e.A e.xs.length e.c) := by
  obtain ⟨h1, h2, h3, g, off, cs, h4, h5, h6, h7, h8⟩ := h
  refine ⟨g, off, h4, h6.lt, ?_, ?_⟩
  · rw [h6.cell]; exact h8 0 _ rfl
  · rw [h6.cell]; exact h8 1 _ rfl
theorem Qu.lit (w : World) (base : Nat) (hb : base ≤ w.heap.size) (e : El) : Qu (w.alloc (.cells #[.int .i64 e.W, .slice e.A e.xs.length e.c] 25)) base (some ⟨w.heap.size, 0, none⟩) 1 1 [e] :=
  ⟨rfl, Nat.le_refl _, by unfold maxLen; omega, w.heap.size, 0, _, rfl, hb, Blk.new w _ _, by simp, fun k x hx => by simpa [elCells, El.cells] using hx⟩
/-- the queue without its first image; at its end the address may stay -/
theorem Qu.tail {e : El} {es : List El} {g off : Nat} (h : Qu w base (some ⟨g, off, none⟩) n c (e :: es)) : Qu w base (some ⟨g, off + 2, none⟩) (n - 1) (c - 1) es ∧ (c = 1 → Qu w base (some ⟨g, off, none⟩) (n - 1) (c - 1) es) := by
  obtain ⟨h1, h2, h3, g', off', cs, h4, h5, h6, h7, h8⟩ := h
  cases h4
  rw [List.length_cons] at h1
  refine ⟨⟨by omega, by omega, by omega, g, off + 2, cs, rfl, h5, h6, by omega, fun k x hx => ?_⟩, fun hc => ⟨by omega, by omega, by omega, g, off, cs, rfl, h5, h6, by omega, fun k x hx => ?_⟩⟩
  · have e1 : elCells (e :: es) = .int .i64 e.W :: .slice e.A e.xs.length e.c :: elCells es := rfl
    have := h8 (k + 2) x (by rw [e1, List.getElem?_cons_succ, List.getElem?_cons_succ]; exact hx)
    rw [show off + 2 + k = off + (k + 2) by omega]; exact this
  · have : es = [] := List.eq_nil_of_length_eq_zero (by omega)
    subst this
    simp [elCells] at hx
end

end Go.Proofs.YtpeiolimdglmhaaGreatDoor

-- Plain facts and walks that the law's proof uses; each says its own conditions.
namespace Go.Proofs.YtpeiolimdglmhaaGreatDoor
open Go.RowKit Go.Maps
set_option maxRecDepth 100000

/-- the rows of an image lie where the search does not write -/
def Keep (w : World) (base : Nat) (e : El) : Prop :=
  0 < e.xs.length ∧ ((Rd w e.A e.xs.length e.xs ∧ ∃ b off, e.A = some ⟨b, off, none⟩ ∧ b < base ∧ b < w.heap.size) ∨ Own w base e.A e.xs.length e.xs)
section
variable {w w' : World} {base : Nat} {e : El}
theorem Keep.rd (h : Keep w base e) : Rd w e.A e.xs.length e.xs := by
  rcases h.2 with h | h
  · exact h.1
  · exact h.rd
theorem Keep.next (h : Keep w base e) (hb : Below w.heap.size w w') : Keep w' base e :=
  ⟨h.1, h.2.imp (fun ⟨h1, b, off, h2, h3, h4⟩ => ⟨h1.next hb, b, off, h2, h3, Nat.lt_of_lt_of_le h4 hb.size⟩) (fun h => h.next hb)⟩
theorem Keep.grown (h : Keep w base e) {row : Option Nat} (hg : w.grownBy w' row) (hr : ∀ g, row = some g → base ≤ g ∧ ∀ cs, ¬ Blk w g 3 cs) : Keep w' base e := by
  refine ⟨h.1, ?_⟩
  rcases h.2 with ⟨h1, b, off, h2, h3, h4⟩ | h
  · have hkb : KB b w w' := KB.of_grown hg h4 (fun e => by have := (hr b e).1; omega)
    rw [h2] at h1 ⊢
    exact .inl ⟨h1.kb h4 hkb, b, off, rfl, h3, Nat.lt_of_lt_of_le h4 hg.size⟩
  · refine .inr ⟨h.1, fun hn => ?_⟩
    obtain ⟨g, cs, e1, h1, h2, h3⟩ := h.2 hn
    exact ⟨g, cs, e1, h1, h2.grown hg (fun e => (hr g e.symm).2 cs h2), h3⟩
end

/-- what lies in memory while the search runs -/
structure FInv (w wr : World) (m k b : Nat) (A : Option Addr) (c : Nat) (es : List El) (D : DataW Unit) (wk : List (List Int × Nat)) : Prop where
  low : Below w.heap.size w wr
  queue : Qu wr w.heap.size A es.length c es
  els : Els es (m : Int) ((wk.drop k).map (·.1))
  keep : ∀ e ∈ es, Keep wr w.heap.size e
  own : wr.ownsMap Tryz.prog 9 (plainElem Tryz.prog 3) b wk.length D
  map : MapIs D m wk
  lo : w.heap.size ≤ b
section
variable {w wr w' : World} {m k b c : Nat} {A : Option Addr} {es : List El} {D : DataW Unit} {wk : List (List Int × Nat)}
theorem ownsMap_next {n : Nat} (h : wr.ownsMap Tryz.prog 9 (plainElem Tryz.prog 3) b n D) (hb : Below wr.heap.size wr w') : w'.ownsMap Tryz.prog 9 (plainElem Tryz.prog 3) b n D := h.kept (grown_of_below hb none) (by simp)
theorem FInv.next (h : FInv w wr m k b A c es D wk) (hb : Below wr.heap.size wr w') : FInv w w' m k b A c es D wk :=
  ⟨lo_trans h.low hb, h.queue.next hb, h.els, fun e he => (h.keep e he).next hb, ownsMap_next h.own hb, h.map, h.lo⟩
end

theorem not_int_map {w : World} {b n : Nat} {D : DataW Unit} {t : TypeId} (h : w.ownsMap Tryz.prog 9 (plainElem Tryz.prog 3) b n D) (cs : Array Value) : ¬ Blk w b t cs := by
  obtain ⟨es, clock, hb, _⟩ := h
  intro k
  unfold Blk at k
  rw [hb] at k; cases k
theorem not_int_img {w : World} {g : Nat} {cs : Array Value} (h : Blk w g 25 cs) (cs' : Array Value) : ¬ Blk w g 3 cs' := by
  intro k
  unfold Blk at h k
  rw [h] at k
  injection k with k
  injection k with _ h2
  exact absurd h2 (by decide)
theorem FInv.add {w w8 w9 w10 : World} {m k b c c2 cf d n' : Nat} {A A2 Af : Option Addr} {es : List El} {D : DataW Unit} {wk : List (List Int × Nat)} {z : List Int} {bx : Obj} {row : Option Nat} (hF : FInv w w8 m k b A c es D wk) (hk : k ≤ wk.length)
    (hn : n' = wk.length + 1) (hM : w9.ownsMap Tryz.prog 9 (plainElem Tryz.prog 3) b n' (D.put (kT (textL m z)) (.lit (.int .i64 (d : Int))))) (hg9 : w8.grownBy w9 (some b))
    (hQ : Qu w10 w.heap.size A2 (es.length + 1) c2 (es ++ [⟨(m : Int), Af, cf, z⟩])) (hg10 : (w9.alloc bx).grownBy w10 row) (hrow : ∀ g, row = some g → w.heap.size ≤ g ∧ ∃ cs, Blk (w9.alloc bx) g 25 cs)
    (hz : wk.any (fun e => textL m e.1 == textL m z) = false) (hkp : Keep w8 w.heap.size ⟨(m : Int), Af, cf, z⟩) :
    FInv w w10 m k b A2 c2 (es ++ [⟨(m : Int), Af, cf, z⟩]) (D.put (kT (textL m z)) (.lit (.int .i64 (d : Int)))) (wk ++ [(z, d)]) ∧ (∀ f, Keep w8 w.heap.size f → Keep w10 w.heap.size f) := by
  subst hn
  have hkeep : ∀ f, Keep w8 w.heap.size f → Keep w10 w.heap.size f := by
    intro f h
    have h1 := h.grown hg9 (fun g e => by cases e; exact ⟨hF.lo, fun cs => not_int_map hF.own cs⟩)
    have h2 := h1.next (lo_alloc (Below.refl _ _) bx)
    exact h2.grown hg10 (fun g e => by
      obtain ⟨h3, cs, h4⟩ := hrow g e
      exact ⟨h3, fun cs' => not_int_img h4 cs'⟩)
  have hrb : ∀ g, row = some g → g ≠ b := by
    rintro g e rfl
    obtain ⟨_, cs, h4⟩ := hrow g e
    exact not_int_map (hM.alloc bx) _ h4
  refine ⟨⟨?_, ?_, ?_, ?_, ?_, ?_, hF.lo⟩, hkeep⟩
  · exact lo_grown (lo_alloc (lo_grown hF.low hg9 (by rintro g ⟨⟩; exact hF.lo)) bx) hg10 (fun g e => (hrow g e).1)
  · rw [List.length_append]; exact hQ
  · rw [List.drop_append_of_le_length hk, List.map_append]
    exact hF.els.snoc _ _ _
  · intro e he
    rcases List.mem_append.1 he with he | he
    · exact hkeep e (hF.keep e he)
    · obtain rfl := List.mem_singleton.1 he
      exact hkeep _ hkp
  · rw [List.length_append]
    exact (hM.alloc bx).kept hg10 (fun e => hrb _ e.symm rfl)
  · exact hF.map.put d hz (hM.tidy keyLaw)

end Go.Proofs.YtpeiolimdglmhaaGreatDoor

-- Walks: the number of an image.
namespace Go.Proofs.YtpeiolimdglmhaaGreatDoor
open Go.RowKit
set_option maxRecDepth 100000

end Go.Proofs.YtpeiolimdglmhaaGreatDoor

-- Plain: the list of steps of the reference.
namespace Go.Proofs.YtpeiolimdglmhaaGreatDoor

/-- the list tells for each image of wk its number, -1 elsewhere -/
def StepsIs (S : List Int) (m N : Nat) (wk : List (List Int × Nat)) : Prop :=
  S.length = N ∧ (∀ e ∈ wk, S[keyN m e.1]?.getD 0 = (e.2 : Int)) ∧ ∀ i, i < N → (∀ e ∈ wk, keyN m e.1 ≠ i) → S[i]?.getD 0 = -1
theorem StepsIs.add {S : List Int} {m N : Nat} {wk : List (List Int × Nat)} (h : StepsIs S m N wk) {z : List Int} (d : Nat) (hz : keyN m z < N) (hn : ∀ e ∈ wk, keyN m e.1 ≠ keyN m z) : StepsIs (S.set (keyN m z) (d : Int)) m N (wk ++ [(z, d)]) := by
  refine ⟨by rw [List.length_set]; exact h.1, fun e he => ?_, fun i hi h2 => ?_⟩
  · rcases List.mem_append.1 he with he | he
    · rw [List.getElem?_set_ne (fun e2 => hn e he e2.symm)]
      exact h.2.1 e he
    · obtain rfl := List.mem_singleton.1 he
      rw [List.getElem?_set_self (by rw [h.1]; exact hz)]; rfl
  · have h3 := h2 (z, d) (by simp)
    rw [List.getElem?_set_ne h3]
    exact h.2.2 i hi (fun e he => h2 e (by simp [he]))
theorem seen_key {m n : Nat} {wk : List (List Int × Nat)} (hok : ∀ e ∈ wk, okB (m : Int) e.1 = true ∧ e.1.length = n) {z : List Int} (hz : okB (m : Int) z = true) (hl : z.length = n) (h : seen wk z = false) : ∀ e ∈ wk, keyN m e.1 ≠ keyN m z := by
  intro e he hk
  have := keyN_inj (by rw [(hok e he).2, hl]) (okB_cells (hok e he).1) (okB_cells hz) hk
  have h2 := seen_iff.2 ⟨e, he, this⟩
  rw [h] at h2; cases h2
theorem StepsIs.neg {S : List Int} {m n N : Nat} {wk : List (List Int × Nat)} (h : StepsIs S m N wk) (hok : ∀ e ∈ wk, okB (m : Int) e.1 = true ∧ e.1.length = n) {z : List Int} (hz : okB (m : Int) z = true) (hl : z.length = n) (hN : keyN m z < N) :
    decide (S[keyN m z]?.getD 0 < 0) = !seen wk z := by
  cases hs : seen wk z with
  | true =>
    obtain ⟨e, he, h1⟩ := seen_iff.1 hs
    have := h.2.1 e he
    rw [h1] at this
    rw [this]; simp
  | false =>
    rw [h.2.2 _ hN (seen_key hok hz hl hs)]; rfl
end Go.Proofs.YtpeiolimdglmhaaGreatDoor

-- Walks: the reference's numbers of steps.
namespace Go.Proofs.YtpeiolimdglmhaaGreatDoor
open Go.RowKit
set_option maxRecDepth 100000

/-- what lies in memory while the reference searches -/
structure GInv (w wr : World) (m N g : Nat) (A : Option Addr) (c : Nat) (es : List El) (S : List Int) (wk : List (List Int × Nat)) : Prop where
  low : Below w.heap.size w wr
  buf : BufI wr w.heap.size A c es
  els : Els es (m : Int) (wk.map (·.1))
  keep : ∀ e ∈ es, Keep wr w.heap.size e
  steps : Own wr w.heap.size (some ⟨g, 0, none⟩) N S
  is_ : StepsIs S m N wk
  ne : ∀ e ∈ es, e.A ≠ some (⟨g, 0, none⟩ : Addr)
  lo : w.heap.size ≤ g
section
variable {w wr w' : World} {m N g c : Nat} {A : Option Addr} {es : List El} {S : List Int} {wk : List (List Int × Nat)}
theorem GInv.next (h : GInv w wr m N g A c es S wk) (hb : Below wr.heap.size wr w') : GInv w w' m N g A c es S wk :=
  ⟨lo_trans h.low hb, h.buf.next hb, h.els, fun e he => (h.keep e he).next hb, h.steps.next hb, h.is_, h.ne, h.lo⟩
theorem Keep.grownS {w w' : World} {base g : Nat} {e : El} (h : Keep w base e) (hne : e.A ≠ some (⟨g, 0, none⟩ : Addr)) (hg : w.grownBy w' (some g)) (hb : base ≤ g) : Keep w' base e := by
  refine ⟨h.1, ?_⟩
  rcases h.2 with ⟨h1, b, off, h2, h3, h4⟩ | h
  · have hkb : KB b w w' := KB.of_grown hg h4 (fun e => by injection e; omega)
    rw [h2] at h1 ⊢
    exact .inl ⟨h1.kb h4 hkb, b, off, rfl, h3, Nat.lt_of_lt_of_le h4 hg.size⟩
  · exact .inr (h.grown hg (fun q hq e => by cases e; exact hne hq))
theorem Own.blkAt {w : World} {lo g n : Nat} {xs : List Int} (h : Own w lo (some ⟨g, 0, none⟩) n xs) (hn : 0 < n) : ∃ cs, Blk w g 3 cs := by
  obtain ⟨g', cs, e, _, hb, _⟩ := h.2 hn
  cases e
  exact ⟨cs, hb⟩
theorem BufI.ne_int {w : World} {base c gS : Nat} {A : Option Addr} {es : List El} {cs : Array Value} (h : BufI w base A c es) (hb : Blk w gS 3 cs) : ∀ g, A = some ⟨g, 0, none⟩ → some gS ≠ some g := by
  rintro g rfl e
  cases e
  rcases h.form with ⟨e', _⟩ | ⟨g', cs', e', _, hb', _⟩
  · cases e'
  · cases e'
    exact not_int_img hb' _ hb
/-- a step is noted, then the image is put at the end of the work -/
theorem GInv.add {w w8 w10 : World} {m N g c c2 cf d : Nat} {dv : Int} (hdv : dv = (d : Int)) {A Af : Option Addr} {es : List El} {S : List Int} {wk : List (List Int × Nat)} {z : List Int} {bx : Obj} {gB : Nat} (hG : GInv w w8 m N g A c es S wk) (hz : keyN m z < N) (hn : ∀ e ∈ wk, keyN m e.1 ≠ keyN m z)
    (hB : BufI w10 w.heap.size (some ⟨gB, 0, none⟩) c2 (es ++ [⟨(m : Int), Af, cf, z⟩])) (hg10 : ((w8.setCell ⟨g, keyN m z, none⟩ (.int .i64 dv)).alloc bx).grownBy w10 (rowA A)) (hkp : Keep w8 w.heap.size ⟨(m : Int), Af, cf, z⟩) (hAf : Af ≠ some (⟨g, 0, none⟩ : Addr)) :
    GInv w w10 m N g (some ⟨gB, 0, none⟩) c2 (es ++ [⟨(m : Int), Af, cf, z⟩]) (S.set (keyN m z) (d : Int)) (wk ++ [(z, d)]) ∧ (∀ f : El, f.A ≠ some (⟨g, 0, none⟩ : Addr) → Keep w8 w.heap.size f → Keep w10 w.heap.size f) := by
  subst hdv
  obtain ⟨_, hzS, _, _, hset⟩ := hG.steps.cellSet (k := keyN m z) hz
  obtain ⟨cs, hcs⟩ := hG.steps.blkAt (by omega)
  have hs := hset (d : Int)
  have hgs : w8.grownBy (w8.setCell ⟨g, keyN m z, none⟩ (.int .i64 (d : Int))) (some g) := grown_set _
  have hbuf8 := hG.buf.kept hgs (hG.buf.ne_int hcs)
  have hbuf9 := hbuf8.next (lo_alloc (Below.refl _ _) bx)
  have hrowB : ∀ q, rowA A = some q → w.heap.size ≤ q ∧ q < ((w8.setCell ⟨g, keyN m z, none⟩ (.int .i64 (d : Int))).alloc bx).heap.size := rowA_lt hbuf9
  have hrowC : ∀ q, rowA A = some q → ∀ cs, ¬ Blk ((w8.setCell ⟨g, keyN m z, none⟩ (.int .i64 (d : Int))).alloc bx) q 3 cs := by
    intro q hq cs' hb'
    rcases hbuf9.form with ⟨rfl, _⟩ | ⟨g', cs2, rfl, _, hb2, _⟩
    · simp [rowA] at hq
    · simp [rowA] at hq
      subst hq
      exact not_int_img hb2 _ hb'
  have hkeep : ∀ f : El, f.A ≠ some (⟨g, 0, none⟩ : Addr) → Keep w8 w.heap.size f → Keep w10 w.heap.size f := fun f hne h =>
    ((h.grownS hne hgs hG.lo).next (lo_alloc (Below.refl _ _) bx)).grown hg10 (fun q hq => ⟨(hrowB q hq).1, hrowC q hq⟩)
  refine ⟨⟨?_, hB, ?_, ?_, ?_, hG.is_.add d hz hn, ?_, hG.lo⟩, hkeep⟩
  · exact lo_grown (lo_alloc (lo_grown hG.low hgs (by rintro q ⟨⟩; exact hG.lo)) bx) hg10 (fun q hq => (hrowB q hq).1)
  · rw [List.map_append]; exact hG.els.snoc _ _ _
  · intro e he
    rcases List.mem_append.1 he with he | he
    · exact hkeep e (hG.ne e he) (hG.keep e he)
    · obtain rfl := List.mem_singleton.1 he
      exact hkeep _ hAf hkp
  · refine (hs.alloc bx).grown hg10 (fun q hq hr => ?_)
    cases hq
    obtain ⟨cs3, h3⟩ := (hs.alloc bx).blkAt (by omega)
    exact hrowC _ hr cs3 h3
  · intro e he
    rcases List.mem_append.1 he with he | he
    · exact hG.ne e he
    · obtain rfl := List.mem_singleton.1 he
      exact hAf
end

end Go.Proofs.YtpeiolimdglmhaaGreatDoor

-- Walks: how many images are reached, and how far; of the program and of the reference.
namespace Go.Proofs.YtpeiolimdglmhaaGreatDoor
open Go.RowKit Go.Maps
set_option maxRecDepth 100000

theorem look_int {w : World} {b n : Nat} {D : DataW Unit} (hown : w.ownsMap Tryz.prog 9 (plainElem Tryz.prog 3) b n D) {key : Value} {kl : Lit} (hkey : keyOf Tryz.prog 9 key = some kl) :
    ∃ c : Int, (Instr.lookup 99 (.map (some b)) key true).run Tryz.prog w = .ok (.tuple #[.int .i64 c, .bool (Maps.has D kl)]) w ∧ D.atKey kl (.lit (.int .i64 0)) = .lit (.int .i64 c) := by
  obtain ⟨v, ps, hrun, hv⟩ := hown.look_ok keyLaw Tryz.underlying99 (zeroInt w) (plainElem_int (H := Unit) (a := 0) Tryz.underlying3 (by decide)) hkey
  obtain ⟨c, rfl, hc, _⟩ := plainElem_int_inv Tryz.underlying3 hv
  exact ⟨c, hrun, congrArg Prod.fst hc⟩

end Go.Proofs.YtpeiolimdglmhaaGreatDoor

-- Plain facts and walks that the law's proof uses; each says its own conditions.
namespace Go.Proofs.YtpeiolimdglmhaaGreatDoor

end Go.Proofs.YtpeiolimdglmhaaGreatDoor

-- Plain mathematics: how far turned images, other cells, and the way back are.
namespace Go.Proofs.YtpeiolimdglmhaaGreatDoor

end Go.Proofs.YtpeiolimdglmhaaGreatDoor
