
/- Plain facts and walks that the law's proof uses; each says its own conditions. -/
import Derived.Test.YtkcdoacojiilaaaGreatKl
import Derived.Test.YtkcdoacojiilaaaGreatWg
import Derived.Deep.AppendLies
import Derived.Test.YtkcdoacojiilaaaGreatKf
-- Walks: the reference's switches: one cell read, a switch looked at, a copy, a switch done.
namespace Go.Proofs.YtkcdoacojiilaaaGreat
open Go.RowKit
set_option maxRecDepth 100000

def b01 (b : Bool) : Int := if b then 1 else 0
theorem div_bit (r j : Nat) : ((r / 2 ^ j % 2 : Nat) : Int) = b01 (r.testBit j) := by
  rw [Nat.testBit_eq_decide_div_mod_eq, b01]
  rcases Nat.mod_two_eq_zero_or_one (r / 2 ^ j) with h | h <;> simp [h]

set_option maxHeartbeats 1000000 in
theorem l11Get_c (m i j n c : Nat) (xs : List Int) (A : Option Addr) (w : World) (hr : Rd w A n xs) (hk : okB (m : Int) xs = true) (hi : i < n) (hj : j < m) :
    Calls Tryz.prog 48 #[.agg #[.int .i64 (m : Int), .slice A n c], .int .i64 i, .int .i64 j] w fun e w' => e = .returned (.int .i64 (b01 (cellF xs i j))) ∧ Below w.heap.size w w' := by
  have hbd := okB_bd hk
  obtain ⟨r, h1, h2⟩ := okB_at hk (k := i) (by rw [hr.1]; exact hi)
  have e := Lib.hid (show b01 (cellF xs i j) = ((r / 2 ^ j % 2 : Nat) : Int) by rw [div_bit]; simp only [cellF, h1, Int.toNat_natCast])
  obtain ⟨b, off, rfl, hb, hcc⟩ := (hr.alloc (.cells #[.int .i64 (m : Int), .slice A n c] 27)).at_ hi
  rw [h1] at hcc
  clear h1 hk
  go_enter Tryz.func48, Tryz.ntmps48
  go_wp2_with (go_at_call 64; refine (l1Bit_c r j _ (by omega) (by omega)).mono ?_; rintro e w' ⟨rfl, rfl⟩)
  go_ret
  exact ⟨ret_int e.out.symm, by (repeat (first | exact Below.refl _ _ | assumption | refine lo_alloc ?_ _ | refine lo_set ?_ (by simp; try omega) _ | refine Below.drew ?_ | refine below_drewN ?_ _ | refine lo_trans ?_ (by assumption) | refine lo_wr ?_ (by assumption) (by omega)))⟩

theorem b01_eq (x y : Bool) : (b01 x == b01 y) = (x == y) := by cases x <;> cases y <;> rfl
theorem b01_not (x y : Bool) : (b01 x == 1 - b01 y) = (x != y) := by cases x <;> cases y <;> rfl

theorem in_yes {x lo hi : Int} (h1 : lo ≤ x) (h2 : x ≤ hi) : (decide (lo ≤ x) && decide (x ≤ hi)) = true := by simp [h1, h2]

/-! 'l1Put' on rows of one's own -/
set_option maxHeartbeats 1000000 in
theorem l1PutO_c (g n c i j r lo : Nat) (b : Bool) (xs : List Int) (W : Int) (w : World) (hb : Own w lo (some ⟨g, 0, none⟩) n xs) (hi : i < n) (hj : j ≤ 30) (hr : r < 1073741824) (hc : xs[i]?.getD 0 = (r : Int)) :
    Calls Tryz.prog 47 #[.agg #[.int .i64 W, .slice (some ⟨g, 0, none⟩) n c], .int .i64 i, .int .i64 j, .bool b] w fun e w' => e = .returned (.tuple #[]) ∧ Own w' lo (some ⟨g, 0, none⟩) n (xs.set i ((put r j b : Nat) : Int)) ∧ w.grownBy w' (some g) := by
  obtain ⟨_, hz, hcc, hff, hset⟩ := hb.cellSet hi
  have hx : i < xs.length := by rw [hb.1]; exact hi
  rw [hc] at hcc
  have hp := pow_bd (k := j) (by omega)
  have hr1 := put_le r j
  have hr2 : put r j false < 1073741824 := by omega
  have hj2 : j ≤ 60 := by omega
  have hr3 : r < 9223372036854775807 := by omega
  have hj3 : (j : Int) ≤ 60 := by omega
  have hj4 : (0 : Int) ≤ j := by omega
  have hv := Lib.hid (put_wrap r j hr)
  have hpt := Lib.hid (put_true r j)
  obtain ⟨r1, hpf⟩ : ∃ r1, put r j false = r1 := ⟨_, rfl⟩
  rw [hpf] at hv hr1 hr2 hpt
  have hpf' := Lib.hid hpf; clear hpf
  have hs := Lib.hid (hset (r1 : Int))
  clear hset hb
  cases b with
  | false =>
    clear hc
    go_enter Tryz.func47, Tryz.ntmps47
    go_wp2_with fail
    refine region_tail 20 (by kernel_rfl) (by kernel_rfl) ?_
    simp only [List.take_succ_cons, List.take_zero, List.drop_succ_cons, List.drop_zero]
    repeat still_step
    still_call (still_of (l1Bit_c r j _ hj2 hr3))
    repeat still_step
    still_call (still_of (l1Power_c _ _ hj4 hj3))
    repeat still_step
    refine wpStill_nil ?_
    go_wp2_with fail
    rw [hv.out]
    go_end0
    rw [hpf'.out]
    exact ⟨rfl, Own.drew (Own.alloc hs.out _), grown_trans (grown_trans (grown_set _) (grown_alloc _ _)) (grown_drew _)⟩
  | true =>
    have hv2 := Lib.hid (put_wrap2 r1 j hj hr2)
    have hwp := Lib.hid (IntWalk.wrap64_in ((put r j true : Nat) : Int) (by
      have e : ((put r j true : Nat) : Int) = r1 + 2 ^ j := by rw [hpt.out]; simp
      rw [e]; omega))
    clear hc
    go_enter Tryz.func47, Tryz.ntmps47
    go_wp2_with fail
    refine region_tail 20 (by kernel_rfl) (by kernel_rfl) ?_
    simp only [List.take_succ_cons, List.take_zero, List.drop_succ_cons, List.drop_zero]
    repeat still_step
    still_call (still_of (l1Bit_c r j _ hj2 hr3))
    repeat still_step
    still_call (still_of (l1Power_c _ _ hj4 hj3))
    repeat still_step
    refine wpStill_nil ?_
    go_wp2_with fail
    rw [hv.out]
    have hW := Blk.new (w.setCell ⟨g, i, none⟩ (.int .i64 (r1 : Int))) 27 #[.int .i64 W, .slice (some ⟨g, 0, none⟩) n c]
    have hG := Own.drew (Own.alloc hs.out (.cells #[.int .i64 W, .slice (some ⟨g, 0, none⟩) n c] 27))
    have hg : w.grownBy (((w.setCell ⟨g, i, none⟩ (.int .i64 (r1 : Int))).alloc (.cells #[.int .i64 W, .slice (some ⟨g, 0, none⟩) n c] 27))).drew (some g) := grown_trans (grown_trans (grown_set _) (grown_alloc _ _)) (grown_drew _)
    rw [size_setCell] at hW
    generalize ((w.setCell ⟨g, i, none⟩ (.int .i64 (r1 : Int))).alloc (.cells #[.int .i64 W, .slice (some ⟨g, 0, none⟩) n c] 27)) = w2 at hW hG hg ⊢
    have hW1 := hW.drew.cell 1
    obtain ⟨_, _, hG1, hG2, hG3⟩ := hG.cellSet hi
    have hG3' := Lib.hid (hG3 ((r1 + 2 ^ j : Nat) : Int))
    rw [List.set_set, ← hpt.out] at hG3'
    simp only [List.getElem?_set_self hx, Option.getD_some] at hG1
    clear hcc hff hs hG3
    generalize w2.drew = w3 at hW1 hG1 hG2 hG3' hg hG ⊢
    have hv2 := hv2.out
    refine region_tail 12 (by kernel_rfl) (by kernel_rfl) ?_
    simp only [List.take_succ_cons, List.take_zero, List.drop_succ_cons, List.drop_zero]
    repeat still_step
    still_call (still_of (l1Power_c _ _ hj4 hj3))
    repeat still_step
    refine wpStill_nil ?_
    go_wp2_with fail
    go_end0
    rw [show (r1 : Int) + 2 ^ j = ((put r j true : Nat) : Int) from by rw [hpt.out]; simp]
    rw [hwp.out]
    exact ⟨rfl, Own.drew hG3'.out, grown_trans (grown_trans hg (grown_set _)) (grown_drew _)⟩

end Go.Proofs.YtkcdoacojiilaaaGreat

-- Walks: the reference's copy of an image; a switch done.
namespace Go.Proofs.YtkcdoacojiilaaaGreat
open Go.RowKit
set_option maxRecDepth 100000

def putChk (r c d : Nat) : Bool := c == d || r.testBit d == r.testBit c || (put (put r c (r.testBit d)) d (r.testBit c) == r ^^^ (2 ^ c ||| 2 ^ d) && put (put r d (r.testBit c)) c (r.testBit d) == r ^^^ (2 ^ c ||| 2 ^ d) && decide (put r c (r.testBit d) < 64) && decide (put r d (r.testBit c) < 64))
theorem putChk_all : ∀ r, r < 64 → ∀ c, c < 6 → ∀ d, d < 6 → putChk r c d = true := by decide +kernel
theorem put_sw {r c d : Nat} (hr : r < 64) (hc : c < 6) (hd : d < 6) (hne : c ≠ d) (x : Bool) (h1 : r.testBit c = x) (h2 : r.testBit d = !x) :
    put (put r c (!x)) d x = r ^^^ (2 ^ c ||| 2 ^ d) ∧ put (put r d x) c (!x) = r ^^^ (2 ^ c ||| 2 ^ d) ∧ put r c (!x) < 64 ∧ put r d x < 64 := by
  have h := putChk_all r hr c hc d hd
  have e1 : (c == d) = false := beq_eq_false_iff_ne.2 hne
  have e2 : ((!x) == x) = false := by cases x <;> rfl
  simp only [putChk, e1, e2, Bool.false_or, Bool.and_eq_true, beq_iff_eq, decide_eq_true_eq, h1, h2] at h
  exact ⟨h.1.1.1, h.1.1.2, h.1.2, h.2⟩

theorem set4 {xs : List Int} {a b : Nat} (h : a ≠ b) (x y X Y : Int) : (((xs.set a x).set b y).set a X).set b Y = (xs.set a X).set b Y := by
  rw [List.set_comm _ _ (Ne.symm h), List.set_set, List.set_set]
theorem set_get {xs : List Int} {a b : Nat} (h : a ≠ b) (x : Int) : (xs.set a x)[b]?.getD 0 = xs[b]?.getD 0 := by rw [List.getElem?_set_ne h]
theorem set_get_same {xs : List Int} {a : Nat} (h : a < xs.length) (x : Int) : (xs.set a x)[a]?.getD 0 = x := by rw [List.getElem?_set_self h]; rfl

end Go.Proofs.YtkcdoacojiilaaaGreat

-- Walks: the reference's list of switches.
namespace Go.Proofs.YtkcdoacojiilaaaGreat
open Go.RowKit
set_option maxRecDepth 100000

theorem infoSw : ((Tryz.prog.info? 50).map fun i => (i.zero, i.size, i.bytes)) = some (some (.agg #[.int .i64 0, .int .i64 0, .int .i64 0, .int .i64 0]), 4, 32) := by kernel_rfl

def Sw.cells (s : Sw) : List Value := [.int .i64 (s.a : Int), .int .i64 (s.b : Int), .int .i64 (s.c : Int), .int .i64 (s.d : Int)]
def swCells (ss : List Sw) : List Value := ss.flatMap Sw.cells
theorem swCells_len (ss : List Sw) : (swCells ss).length = ss.length * 4 := by
  induction ss with
  | nil => rfl
  | cons s ss ih =>
    have e1 : swCells (s :: ss) = s.cells ++ swCells ss := rfl
    rw [e1, List.length_append, ih, List.length_cons]; simp [Sw.cells]; omega
theorem swCells_snoc (ss : List Sw) (s : Sw) : swCells (ss ++ [s]) = swCells ss ++ s.cells := by simp [swCells, List.flatMap_append]
theorem swCells_get : ∀ {ss : List Sw} {k : Nat} {s : Sw}, ss[k]? = some s → (swCells ss)[4 * k]? = some (.int .i64 (s.a : Int)) ∧ (swCells ss)[4 * k + 1]? = some (.int .i64 (s.b : Int)) ∧ (swCells ss)[4 * k + 2]? = some (.int .i64 (s.c : Int)) ∧ (swCells ss)[4 * k + 3]? = some (.int .i64 (s.d : Int))
  | s' :: ss, 0, s, h => by
    simp at h; subst h; exact ⟨rfl, rfl, rfl, rfl⟩
  | s' :: ss, k + 1, s, h => by
    have e1 : swCells (s' :: ss) = .int .i64 (s'.a : Int) :: .int .i64 (s'.b : Int) :: .int .i64 (s'.c : Int) :: .int .i64 (s'.d : Int) :: swCells ss := rfl
    have := swCells_get (ss := ss) (k := k) (s := s) (by simpa using h)
    rw [e1, show 4 * (k + 1) = 4 * k + 1 + 1 + 1 + 1 by omega]
    simp only [List.getElem?_cons_succ, Nat.add_assoc, Nat.reduceAdd]
    exact this
theorem swCells_one (ss : List Sw) : ∀ u ∈ swCells ss, u.oneCell' = true := by
  intro u hu
  simp only [swCells, List.mem_flatMap, Sw.cells, List.mem_cons, List.not_mem_nil, or_false] at hu
  obtain ⟨e, _, rfl | rfl | rfl | rfl⟩ := hu <;> rfl

/-- a slice of switches of one's own -/
def BufW (w : World) (base : Nat) (A : Option Addr) (c : Nat) (ss : List Sw) : Prop := w.ownsRow base 50 4 (.slice A ss.length c) ss.length (swCells ss)
section
variable {w w' : World} {base : Nat} {A : Option Addr} {n c : Nat} {ss : List Sw}
theorem BufW.form (h : BufW w base A c ss) : (A = none ∧ ss = []) ∨ ∃ g cs, A = some ⟨g, 0, none⟩ ∧ base ≤ g ∧ Blk w g 50 cs ∧ ∀ (k : Nat) (x : Value), (swCells ss)[k]? = some x → cs[k]? = some x := by
  rcases h.2 with ⟨hv, hn⟩ | ⟨g, cap, cur, hv, hb, hh, hn, hm, hs, ht⟩
  · injection hv with h1 h2 h3
    exact .inl ⟨h1, List.eq_nil_of_length_eq_zero h2⟩
  · injection hv with h1 h2 h3
    refine .inr ⟨g, cur, h1, hb, hh, fun k x hx => ?_⟩
    have hk : k < ss.length * 4 := by
      have := (List.getElem?_eq_some_iff.1 hx).1
      rwa [swCells_len] at this
    have e : (cur.toList.take (ss.length * 4))[k]? = (swCells ss)[k]? := by rw [ht]
    rw [List.getElem?_take, if_pos (by omega), hx] at e
    simpa using e
theorem BufW.addr (h : BufW w base A c ss) : A = none ∨ ∃ g, A = some ⟨g, 0, none⟩ := by
  rcases h.form with ⟨e, _⟩ | ⟨g', cs, e, _⟩
  · exact .inl e
  · exact .inr ⟨_, e⟩
theorem BufW.lt (h : BufW w base A c ss) : ∀ g, A = some ⟨g, 0, none⟩ → base ≤ g ∧ g < w.heap.size := by
  rintro g rfl
  rcases h.form with ⟨e, _⟩ | ⟨g', cs, e, hb, hk, _⟩
  · cases e
  · injection e with e; injection e with e; subst e
    exact ⟨hb, hk.lt⟩
theorem BufW.kept (h : BufW w base A c ss) {row : Option Nat} (hg : w.grownBy w' row) (hne : ∀ g, A = some ⟨g, 0, none⟩ → row ≠ some g) : BufW w' base A c ss := by
  refine World.ownsRow.kept h hg ?_
  rcases h.form with ⟨rfl, _⟩ | ⟨g, cs, rfl, _⟩
  · exact .inl rfl
  · exact .inr (fun e => hne g rfl e.symm)
theorem BufW.next (h : BufW w base A c ss) (hb : Below w.heap.size w w') : BufW w' base A c ss := h.kept (grown_of_below hb none) (fun _ _ e => by cases e)
theorem BufW.mono {lo : Nat} (h : BufW w base A c ss) (hl : lo ≤ base) : BufW w lo A c ss := by
  refine ⟨h.1, ?_⟩
  rcases h.2 with h1 | ⟨g, cap, cur, h1, h2, h3⟩
  · exact .inl h1
  · exact .inr ⟨g, cap, cur, h1, by omega, h3⟩
theorem BufW.row (h : BufW w base A c ss) : ∀ g, rowA A = some g → base ≤ g ∧ g < w.heap.size := by
  intro g hg
  rcases h.addr with rfl | ⟨g', rfl⟩
  · simp [rowA] at hg
  · simp [rowA] at hg
    subst hg
    exact h.lt _ rfl

/-- the slice at A of n switches can be read -/
def RdW (w : World) (A : Option Addr) (n : Nat) (ss : List Sw) : Prop :=
  ss.length = n ∧ (0 < n → ∃ b off, A = some ⟨b, off, none⟩ ∧ b < w.heap.size ∧ ∀ k s, ss[k]? = some s → w.cell? ⟨b, off + 4 * k, none⟩ = some (.int .i64 (s.a : Int)) ∧ w.cell? ⟨b, off + 4 * k + 1, none⟩ = some (.int .i64 (s.b : Int)) ∧
    w.cell? ⟨b, off + 4 * k + 2, none⟩ = some (.int .i64 (s.c : Int)) ∧ w.cell? ⟨b, off + 4 * k + 3, none⟩ = some (.int .i64 (s.d : Int)))
theorem RdW.next (h : RdW w A n ss) (hb : Below w.heap.size w w') : RdW w' A n ss :=
  ⟨h.1, fun hn => by
    obtain ⟨b, off, e, h1, h2⟩ := h.2 hn
    have hs := hb.size
    exact ⟨b, off, e, by omega, fun k e he => ⟨(hb.cell (p := ⟨b, off + 4 * k, none⟩) h1).trans (h2 k e he).1, (hb.cell (p := ⟨b, off + 4 * k + 1, none⟩) h1).trans (h2 k e he).2.1,
      (hb.cell (p := ⟨b, off + 4 * k + 2, none⟩) h1).trans (h2 k e he).2.2.1, (hb.cell (p := ⟨b, off + 4 * k + 3, none⟩) h1).trans (h2 k e he).2.2.2⟩⟩⟩
theorem BufW.rd (h : BufW w base A c ss) : RdW w A ss.length ss := by
  refine ⟨rfl, fun hn => ?_⟩
  rcases h.form with ⟨_, rfl⟩ | ⟨g, cs, e, hb, hk, hx⟩
  · simp at hn
  · refine ⟨g, 0, e, hk.lt, fun k s hs => ?_⟩
    have := swCells_get hs
    rw [Nat.zero_add]
    exact ⟨(hk.cell _).trans (hx _ _ this.1), (hk.cell _).trans (hx _ _ this.2.1), (hk.cell _).trans (hx _ _ this.2.2.1), (hk.cell _).trans (hx _ _ this.2.2.2)⟩
end

theorem wpl_appendW {ops : Array Oper} {rest : List Oper} {o : Oper} {a : Act} {Q : Exit → Act → World → Prop} {w : World} (hgd : o.guard = none) (s x : Operand)
    (ho : o.op = .call { callee := .builtin .append, args := #[s, x], argTypes := #[32, 32] })
    (base : Nat) (A : Option Addr) (c n : Nat) (ss : List Sw) (hs : a.eval s = .slice A n c) (hn : n = ss.length) (hb : BufW w base A c ss)
    (b d : Nat) (e : Sw) (hx : a.eval x = .slice (some ⟨b, 0, none⟩) 1 d) (hr : Blk w b 50 #[.int .i64 (e.a : Int), .int .i64 (e.b : Int), .int .i64 (e.c : Int), .int .i64 (e.d : Int)]) (hlen : n + 1 ≤ 1048576) (hbase : base ≤ w.heap.size)
    (h : ∀ g c' w', BufW w' base (some ⟨g, 0, none⟩) c' (ss ++ [e]) → w.grownBy w' (rowA A) → (A = some ⟨g, 0, none⟩ ∨ g = w.heap.size) → wpList Tryz.prog ops Q rest (a.put o.dst (.slice (some ⟨g, 0, none⟩) (n + 1) c')) w') : wpList Tryz.prog ops Q (o :: rest) a w := by
  obtain ⟨i0, hi, hz0, hz1, hz2⟩ := info_parts infoSw
  subst hn
  refine wpList_append_own_at w hgd s x 32 ho base 50 i0 (.agg #[.int .i64 0, .int .i64 0, .int .i64 0, .int .i64 0]) 4 32 Tryz.underlying32 hi hz0 hz1 hz2 rfl (by decide) _ ss.length _ hs hb ⟨b, 0, none⟩ 1 d e.cells hx rfl ?_ (fun u hu => swCells_one [e] u (by simpa [swCells] using hu)) (by unfold maxLen; omega) (by omega) hbase ?_
  · intro j u hu
    rw [Go.WideShapes.add_plain, hr.cell, Nat.zero_add]
    simpa [Sw.cells] using hu
  · intro v' w' hown hg _ hat
    rcases hown.2 with ⟨hv, hn⟩ | ⟨g, cap, cur, rfl, hb', hh, hn, hm, hsz, ht⟩
    · omega
    · refine h g cap w' ?_ (by cases A <;> exact hg) ?_
      · unfold BufW
        rw [List.length_append, swCells_snoc]
        exact hown
      · rcases hat with h1 | h1
        · cases A with
          | none => simp [Value.ownBlock] at h1
          | some a =>
            rcases hb.form with ⟨e, _⟩ | ⟨g', cs, e, _⟩
            · cases e
            · injection e with e; subst e
              simp [Value.ownBlock] at h1
              exact .inl (by rw [h1])
        · simp [Value.ownBlock] at h1
          exact .inr h1

def swListW (W : Int) (xs : List Int) : List Sw := if okB W xs then swList W.toNat xs else []

/-- the state of the search: the switches so far in memory of one's own from base on -/
def SInv (w wr : World) (base : Nat) (m n c : Nat) (A : Option Addr) (v : Value) (ss : List Sw) : Prop :=
  Below w.heap.size w wr ∧ Blk wr w.heap.size 27 #[.int .i64 (m : Int), .slice A n c] ∧ base ≤ wr.heap.size ∧ ∃ B c', v = .slice B ss.length c' ∧ BufW wr base B c' ss
theorem SInv.next {w wr w2 : World} {base m n c : Nat} {A : Option Addr} {v : Value} {ss : List Sw} (h : SInv w wr base m n c A v ss) (hb : Below wr.heap.size wr w2) : SInv w w2 base m n c A v ss := by
  obtain ⟨h1, h2, h3, B, c', h4, h5⟩ := h
  exact ⟨lo_trans h1 hb, h2.next hb, Nat.le_trans h3 hb.size, B, c', h4, h5.next hb⟩

end Go.Proofs.YtkcdoacojiilaaaGreat

-- Walks: the reference's neighbors of an image.
namespace Go.Proofs.YtkcdoacojiilaaaGreat
open Go.RowKit
set_option maxRecDepth 100000

theorem rowIW {w : World} {base base' c c' : Nat} {A B : Option Addr} {es : List El} {ss : List Sw} (h : BufI w base A c es) (k : BufW w base' B c' ss) : ∀ g, B = some ⟨g, 0, none⟩ → rowA A ≠ some g := by
  rintro g rfl e
  rcases h.form with ⟨rfl, _⟩ | ⟨g1, cs, rfl, _, hb, _⟩
  · simp [rowA] at e
  · simp [rowA] at e
    subst e
    rcases k.form with ⟨e', _⟩ | ⟨g2, cs', e', _, hb', _⟩
    · cases e'
    · cases e'
      unfold Blk at hb hb'
      rw [hb] at hb'
      injection hb' with hb'
      injection hb' with _ h2
      exact absurd h2 (by decide)

theorem step_append_run {P : Program} {ops : Array Oper} {o : Oper} {a : Act} {K : Act → World → Prop} {Q : Exit → Act → World → Prop} {E : Prop} {w w' : World} (hgd : o.guard = none) (s x : Operand) (t : TypeId)
    (ho : o.op = .call { callee := .builtin .append, args := #[s, x], argTypes := #[t, t] }) (v v' xv : Value) (hs : a.eval s = v) (hx : a.eval x = xv)
    (hrun : (Builtin.append_ #[t, t] o.type #[v, xv]).run P w = .ok v' w') (h : K (a.put o.dst v') w') :
    if Region.wanted o (yielded ops a.tmps) = true then Oper.wp P o a w K Q else E := by
  have hw : Region.wanted o (yielded ops a.tmps) = true := by simp [Region.wanted, hgd]
  rw [if_pos hw]
  unfold Oper.wp execOp
  simp only [ho, resolve, invoke, builtin, Sem.run_bind, Sem.run_pure, Result.andThen_ok, List.map_toArray, List.map_cons, List.map_nil, hs, hx, hrun]
  exact h

theorem OwnI.app {W W2 W3 : World} {base n c' cB cr gr gB : Nat} {m : Int} {R : Option Addr} {es : List El} {zs : List Int} {bx : Obj} (hI : OwnI W base R c' es)
    (hbW : base ≤ W.heap.size) (hb2 : Below W.heap.size W W2) (hown2 : Own W2 W.heap.size (some ⟨gr, 0, none⟩) n zs) (hn : 0 < n)
    (hB3 : BufI W3 base (some ⟨gB, 0, none⟩) cB (es ++ [⟨m, some ⟨gr, 0, none⟩, cr, zs⟩])) (hg3 : (W2.alloc bx).grownBy W3 (rowA R)) (hat : R = some ⟨gB, 0, none⟩ ∨ gB = (W2.alloc bx).heap.size) :
    OwnI W3 base (some ⟨gB, 0, none⟩) cB (es ++ [⟨m, some ⟨gr, 0, none⟩, cr, zs⟩]) := by
  have hbx := lo_alloc hb2 bx
  have hIx := hI.next hbx
  obtain ⟨_, eg, hgr1, hgr2⟩ := (hown2.blk).resolve_left (fun h => by omega)
  cases eg
  have hlen : zs.length = n := hown2.1
  have hlt : ∀ e ∈ es, ∀ g, e.A = some (⟨g, 0, none⟩ : Addr) → g < W.heap.size := by
    intro e he g eA
    rcases (hI.rows e he).1.blk with ⟨h0, _⟩ | ⟨g', e', _, h'⟩
    · have := (hI.rows e he).2; omega
    · rw [eA] at e'; cases e'; exact h'
  refine OwnI.snoc hIx ?_ (by show 0 < zs.length; omega) ?_ ?_ hB3 hg3 hat
  · show Own (W2.alloc bx) base (some ⟨gr, 0, none⟩) zs.length zs
    rw [hlen]
    exact (hown2.alloc bx).mono hbW
  · intro hm
    obtain ⟨e, he, eA⟩ := List.mem_map.1 hm
    have := hlt e he gr eA
    omega
  · rintro rfl
    have := (hI.buf.lt gr rfl).2
    omega

theorem infoImg' : ((Tryz.prog.info? 27).map fun i => (i.zero, i.size, i.bytes)) = some (some (.agg #[.int .i64 0, .slice none 0 0]), 2, 32) := infoImg

end Go.Proofs.YtkcdoacojiilaaaGreat
