
/- Plain facts and walks that the law's proof uses; each says its own conditions. -/
import Derived.Test.YtkcdoacojiilaaaCl
import Derived.Test.YtkcdoacojiilaaaKf
import Derived.Test.YtkcdoacojiilaaaKb
import Derived.Deep.AppendLies
-- Walks: a switch of an image.
namespace Go.Proofs.Ytkcdoacojiilaaa
open Go.RowKit

theorem sw_row {r m c d : Nat} (hr : r < 2 ^ m) (hc : c < m) (hd : d < m) : r ^^^ (2 ^ c ||| 2 ^ d) = mkRow (fun j => r.testBit j ^^ (j == c || j == d)) m := by
  refine row_ext (Nat.xor_lt_two_pow hr (Nat.or_lt_two_pow (Nat.pow_lt_pow_right (by omega) hc) (Nat.pow_lt_pow_right (by omega) hd))) (mkRow_lt _ _) (fun j hj => ?_)
  rw [Nat.testBit_xor, Nat.testBit_or, testBit_mkRow, Nat.testBit_two_pow, Nat.testBit_two_pow]
  simp only [hj, decide_true, Bool.true_and]
  have e1 : decide (c = j) = (j == c) := by rw [Bool.eq_iff_iff]; simp; exact eq_comm
  have e2 : decide (d = j) = (j == d) := by rw [Bool.eq_iff_iff]; simp; exact eq_comm
  rw [e1, e2]
theorem sw_rows {m r1 r2 : Nat} {xs : List Int} {s : Sw} (hk : okB (m : Int) xs = true) (h : s.a < s.b ∧ s.b < xs.length ∧ s.c < s.d ∧ s.d < m) (h1 : xs[s.a]?.getD 0 = (r1 : Int)) (h2 : xs[s.b]?.getD 0 = (r2 : Int))
    (l1 : r1 < 2 ^ m) (l2 : r2 < 2 ^ m) : (xs.set s.a ((r1 ^^^ (2 ^ s.c ||| 2 ^ s.d) : Nat) : Int)).set s.b ((r2 ^^^ (2 ^ s.c ||| 2 ^ s.d) : Nat) : Int) = swDo m xs s := by
  obtain ⟨ha, hb, hc, hd⟩ := h
  rw [sw_row l1 (by omega) hd, sw_row l2 (by omega) hd]
  apply List.ext_getElem
  · simp [swDo_len]
  · intro i hi hi2
    rw [swDo_len] at hi2
    have e0 : (swDo m xs s)[i]? = some ((mkRow (fun j => cellF xs i j ^^ inSw s i j) m : Nat) : Int) := by
      rw [swDo, img_get' hi2]
    rw [List.getElem?_eq_getElem (by rw [swDo_len]; exact hi2)] at e0
    injection e0 with e0
    rw [e0]
    have hx : xs[i]?.getD 0 = xs[i] := by simp [List.getElem?_eq_getElem hi2]
    by_cases hb' : i = s.b
    · subst hb'
      rw [List.getElem_set_self]
      congr 1
      refine mkRow_congr (fun j _ => ?_)
      simp only [cellF, h2, Int.toNat_natCast, inSw, BEq.rfl, Bool.or_true, Bool.true_and]
    · rw [List.getElem_set_ne (fun e => hb' e.symm)]
      by_cases ha' : i = s.a
      · subst ha'
        rw [List.getElem_set_self]
        congr 1
        refine mkRow_congr (fun j _ => ?_)
        simp only [cellF, h1, Int.toNat_natCast, inSw, BEq.rfl, Bool.true_or, Bool.true_and]
      · rw [List.getElem_set_ne (fun e => ha' e.symm)]
        obtain ⟨r, hr1, hr2⟩ := okB_row hk rfl (k := i) hi2
        rw [hx] at hr1
        rw [hr1]
        have e3 : mkRow (fun j => cellF xs i j ^^ inSw s i j) m = mkRow r.testBit m := mkRow_congr (fun j _ => by
          simp only [cellF, hx, hr1, Int.toNat_natCast, inSw, beq_eq_false_iff_ne.2 ha', beq_eq_false_iff_ne.2 hb', Bool.or_self, Bool.false_and, Bool.xor_false])
        rw [e3, mkRow_testBit hr2]

theorem has_k (m i j n c : Nat) (xs : List Int) (A : Option Addr) (w : World) (hr : Rd w A n xs) (hk : okB (m : Int) xs = true) (hi : i < n) (hj : j < m) :
    Calls Try.prog 45 #[.agg #[.int .i64 (m : Int), .slice A n c], .int .i64 i, .int .i64 j] w fun e w' => e = .returned (.bool (cellF xs i j)) ∧ Below w.heap.size w w' := by
  have hbd := okB_bd hk
  obtain ⟨r, h1, h2⟩ := okB_at hk (k := i) (by rw [hr.1]; exact hi)
  have e : cellF xs i j = r.testBit j := by simp only [cellF, h1, Int.toNat_natCast]
  rw [e]
  exact has_c i j r n c m xs A w hr hi (by omega) h2 h1

theorem sw_mask {r c d : Nat} (hr : r < 64) (hc : c < 6) (hd : d < 6) : bits .xor .i64 (r : Int) (bits .or .i64 (2 ^ c) (2 ^ d)) = ((r ^^^ (2 ^ c ||| 2 ^ d) : Nat) : Int) := by
  have h1 := pow_le64 (j := c) (by omega)
  have h2 := pow_le64 (j := d) (by omega)
  have e : bits .or .i64 ((2 : Int) ^ c) (2 ^ d) = ((2 ^ c ||| 2 ^ d : Nat) : Int) := by
    rw [← i64_or_nat (2 ^ c) (2 ^ d) (by omega) (by omega)]; simp
  have h3 : 2 ^ c ||| 2 ^ d < 2 ^ 7 := Nat.or_lt_two_pow (by omega) (by omega)
  rw [e, i64_xor_nat _ _ (by omega) (by omega)]
theorem Own.cellSet {w : World} {lo g n k : Nat} {xs : List Int} (h : Own w lo (some ⟨g, 0, none⟩) n xs) (hk : k < n) : lo ≤ g ∧ g < w.heap.size ∧ w.cell? ⟨g, k, none⟩ = some (.int .i64 (xs[k]?.getD 0)) ∧ w.frozen? ⟨g, k, none⟩ = false ∧
    ∀ y, Own (w.setCell ⟨g, k, none⟩ (.int .i64 y)) lo (some ⟨g, 0, none⟩) n (xs.set k y) := by
  obtain ⟨g', e, h1, h2, h3, h4, h5⟩ := h.at_ hk
  cases e
  exact ⟨h1, h2, h3, h4, h5⟩

end Go.Proofs.Ytkcdoacojiilaaa

-- Walks: the iterator over an image's switches; the neighbors of an image.
namespace Go.Proofs.Ytkcdoacojiilaaa
open Go.RowKit Go.Shelf
attribute [local go_sem] Oper.semAt_some

/-- blocks B and b lie as they lay -/
def KB2 (B b : Nat) (W W' : World) : Prop := KB B W W' ∧ KB b W W'
theorem KB2.trans {B b : Nat} {x y z : World} (h : KB2 B b x y) (k : KB2 B b y z) : KB2 B b x z := ⟨h.1.trans k.1, h.2.trans k.2⟩
theorem KB2.refl (B b : Nat) (W : World) : KB2 B b W W := ⟨rfl, rfl⟩
theorem KB2.put {B b : Nat} {w : World} (hB : B < w.heap.size) (hb : b < w.heap.size) (W : World) (l : Nat) (o o' : Obj) (hl : w.heap.size ≤ l) (_ : W.heap[l]? = some o) (_ : o.isCells = false) (_ : o.isWalk = false) : KB2 B b W (W.putObj l o') :=
  ⟨World.putObj_heap_other (by omega), World.putObj_heap_other (by omega)⟩
theorem KB2.of_below {B b : Nat} {W W' : World} (h : Below W.heap.size W W') (hB : B < W.heap.size) (hb : b < W.heap.size) : KB2 B b W W' := ⟨KB.of_below h hB, KB.of_below h hb⟩
theorem KB2.of_grown {B b : Nat} {W W' : World} {row : Option Nat} (h : W.grownBy W' row) (hB : B < W.heap.size) (hb : b < W.heap.size) (hr : row ≠ some B) (hr' : row ≠ some b) : KB2 B b W W' := ⟨KB.of_grown h hB hr, KB.of_grown h hb hr'⟩
theorem KB.lt {B : Nat} {W W' : World} (h : KB B W W') (hB : B < W.heap.size) : B < W'.heap.size := by
  rcases Nat.lt_or_ge B W'.heap.size with h1 | h1
  · exact h1
  · unfold KB at h
    rw [Array.getElem?_eq_none h1, Array.getElem?_eq_getElem hB] at h
    cases h
theorem Rd.kb {b off n : Nat} {xs : List Int} {W W' : World} (h : Rd W (some ⟨b, off, none⟩) n xs) (hb : b < W.heap.size) (k : KB b W W') : Rd W' (some ⟨b, off, none⟩) n xs :=
  ⟨h.1, fun hn => by
    obtain ⟨b', off', e, _, hc⟩ := h.2 hn
    cases e
    exact ⟨b, off, rfl, k.lt hb, fun i x hx => (World.cell?_of_block (a := ⟨b, off + i, none⟩) k).trans (hc i x hx)⟩⟩
theorem Blk.kb {B : Nat} {t : TypeId} {cs : Array Value} {W W' : World} (h : Blk W B t cs) (k : KB B W W') : Blk W' B t cs := Eq.trans k h

def VSw.of {m : Nat} {xs : List Int} (s : Sw) (h : s ∈ swList m xs) : VSw m xs := ⟨s, h⟩
def swEnc (m : Nat) (xs : List Int) (x : VSw m xs) : Array Value := #[.agg #[.int .i64 (x.1.a : Int), .int .i64 (x.1.b : Int), .int .i64 (x.1.c : Int), .int .i64 (x.1.d : Int)]]

theorem pre_add {m : Nat} {xs : List Int} {h a b c d : Nat} {pre : List (VSw m xs)} (hp : pre.map (·.1) = swS h m xs a b c d) (hd : c + 1 ≤ d) (hk : swOk xs ⟨a, b, c, d⟩ = true) (hm : (⟨a, b, c, d⟩ : Sw) ∈ swList m xs) :
    (pre ++ [VSw.of ⟨a, b, c, d⟩ hm]).map (·.1) = swS h m xs a b c (d + 1) := by
  rw [swS_d hd, if_pos hk, List.map_append, hp]; rfl
theorem pre_not {m : Nat} {xs : List Int} {h a b c d : Nat} {pre : List (VSw m xs)} (hp : pre.map (·.1) = swS h m xs a b c d) (hd : c + 1 ≤ d) (hk : swOk xs ⟨a, b, c, d⟩ = false) :
    pre.map (·.1) = swS h m xs a b c (d + 1) := by
  rw [swS_d hd, if_neg (by rw [hk]; simp), hp]
theorem pre_len {m : Nat} {xs : List Int} {h a b c d : Nat} {pre : List (VSw m xs)} (hp : pre.map (·.1) = swS h m xs a b c d) (hh : h ≤ 6) (hm : m ≤ 6) (ha : a ≤ h) (hb : b ≤ h) (hc : c ≤ m) (hd : d ≤ m) : pre.length < 1600 := by
  have := swS_len xs hh hm ha hb hc hd
  rw [← hp, List.length_map] at this; exact this

end Go.Proofs.Ytkcdoacojiilaaa

-- Walks: the neighbors of an image.
namespace Go.Proofs.Ytkcdoacojiilaaa
open Go.RowKit Go.Shelf
attribute [local go_sem] Oper.semAt_some

theorem Blk.cells_ne {W : World} {g r : Nat} {t : TypeId} {cs : Array Value} (h : Blk W g t cs) (hr : ∃ o : Obj, W.heap[r]? = some o ∧ o.isCells = false) : g ≠ r := by
  rintro rfl
  obtain ⟨o, ho, hc⟩ := hr
  unfold Blk at h
  rw [h] at ho; cases ho; cases hc
theorem Blk.ownF {W W' : World} {g : Nat} {t : TypeId} {cs : Array Value} {row : Option Nat} (h : Blk W g t cs) (hg : W.grownBy W' row) (hr : ∀ r, row = some r → ∃ o : Obj, W.heap[r]? = some o ∧ o.isCells = false) : Blk W' g t cs :=
  h.grown hg (fun e => h.cells_ne (hr g e.symm) rfl)
theorem Own.ownF {W W' : World} {lo n : Nat} {A : Option Addr} {xs : List Int} {row : Option Nat} (h : Own W lo A n xs) (hg : W.grownBy W' row) (hr : ∀ r, row = some r → ∃ o : Obj, W.heap[r]? = some o ∧ o.isCells = false) : Own W' lo A n xs :=
  ⟨h.1, fun hn => by obtain ⟨g, cs, e, h1, h2, h3⟩ := h.2 hn; exact ⟨g, cs, e, h1, h2.ownF hg hr, h3⟩⟩
theorem OwnI.ownF {W W' : World} {lo c : Nat} {A : Option Addr} {es : List El} {row : Option Nat} (h : OwnI W lo A c es) (hg : W.grownBy W' row) (hr : ∀ r, row = some r → ∃ o : Obj, W.heap[r]? = some o ∧ o.isCells = false) : OwnI W' lo A c es := by
  refine ⟨h.buf.kept hg ?_, fun e he => ⟨(h.rows e he).1.ownF hg hr, (h.rows e he).2⟩, h.far, h.apart⟩
  rintro g rfl e
  rcases h.buf.form with ⟨e', _⟩ | ⟨g', cs, e', _, hb, _⟩
  · cases e'
  · cases e'
    exact hb.cells_ne (hr _ e) rfl
theorem OwnI.grown {W W' : World} {lo c : Nat} {A : Option Addr} {es : List El} {row : Option Nat} (h : OwnI W lo A c es) (hg : W.grownBy W' row) (hr : ∀ g, row = some g → g < lo) : OwnI W' lo A c es := by
  refine ⟨h.buf.kept hg ?_, fun e he => ⟨(h.rows e he).1.grown_lo hg hr, (h.rows e he).2⟩, h.far, h.apart⟩
  rintro g rfl e
  have h1 := h.buf.lt g rfl
  have h2 := hr g e
  omega
theorem OwnI.mono {W : World} {lo lo' c : Nat} {A : Option Addr} {es : List El} (h : OwnI W lo A c es) (hl : lo' ≤ lo) : OwnI W lo' A c es := by
  refine ⟨?_, fun e he => ⟨(h.rows e he).1.mono hl, (h.rows e he).2⟩, h.far, h.apart⟩
  have hb := h.buf
  refine ⟨hb.1, ?_⟩
  rcases hb.2 with h1 | ⟨g, cap, cur, h1, h2, h3⟩
  · exact .inl h1
  · exact .inr ⟨g, cap, cur, h1, by omega, h3⟩

theorem stepIn_append {F : Fence} {n : Nat} {P : Program} {ops : Array Oper} {o : Oper} {a : Act} {K : Act → World → Prop} {Q : Exit → Act → World → Prop} {E : Prop} {w w' : World} (hgd : o.guard = none) (s x : Operand) (t : TypeId)
    (ho : o.op = .call { callee := .builtin .append, args := #[s, x], argTypes := #[t, t] }) (v v' xv : Value) (hs : a.eval s = v) (hx : a.eval x = xv)
    (hrun : (Builtin.append_ #[t, t] o.type #[v, xv]).run P w = .ok v' w') (h : K (a.put o.dst v') w') :
    if Region.wanted o (yielded ops a.tmps) = true then Oper.wpIn F n P o a w K Q else E := by
  have hw : Region.wanted o (yielded ops a.tmps) = true := by simp [Region.wanted, hgd]
  rw [if_pos hw]
  refine ⟨fun f hf => ?_, ?_⟩
  · simp [Oper.about, ho, resolve, Target.leads] at hf
  · rw [Oper.semAt_eq _ _ _ (by rw [ho]; simp)]
    unfold execOp
    simp only [ho, resolve, invoke, builtin, Sem.run_bind, Sem.run_pure, Result.andThen_ok, List.map_toArray, List.map_cons, List.map_nil, hs, hx, hrun]
    exact h

/-- the images es are of width W and have the rows ys -/
def Els (es : List El) (W : Int) (ys : List (List Int)) : Prop := es.map (·.xs) = ys ∧ ∀ e ∈ es, e.W = W
theorem Els.nil_ (W : Int) : Els [] W [] := ⟨rfl, fun _ h => by cases h⟩
theorem Els.len {es : List El} {W : Int} {ys : List (List Int)} (h : Els es W ys) : es.length = ys.length := by rw [← h.1, List.length_map]
theorem Els.snoc {es : List El} {W : Int} {ys : List (List Int)} (h : Els es W ys) (A : Option Addr) (c : Nat) (y : List Int) : Els (es ++ [⟨W, A, c, y⟩]) W (ys ++ [y]) :=
  ⟨by rw [List.map_append, h.1]; rfl, fun e he => by
    rcases List.mem_append.1 he with he | he
    · exact h.2 e he
    · obtain rfl := List.mem_singleton.1 he
      rfl⟩

def swDones (m : Nat) (xs : List Int) (pre : List (VSw m xs)) : List (List Int) := pre.map (fun s => swDo m xs s.1)
theorem swDones_snoc {m : Nat} {xs : List Int} (pre : List (VSw m xs)) (x : VSw m xs) : swDones m xs (pre ++ [x]) = swDones m xs pre ++ [swDo m xs x.1] := by simp [swDones]
/-- the neighbors, none of an invalid image -/
def nbrsW (W : Int) (xs : List Int) : List (List Int) := if okB W xs then nbrs W.toNat xs else []

theorem rowA_ne {w : World} {base c o : Nat} {A : Option Addr} {es : List El} (h : BufI w base A c es) (ho : o < base) : some o ≠ rowA A := by
  rcases h.addr with rfl | ⟨g, rfl⟩
  · simp [rowA]
  · have := h.lt g rfl
    simp [rowA]; omega
theorem rowA_lt {w : World} {base c : Nat} {A : Option Addr} {es : List El} (h : BufI w base A c es) : ∀ g, rowA A = some g → base ≤ g ∧ g < w.heap.size := by
  intro g hg
  rcases h.addr with rfl | ⟨g', rfl⟩
  · simp [rowA] at hg
  · simp [rowA] at hg
    subst hg
    exact h.lt _ rfl
theorem rowA_cells {w : World} {base c : Nat} {A : Option Addr} {es : List El} (h : BufI w base A c es) : ∀ g, rowA A = some g → ∃ t cs, Blk w g t cs := by
  intro g hg
  rcases h.form with ⟨rfl, _⟩ | ⟨g', cs, rfl, _, hb, _⟩
  · simp [rowA] at hg
  · simp [rowA] at hg
    subst hg
    exact ⟨_, _, hb⟩
theorem keepsO_grown {W W' : World} {row : Option Nat} (h : W.grownBy W' row) (hr : ∀ g, row = some g → ∃ t cs, Blk W g t cs) : KeepsOthers W W' :=
  ⟨h.size, fun k o hk hc => (h.block k (Array.getElem?_eq_some_iff.1 hk).1 (fun e => by
    obtain ⟨t, cs, hb⟩ := hr k e.symm
    exact hb.cells_ne ⟨o, hk, hc⟩ rfl)).trans hk⟩

end Go.Proofs.Ytkcdoacojiilaaa

-- Plain: how many neighbors, how many rows they have.
namespace Go.Proofs.Ytkcdoacojiilaaa

theorem nbrsW_len (W : Int) (xs : List Int) : (nbrsW W xs).length < 1600 := by
  unfold nbrsW
  cases h : okB W xs with
  | false => simp
  | true =>
    obtain ⟨m, rfl⟩ := Int.eq_ofNat_of_zero_le (show 0 ≤ W by have := okB_bd h; omega)
    simpa [nbrs] using swList_len h
theorem nbrsW_row (W : Int) (xs : List Int) : ∀ y ∈ nbrsW W xs, y.length ≤ 6 := by
  intro y hy
  unfold nbrsW at hy
  cases h : okB W xs with
  | false => rw [h] at hy; simp at hy
  | true =>
    rw [h] at hy
    have hb := okB_bd h
    simp only [if_true, nbrs, List.mem_map] at hy
    obtain ⟨s, _, rfl⟩ := hy
    rw [swDo_len]; omega
theorem Els.rows {es : List El} {W : Int} {ys : List (List Int)} (h : Els es W ys) {n : Nat} (hy : ∀ y ∈ ys, y.length ≤ n) : ∀ e ∈ es, e.xs.length ≤ n := by
  intro e he
  exact hy _ (by rw [← h.1]; exact List.mem_map_of_mem he)
theorem nbrsW_ok {W : Int} {xs ys : List Int} (h : ys ∈ nbrsW W xs) : okB W xs = true := by
  cases hk : okB W xs with
  | true => rfl
  | false => simp [nbrsW, hk] at h
theorem nbrsW_back {W : Int} {xs ys : List Int} (h : ys ∈ nbrsW W xs) : xs ∈ nbrsW W ys := by
  have hk := nbrsW_ok h
  obtain ⟨m, rfl⟩ := Int.eq_ofNat_of_zero_le (show 0 ≤ W by have := okB_bd hk; omega)
  rw [nbrsW, hk, if_pos rfl, Int.toNat_natCast] at h
  have h2 := (nbrs_ok hk h).1
  rw [nbrsW, h2, if_pos rfl, Int.toNat_natCast]
  exact nbrs_back hk h
end Go.Proofs.Ytkcdoacojiilaaa
