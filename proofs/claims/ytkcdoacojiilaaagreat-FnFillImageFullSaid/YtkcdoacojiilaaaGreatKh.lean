
/- Plain facts and walks that the law's proof uses; each says its own conditions. -/
import Derived.Shelf.Strings.BuilderK
import Derived.Test.YtkcdoacojiilaaaGreatKa
import Derived.Test.YtkcdoacojiilaaaGreatProg
import Derived.Test.YtkcdoacojiilaaaGreatKl
import Derived.Test.YtkcdoacojiilaaaGreatKf
import Derived.Maps.OwnSet
import Derived.Maps.OwnOps
import Derived.Deep.AppendSrc
-- The library's strings.Builder at this program: its contracts laid.
namespace Go.Proofs.YtkcdoacojiilaaaGreat
open Go.Shelf Go.RowKit

end Go.Proofs.YtkcdoacojiilaaaGreat

-- Walks: the text of an image.
namespace Go.Proofs.YtkcdoacojiilaaaGreat
open Go.RowKit Go.Shelf
attribute [local go_sem] Oper.semAt_some

def chr01 (b : Bool) : UInt8 := if b then 35 else 46
/-- the text of the cells so far -/
def txtPre {h m : Nat} (xs : List Int) (pre : List (Cell h m)) : List UInt8 := pre.flatMap (fun x => chr01 (cellF xs x.1.1 x.1.2) :: (if x.1.2 + 1 = m then [10] else []))
def textL (m : Nat) (xs : List Int) : List UInt8 := txtPre xs (cUpto xs.length m xs.length 0)
theorem textL_at {m n : Nat} {xs : List Int} (h : xs.length = n) : textL m xs = txtPre xs (cUpto n m n 0) := by subst h; rfl
def textW (W : Int) (xs : List Int) : List UInt8 := if okB W xs then textL W.toNat xs else []
theorem txtPre_snoc {h m : Nat} (xs : List Int) (pre : List (Cell h m)) (x : Cell h m) : txtPre xs (pre ++ [x]) = txtPre xs pre ++ (chr01 (cellF xs x.1.1 x.1.2) :: (if x.1.2 + 1 = m then [10] else [])) := by
  simp [txtPre]
theorem txtPre_len {h m : Nat} (xs : List Int) (pre : List (Cell h m)) : (txtPre xs pre).length ≤ pre.length * 2 := by
  have := flatMap_le (l := pre) (f := fun x => chr01 (cellF xs x.1.1 x.1.2) :: (if x.1.2 + 1 = m then [10] else [])) (k := 2) (fun x _ => by split <;> simp)
  exact this
theorem byteCells_snoc (l : List UInt8) (c : UInt8) : Lib.byteCells (l ++ [c]) = Lib.byteCells l ++ [.int .u8 (c.toNat : Int)] := by simp [Lib.byteCells]

theorem ok_blk {W W' : World} {b g : Nat} {t : TypeId} {cs : Array Value} (h : Blk W g t cs) (k : Lib.OthersKept 5 (some b) W W') (hne : g ≠ b) (ht : t ≠ 5) : Blk W' g t cs :=
  k g _ h (by simpa using hne) (by intro c fz e; cases e; exact ht rfl)
theorem ok_keeps {W W' : World} {b : Nat} (k : Lib.OthersKept 5 (some b) W W') (hs : W.heap.size ≤ W'.heap.size) (hb : ∀ o : Obj, W.heap[b]? = some o → o.isCells = true) : KeepsOthers W W' :=
  ⟨hs, fun i o hi hc => k i o hi (by rintro ⟨⟩; have := hb o hi; rw [hc] at this; cases this) (by rintro c fz rfl; cases hc)⟩

theorem KB.of_blk {W W' : World} {g : Nat} {t : TypeId} {cs : Array Value} (h : Blk W g t cs) (k : Blk W' g t cs) : KB g W W' := Eq.trans k (Eq.symm h)

end Go.Proofs.YtkcdoacojiilaaaGreat

-- Plain mathematics: the text of an image tells the image.
namespace Go.Proofs.YtkcdoacojiilaaaGreat

theorem chr01_ne (b : Bool) : chr01 b ≠ 10 := by cases b <;> decide
theorem chr01_inj {a b : Bool} (h : chr01 a = chr01 b) : a = b := by revert h; cases a <;> cases b <;> decide
def rowT (m r : Nat) : List UInt8 := (List.range m).map (fun j => chr01 (r.testBit j)) ++ [10]
theorem txt_row {h m : Nat} (xs : List Int) (hm : 1 ≤ m) {k : Nat} (hk : k < h) : ∀ j, j ≤ m → txtPre xs (cUpto h m k j) = txtPre xs (cUpto h m k 0) ++ (List.range j).map (fun j => chr01 (cellF xs k j)) ++ (if j = m then [10] else [])
  | 0, _ => by simp; omega
  | j + 1, hj => by
    have ih := txt_row xs hm hk j (by omega)
    rw [cUpto_succ hk (by omega), txtPre_snoc, ih, if_neg (by omega), List.append_nil, List.range_succ, List.map_append]
    simp
theorem txt_rows {h m : Nat} (xs : List Int) (hm : 1 ≤ m) : ∀ k, k ≤ h → txtPre xs (cUpto h m k 0) = (List.range k).flatMap (fun i => rowT m (xs[i]?.getD 0).toNat)
  | 0, _ => by
    have : cUpto h m 0 0 = [] := by
      have := cUpto_len h m 0 0
      exact List.eq_nil_of_length_eq_zero (by omega)
    rw [this]; rfl
  | k + 1, hk => by
    rw [cUpto_next, txt_row xs hm (by omega) m (Nat.le_refl _), txt_rows xs hm k (by omega), if_pos rfl, List.range_succ, List.flatMap_append, List.append_assoc]
    simp only [List.flatMap_cons, List.flatMap_nil, List.append_nil, rowT]
    rfl
theorem range_flatMap {β : Type} (g : Int → List β) : ∀ xs : List Int, (List.range xs.length).flatMap (fun i => g (xs[i]?.getD 0)) = xs.flatMap g
  | [] => rfl
  | x :: xs => by
    rw [List.length_cons, List.range_succ_eq_map, List.flatMap_cons, List.flatMap_map, List.flatMap_cons]
    have := range_flatMap g xs
    simp only [List.getElem?_cons_zero, Option.getD_some, List.getElem?_cons_succ]
    rw [this]
theorem textL_eq {m : Nat} (xs : List Int) (hm : 1 ≤ m) : textL m xs = xs.flatMap (fun x => rowT m x.toNat) := by
  rw [textL, txt_rows xs hm _ (Nat.le_refl _)]
  exact range_flatMap (fun x => rowT m x.toNat) xs
theorem rowT_cut {m m' r r' : Nat} {s s' : List UInt8} (h : rowT m r ++ s = rowT m' r' ++ s') : (List.range m).map (fun j => chr01 (r.testBit j)) = (List.range m').map (fun j => chr01 (r'.testBit j)) ∧ s = s' := by
  have key : ∀ (m r : Nat) (s : List UInt8), (rowT m r ++ s).takeWhile (· != 10) = (List.range m).map (fun j => chr01 (r.testBit j)) := by
    intro m r s
    rw [rowT, List.append_assoc, List.takeWhile_append_of_pos]
    · simp
    · intro a ha
      obtain ⟨j, _, rfl⟩ := List.mem_map.1 ha
      simpa using chr01_ne _
  have h1 := congrArg (List.takeWhile (· != 10)) h
  rw [key, key] at h1
  refine ⟨h1, ?_⟩
  rw [rowT, rowT, h1] at h
  exact List.append_cancel_left h
theorem bits_inj {m r r' : Nat} (hr : r < 2 ^ m) (hr' : r' < 2 ^ m) (h : (List.range m).map (fun j => chr01 (r.testBit j)) = (List.range m).map (fun j => chr01 (r'.testBit j))) : r = r' := by
  refine row_ext hr hr' (fun j hj => ?_)
  have := congrArg (fun l => l[j]?) h
  simp only [List.getElem?_map, List.getElem?_range hj, Option.map_some] at this
  exact chr01_inj (Option.some.inj this)
theorem text_rows {m m' : Nat} : ∀ {xs ys : List Int}, xs ≠ [] → (∀ x ∈ xs, 0 ≤ x ∧ x.toNat < 2 ^ m) → (∀ x ∈ ys, 0 ≤ x ∧ x.toNat < 2 ^ m') → xs.flatMap (fun x => rowT m x.toNat) = ys.flatMap (fun x => rowT m' x.toNat) → m = m' ∧ xs = ys
  | [], _, h, _, _, _ => absurd rfl h
  | x :: xs, [], _, _, _, e => by simp [rowT] at e
  | x :: xs, y :: ys, _, hx, hy, e => by
    rw [List.flatMap_cons, List.flatMap_cons] at e
    obtain ⟨h1, h2⟩ := rowT_cut e
    have hm : m = m' := by simpa using congrArg List.length h1
    subst hm
    have a := hx x (by simp)
    have b := hy y (by simp)
    have e1 := bits_inj a.2 b.2 h1
    have e2 : x = y := by omega
    subst e2
    refine ⟨rfl, ?_⟩
    cases xs with
    | nil =>
      cases ys with
      | nil => rfl
      | cons z zs => simp [rowT] at h2
    | cons z zs =>
      rw [(text_rows (xs := z :: zs) (ys := ys) (by simp) (fun w hw => hx w (by simp [hw])) (fun w hw => hy w (by simp [hw])) h2).2]
/-- two valid images with the same text are the same image -/
theorem text_inj {m m' : Nat} {xs ys : List Int} (h : okB (m : Int) xs = true) (h' : okB (m' : Int) ys = true) (e : textL m xs = textL m' ys) : m = m' ∧ xs = ys := by
  have b1 := okB_bd h
  have b2 := okB_bd h'
  rw [textL_eq xs (by omega), textL_eq ys (by omega)] at e
  exact text_rows (by rintro rfl; simp at b1) (okB_cells h) (okB_cells h') e
theorem textL_len {m : Nat} {xs : List Int} (h : okB (m : Int) xs = true) : (textL m xs).length ≤ 100 := by
  have b1 := okB_bd h
  have h1 := txtPre_len xs (cUpto xs.length m xs.length 0)
  have h2 := cUpto_len xs.length m xs.length 0
  have h3 : xs.length * m ≤ 6 * 6 := Nat.mul_le_mul (by omega) (by omega)
  rw [textL]; omega
end Go.Proofs.YtkcdoacojiilaaaGreat

-- A map from the images' texts to numbers; a queue of images.
namespace Go.Proofs.YtkcdoacojiilaaaGreat
open Go.RowKit Go.Maps

theorem keyLaw : Keyed Tryz.prog 9 := string_keyed Tryz.underlying9
theorem zeroInt (w : World) : (zeroValue 3).run Tryz.prog w = .ok (.int .i64 0) w := Tryz.zeroValue3 w
def kT (t : List UInt8) : Lit := .string t
theorem kT_key (t : List UInt8) : WideAt.IsKeyLit (kT t) := trivial
theorem kT_of {t : List UInt8} (ht : t.length ≤ 1000) : keyOf Tryz.prog 9 (.string ⟨t.toArray⟩) = some (kT t) := by
  have h := WideMaps.keyOf_string_mk (P := Tryz.prog) Tryz.underlying9 (s := ⟨t.toArray⟩) (by
    show t.toArray.size ≤ maxLen
    unfold maxLen; simp; omega)
  simpa [kT] using h

/-- the map's datum D tells for the images of wk their numbers, and no other text -/
structure MapIs (D : DataW Unit) (m : Nat) (wk : List (List Int × Nat)) : Prop where
  has : ∀ t, Maps.has D (kT t) = wk.any (fun e => textL m e.1 == t)
  at_ : ∀ e ∈ wk, D.atKey (kT (textL m e.1)) (.lit (.int .i64 0)) = .lit (.int .i64 (e.2 : Int))
  size : Maps.size D = wk.length
  tidy : Tidy D
theorem MapIs.empty (m : Nat) : MapIs (.map []) m [] := ⟨fun _ => rfl, fun _ h => (by cases h), rfl, tidy_empty⟩
theorem MapIs.put {D : DataW Unit} {m : Nat} {wk : List (List Int × Nat)} (h : MapIs D m wk) {z : List Int} (d : Nat) (hz : wk.any (fun e => textL m e.1 == textL m z) = false) (ht : Tidy (D.put (kT (textL m z)) (.lit (.int .i64 (d : Int))))) :
    MapIs (D.put (kT (textL m z)) (.lit (.int .i64 (d : Int)))) m (wk ++ [(z, d)]) := by
  have hne : ∀ e ∈ wk, textL m e.1 ≠ textL m z := by
    intro e he heq
    have : wk.any (fun e => textL m e.1 == textL m z) = true := List.any_eq_true.2 ⟨e, he, by simp [heq]⟩
    rw [hz] at this; cases this
  have inj : ∀ {t u : List UInt8}, kT t = kT u → t = u := fun h => by cases h; rfl
  refine ⟨fun t => ?_, fun e he => ?_, ?_, ht⟩
  · by_cases htz : t = textL m z
    · subst htz
      rw [Maps.has_put_same h.tidy.isMap (kT_key _)]
      simp
    · rw [Maps.has_put_other (fun e => htz (inj e)), h.has t]
      have : (textL m z == t) = false := beq_eq_false_iff_ne.2 (fun e => htz e.symm)
      simp [this]
  · rcases List.mem_append.1 he with he | he
    · rw [Maps.atKey_put_other (fun x => hne e he (inj x))]
      exact h.at_ e he
    · obtain rfl := List.mem_singleton.1 he
      exact Maps.atKey_put_same h.tidy.isMap (kT_key _) _ _
  · rw [Maps.size_put h.tidy, h.has, hz, h.size]
    simp

theorem wpl_insert {ops : Array Oper} {rest : List Oper} {o : Oper} {a : Act} {Q : Exit → Act → World → Prop} {w : World}
    (hg : o.guard = none) (m x v : Operand) (t : TypeId) (hop : o.op = Op.insert t m x v)
    (ht : Tryz.prog.underlying t = some (.map 9 3)) (b n : Nat) (D : DataW Unit)
    (hm : a.eval m = .map (some b)) (hown : w.ownsMap Tryz.prog 9 (plainElem Tryz.prog 3) b n D) (hn : n < maxLen) (key : Value) (q : Int) (kl : Lit) (hx : a.eval x = key) (hv : a.eval v = .int .i64 q) (hkey : keyOf Tryz.prog 9 key = some kl)
    (hq : (Lit.int .i64 q).wf = true)
    (hK : ∀ w', w'.ownsMap Tryz.prog 9 (plainElem Tryz.prog 3) b (n + 1) (D.put kl (.lit (.int .i64 q))) → w.grownBy w' (some b) → wpList Tryz.prog ops Q rest (a.put o.dst undef) w') :
    wpList Tryz.prog ops Q (o :: rest) a w := by
  refine wpList_plain hg fun K' hK' => ?_
  obtain ⟨w', hrun, r1, r2⟩ := hown.update keyLaw ht hn hkey (plainElem_int Tryz.underlying3 hq)
  unfold Oper.wp
  simp [execOp, hop, hm, hx, hv, hrun, Result.andThen]
  exact hK' _ _ (hK w' r1 r2)

/-- a queue of images: a slice into a row of one's own, from block base on -/
def Qu (w : World) (base : Nat) (A : Option Addr) (n c : Nat) (es : List El) : Prop :=
  es.length = n ∧ n ≤ c ∧ c ≤ maxLen ∧ ∃ g off cs, A = some ⟨g, off, none⟩ ∧ base ≤ g ∧ Blk w g 27 cs ∧ off + c * 2 ≤ cs.size ∧ ∀ k x, (elCells es)[k]? = some x → cs[off + k]? = some x
section
variable {w w' : World} {base : Nat} {A : Option Addr} {n c : Nat} {es : List El}
theorem Qu.grown (h : Qu w base A n c es) {row : Option Nat} (hg : w.grownBy w' row) (hr : ∀ g off, A = some ⟨g, off, none⟩ → row ≠ some g) : Qu w' base A n c es := by
  obtain ⟨h1, h2, h3, g, off, cs, h4, h5, h6, h7, h8⟩ := h
  exact ⟨h1, h2, h3, g, off, cs, h4, h5, h6.grown hg (fun e => hr g off h4 e.symm), h7, h8⟩
theorem Qu.next (h : Qu w base A n c es) (hb : Below w.heap.size w w') : Qu w' base A n c es := h.grown (grown_of_below hb none) (fun _ _ _ e => by cases e)
theorem Qu.addr (h : Qu w base A n c es) : ∃ g off, A = some ⟨g, off, none⟩ ∧ base ≤ g ∧ g < w.heap.size := by
  obtain ⟨h1, h2, h3, g, off, cs, h4, h5, h6, h7, h8⟩ := h
  exact ⟨g, off, h4, h5, h6.lt⟩
theorem Qu.first {e : El} {es : List El} (h : Qu w base A n c (e :: es)) : ∃ g off, A = some ⟨g, off, none⟩ ∧ g < w.heap.size ∧ w.cell? ⟨g, off, none⟩ = some (.int .i64 e.W) ∧ w.cell? ⟨g, off + 1, none⟩ = some (.slice e.A e.xs.length e.c) := by
  obtain ⟨h1, h2, h3, g, off, cs, h4, h5, h6, h7, h8⟩ := h
  refine ⟨g, off, h4, h6.lt, ?_, ?_⟩
  · rw [h6.cell]; exact h8 0 _ rfl
  · rw [h6.cell]; exact h8 1 _ rfl
theorem Qu.lit (w : World) (base : Nat) (hb : base ≤ w.heap.size) (e : El) : Qu (w.alloc (.cells #[.int .i64 e.W, .slice e.A e.xs.length e.c] 27)) base (some ⟨w.heap.size, 0, none⟩) 1 1 [e] :=
  ⟨rfl, Nat.le_refl _, by unfold maxLen; omega, w.heap.size, 0, _, rfl, hb, Blk.new w _ _, by simp, fun k x hx => by simpa [elCells, El.cells] using hx⟩
/-- the queue without its first image; at its end the address may stay -/
theorem Qu.tail {e : El} {es : List El} {g off : Nat} (h : Qu w base (some ⟨g, off, none⟩) n c (e :: es)) : Qu w base (some ⟨g, off + 2, none⟩) (n - 1) (c - 1) es ∧ (c = 1 → Qu w base (some ⟨g, off, none⟩) (n - 1) (c - 1) es) := by
  obtain ⟨h1, h2, h3, g', off', cs, h4, h5, h6, h7, h8⟩ := h
  cases h4
  rw [List.length_cons] at h1
  refine ⟨⟨by omega, by omega, by omega, g, off + 2, cs, rfl, h5, h6, by omega, fun k x hx => ?_⟩, fun hc => ⟨by omega, by omega, by omega, g, off, cs, rfl, h5, h6, by omega, fun k x hx => ?_⟩⟩
  · have e1 : elCells (e :: es) = .int .i64 e.W :: .slice e.A e.xs.length e.c :: elCells es := rfl
    have := h8 (k + 2) x (by rw [e1, List.getElem?_cons_succ, List.getElem?_cons_succ]; exact hx)
    rw [show off + 2 + k = off + (k + 2) by omega]; exact this
  · have : es = [] := List.eq_nil_of_length_eq_zero (by omega)
    subst this
    simp [elCells] at hx
end

end Go.Proofs.YtkcdoacojiilaaaGreat
