
/- A map from the images' texts to numbers; a queue of images. -/
import Derived.Test.YtjogfeichnkffaaMathT
import Derived.Maps.OwnSet
import Derived.Maps.OwnOps
import Derived.Deep.AppendSrc
namespace Go.Proofs.Ytjogfeichnkffaa
open Go.RowKit Go.Maps

theorem keyLaw : Keyed Try.prog 9 := string_keyed Try.underlying9
theorem zeroInt (w : World) : (zeroValue 3).run Try.prog w = .ok (.int .i64 0) w := Try.zeroValue3 w
def kT (t : List UInt8) : Lit := .string t
theorem kT_key (t : List UInt8) : WideAt.IsKeyLit (kT t) := trivial
theorem kT_of {t : List UInt8} (ht : t.length ≤ 1000) : keyOf Try.prog 9 (.string ⟨t.toArray⟩) = some (kT t) := by
  have h := WideMaps.keyOf_string_mk (P := Try.prog) Try.underlying9 (s := ⟨t.toArray⟩) (by
    show t.toArray.size ≤ maxLen
    unfold maxLen; simp; omega)
  simpa [kT] using h

/-- the map's datum D tells for the images of wk their numbers, and no other text -/
structure MapIs (D : DataW Unit) (m : Nat) (wk : List (List Int × Nat)) : Prop where
  has : ∀ t, Maps.has D (kT t) = wk.any (fun e => textL m e.1 == t)
  at_ : ∀ e ∈ wk, D.atKey (kT (textL m e.1)) (.lit (.int .i64 0)) = .lit (.int .i64 (e.2 : Int))
  size : Maps.size D = wk.length
  tidy : Tidy D
theorem MapIs.empty (m : Nat) : MapIs (.map []) m [] := ⟨fun _ => rfl, fun _ h => (by cases h), rfl, tidy_empty⟩
theorem MapIs.put {D : DataW Unit} {m : Nat} {wk : List (List Int × Nat)} (h : MapIs D m wk) {z : List Int} (d : Nat) (hz : wk.any (fun e => textL m e.1 == textL m z) = false) (ht : Tidy (D.put (kT (textL m z)) (.lit (.int .i64 (d : Int))))) :
    MapIs (D.put (kT (textL m z)) (.lit (.int .i64 (d : Int)))) m (wk ++ [(z, d)]) := by
  have hne : ∀ e ∈ wk, textL m e.1 ≠ textL m z := by
    intro e he heq
    have : wk.any (fun e => textL m e.1 == textL m z) = true := List.any_eq_true.2 ⟨e, he, by simp [heq]⟩
    rw [hz] at this; cases this
  have inj : ∀ {t u : List UInt8}, kT t = kT u → t = u := fun h => by cases h; rfl
  refine ⟨fun t => ?_, fun e he => ?_, ?_, ht⟩
  · by_cases htz : t = textL m z
    · subst htz
      rw [Maps.has_put_same h.tidy.isMap (kT_key _)]
      simp
    · rw [Maps.has_put_other (fun e => htz (inj e)), h.has t]
      have : (textL m z == t) = false := beq_eq_false_iff_ne.2 (fun e => htz e.symm)
      simp [this]
  · rcases List.mem_append.1 he with he | he
    · rw [Maps.atKey_put_other (fun x => hne e he (inj x))]
      exact h.at_ e he
    · obtain rfl := List.mem_singleton.1 he
      exact Maps.atKey_put_same h.tidy.isMap (kT_key _) _ _
  · rw [Maps.size_put h.tidy, h.has, hz, h.size]
    simp

theorem wpl_insert {ops : Array Oper} {rest : List Oper} {o : Oper} {a : Act} {Q : Exit → Act → World → Prop} {w : World}
    (hg : o.guard = none) (m x v : Operand) (t : TypeId) (hop : o.op = Op.insert t m x v)
    (ht : Try.prog.underlying t = some (.map 9 3)) (b n : Nat) (D : DataW Unit)
    (hm : a.eval m = .map (some b)) (hown : w.ownsMap Try.prog 9 (plainElem Try.prog 3) b n D) (hn : n < maxLen) (key : Value) (q : Int) (kl : Lit) (hx : a.eval x = key) (hv : a.eval v = .int .i64 q) (hkey : keyOf Try.prog 9 key = some kl)
    (hq : (Lit.int .i64 q).wf = true)
    (hK : ∀ w', w'.ownsMap Try.prog 9 (plainElem Try.prog 3) b (n + 1) (D.put kl (.lit (.int .i64 q))) → w.grownBy w' (some b) → wpList Try.prog ops Q rest (a.put o.dst undef) w') :
    wpList Try.prog ops Q (o :: rest) a w := by
  refine wpList_plain hg fun K' hK' => ?_
  obtain ⟨w', hrun, r1, r2⟩ := hown.update keyLaw ht hn hkey (plainElem_int Try.underlying3 hq)
  unfold Oper.wp
  simp [execOp, hop, hm, hx, hv, hrun, Result.andThen]
  exact hK' _ _ (hK w' r1 r2)

/-- a queue of images: a slice into a row of one's own, from block base on -/
def Qu (w : World) (base : Nat) (A : Option Addr) (n c : Nat) (es : List El) : Prop :=
  es.length = n ∧ n ≤ c ∧ c ≤ maxLen ∧ ∃ g off cs, A = some ⟨g, off, none⟩ ∧ base ≤ g ∧ Blk w g 27 cs ∧ off + c * 2 ≤ cs.size ∧ ∀ k x, (elCells es)[k]? = some x → cs[off + k]? = some x
section
variable {w w' : World} {base : Nat} {A : Option Addr} {n c : Nat} {es : List El}
theorem Qu.grown (h : Qu w base A n c es) {row : Option Nat} (hg : w.grownBy w' row) (hr : ∀ g off, A = some ⟨g, off, none⟩ → row ≠ some g) : Qu w' base A n c es := by
  obtain ⟨h1, h2, h3, g, off, cs, h4, h5, h6, h7, h8⟩ := h
  exact ⟨h1, h2, h3, g, off, cs, h4, h5, h6.grown hg (fun e => hr g off h4 e.symm), h7, h8⟩
theorem Qu.next (h : Qu w base A n c es) (hb : Below w.heap.size w w') : Qu w' base A n c es := h.grown (grown_of_below hb none) (fun _ _ _ e => by cases e)
theorem Qu.addr (h : Qu w base A n c es) : ∃ g off, A = some ⟨g, off, none⟩ ∧ base ≤ g ∧ g < w.heap.size := by
  obtain ⟨h1, h2, h3, g, off, cs, h4, h5, h6, h7, h8⟩ := h
  exact ⟨g, off, h4, h5, h6.lt⟩
theorem Qu.first {e : El} {es : List El} (h : Qu w base A n c (e :: es)) : ∃ g off, A = some ⟨g, off, none⟩ ∧ g < w.heap.size ∧ w.cell? ⟨g, off, none⟩ = some (.int .i64 e.W) ∧ w.cell? ⟨g, off + 1, none⟩ = some (.slice e.A e.xs.length e.c) := by
  obtain ⟨h1, h2, h3, g, off, cs, h4, h5, h6, h7, h8⟩ := h
  refine ⟨g, off, h4, h6.lt, ?_, ?_⟩
  · rw [h6.cell]; exact h8 0 _ rfl
  · rw [h6.cell]; exact h8 1 _ rfl
theorem Qu.lit (w : World) (base : Nat) (hb : base ≤ w.heap.size) (e : El) : Qu (w.alloc (.cells #[.int .i64 e.W, .slice e.A e.xs.length e.c] 27)) base (some ⟨w.heap.size, 0, none⟩) 1 1 [e] :=
  ⟨rfl, Nat.le_refl _, by unfold maxLen; omega, w.heap.size, 0, _, rfl, hb, Blk.new w _ _, by simp, fun k x hx => by simpa [elCells, El.cells] using hx⟩
/-- the queue without its first image; at its end the address may stay -/
theorem Qu.tail {e : El} {es : List El} {g off : Nat} (h : Qu w base (some ⟨g, off, none⟩) n c (e :: es)) : Qu w base (some ⟨g, off + 2, none⟩) (n - 1) (c - 1) es ∧ (c = 1 → Qu w base (some ⟨g, off, none⟩) (n - 1) (c - 1) es) := by
  obtain ⟨h1, h2, h3, g', off', cs, h4, h5, h6, h7, h8⟩ := h
  cases h4
  rw [List.length_cons] at h1
  refine ⟨⟨by omega, by omega, by omega, g, off + 2, cs, rfl, h5, h6, by omega, fun k x hx => ?_⟩, fun hc => ⟨by omega, by omega, by omega, g, off, cs, rfl, h5, h6, by omega, fun k x hx => ?_⟩⟩
  · have e1 : elCells (e :: es) = .int .i64 e.W :: .slice e.A e.xs.length e.c :: elCells es := rfl
    have := h8 (k + 2) x (by rw [e1, List.getElem?_cons_succ, List.getElem?_cons_succ]; exact hx)
    rw [show off + 2 + k = off + (k + 2) by omega]; exact this
  · have : es = [] := List.eq_nil_of_length_eq_zero (by omega)
    subst this
    simp [elCells] at hx
end

theorem appendQ_run (w : World) (base : Nat) (A : Option Addr) (c n : Nat) (es : List El) (hq : Qu w base A n c es) (b d : Nat) (e : El) (hr : Blk w b 27 #[.int .i64 e.W, .slice e.A e.xs.length e.c]) (hlen : n + 1 ≤ 500000) (hbase : base ≤ w.heap.size) (ty : TypeId) :
    ∃ A' c' w' row, (Builtin.append_ #[37, 37] ty #[.slice A n c, .slice (some ⟨b, 0, none⟩) 1 d]).run Try.prog w = .ok (.slice A' (n + 1) c') w' ∧ Qu w' base A' (n + 1) c' (es ++ [e]) ∧ w.grownBy w' row ∧ (∀ g, row = some g → base ≤ g ∧ (∃ off, A = some ⟨g, off, none⟩) ∧ ∃ cs, Blk w g 27 cs) ∧ (∀ g off, A' = some ⟨g, off, none⟩ → (∃ off0, A = some ⟨g, off0, none⟩) ∨ g = w.heap.size) := by
  obtain ⟨i0, hi, hz0, hz1, hz2⟩ := info_parts infoImg
  obtain ⟨h1, h2, h3, g, off, cs, rfl, h5, h6, h7, h8⟩ := hq
  have hsrc : Src Try.prog i0.size 37 (.slice (some ⟨b, 0, none⟩) 1 d) 1 e.cells w := by
    rw [hz1]
    exact Src.ofSlice w Try.underlying37 ⟨b, 0, none⟩ 1 d e.cells rfl (by
      intro j u hu
      rw [Go.WideShapes.add_plain, hr.cell, Nat.zero_add]
      simpa [El.cells] using hu) (fun u hu => elCells_one [e] u (by simpa [elCells] using hu))
  have hel : (elCells es).length = n * 2 := by rw [elCells_len, h1]
  by_cases hroom : n + 1 ≤ c
  · have hz : ∀ j, j < e.cells.length → off + n * i0.size + j < cs.size := by
      intro j hj
      have : e.cells.length = 2 := rfl
      rw [hz1]; omega
    have hrun := run_append_room_src w 37 37 ty 27 i0 Try.underlying37 hi g off n c (.slice (some ⟨b, 0, none⟩) 1 d) 1 e.cells hsrc hroom
      (fun j hj => by rw [h6.cell, Array.getElem?_eq_getElem (hz j hj)]; rfl) (fun j _ => h6.frozen _)
    rw [hz1] at hrun
    refine ⟨_, _, _, some g, hrun, ?_, ?_, ?_, ?_⟩
    · refine ⟨by simp [h1], hroom, h3, g, off, (cs.setIfInBounds (off + n * 2) (.int .i64 e.W)).setIfInBounds (off + n * 2 + 1) (.slice e.A e.xs.length e.c), rfl, h5, (h6.set_ _ _).set_ _ _, by simpa using h7, ?_⟩
      intro k x hx
      rw [elCells_snoc] at hx
      rcases Nat.lt_trichotomy k (n * 2) with hk | hk | hk
      · rw [List.getElem?_append_left (by omega)] at hx
        rw [Array.getElem?_setIfInBounds_ne (by omega), Array.getElem?_setIfInBounds_ne (by omega)]
        exact h8 k x hx
      · subst hk
        rw [List.getElem?_append_right (by omega), hel, Nat.sub_self] at hx
        rw [Array.getElem?_setIfInBounds_ne (by omega), Array.getElem?_setIfInBounds_self_of_lt (by omega)]
        exact hx
      · rw [List.getElem?_append_right (by omega), hel] at hx
        have hk1 : k = n * 2 + 1 := by
          have h9 := (List.getElem?_eq_some_iff.1 hx).1
          have : e.cells.length = 2 := rfl
          omega
        subst hk1
        have e3 : n * 2 + 1 - n * 2 = 1 := by omega
        rw [e3] at hx
        rw [show off + (n * 2 + 1) = off + n * 2 + 1 by omega, Array.getElem?_setIfInBounds_self_of_lt (by simp; omega)]
        exact hx
    · exact grown_trans (grown_set _) (grown_set _)
    · rintro _ ⟨⟩
      exact ⟨h5, ⟨off, rfl⟩, cs, h6⟩
    · rintro g1 off1 ⟨⟩
      exact .inl ⟨off, rfl⟩
  · have hold : (Builtin.firstCells i0.size n (.slice (some ⟨g, off, none⟩) n c)).run Try.prog w.drew = .ok (elCells es).toArray w.drew := by
      rw [hz1]
      refine run_firstCells_some w.drew 2 n ⟨g, off, none⟩ n c (elCells es) hel (fun j v hv => ?_)
      rw [Go.WideShapes.add_plain, h6.drew.cell]
      exact h8 j v hv
    have hrun := run_append_grow_src w 37 37 ty 27 i0 (.agg #[.int .i64 0, .slice none 0 0]) Try.underlying37 hi hz0 (some ⟨g, off, none⟩) n c (elCells es) hold (.slice (some ⟨b, 0, none⟩) 1 d) 1 e.cells hsrc
      (by omega) (by omega) (by rw [hz2]; exact growslice_fits (by omega) (by omega))
    refine ⟨_, _, _, none, hrun, ?_, ?_, ?_, ?_⟩
    · refine ⟨by simp [h1], grownCap_ge _ _ _ _, grownCap_le_maxLen _ _ _ _ (by unfold maxLen; omega), w.heap.size, 0, _, rfl, hbase, Blk.new w.drew _ _, ?_, ?_⟩
      · have hge := grownCap_ge w (n + 1) c 27
        have e4 : e.cells.length = 2 := rfl
        have e5 : (Value.cells (.agg #[.int .i64 0, .slice none 0 0])).size = 2 := rfl
        simp only [Array.size_append, List.size_toArray, List.length_append, hel, size_zeroCells, e4, e5]
        omega
      · intro k x hx
        rw [elCells_snoc] at hx
        have hk := (List.getElem?_eq_some_iff.1 hx).1
        rw [Nat.zero_add, Array.getElem?_append_left (by simpa using hk)]
        simpa using hx
    · exact grown_trans (grown_drew _) (grown_alloc _ _)
    · rintro _ ⟨⟩
    · rintro g1 off1 ⟨⟩
      exact .inr rfl
end Go.Proofs.Ytjogfeichnkffaa
