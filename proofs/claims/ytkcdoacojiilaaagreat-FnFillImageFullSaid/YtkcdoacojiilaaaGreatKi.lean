
/- Plain facts and walks that the law's proof uses; each says its own conditions. -/
import Derived.Test.YtkcdoacojiilaaaGreatKh
import Derived.Test.YtkcdoacojiilaaaGreatKl
import Derived.Test.YtkcdoacojiilaaaGreatEqs
import Derived.Test.YtkcdoacojiilaaaGreatWg
import Derived.Deep.QuietTactic
import Derived.BigQuiet
import Derived.Test.YtkcdoacojiilaaaGreatKg
-- Walks: all images that switches reach.
namespace Go.Proofs.YtkcdoacojiilaaaGreat
open Go.RowKit Go.Maps
set_option maxRecDepth 100000

/-- the rows of an image lie where the search does not write -/
def Keep (w : World) (base : Nat) (e : El) : Prop :=
  0 < e.xs.length ∧ ((Rd w e.A e.xs.length e.xs ∧ ∃ b off, e.A = some ⟨b, off, none⟩ ∧ b < base ∧ b < w.heap.size) ∨ Own w base e.A e.xs.length e.xs)
section
variable {w w' : World} {base : Nat} {e : El}
theorem Keep.rd (h : Keep w base e) : Rd w e.A e.xs.length e.xs := by
  rcases h.2 with h | h
  · exact h.1
  · exact h.rd
theorem Keep.next (h : Keep w base e) (hb : Below w.heap.size w w') : Keep w' base e :=
  ⟨h.1, h.2.imp (fun ⟨h1, b, off, h2, h3, h4⟩ => ⟨h1.next hb, b, off, h2, h3, Nat.lt_of_lt_of_le h4 hb.size⟩) (fun h => h.next hb)⟩
theorem Keep.grown (h : Keep w base e) {row : Option Nat} (hg : w.grownBy w' row) (hr : ∀ g, row = some g → base ≤ g ∧ ∀ cs, ¬ Blk w g 3 cs) : Keep w' base e := by
  refine ⟨h.1, ?_⟩
  rcases h.2 with ⟨h1, b, off, h2, h3, h4⟩ | h
  · have hkb : KB b w w' := KB.of_grown hg h4 (fun e => by have := (hr b e).1; omega)
    rw [h2] at h1 ⊢
    exact .inl ⟨h1.kb h4 hkb, b, off, rfl, h3, Nat.lt_of_lt_of_le h4 hg.size⟩
  · refine .inr ⟨h.1, fun hn => ?_⟩
    obtain ⟨g, cs, e1, h1, h2, h3⟩ := h.2 hn
    exact ⟨g, cs, e1, h1, h2.grown hg (fun e => (hr g e.symm).2 cs h2), h3⟩
end

/-- what lies in memory while the search runs -/
structure FInv (w wr : World) (m k b : Nat) (A : Option Addr) (c : Nat) (es : List El) (D : DataW Unit) (wk : List (List Int × Nat)) : Prop where
  low : Below w.heap.size w wr
  queue : Qu wr w.heap.size A es.length c es
  els : Els es (m : Int) ((wk.drop k).map (·.1))
  keep : ∀ e ∈ es, Keep wr w.heap.size e
  own : wr.ownsMap Tryz.prog 9 (plainElem Tryz.prog 3) b wk.length D
  map : MapIs D m wk
  lo : w.heap.size ≤ b
section
variable {w wr w' : World} {m k b c : Nat} {A : Option Addr} {es : List El} {D : DataW Unit} {wk : List (List Int × Nat)}
theorem ownsMap_next {n : Nat} (h : wr.ownsMap Tryz.prog 9 (plainElem Tryz.prog 3) b n D) (hb : Below wr.heap.size wr w') : w'.ownsMap Tryz.prog 9 (plainElem Tryz.prog 3) b n D := h.kept (grown_of_below hb none) (by simp)
theorem FInv.next (h : FInv w wr m k b A c es D wk) (hb : Below wr.heap.size wr w') : FInv w w' m k b A c es D wk :=
  ⟨lo_trans h.low hb, h.queue.next hb, h.els, fun e he => (h.keep e he).next hb, ownsMap_next h.own hb, h.map, h.lo⟩
end

/-- how many entries the map in block b has -/
def mapSz (w : World) (b : Nat) : Nat := match w.heap[b]? with | some (.map es _) => es.size | _ => 0
def slLen : Value → Nat | .slice _ n _ => n | _ => 0
theorem mapSz_of {w : World} {b n : Nat} {D : DataW Unit} (h : w.ownsMap Tryz.prog 9 (plainElem Tryz.prog 3) b n D) : mapSz w b = Maps.size D := by
  obtain ⟨es, clock, hb, _, _, rfl⟩ := h
  simp [mapSz, hb, Maps.size, length_sorted]

theorem bfs_dist (m : Nat) (xs : List Int) : ∀ k, ∀ e ∈ bfs m xs k, e.2 ≤ k
  | 0, e, h => by simp [bfs] at h; subst h; exact Nat.le_refl _
  | k + 1, e, h => by
    have ih := bfs_dist m xs k
    have hadd : ∀ (zs : List (List Int)) (wk : List (List Int × Nat)) (d : Nat), d ≤ k + 1 → (∀ e ∈ wk, e.2 ≤ k + 1) → ∀ e ∈ bAdd d wk zs, e.2 ≤ k + 1 := by
      intro zs
      induction zs with
      | nil => intro wk d _ h e he; exact h e he
      | cons z zs ih2 =>
        intro wk d hd h e he
        refine ih2 (bAdd1 d wk z) d hd (fun e he => ?_) e he
        unfold bAdd1 at he
        split at he
        · exact h e he
        · rcases List.mem_append.1 he with he | he
          · exact h e he
          · obtain rfl := List.mem_singleton.1 he
            exact hd
    simp only [bfs] at h
    split at h
    · rename_i e0 he0
      have := ih e0 (List.mem_of_getElem? he0)
      exact hadd _ _ _ (by omega) (fun e he => by have := ih e he; omega) e h
    · have := ih e h; omega

theorem bAdd_take {d j : Nat} {wk : List (List Int × Nat)} {zs : List (List Int)} {z : List Int} (h : zs[j]? = some z) : bAdd d wk (zs.take (j + 1)) = bAdd1 d (bAdd d wk (zs.take j)) z := by
  have hj : j < zs.length := (List.getElem?_eq_some_iff.1 h).1
  rw [List.take_succ_eq_append_getElem hj, bAdd, List.foldl_append]
  rw [List.getElem?_eq_getElem hj] at h
  rw [Option.some.inj h]; rfl
theorem bAdd1_len (d : Nat) (wk : List (List Int × Nat)) (z : List Int) : wk.length ≤ (bAdd1 d wk z).length ∧ (bAdd1 d wk z).length ≤ wk.length + 1 := by
  unfold bAdd1; split <;> simp
theorem bAdd_len (d : Nat) : ∀ (zs : List (List Int)) (wk : List (List Int × Nat)), wk.length ≤ (bAdd d wk zs).length ∧ (bAdd d wk zs).length ≤ wk.length + zs.length
  | [], wk => ⟨Nat.le_refl _, Nat.le_refl _⟩
  | z :: zs, wk => by
    have h1 := bAdd1_len d wk z
    have h2 := bAdd_len d zs (bAdd1 d wk z)
    have e : bAdd d wk (z :: zs) = bAdd d (bAdd1 d wk z) zs := rfl
    rw [e, List.length_cons]; omega
theorem bAdd_mem {d : Nat} {e : List Int × Nat} : ∀ {zs : List (List Int)} {wk : List (List Int × Nat)}, e ∈ bAdd d wk zs → e ∈ wk ∨ e.1 ∈ zs
  | [], wk, h => .inl h
  | z :: zs, wk, h => by
    have e1 : bAdd d wk (z :: zs) = bAdd d (bAdd1 d wk z) zs := rfl
    rw [e1] at h
    rcases bAdd_mem h with h | h
    · unfold bAdd1 at h
      split at h
      · exact .inl h
      · rcases List.mem_append.1 h with h | h
        · exact .inl h
        · obtain rfl := List.mem_singleton.1 h
          exact .inr (by simp)
    · exact .inr (by simp [h])
theorem has_seen {D : DataW Unit} {m : Nat} {wk : List (List Int × Nat)} (h : MapIs D m wk) (hok : ∀ e ∈ wk, okB (m : Int) e.1 = true) {z : List Int} (hz : okB (m : Int) z = true) : Maps.has D (kT (textL m z)) = seen wk z := by
  rw [h.has, seen]
  rw [Bool.eq_iff_iff, List.any_eq_true, List.any_eq_true]
  constructor
  · rintro ⟨e, he, h1⟩
    exact ⟨e, he, by simpa using (text_inj (hok e he) hz (by simpa using h1)).2⟩
  · rintro ⟨e, he, h1⟩
    have : e.1 = z := by simpa using h1
    exact ⟨e, he, by simp [this]⟩
theorem wpl_append_run {P : Program} {ops : Array Oper} {rest : List Oper} {o : Oper} {a : Act} {Q : Exit → Act → World → Prop} {w w' : World} (hgd : o.guard = none) (s x : Operand) (t : TypeId)
    (ho : o.op = .call { callee := .builtin .append, args := #[s, x], argTypes := #[t, t] }) (v v' xv : Value) (hs : a.eval s = v) (hx : a.eval x = xv)
    (hrun : (Builtin.append_ #[t, t] o.type #[v, xv]).run P w = .ok v' w') (h : wpList P ops Q rest (a.put o.dst v') w') : wpList P ops Q (o :: rest) a w := by
  refine wpList_plain hgd fun K hK => ?_
  unfold Oper.wp execOp
  simp only [ho, resolve, invoke, builtin, Sem.run_bind, Sem.run_pure, Result.andThen_ok, List.map_toArray, List.map_cons, List.map_nil, hs, hx, hrun]
  exact hK _ _ h

theorem not_int_map {w : World} {b n : Nat} {D : DataW Unit} {t : TypeId} (h : w.ownsMap Tryz.prog 9 (plainElem Tryz.prog 3) b n D) (cs : Array Value) : ¬ Blk w b t cs := by
  obtain ⟨es, clock, hb, _⟩ := h
  intro k
  unfold Blk at k
  rw [hb] at k; cases k
theorem not_int_img {w : World} {g : Nat} {cs : Array Value} (h : Blk w g 27 cs) (cs' : Array Value) : ¬ Blk w g 3 cs' := by
  intro k
  unfold Blk at h k
  rw [h] at k
  injection k with k
  injection k with _ h2
  exact absurd h2 (by decide)
theorem Qu.ne_map {w : World} {base b n c n' : Nat} {A : Option Addr} {es : List El} {D : DataW Unit} (h : Qu w base A n c es) (k : w.ownsMap Tryz.prog 9 (plainElem Tryz.prog 3) b n' D) : ∀ g off, A = some ⟨g, off, none⟩ → some b ≠ some g := by
  rintro g off rfl e
  cases e
  obtain ⟨_, _, _, g', off', cs, h4, _, h6, _⟩ := h
  cases h4
  exact not_int_map k _ h6
theorem FInv.add {w w8 w9 w10 : World} {m k b c c2 cf d n' : Nat} {A A2 Af : Option Addr} {es : List El} {D : DataW Unit} {wk : List (List Int × Nat)} {z : List Int} {bx : Obj} {row : Option Nat} (hF : FInv w w8 m k b A c es D wk) (hk : k ≤ wk.length)
    (hn : n' = wk.length + 1) (hM : w9.ownsMap Tryz.prog 9 (plainElem Tryz.prog 3) b n' (D.put (kT (textL m z)) (.lit (.int .i64 (d : Int))))) (hg9 : w8.grownBy w9 (some b))
    (hQ : Qu w10 w.heap.size A2 (es.length + 1) c2 (es ++ [⟨(m : Int), Af, cf, z⟩])) (hg10 : (w9.alloc bx).grownBy w10 row) (hrow : ∀ g, row = some g → w.heap.size ≤ g ∧ ∃ cs, Blk (w9.alloc bx) g 27 cs)
    (hz : wk.any (fun e => textL m e.1 == textL m z) = false) (hkp : Keep w8 w.heap.size ⟨(m : Int), Af, cf, z⟩) :
    FInv w w10 m k b A2 c2 (es ++ [⟨(m : Int), Af, cf, z⟩]) (D.put (kT (textL m z)) (.lit (.int .i64 (d : Int)))) (wk ++ [(z, d)]) ∧ (∀ f, Keep w8 w.heap.size f → Keep w10 w.heap.size f) := by
  subst hn
  have hkeep : ∀ f, Keep w8 w.heap.size f → Keep w10 w.heap.size f := by
    intro f h
    have h1 := h.grown hg9 (fun g e => by cases e; exact ⟨hF.lo, fun cs => not_int_map hF.own cs⟩)
    have h2 := h1.next (lo_alloc (Below.refl _ _) bx)
    exact h2.grown hg10 (fun g e => by
      obtain ⟨h3, cs, h4⟩ := hrow g e
      exact ⟨h3, fun cs' => not_int_img h4 cs'⟩)
  have hrb : ∀ g, row = some g → g ≠ b := by
    rintro g e rfl
    obtain ⟨_, cs, h4⟩ := hrow g e
    exact not_int_map (hM.alloc bx) _ h4
  refine ⟨⟨?_, ?_, ?_, ?_, ?_, ?_, hF.lo⟩, hkeep⟩
  · exact lo_grown (lo_alloc (lo_grown hF.low hg9 (by rintro g ⟨⟩; exact hF.lo)) bx) hg10 (fun g e => (hrow g e).1)
  · rw [List.length_append]; exact hQ
  · rw [List.drop_append_of_le_length hk, List.map_append]
    exact hF.els.snoc _ _ _
  · intro e he
    rcases List.mem_append.1 he with he | he
    · exact hkeep e (hF.keep e he)
    · obtain rfl := List.mem_singleton.1 he
      exact hkeep _ hkp
  · rw [List.length_append]
    exact (hM.alloc bx).kept hg10 (fun e => hrb _ e.symm rfl)
  · exact hF.map.put d hz (hM.tidy keyLaw)

end Go.Proofs.YtkcdoacojiilaaaGreat

-- Walks: the number of an image.
namespace Go.Proofs.YtkcdoacojiilaaaGreat
open Go.RowKit
set_option maxRecDepth 100000

theorem keyN_drop {m : Nat} {xs : List Int} {k : Nat} (hk : k < xs.length) : keyN m (xs.drop k) = keyN m (xs.drop (k + 1)) * 2 ^ m + (xs[k]?.getD 0).toNat := by
  rw [List.drop_eq_getElem_cons hk, List.getElem?_eq_getElem hk]
  rfl
theorem keyN_nil (m : Nat) : keyN m [] = 0 := rfl

end Go.Proofs.YtkcdoacojiilaaaGreat

-- Plain: the list of steps of the reference.
namespace Go.Proofs.YtkcdoacojiilaaaGreat

/-- the list tells for each image of wk its number, -1 elsewhere -/
def StepsIs (S : List Int) (m N : Nat) (wk : List (List Int × Nat)) : Prop :=
  S.length = N ∧ (∀ e ∈ wk, S[keyN m e.1]?.getD 0 = (e.2 : Int)) ∧ ∀ i, i < N → (∀ e ∈ wk, keyN m e.1 ≠ i) → S[i]?.getD 0 = -1
theorem StepsIs.start {m N : Nat} {xs : List Int} (hx : keyN m xs < N) : StepsIs ((List.replicate N (-1 : Int)).set (keyN m xs) 0) m N [(xs, 0)] := by
  refine ⟨by simp, fun e he => ?_, fun i hi h => ?_⟩
  · obtain rfl := List.mem_singleton.1 he
    rw [List.getElem?_set_self (by simpa using hx)]; rfl
  · have := h _ (List.mem_singleton.2 rfl)
    rw [List.getElem?_set_ne this, List.getElem?_replicate, if_pos hi]; rfl
theorem StepsIs.add {S : List Int} {m N : Nat} {wk : List (List Int × Nat)} (h : StepsIs S m N wk) {z : List Int} (d : Nat) (hz : keyN m z < N) (hn : ∀ e ∈ wk, keyN m e.1 ≠ keyN m z) : StepsIs (S.set (keyN m z) (d : Int)) m N (wk ++ [(z, d)]) := by
  refine ⟨by rw [List.length_set]; exact h.1, fun e he => ?_, fun i hi h2 => ?_⟩
  · rcases List.mem_append.1 he with he | he
    · rw [List.getElem?_set_ne (fun e2 => hn e he e2.symm)]
      exact h.2.1 e he
    · obtain rfl := List.mem_singleton.1 he
      rw [List.getElem?_set_self (by rw [h.1]; exact hz)]; rfl
  · have h3 := h2 (z, d) (by simp)
    rw [List.getElem?_set_ne h3]
    exact h.2.2 i hi (fun e he => h2 e (by simp [he]))
theorem keyN_bd {m : Nat} {xs : List Int} (h : okB (m : Int) xs = true) : keyN m xs < 2 ^ (xs.length * m) := keyN_lt (fun x hx => (okB_cells h x hx).2)
theorem seen_key {m n : Nat} {wk : List (List Int × Nat)} (hok : ∀ e ∈ wk, okB (m : Int) e.1 = true ∧ e.1.length = n) {z : List Int} (hz : okB (m : Int) z = true) (hl : z.length = n) (h : seen wk z = false) : ∀ e ∈ wk, keyN m e.1 ≠ keyN m z := by
  intro e he hk
  have := keyN_inj (by rw [(hok e he).2, hl]) (okB_cells (hok e he).1) (okB_cells hz) hk
  have h2 := seen_iff.2 ⟨e, he, this⟩
  rw [h] at h2; cases h2
theorem StepsIs.neg {S : List Int} {m n N : Nat} {wk : List (List Int × Nat)} (h : StepsIs S m N wk) (hok : ∀ e ∈ wk, okB (m : Int) e.1 = true ∧ e.1.length = n) {z : List Int} (hz : okB (m : Int) z = true) (hl : z.length = n) (hN : keyN m z < N) :
    decide (S[keyN m z]?.getD 0 < 0) = !seen wk z := by
  cases hs : seen wk z with
  | true =>
    obtain ⟨e, he, h1⟩ := seen_iff.1 hs
    have := h.2.1 e he
    rw [h1] at this
    rw [this]; simp
  | false =>
    rw [h.2.2 _ hN (seen_key hok hz hl hs)]; rfl
end Go.Proofs.YtkcdoacojiilaaaGreat

-- Walks: the reference's numbers of steps.
namespace Go.Proofs.YtkcdoacojiilaaaGreat
open Go.RowKit
set_option maxRecDepth 100000

theorem l1Power_n (n m : Nat) (w : World) (h : n * m ≤ 60) :
    Calls Tryz.prog 65 #[.int .i64 ((n : Int) * (m : Int))] w fun e w' => e = .returned (.int .i64 ((2 ^ (n * m) : Nat) : Int)) ∧ w = w' := by
  have e : (n : Int) * (m : Int) = ((n * m : Nat) : Int) := by simp
  rw [e]
  refine (l1Power_c ((n * m : Nat) : Int) w (by omega) (by omega)).mono ?_
  rintro e w' ⟨rfl, rfl⟩
  refine ⟨ret_int ?_, rfl⟩
  rw [Int.toNat_natCast]; simp

/-- what lies in memory while the reference searches -/
structure GInv (w wr : World) (m N g : Nat) (A : Option Addr) (c : Nat) (es : List El) (S : List Int) (wk : List (List Int × Nat)) : Prop where
  low : Below w.heap.size w wr
  buf : BufI wr w.heap.size A c es
  els : Els es (m : Int) (wk.map (·.1))
  keep : ∀ e ∈ es, Keep wr w.heap.size e
  steps : Own wr w.heap.size (some ⟨g, 0, none⟩) N S
  is_ : StepsIs S m N wk
  ne : ∀ e ∈ es, e.A ≠ some (⟨g, 0, none⟩ : Addr)
  lo : w.heap.size ≤ g
section
variable {w wr w' : World} {m N g c : Nat} {A : Option Addr} {es : List El} {S : List Int} {wk : List (List Int × Nat)}
theorem GInv.next (h : GInv w wr m N g A c es S wk) (hb : Below wr.heap.size wr w') : GInv w w' m N g A c es S wk :=
  ⟨lo_trans h.low hb, h.buf.next hb, h.els, fun e he => (h.keep e he).next hb, h.steps.next hb, h.is_, h.ne, h.lo⟩
theorem Keep.grownS {w w' : World} {base g : Nat} {e : El} (h : Keep w base e) (hne : e.A ≠ some (⟨g, 0, none⟩ : Addr)) (hg : w.grownBy w' (some g)) (hb : base ≤ g) : Keep w' base e := by
  refine ⟨h.1, ?_⟩
  rcases h.2 with ⟨h1, b, off, h2, h3, h4⟩ | h
  · have hkb : KB b w w' := KB.of_grown hg h4 (fun e => by injection e; omega)
    rw [h2] at h1 ⊢
    exact .inl ⟨h1.kb h4 hkb, b, off, rfl, h3, Nat.lt_of_lt_of_le h4 hg.size⟩
  · exact .inr (h.grown hg (fun q hq e => by cases e; exact hne hq))
theorem Own.blkAt {w : World} {lo g n : Nat} {xs : List Int} (h : Own w lo (some ⟨g, 0, none⟩) n xs) (hn : 0 < n) : ∃ cs, Blk w g 3 cs := by
  obtain ⟨g', cs, e, _, hb, _⟩ := h.2 hn
  cases e
  exact ⟨cs, hb⟩
theorem BufI.ne_int {w : World} {base c gS : Nat} {A : Option Addr} {es : List El} {cs : Array Value} (h : BufI w base A c es) (hb : Blk w gS 3 cs) : ∀ g, A = some ⟨g, 0, none⟩ → some gS ≠ some g := by
  rintro g rfl e
  cases e
  rcases h.form with ⟨e', _⟩ | ⟨g', cs', e', _, hb', _⟩
  · cases e'
  · cases e'
    exact not_int_img hb' _ hb
/-- a step is noted, then the image is put at the end of the work -/
theorem GInv.add {w w8 w10 : World} {m N g c c2 cf d : Nat} {dv : Int} (hdv : dv = (d : Int)) {A Af : Option Addr} {es : List El} {S : List Int} {wk : List (List Int × Nat)} {z : List Int} {bx : Obj} {gB : Nat} (hG : GInv w w8 m N g A c es S wk) (hz : keyN m z < N) (hn : ∀ e ∈ wk, keyN m e.1 ≠ keyN m z)
    (hB : BufI w10 w.heap.size (some ⟨gB, 0, none⟩) c2 (es ++ [⟨(m : Int), Af, cf, z⟩])) (hg10 : ((w8.setCell ⟨g, keyN m z, none⟩ (.int .i64 dv)).alloc bx).grownBy w10 (rowA A)) (hkp : Keep w8 w.heap.size ⟨(m : Int), Af, cf, z⟩) (hAf : Af ≠ some (⟨g, 0, none⟩ : Addr)) :
    GInv w w10 m N g (some ⟨gB, 0, none⟩) c2 (es ++ [⟨(m : Int), Af, cf, z⟩]) (S.set (keyN m z) (d : Int)) (wk ++ [(z, d)]) ∧ (∀ f : El, f.A ≠ some (⟨g, 0, none⟩ : Addr) → Keep w8 w.heap.size f → Keep w10 w.heap.size f) := by
  subst hdv
  obtain ⟨_, hzS, _, _, hset⟩ := hG.steps.cellSet (k := keyN m z) hz
  obtain ⟨cs, hcs⟩ := hG.steps.blkAt (by omega)
  have hs := hset (d : Int)
  have hgs : w8.grownBy (w8.setCell ⟨g, keyN m z, none⟩ (.int .i64 (d : Int))) (some g) := grown_set _
  have hbuf8 := hG.buf.kept hgs (hG.buf.ne_int hcs)
  have hbuf9 := hbuf8.next (lo_alloc (Below.refl _ _) bx)
  have hrowB : ∀ q, rowA A = some q → w.heap.size ≤ q ∧ q < ((w8.setCell ⟨g, keyN m z, none⟩ (.int .i64 (d : Int))).alloc bx).heap.size := rowA_lt hbuf9
  have hrowC : ∀ q, rowA A = some q → ∀ cs, ¬ Blk ((w8.setCell ⟨g, keyN m z, none⟩ (.int .i64 (d : Int))).alloc bx) q 3 cs := by
    intro q hq cs' hb'
    rcases hbuf9.form with ⟨rfl, _⟩ | ⟨g', cs2, rfl, _, hb2, _⟩
    · simp [rowA] at hq
    · simp [rowA] at hq
      subst hq
      exact not_int_img hb2 _ hb'
  have hkeep : ∀ f : El, f.A ≠ some (⟨g, 0, none⟩ : Addr) → Keep w8 w.heap.size f → Keep w10 w.heap.size f := fun f hne h =>
    ((h.grownS hne hgs hG.lo).next (lo_alloc (Below.refl _ _) bx)).grown hg10 (fun q hq => ⟨(hrowB q hq).1, hrowC q hq⟩)
  refine ⟨⟨?_, hB, ?_, ?_, ?_, hG.is_.add d hz hn, ?_, hG.lo⟩, hkeep⟩
  · exact lo_grown (lo_alloc (lo_grown hG.low hgs (by rintro q ⟨⟩; exact hG.lo)) bx) hg10 (fun q hq => (hrowB q hq).1)
  · rw [List.map_append]; exact hG.els.snoc _ _ _
  · intro e he
    rcases List.mem_append.1 he with he | he
    · exact hkeep e (hG.ne e he) (hG.keep e he)
    · obtain rfl := List.mem_singleton.1 he
      exact hkeep _ hAf hkp
  · refine (hs.alloc bx).grown hg10 (fun q hq hr => ?_)
    cases hq
    obtain ⟨cs3, h3⟩ := (hs.alloc bx).blkAt (by omega)
    exact hrowC _ hr cs3 h3
  · intro e he
    rcases List.mem_append.1 he with he | he
    · exact hG.ne e he
    · obtain rfl := List.mem_singleton.1 he
      exact hAf
end

end Go.Proofs.YtkcdoacojiilaaaGreat
