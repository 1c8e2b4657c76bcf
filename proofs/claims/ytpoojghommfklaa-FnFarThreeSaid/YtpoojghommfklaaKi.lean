
/- Plain facts and walks that the law's proof uses; each says its own conditions. -/
import Derived.Test.YtpoojghommfklaaKh
import Derived.Test.YtpoojghommfklaaKl
import Derived.Test.YtpoojghommfklaaEqs
import Derived.Test.YtpoojghommfklaaWg
import Derived.Deep.QuietTactic
import Derived.BigQuiet
import Derived.Test.YtpoojghommfklaaKg
-- Walks: all images that switches reach.
namespace Go.Proofs.Ytpoojghommfklaa
open Go.RowKit Go.Maps
set_option maxRecDepth 100000

/-- the rows of an image lie where the search does not write -/
def Keep (w : World) (base : Nat) (e : El) : Prop :=
  0 < e.xs.length ∧ ((Rd w e.A e.xs.length e.xs ∧ ∃ b off, e.A = some ⟨b, off, none⟩ ∧ b < base ∧ b < w.heap.size) ∨ Own w base e.A e.xs.length e.xs)
section
variable {w w' : World} {base : Nat} {e : El}
theorem Keep.rd (h : Keep w base e) : Rd w e.A e.xs.length e.xs := by
  rcases h.2 with h | h
  · exact h.1
  · exact h.rd
theorem Keep.next (h : Keep w base e) (hb : Below w.heap.size w w') : Keep w' base e :=
  ⟨h.1, h.2.imp (fun ⟨h1, b, off, h2, h3, h4⟩ => ⟨h1.next hb, b, off, h2, h3, Nat.lt_of_lt_of_le h4 hb.size⟩) (fun h => h.next hb)⟩
theorem Keep.grown (h : Keep w base e) {row : Option Nat} (hg : w.grownBy w' row) (hr : ∀ g, row = some g → base ≤ g ∧ ∀ cs, ¬ Blk w g 3 cs) : Keep w' base e := by
  refine ⟨h.1, ?_⟩
  rcases h.2 with ⟨h1, b, off, h2, h3, h4⟩ | h
  · have hkb : KB b w w' := KB.of_grown hg h4 (fun e => by have := (hr b e).1; omega)
    rw [h2] at h1 ⊢
    exact .inl ⟨h1.kb h4 hkb, b, off, rfl, h3, Nat.lt_of_lt_of_le h4 hg.size⟩
  · refine .inr ⟨h.1, fun hn => ?_⟩
    obtain ⟨g, cs, e1, h1, h2, h3⟩ := h.2 hn
    exact ⟨g, cs, e1, h1, h2.grown hg (fun e => (hr g e.symm).2 cs h2), h3⟩
end

/-- what lies in memory while the search runs -/
structure FInv (w wr : World) (m k b : Nat) (A : Option Addr) (c : Nat) (es : List El) (D : DataW Unit) (wk : List (List Int × Nat)) : Prop where
  low : Below w.heap.size w wr
  queue : Qu wr w.heap.size A es.length c es
  els : Els es (m : Int) ((wk.drop k).map (·.1))
  keep : ∀ e ∈ es, Keep wr w.heap.size e
  own : wr.ownsMap Try.prog 9 (plainElem Try.prog 3) b wk.length D
  map : MapIs D m wk
  lo : w.heap.size ≤ b
section
variable {w wr w' : World} {m k b c : Nat} {A : Option Addr} {es : List El} {D : DataW Unit} {wk : List (List Int × Nat)}
theorem ownsMap_next {n : Nat} (h : wr.ownsMap Try.prog 9 (plainElem Try.prog 3) b n D) (hb : Below wr.heap.size wr w') : w'.ownsMap Try.prog 9 (plainElem Try.prog 3) b n D := h.kept (grown_of_below hb none) (by simp)
theorem FInv.next (h : FInv w wr m k b A c es D wk) (hb : Below wr.heap.size wr w') : FInv w w' m k b A c es D wk :=
  ⟨lo_trans h.low hb, h.queue.next hb, h.els, fun e he => (h.keep e he).next hb, ownsMap_next h.own hb, h.map, h.lo⟩
end

/-- how many entries the map in block b has -/
def mapSz (w : World) (b : Nat) : Nat := match w.heap[b]? with | some (.map es _) => es.size | _ => 0
def slLen : Value → Nat | .slice _ n _ => n | _ => 0
theorem mapSz_of {w : World} {b n : Nat} {D : DataW Unit} (h : w.ownsMap Try.prog 9 (plainElem Try.prog 3) b n D) : mapSz w b = Maps.size D := by
  obtain ⟨es, clock, hb, _, _, rfl⟩ := h
  simp [mapSz, hb, Maps.size, length_sorted]

theorem bfs_dist (m : Nat) (xs : List Int) : ∀ k, ∀ e ∈ bfs m xs k, e.2 ≤ k
  | 0, e, h => by simp [bfs] at h; subst h; exact Nat.le_refl _
  | k + 1, e, h => by
    have ih := bfs_dist m xs k
    have hadd : ∀ (zs : List (List Int)) (wk : List (List Int × Nat)) (d : Nat), d ≤ k + 1 → (∀ e ∈ wk, e.2 ≤ k + 1) → ∀ e ∈ bAdd d wk zs, e.2 ≤ k + 1 := by
      intro zs
      induction zs with
      | nil => intro wk d _ h e he; exact h e he
      | cons z zs ih2 =>
        intro wk d hd h e he
        refine ih2 (bAdd1 d wk z) d hd (fun e he => ?_) e he
        unfold bAdd1 at he
        split at he
        · exact h e he
        · rcases List.mem_append.1 he with he | he
          · exact h e he
          · obtain rfl := List.mem_singleton.1 he
            exact hd
    simp only [bfs] at h
    split at h
    · rename_i e0 he0
      have := ih e0 (List.mem_of_getElem? he0)
      exact hadd _ _ _ (by omega) (fun e he => by have := ih e he; omega) e h
    · have := ih e h; omega

theorem bAdd_take {d j : Nat} {wk : List (List Int × Nat)} {zs : List (List Int)} {z : List Int} (h : zs[j]? = some z) : bAdd d wk (zs.take (j + 1)) = bAdd1 d (bAdd d wk (zs.take j)) z := by
  have hj : j < zs.length := (List.getElem?_eq_some_iff.1 h).1
  rw [List.take_succ_eq_append_getElem hj, bAdd, List.foldl_append]
  rw [List.getElem?_eq_getElem hj] at h
  rw [Option.some.inj h]; rfl
theorem bAdd1_len (d : Nat) (wk : List (List Int × Nat)) (z : List Int) : wk.length ≤ (bAdd1 d wk z).length ∧ (bAdd1 d wk z).length ≤ wk.length + 1 := by
  unfold bAdd1; split <;> simp
theorem bAdd_len (d : Nat) : ∀ (zs : List (List Int)) (wk : List (List Int × Nat)), wk.length ≤ (bAdd d wk zs).length ∧ (bAdd d wk zs).length ≤ wk.length + zs.length
  | [], wk => ⟨Nat.le_refl _, Nat.le_refl _⟩
  | z :: zs, wk => by
    have h1 := bAdd1_len d wk z
    have h2 := bAdd_len d zs (bAdd1 d wk z)
    have e : bAdd d wk (z :: zs) = bAdd d (bAdd1 d wk z) zs := rfl
    rw [e, List.length_cons]; omega
theorem bAdd_mem {d : Nat} {e : List Int × Nat} : ∀ {zs : List (List Int)} {wk : List (List Int × Nat)}, e ∈ bAdd d wk zs → e ∈ wk ∨ e.1 ∈ zs
  | [], wk, h => .inl h
  | z :: zs, wk, h => by
    have e1 : bAdd d wk (z :: zs) = bAdd d (bAdd1 d wk z) zs := rfl
    rw [e1] at h
    rcases bAdd_mem h with h | h
    · unfold bAdd1 at h
      split at h
      · exact .inl h
      · rcases List.mem_append.1 h with h | h
        · exact .inl h
        · obtain rfl := List.mem_singleton.1 h
          exact .inr (by simp)
    · exact .inr (by simp [h])
theorem has_seen {D : DataW Unit} {m : Nat} {wk : List (List Int × Nat)} (h : MapIs D m wk) (hok : ∀ e ∈ wk, okB (m : Int) e.1 = true) {z : List Int} (hz : okB (m : Int) z = true) : Maps.has D (kT (textL m z)) = seen wk z := by
  rw [h.has, seen]
  rw [Bool.eq_iff_iff, List.any_eq_true, List.any_eq_true]
  constructor
  · rintro ⟨e, he, h1⟩
    exact ⟨e, he, by simpa using (text_inj (hok e he) hz (by simpa using h1)).2⟩
  · rintro ⟨e, he, h1⟩
    have : e.1 = z := by simpa using h1
    exact ⟨e, he, by simp [this]⟩
theorem wpl_append_run {P : Program} {ops : Array Oper} {rest : List Oper} {o : Oper} {a : Act} {Q : Exit → Act → World → Prop} {w w' : World} (hgd : o.guard = none) (s x : Operand) (t : TypeId)
    (ho : o.op = .call { callee := .builtin .append, args := #[s, x], argTypes := #[t, t] }) (v v' xv : Value) (hs : a.eval s = v) (hx : a.eval x = xv)
    (hrun : (Builtin.append_ #[t, t] o.type #[v, xv]).run P w = .ok v' w') (h : wpList P ops Q rest (a.put o.dst v') w') : wpList P ops Q (o :: rest) a w := by
  refine wpList_plain hgd fun K hK => ?_
  unfold Oper.wp execOp
  simp only [ho, resolve, invoke, builtin, Sem.run_bind, Sem.run_pure, Result.andThen_ok, List.map_toArray, List.map_cons, List.map_nil, hs, hx, hrun]
  exact hK _ _ h

theorem not_int_map {w : World} {b n : Nat} {D : DataW Unit} {t : TypeId} (h : w.ownsMap Try.prog 9 (plainElem Try.prog 3) b n D) (cs : Array Value) : ¬ Blk w b t cs := by
  obtain ⟨es, clock, hb, _⟩ := h
  intro k
  unfold Blk at k
  rw [hb] at k; cases k
theorem not_int_img {w : World} {g : Nat} {cs : Array Value} (h : Blk w g 25 cs) (cs' : Array Value) : ¬ Blk w g 3 cs' := by
  intro k
  unfold Blk at h k
  rw [h] at k
  injection k with k
  injection k with _ h2
  exact absurd h2 (by decide)
theorem Qu.ne_map {w : World} {base b n c n' : Nat} {A : Option Addr} {es : List El} {D : DataW Unit} (h : Qu w base A n c es) (k : w.ownsMap Try.prog 9 (plainElem Try.prog 3) b n' D) : ∀ g off, A = some ⟨g, off, none⟩ → some b ≠ some g := by
  rintro g off rfl e
  cases e
  obtain ⟨_, _, _, g', off', cs, h4, _, h6, _⟩ := h
  cases h4
  exact not_int_map k _ h6
theorem FInv.add {w w8 w9 w10 : World} {m k b c c2 cf d n' : Nat} {A A2 Af : Option Addr} {es : List El} {D : DataW Unit} {wk : List (List Int × Nat)} {z : List Int} {bx : Obj} {row : Option Nat} (hF : FInv w w8 m k b A c es D wk) (hk : k ≤ wk.length)
    (hn : n' = wk.length + 1) (hM : w9.ownsMap Try.prog 9 (plainElem Try.prog 3) b n' (D.put (kT (textL m z)) (.lit (.int .i64 (d : Int))))) (hg9 : w8.grownBy w9 (some b))
    (hQ : Qu w10 w.heap.size A2 (es.length + 1) c2 (es ++ [⟨(m : Int), Af, cf, z⟩])) (hg10 : (w9.alloc bx).grownBy w10 row) (hrow : ∀ g, row = some g → w.heap.size ≤ g ∧ ∃ cs, Blk (w9.alloc bx) g 25 cs)
    (hz : wk.any (fun e => textL m e.1 == textL m z) = false) (hkp : Keep w8 w.heap.size ⟨(m : Int), Af, cf, z⟩) :
    FInv w w10 m k b A2 c2 (es ++ [⟨(m : Int), Af, cf, z⟩]) (D.put (kT (textL m z)) (.lit (.int .i64 (d : Int)))) (wk ++ [(z, d)]) ∧ (∀ f, Keep w8 w.heap.size f → Keep w10 w.heap.size f) := by
  subst hn
  have hkeep : ∀ f, Keep w8 w.heap.size f → Keep w10 w.heap.size f := by
    intro f h
    have h1 := h.grown hg9 (fun g e => by cases e; exact ⟨hF.lo, fun cs => not_int_map hF.own cs⟩)
    have h2 := h1.next (lo_alloc (Below.refl _ _) bx)
    exact h2.grown hg10 (fun g e => by
      obtain ⟨h3, cs, h4⟩ := hrow g e
      exact ⟨h3, fun cs' => not_int_img h4 cs'⟩)
  have hrb : ∀ g, row = some g → g ≠ b := by
    rintro g e rfl
    obtain ⟨_, cs, h4⟩ := hrow g e
    exact not_int_map (hM.alloc bx) _ h4
  refine ⟨⟨?_, ?_, ?_, ?_, ?_, ?_, hF.lo⟩, hkeep⟩
  · exact lo_grown (lo_alloc (lo_grown hF.low hg9 (by rintro g ⟨⟩; exact hF.lo)) bx) hg10 (fun g e => (hrow g e).1)
  · rw [List.length_append]; exact hQ
  · rw [List.drop_append_of_le_length hk, List.map_append]
    exact hF.els.snoc _ _ _
  · intro e he
    rcases List.mem_append.1 he with he | he
    · exact hkeep e (hF.keep e he)
    · obtain rfl := List.mem_singleton.1 he
      exact hkeep _ hkp
  · rw [List.length_append]
    exact (hM.alloc bx).kept hg10 (fun e => hrb _ e.symm rfl)
  · exact hF.map.put d hz (hM.tidy keyLaw)

set_option maxHeartbeats 8000000 in
theorem switchesFrom_c (m n c : Nat) (A : Option Addr) (xs : List Int) (w : World) (hr : Rd w A n xs) (hk : okB (m : Int) xs = true) (hc : n * m ≤ 16) :
    Calls Try.prog 13 #[.agg #[.int .i64 (m : Int), .slice A n c]] w fun e w' => ∃ (b : Nat) (D : DataW Unit), e = .returned (.map (some b)) ∧ Below w.heap.size w w' ∧
      w'.ownsMap Try.prog 9 (plainElem Try.prog 3) b (reach m xs).length D ∧ MapIs D m (reach m xs) := by
  have hbd := okB_bd hk
  rw [hr.1] at hbd
  have hk' := Lib.hid hk
  have htl := textL_len hk
  have htw := Lib.hid (show textW (m : Int) xs = textL m xs by simp [textW, hk])
  clear hk
  have hmm := @run_makeMap Try.prog
  have hK1 := Blk.new w 25 #[.int .i64 (m : Int), .slice A n c]
  have hK2 := hK1.alloc (.map #[] 0)
  have hM2 : ((w.alloc (.cells #[.int .i64 (m : Int), .slice A n c] 25)).alloc (.map #[] 0)).ownsMap Try.prog 9 (plainElem Try.prog 3) (w.heap.size + 1) 0 (.map [] : DataW Unit) := by
    have := World.ownsMap_made (H := Unit) (w.alloc (.cells #[.int .i64 (m : Int), .slice A n c] 25)) Try.prog 9 (plainElem Try.prog 3)
    rwa [World.size_alloc] at this
  have hB2 := lo_alloc (lo_alloc (Below.refl w.heap.size w) (.cells #[.int .i64 (m : Int), .slice A n c] 25)) (.map #[] 0)
  have hR2 := hr.next hB2
  have hs2 : ((w.alloc (.cells #[.int .i64 (m : Int), .slice A n c] 25)).alloc (.map #[] 0)).heap.size = w.heap.size + 2 := by simp
  have a0 := hK2.cell 0
  have a1 := hK2.cell 1
  clear hK1
  go_enter Try.func13, Try.ntmps13
  go_wp2_with fail
  generalize (w.alloc (.cells #[.int .i64 (m : Int), .slice A n c] 25)).alloc (.map #[] 0) = w1 at hK2 hM2 hB2 hR2 hs2 a0 a1 ⊢
  refine (ImageText_c m A n c xs w1 hR2 (by omega)).mono ?_
  rw [htw.out]
  rintro e w2 ⟨rfl, hb2⟩
  have hM3 := ownsMap_next hM2 hb2
  have hK3 := hK2.next hb2
  have hB3 := lo_trans hB2 hb2
  clear hM2 hK2 hB2 hb2 a0 a1 hR2
  have hkey := kT_of (t := textL m xs) (by omega)
  go_wp2_with (refine wpl_insert (o := ⟨none, .insert 38 (.tmp 10) (.tmp 12) (.const (.int .i64 0)), _, _, _, _⟩) rfl _ _ _ 38 rfl Try.underlying38 (w.heap.size + 1) 0 _ rfl hM3 (by unfold maxLen; omega) _ 0 _ rfl rfl hkey (by decide) ?_; intro w3 hM4 hg4; have a0 := (hK3.grown hg4 (by intro e; injection e; omega)).cell 0; have a1 := (hK3.grown hg4 (by intro e; injection e; omega)).cell 1)
  have hs3 : w.heap.size ≤ w3.heap.size := Nat.le_trans hB3.size hg4.size
  have hB4 : Below w.heap.size w (w3.alloc (.cells #[.int .i64 (m : Int), .slice A n c] 25)) := lo_alloc (lo_grown hB3 hg4 (by rintro g ⟨⟩; omega)) _
  have hI0 : FInv w (w3.alloc (.cells #[.int .i64 (m : Int), .slice A n c] 25)) m 0 (w.heap.size + 1) (some ⟨w3.heap.size, 0, none⟩) 1 [⟨m, A, c, xs⟩] ((DataW.map [] : DataW Unit).put (kT (textL m xs)) (.lit (.int .i64 0))) (bfs m xs 0) := by
    refine ⟨hB4, ?_, ⟨rfl, fun e he => by obtain rfl := List.mem_singleton.1 he; rfl⟩, fun e he => ?_, (hM4.alloc _), MapIs.put (MapIs.empty m) 0 rfl (hM4.tidy keyLaw), by omega⟩
    · have := Qu.lit w3 w.heap.size hs3 ⟨m, A, c, xs⟩
      rw [hr.1] at this; exact this
    · obtain rfl := List.mem_singleton.1 he
      obtain ⟨b, off, e1, hb, _⟩ := hr.2 (by omega)
      refine ⟨by show 0 < xs.length; rw [hr.1]; omega, .inl ⟨by show Rd _ A xs.length xs; rw [hr.1]; exact hr.next hB4, b, off, e1, hb, Nat.lt_of_lt_of_le hb hB4.size⟩⟩
  clear hmm hkey a0 a1 hM4 hg4 hB4 hM3 hK3 hB3 hs3
  go_loopw [4] (fun v wr => ∃ (k : Nat) (A' : Option Addr) (c' : Nat) (es : List El) (D : DataW Unit), v = .slice A' es.length c' ∧ FInv w wr m k (w.heap.size + 1) A' c' es D (bfs m xs k) ∧ k ≤ (bfs m xs k).length) (fun v wr => 2 ^ (n * m) + slLen v - mapSz wr (w.heap.size + 1))
  case atStart => exact ⟨0, _, _, _, _, rfl, hI0, Nat.zero_le _⟩
  case round =>
    clear hI0
    obtain ⟨k, A', c', es, D, rfl, hF, hkL⟩ := hrel
    cases es with
    | nil =>
      have hdone : Hid (bfs m xs k = reach m xs) := Lib.hid (reach_eq hk'.out (by
        have := hF.els.len
        simp at this; omega))
      go_wp2
      go_ret
      refine ⟨w.heap.size + 1, D, rfl, hF.low, ?_, ?_⟩
      · rw [← hdone.out]; exact hF.own
      · rw [← hdone.out]; exact hF.map
    | cons e0 es' =>
      obtain ⟨W0, A0, c0, x0⟩ := e0
      obtain ⟨⟨z0, d0⟩, hcur, hx0⟩ : ∃ e, (bfs m xs k)[k]? = some e ∧ e.1 = x0 := by
        have h1 := hF.els.1
        have hlt : k < (bfs m xs k).length := by
          have := hF.els.len
          simp at this; omega
        refine ⟨_, List.getElem?_eq_getElem hlt, ?_⟩
        rw [List.drop_eq_getElem_cons hlt, List.map_cons, List.map_cons] at h1
        injection h1 with h1 _
        exact h1.symm
      dsimp only at hx0
      subst hx0
      obtain rfl : W0 = (m : Int) := hF.els.2 _ (List.mem_cons_self ..)
      have hmem : (z0, d0) ∈ bfs m xs k := List.mem_of_getElem? hcur
      have hok := path_ok hk'.out ((bfs_inv m xs k).1.path _ hmem)
      have hzl : z0.length = n := hok.2.trans hr.1
      have hok' := Lib.hid hok.1
      have hd0 : d0 ≤ k := bfs_dist m xs k _ hmem
      have hL := bfs_len hk'.out k
      have hL2 : 2 ^ (xs.length * m) ≤ 2 ^ 16 := Nat.pow_le_pow_right (by omega) (by rw [hr.1]; exact hc)
      have hLL : (bfs m xs k).length ≤ 65536 := by omega
      have hkd : k < (bfs m xs k).length := (List.getElem?_eq_some_iff.1 hcur).1
      have hcur' := Lib.hid hcur
      have hmem' := Lib.hid hmem
      have hzl' := Lib.hid hzl
      have hzl2 : 1 ≤ z0.length ∧ z0.length ≤ 6 := by omega
      have htz : (textL m z0).length ≤ 100 := textL_len hok.1
      have htz2 := Lib.hid (show textW (m : Int) z0 = textL m z0 by simp [textW, hok.1])
      have hkeep := hF.keep _ (List.mem_cons_self ..)
      have hRz := hkeep.rd
      dsimp only at hRz
      obtain ⟨g, off, rfl, hgl, q0, q1⟩ := hF.queue.first
      dsimp only at q0 q1
      have hkz := kT_of (t := textL m z0) (by omega)
      have hms := Lib.hid (show mapSz wr (w.heap.size + 1) = (bfs m xs k).length from (mapSz_of hF.own).trans hF.map.size)
      have hes0 : es'.length + 1 + k = (bfs m xs k).length := by
        have := hF.els.len
        simp at this; omega
      have hcap0 : es'.length + 1 ≤ c' := by have := hF.queue.2.1; simpa using this
      clear hcur hmem hok hzl hL hkeep
      go_wp2_with fail
      refine (ImageText_c m A0 z0.length c0 z0 wr hRz (by omega)).mono ?_
      rw [htz2.out]
      rintro e w4 ⟨rfl, hb4⟩
      have hF4 := hF.next hb4
      have q0' := (hb4.cell (p := ⟨g, off, none⟩) hgl).trans q0
      have q1' := (hb4.cell (p := ⟨g, off + 1, none⟩) hgl).trans q1
      have hRz4 := hRz.next hb4
      have hown4 := hF4.own
      have hat4 := Lib.hid (hF4.map.at_ _ hmem'.out)
      clear q0 q1 hF hRz hb4
      go_wp2_with (refine wpList_lookup_own_int (H := Unit) _ (o := ⟨some 26, .lookup 38 (.tmp 21) (.tmp 25) false, _, _, _, _⟩) rfl _ _ 38 rfl 9 3 .i64 keyLaw Try.underlying38 Try.underlying3 (zeroInt _) (w.heap.size + 1) (bfs m xs k).length D rfl hown4 _ _ rfl hkz ?_; intro cc hat hwc; obtain rfl : cc = (d0 : Int) := (by have h := hat4.out; rw [hat] at h; cases h; rfl); clear hat hwc)
      refine (impl_ImageNeighbors_c (m : Int) A0 z0.length c0 z0 w4 hRz4 (by omega)).mono ?_
      rintro e w5 ⟨R, cR, fs, rfl, hb5, hI5, hE5⟩
      have hnW : nbrsW (m : Int) z0 = nbrs m z0 := by simp [nbrsW, hok'.out]
      rw [hnW] at hE5
      have hE5' := Lib.hid hE5
      have hfl : fs.length < 1600 := by rw [hE5.len, ← hnW]; exact nbrsW_len _ _
      have hfy := Lib.hid (show ∀ z ∈ nbrs m z0, okB (m : Int) z = true ∧ z.length = n from fun z hz => by have := nbrs_ok hok'.out hz; exact ⟨this.1, by rw [this.2]; exact hzl'.out⟩)
      have hF5 := hF4.next hb5
      have h45 : w4.heap.size ≤ w5.heap.size := hb5.size
      have hlow4 := hF4.low.size
      have hg4 : g < w4.heap.size := World.block_lt_of_cell? w4 _ q0'
      have hwb1 : w.heap.size + 1 < w4.heap.size := by have := hF4.own.lt; omega
      have hbufR := hI5.buf
      have hkeepR : ∀ f ∈ fs, Keep w5 w.heap.size f := fun f hf => ⟨(hI5.rows f hf).2, .inr ((hI5.rows f hf).1.mono hlow4)⟩
      have hgR := hI5.buf.lt
      clear q0' q1' hRz4 hown4 hat4 hF4 hb5 hI5 hE5 hnW
      have hIn0 : ∃ D, FInv w w5 m k (w.heap.size + 1) (some ⟨g, off, none⟩) c' (⟨(m : Int), A0, c0, z0⟩ :: es') D (bAdd (d0 + 1) (bfs m xs k) ((nbrs m z0).take 0)) := ⟨D, hF5⟩
      clear hF5
      obtain ⟨wo, rfl⟩ : ∃ wo : World, wo = wr := ⟨_, rfl⟩
      go_wp2
      go_loopw [32, 4] (fun i v wr2 => ∃ (j : Nat) (A' : Option Addr) (c' : Nat) (es : List El) (D : DataW Unit), j ≤ fs.length ∧ i = .int .i64 j ∧ v = .slice A' es.length c' ∧ FInv w wr2 m k (w.heap.size + 1) A' c' es D (bAdd (d0 + 1) (bfs m xs k) ((nbrs m z0).take j)) ∧
          BufI wr2 w4.heap.size R cR fs ∧ Hid (∀ f ∈ fs, Keep wr2 w.heap.size f) ∧ Hid (∀ g off, A' = some (⟨g, off, none⟩ : Addr) → g < w4.heap.size ∨ w5.heap.size ≤ g) ∧ w5.heap.size ≤ wr2.heap.size) (fun i _ _ => fs.length - (intOf i).toNat)
      case atStart =>
        obtain ⟨D1, hF1⟩ := hIn0
        exact ⟨0, _, _, _, D1, Nat.zero_le _, rfl, rfl, hF1, hbufR, Lib.hid hkeepR, Lib.hid (by rintro g1 off1 ⟨⟩; exact .inl hg4), Nat.le_refl _⟩
      case round =>
        clear hIn0 hbufR hkeepR
        obtain ⟨j, A1, c1, es1, D1, hj, rfl, rfl, hF1, hbR, hkR, hgA, hsz5⟩ := hrel
        by_cases hlt : j < fs.length
        · obtain ⟨f, hf⟩ : ∃ f, fs[j]? = some f := ⟨fs[j], List.getElem?_eq_getElem hlt⟩
          obtain ⟨gR, rfl⟩ := hbR.addr.resolve_left (by
            rintro rfl
            rcases hbR.form with ⟨_, h0⟩ | ⟨_, _, e', _⟩
            · rw [h0] at hlt; simp at hlt
            · cases e')
          have hgR' := hgR gR rfl
          obtain ⟨bR, oR, e1, hbl, p0, p1, hRf⟩ := (hbR.rd (fun e he => (hkR.out e he).rd)).at_ hlt hf
          cases e1
          have hkf := hkR.out f (List.mem_of_getElem? hf)
          obtain ⟨e1, e2⟩ := hE5'.out.at_ hf
          obtain ⟨Wf, Af, cf, zf⟩ := f
          dsimp only at p0 p1 hRf hkf e1 e2
          subst e1
          rw [Nat.zero_add, Nat.mul_comm 2] at p0 p1
          have hzf := hfy.out zf (List.mem_of_getElem? e2)
          have hkzf := kT_of (t := textL m zf) (by have := textL_len hzf.1; omega)
          have htzf := Lib.hid (show textW (m : Int) zf = textL m zf by simp [textW, hzf.1])
          have hzfl : zf.length ≤ 6 := by omega
          obtain ⟨wk, hwk⟩ : ∃ wk, wk = bAdd (d0 + 1) (bfs m xs k) ((nbrs m z0).take j) := ⟨_, rfl⟩
          have hN := Lib.hid (show bAdd (d0 + 1) (bfs m xs k) ((nbrs m z0).take (j + 1)) = bAdd1 (d0 + 1) wk zf by rw [bAdd_take e2, hwk])
          have hwl := bAdd_len (d0 + 1) ((nbrs m z0).take j) (bfs m xs k)
          have hwl2 : ((nbrs m z0).take j).length ≤ 1600 := by
            have := hE5'.out.len
            simp; omega
          rw [← hwk] at hwl hF1
          have hokw : ∀ e ∈ wk, okB (m : Int) e.1 = true := by
            intro e he
            rw [hwk] at he
            rcases bAdd_mem he with he | he
            · exact (path_ok hk'.out ((bfs_inv m xs k).1.path _ he)).1
            · exact (hfy.out _ (List.mem_of_mem_take he)).1
          have hasv := has_seen hF1.map hokw hzf.1
          have hany := hF1.map.has (textL m zf)
          rw [hasv] at hany
          have hany' := Lib.hid hany
          have hki : (j : Int) < (fs.length : Int) := by omega
          have hki0 : (0 : Int) ≤ (j : Int) := by omega
          have hx6 := Blk.new wr 25 #[.int .i64 (m : Int), .slice Af zf.length cf]
          have hal := lo_alloc (Below.refl wr.heap.size wr) (.cells #[.int .i64 (m : Int), .slice Af zf.length cf] 25)
          have hF6 := hF1.next hal
          have hbR6 := hbR.next hal
          have hkR6 := Lib.hid (fun f hf => (hkR.out f hf).next hal)
          have hkf6 := hkf.next hal
          have hRf6 := hRf.next hal
          have hs6 := hal.size
          clear hf hwk e2 hany hokw hF1 hbR hkR hkf hRf hal hzf
          go_wp2_with fail
          refine (ImageText_c m Af zf.length cf zf _ hRf6 (by omega)).mono ?_
          rw [htzf.out]
          rintro e w7 ⟨rfl, hb7⟩
          have hx7 := hx6.next hb7
          have hF7 := hF6.next hb7
          have hbR7 := hbR6.next hb7
          have hkR7 := Lib.hid (fun f hf => (hkR6.out f hf).next hb7)
          have hkf7 := hkf6.next hb7
          have hRf7 := hRf6.next hb7
          have hs7 := hb7.size
          have x0 := hx7.cell 0
          have x1 := hx7.cell 1
          have hown7 := hF7.own
          have hszb : wr.heap.size + 1 ≤ w7.heap.size := by simp at hs7; omega
          clear p0 p1 hx6 hF6 hbR6 hkR6 hkf6 hRf6 hb7 hs7 hs6 hbl
          cases hs : seen wk zf with
          | true =>
            rw [hs] at hasv
            have hN2 := Lib.hid (show bAdd (d0 + 1) (bfs m xs k) ((nbrs m z0).take (j + 1)) = wk by rw [hN.out, bAdd1, hs, if_pos rfl])
            have hasv' := Lib.hid hasv
            clear hs hasv
            go_wp2_with (refine wpList_lookup_own_ok_int (H := Unit) _ (o := ⟨some 40, .lookup 38 (.tmp 37) (.tmp 39) true, _, _, _, _⟩) rfl _ _ 38 rfl 9 3 .i64 keyLaw Try.underlying38 Try.underlying3 (zeroInt _) (w.heap.size + 1) wk.length D1 rfl hown7 _ _ rfl hkzf ?_; intro cc hat hwc; rw [hasv'.out]; clear hat hwc)
            go_roundw
            case rel => exact ⟨j + 1, A1, c1, es1, D1, by omega, by go_num, rfl, by rw [hN2.out]; exact hF7, hbR7, hkR7, hgA, by omega⟩
            case measure => simp [intOf]; omega
          | false =>
            rw [hs] at hasv
            have hN2 := Lib.hid (show bAdd (d0 + 1) (bfs m xs k) ((nbrs m z0).take (j + 1)) = wk ++ [(zf, d0 + 1)] by rw [hN.out, bAdd1, hs, if_neg (by simp)])
            have hanyF := Lib.hid (show wk.any (fun e => textL m e.1 == textL m zf) = false by rw [← hany'.out, hs])
            have hasv' := Lib.hid hasv
            clear hs hasv
            go_wp2_with (refine wpList_lookup_own_ok_int (H := Unit) _ (o := ⟨some 40, .lookup 38 (.tmp 37) (.tmp 39) true, _, _, _, _⟩) rfl _ _ 38 rfl 9 3 .i64 keyLaw Try.underlying38 Try.underlying3 (zeroInt _) (w.heap.size + 1) wk.length D1 rfl hown7 _ _ rfl hkzf ?_; intro cc hat hwc; rw [hasv'.out]; clear hat hwc)
            refine (ImageText_c m Af zf.length cf zf w7 hRf7 (by omega)).mono ?_
            rw [htzf.out]
            rintro e w8 ⟨rfl, hb8⟩
            have hx8 := hx7.next hb8
            have hF8 := hF7.next hb8
            have hbR8 := hbR7.next hb8
            have hkR8 := Lib.hid (fun f hf => (hkR7.out f hf).next hb8)
            have hkf8 := hkf7.next hb8
            have hown8 := hF8.own
            have hs8 := hb8.size
            have hlow8 := hF8.low.size
            have hesl : es1.length + 1 ≤ 500000 := by
              have := hF8.els.len
              simp at this; omega
            have hkw : k ≤ wk.length := by omega
            have hwf : (Lit.int .i64 ((d0 : Int) + 1)).wf = true := WalkArith.wf_i64 (by omega)
            have x0 := hx8.cell 0
            have x1 := hx8.cell 1
            clear hx7 hF7 hbR7 hkR7 hkf7 hRf7 hown7 hb8
            go_wp2_with (first
              | (refine wpl_append_run (o := ⟨some 53, _, _, _, _, _⟩) rfl (.tmp 50) (.tmp 52) 55 rfl _ _ _ rfl rfl hap ?_)
              | (refine wpList_mapUpdate_own (H := Unit) _ (o := ⟨none, .mapUpdate 38 (.tmp 45) (.tmp 47) (.tmp 49), _, _, _, _⟩) rfl _ _ _ 38 rfl 9 3 keyLaw Try.underlying38 (plainElem Try.prog 3) (w.heap.size + 1) wk.length D1 rfl hown8 (by unfold maxLen; omega) _ (.int .i64 ((d0 : Int) + 1)) _ rfl rfl hkzf (.lit (.int .i64 ((d0 : Int) + 1))) [] (plainElem_int Try.underlying3 hwf) ?_; intro w9 hM9 hg9; have hx9 := hx8.grown hg9 (by intro e; injection e; omega); have y0 := hx9.cell 0; have y1 := hx9.cell 1; have hs9 := hg9.size
                 have hQ9 := (hF8.queue.grown hg9 (hF8.queue.ne_map hown8)).next (lo_alloc (Below.refl w9.heap.size w9) (.cells #[.int .i64 (m : Int), .slice Af zf.length cf] 25))
                 obtain ⟨A2, c2, w10, row, hap, hQ10, hg10, hrow, hA2⟩ := appendQ_run (w9.alloc (.cells #[.int .i64 (m : Int), .slice Af zf.length cf] 25)) w.heap.size A1 c1 es1.length es1 hQ9 w9.heap.size 1 ⟨(m : Int), Af, cf, zf⟩ (Blk.new w9 _ _) hesl (by simp; omega) 55))
            obtain ⟨hadd, hkk⟩ := FInv.add (d := d0 + 1) hF8 hkw rfl hM9 hg9 hQ10 hg10 (fun g e => ⟨(hrow g e).1, (hrow g e).2.2⟩) hanyF.out hkf8
            have hbR10 : BufI w10 w4.heap.size (some ⟨gR, 0, none⟩) cR fs := by
              refine ((hbR8.kept hg9 ?_).next (lo_alloc (Below.refl _ _) (.cells #[.int .i64 (m : Int), .slice Af zf.length cf] 25))).kept hg10 ?_
              · rintro q ⟨⟩ e
                injection e; omega
              · rintro q ⟨⟩ e
                obtain ⟨_, ⟨o1, h1⟩, _⟩ := hrow _ e
                have := hgA.out _ _ h1
                omega
            have hkR10 := Lib.hid (fun f hf => hkk f (hkR8.out f hf))
            have hs10 := hg10.size
            have hgA10 := Lib.hid (show ∀ g off, A2 = some (⟨g, off, none⟩ : Addr) → g < w4.heap.size ∨ w5.heap.size ≤ g from fun g1 o1 e => by
              rcases hA2 g1 o1 e with ⟨o2, h2⟩ | h2
              · exact hgA.out _ _ h2
              · simp at h2; omega)
            have hfin : w5.heap.size ≤ w10.heap.size := by simp at hs10; omega
            clear hap
            go_roundw
            case rel => exact ⟨j + 1, A2, c2, es1 ++ [⟨(m : Int), Af, cf, zf⟩], _, by omega, by go_num, by simp, by rw [hN2.out]; exact hadd, hbR10, hkR10, hgA10, hfin⟩
            case measure => simp [intOf]; omega
        · have hnj : (nbrs m z0).take j = nbrs m z0 := List.take_of_length_le (by rw [← hE5'.out.len]; omega)
          have hbk : bfs m xs (k + 1) = bAdd (d0 + 1) (bfs m xs k) (nbrs m z0) := by simp [bfs, hcur'.out]
          rw [hnj, ← hbk] at hF1
          have hwl := bAdd_len (d0 + 1) (nbrs m z0) (bfs m xs k)
          rw [← hbk] at hwl
          have hL' := bfs_len hk'.out (k + 1)
          rw [hr.1] at hL'
          have hms' := Lib.hid (show mapSz wr (w.heap.size + 1) = (bfs m xs (k + 1)).length from (mapSz_of hF1.own).trans hF1.map.size)
          clear hnj hbk
          have hlen1 := hF1.els.len
          simp only [List.length_map, List.length_drop] at hlen1
          cases es1 with
          | nil => exfalso; simp at hlen1; omega
          | cons e1 es2 =>
            rw [List.length_cons] at hlen1
            obtain ⟨g1, off1, rfl, hgl1, _, _⟩ := hF1.queue.first
            have hcap : es2.length + 1 ≤ c1 := by have := hF1.queue.2.1; simpa using this
            obtain ⟨t1, t2⟩ := hF1.queue.tail
            have hels : Els es2 (m : Int) (((bfs m xs (k + 1)).drop (k + 1)).map (·.1)) := by
              refine ⟨?_, fun e he => hF1.els.2 e (List.mem_cons_of_mem _ he)⟩
              have h1 := hF1.els.1
              rw [List.drop_eq_getElem_cons (by omega), List.map_cons, List.map_cons] at h1
              injection h1
            have hFn : ∀ off2 c2, Qu wr w.heap.size (some ⟨g1, off2, none⟩) es2.length c2 es2 → FInv w wr m (k + 1) (w.heap.size + 1) (some ⟨g1, off2, none⟩) c2 es2 D1 (bfs m xs (k + 1)) := fun off2 c2 hq =>
              ⟨hF1.low, hq, hels, fun e he => hF1.keep e (List.mem_cons_of_mem _ he), hF1.own, hF1.map, hF1.lo⟩
            have hFn' := Lib.hid hFn
            clear hels hFn
            have t2' := Lib.hid t2
            clear t2
            have hms0 := hms.out
            have hms1 := hms'.out
            have hlt2 : k + 1 ≤ (bfs m xs (k + 1)).length := by omega
            have hmeas : Hid (2 ^ (n * m) + ((bfs m xs (k + 1)).length - k - 1) - mapSz wr (w.heap.size + 1) < 2 ^ (n * m) + (es'.length + 1) - mapSz wo (w.heap.size + 1)) := Lib.hid (by
              rw [hms0, hms1]
              have h1 : (bfs m xs k).length ≤ 2 ^ (n * m) := by have := bfs_len hk'.out k; rwa [hr.1] at this
              generalize 2 ^ (n * m) = P at hL' h1 ⊢
              omega)
            clear hms0 hms1
            by_cases hc1 : c1 = 1
            · have hq := hFn'.out _ _ (by simpa using t2'.out hc1)
              have hv : Hid ((bfs m xs (k + 1)).length - k - 1 = es2.length ∧ c1 - 1 = 0) := Lib.hid ⟨by omega, by omega⟩
              have hq' := Lib.hid hq
              clear hq
              go_wp2
              exact ⟨⟨k + 1, _, c1 - 1, es2, D1, by rw [hv.out.1, hv.out.2], hq'.out, hlt2⟩, hmeas.out⟩
            · have hq := hFn'.out _ _ (by simpa using t1)
              have hv : Hid ((bfs m xs (k + 1)).length - k - 1 = es2.length) := Lib.hid (by omega)
              have hq' := Lib.hid hq
              clear hq t1
              go_wp2
              exact ⟨⟨k + 1, _, c1 - 1, es2, D1, by rw [hv.out], hq'.out, hlt2⟩, hmeas.out⟩
end Go.Proofs.Ytpoojghommfklaa

-- Walks: the number of an image.
namespace Go.Proofs.Ytpoojghommfklaa
open Go.RowKit
set_option maxRecDepth 100000

theorem keyN_drop {m : Nat} {xs : List Int} {k : Nat} (hk : k < xs.length) : keyN m (xs.drop k) = keyN m (xs.drop (k + 1)) * 2 ^ m + (xs[k]?.getD 0).toNat := by
  rw [List.drop_eq_getElem_cons hk, List.getElem?_eq_getElem hk]
  rfl
theorem keyN_nil (m : Nat) : keyN m [] = 0 := rfl

set_option maxHeartbeats 4000000 in
theorem l43Key_c (m n c : Nat) (A : Option Addr) (xs : List Int) (w : World) (hr : Rd w A n xs) (hk : okB (m : Int) xs = true) (hc : n * m ≤ 16) :
    Calls Try.prog 17 #[.agg #[.int .i64 (m : Int), .slice A n c]] w fun e w' => e = .returned (.int .i64 (keyN m xs : Nat)) ∧ Below w.heap.size w w' := by
  have hbd := okB_bd hk
  rw [hr.1] at hbd
  have hk' := Lib.hid hk; clear hk
  have hK0 := Blk.new w 25 #[.int .i64 (m : Int), .slice A n c]
  have hB0 := lo_alloc (Below.refl w.heap.size w) (.cells #[.int .i64 (m : Int), .slice A n c] 25)
  go_enter Try.func17, Try.ntmps17
  go_wp2
  go_loopw [3, 4] (fun q i wr => ∃ k : Nat, k ≤ n ∧ i = .int .i64 ((k : Int) - 1) ∧ q = .int .i64 ((keyN m (xs.drop k) : Nat) : Int) ∧ Below w.heap.size w wr ∧ Blk wr w.heap.size 25 #[.int .i64 (m : Int), .slice A n c]) (fun _ i _ => (intOf i + 1).toNat)
  case atStart => exact ⟨n, Nat.le_refl _, rfl, by rw [List.drop_eq_nil_of_le (by rw [hr.1]; exact Nat.le_refl _)]; rfl, hB0, hK0⟩
  case round =>
    clear hK0 hB0
    obtain ⟨k, hkn, rfl, rfl, hB, hK⟩ := hrel
    by_cases hlt : 1 ≤ k
    · obtain ⟨j, rfl⟩ : ∃ j, k = j + 1 := ⟨k - 1, by omega⟩
      have hj : j < xs.length := by rw [hr.1]; omega
      have hstep := Lib.hid (keyN_drop (m := m) hj)
      obtain ⟨r, hr1, hr2⟩ := okB_row hk'.out rfl (k := j) hj
      obtain ⟨b, off, rfl, hb, hc1⟩ := (hr.next hB).at_ (k := j) (by omega)
      rw [hr1] at hc1
      have hr1' := Lib.hid hr1
      have hkb : keyN m (xs.drop (j + 1)) < 2 ^ ((xs.drop (j + 1)).length * m) := keyN_lt (fun x hx => (okB_cells hk'.out x (List.mem_of_mem_drop hx)).2)
      have hkb2 : 2 ^ ((xs.drop (j + 1)).length * m) ≤ 2 ^ 16 := Nat.pow_le_pow_right (by omega) (by
        have h1 : (xs.drop (j + 1)).length ≤ n := by rw [List.length_drop, hr.1]; omega
        exact Nat.le_trans (Nat.mul_le_mul_right m h1) hc)
      have hpm : (2 : Nat) ^ m ≤ 2 ^ 6 := Nat.pow_le_pow_right (by omega) (by omega)
      have hpm2 := pow_bd (k := m) (by omega)
      have hpm3 : ((2 ^ m : Nat) : Int) = (2 : Int) ^ m := by simp
      generalize hv : keyN m (xs.drop (j + 1)) = v at hkb hstep
      have hv' := Lib.hid hv
      have hvm : v * 2 ^ m ≤ 65536 * 64 := Nat.mul_le_mul (by omega) (by omega)
      have hvm2 : (v : Int) * 2 ^ m = ((v * 2 ^ m : Nat) : Int) := by simp
      have w1 : IntKind.i64.wrap ((v : Int) * 2 ^ m) = (v : Int) * 2 ^ m := IntWalk.i64_in _ (by omega)
      have w2 : IntKind.i64.wrap ((v : Int) * 2 ^ m + r) = (v : Int) * 2 ^ m + r := IntWalk.i64_in _ (by omega)
      have a0 := hK.cell 0
      have a1 := hK.cell 1
      have hj0 : (0 : Int) ≤ (j : Int) := by omega
      have hj1 : (j : Int) < (n : Int) := by omega
      clear hr1 hv hpm3 hvm2 hkb
      have hm0 : (0 : Int) ≤ (m : Int) := by omega
      have hm1 : (m : Int) ≤ 60 := by omega
      go_wp2
      go_quiet ((go_at_call 29; exact Calls.quiet_of_same (still_of (l1Power_c (m : Int) _ hm0 hm1))))
      clear w1 w2 hj0 hj1
      go_wp2
      go_roundw
      case rel =>
        refine ⟨j, by omega, by go_num, ?_, below_drewN hB _, hK.drewN _⟩
        rw [hstep.out, hr1'.out]
        simp
      case measure => simp [intOf]
    · have hk0 : Hid (keyN m (xs.drop k) = keyN m xs) := Lib.hid (by rw [show k = 0 by omega]; rfl)
      go_wp2
      go_ret
      exact ⟨by rw [hk0.out]; rfl, hB⟩
end Go.Proofs.Ytpoojghommfklaa

-- Plain: the list of steps of the reference.
namespace Go.Proofs.Ytpoojghommfklaa

/-- the list tells for each image of wk its number, -1 elsewhere -/
def StepsIs (S : List Int) (m N : Nat) (wk : List (List Int × Nat)) : Prop :=
  S.length = N ∧ (∀ e ∈ wk, S[keyN m e.1]?.getD 0 = (e.2 : Int)) ∧ ∀ i, i < N → (∀ e ∈ wk, keyN m e.1 ≠ i) → S[i]?.getD 0 = -1
theorem StepsIs.start {m N : Nat} {xs : List Int} (hx : keyN m xs < N) : StepsIs ((List.replicate N (-1 : Int)).set (keyN m xs) 0) m N [(xs, 0)] := by
  refine ⟨by simp, fun e he => ?_, fun i hi h => ?_⟩
  · obtain rfl := List.mem_singleton.1 he
    rw [List.getElem?_set_self (by simpa using hx)]; rfl
  · have := h _ (List.mem_singleton.2 rfl)
    rw [List.getElem?_set_ne this, List.getElem?_replicate, if_pos hi]; rfl
theorem StepsIs.add {S : List Int} {m N : Nat} {wk : List (List Int × Nat)} (h : StepsIs S m N wk) {z : List Int} (d : Nat) (hz : keyN m z < N) (hn : ∀ e ∈ wk, keyN m e.1 ≠ keyN m z) : StepsIs (S.set (keyN m z) (d : Int)) m N (wk ++ [(z, d)]) := by
  refine ⟨by rw [List.length_set]; exact h.1, fun e he => ?_, fun i hi h2 => ?_⟩
  · rcases List.mem_append.1 he with he | he
    · rw [List.getElem?_set_ne (fun e2 => hn e he e2.symm)]
      exact h.2.1 e he
    · obtain rfl := List.mem_singleton.1 he
      rw [List.getElem?_set_self (by rw [h.1]; exact hz)]; rfl
  · have h3 := h2 (z, d) (by simp)
    rw [List.getElem?_set_ne h3]
    exact h.2.2 i hi (fun e he => h2 e (by simp [he]))
theorem keyN_bd {m : Nat} {xs : List Int} (h : okB (m : Int) xs = true) : keyN m xs < 2 ^ (xs.length * m) := keyN_lt (fun x hx => (okB_cells h x hx).2)
theorem seen_key {m n : Nat} {wk : List (List Int × Nat)} (hok : ∀ e ∈ wk, okB (m : Int) e.1 = true ∧ e.1.length = n) {z : List Int} (hz : okB (m : Int) z = true) (hl : z.length = n) (h : seen wk z = false) : ∀ e ∈ wk, keyN m e.1 ≠ keyN m z := by
  intro e he hk
  have := keyN_inj (by rw [(hok e he).2, hl]) (okB_cells (hok e he).1) (okB_cells hz) hk
  have h2 := seen_iff.2 ⟨e, he, this⟩
  rw [h] at h2; cases h2
theorem StepsIs.neg {S : List Int} {m n N : Nat} {wk : List (List Int × Nat)} (h : StepsIs S m N wk) (hok : ∀ e ∈ wk, okB (m : Int) e.1 = true ∧ e.1.length = n) {z : List Int} (hz : okB (m : Int) z = true) (hl : z.length = n) (hN : keyN m z < N) :
    decide (S[keyN m z]?.getD 0 < 0) = !seen wk z := by
  cases hs : seen wk z with
  | true =>
    obtain ⟨e, he, h1⟩ := seen_iff.1 hs
    have := h.2.1 e he
    rw [h1] at this
    rw [this]; simp
  | false =>
    rw [h.2.2 _ hN (seen_key hok hz hl hs)]; rfl
end Go.Proofs.Ytpoojghommfklaa

-- Walks: the reference's numbers of steps.
namespace Go.Proofs.Ytpoojghommfklaa
open Go.RowKit
set_option maxRecDepth 100000

theorem l1Power_n (n m : Nat) (w : World) (h : n * m ≤ 60) :
    Calls Try.prog 29 #[.int .i64 ((n : Int) * (m : Int))] w fun e w' => e = .returned (.int .i64 ((2 ^ (n * m) : Nat) : Int)) ∧ w = w' := by
  have e : (n : Int) * (m : Int) = ((n * m : Nat) : Int) := by simp
  rw [e]
  refine (l1Power_c ((n * m : Nat) : Int) w (by omega) (by omega)).mono ?_
  rintro e w' ⟨rfl, rfl⟩
  refine ⟨ret_int ?_, rfl⟩
  rw [Int.toNat_natCast]; simp

/-- what lies in memory while the reference searches -/
structure GInv (w wr : World) (m N g : Nat) (A : Option Addr) (c : Nat) (es : List El) (S : List Int) (wk : List (List Int × Nat)) : Prop where
  low : Below w.heap.size w wr
  buf : BufI wr w.heap.size A c es
  els : Els es (m : Int) (wk.map (·.1))
  keep : ∀ e ∈ es, Keep wr w.heap.size e
  steps : Own wr w.heap.size (some ⟨g, 0, none⟩) N S
  is_ : StepsIs S m N wk
  ne : ∀ e ∈ es, e.A ≠ some (⟨g, 0, none⟩ : Addr)
  lo : w.heap.size ≤ g
section
variable {w wr w' : World} {m N g c : Nat} {A : Option Addr} {es : List El} {S : List Int} {wk : List (List Int × Nat)}
theorem GInv.next (h : GInv w wr m N g A c es S wk) (hb : Below wr.heap.size wr w') : GInv w w' m N g A c es S wk :=
  ⟨lo_trans h.low hb, h.buf.next hb, h.els, fun e he => (h.keep e he).next hb, h.steps.next hb, h.is_, h.ne, h.lo⟩
theorem Keep.grownS {w w' : World} {base g : Nat} {e : El} (h : Keep w base e) (hne : e.A ≠ some (⟨g, 0, none⟩ : Addr)) (hg : w.grownBy w' (some g)) (hb : base ≤ g) : Keep w' base e := by
  refine ⟨h.1, ?_⟩
  rcases h.2 with ⟨h1, b, off, h2, h3, h4⟩ | h
  · have hkb : KB b w w' := KB.of_grown hg h4 (fun e => by injection e; omega)
    rw [h2] at h1 ⊢
    exact .inl ⟨h1.kb h4 hkb, b, off, rfl, h3, Nat.lt_of_lt_of_le h4 hg.size⟩
  · exact .inr (h.grown hg (fun q hq e => by cases e; exact hne hq))
theorem Own.blkAt {w : World} {lo g n : Nat} {xs : List Int} (h : Own w lo (some ⟨g, 0, none⟩) n xs) (hn : 0 < n) : ∃ cs, Blk w g 3 cs := by
  obtain ⟨g', cs, e, _, hb, _⟩ := h.2 hn
  cases e
  exact ⟨cs, hb⟩
theorem BufI.ne_int {w : World} {base c gS : Nat} {A : Option Addr} {es : List El} {cs : Array Value} (h : BufI w base A c es) (hb : Blk w gS 3 cs) : ∀ g, A = some ⟨g, 0, none⟩ → some gS ≠ some g := by
  rintro g rfl e
  cases e
  rcases h.form with ⟨e', _⟩ | ⟨g', cs', e', _, hb', _⟩
  · cases e'
  · cases e'
    exact not_int_img hb' _ hb
/-- a step is noted, then the image is put at the end of the work -/
theorem GInv.add {w w8 w10 : World} {m N g c c2 cf d : Nat} {dv : Int} (hdv : dv = (d : Int)) {A Af : Option Addr} {es : List El} {S : List Int} {wk : List (List Int × Nat)} {z : List Int} {bx : Obj} {gB : Nat} (hG : GInv w w8 m N g A c es S wk) (hz : keyN m z < N) (hn : ∀ e ∈ wk, keyN m e.1 ≠ keyN m z)
    (hB : BufI w10 w.heap.size (some ⟨gB, 0, none⟩) c2 (es ++ [⟨(m : Int), Af, cf, z⟩])) (hg10 : ((w8.setCell ⟨g, keyN m z, none⟩ (.int .i64 dv)).alloc bx).grownBy w10 (rowA A)) (hkp : Keep w8 w.heap.size ⟨(m : Int), Af, cf, z⟩) (hAf : Af ≠ some (⟨g, 0, none⟩ : Addr)) :
    GInv w w10 m N g (some ⟨gB, 0, none⟩) c2 (es ++ [⟨(m : Int), Af, cf, z⟩]) (S.set (keyN m z) (d : Int)) (wk ++ [(z, d)]) ∧ (∀ f : El, f.A ≠ some (⟨g, 0, none⟩ : Addr) → Keep w8 w.heap.size f → Keep w10 w.heap.size f) := by
  subst hdv
  obtain ⟨_, hzS, _, _, hset⟩ := hG.steps.cellSet (k := keyN m z) hz
  obtain ⟨cs, hcs⟩ := hG.steps.blkAt (by omega)
  have hs := hset (d : Int)
  have hgs : w8.grownBy (w8.setCell ⟨g, keyN m z, none⟩ (.int .i64 (d : Int))) (some g) := grown_set _
  have hbuf8 := hG.buf.kept hgs (hG.buf.ne_int hcs)
  have hbuf9 := hbuf8.next (lo_alloc (Below.refl _ _) bx)
  have hrowB : ∀ q, rowA A = some q → w.heap.size ≤ q ∧ q < ((w8.setCell ⟨g, keyN m z, none⟩ (.int .i64 (d : Int))).alloc bx).heap.size := rowA_lt hbuf9
  have hrowC : ∀ q, rowA A = some q → ∀ cs, ¬ Blk ((w8.setCell ⟨g, keyN m z, none⟩ (.int .i64 (d : Int))).alloc bx) q 3 cs := by
    intro q hq cs' hb'
    rcases hbuf9.form with ⟨rfl, _⟩ | ⟨g', cs2, rfl, _, hb2, _⟩
    · simp [rowA] at hq
    · simp [rowA] at hq
      subst hq
      exact not_int_img hb2 _ hb'
  have hkeep : ∀ f : El, f.A ≠ some (⟨g, 0, none⟩ : Addr) → Keep w8 w.heap.size f → Keep w10 w.heap.size f := fun f hne h =>
    ((h.grownS hne hgs hG.lo).next (lo_alloc (Below.refl _ _) bx)).grown hg10 (fun q hq => ⟨(hrowB q hq).1, hrowC q hq⟩)
  refine ⟨⟨?_, hB, ?_, ?_, ?_, hG.is_.add d hz hn, ?_, hG.lo⟩, hkeep⟩
  · exact lo_grown (lo_alloc (lo_grown hG.low hgs (by rintro q ⟨⟩; exact hG.lo)) bx) hg10 (fun q hq => (hrowB q hq).1)
  · rw [List.map_append]; exact hG.els.snoc _ _ _
  · intro e he
    rcases List.mem_append.1 he with he | he
    · exact hkeep e (hG.ne e he) (hG.keep e he)
    · obtain rfl := List.mem_singleton.1 he
      exact hkeep _ hAf hkp
  · refine (hs.alloc bx).grown hg10 (fun q hq hr => ?_)
    cases hq
    obtain ⟨cs3, h3⟩ := (hs.alloc bx).blkAt (by omega)
    exact hrowC _ hr cs3 h3
  · intro e he
    rcases List.mem_append.1 he with he | he
    · exact hG.ne e he
    · obtain rfl := List.mem_singleton.1 he
      exact hAf
end

set_option maxHeartbeats 8000000 in
theorem l43Steps_c (m n c : Nat) (A : Option Addr) (xs : List Int) (w : World) (hr : Rd w A n xs) (hk : okB (m : Int) xs = true) (hc : n * m ≤ 16) :
    Calls Try.prog 16 #[.agg #[.int .i64 (m : Int), .slice A n c]] w fun e w' => ∃ (g cc : Nat) (S : List Int), e = .returned (.tuple #[.slice (some ⟨g, 0, none⟩) (2 ^ (n * m)) cc, .int .i64 ((reach m xs).length : Int)]) ∧ Below w.heap.size w w' ∧
      Own w' w.heap.size (some ⟨g, 0, none⟩) (2 ^ (n * m)) S ∧ StepsIs S m (2 ^ (n * m)) (reach m xs) := by
  have hbd := okB_bd hk
  rw [hr.1] at hbd
  have hk' := Lib.hid hk
  have hkey := keyN_bd hk
  rw [hr.1] at hkey
  have hN16 : 2 ^ (n * m) ≤ 2 ^ 16 := Nat.pow_le_pow_right (by omega) hc
  obtain ⟨N, hN⟩ : ∃ N, N = 2 ^ (n * m) := ⟨_, rfl⟩
  rw [← hN] at hkey hN16 ⊢
  have hpow : ∀ w : World, Calls Try.prog 29 #[.int .i64 ((n : Int) * (m : Int))] w fun e w' => e = .returned (.int .i64 (N : Int)) ∧ w = w' := fun w => by
    rw [hN]; exact l1Power_n n m w (by omega)
  have hpow' := Lib.hid hpow
  have hN' := Lib.hid hN
  have hmul1 : (0 : Int) ≤ (n : Int) * (m : Int) := by
    have e : (n : Int) * (m : Int) = ((n * m : Nat) : Int) := by simp
    omega
  have hmul2 : (n : Int) * (m : Int) ≤ 16 := by
    have e : (n : Int) * (m : Int) = ((n * m : Nat) : Int) := by simp
    omega
  clear hk hN hpow
  have hK0 := (Blk.new w 25 #[.int .i64 (m : Int), .slice A n c]).alloc (.cells #[] 3)
  have hB0 := lo_alloc (lo_alloc (Below.refl w.heap.size w) (.cells #[.int .i64 (m : Int), .slice A n c] 25)) (.cells #[] 3)
  have hS0 : Buf ((w.alloc (.cells #[.int .i64 (m : Int), .slice A n c] 25)).alloc (.cells #[] 3)) (w.heap.size + 1) (some ⟨w.heap.size + 1, 0, none⟩) 0 [] := by
    have := Buf.lit (w.alloc (.cells #[.int .i64 (m : Int), .slice A n c] 25)) (w.heap.size + 1) [] (by simp) (Nat.zero_le _)
    simpa [ints] using this
  have hz0 : w.heap.size + 1 ≤ ((w.alloc (.cells #[.int .i64 (m : Int), .slice A n c] 25)).alloc (.cells #[] 3)).heap.size := by simp
  go_enter Try.func16, Try.ntmps16
  go_wp2
  go_loopw [4, 5] (fun v i wr => ∃ (k : Nat) (A' : Option Addr) (c' : Nat), k ≤ N ∧ i = .int .i64 k ∧ v = .slice A' k c' ∧ Buf wr (w.heap.size + 1) A' c' (List.replicate k (-1)) ∧ Below w.heap.size w wr ∧ Blk wr w.heap.size 25 #[.int .i64 (m : Int), .slice A n c] ∧ w.heap.size + 1 ≤ wr.heap.size) (fun _ i _ => N - (intOf i).toNat)
  case atStart => exact ⟨0, _, 0, Nat.zero_le _, rfl, rfl, hS0, hB0, hK0, hz0⟩
  case round =>
    clear hS0 hB0 hK0 hz0
    obtain ⟨k, A', c', hkN, rfl, rfl, hBf, hB, hK, hsz⟩ := hrel
    have a0 := hK.cell 0
    have a1 := hK.cell 1
    go_wp2_with fail
    refine (hpow'.out _).mono ?_
    rintro e w' ⟨rfl, rfl⟩
    by_cases hlt : k < N
    · have hB3 : Buf (wr.alloc (.cells #[.int .i64 (-1)] 3)) (w.heap.size + 1) A' c' (List.replicate k (-1)) := hBf.next (by (repeat (first | exact Below.refl _ _ | assumption | refine lo_alloc ?_ _ | refine lo_set ?_ (by simp; try omega) _ | refine Below.drew ?_ | refine below_drewN ?_ _ | refine lo_trans ?_ (by assumption) | refine lo_wr ?_ (by assumption) (by omega))))
      have hW3 : Below w.heap.size w (wr.alloc (.cells #[.int .i64 (-1)] 3)) := lo_alloc hB _
      have hK3 := hK.alloc (.cells #[.int .i64 (-1)] 3)
      have hs3 : w.heap.size + 1 ≤ (wr.alloc (.cells #[.int .i64 (-1)] 3)).heap.size := by simp; omega
      have hrd : Rd (wr.alloc (.cells (ints [-1]) 3)) (some ⟨wr.heap.size, 0, none⟩) 1 [-1] := Rd.of_blk (Blk.new _ _ _)
      have hlen : Hid (k = (List.replicate k (-1 : Int)).length) := Lib.hid (by simp)
      have hsn : Hid (List.replicate k (-1 : Int) ++ [-1] = List.replicate (k + 1) (-1)) := Lib.hid (by rw [List.replicate_succ']) 
      have hBk := rowA_ge hB3
      clear hBf hB hK a0 a1
      go_wp2_with (at_builtin; refine (wpl_append rfl _ _ rfl (w.heap.size + 1) A' c' k _ rfl hlen.out hB3 _ 1 1 [-1] rfl hrd (by omega) (by omega) hs3 ?_); intro g c4 w4 hB4 hg4 hat)
      rw [hsn.out] at hB4
      go_roundw
      case rel => exact ⟨k + 1, _, c4, by omega, by go_num, rfl, hB4, lo_grown hW3 hg4 (fun g hg => by have := hBk g hg; omega), hK3.grown hg4 (fun e => by have := hBk _ e.symm; omega), Nat.le_trans hs3 hg4.size⟩
      case measure => simp [intOf]; omega
    · have hkN' : N = k := by omega
      subst hkN'
      have hOw := hBf.own
      rw [List.length_replicate] at hOw
      obtain ⟨gS, rfl⟩ : ∃ g, A' = some ⟨g, 0, none⟩ := by
        obtain ⟨g, e, _, _⟩ := (hOw.blk).resolve_left (fun h => by omega)
        exact ⟨g, e⟩
      have hRr := hr.next hB
      clear hBf
      go_wp2_with fail
      refine (l43Key_c m n c A xs wr hRr hk'.out hc).mono ?_
      rintro e w1 ⟨rfl, hb1⟩
      have hO1 := hOw.next hb1
      have hK1 := hK.next hb1
      have hB1 := lo_trans hB hb1
      have hsz1 : w.heap.size + 1 ≤ w1.heap.size := Nat.le_trans hsz hb1.size
      clear hOw hK hB hRr hb1 a0 a1 hsz
      obtain ⟨hgS, hzS, hcS, hfS, hset⟩ := hO1.cellSet (k := keyN m xs) hkey
      have hset' := Lib.hid (hset 0)
      have a0 := hK1.cell 0
      have a1 := hK1.cell 1
      have hSI := Lib.hid (StepsIs.start (m := m) (xs := xs) hkey)
      have hq0 : (0 : Int) ≤ ((keyN m xs : Nat) : Int) := by omega
      have hq1 : ((keyN m xs : Nat) : Int) < (N : Int) := by omega
      have hneb : w.heap.size ≠ gS := by omega
      have hK2 := hK1.far (p := ⟨gS, keyN m xs, none⟩) hneb (.int .i64 0)
      have hB2 := lo_set hB1 (p := ⟨gS, keyN m xs, none⟩) (by simp; omega) (.int .i64 0)
      have b0 := hK2.cell 0
      have b1 := hK2.cell 1
      clear hset hO1 hK1
      go_wp2
      have hG0 : GInv w ((w1.setCell ⟨gS, keyN m xs, none⟩ (.int .i64 0)).alloc (.cells #[.int .i64 (m : Int), .slice A n c] 25)) m N gS (some ⟨w1.heap.size, 0, none⟩) 1 [⟨(m : Int), A, c, xs⟩] ((List.replicate N (-1 : Int)).set (keyN m xs) 0) (bfs m xs 0) := by
        obtain ⟨b, off, eA, hbA, _⟩ := hr.2 (by omega)
        have hlow := lo_alloc hB2 (.cells #[.int .i64 (m : Int), .slice A n c] 25)
        refine ⟨hlow, ?_, ⟨rfl, fun e he => by obtain rfl := List.mem_singleton.1 he; rfl⟩, fun e he => ?_, (hset'.out.alloc _).mono (by omega), hSI.out, fun e he => ?_, by omega⟩
        · refine ⟨rfl, .inr ⟨w1.heap.size, 1, #[.int .i64 (m : Int), .slice A n c], rfl, by omega, ?_, Nat.le_refl _, by unfold maxLen; omega, rfl, ?_⟩⟩
          · have := Blk.new (w1.setCell ⟨gS, keyN m xs, none⟩ (.int .i64 0)) 25 #[.int .i64 (m : Int), .slice A n c]
            rw [size_setCell] at this; exact this
          · simp [elCells, El.cells, hr.1]
        · obtain rfl := List.mem_singleton.1 he
          exact ⟨by show 0 < xs.length; rw [hr.1]; omega, .inl ⟨by show Rd _ A xs.length xs; rw [hr.1]; exact hr.next hlow, b, off, eA, hbA, Nat.lt_of_lt_of_le hbA hlow.size⟩⟩
        · obtain rfl := List.mem_singleton.1 he
          show A ≠ _
          rw [eA]; intro e; cases e; omega
      clear hB2 hK2 b0 b1 a0 a1 hset' hcS hfS hzS hB1 hq0 hq1
      go_loopw [6, 7] (fun v i wr => ∃ (k : Nat) (A' : Option Addr) (c' : Nat) (es : List El) (S : List Int), k ≤ (bfs m xs k).length ∧ i = .int .i64 k ∧ v = .slice A' es.length c' ∧ GInv w wr m N gS A' c' es S (bfs m xs k)) (fun _ i _ => N - (intOf i).toNat)
      case atStart => exact ⟨0, _, 1, [⟨(m : Int), A, c, xs⟩], _, Nat.zero_le _, rfl, rfl, hG0⟩
      case round =>
        clear hG0
        obtain ⟨k, A', c', es, S, hkL, rfl, rfl, hG⟩ := hrel
        have hel : es.length = (bfs m xs k).length := by rw [hG.els.len, List.length_map]
        have hLN : (bfs m xs k).length ≤ N := by rw [hN'.out, ← hr.1]; exact bfs_len hk'.out k
        by_cases hlt : k < es.length
        · obtain ⟨e0, he0⟩ : ∃ e, es[k]? = some e := ⟨es[k], List.getElem?_eq_getElem hlt⟩
          obtain ⟨e1, e2⟩ := hG.els.at_ he0
          obtain ⟨⟨z0, d0⟩, hcur, hx0⟩ : ∃ e, (bfs m xs k)[k]? = some e ∧ e.1 = e0.xs := by
            rw [List.getElem?_map, Option.map_eq_some_iff] at e2
            exact e2
          obtain ⟨gW, rfl⟩ := hG.buf.addr.resolve_left (by
            rintro rfl
            rcases hG.buf.form with ⟨_, h0⟩ | ⟨_, _, e', _⟩
            · rw [h0] at hlt; simp at hlt
            · cases e')
          obtain ⟨bW, oW, eW, hbl, p0, p1, hRz⟩ := (hG.buf.rd (fun e he => (hG.keep e he).rd)).at_ hlt he0
          cases eW
          obtain ⟨W0, A0, c0, x0⟩ := e0
          dsimp only at hx0 e1 e2 p0 p1 hRz
          subst hx0; subst e1
          rw [Nat.zero_add, Nat.mul_comm 2] at p0 p1
          have hmem : (z0, d0) ∈ bfs m xs k := List.mem_of_getElem? hcur
          have hok := path_ok hk'.out ((bfs_inv m xs k).1.path _ hmem)
          have hzl : z0.length = n := hok.2.trans hr.1
          have hok' := Lib.hid hok.1
          have hd0 : d0 ≤ k := bfs_dist m xs k _ hmem
          have hcur' := Lib.hid hcur
          have hzl' := Lib.hid hzl
          have hmem' := Lib.hid hmem
          have he0' := Lib.hid he0
          have hel' := Lib.hid hel
          have hki : (k : Int) < (es.length : Int) := by omega
          have hki0 : (0 : Int) ≤ (k : Int) := by omega
          have hzl2 : z0.length ≤ 6 := by omega
          have hkN : k < N := by omega
          have hesN : es.length ≤ N := by omega
          clear hmem hok hcur hzl he0 e2 hel
          go_wp2_with fail
          refine (spec_ImageNeighbors_c (m : Int) A0 z0.length c0 z0 wr hRz (by omega)).mono ?_
          rintro e w5 ⟨R, cR, fs, rfl, hb5, hI5, hE5⟩
          have hnW : nbrsW (m : Int) z0 = nbrs m z0 := by simp [nbrsW, hok'.out]
          rw [hnW] at hE5
          have hE5' := Lib.hid hE5
          have hfl : fs.length < 1600 := by rw [hE5.len, ← hnW]; exact nbrsW_len _ _
          have hfy := Lib.hid (show ∀ z ∈ nbrs m z0, okB (m : Int) z = true ∧ z.length = n from fun z hz => by have := nbrs_ok hok'.out hz; exact ⟨this.1, by rw [this.2]; exact hzl'.out⟩)
          have hG5 := hG.next hb5
          have h45 : wr.heap.size ≤ w5.heap.size := hb5.size
          have hlow4 := hG.low.size
          have hgS4 : gS < wr.heap.size := (hG.steps.cellSet (k := 0) (by omega)).2.1
          have hbufR := hI5.buf
          have hgR := hI5.buf.lt
          have hkeepR : ∀ f ∈ fs, Keep w5 w.heap.size f := fun f hf => ⟨(hI5.rows f hf).2, .inr ((hI5.rows f hf).1.mono hlow4)⟩
          have hneR : Hid (∀ f ∈ fs, f.A ≠ some (⟨gS, 0, none⟩ : Addr)) := Lib.hid (fun f hf e => by
            obtain ⟨q, eq, h1, h2⟩ := ((hI5.rows f hf).1.blk).resolve_left (fun h => by have := (hI5.rows f hf).2; omega)
            rw [e] at eq; cases eq; omega)
          clear p0 p1 hRz hG hb5 hI5 hE5 hnW
          obtain ⟨wo, rfl⟩ : ∃ wo : World, wo = wr := ⟨_, rfl⟩
          go_wp2
          go_loopw [6, 9] (fun v i wr => ∃ (j : Nat) (A' : Option Addr) (c' : Nat) (es : List El) (S : List Int), j ≤ fs.length ∧ i = .int .i64 j ∧ v = .slice A' es.length c' ∧ GInv w wr m N gS A' c' es S (bAdd (d0 + 1) (bfs m xs k) ((nbrs m z0).take j)) ∧ Hid (es[k]? = some ⟨(m : Int), A0, c0, z0⟩) ∧
              BufI wr wo.heap.size R cR fs ∧ Hid (∀ f ∈ fs, Keep wr w.heap.size f) ∧ Hid (∀ g, A' = some (⟨g, 0, none⟩ : Addr) → g < wo.heap.size ∨ w5.heap.size ≤ g) ∧ w5.heap.size ≤ wr.heap.size) (fun _ i _ => fs.length - (intOf i).toNat)
          case atStart => exact ⟨0, _, _, es, S, Nat.zero_le _, rfl, rfl, hG5, he0', hbufR, Lib.hid hkeepR, Lib.hid (by rintro g ⟨⟩; exact .inl hbl), Nat.le_refl _⟩
          case round =>
            clear hG5 hbufR hkeepR
            obtain ⟨j, A1, c1, es1, S1, hj, rfl, rfl, hG1, hek, hbR, hkR, hgA, hsz5⟩ := hrel
            by_cases hlt2 : j < fs.length
            · obtain ⟨f, hf⟩ : ∃ f, fs[j]? = some f := ⟨fs[j], List.getElem?_eq_getElem hlt2⟩
              obtain ⟨gR, rfl⟩ := hbR.addr.resolve_left (by
                rintro rfl
                rcases hbR.form with ⟨_, h0⟩ | ⟨_, _, e', _⟩
                · rw [h0] at hlt2; simp at hlt2
                · cases e')
              have hgR' := hgR gR rfl
              have hmf := List.mem_of_getElem? hf
              have hkf := hkR.out f hmf
              have hnef := Lib.hid (hneR.out f hmf)
              obtain ⟨e1, e2⟩ := hE5'.out.at_ hf
              obtain ⟨bR, oR, eR, hbl2, p0, p1, hRf⟩ := (hbR.rd (fun e he => (hkR.out e he).rd)).at_ hlt2 hf
              cases eR
              have hgW := hG1.buf.addr.resolve_left (by
                rintro rfl
                rcases hG1.buf.form with ⟨_, h0⟩ | ⟨_, _, e', _⟩
                · have h1 := hek.out; rw [h0] at h1; simp at h1
                · cases e')
              obtain ⟨gW1, rfl⟩ := hgW
              have hkl : k < es1.length := (List.getElem?_eq_some_iff.1 hek.out).1
              obtain ⟨bW1, oW1, eW1, hbl3, q0, q1, hRz⟩ := (hG1.buf.rd (fun e he => (hG1.keep e he).rd)).at_ hkl hek.out
              cases eW1
              obtain ⟨Wf, Af, cf, zf⟩ := f
              dsimp only at e1 e2 p0 p1 hRf q0 q1 hRz
              subst e1
              rw [Nat.zero_add, Nat.mul_comm 2] at p0 p1 q0 q1
              have hzf := hfy.out zf (List.mem_of_getElem? e2)
              have hzfm : zf.length * m ≤ 16 := by rw [hzf.2]; exact hc
              have hz0m : z0.length * m ≤ 16 := by rw [hzl'.out]; exact hc
              obtain ⟨wk, hwk⟩ : ∃ wk, wk = bAdd (d0 + 1) (bfs m xs k) ((nbrs m z0).take j) := ⟨_, rfl⟩
              have hN2 := Lib.hid (show bAdd (d0 + 1) (bfs m xs k) ((nbrs m z0).take (j + 1)) = bAdd1 (d0 + 1) wk zf by rw [bAdd_take e2, hwk])
              rw [← hwk] at hG1
              have hokw : ∀ e ∈ wk, okB (m : Int) e.1 = true ∧ e.1.length = n := by
                intro e he
                rw [hwk] at he
                rcases bAdd_mem he with he | he
                · have := path_ok hk'.out ((bfs_inv m xs k).1.path _ he)
                  exact ⟨this.1, this.2.trans hr.1⟩
                · exact hfy.out _ (List.mem_of_mem_take he)
              have hkeyf : keyN m zf < N := by rw [hN'.out, ← hzf.2]; exact keyN_bd hzf.1
              have hkey0 : keyN m z0 < N := by rw [hN'.out, ← hzl'.out]; exact keyN_bd hok'.out
              have hneg := hG1.is_.neg hokw hzf.1 hzf.2 hkeyf
              have hz0w : (z0, d0) ∈ wk := by
                rw [hwk]
                have : ∀ (zs : List (List Int)) (u : List (List Int × Nat)), (z0, d0) ∈ u → (z0, d0) ∈ bAdd (d0 + 1) u zs := by
                  intro zs
                  induction zs with
                  | nil => intro u h; exact h
                  | cons z zs ih =>
                    intro u h
                    refine ih (bAdd1 (d0 + 1) u z) ?_
                    unfold bAdd1
                    split
                    · exact h
                    · exact List.mem_append_left _ h
                exact this _ _ hmem'.out
              have hsv0 := hG1.is_.2.1 _ hz0w
              dsimp only at hsv0
              have hun := Lib.hid (fun h => seen_key hokw hzf.1 hzf.2 h)
              have hji : (j : Int) < (fs.length : Int) := by omega
              have hji0 : (0 : Int) ≤ (j : Int) := by omega
              have hkel : (k : Int) < (es1.length : Int) := by omega
              have hkf0 : (0 : Int) ≤ ((keyN m zf : Nat) : Int) := by omega
              have hkf1 : ((keyN m zf : Nat) : Int) < (N : Int) := by omega
              have hk00 : (0 : Int) ≤ ((keyN m z0 : Nat) : Int) := by omega
              have hk01 : ((keyN m z0 : Nat) : Int) < (N : Int) := by omega
              have hokf := Lib.hid hzf.1
              have hes1 : es1.length + 1 ≤ 1048576 := by
                have h1 := hG1.els.len
                have h2 := bAdd_len (d0 + 1) ((nbrs m z0).take j) (bfs m xs k)
                rw [← hwk] at h2
                have h3 : ((nbrs m z0).take j).length ≤ 1600 := by
                  have := hE5'.out.len
                  simp; omega
                rw [List.length_map] at h1
                omega
              have hz0w' := Lib.hid hz0w
              clear hf hmf hwk e2 hokw hzf hz0w
              go_wp2_with fail
              refine (l43Key_c m zf.length cf Af zf wr hRf hokf.out hzfm).mono ?_
              rintro e w7 ⟨rfl, hb7⟩
              have hG7 := hG1.next hb7
              have hs7 := hb7.size
              have hbR7 := hbR.next hb7
              have hkR7 := Lib.hid (fun f hf => (hkR.out f hf).next hb7)
              have hkf7 := hkf.next hb7
              have hRf7 := hRf.next hb7
              have hRz7 := hRz.next hb7
              have p0' := (hb7.cell (p := ⟨gR, j * 2, none⟩) hbl2).trans p0
              have p1' := (hb7.cell (p := ⟨gR, j * 2 + 1, none⟩) hbl2).trans p1
              have q0' := (hb7.cell (p := ⟨gW1, k * 2, none⟩) hbl3).trans q0
              have q1' := (hb7.cell (p := ⟨gW1, k * 2 + 1, none⟩) hbl3).trans q1
              have lR : gR < w7.heap.size := by omega
              have lW : gW1 < w7.heap.size := by omega
              obtain ⟨_, hzS, hcS, hfS, _⟩ := hG7.steps.cellSet (k := keyN m zf) hkeyf
              obtain ⟨_, _, hc0, _, _⟩ := hG7.steps.cellSet (k := keyN m z0) hkey0
              rw [hsv0] at hc0
              clear p0 p1 q0 q1 hG1 hbR hkR hkf hRf hRz hb7 hbl2 hbl3 hsv0
              generalize S1[keyN m zf]?.getD 0 = sv at hcS hneg
              cases hs : seen wk zf with
              | true =>
                have hnn : ¬ (sv < 0) := by rw [hs] at hneg; simpa using hneg
                have hN3 := Lib.hid (show bAdd (d0 + 1) (bfs m xs k) ((nbrs m z0).take (j + 1)) = wk by rw [hN2.out, bAdd1, hs, if_pos rfl])
                clear hs hneg
                go_wp2
                go_roundw
                case rel => exact ⟨j + 1, _, c1, es1, S1, by omega, by go_num, rfl, by rw [hN3.out]; exact hG7, hek, hbR7, hkR7, hgA, by omega⟩
                case measure => simp [intOf]; omega
              | false =>
                have hnn : sv < 0 := by rw [hs] at hneg; simpa using hneg
                have hN3 := Lib.hid (show bAdd (d0 + 1) (bfs m xs k) ((nbrs m z0).take (j + 1)) = wk ++ [(zf, d0 + 1)] by rw [hN2.out, bAdd1, hs, if_neg (by simp)])
                have hun2 := Lib.hid (hun.out hs)
                have hkne : keyN m z0 ≠ keyN m zf := hun2.out _ hz0w'.out
                obtain ⟨csS, hcsS⟩ := hG7.steps.blkAt (by omega)
                have hneR2 : gR ≠ gS := fun e => hbR7.ne_int hcsS gR rfl (by rw [e])
                have hneW2 : gW1 ≠ gS := fun e => hG7.buf.ne_int hcsS gW1 rfl (by rw [e])
                have hneR3 := Lib.hid hneR2; have hneW3 := Lib.hid hneW2; have hkne2 := Lib.hid hkne
                have hnA := Lib.hid (show ∀ o, (⟨gS, keyN m zf, none⟩ : Addr) ≠ ⟨gR, o, none⟩ from fun o e => hneR2 (congrArg Addr.block e).symm)
                have hnB := Lib.hid (show ∀ o, (⟨gS, keyN m zf, none⟩ : Addr) ≠ ⟨gW1, o, none⟩ from fun o e => hneW2 (congrArg Addr.block e).symm)
                have hnC := Lib.hid (show (⟨gS, keyN m zf, none⟩ : Addr) ≠ ⟨gS, keyN m z0, none⟩ from fun e => hkne (congrArg Addr.off e).symm)
                have hcsS3 := Lib.hid hcsS
                have wr1 : IntKind.i64.wrap ((d0 : Int) + 1) = (d0 : Int) + 1 := IntWalk.i64_in _ (by omega)
                clear hneR2 hneW2 hkne hcsS
                clear hs hneg
                go_wp2
                go_region_held3 (fun w' => w'.cell? ⟨gR, j * 2, none⟩ = some (.int .i64 (m : Int)) ∧ w'.cell? ⟨gR, j * 2 + 1, none⟩ = some (.slice Af zf.length cf) ∧ w'.cell? ⟨gW1, k * 2, none⟩ = some (.int .i64 (m : Int)) ∧ w'.cell? ⟨gW1, k * 2 + 1, none⟩ = some (.slice A0 z0.length c0) ∧
                    w'.cell? ⟨gS, keyN m z0, none⟩ = some (.int .i64 (d0 : Int)))
                  (first
                    | go_keep
                    | exact ⟨(Below.cell (p := ⟨gR, j * 2, none⟩) hbL2 lR).trans p0', (Below.cell (p := ⟨gR, j * 2 + 1, none⟩) hbL2 lR).trans p1', (Below.cell (p := ⟨gW1, k * 2, none⟩) hbL2 lW).trans q0', (Below.cell (p := ⟨gW1, k * 2 + 1, none⟩) hbL2 lW).trans q1', (Below.cell (p := ⟨gS, keyN m z0, none⟩) hbL2 hzS).trans hc0⟩
                    | exact ⟨(Below.cell (p := ⟨gR, j * 2, none⟩) hbL lR).trans p0', (Below.cell (p := ⟨gR, j * 2 + 1, none⟩) hbL lR).trans p1', (Below.cell (p := ⟨gW1, k * 2, none⟩) hbL lW).trans q0', (Below.cell (p := ⟨gW1, k * 2 + 1, none⟩) hbL lW).trans q1', (Below.cell (p := ⟨gS, keyN m z0, none⟩) hbL hzS).trans hc0⟩
                    | exact ⟨(World.cell?_setCell_other _ _ _ _ (hnA.out _)).trans ((Below.cell (p := ⟨gR, j * 2, none⟩) hbL2 lR).trans p0'), (World.cell?_setCell_other _ _ _ _ (hnA.out _)).trans ((Below.cell (p := ⟨gR, j * 2 + 1, none⟩) hbL2 lR).trans p1'), (World.cell?_setCell_other _ _ _ _ (hnB.out _)).trans ((Below.cell (p := ⟨gW1, k * 2, none⟩) hbL2 lW).trans q0'), (World.cell?_setCell_other _ _ _ _ (hnB.out _)).trans ((Below.cell (p := ⟨gW1, k * 2 + 1, none⟩) hbL2 lW).trans q1'), (World.cell?_setCell_other _ _ _ _ hnC.out).trans ((Below.cell (p := ⟨gS, keyN m z0, none⟩) hbL2 hzS).trans hc0)⟩)
                  (first
                    | (have hz1 := hbz
                       go_at_call 17
                       refine (l43Key_c m z0.length c0 A0 z0 _ (hRz7.next hbL) hok'.out hz0m).mono ?_
                       rintro e wy ⟨rfl, hby⟩
                       have hbL2 : Below w7.heap.size w7 wy := lo_trans hbL hby
                       have cL := (hbL2.cell (p := ⟨gS, keyN m zf, none⟩) hzS).trans hcS
                       have fL := (hbL2.frozen (p := ⟨gS, keyN m zf, none⟩) hzS).trans hfS)
                    | (go_at_call 17
                       refine (l43Key_c m zf.length cf Af zf _ hRf7.drew hokf.out hzfm).mono ?_
                       rintro e wz ⟨rfl, hbz⟩
                       have hbL : Below w7.heap.size w7 wz := lo_trans (Below.drew (Below.refl w7.heap.size w7)) hbz))
                have hG9 := hG7.next hbL2
                have hkf9 := hkf7.next hbL2
                have hd1 := Lib.hid (show (d0 : Int) + 1 = ((d0 + 1 : Nat) : Int) by omega)
                obtain ⟨csY, hcsY⟩ := hG9.steps.blkAt (by omega)
                have hgs9 : wy.grownBy (wy.setCell ⟨gS, keyN m zf, none⟩ (.int .i64 ((d0 : Int) + 1))) (some gS) := grown_set _
                have hbuf9 := (hG9.buf.kept hgs9 (hG9.buf.ne_int hcsY)).next (lo_alloc (Below.refl _ _) (.cells #[.int .i64 (m : Int), .slice Af zf.length cf] 25))
                have hbR9 := ((hbR7.next hbL2).kept hgs9 ((hbR7.next hbL2).ne_int hcsY)).next (lo_alloc (Below.refl _ _) (.cells #[.int .i64 (m : Int), .slice Af zf.length cf] 25))
                have hsy := hbL2.size
                have hblk9 := Blk.new (wy.setCell ⟨gS, keyN m zf, none⟩ (.int .i64 ((d0 : Int) + 1))) 25 #[.int .i64 (m : Int), .slice Af zf.length cf]
                rw [size_setCell] at hblk9
                obtain ⟨gB, c2, w10, hap, hB10, hg10, hat⟩ := appendI_run ((wy.setCell ⟨gS, keyN m zf, none⟩ (.int .i64 ((d0 : Int) + 1))).alloc (.cells #[.int .i64 (m : Int), .slice Af zf.length cf] 25)) w.heap.size (some ⟨gW1, 0, none⟩) c1 es1.length es1 rfl hbuf9 wy.heap.size 1 ⟨(m : Int), Af, cf, zf⟩ hblk9 hes1 (by simp; omega) 55
                have hbR10 : BufI w10 wo.heap.size (some ⟨gR, 0, none⟩) cR fs := hbR9.kept hg10 (by
                  rintro q ⟨⟩ e
                  simp [rowA] at e
                  have := hgA.out _ rfl
                  omega)
                obtain ⟨hadd, hkk⟩ := GInv.add (d := d0 + 1) hd1.out hG9 hkeyf hun2.out hB10 hg10 hkf9 hnef.out
                have hkR10 := Lib.hid (fun f hf => hkk f (hneR.out f hf) ((hkR7.out f hf).next hbL2))
                have hs10 := hg10.size
                have hgA10 := Lib.hid (show ∀ g, some (⟨gB, 0, none⟩ : Addr) = some (⟨g, 0, none⟩ : Addr) → g < wo.heap.size ∨ w5.heap.size ≤ g from fun g1 e => by
                  rcases hat with h2 | h2
                  · rw [e] at h2; exact hgA.out _ h2
                  · cases e; simp at h2; omega)
                have hfin : w5.heap.size ≤ w10.heap.size := by simp at hs10; omega
                have hek10 := Lib.hid (show (es1 ++ [(⟨(m : Int), Af, cf, zf⟩ : El)])[k]? = some ⟨(m : Int), A0, c0, z0⟩ by rw [List.getElem?_append_left (by omega)]; exact hek.out)
                have r0 := (World.cell?_setCell_other _ _ _ (.int .i64 ((d0 : Int) + 1)) (hnA.out (j * 2))).trans ((Below.cell (p := ⟨gR, j * 2, none⟩) hbL2 lR).trans p0')
                have r1 := (World.cell?_setCell_other _ _ _ (.int .i64 ((d0 : Int) + 1)) (hnA.out (j * 2 + 1))).trans ((Below.cell (p := ⟨gR, j * 2 + 1, none⟩) hbL2 lR).trans p1')
                clear p0' p1' q0' q1' hc0 hcS hfS cL fL hbL2 hbuf9 hbR9 hkf7 hRf7 hRz7 hbR7 hkR7 hG7 hG9 hkf9 hblk9 hcsY hs10
                go_wp2_with (refine wpl_append_run (o := ⟨some 79, _, _, _, _, _⟩) rfl (.tmp 73) (.tmp 78) 55 rfl _ _ _ rfl rfl hap ?_)
                go_roundw
                case rel => exact ⟨j + 1, _, c2, es1 ++ [⟨(m : Int), Af, cf, zf⟩], _, by omega, by go_num, by simp, by rw [hN3.out]; exact hadd, hek10, hbR10, hkR10, hgA10, hfin⟩
                case measure => simp [intOf]; omega
            · have hnj : (nbrs m z0).take j = nbrs m z0 := List.take_of_length_le (by rw [← hE5'.out.len]; omega)
              have hbk : bfs m xs (k + 1) = bAdd (d0 + 1) (bfs m xs k) (nbrs m z0) := by simp [bfs, hcur'.out]
              rw [hnj, ← hbk] at hG1
              have hwl := bAdd_len (d0 + 1) (nbrs m z0) (bfs m xs k)
              rw [← hbk] at hwl
              have hk2 : k + 1 ≤ (bfs m xs (k + 1)).length := by have := hel'.out; omega
              clear hnj hbk
              go_wp2
              go_roundw
              case rel => exact ⟨k + 1, A1, c1, es1, S1, hk2, by go_num, rfl, hG1⟩
              case measure => simp [intOf]; omega
        · have hdone : Hid (bfs m xs k = reach m xs ∧ es.length = (reach m xs).length) := Lib.hid (by
            have h1 := reach_eq hk'.out (k := k) (by omega)
            exact ⟨h1, by rw [← h1]; exact hel⟩)
          clear hel
          go_wp2
          go_ret2
          refine ⟨gS, _, S, by rw [hdone.out.2]; rfl, hG.low, hG.steps, ?_⟩
          rw [← hdone.out.1]
          exact hG.is_
end Go.Proofs.Ytpoojghommfklaa
