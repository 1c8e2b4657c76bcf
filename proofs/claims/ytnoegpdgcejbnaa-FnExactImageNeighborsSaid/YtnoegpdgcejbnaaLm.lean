/- Walks: slices of images marked, held. -/
import Derived.Test.YtnoegpdgcejbnaaLs
namespace Go.Proofs.Ytnoegpdgcejbnaa
open Go.RowKit
set_option maxRecDepth 100000

def El.mark (e : El) (k : Int) : El := ⟨k, e.A, e.c, iota (k + 1) e.xs.length⟩
def mkE : Int → List El → Int
  | k, [] => k
  | k, e :: es => mkE (k + 1 + e.xs.length) es
def mkd : Int → List El → List El
  | _, [] => []
  | k, e :: es => e.mark k :: mkd (k + 1 + e.xs.length) es
theorem mkd_len : ∀ (k : Int) (es : List El), (mkd k es).length = es.length
  | _, [] => rfl
  | k, e :: es => by simp [mkd, mkd_len]
theorem mkd_get : ∀ (k : Int) (es : List El) (j : Nat) (e : El), es[j]? = some e → (mkd k es)[j]? = some (e.mark (mkE k (es.take j)))
  | k, e' :: es, 0, e, h => by
    simp at h; subst h; rfl
  | k, e' :: es, j + 1, e, h => by
    have := mkd_get (k + 1 + e'.xs.length) es j e (by simpa using h)
    simpa [mkd, mkE] using this
theorem mkE_succ : ∀ (k : Int) (es : List El) (j : Nat) (e : El), es[j]? = some e → mkE k (es.take (j + 1)) = mkE k (es.take j) + 1 + e.xs.length
  | k, e' :: es, 0, e, h => by
    simp at h; subst h; simp [mkE]
  | k, e' :: es, j + 1, e, h => by
    have := mkE_succ (k + 1 + e'.xs.length) es j e (by simpa using h)
    simpa [mkE] using this
theorem mkE_bd : ∀ (k : Int) (es : List El), (∀ e ∈ es, e.xs.length ≤ 6) → k ≤ mkE k es ∧ mkE k es ≤ k + 7 * es.length
  | k, [], _ => by simp [mkE]
  | k, e :: es, h => by
    have h1 := h e (by simp)
    have := mkE_bd (k + 1 + e.xs.length) es (fun x hx => h x (by simp [hx]))
    simp only [mkE, List.length_cons]
    omega
def stM (k : Int) (es : List El) (j : Nat) : List El := (mkd k es).take j ++ es.drop j
theorem stM_len (k : Int) (es : List El) {j : Nat} (hj : j ≤ es.length) : (stM k es j).length = es.length := by
  simp [stM, mkd_len]; omega
theorem stM_get {k : Int} {es : List El} {j : Nat} {e : El} (h : es[j]? = some e) : (stM k es j)[j]? = some e := by
  have hl : j < es.length := (List.getElem?_eq_some_iff.1 h).1
  rw [stM, List.getElem?_append_right (by simp [mkd_len]; omega), List.getElem?_drop]
  have e1 : ((mkd k es).take j).length = j := by simp [mkd_len]; omega
  rw [e1, Nat.sub_self, Nat.add_zero, h]
theorem stM_step {k : Int} {es : List El} {j : Nat} {e : El} (h : es[j]? = some e) : (stM k es j).set j (e.mark (mkE k (es.take j))) = stM k es (j + 1) := by
  have hl : j < es.length := (List.getElem?_eq_some_iff.1 h).1
  have hm := mkd_get k es j e h
  have hlm : j < (mkd k es).length := by rw [mkd_len]; exact hl
  have e1 : ((mkd k es).take j).length = j := by simp [mkd_len]; omega
  rw [List.getElem?_eq_getElem hlm] at hm
  rw [stM, stM, List.set_append_right _ _ (by omega), e1, Nat.sub_self, List.drop_eq_getElem_cons hl, List.set_cons_zero, List.take_succ_eq_append_getElem hlm, List.append_assoc, Option.some.inj hm]
  rfl
theorem stM_end (k : Int) (es : List El) : stM k es es.length = mkd k es := by
  rw [stM, List.drop_eq_nil_of_le (Nat.le_refl _), List.append_nil, List.take_of_length_le (by rw [mkd_len]; exact Nat.le_refl _)]
theorem mkd_lens {k : Int} {es : List El} (h : ∀ e ∈ es, e.xs.length ≤ 6) : ∀ e ∈ mkd k es, e.xs.length ≤ 6 := by
  intro e he
  obtain ⟨i, hi, rfl⟩ := List.getElem_of_mem he
  have hl : i < es.length := by rw [mkd_len] at hi; exact hi
  have hm := mkd_get k es i es[i] (List.getElem?_eq_getElem hl)
  rw [List.getElem?_eq_getElem hi] at hm
  rw [Option.some.inj hm]
  simp [El.mark, iota_len]
  exact h _ (List.getElem_mem _)

theorem elCells_setW : ∀ (es : List El) (j : Nat) (e : El) (W : Int), es[j]? = some e → elCells (es.set j { e with W := W }) = (elCells es).set (2 * j) (.int .i64 W)
  | e' :: es, 0, e, W, h => by
    simp at h; subst h; rfl
  | e' :: es, j + 1, e, W, h => by
    have e1 : elCells (e' :: es) = .int .i64 e'.W :: .slice e'.A e'.xs.length e'.c :: elCells es := rfl
    have := elCells_setW es j e W (by simpa using h)
    rw [List.set_cons_succ, e1, show 2 * (j + 1) = 2 * j + 1 + 1 by omega, List.set_cons_succ, List.set_cons_succ, ← this]
    rfl
theorem elCells_setX : ∀ (es : List El) (j : Nat) (e : El) (xs : List Int), es[j]? = some e → xs.length = e.xs.length → elCells (es.set j { e with xs := xs }) = elCells es
  | e' :: es, 0, e, xs, h, hl => by
    simp at h; subst h
    simp [elCells, El.cells, hl]
  | e' :: es, j + 1, e, xs, h, hl => by
    have := elCells_setX es j e xs (by simpa using h) hl
    rw [List.set_cons_succ]
    show e'.cells ++ _ = e'.cells ++ _
    exact congrArg _ this
theorem map_A_set {es : List El} {j : Nat} {e e' : El} (h : es[j]? = some e) (hA : e'.A = e.A) : (es.set j e').map (·.A) = es.map (·.A) := by
  rw [List.map_set, hA]
  refine List.ext_getElem? fun i => ?_
  rw [List.getElem?_set]
  split
  · rename_i hji
    subst hji
    split
    · rw [List.getElem?_map, h]; rfl
    · rename_i hn
      rw [List.getElem?_eq_none (by omega)]
  · rfl

section
variable {w w' : World} {lo g c j : Nat} {es : List El} {e : El}
theorem OwnI.cells_at (h : OwnI w lo (some ⟨g, 0, none⟩) c es) (he : es[j]? = some e) : w.cell? ⟨g, j * 2, none⟩ = some (.int .i64 e.W) ∧ w.cell? ⟨g, j * 2 + 1, none⟩ = some (.slice e.A e.xs.length e.c) ∧ w.frozen? ⟨g, j * 2, none⟩ = false ∧ g < w.heap.size := by
  rcases h.buf.form with ⟨e', _⟩ | ⟨g', cs, e', _, hb, hx⟩
  · cases e'
  · cases e'
    have := elCells_get he
    rw [Nat.mul_comm j 2]
    exact ⟨(hb.cell _).trans (hx _ _ this.1), (hb.cell _).trans (hx _ _ this.2), hb.frozen _, hb.lt⟩
theorem OwnI.setW (h : OwnI w lo (some ⟨g, 0, none⟩) c es) (he : es[j]? = some e) (W : Int) : OwnI (w.setCell ⟨g, j * 2, none⟩ (.int .i64 W)) lo (some ⟨g, 0, none⟩) c (es.set j { e with W := W }) := by
  have hlen : j < es.length := (List.getElem?_eq_some_iff.1 he).1
  have hA := map_A_set (e' := { e with W := W }) he rfl
  refine ⟨?_, fun e1 he1 => ?_, by rw [hA]; exact h.far, by rw [hA]; exact h.apart⟩
  · have hb := h.buf
    refine ⟨by rw [elCells_len], .inr ?_⟩
    rcases hb.2 with ⟨hv, hn⟩ | ⟨g', cap, cur, hv, hb', hh, hn, hm, hs, ht⟩
    · cases hv
    · injection hv with h1 h2 h3
      cases h1
      refine ⟨g, cap, cur.setIfInBounds (2 * j) (.int .i64 W), by rw [List.length_set, h3], hb', ?_, by rw [List.length_set]; exact hn, hm, by simpa using hs, ?_⟩
      · have := Blk.set_ (w := w) (t := 28) (cs := cur) hh (j * 2) (.int .i64 W)
        rw [Nat.mul_comm 2 j]
        exact this
      · rw [List.length_set, elCells_setW _ _ _ _ he, ← ht, Array.toList_setIfInBounds, List.take_set]
  · have hmem : ∃ e0 ∈ es, e1.A = e0.A ∧ e1.xs = e0.xs := by
      rcases List.mem_or_eq_of_mem_set he1 with h1 | h1
      · exact ⟨e1, h1, rfl, rfl⟩
      · exact ⟨e, List.mem_of_getElem? he, by rw [h1], by rw [h1]⟩
    obtain ⟨e0, h0, hA0, hx0⟩ := hmem
    rw [hA0, hx0]
    refine ⟨(h.rows e0 h0).1.far ?_ _, (h.rows e0 h0).2⟩
    intro g' hg' hgg
    have : g' = g := hgg
    exact h.apart (by rw [← this, ← hg']; exact List.mem_map_of_mem h0)
theorem OwnI.setX (h : OwnI w lo (some ⟨g, 0, none⟩) c es) (he : es[j]? = some e) {xs : List Int} (hl : xs.length = e.xs.length) (hg : w.grownBy w' (rowOf e.A e.xs.length)) (ho : Own w' lo e.A e.xs.length xs) : OwnI w' lo (some ⟨g, 0, none⟩) c (es.set j { e with xs := xs }) := by
  have hlen : j < es.length := (List.getElem?_eq_some_iff.1 he).1
  have hA := map_A_set (e' := { e with xs := xs }) he rfl
  have hmem := List.mem_of_getElem? he
  have hrow : ∀ q, rowOf e.A e.xs.length = some q → e.A = some ⟨q, 0, none⟩ := by
    intro q hq
    obtain ⟨g1, e1, _, _⟩ := ((h.rows e hmem).1.blk).resolve_left (fun hh => by have := (h.rows e hmem).2; omega)
    rw [e1, rowOf_some (h.rows e hmem).2] at hq
    rw [e1]; cases hq; rfl
  refine ⟨?_, ?_, by rw [hA]; exact h.far, by rw [hA]; exact h.apart⟩
  · have hb : BufI w' lo (some ⟨g, 0, none⟩) c es := h.buf.kept hg (fun q hq hr => h.apart (by rw [hq, ← hrow q hr]; exact List.mem_map_of_mem hmem))
    have e2 := elCells_setX es j e xs he hl
    unfold BufI at hb ⊢
    rw [List.length_set, e2]; exact hb
  · intro e1 he1
    obtain ⟨i, hi, rfl⟩ := List.getElem_of_mem he1
    rw [List.length_set] at hi
    by_cases hij : j = i
    · subst hij
      rw [List.getElem_set_self]
      exact ⟨by show Own w' lo e.A xs.length xs; rw [hl]; exact ho, by show 0 < xs.length; rw [hl]; exact (h.rows e hmem).2⟩
    · rw [List.getElem_set_ne hij]
      have hm2 : es[i] ∈ es := List.getElem_mem _
      refine ⟨(h.rows _ hm2).1.grown hg (fun q hq hr => ?_), (h.rows _ hm2).2⟩
      have e3 := hrow q hr
      have hnd := h.far
      rw [List.nodup_iff_pairwise_ne, List.pairwise_iff_getElem] at hnd
      have hjA : (es.map (·.A))[j]'(by simpa using hlen) = e.A := by
        rw [List.getElem_map]
        rw [List.getElem?_eq_getElem hlen] at he
        rw [Option.some.inj he]
      have hiA : (es.map (·.A))[i]'(by simpa using hi) = es[i].A := by rw [List.getElem_map]
      rcases Nat.lt_or_gt_of_ne hij with h1 | h1
      · exact hnd j i (by simpa using hlen) (by simpa using hi) h1 (by rw [hjA, hiA, e3, hq])
      · exact hnd i j (by simpa using hi) (by simpa using hlen) h1 (by rw [hjA, hiA, e3, hq])
end

set_option maxHeartbeats 4000000 in
theorem markImageS_c (A : Option Addr) (lo n c : Nat) (k : Int) (es : List El) (w : World) (ho : OwnI w lo A c es) (hne : n = es.length) (hn : n ≤ 10000) (hl : ∀ e ∈ es, e.xs.length ≤ 6) (hk0 : 0 ≤ k) (hk1 : k ≤ 10000) (hlo : lo ≤ w.heap.size) :
    Calls Try.prog 12 #[.slice A n c, .int .i64 k] w fun e w' => e = .returned (.int .i64 (mkE k es)) ∧ OwnI w' lo A c (mkd k es) ∧ Below lo w w' := by
  have hl' := Lib.hid hl
  have hne' := Lib.hid hne
  have hnl : n ≤ es.length := by omega
  clear hl hne
  go_enter Try.func12, Try.ntmps12
  go_wp2
  go_loopw [1, 5] (fun q i wr => ∃ j : Nat, j ≤ n ∧ i = .int .i64 j ∧ q = .int .i64 (mkE k (es.take j)) ∧ OwnI wr lo A c (stM k es j) ∧ Below lo w wr) (fun _ i _ => n - (intOf i).toNat)
  case atStart => exact ⟨0, Nat.zero_le _, rfl, by simp [mkE], by simpa [stM] using ho, Below.refl _ _⟩
  case round =>
    clear ho
    obtain ⟨j, hj, rfl, rfl, hI, hB⟩ := hrel
    have hbd := mkE_bd k (es.take j) (fun e he => hl'.out e (List.mem_of_mem_take he))
    have htl : (es.take j).length ≤ j := by simp; omega
    by_cases hlt : j < n
    · obtain ⟨e, he⟩ : ∃ e, es[j]? = some e := ⟨es[j]'(by omega), List.getElem?_eq_getElem _⟩
      have hsz := hB.size
      have hse := stM_get (k := k) he
      have hstp := Lib.hid (stM_step (k := k) he)
      have hsuc := Lib.hid (mkE_succ k es j e he)
      have hxl := hl'.out e (List.mem_of_getElem? he)
      obtain ⟨g, rfl⟩ : ∃ g, A = some ⟨g, 0, none⟩ := hI.buf.addr.resolve_left (by
        rintro rfl
        rcases hI.buf.form with ⟨_, h0⟩ | ⟨_, _, e', _⟩
        · rw [h0] at hse; simp at hse
        · cases e')
      obtain ⟨c0, c1, f0, hzg⟩ := hI.cells_at hse
      have hgl := (hI.buf.lt g rfl).1
      generalize mkE k (es.take j) = v at hbd hstp hsuc ⊢
      have hI2 := hI.setW hse v
      have hB2 := hB.setCell (p := ⟨g, j * 2, none⟩) hgl (.int .i64 v)
      have hls : j < (stM k es j).length := (List.getElem?_eq_some_iff.1 hse).1
      have hse2 : ((stM k es j).set j { e with W := v })[j]? = some { e with W := v } := by rw [List.getElem?_set_self hls]
      obtain ⟨d0, d1, _, _⟩ := hI2.cells_at hse2
      have hrows := (hI2.rows _ (List.mem_of_getElem? hse2)).1
      have hr0 := (hI2.rows _ (List.mem_of_getElem? hse2)).2
      dsimp only at d1 hrows hr0
      have hki : (j : Int) < (n : Int) := by omega
      have hki0 : (0 : Int) ≤ (j : Int) := by omega
      have hI2' := Lib.hid hI2
      have hse2' := Lib.hid hse2
      clear hI hse hI2 hse2 he d0
      go_wp2_with fail
      refine (markIntS_c _ lo _ _ (v + 1) e.xs _ hrows (by omega) (by omega) (by omega)).mono ?_
      rintro q w3 ⟨rfl, hg3, ho3⟩
      have hI3 := hI2'.out.setX hse2'.out (xs := iota (v + 1) e.xs.length) (by simp [iota_len]) hg3 ho3
      rw [List.set_set] at hI3
      have hstp2 : (stM k es j).set j { e with W := v, xs := iota (v + 1) e.xs.length } = stM k es (j + 1) := hstp.out
      rw [hstp2] at hI3
      have hrw := hrows.row
      have hB3 := hB2.grown hg3 (by rw [size_setCell]; omega) (fun q hq => (hrw q hq).1)
      clear hstp2
      go_wp2
      go_roundw
      case rel => exact ⟨j + 1, by omega, by go_num, by rw [hsuc.out], hI3, hB3⟩
      case measure => simp [intOf]; omega
    · have hje : j = es.length := by rw [← hne'.out]; omega
      have hN : Hid (mkE k (es.take j) = mkE k es ∧ stM k es j = mkd k es) := Lib.hid ⟨by rw [hje, List.take_length], by rw [hje, stM_end]⟩
      clear hje
      go_wp2
      go_ret
      exact ⟨by rw [hN.out.1]; rfl, by rw [← hN.out.2]; exact hI, hB⟩

set_option maxHeartbeats 4000000 in
theorem heldImageS_c (A : Option Addr) (n c : Nat) (k : Int) (es : List El) (w : World) (hr : RdI w A n (mkd k es)) (hn : n ≤ 10000) (hl : ∀ e ∈ es, e.xs.length ≤ 6) (hk0 : 0 ≤ k) (hk1 : k ≤ 10000) :
    Calls Try.prog 13 #[.slice A n c, .int .i64 k] w fun e w' => e = .returned (.int .i64 (mkE k es)) ∧ w = w' := by
  have hl' := Lib.hid hl
  have hne' := Lib.hid (show n = es.length by rw [← hr.1, mkd_len])
  have hnl : n ≤ es.length := by have := hne'.out; omega
  clear hl
  go_enter Try.func13, Try.ntmps13
  go_wp2
  go_loop [1, 5] (fun q i => ∃ j : Nat, j ≤ n ∧ i = .int .i64 j ∧ q = .int .i64 (mkE k (es.take j))) (fun _ i => n - (intOf i).toNat)
  case atStart => exact ⟨0, Nat.zero_le _, rfl, by simp [mkE]⟩
  case round =>
    obtain ⟨j, hj, rfl, rfl⟩ := hrel
    have hbd := mkE_bd k (es.take j) (fun e he => hl'.out e (List.mem_of_mem_take he))
    have htl : (es.take j).length ≤ j := by simp; omega
    by_cases hlt : j < n
    · obtain ⟨e, he⟩ : ∃ e, es[j]? = some e := ⟨es[j]'(by omega), List.getElem?_eq_getElem _⟩
      have hsuc := Lib.hid (mkE_succ k es j e he)
      have hxl := hl'.out e (List.mem_of_getElem? he)
      obtain ⟨b, off, rfl, hb, c0, c1, hR⟩ := hr.at_ hlt (mkd_get k es j e he)
      generalize mkE k (es.take j) = v at hbd hsuc c0 c1 hR ⊢
      simp only [El.mark, iota_len] at c0 c1 hR
      rw [Nat.mul_comm 2 j] at c0 c1
      have hki : (j : Int) < (n : Int) := by omega
      have hki0 : (0 : Int) ≤ (j : Int) := by omega
      have hnn : ¬ (v + 1 + (e.xs.length : Int) < 0) := by omega
      clear he
      go_wp2_with fail
      refine (heldIntS_c _ _ _ (v + 1) _ hR (by omega) (by omega) (by omega)).mono ?_
      rintro q w3 ⟨rfl, rfl⟩
      go_wp2
      go_round
      case rel => exact ⟨j + 1, by omega, by go_num, by rw [hsuc.out]⟩
      case measure => simp [intOf]; omega
    · have hje : j = es.length := by rw [← hne'.out]; omega
      have hN : Hid (mkE k (es.take j) = mkE k es) := Lib.hid (by rw [hje, List.take_length])
      clear hje
      go_wp2
      go_ret
      exact ⟨by rw [hN.out]; rfl, rfl⟩
end Go.Proofs.Ytnoegpdgcejbnaa
