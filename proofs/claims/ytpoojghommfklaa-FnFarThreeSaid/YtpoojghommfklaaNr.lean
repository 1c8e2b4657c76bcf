
/- Walks: how many images are reached, and how far; of the program and of the reference. -/
import Derived.Test.YtpoojghommfklaaKi
namespace Go.Proofs.Ytpoojghommfklaa
open Go.RowKit Go.Maps
set_option maxRecDepth 100000

/-- how many images are reached, -1 for too great a one -/
def reachW (W : Int) (xs : List Int) : Int := if okB W xs = true ∧ xs.length * W.toNat ≤ 16 then ((reach W.toNat xs).length : Int) else -1
theorem reach_len_le {m : Nat} {xs : List Int} (h : okB (m : Int) xs = true) (hc : xs.length * m ≤ 16) : (reach m xs).length ≤ 65536 :=
  Nat.le_trans (bfs_len h _) (Nat.le_trans (Nat.pow_le_pow_right (by omega) hc) (by decide))
/-- the number that goes with an image -/
def farV (wk : List (List Int × Nat)) (z : List Int) : Int := match wk.find? (fun e => e.1 == z) with | some e => (e.2 : Int) | none => -1
theorem farV_mem {wk : List (List Int × Nat)} (hd : (wk.map (·.1)).Nodup) {e : List Int × Nat} (he : e ∈ wk) : farV wk e.1 = e.2 := by
  unfold farV
  cases hf : wk.find? (fun f => f.1 == e.1) with
  | none =>
    have := List.find?_eq_none.1 hf e he
    simp at this
  | some f =>
    have h1 := List.mem_of_find?_eq_some hf
    have h2 : f.1 = e.1 := by simpa using List.find?_some hf
    rw [nodup_fst hd h1 he h2]
theorem farV_no {wk : List (List Int × Nat)} {z : List Int} (h : ∀ e ∈ wk, e.1 ≠ z) : farV wk z = -1 := by
  unfold farV
  cases hf : wk.find? (fun f => f.1 == z) with
  | none => rfl
  | some f =>
    have h1 := List.mem_of_find?_eq_some hf
    have h2 : f.1 = z := by simpa using List.find?_some hf
    exact absurd h2 (h f h1)
/-- how far an image is, -1 if it is not reached -/
def farW (W : Int) (xs : List Int) (V : Int) (ys : List Int) : Int :=
  if okB W xs = true ∧ okB V ys = true ∧ W = V ∧ xs.length = ys.length ∧ xs.length * W.toNat ≤ 12 then farV (reach W.toNat xs) ys else -1
theorem reach_ok {m : Nat} {xs : List Int} (h : okB (m : Int) xs = true) : ∀ e ∈ reach m xs, okB (m : Int) e.1 = true ∧ e.1.length = xs.length := fun _ he => path_ok h (reach_path he)

/-- what the map tells of an image -/
theorem farW_map {D : DataW Unit} {m k : Nat} {xs ys : List Int} (h : okB (m : Int) xs = true) (h' : okB (k : Int) ys = true) (hc : xs.length * m ≤ 12) (hm : MapIs D m (reach m xs)) :
    (Maps.has D (kT (textL k ys)) = false → farW m xs k ys = -1) ∧ (Maps.has D (kT (textL k ys)) = true → ∀ c : Int, D.atKey (kT (textL k ys)) (.lit (.int .i64 0)) = .lit (.int .i64 c) → farW m xs k ys = c) := by
  constructor
  · intro hf
    unfold farW
    split
    · rename_i hs
      refine farV_no fun e he e1 => ?_
      have hmk : m = k := by have := hs.2.2.1; omega
      subst hmk
      rw [hm.has] at hf
      have : (reach m xs).any (fun e => textL m e.1 == textL m ys) = true := List.any_eq_true.2 ⟨e, by simpa using he, by simp [e1]⟩
      rw [hf] at this; cases this
    · rfl
  · intro ht c hc2
    rw [hm.has, List.any_eq_true] at ht
    obtain ⟨e, he, h1⟩ := ht
    have he2 := reach_ok h e he
    obtain ⟨hmk, h2⟩ := text_inj he2.1 h' (by simpa using h1)
    subst hmk; subst h2
    rw [hm.at_ e he] at hc2
    have hc3 : (e.2 : Int) = c := by cases hc2; rfl
    unfold farW
    rw [if_pos ⟨h, h', rfl, he2.2.symm, by simpa using hc⟩]
    rw [Int.toNat_natCast, farV_mem (reach_nodup m xs) he, hc3]

/-- what the list of steps tells of an image -/
theorem farW_steps {S : List Int} {m : Nat} {xs ys : List Int} (h : okB (m : Int) xs = true) (h' : okB (m : Int) ys = true) (hl : xs.length = ys.length) (hc : xs.length * m ≤ 12) (hS : StepsIs S m (2 ^ (xs.length * m)) (reach m xs)) :
    farW m xs m ys = S[keyN m ys]?.getD 0 := by
  unfold farW
  rw [if_pos ⟨h, h', rfl, hl, by simpa using hc⟩, Int.toNat_natCast]
  cases hs : seen (reach m xs) ys with
  | true =>
    obtain ⟨e, he, rfl⟩ := seen_iff.1 hs
    rw [hS.2.1 e he, farV_mem (reach_nodup m xs) he]
  | false =>
    rw [hS.2.2 (keyN m ys) (by rw [hl]; exact keyN_bd h') (seen_key (n := xs.length) (reach_ok h) h' hl.symm hs)]
    exact farV_no fun e he e1 => by rw [seen_iff.2 ⟨e, he, e1⟩] at hs; cases hs

theorem look_int {w : World} {b n : Nat} {D : DataW Unit} (hown : w.ownsMap Try.prog 9 (plainElem Try.prog 3) b n D) {key : Value} {kl : Lit} (hkey : keyOf Try.prog 9 key = some kl) :
    ∃ c : Int, (Instr.lookup 38 (.map (some b)) key true).run Try.prog w = .ok (.tuple #[.int .i64 c, .bool (Maps.has D kl)]) w ∧ D.atKey kl (.lit (.int .i64 0)) = .lit (.int .i64 c) := by
  obtain ⟨v, ps, hrun, hv⟩ := hown.look_ok keyLaw Try.underlying38 (zeroInt w) (plainElem_int (H := Unit) (a := 0) Try.underlying3 (by decide)) hkey
  obtain ⟨c, rfl, hc, _⟩ := plainElem_int_inv Try.underlying3 hv
  exact ⟨c, hrun, congrArg Prod.fst hc⟩

theorem farW_no {W V : Int} {xs ys : List Int} (h : ¬ (okB W xs = true ∧ okB V ys = true ∧ W = V ∧ xs.length = ys.length ∧ xs.length * W.toNat ≤ 12)) : farW W xs V ys = -1 := if_neg h
theorem mulI (n m : Nat) (hn : n ≤ 6) (hm : m ≤ 6) : (0 : Int) ≤ (n : Int) * (m : Int) ∧ (n : Int) * (m : Int) ≤ 36 ∧ ∀ k : Nat, ((k : Int) < (n : Int) * (m : Int) ↔ ¬ n * m ≤ k) := by
  have hmul : (n : Int) * (m : Int) = ((n * m : Nat) : Int) := by simp
  have hmul3 : n * m ≤ 6 * 6 := Nat.mul_le_mul hn hm
  exact ⟨by omega, by omega, fun k => by omega⟩

set_option maxHeartbeats 4000000 in
theorem impl_NeighborFar_c (W : Int) (A : Option Addr) (n c : Nat) (xs : List Int) (V : Int) (B : Option Addr) (p d : Nat) (ys : List Int) (w : World) (hr : Rd w A n xs) (hn : n ≤ 1073741824) (hq : Rd w B p ys) (hp : p ≤ 1073741824) :
    Calls Try.prog 5 #[.agg #[.int .i64 W, .slice A n c], .agg #[.int .i64 V, .slice B p d]] w fun e w' => e = .returned (.int .i64 (farW W xs V ys)) ∧ Below w.heap.size w w' := by
  have hA0 := (Blk.new w 25 #[.int .i64 W, .slice A n c]).alloc (.cells #[.int .i64 V, .slice B p d] 25)
  have hC0 := heap_at2 w (.cells #[.int .i64 W, .slice A n c] 25) 25 #[.int .i64 V, .slice B p d]
  have hL0 := lo_alloc (lo_alloc (Below.refl w.heap.size w) (.cells #[.int .i64 W, .slice A n c] 25)) (.cells #[.int .i64 V, .slice B p d] 25)
  cases hk : okB W xs with
  | false =>
    have hT := Lib.hid (show farW W xs V ys = -1 from farW_no (fun h => by rw [hk] at h; cases h.1))
    go_enter Try.func5, Try.ntmps5
    go_wp2_with fail
    refine (impl_ImageValid_c _ _ _ _ xs _ (hr.next hL0) (by omega)).mono ?_
    rw [hk]
    rintro e w1 ⟨rfl, hb1⟩
    have hL1 := lo_trans hL0 hb1
    go_wp2
    go_ret
    exact ⟨by rw [hT.out]; rfl, hL1⟩
  | true =>
  cases hj : okB V ys with
  | false =>
    have hT := Lib.hid (show farW W xs V ys = -1 from farW_no (fun h => by rw [hj] at h; cases h.2.1))
    go_enter Try.func5, Try.ntmps5
    go_wp2_with fail
    refine (impl_ImageValid_c _ _ _ _ xs _ (hr.next hL0) (by omega)).mono ?_
    rw [hk]
    rintro e w1 ⟨rfl, hb1⟩
    have hL1 := lo_trans hL0 hb1
    have hC1 := hC0.next hb1
    have c0 := hC1.cell 0
    have c1 := hC1.cell 1
    go_wp2_with fail
    refine (impl_ImageValid_c _ _ _ _ ys _ (hq.next hL1) (by omega)).mono ?_
    rw [hj]
    rintro e w2 ⟨rfl, hb2⟩
    go_wp2
    go_ret
    exact ⟨by rw [hT.out]; rfl, lo_trans hL1 hb2⟩
  | true =>
  have hbd := okB_bd hk
  rw [hr.1] at hbd
  have hbe := okB_bd hj
  rw [hq.1] at hbe
  obtain ⟨m, rfl⟩ := Int.eq_ofNat_of_zero_le (show 0 ≤ W by omega)
  obtain ⟨o, rfl⟩ := Int.eq_ofNat_of_zero_le (show 0 ≤ V by omega)
  obtain ⟨u1, u2, u3⟩ := mulI n m (by omega) (by omega)
  obtain ⟨v1, v2, v3⟩ := mulI p o (by omega) (by omega)
  have hk' := Lib.hid hk
  have hj' := Lib.hid hj
  have hnm := Lib.hid (show (xs.length = ys.length ∧ (m : Int) = (o : Int)) → xs.length * (m : Int).toNat ≤ 12 → n * m ≤ 12 ∧ p * o ≤ 12 by
    rintro ⟨h1, h2⟩ h3
    have h4 : m = o := by omega
    rw [Int.toNat_natCast, hr.1] at h3
    refine ⟨h3, ?_⟩
    rw [← h4, ← hq.1, ← h1, hr.1]; exact h3)
  go_enter Try.func5, Try.ntmps5
  go_wp2_with fail
  refine (impl_ImageValid_c _ _ _ _ xs _ (hr.next hL0) (by omega)).mono ?_
  rw [hk]
  rintro e w1 ⟨rfl, hb1⟩
  have hL1 := lo_trans hL0 hb1
  have hC1 := hC0.next hb1
  have hA1 := hA0.next hb1
  have c0 := hC1.cell 0
  have c1 := hC1.cell 1
  clear hk hA0 hC0 hL0 hb1
  go_wp2_with fail
  refine (impl_ImageValid_c _ _ _ _ ys _ (hq.next hL1) (by omega)).mono ?_
  rw [hj]
  rintro e w2 ⟨rfl, hb2⟩
  have hL2 := lo_trans hL1 hb2
  have hC2 := hC1.next hb2
  have hA2 := hA1.next hb2
  clear hj hA1 hC1 hL1 hb2 c0 c1
  have a0 := hA2.cell 0
  have a1 := hA2.cell 1
  have c0 := hC2.cell 0
  have c1 := hC2.cell 1
  by_cases hc : n * m ≤ 12
  case neg =>
    have hg : (12 : Int) < (n : Int) * (m : Int) := (u3 12).2 hc
    have hT := Lib.hid (show farW (m : Int) xs (o : Int) ys = -1 from farW_no (fun h => hc (hnm.out ⟨h.2.2.2.1, h.2.2.1⟩ h.2.2.2.2).1))
    clear u3 v3
    go_wp2
    go_ret
    exact ⟨by rw [hT.out]; rfl, hL2⟩
  case pos =>
  have hg : ¬ ((12 : Int) < (n : Int) * (m : Int)) := fun h => (u3 12).1 h hc
  by_cases hcc : p * o ≤ 12
  case neg =>
    have hg2 : (12 : Int) < (p : Int) * (o : Int) := (v3 12).2 hcc
    have hT := Lib.hid (show farW (m : Int) xs (o : Int) ys = -1 from farW_no (fun h => hcc (hnm.out ⟨h.2.2.2.1, h.2.2.1⟩ h.2.2.2.2).2))
    clear u3 v3
    go_wp2
    go_ret
    exact ⟨by rw [hT.out]; rfl, hL2⟩
  case pos =>
  have hg2 : ¬ ((12 : Int) < (p : Int) * (o : Int)) := fun h => (v3 12).1 h hcc
  have hc16 : n * m ≤ 16 := by omega
  have hc12 := Lib.hid (show xs.length * m ≤ 12 by rw [hr.1]; exact hc)
  have hR2 := hr.next hL2
  have hQ2 := hq.next hL2
  have htl := textL_len hj'.out
  have hkz := kT_of (t := textL o ys) (by omega)
  have htz := Lib.hid (show textW (o : Int) ys = textL o ys by simp [textW, hj'.out])
  clear u3 v3 htl
  go_wp2_with fail
  go_region_held3 (fun w' => w'.cell? ⟨w.heap.size, 0, none⟩ = some (.int .i64 (m : Int)) ∧ w'.cell? ⟨w.heap.size, 1, none⟩ = some (.slice A n c) ∧ w'.cell? ⟨w.heap.size + 1, 0, none⟩ = some (.int .i64 (o : Int)) ∧ w'.cell? ⟨w.heap.size + 1, 1, none⟩ = some (.slice B p d))
    (first
      | go_keep
      | exact ⟨(hA2.next hL4).cell 0, (hA2.next hL4).cell 1, (hC2.next hL4).cell 0, (hC2.next hL4).cell 1⟩
      | exact ⟨(hA2.next hL3).cell 0, (hA2.next hL3).cell 1, (hC2.next hL3).cell 0, (hC2.next hL3).cell 1⟩)
    (first
      | (go_at_call 13
         refine (switchesFrom_c m n c A xs _ hR2.drew hk'.out hc16).mono ?_
         rintro e w3 ⟨b, D, rfl, hb3, hown, hmap⟩
         have hL3 := lo_trans (Below.drew (Below.refl w2.heap.size w2)) hb3)
      | (go_at_call 14
         refine (ImageText_c (o : Int) B p d ys _ (hQ2.next hL3) (by omega)).mono ?_
         rw [htz.out]
         rintro e w4 ⟨rfl, hb4⟩
         have hL4 := lo_trans hL3 hb4
         obtain ⟨cc, hlk, hat⟩ := look_int (ownsMap_next hown hb4) hkz
         have hat2 := Lib.hid hat
         clear hat))
  obtain ⟨f1, f2⟩ := farW_map hk'.out hj'.out hc12.out hmap
  have f1' := Lib.hid f1
  have f2' := Lib.hid (fun h => f2 h cc hat2.out)
  have hL4' := lo_trans hL2 hL4
  clear hat2 hlk f1 f2 hb3 hb4 hown hL3 hL4 hmap hkz
  generalize Maps.has D (kT (textL o ys)) = fd at f1' f2' ⊢
  cases fd with
  | false =>
    have hT := Lib.hid (f1'.out rfl)
    clear f1' f2'
    go_wp2
    go_ret
    exact ⟨by rw [hT.out]; rfl, hL4'⟩
  | true =>
    have hT := Lib.hid (f2'.out rfl)
    clear f1' f2'
    go_wp2
    go_ret
    exact ⟨by rw [hT.out]; rfl, hL4'⟩
def shapeB (W : Int) (xs : List Int) (V : Int) (ys : List Int) : Bool := okB W xs && okB V ys && decide (W = V) && decide (xs.length = ys.length)

set_option maxHeartbeats 4000000 in
theorem l12Shape_c (W : Int) (A : Option Addr) (n c : Nat) (xs : List Int) (V : Int) (B : Option Addr) (p d : Nat) (ys : List Int) (w : World) (hr : Rd w A n xs) (hn : n ≤ 1073741824) (hq : Rd w B p ys) (hp : p ≤ 1073741824) :
    Calls Try.prog 15 #[.agg #[.int .i64 W, .slice A n c], .agg #[.int .i64 V, .slice B p d]] w fun e w' => e = .returned (.bool (shapeB W xs V ys)) ∧ Below w.heap.size w w' := by
  have hA0 := (Blk.new w 25 #[.int .i64 W, .slice A n c]).alloc (.cells #[.int .i64 V, .slice B p d] 25)
  have hC0 := heap_at2 w (.cells #[.int .i64 W, .slice A n c] 25) 25 #[.int .i64 V, .slice B p d]
  have hL0 := lo_alloc (lo_alloc (Below.refl w.heap.size w) (.cells #[.int .i64 W, .slice A n c] 25)) (.cells #[.int .i64 V, .slice B p d] 25)
  have hT := Lib.hid (show shapeB W xs V ys = (okB W xs && okB V ys && decide (W = V) && decide (n = p)) by rw [shapeB, hr.1, hq.1])
  cases hk : okB W xs with
  | false =>
    go_enter Try.func15, Try.ntmps15
    go_wp2_with fail
    refine (spec_ImageValid_c _ _ _ _ xs _ (hr.next hL0) (by omega)).mono ?_
    rw [hk]
    rintro e w1 ⟨rfl, hb1⟩
    have hT2 := Lib.hid (show shapeB W xs V ys = false from hT.out.trans (by simp [hk]))
    go_wp2
    go_ret
    exact ⟨by rw [hT2.out]; rfl, lo_trans hL0 hb1⟩
  | true =>
  cases hj : okB V ys with
  | false =>
    go_enter Try.func15, Try.ntmps15
    go_wp2_with fail
    refine (spec_ImageValid_c _ _ _ _ xs _ (hr.next hL0) (by omega)).mono ?_
    rw [hk]
    rintro e w1 ⟨rfl, hb1⟩
    have hT2 := Lib.hid (hT.out.trans (by simp [hj] : _ = false))
    have hL1 := lo_trans hL0 hb1
    have hC1 := hC0.next hb1
    have c0 := hC1.cell 0
    have c1 := hC1.cell 1
    go_wp2_with fail
    refine (spec_ImageValid_c _ _ _ _ ys _ (hq.next hL1) (by omega)).mono ?_
    rw [hj]
    rintro e w2 ⟨rfl, hb2⟩
    go_wp2
    go_ret
    exact ⟨by rw [hT2.out]; rfl, lo_trans hL1 hb2⟩
  | true =>
  have hT2 := Lib.hid (show shapeB W xs V ys = (decide (W = V) && decide (n = p)) from hT.out.trans (by rw [hk, hj]; simp))
  go_enter Try.func15, Try.ntmps15
  go_wp2_with fail
  refine (spec_ImageValid_c _ _ _ _ xs _ (hr.next hL0) (by omega)).mono ?_
  rw [hk]
  rintro e w1 ⟨rfl, hb1⟩
  have hL1 := lo_trans hL0 hb1
  have hC1 := hC0.next hb1
  have hA1 := hA0.next hb1
  have c0 := hC1.cell 0
  have c1 := hC1.cell 1
  clear hk hA0 hC0 hL0 hb1
  go_wp2_with fail
  refine (spec_ImageValid_c _ _ _ _ ys _ (hq.next hL1) (by omega)).mono ?_
  rw [hj]
  rintro e w2 ⟨rfl, hb2⟩
  have hL2 := lo_trans hL1 hb2
  have hC2 := hC1.next hb2
  have hA2 := hA1.next hb2
  clear hj hA1 hC1 hL1 hb2 c0 c1
  have a0 := hA2.cell 0
  have a1 := hA2.cell 1
  have c0 := hC2.cell 0
  have c1 := hC2.cell 1
  by_cases hWV : W = V
  · by_cases hnp : n = p
    · have hT3 := Lib.hid (hT2.out.trans (by simp [hWV, hnp] : _ = true))
      have hnp' : (n : Int) = (p : Int) := by omega
      clear hnp
      go_wp2
      go_ret
      exact ⟨by rw [hT3.out]; rfl, hL2⟩
    · have hT3 := Lib.hid (hT2.out.trans (by simp [hnp] : _ = false))
      have hnp' : ((n : Int) == (p : Int)) = false := beq_eq_false_iff_ne.2 (by omega)
      clear hnp
      go_wp2
      go_ret
      exact ⟨by rw [hT3.out]; rfl, hL2⟩
  · have hT3 := Lib.hid (hT2.out.trans (by simp [hWV] : _ = false))
    go_wp2
    go_ret
    exact ⟨by rw [hT3.out]; rfl, hL2⟩

set_option maxHeartbeats 4000000 in
theorem spec_NeighborFar_c (W : Int) (A : Option Addr) (n c : Nat) (xs : List Int) (V : Int) (B : Option Addr) (p d : Nat) (ys : List Int) (w : World) (hr : Rd w A n xs) (hn : n ≤ 1073741824) (hq : Rd w B p ys) (hp : p ≤ 1073741824) :
    Calls Try.prog 6 #[.agg #[.int .i64 W, .slice A n c], .agg #[.int .i64 V, .slice B p d]] w fun e w' => e = .returned (.int .i64 (farW W xs V ys)) ∧ Below w.heap.size w w' := by
  have hA0 := (Blk.new w 25 #[.int .i64 W, .slice A n c]).alloc (.cells #[.int .i64 V, .slice B p d] 25)
  have hC0 := heap_at2 w (.cells #[.int .i64 W, .slice A n c] 25) 25 #[.int .i64 V, .slice B p d]
  have hL0 := lo_alloc (lo_alloc (Below.refl w.heap.size w) (.cells #[.int .i64 W, .slice A n c] 25)) (.cells #[.int .i64 V, .slice B p d] 25)
  cases hs : shapeB W xs V ys with
  | false =>
    have hT := Lib.hid (show farW W xs V ys = -1 from farW_no (fun h => by obtain ⟨h1, h2, h3, h4, _⟩ := h; subst h3; simp [shapeB, h1, h2, h4] at hs))
    go_enter Try.func6, Try.ntmps6
    go_wp2_with fail
    refine (l12Shape_c _ _ _ _ xs _ _ _ _ ys _ (hr.next hL0) (by omega) (hq.next hL0) (by omega)).mono ?_
    rw [hs]
    rintro e w1 ⟨rfl, hb1⟩
    have hL1 := lo_trans hL0 hb1
    go_wp2
    go_ret
    exact ⟨by rw [hT.out]; rfl, hL1⟩
  | true =>
  have hs' : ((okB W xs = true ∧ okB V ys = true) ∧ W = V) ∧ xs.length = ys.length := by simpa [shapeB] using hs
  obtain ⟨⟨⟨hk, hj⟩, rfl⟩, hlen⟩ := hs'
  rw [hr.1, hq.1] at hlen
  subst hlen
  have hbd := okB_bd hk
  rw [hr.1] at hbd
  obtain ⟨m, rfl⟩ := Int.eq_ofNat_of_zero_le (show 0 ≤ W by omega)
  obtain ⟨u1, u2, u3⟩ := mulI n m (by omega) (by omega)
  have hk' := Lib.hid hk
  have hj' := Lib.hid hj
  clear hk hj
  go_enter Try.func6, Try.ntmps6
  go_wp2_with fail
  refine (l12Shape_c _ _ _ _ xs _ _ _ _ ys _ (hr.next hL0) (by omega) (hq.next hL0) (by omega)).mono ?_
  rw [hs]
  rintro e w1 ⟨rfl, hb1⟩
  have hL1 := lo_trans hL0 hb1
  have hC1 := hC0.next hb1
  have hA1 := hA0.next hb1
  clear hs hA0 hC0 hL0 hb1
  have a0 := hA1.cell 0
  have a1 := hA1.cell 1
  by_cases hc : n * m ≤ 12
  case neg =>
    have hg : (12 : Int) < (n : Int) * (m : Int) := (u3 12).2 hc
    have hT := Lib.hid (show farW (m : Int) xs (m : Int) ys = -1 from farW_no (fun h => hc (by have := h.2.2.2.2; rw [hr.1] at this; simpa using this)))
    clear u3
    go_wp2
    go_ret
    exact ⟨by rw [hT.out]; rfl, hL1⟩
  case pos =>
  have hg : ¬ ((12 : Int) < (n : Int) * (m : Int)) := fun h => (u3 12).1 h hc
  have hc16 : n * m ≤ 16 := by omega
  have hc12 := Lib.hid (show xs.length * m ≤ 12 by rw [hr.1]; exact hc)
  have hbk := keyN_bd hj'.out
  rw [hq.1] at hbk
  have hN16 : 2 ^ (n * m) ≤ 2 ^ 12 := Nat.pow_le_pow_right (by omega) hc
  have hlen2 := Lib.hid (show xs.length = ys.length by rw [hr.1, hq.1])
  have hNe := Lib.hid (show 2 ^ (xs.length * m) = 2 ^ (n * m) by rw [hr.1])
  clear u3
  go_wp2_with fail
  refine (l43Steps_c m n c A xs _ (hr.next hL1) hk'.out hc16).mono ?_
  rintro e w2 ⟨g, cc, S, rfl, hb2, hown, hS⟩
  rw [← hNe.out] at hS
  have hT := Lib.hid (farW_steps hk'.out hj'.out hlen2.out hc12.out hS)
  have hL2 := lo_trans hL1 hb2
  have hC2 := hC1.next hb2
  clear hb2 hC1 hS
  have c0 := hC2.cell 0
  have c1 := hC2.cell 1
  generalize 2 ^ (n * m) = N at *
  clear hA1 a0 a1
  go_wp2_with fail
  refine (l43Key_c m n d B ys _ (hq.next hL2) hj'.out hc16).mono ?_
  rintro e w3 ⟨rfl, hb3⟩
  have hown3 := hown.next hb3
  have hL3 := lo_trans hL2 hb3
  have hgl := hown3.cellSet (k := keyN m ys) hbk
  obtain ⟨_, _, hcell, _, _⟩ := hgl
  have hi0 : (0 : Int) ≤ ((keyN m ys : Nat) : Int) := by omega
  have hi1 : ((keyN m ys : Nat) : Int) < (N : Int) := by omega
  go_wp2
  go_ret
  exact ⟨by rw [hT.out]; rfl, hL3⟩
end Go.Proofs.Ytpoojghommfklaa
