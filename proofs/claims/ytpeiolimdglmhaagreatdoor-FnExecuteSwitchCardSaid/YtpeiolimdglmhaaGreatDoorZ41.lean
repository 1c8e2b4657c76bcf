/- Plain facts and walks that the law's proof uses; each says its own conditions. -/
import Derived.Test.YtpeiolimdglmhaaGreatDoorZ40
import Derived.Test.YtpeiolimdglmhaaGreatDoorZ02
-- Region 8 of FnExecuteSwitch: the line of a switch as a text, whatever order its operations come in.
namespace Go.Proofs.YtpeiolimdglmhaaGreatDoor
open Go.RowKit
set_option maxRecDepth 100000

def sndC : Code → Code
  | .seq _ b => b
  | c => c
def fstC : Code → Code
  | .seq a _ => a
  | c => c
def opsC : Code → Array Oper
  | .region _ ops _ => ops
  | _ => #[]
/-- the operations of region 8, read off the program -/
noncomputable def swOps : Array Oper := opsC (fstC (sndC (sndC (sndC (sndC (sndC (sndC (Tryz.f9.body.getD .skip))))))))
theorem swOps_back : backB swOps = true := by decide +kernel

def slotOf (j : Nat) : Nat := if j = 24 then 9 else 53 + j
structure SwI (a0 : Act) (w0 : World) (V : Nat → World → Value → Prop) (listed : Array Bool) (a : Act) (w : World) : Prop where
  tsz : a.tmps.size = a0.tmps.size
  df : a.defers = a0.defers
  fr : ∀ t, (t < 53 ∧ t ≠ 9) ∨ 76 < t → a.tmps.getD t undef = a0.tmps.getD t undef
  lo : Below w0.heap.size w0 w
  vals : ∀ j, j < 25 → listed.getD j false = true → V j w (a.tmps.getD (slotOf j) undef)
theorem getD_put_ne {xs : Array Value} {i j : Nat} {v : Value} (h : i ≠ j) : (xs.setIfInBounds i v).getD j undef = xs.getD j undef := by
  simp [Array.getElem?_setIfInBounds_ne h]
theorem getD_put_eq {xs : Array Value} {i : Nat} {v : Value} (h : i < xs.size) : (xs.setIfInBounds i v).getD i undef = v := by
  simp [h]
theorem SwI.put {a0 a : Act} {w0 w w' : World} {V : Nat → World → Value → Prop} {listed : Array Bool} {i : Nat} {v : Value} (h : SwI a0 w0 V listed a w) (hV : ∀ j w w' v, Below w.heap.size w w' → V j w v → V j w' v)
    (hi : i < 25) (hsz : 76 < a0.tmps.size) (hb : Below w.heap.size w w') (hv : V i w' v) : SwI a0 w0 V (listed.setIfInBounds i true) (a.put (some (slotOf i)) v) w' := by
  have hts := h.tsz
  have hsl : slotOf i < a.tmps.size := by rw [hts]; unfold slotOf; split <;> omega
  refine ⟨by simp [Act.put, hts], h.df, fun t ht => ?_, lo_trans h.lo hb, fun j hj hl => ?_⟩
  · have hne : slotOf i ≠ t := by unfold slotOf; split <;> omega
    exact (getD_put_ne hne).trans (h.fr t ht)
  · by_cases hij : i = j
    · subst hij
      show V i w' ((a.tmps.setIfInBounds (slotOf i) v).getD (slotOf i) undef)
      rw [getD_put_eq hsl]
      exact hv
    · have hne : slotOf i ≠ slotOf j := by unfold slotOf; split <;> split <;> omega
      rw [getD_set_ne false hij] at hl
      show V j w' ((a.tmps.setIfInBounds (slotOf i) v).getD (slotOf j) undef)
      rw [getD_put_ne hne]
      exact hV j w w' _ hb (h.vals j hj hl)
theorem wpOp_value {P : Program} {ops : Array Oper} {Q : Exit → Act → World → Prop} {i : Nat} {o : Oper} {v : Value} {a : Act} {w w' : World} {K : Act → World → Prop} (ho : ops[i]? = some o) (hg : o.guard = none)
    (hrun : (execOp a.eval o).run P w = .ok (.value v) w') (hK : K (a.put o.dst v) w') : wpOp P ops Q i K a w := by
  unfold wpOp
  rw [ho]
  have hw : Region.wanted o (yielded ops a.tmps) = true := by simp [Region.wanted, hg]
  simp only [hw, if_true]
  left
  unfold Oper.wp
  rw [hrun]
  exact hK
theorem wpOp_enter {P : Program} {ops : Array Oper} {Q : Exit → Act → World → Prop} {i : Nat} {o : Oper} {f : FuncId} {args : Array Value} {a : Act} {w w' : World} {K : Act → World → Prop} (ho : ops[i]? = some o) (hg : o.guard = none)
    (hrun : (execOp a.eval o).run P w = .ok (.enter f args) w') (hc : Calls P f args w' fun e w'' => ∃ v, e = .returned v ∧ K (a.put o.dst v) w'') : wpOp P ops Q i K a w := by
  unfold wpOp
  rw [ho]
  have hw : Region.wanted o (yielded ops a.tmps) = true := by simp [Region.wanted, hg]
  simp only [hw, if_true]
  left
  unfold Oper.wp
  rw [hrun]
  refine Calls.mono hc ?_
  rintro e w2 ⟨v, rfl, hK⟩
  exact hK

theorem ops_at (i : Nat) (h : i < 25) : swOps[i]? = some (swOps[i]'h) := Array.getElem?_eq_getElem h
def swT (D : Nat → Bs) : Nat → Bs
  | 0 => [115, 119, 105, 116, 99, 104, 32] ++ D 0
  | n + 1 => swT D n ++ (if n % 2 = 0 then (if n = 6 then [10] else [32]) else D ((n + 1) / 2))
theorem swT_len {D : Nat → Bs} (hD : ∀ j, (D j).length = 1) : ∀ n, (swT D n).length = 8 + n
  | 0 => by simp [swT, hD]
  | n + 1 => by
    rw [swT, List.length_append, swT_len hD n]
    split
    · split <;> rfl
    · rw [hD]; omega
def swV (gS : Nat) (q : Nat → Nat) (D : Nat → Bs) (j : Nat) (w : World) (v : Value) : Prop :=
  if j = 24 then v = .string (S (swT D 7)) else
  if j % 6 = 0 then v = .pointer (some ⟨gS, j / 6, none⟩) else
  if j % 6 = 1 then v = .int .i64 (q (j / 6) : Nat) else
  if j % 6 = 2 then ∃ g, v = .slice (some ⟨g, 0, none⟩) 1 1 ∧ Rd w (some ⟨g, 0, none⟩) 1 [(q (j / 6) : Int)] else
  if j % 6 = 3 then v = .string (S (D (j / 6))) else
  if j % 6 = 4 then v = .string (S (swT D (2 * (j / 6)))) else v = .string (S (swT D (2 * (j / 6) + 1)))
theorem swV_next (gS : Nat) (q : Nat → Nat) (D : Nat → Bs) : ∀ j w w' v, Below w.heap.size w w' → swV gS q D j w v → swV gS q D j w' v := by
  intro j w w' v hb h
  unfold swV at h ⊢
  split
  · rename_i h1; rw [if_pos h1] at h; exact h
  · rename_i h1; rw [if_neg h1] at h
    split
    · rename_i h2; rw [if_pos h2] at h; exact h
    · rename_i h2; rw [if_neg h2] at h
      split
      · rename_i h3; rw [if_pos h3] at h; exact h
      · rename_i h3; rw [if_neg h3] at h
        split
        · rename_i h4; rw [if_pos h4] at h
          obtain ⟨g, e, hR⟩ := h
          exact ⟨g, e, hR.next hb⟩
        · rename_i h4; rw [if_neg h4] at h; exact h
set_option maxHeartbeats 4000000 in
theorem sw_region {Q : Exit → Act → World → Prop} (a0 : Act) (w0 : World) (gS : Nat) (q : Nat → Nat) (D : Nat → Bs) (hsz : 76 < a0.tmps.size) (h4 : a0.tmps.getD 4 undef = .pointer (some ⟨gS, 0, none⟩))
    (hS : Blk w0 gS 44 #[.int .i64 (q 0 : Nat), .int .i64 (q 1 : Nat), .int .i64 (q 2 : Nat), .int .i64 (q 3 : Nat)])
    (hdg : ∀ j, j < 4 → ∀ (g : Nat) (w : World), Rd w (some ⟨g, 0, none⟩) 1 [(q j : Int)] → Calls Tryz.prog 21 #[.slice (some ⟨g, 0, none⟩) 1 1] w fun e w' => e = .returned (.string (S (D j))) ∧ Below w.heap.size w w') (hD : ∀ j, (D j).length = 1)
    (hQ : ∀ (a : Act) (w : World), a.tmps.size = a0.tmps.size → a.defers = a0.defers → (∀ t, (t < 53 ∧ t ≠ 9) ∨ 76 < t → a.tmps.getD t undef = a0.tmps.getD t undef) → a.tmps.getD 9 undef = .string (S (swT D 7)) → Below w0.heap.size w0 w → Q .normal a w) :
    (Code.region 8 swOps true).wp Tryz.prog Q a0 w0 := by
  refine wp_region_inv (by kernel_rfl) (SwI a0 w0 (swV gS q D)) swOps_back ⟨rfl, rfl, fun _ _ => rfl, Below.drew (Below.refl _ _), fun j hj hl => ?_⟩ ?_ ?_
  · rw [show swOps.size = 25 from rfl] at hl
    simp [hj] at hl
  rotate_left
  · intro listed a w hall hI
    have := hI.vals 24 (by omega) (hall 24 (by decide))
    exact hQ a w hI.tsz hI.df hI.fr this hI.lo
  intro listed a w i hs hI hi
  obtain ⟨h0, o, ho, hall⟩ := mem_ready.1 hi
  have hlt : i < 25 := (Array.getElem?_eq_some_iff.1 ho).1
  obtain rfl := Option.some.inj ((ops_at i hlt).symm.trans ho)
  clear ho hi h0
  rcases (by omega : i = 0 ∨ i = 1 ∨ i = 2 ∨ i = 3 ∨ i = 4 ∨ i = 5 ∨ i = 6 ∨ i = 7 ∨ i = 8 ∨ i = 9 ∨ i = 10 ∨ i = 11 ∨ i = 12 ∨ i = 13 ∨ i = 14 ∨ i = 15 ∨ i = 16 ∨ i = 17 ∨ i = 18 ∨ i = 19 ∨ i = 20 ∨ i = 21 ∨ i = 22 ∨ i = 23 ∨ i = 24) with rfl | rfl | rfl | rfl | rfl | rfl | rfl | rfl | rfl | rfl | rfl | rfl | rfl | rfl | rfl | rfl | rfl | rfl | rfl | rfl | rfl | rfl | rfl | rfl | rfl
  · have h4' : a.tmps[4]?.getD undef = .pointer (some ⟨gS, 0, none⟩) := by have := (hI.fr 4 (.inl ⟨by omega, by omega⟩)).trans h4; simpa using this
    refine wpOp_value (v := .pointer (some ⟨gS, 0, none⟩)) (w' := w) (ops_at 0 (by omega)) rfl (by (conv => lhs; arg 2; arg 2; whnf); simp [execOp, go_sem, Act.eval, h4']) ?_
    exact hI.put (swV_next _ _ _) (i := 0) (by omega) hsz (Below.refl _ _) rfl
  · have v0 := hI.vals 0 (by omega) (hall ⟨0, .data⟩ (Array.mem_of_getElem? (i := 0) rfl) rfl)
    simp only [swV, slotOf] at v0
    simp at v0
    have hc := (hS.next hI.lo).cell 0
    simp at hc
    refine wpOp_value (v := .int .i64 (q 0 : Nat)) (w' := w) (ops_at 1 (by omega)) rfl (by (conv => lhs; arg 2; arg 2; whnf); simp [execOp, go_sem, Act.eval, v0, hc]) ?_
    exact hI.put (swV_next _ _ _) (i := 1) (by omega) hsz (Below.refl _ _) rfl
  · have v1 := hI.vals 1 (by omega) (hall ⟨1, .data⟩ (Array.mem_of_getElem? (i := 0) rfl) rfl)
    simp only [swV, slotOf] at v1
    simp at v1
    refine wpOp_value (v := .slice (some ⟨w.heap.size, 0, none⟩) 1 1) (w' := w.alloc (.cells #[.int .i64 (q 0 : Nat)] 3)) (ops_at 2 (by omega)) rfl (by (conv => lhs; arg 2; arg 2; whnf); simp [execOp, go_sem, Act.eval, v1]) ?_
    exact hI.put (swV_next _ _ _) (i := 2) (by omega) hsz (lo_alloc (Below.refl _ _) _) ⟨w.heap.size, rfl, Rd.of_blk (cs := [(q 0 : Int)]) (Blk.new w 3 #[.int .i64 (q 0 : Nat)])⟩
  · have v2 := hI.vals 2 (by omega) (hall ⟨2, .data⟩ (Array.mem_of_getElem? (i := 0) rfl) rfl)
    simp only [swV, slotOf] at v2
    simp at v2
    obtain ⟨g, e, hR⟩ := v2
    refine wpOp_enter (f := 21) (args := #[.slice (some ⟨g, 0, none⟩) 1 1]) (w' := w) (ops_at 3 (by omega)) rfl (by (conv => lhs; arg 2; arg 2; whnf); simp [go_sem, Act.eval, e]) ?_
    refine (hdg 0 (by omega) g w hR).mono ?_
    rintro e2 w2 ⟨rfl, hb2⟩
    exact ⟨_, rfl, hI.put (swV_next _ _ _) (i := 3) (by omega) hsz hb2 rfl⟩
  · have v3 := hI.vals 3 (by omega) (hall ⟨3, .data⟩ (Array.mem_of_getElem? (i := 0) rfl) rfl)
    simp only [swV, slotOf] at v3
    simp at v3
    have kk : ∀ w, (Op.stringOp .add ({ data := #[115, 119, 105, 116, 99, 104, 32] } : ByteArray) (S (D 0))).run Tryz.prog w = .ok (.string (S (swT D 0))) w := fun w => cat_ok [115, 119, 105, 116, 99, 104, 32] (D 0) (by have := hD 0; simp; omega) w
    refine wpOp_value (v := .string (S (swT D 0))) (w' := w) (ops_at 4 (by omega)) rfl (by (conv => lhs; arg 2; arg 2; whnf); simp [execOp, go_sem, Act.eval, kk, v3]) ?_
    exact hI.put (swV_next _ _ _) (i := 4) (by omega) hsz (Below.refl _ _) rfl
  · have v4 := hI.vals 4 (by omega) (hall ⟨4, .data⟩ (Array.mem_of_getElem? (i := 0) rfl) rfl)
    simp only [swV, slotOf] at v4
    simp at v4
    have kk : ∀ w, (Op.stringOp .add (S (swT D 0)) ({ data := #[32] } : ByteArray)).run Tryz.prog w = .ok (.string (S (swT D 1))) w := fun w => cat_ok (swT D 0) [32] (by have := swT_len hD 0; simp; omega) w
    refine wpOp_value (v := .string (S (swT D 1))) (w' := w) (ops_at 5 (by omega)) rfl (by (conv => lhs; arg 2; arg 2; whnf); simp [execOp, go_sem, Act.eval, kk, v4]) ?_
    exact hI.put (swV_next _ _ _) (i := 5) (by omega) hsz (Below.refl _ _) rfl
  · have h4' : a.tmps[4]?.getD undef = .pointer (some ⟨gS, 0, none⟩) := by have := (hI.fr 4 (.inl ⟨by omega, by omega⟩)).trans h4; simpa using this
    refine wpOp_value (v := .pointer (some ⟨gS, 1, none⟩)) (w' := w) (ops_at 6 (by omega)) rfl (by (conv => lhs; arg 2; arg 2; whnf); simp [execOp, go_sem, Act.eval, h4']) ?_
    exact hI.put (swV_next _ _ _) (i := 6) (by omega) hsz (Below.refl _ _) rfl
  · have v6 := hI.vals 6 (by omega) (hall ⟨6, .data⟩ (Array.mem_of_getElem? (i := 0) rfl) rfl)
    simp only [swV, slotOf] at v6
    simp at v6
    have hc := (hS.next hI.lo).cell 1
    simp at hc
    refine wpOp_value (v := .int .i64 (q 1 : Nat)) (w' := w) (ops_at 7 (by omega)) rfl (by (conv => lhs; arg 2; arg 2; whnf); simp [execOp, go_sem, Act.eval, v6, hc]) ?_
    exact hI.put (swV_next _ _ _) (i := 7) (by omega) hsz (Below.refl _ _) rfl
  · have v7 := hI.vals 7 (by omega) (hall ⟨7, .data⟩ (Array.mem_of_getElem? (i := 0) rfl) rfl)
    simp only [swV, slotOf] at v7
    simp at v7
    refine wpOp_value (v := .slice (some ⟨w.heap.size, 0, none⟩) 1 1) (w' := w.alloc (.cells #[.int .i64 (q 1 : Nat)] 3)) (ops_at 8 (by omega)) rfl (by (conv => lhs; arg 2; arg 2; whnf); simp [execOp, go_sem, Act.eval, v7]) ?_
    exact hI.put (swV_next _ _ _) (i := 8) (by omega) hsz (lo_alloc (Below.refl _ _) _) ⟨w.heap.size, rfl, Rd.of_blk (cs := [(q 1 : Int)]) (Blk.new w 3 #[.int .i64 (q 1 : Nat)])⟩
  · have v8 := hI.vals 8 (by omega) (hall ⟨8, .data⟩ (Array.mem_of_getElem? (i := 0) rfl) rfl)
    simp only [swV, slotOf] at v8
    simp at v8
    obtain ⟨g, e, hR⟩ := v8
    refine wpOp_enter (f := 21) (args := #[.slice (some ⟨g, 0, none⟩) 1 1]) (w' := w) (ops_at 9 (by omega)) rfl (by (conv => lhs; arg 2; arg 2; whnf); simp [go_sem, Act.eval, e]) ?_
    refine (hdg 1 (by omega) g w hR).mono ?_
    rintro e2 w2 ⟨rfl, hb2⟩
    exact ⟨_, rfl, hI.put (swV_next _ _ _) (i := 9) (by omega) hsz hb2 rfl⟩
  · have v5 := hI.vals 5 (by omega) (hall ⟨5, .data⟩ (Array.mem_of_getElem? (i := 0) rfl) rfl)
    simp only [swV, slotOf] at v5
    simp at v5
    have v9 := hI.vals 9 (by omega) (hall ⟨9, .data⟩ (Array.mem_of_getElem? (i := 1) rfl) rfl)
    simp only [swV, slotOf] at v9
    simp at v9
    have kk : ∀ w, (Op.stringOp .add (S (swT D 1)) (S (D 1))).run Tryz.prog w = .ok (.string (S (swT D 2))) w := fun w => cat_ok (swT D 1) (D 1) (by have := hD 1; have := swT_len hD 1; omega) w
    refine wpOp_value (v := .string (S (swT D 2))) (w' := w) (ops_at 10 (by omega)) rfl (by (conv => lhs; arg 2; arg 2; whnf); simp [execOp, go_sem, Act.eval, kk, v5, v9]) ?_
    exact hI.put (swV_next _ _ _) (i := 10) (by omega) hsz (Below.refl _ _) rfl
  · have v10 := hI.vals 10 (by omega) (hall ⟨10, .data⟩ (Array.mem_of_getElem? (i := 0) rfl) rfl)
    simp only [swV, slotOf] at v10
    simp at v10
    have kk : ∀ w, (Op.stringOp .add (S (swT D 2)) ({ data := #[32] } : ByteArray)).run Tryz.prog w = .ok (.string (S (swT D 3))) w := fun w => cat_ok (swT D 2) [32] (by have := swT_len hD 2; simp; omega) w
    refine wpOp_value (v := .string (S (swT D 3))) (w' := w) (ops_at 11 (by omega)) rfl (by (conv => lhs; arg 2; arg 2; whnf); simp [execOp, go_sem, Act.eval, kk, v10]) ?_
    exact hI.put (swV_next _ _ _) (i := 11) (by omega) hsz (Below.refl _ _) rfl
  · have h4' : a.tmps[4]?.getD undef = .pointer (some ⟨gS, 0, none⟩) := by have := (hI.fr 4 (.inl ⟨by omega, by omega⟩)).trans h4; simpa using this
    refine wpOp_value (v := .pointer (some ⟨gS, 2, none⟩)) (w' := w) (ops_at 12 (by omega)) rfl (by (conv => lhs; arg 2; arg 2; whnf); simp [execOp, go_sem, Act.eval, h4']) ?_
    exact hI.put (swV_next _ _ _) (i := 12) (by omega) hsz (Below.refl _ _) rfl
  · have v12 := hI.vals 12 (by omega) (hall ⟨12, .data⟩ (Array.mem_of_getElem? (i := 0) rfl) rfl)
    simp only [swV, slotOf] at v12
    simp at v12
    have hc := (hS.next hI.lo).cell 2
    simp at hc
    refine wpOp_value (v := .int .i64 (q 2 : Nat)) (w' := w) (ops_at 13 (by omega)) rfl (by (conv => lhs; arg 2; arg 2; whnf); simp [execOp, go_sem, Act.eval, v12, hc]) ?_
    exact hI.put (swV_next _ _ _) (i := 13) (by omega) hsz (Below.refl _ _) rfl
  · have v13 := hI.vals 13 (by omega) (hall ⟨13, .data⟩ (Array.mem_of_getElem? (i := 0) rfl) rfl)
    simp only [swV, slotOf] at v13
    simp at v13
    refine wpOp_value (v := .slice (some ⟨w.heap.size, 0, none⟩) 1 1) (w' := w.alloc (.cells #[.int .i64 (q 2 : Nat)] 3)) (ops_at 14 (by omega)) rfl (by (conv => lhs; arg 2; arg 2; whnf); simp [execOp, go_sem, Act.eval, v13]) ?_
    exact hI.put (swV_next _ _ _) (i := 14) (by omega) hsz (lo_alloc (Below.refl _ _) _) ⟨w.heap.size, rfl, Rd.of_blk (cs := [(q 2 : Int)]) (Blk.new w 3 #[.int .i64 (q 2 : Nat)])⟩
  · have v14 := hI.vals 14 (by omega) (hall ⟨14, .data⟩ (Array.mem_of_getElem? (i := 0) rfl) rfl)
    simp only [swV, slotOf] at v14
    simp at v14
    obtain ⟨g, e, hR⟩ := v14
    refine wpOp_enter (f := 21) (args := #[.slice (some ⟨g, 0, none⟩) 1 1]) (w' := w) (ops_at 15 (by omega)) rfl (by (conv => lhs; arg 2; arg 2; whnf); simp [go_sem, Act.eval, e]) ?_
    refine (hdg 2 (by omega) g w hR).mono ?_
    rintro e2 w2 ⟨rfl, hb2⟩
    exact ⟨_, rfl, hI.put (swV_next _ _ _) (i := 15) (by omega) hsz hb2 rfl⟩
  · have v11 := hI.vals 11 (by omega) (hall ⟨11, .data⟩ (Array.mem_of_getElem? (i := 0) rfl) rfl)
    simp only [swV, slotOf] at v11
    simp at v11
    have v15 := hI.vals 15 (by omega) (hall ⟨15, .data⟩ (Array.mem_of_getElem? (i := 1) rfl) rfl)
    simp only [swV, slotOf] at v15
    simp at v15
    have kk : ∀ w, (Op.stringOp .add (S (swT D 3)) (S (D 2))).run Tryz.prog w = .ok (.string (S (swT D 4))) w := fun w => cat_ok (swT D 3) (D 2) (by have := hD 2; have := swT_len hD 3; omega) w
    refine wpOp_value (v := .string (S (swT D 4))) (w' := w) (ops_at 16 (by omega)) rfl (by (conv => lhs; arg 2; arg 2; whnf); simp [execOp, go_sem, Act.eval, kk, v11, v15]) ?_
    exact hI.put (swV_next _ _ _) (i := 16) (by omega) hsz (Below.refl _ _) rfl
  · have v16 := hI.vals 16 (by omega) (hall ⟨16, .data⟩ (Array.mem_of_getElem? (i := 0) rfl) rfl)
    simp only [swV, slotOf] at v16
    simp at v16
    have kk : ∀ w, (Op.stringOp .add (S (swT D 4)) ({ data := #[32] } : ByteArray)).run Tryz.prog w = .ok (.string (S (swT D 5))) w := fun w => cat_ok (swT D 4) [32] (by have := swT_len hD 4; simp; omega) w
    refine wpOp_value (v := .string (S (swT D 5))) (w' := w) (ops_at 17 (by omega)) rfl (by (conv => lhs; arg 2; arg 2; whnf); simp [execOp, go_sem, Act.eval, kk, v16]) ?_
    exact hI.put (swV_next _ _ _) (i := 17) (by omega) hsz (Below.refl _ _) rfl
  · have h4' : a.tmps[4]?.getD undef = .pointer (some ⟨gS, 0, none⟩) := by have := (hI.fr 4 (.inl ⟨by omega, by omega⟩)).trans h4; simpa using this
    refine wpOp_value (v := .pointer (some ⟨gS, 3, none⟩)) (w' := w) (ops_at 18 (by omega)) rfl (by (conv => lhs; arg 2; arg 2; whnf); simp [execOp, go_sem, Act.eval, h4']) ?_
    exact hI.put (swV_next _ _ _) (i := 18) (by omega) hsz (Below.refl _ _) rfl
  · have v18 := hI.vals 18 (by omega) (hall ⟨18, .data⟩ (Array.mem_of_getElem? (i := 0) rfl) rfl)
    simp only [swV, slotOf] at v18
    simp at v18
    have hc := (hS.next hI.lo).cell 3
    simp at hc
    refine wpOp_value (v := .int .i64 (q 3 : Nat)) (w' := w) (ops_at 19 (by omega)) rfl (by (conv => lhs; arg 2; arg 2; whnf); simp [execOp, go_sem, Act.eval, v18, hc]) ?_
    exact hI.put (swV_next _ _ _) (i := 19) (by omega) hsz (Below.refl _ _) rfl
  · have v19 := hI.vals 19 (by omega) (hall ⟨19, .data⟩ (Array.mem_of_getElem? (i := 0) rfl) rfl)
    simp only [swV, slotOf] at v19
    simp at v19
    refine wpOp_value (v := .slice (some ⟨w.heap.size, 0, none⟩) 1 1) (w' := w.alloc (.cells #[.int .i64 (q 3 : Nat)] 3)) (ops_at 20 (by omega)) rfl (by (conv => lhs; arg 2; arg 2; whnf); simp [execOp, go_sem, Act.eval, v19]) ?_
    exact hI.put (swV_next _ _ _) (i := 20) (by omega) hsz (lo_alloc (Below.refl _ _) _) ⟨w.heap.size, rfl, Rd.of_blk (cs := [(q 3 : Int)]) (Blk.new w 3 #[.int .i64 (q 3 : Nat)])⟩
  · have v20 := hI.vals 20 (by omega) (hall ⟨20, .data⟩ (Array.mem_of_getElem? (i := 0) rfl) rfl)
    simp only [swV, slotOf] at v20
    simp at v20
    obtain ⟨g, e, hR⟩ := v20
    refine wpOp_enter (f := 21) (args := #[.slice (some ⟨g, 0, none⟩) 1 1]) (w' := w) (ops_at 21 (by omega)) rfl (by (conv => lhs; arg 2; arg 2; whnf); simp [go_sem, Act.eval, e]) ?_
    refine (hdg 3 (by omega) g w hR).mono ?_
    rintro e2 w2 ⟨rfl, hb2⟩
    exact ⟨_, rfl, hI.put (swV_next _ _ _) (i := 21) (by omega) hsz hb2 rfl⟩
  · have v17 := hI.vals 17 (by omega) (hall ⟨17, .data⟩ (Array.mem_of_getElem? (i := 0) rfl) rfl)
    simp only [swV, slotOf] at v17
    simp at v17
    have v21 := hI.vals 21 (by omega) (hall ⟨21, .data⟩ (Array.mem_of_getElem? (i := 1) rfl) rfl)
    simp only [swV, slotOf] at v21
    simp at v21
    have kk : ∀ w, (Op.stringOp .add (S (swT D 5)) (S (D 3))).run Tryz.prog w = .ok (.string (S (swT D 6))) w := fun w => cat_ok (swT D 5) (D 3) (by have := hD 3; have := swT_len hD 5; omega) w
    refine wpOp_value (v := .string (S (swT D 6))) (w' := w) (ops_at 22 (by omega)) rfl (by (conv => lhs; arg 2; arg 2; whnf); simp [execOp, go_sem, Act.eval, kk, v17, v21]) ?_
    exact hI.put (swV_next _ _ _) (i := 22) (by omega) hsz (Below.refl _ _) rfl
  · have v22 := hI.vals 22 (by omega) (hall ⟨22, .data⟩ (Array.mem_of_getElem? (i := 0) rfl) rfl)
    simp only [swV, slotOf] at v22
    simp at v22
    have kk : ∀ w, (Op.stringOp .add (S (swT D 6)) ({ data := #[10] } : ByteArray)).run Tryz.prog w = .ok (.string (S (swT D 7))) w := fun w => cat_ok (swT D 6) [10] (by have := swT_len hD 6; simp; omega) w
    refine wpOp_value (v := .string (S (swT D 7))) (w' := w) (ops_at 23 (by omega)) rfl (by (conv => lhs; arg 2; arg 2; whnf); simp [execOp, go_sem, Act.eval, kk, v22]) ?_
    exact hI.put (swV_next _ _ _) (i := 23) (by omega) hsz (Below.refl _ _) rfl
  · have v23 := hI.vals 23 (by omega) (hall ⟨23, .data⟩ (Array.mem_of_getElem? (i := 0) rfl) rfl)
    simp only [swV, slotOf] at v23
    simp at v23
    refine wpOp_value (v := .string (S (swT D 7))) (w' := w) (ops_at 24 (by omega)) rfl (by (conv => lhs; arg 2; arg 2; whnf); simp [execOp, go_sem, Act.eval, v23]) ?_
    exact hI.put (swV_next _ _ _) (i := 24) (by omega) hsz (Below.refl _ _) rfl

def pick4 (x y z u : Nat) : Nat → Nat
  | 0 => x
  | 1 => y
  | 2 => z
  | _ => u
theorem pick4_le {x y z u k : Nat} (hx : x ≤ k) (hy : y ≤ k) (hz : z ≤ k) (hu : u ≤ k) : ∀ j, pick4 x y z u j ≤ k
  | 0 => hx
  | 1 => hy
  | 2 => hz
  | _ + 3 => hu
theorem swT_seven (D : Nat → Bs) : swT D 7 = kSwitch ++ [32] ++ D 0 ++ [32] ++ D 1 ++ [32] ++ D 2 ++ [32] ++ D 3 ++ [10] := by
  simp [swT, kSwitch]
theorem putL_size (g : Nat → Value) : ∀ (l : List Nat) (xs : Array Value), (l.foldl (fun xs j => xs.setIfInBounds j (g j)) xs).size = xs.size
  | [], _ => rfl
  | j :: l, xs => by rw [List.foldl_cons, putL_size g l, Array.size_setIfInBounds]
theorem putL_out (g : Nat → Value) {t : Nat} : ∀ (l : List Nat) (xs : Array Value), t ∉ l → (l.foldl (fun xs j => xs.setIfInBounds j (g j)) xs).getD t undef = xs.getD t undef
  | [], _, _ => rfl
  | j :: l, xs, h => by
    rw [List.foldl_cons, putL_out g l _ (fun hm => h (List.mem_cons_of_mem _ hm)), getD_put_ne (fun hj => h (by rw [← hj]; exact List.mem_cons_self ..))]
theorem putL_in (g : Nat → Value) {t : Nat} : ∀ (l : List Nat) (xs : Array Value), t ∈ l → t < xs.size → (l.foldl (fun xs j => xs.setIfInBounds j (g j)) xs).getD t undef = g t
  | [], _, h, _ => by cases h
  | j :: l, xs, h, ht => by
    rw [List.foldl_cons]
    by_cases hm : t ∈ l
    · exact putL_in g l _ hm (by rw [Array.size_setIfInBounds]; exact ht)
    · obtain rfl : t = j := by
        rcases List.mem_cons.1 h with h | h
        · exact h
        · exact (hm h).elim
      rw [putL_out g l _ hm, getD_put_eq ht]
theorem frame_back {a a0 : Act} (hsz : a.tmps.size = a0.tmps.size) (hd : a.defers = a0.defers) (hfr : ∀ t, (t < 53 ∧ t ≠ 9) ∨ 76 < t → a.tmps.getD t undef = a0.tmps.getD t undef) :
    a = ⟨(9 :: List.range' 53 24).foldl (fun xs j => xs.setIfInBounds j (a.tmps.getD j undef)) a0.tmps, a0.defers⟩ := by
  obtain ⟨at_, ad⟩ := a
  dsimp only at hsz hd hfr ⊢
  subst hd
  generalize hl : 9 :: List.range' 53 24 = l
  refine congrArg (fun x => Act.mk x a0.defers) ?_
  refine Array.ext (by rw [putL_size, hsz]) fun i h1 h2 => ?_
  have e1 : ∀ (xs : Array Value) (h : i < xs.size), xs[i] = xs.getD i undef := fun xs h => by simp [h]
  rw [e1 _ h1, e1 _ h2]
  by_cases hm : i ∈ l
  · rw [putL_in _ _ _ hm (by omega)]
  · rw [putL_out _ _ _ hm]
    refine hfr i ?_
    rw [← hl, List.mem_cons, List.mem_range'_1] at hm
    omega
end Go.Proofs.YtpeiolimdglmhaaGreatDoor
