/- Plain facts and walks that the law's proof uses; each says its own conditions. -/
import Derived.Orders
-- A region that draws its order, by an invariant over the operations that have come up: each operation is shown once, whatever has come before it. No program in sight.
namespace Go.Proofs.YtpeiolimdglmhaaGreatDoor

section
variable {P : Program} {ops : Array Oper} {Q : Exit → Act → World → Prop} {md : Region.Mode}

theorem countP_lt {α : Type} {p q : α → Bool} : ∀ {l : List α}, (∀ x ∈ l, p x = true → q x = true) → (∃ x ∈ l, q x = true ∧ p x = false) → l.countP p < l.countP q
  | [], _, h => by obtain ⟨x, hx, _⟩ := h; cases hx
  | y :: l, hm, h => by
    have hle : l.countP p ≤ l.countP q := List.countP_mono_left fun x hx => hm x (List.mem_cons_of_mem _ hx)
    rw [List.countP_cons, List.countP_cons]
    cases hp : p y with
    | true =>
      have hq := hm y (List.mem_cons_self ..) hp
      obtain ⟨x, hx, h1, h2⟩ := h
      rcases List.mem_cons.1 hx with rfl | hx
      · rw [hp] at h2; cases h2
      · have := countP_lt (fun x hx => hm x (List.mem_cons_of_mem _ hx)) ⟨x, hx, h1, h2⟩
        simp only [hq, if_true]
        omega
    | false =>
      cases hq : q y with
      | true => simp; omega
      | false =>
        obtain ⟨x, hx, h1, h2⟩ := h
        rcases List.mem_cons.1 hx with rfl | hx
        · rw [hq] at h1; cases h1
        · have := countP_lt (fun x hx => hm x (List.mem_cons_of_mem _ hx)) ⟨x, hx, h1, h2⟩
          simp only [Bool.false_eq_true, if_false]
          omega
/-- how many operations have not come up -/
def unlisted (ops : Array Oper) (listed : Array Bool) : Nat := (List.range ops.size).countP (fun i => !listed.getD i true)
theorem unlisted_lt {listed : Array Bool} {i : Nat} (h : i ∈ Region.ready md ops listed) : unlisted ops (listed.setIfInBounds i true) < unlisted ops listed := by
  obtain ⟨h0, o, ho, _⟩ := mem_ready.1 h
  have hlt : i < ops.size := (Array.getElem?_eq_some_iff.1 ho).1
  refine countP_lt (fun j _ hj => ?_) ⟨i, List.mem_range.2 hlt, by rw [h0]; rfl, ?_⟩
  · by_cases hij : i = j
    · subst hij; rw [h0]; rfl
    · rwa [getD_set_ne true hij] at hj
  · have hl : i < listed.size := by
      rcases Nat.lt_or_ge i listed.size with h' | h'
      · exact h'
      · simp [Array.getElem?_eq_none h'] at h0
    simp [hl]
/-- every edge leads back -/
def backB (ops : Array Oper) : Bool := (List.range ops.size).all fun j => (((ops[j]?).map (·.after.all fun e => decide (e.on < j))).getD true)
theorem all_listed {listed : Array Bool} (hb : backB ops = true) (hs : listed.size = ops.size) (hr : Region.ready md ops listed = []) : ∀ j, j < ops.size → listed.getD j false = true := by
  intro j
  induction j using Nat.strongRecOn with
  | _ j ih =>
    intro hj
    cases hl : listed.getD j false with
    | true => rfl
    | false =>
      have h0 : listed.getD j true = false := by
        have : j < listed.size := by omega
        simp [this] at hl ⊢
        exact hl
      have hm : j ∈ Region.ready md ops listed := mem_ready.2 ⟨h0, ops[j], Array.getElem?_eq_getElem hj, fun e he _ => by
        have h1 := List.all_eq_true.1 hb j (List.mem_range.2 hj)
        rw [Array.getElem?_eq_getElem hj] at h1
        simp only [Option.map_some, Option.getD_some] at h1
        have h2 := (Array.all_eq_true_iff_forall_mem.1 h1) e he
        have h3 : e.on < j := of_decide_eq_true h2
        exact ih e.on h3 (by omega)⟩
      rw [hr] at hm
      cases hm
theorem wpAny_inv (I : Array Bool → Act → World → Prop) (hb : backB ops = true)
    (step : ∀ (listed : Array Bool) (a : Act) (w : World) (i : Nat), listed.size = ops.size → I listed a w → i ∈ Region.ready md ops listed → wpOp P ops Q i (I (listed.setIfInBounds i true)) a w)
    (fin : ∀ (listed : Array Bool) (a : Act) (w : World), (∀ j, j < ops.size → listed.getD j false = true) → I listed a w → Q .normal a w) :
    ∀ (fuel : Nat) (listed : Array Bool) (a : Act) (w : World), listed.size = ops.size → unlisted ops listed ≤ fuel → I listed a w → wpAny P md ops Q fuel listed a w
  | 0, listed, a, w, hs, hu, hI => by
    have hr : Region.ready md ops listed = [] := by
      rcases h : Region.ready md ops listed with _ | ⟨i, l⟩
      · rfl
      · have := unlisted_lt (md := md) (ops := ops) (listed := listed) (i := i) (by rw [h]; exact List.mem_cons_self ..)
        omega
    exact ⟨hr, fin listed a w (all_listed hb hs hr) hI⟩
  | fuel + 1, listed, a, w, hs, hu, hI => by
    refine ⟨fun hr => fin listed a w (all_listed hb hs hr) hI, fun i hi => ?_⟩
    refine wpOp_mono (fun a' w' h => wpAny_inv I hb step fin fuel _ a' w' (by simpa using hs) ?_ h) (step listed a w i hs hI hi)
    have := unlisted_lt hi
    omega
theorem wp_region_inv {id : Nat} {a : Act} {w : World} (hm : P.follows .mixedOrders = true) (I : Array Bool → Act → World → Prop) (hb : backB ops = true)
    (h0 : I (Array.replicate ops.size false) a { w with drawn := w.drawn + 1 })
    (step : ∀ (listed : Array Bool) (a : Act) (w : World) (i : Nat), listed.size = ops.size → I listed a w → i ∈ Region.ready .any ops listed → wpOp P ops Q i (I (listed.setIfInBounds i true)) a w)
    (fin : ∀ (listed : Array Bool) (a : Act) (w : World), (∀ j, j < ops.size → listed.getD j false = true) → I listed a w → Q .normal a w) :
    (Code.region id ops true).wp P Q a w :=
  wp_region_any hm (wpAny_inv I hb step fin ops.size _ _ _ (by simp) (by
    unfold unlisted
    exact Nat.le_trans List.countP_le_length (by simp)) h0)
end
end Go.Proofs.YtpeiolimdglmhaaGreatDoor
