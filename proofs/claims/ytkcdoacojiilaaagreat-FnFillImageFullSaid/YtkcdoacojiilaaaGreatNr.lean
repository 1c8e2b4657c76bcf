
/- Walks: how many images are reached, and how far; of the program and of the reference. -/
import Derived.Test.YtkcdoacojiilaaaGreatKi
namespace Go.Proofs.YtkcdoacojiilaaaGreat
open Go.RowKit Go.Maps
set_option maxRecDepth 100000

/-- how many images are reached, -1 for too great a one -/
def reachW (W : Int) (xs : List Int) : Int := if okB W xs = true ∧ xs.length * W.toNat ≤ 16 then ((reach W.toNat xs).length : Int) else -1
theorem reach_len_le {m : Nat} {xs : List Int} (h : okB (m : Int) xs = true) (hc : xs.length * m ≤ 16) : (reach m xs).length ≤ 65536 :=
  Nat.le_trans (bfs_len h _) (Nat.le_trans (Nat.pow_le_pow_right (by omega) hc) (by decide))
/-- the number that goes with an image -/
def farV (wk : List (List Int × Nat)) (z : List Int) : Int := match wk.find? (fun e => e.1 == z) with | some e => (e.2 : Int) | none => -1
theorem farV_mem {wk : List (List Int × Nat)} (hd : (wk.map (·.1)).Nodup) {e : List Int × Nat} (he : e ∈ wk) : farV wk e.1 = e.2 := by
  unfold farV
  cases hf : wk.find? (fun f => f.1 == e.1) with
  | none =>
    have := List.find?_eq_none.1 hf e he
    simp at this
  | some f =>
    have h1 := List.mem_of_find?_eq_some hf
    have h2 : f.1 = e.1 := by simpa using List.find?_some hf
    rw [nodup_fst hd h1 he h2]
theorem farV_no {wk : List (List Int × Nat)} {z : List Int} (h : ∀ e ∈ wk, e.1 ≠ z) : farV wk z = -1 := by
  unfold farV
  cases hf : wk.find? (fun f => f.1 == z) with
  | none => rfl
  | some f =>
    have h1 := List.mem_of_find?_eq_some hf
    have h2 : f.1 = z := by simpa using List.find?_some hf
    exact absurd h2 (h f h1)
/-- how far an image is, -1 if it is not reached -/
def farW (W : Int) (xs : List Int) (V : Int) (ys : List Int) : Int :=
  if okB W xs = true ∧ okB V ys = true ∧ W = V ∧ xs.length = ys.length ∧ xs.length * W.toNat ≤ 12 then farV (reach W.toNat xs) ys else -1
theorem reach_ok {m : Nat} {xs : List Int} (h : okB (m : Int) xs = true) : ∀ e ∈ reach m xs, okB (m : Int) e.1 = true ∧ e.1.length = xs.length := fun _ he => path_ok h (reach_path he)

/-- what the map tells of an image -/
theorem farW_map {D : DataW Unit} {m k : Nat} {xs ys : List Int} (h : okB (m : Int) xs = true) (h' : okB (k : Int) ys = true) (hc : xs.length * m ≤ 12) (hm : MapIs D m (reach m xs)) :
    (Maps.has D (kT (textL k ys)) = false → farW m xs k ys = -1) ∧ (Maps.has D (kT (textL k ys)) = true → ∀ c : Int, D.atKey (kT (textL k ys)) (.lit (.int .i64 0)) = .lit (.int .i64 c) → farW m xs k ys = c) := by
  constructor
  · intro hf
    unfold farW
    split
    · rename_i hs
      refine farV_no fun e he e1 => ?_
      have hmk : m = k := by have := hs.2.2.1; omega
      subst hmk
      rw [hm.has] at hf
      have : (reach m xs).any (fun e => textL m e.1 == textL m ys) = true := List.any_eq_true.2 ⟨e, by simpa using he, by simp [e1]⟩
      rw [hf] at this; cases this
    · rfl
  · intro ht c hc2
    rw [hm.has, List.any_eq_true] at ht
    obtain ⟨e, he, h1⟩ := ht
    have he2 := reach_ok h e he
    obtain ⟨hmk, h2⟩ := text_inj he2.1 h' (by simpa using h1)
    subst hmk; subst h2
    rw [hm.at_ e he] at hc2
    have hc3 : (e.2 : Int) = c := by cases hc2; rfl
    unfold farW
    rw [if_pos ⟨h, h', rfl, he2.2.symm, by simpa using hc⟩]
    rw [Int.toNat_natCast, farV_mem (reach_nodup m xs) he, hc3]

/-- what the list of steps tells of an image -/
theorem farW_steps {S : List Int} {m : Nat} {xs ys : List Int} (h : okB (m : Int) xs = true) (h' : okB (m : Int) ys = true) (hl : xs.length = ys.length) (hc : xs.length * m ≤ 12) (hS : StepsIs S m (2 ^ (xs.length * m)) (reach m xs)) :
    farW m xs m ys = S[keyN m ys]?.getD 0 := by
  unfold farW
  rw [if_pos ⟨h, h', rfl, hl, by simpa using hc⟩, Int.toNat_natCast]
  cases hs : seen (reach m xs) ys with
  | true =>
    obtain ⟨e, he, rfl⟩ := seen_iff.1 hs
    rw [hS.2.1 e he, farV_mem (reach_nodup m xs) he]
  | false =>
    rw [hS.2.2 (keyN m ys) (by rw [hl]; exact keyN_bd h') (seen_key (n := xs.length) (reach_ok h) h' hl.symm hs)]
    exact farV_no fun e he e1 => by rw [seen_iff.2 ⟨e, he, e1⟩] at hs; cases hs

theorem farW_no {W V : Int} {xs ys : List Int} (h : ¬ (okB W xs = true ∧ okB V ys = true ∧ W = V ∧ xs.length = ys.length ∧ xs.length * W.toNat ≤ 12)) : farW W xs V ys = -1 := if_neg h
theorem mulI (n m : Nat) (hn : n ≤ 6) (hm : m ≤ 6) : (0 : Int) ≤ (n : Int) * (m : Int) ∧ (n : Int) * (m : Int) ≤ 36 ∧ ∀ k : Nat, ((k : Int) < (n : Int) * (m : Int) ↔ ¬ n * m ≤ k) := by
  have hmul : (n : Int) * (m : Int) = ((n * m : Nat) : Int) := by simp
  have hmul3 : n * m ≤ 6 * 6 := Nat.mul_le_mul hn hm
  exact ⟨by omega, by omega, fun k => by omega⟩

def shapeB (W : Int) (xs : List Int) (V : Int) (ys : List Int) : Bool := okB W xs && okB V ys && decide (W = V) && decide (xs.length = ys.length)

end Go.Proofs.YtkcdoacojiilaaaGreat
