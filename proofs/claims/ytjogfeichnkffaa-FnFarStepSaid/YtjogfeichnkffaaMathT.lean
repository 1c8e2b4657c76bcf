
/- Plain mathematics: the text of an image tells the image. -/
import Derived.Test.YtjogfeichnkffaaTx
import Derived.Test.YtjogfeichnkffaaMathO
namespace Go.Proofs.Ytjogfeichnkffaa

theorem chr01_ne (b : Bool) : chr01 b ≠ 10 := by cases b <;> decide
theorem chr01_inj {a b : Bool} (h : chr01 a = chr01 b) : a = b := by revert h; cases a <;> cases b <;> decide
def rowT (m r : Nat) : List UInt8 := (List.range m).map (fun j => chr01 (r.testBit j)) ++ [10]
theorem txt_row {h m : Nat} (xs : List Int) (hm : 1 ≤ m) {k : Nat} (hk : k < h) : ∀ j, j ≤ m → txtPre xs (cUpto h m k j) = txtPre xs (cUpto h m k 0) ++ (List.range j).map (fun j => chr01 (cellF xs k j)) ++ (if j = m then [10] else [])
  | 0, _ => by simp; omega
  | j + 1, hj => by
    have ih := txt_row xs hm hk j (by omega)
    rw [cUpto_succ hk (by omega), txtPre_snoc, ih, if_neg (by omega), List.append_nil, List.range_succ, List.map_append]
    simp
theorem txt_rows {h m : Nat} (xs : List Int) (hm : 1 ≤ m) : ∀ k, k ≤ h → txtPre xs (cUpto h m k 0) = (List.range k).flatMap (fun i => rowT m (xs[i]?.getD 0).toNat)
  | 0, _ => by
    have : cUpto h m 0 0 = [] := by
      have := cUpto_len h m 0 0
      exact List.eq_nil_of_length_eq_zero (by omega)
    rw [this]; rfl
  | k + 1, hk => by
    rw [cUpto_next, txt_row xs hm (by omega) m (Nat.le_refl _), txt_rows xs hm k (by omega), if_pos rfl, List.range_succ, List.flatMap_append, List.append_assoc]
    simp only [List.flatMap_cons, List.flatMap_nil, List.append_nil, rowT]
    rfl
theorem range_flatMap {β : Type} (g : Int → List β) : ∀ xs : List Int, (List.range xs.length).flatMap (fun i => g (xs[i]?.getD 0)) = xs.flatMap g
  | [] => rfl
  | x :: xs => by
    rw [List.length_cons, List.range_succ_eq_map, List.flatMap_cons, List.flatMap_map, List.flatMap_cons]
    have := range_flatMap g xs
    simp only [List.getElem?_cons_zero, Option.getD_some, List.getElem?_cons_succ]
    rw [this]
theorem textL_eq {m : Nat} (xs : List Int) (hm : 1 ≤ m) : textL m xs = xs.flatMap (fun x => rowT m x.toNat) := by
  rw [textL, txt_rows xs hm _ (Nat.le_refl _)]
  exact range_flatMap (fun x => rowT m x.toNat) xs
theorem rowT_cut {m m' r r' : Nat} {s s' : List UInt8} (h : rowT m r ++ s = rowT m' r' ++ s') : (List.range m).map (fun j => chr01 (r.testBit j)) = (List.range m').map (fun j => chr01 (r'.testBit j)) ∧ s = s' := by
  have key : ∀ (m r : Nat) (s : List UInt8), (rowT m r ++ s).takeWhile (· != 10) = (List.range m).map (fun j => chr01 (r.testBit j)) := by
    intro m r s
    rw [rowT, List.append_assoc, List.takeWhile_append_of_pos]
    · simp
    · intro a ha
      obtain ⟨j, _, rfl⟩ := List.mem_map.1 ha
      simpa using chr01_ne _
  have h1 := congrArg (List.takeWhile (· != 10)) h
  rw [key, key] at h1
  refine ⟨h1, ?_⟩
  rw [rowT, rowT, h1] at h
  exact List.append_cancel_left h
theorem bits_inj {m r r' : Nat} (hr : r < 2 ^ m) (hr' : r' < 2 ^ m) (h : (List.range m).map (fun j => chr01 (r.testBit j)) = (List.range m).map (fun j => chr01 (r'.testBit j))) : r = r' := by
  refine row_ext hr hr' (fun j hj => ?_)
  have := congrArg (fun l => l[j]?) h
  simp only [List.getElem?_map, List.getElem?_range hj, Option.map_some] at this
  exact chr01_inj (Option.some.inj this)
theorem text_rows {m m' : Nat} : ∀ {xs ys : List Int}, xs ≠ [] → (∀ x ∈ xs, 0 ≤ x ∧ x.toNat < 2 ^ m) → (∀ x ∈ ys, 0 ≤ x ∧ x.toNat < 2 ^ m') → xs.flatMap (fun x => rowT m x.toNat) = ys.flatMap (fun x => rowT m' x.toNat) → m = m' ∧ xs = ys
  | [], _, h, _, _, _ => absurd rfl h
  | x :: xs, [], _, _, _, e => by simp [rowT] at e
  | x :: xs, y :: ys, _, hx, hy, e => by
    rw [List.flatMap_cons, List.flatMap_cons] at e
    obtain ⟨h1, h2⟩ := rowT_cut e
    have hm : m = m' := by simpa using congrArg List.length h1
    subst hm
    have a := hx x (by simp)
    have b := hy y (by simp)
    have e1 := bits_inj a.2 b.2 h1
    have e2 : x = y := by omega
    subst e2
    refine ⟨rfl, ?_⟩
    cases xs with
    | nil =>
      cases ys with
      | nil => rfl
      | cons z zs => simp [rowT] at h2
    | cons z zs =>
      rw [(text_rows (xs := z :: zs) (ys := ys) (by simp) (fun w hw => hx w (by simp [hw])) (fun w hw => hy w (by simp [hw])) h2).2]
/-- two valid images with the same text are the same image -/
theorem text_inj {m m' : Nat} {xs ys : List Int} (h : okB (m : Int) xs = true) (h' : okB (m' : Int) ys = true) (e : textL m xs = textL m' ys) : m = m' ∧ xs = ys := by
  have b1 := okB_bd h
  have b2 := okB_bd h'
  rw [textL_eq xs (by omega), textL_eq ys (by omega)] at e
  exact text_rows (by rintro rfl; simp at b1) (okB_cells h) (okB_cells h') e
theorem textL_len {m : Nat} {xs : List Int} (h : okB (m : Int) xs = true) : (textL m xs).length ≤ 100 := by
  have b1 := okB_bd h
  have h1 := txtPre_len xs (cUpto xs.length m xs.length 0)
  have h2 := cUpto_len xs.length m xs.length 0
  have h3 : xs.length * m ≤ 6 * 6 := Nat.mul_le_mul (by omega) (by omega)
  rw [textL]; omega
end Go.Proofs.Ytjogfeichnkffaa
