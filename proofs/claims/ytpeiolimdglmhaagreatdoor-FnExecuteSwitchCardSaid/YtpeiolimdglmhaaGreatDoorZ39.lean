/- Plain facts and walks that the law's proof uses; each says its own conditions. -/
import Derived.Test.YtpeiolimdglmhaaGreatDoorZ38
import Derived.Test.YtpeiolimdglmhaaGreatDoorZ19
import Derived.Test.YtpeiolimdglmhaaGreatDoorZ13
import Derived.Test.YtpeiolimdglmhaaGreatDoorZ18
import Derived.Test.YtpeiolimdglmhaaGreatDoorZ14
import Derived.Test.YtpeiolimdglmhaaGreatDoorZ30
-- Scripts that begin with the rows of an image: what is said of them; the last line; rows and digits as a script's words.
namespace Go.Proofs.YtpeiolimdglmhaaGreatDoor
open Go.RowKit
set_option maxRecDepth 100000

theorem ne10_all {l : Bs} (h : ∀ c ∈ l, c ≠ 10) : ∀ c ∈ l, (c != 10) = true := fun c hc => by simpa using h c hc
theorem drop_ne {t : Bs} {p : Nat} (hp : p < t.length) (hx : t[p]?.getD 0 ≠ 10) (h : ∀ c ∈ t.drop (p + 1), c ≠ 10) : ∀ c ∈ t.drop p, c ≠ 10 := by
  intro c hc
  rw [List.drop_eq_getElem_cons hp] at hc
  rcases List.mem_cons.1 hc with rfl | h1
  · rwa [List.getElem?_eq_getElem hp, Option.getD_some] at hx
  · exact h c h1

theorem last_parts {o : Bs} (h : o ≠ []) : o = o.dropLast ++ [o.getLast h] ∧ o.getLast?.toList = [o.getLast h] := by
  refine ⟨(List.dropLast_concat_getLast h).symm, ?_⟩
  rcases List.eq_nil_or_concat o with rfl | ⟨a, x, rfl⟩
  · exact absurd rfl h
  · simp
theorem last_hit {o : Bs} {p : Nat} (hp : p + 1 < o.length) (hx : o[p]?.getD 0 = 10) (h : ∀ c ∈ o.dropLast.drop (p + 1), c ≠ 10) : lastL o = o.drop (p + 1) := by
  have hne : o ≠ [] := by rintro rfl; simp at hp
  obtain ⟨e1, e2⟩ := last_parts hne
  have hpd : p < o.dropLast.length := by rw [List.length_dropLast]; omega
  have hxd : o.dropLast[p] = 10 := by
    rw [List.getElem?_eq_getElem (by omega), Option.getD_some] at hx
    rw [List.getElem_dropLast]
    exact hx
  rw [lastL, e2]
  have e3 : o.drop (p + 1) = o.dropLast.drop (p + 1) ++ [o.getLast hne] := by
    conv => lhs; rw [e1]
    rw [List.drop_append_of_le_length (by omega)]
  rw [e3]
  have e4 : o.dropLast = (o.dropLast.take p ++ [10]) ++ o.dropLast.drop (p + 1) := by
    rw [← hxd, ← List.take_succ_eq_append_getElem hpd, List.take_append_drop]
  congr 1
  generalize o.dropLast.drop (p + 1) = b at e4 h
  generalize o.dropLast.take p = a at e4
  rw [e4, List.reverse_append, List.takeWhile_append_of_pos (fun c hc => ne10_all h c (List.mem_reverse.1 hc))]
  simp
theorem last_none {o : Bs} (h : ∀ c ∈ o.dropLast, c ≠ 10) : lastL o = o := by
  rcases Classical.em (o = []) with rfl | hne
  · rfl
  · obtain ⟨e1, e2⟩ := last_parts hne
    rw [lastL, e2]
    have := List.takeWhile_append_of_pos (l₁ := o.dropLast.reverse) (l₂ := []) (p := fun c => c != 10) (fun c hc => ne10_all h c (List.mem_reverse.1 hc))
    rw [List.append_nil] at this
    rw [this]
    simp only [List.takeWhile_nil, List.append_nil, List.reverse_reverse]
    exact e1.symm

set_option maxHeartbeats 2000000 in
theorem lastLine_c (o : Bs) (w : World) (hl : o.length ≤ 1000000000) : Calls Tryz.prog 18 #[.string (S o)] w fun e w' => e = .returned (.string (S (lastL o))) ∧ w = w' := by
  have hsz := S_size o
  by_cases h2 : o.length < 2
  · have hT := Lib.hid (show lastL o = o by
      refine last_none (fun c hc => ?_)
      have : o.dropLast.length = 0 := by rw [List.length_dropLast]; omega
      rw [List.eq_nil_of_length_eq_zero this] at hc
      cases hc)
    have g0 : decide ((0 : Int) ≤ (o.length : Int) - 2) = false := decide_eq_false (by omega)
    go_enter Tryz.func18, Tryz.ntmps18
    go_wp2
    go_loop [3] (fun i => i = .int .i64 ((o.length : Int) - 2)) (fun _ => 0)
    case atStart => rfl
    case round =>
      subst hrel
      go_wp2
      go_ret
      rw [hT.out]
      exact ⟨rfl, rfl⟩
  · go_enter Tryz.func18, Tryz.ntmps18
    go_wp2
    go_loop [3] (fun i => ∃ (k : Nat) (z : Int), k + 1 ≤ o.length ∧ z + 1 = (k : Int) ∧ i = .int .i64 z ∧ Hid (∀ c ∈ o.dropLast.drop k, c ≠ 10)) (fun i => (intOf i + 1).toNat)
    case atStart => exact ⟨o.length - 1, (o.length : Int) - 2, by omega, by omega, rfl, Lib.hid (fun c hc => by
      rw [List.drop_eq_nil_of_le (by rw [List.length_dropLast]; exact Nat.le_refl _)] at hc
      cases hc)⟩
    case round =>
      obtain ⟨k, z, hk, hz, rfl, hI⟩ := hrel
      rcases Nat.eq_zero_or_pos k with rfl | h0
      · obtain rfl : z = -1 := by omega
        have hT := Lib.hid (last_none (fun c hc => hI.out c (by simpa using hc)))
        go_wp2
        go_ret
        rw [hT.out]
        exact ⟨rfl, rfl⟩
      · obtain ⟨p, rfl⟩ : ∃ p, k = p + 1 := ⟨k - 1, by omega⟩
        obtain rfl : z = (p : Int) := by omega
        have hpl : p < o.length := by omega
        have hi := fun w => idx_ok o p hpl w
        have hx := fun (h : o[p]?.getD 0 = 10) => Lib.hid (last_hit (p := p) (by omega) h hI.out)
        have hdp : o.dropLast[p]?.getD 0 = o[p]?.getD 0 := by
          rw [List.getElem?_eq_getElem (by rw [List.length_dropLast]; omega), List.getElem?_eq_getElem hpl, Option.getD_some, Option.getD_some, List.getElem_dropLast]
        have hy := fun (h : o[p]?.getD 0 ≠ 10) => Lib.hid (drop_ne (t := o.dropLast) (p := p) (by rw [List.length_dropLast]; omega) (by rw [hdp]; exact h) hI.out)
        have hsl := fun w => slf_ok o (p + 1) (by omega) w
        have w3 : ((p + 1 : Nat) : Int) = (p : Int) + 1 := by omega
        rw [w3] at hsl
        have hxb := (o[p]?.getD 0).toNat_lt
        have gz : decide ((0 : Int) ≤ (p : Int)) = true := decide_eq_true (by omega)
        have hp64 : (p : Int) + 1 ≤ 1000000000 := by omega
        have hp0 : (0 : Int) ≤ (p : Int) + 1 := by omega
        generalize o[p]?.getD 0 = x at hi hx hy hxb
        clear hdp w3 hz
        by_cases h10 : x = 10
        · have g1 : (((x.toNat : Nat) : Int) == 10) = true := by subst h10; rfl
          have hT := hx h10
          clear hx hy h10
          go_wp2
          go_ret
          rw [hT.out]
          exact ⟨rfl, rfl⟩
        · have g1 : (((x.toNat : Nat) : Int) == 10) = false := by
            rw [beq_eq_false_iff_ne]
            intro e
            exact h10 (UInt8.toNat_inj.1 (by show x.toNat = 10; omega))
          have hN := hy h10
          clear hx hy h10
          go_wp2
          go_round
          case rel => exact ⟨p, (p : Int) - 1, by omega, by omega, rfl, hN⟩
          case measure => simp [intOf]; try omega

/-! a script of rows -/
theorem snocInd {α : Type} {P : List α → Prop} (h0 : P []) (h1 : ∀ xs x, P xs → P (xs ++ [x])) (xs : List α) : P xs := by
  rw [← List.reverse_reverse xs]
  induction xs.reverse with
  | nil => exact h0
  | cons x ys ih => rw [List.reverse_cons]; exact h1 _ _ ih
theorem rowV_rowJ {q m : Nat} (h : q < 2 ^ m) : rowV (rowJ q m) = q := by
  rw [rowV, rowJ_len]
  refine (mkRow_congr (g := q.testBit) fun j hj => ?_).trans (mkRow_testBit h)
  rw [rowJ, List.getElem?_map, List.getElem?_range hj, Option.map_some, chr01]
  cases q.testBit j <;> rfl
theorem rowJ_ok {q m : Nat} (h1 : 1 ≤ m) (h6 : m ≤ 6) : rowOk (rowJ q m) = true := by
  rw [rowOk, rowJ_len]
  simp only [Bool.and_eq_true, decide_eq_true_eq, List.all_eq_true]
  refine ⟨⟨h1, h6⟩, fun c hc => ?_⟩
  obtain ⟨j, _, rfl⟩ := List.mem_map.1 hc
  unfold chr01
  split <;> rfl
theorem rowJ_no {c : UInt8} (h1 : c ≠ 35) (h2 : c ≠ 46) (q m : Nat) : c ∉ rowJ q m := by
  intro h
  obtain ⟨j, _, e⟩ := List.mem_map.1 h
  unfold chr01 at e
  split at e
  · exact h1 e.symm
  · exact h2 e.symm
/-- the lines of rows, as a script has them -/
def rowsL (ls : List Bs) : Bs := ls.flatMap (fun l => [114, 111, 119, 32] ++ l ++ [10])
theorem rowsL_snoc (ls : List Bs) (l : Bs) : rowsL (ls ++ [l]) = rowsL ls ++ ([114, 111, 119, 32] ++ l) ++ [10] := by simp [rowsL]
def linesJ (m : Nat) (xs : List Int) : List Bs := xs.map (fun x => rowJ x.toNat m)
theorem lines_text (m : Nat) (xs : List Int) : Full (txtI m xs) ∧ linesOf (txtI m xs) = linesJ m xs := by
  refine snocInd (P := fun xs => Full (txtI m xs) ∧ linesOf (txtI m xs) = linesJ m xs) ?_ ?_ xs
  · exact ⟨Full.nil, rfl⟩
  · intro xs x ih
    have e : txtI m (xs ++ [x]) = txtI m xs ++ rowJ x.toNat m ++ [10] := by
      unfold txtI
      rw [List.flatMap_append]
      simp [rowT, rowJ]
    rw [e]
    obtain ⟨h1, h2⟩ := ih.1.add (rowJ_no (c := 10) (by decide) (by decide) x.toNat m)
    refine ⟨h1, ?_⟩
    rw [h2, ih.2, linesJ, linesJ, List.map_append]
    rfl
def okN (n : Nat) : Bs := (List.replicate n [111, 107, 10]).flatten
theorem okN_snoc (n : Nat) : okN (n + 1) = okN n ++ [111, 107, 10] := by
  unfold okN
  rw [List.replicate_succ', List.flatten_append]
  simp
theorem okN_len (n : Nat) : (okN n).length = 3 * n := by
  induction n with
  | zero => rfl
  | succ n ih => rw [okN_snoc, List.length_append, ih]; simp; omega
theorem row_line {q m : Nat} : pcs 32 ([114, 111, 119, 32] ++ rowJ q m) = [kRow, rowJ q m] := by
  have := pcs_cat 32 kRow (rowJ q m)
  rw [pcs_none (rowJ_no (c := 32) (by decide) (by decide) q m), pcs_none (show (32 : UInt8) ∉ kRow by decide)] at this
  exact this
theorem rows_run {m : Nat} (h1 : 1 ≤ m) (h6 : m ≤ 6) (xs : List Int) : (∀ x ∈ xs, ∃ q : Nat, x = (q : Int) ∧ q < 2 ^ m) → xs.length ≤ 6 →
    Full (rowsL (linesJ m xs)) ∧ runS (linesOf (rowsL (linesJ m xs))) = ((if xs = [] then 0 else (m : Int), xs), okN xs.length) ∧ (rowsL (linesJ m xs)).length = xs.length * (m + 5) := by
  refine snocInd (P := fun xs => (∀ x ∈ xs, ∃ q : Nat, x = (q : Int) ∧ q < 2 ^ m) → xs.length ≤ 6 → Full (rowsL (linesJ m xs)) ∧ runS (linesOf (rowsL (linesJ m xs))) = ((if xs = [] then 0 else (m : Int), xs), okN xs.length) ∧ (rowsL (linesJ m xs)).length = xs.length * (m + 5)) ?_ ?_ xs
  · exact fun _ _ => ⟨Full.nil, rfl, by simp [rowsL, linesJ]⟩
  · intro xs x ih hx hl
    rw [List.length_append, List.length_singleton] at hl
    obtain ⟨f1, r1, l1⟩ := ih (fun y hy => hx y (List.mem_append_left _ hy)) (by omega)
    obtain ⟨q, rfl, hq⟩ := hx x (List.mem_append_right _ (List.mem_singleton.2 rfl))
    have hln : (10 : UInt8) ∉ ([114, 111, 119, 32] ++ rowJ q m) := by
      intro h
      rcases List.mem_append.1 h with h | h
      · revert h; decide
      · exact rowJ_no (by decide) (by decide) q m h
    have e : rowsL (linesJ m (xs ++ [(q : Int)])) = rowsL (linesJ m xs) ++ ([114, 111, 119, 32] ++ rowJ q m) ++ [10] := by
      rw [linesJ, List.map_append, List.map_singleton, rowsL_snoc, Int.toNat_natCast]
      rfl
    obtain ⟨f2, l2⟩ := f1.add hln
    rw [e]
    refine ⟨f2, ?_, ?_⟩
    · rw [l2, runS_snoc, r1, lineS, row_line, step_Row, exRow_yes (rowJ_ok h1 h6) (by simp only; omega) ?_, become, rowV_rowJ hq, rowJ_len]
      · simp only [List.length_append, List.length_singleton, okN_snoc]
        congr 2
        · rw [if_neg (by simp)]
      · rw [rowJ_len]
        by_cases hn : xs = []
        · left; simp [hn]
        · right; simp [hn]
    · rw [List.length_append, List.length_append, List.length_append, l1, rowJ_len, List.length_append, Nat.add_mul]
      simp; omega
theorem okB_mem {m : Nat} {xs : List Int} (h : okB (m : Int) xs = true) : ∀ x ∈ xs, ∃ q : Nat, x = (q : Int) ∧ q < 2 ^ m := by
  intro x hx
  obtain ⟨k, hk, rfl⟩ := List.mem_iff_getElem.1 hx
  obtain ⟨r, h1, h2⟩ := okB_row h rfl hk
  rw [List.getElem?_eq_getElem hk, Option.getD_some] at h1
  exact ⟨r, h1, h2⟩
/-- the rows of an image as a script -/
def scr (m : Nat) (xs : List Int) : Bs := rowsL (linesOf (textL m xs))
theorem scr_run {m : Nat} {xs : List Int} (h : okB (m : Int) xs = true) : Full (scr m xs) ∧ runS (linesOf (scr m xs)) = (((m : Int), xs), okN xs.length) ∧ (scr m xs).length ≤ 66 := by
  have hb := okB_bd h
  have e : scr m xs = rowsL (linesJ m xs) := by rw [scr, textL_eq xs (by omega)]; exact congrArg rowsL (lines_text m xs).2
  rw [e]
  obtain ⟨h1, h2, h3⟩ := rows_run (m := m) (by omega) (by omega) xs (okB_mem h) (by omega)
  refine ⟨h1, ?_, ?_⟩
  · rw [h2, if_neg (by intro e; rw [e] at hb; simp at hb)]
  · rw [h3]
    have := Nat.mul_le_mul (show xs.length ≤ 6 by omega) (show m + 5 ≤ 11 by omega)
    omega
theorem scr_exec {m : Nat} {xs : List Int} (h : okB (m : Int) xs = true) : execT (scr m xs) = okN xs.length ++ cellsT ((m : Int), xs) ∧ lastL (execT (scr m xs)) = cellsT ((m : Int), xs) := by
  obtain ⟨h1, h2, h3⟩ := scr_run h
  obtain ⟨e1, o, e2, e3⟩ := exec_last (t := scr m xs) (by omega)
  rw [h2] at e1 e2 e3
  subst e2
  exact ⟨e3, e1⟩
theorem scr_more {m : Nat} {xs : List Int} (h : okB (m : Int) xs = true) {l : Bs} (hl : (10 : UInt8) ∉ l) (hn : l.length ≤ 100) :
    execT (scr m xs ++ (l ++ [10])) = (okN xs.length ++ (stepS ((m : Int), xs) (pcs 32 l)).2) ++ cellsT (stepS ((m : Int), xs) (pcs 32 l)).1 := by
  obtain ⟨h1, h2, h3⟩ := scr_run h
  rw [← List.append_assoc, exec_add h1 hl (by omega), h2]
  rfl
theorem scr_two {m : Nat} {xs : List Int} (h : okB (m : Int) xs = true) {l l2 : Bs} (hl : (10 : UInt8) ∉ l) (hl2 : (10 : UInt8) ∉ l2) (hn : l.length ≤ 100) (hn2 : l2.length ≤ 100) {s s2 : Ig} {a a2 : Bs} (e1 : stepS ((m : Int), xs) (pcs 32 l) = (s, a)) (e2 : stepS s (pcs 32 l2) = (s2, a2)) :
    execT (scr m xs ++ (l ++ [10] ++ l2 ++ [10])) = ((okN xs.length ++ a) ++ a2) ++ cellsT s2 := by
  obtain ⟨h1, h2, h3⟩ := scr_run h
  obtain ⟨f2, l3⟩ := h1.add hl
  rw [show scr m xs ++ (l ++ [10] ++ l2 ++ [10]) = scr m xs ++ l ++ [10] ++ l2 ++ [10] by simp, exec_add f2 hl2 (by simp; omega), l3, runS_snoc, h2]
  simp only [lineS, e1, e2]
theorem cellsT_len (s : Ig) : (cellsT s).length ≤ 9 := by
  have := dec2_len (manyI s)
  simp [cellsT, tCells]
  omega
theorem show_step {m : Nat} {xs : List Int} (hk : okB (m : Int) xs = true) : stepS ((m : Int), xs) [kShow] = (((m : Int), xs), textL m xs) := by
  rw [step_Show]
  simp only [hk, if_true, Int.toNat_natCast]
  have hb := okB_bd hk
  show (((m : Int), xs), (textL m xs).dropLast ++ [10]) = _
  rw [textL_eq xs (by omega)]
  rcases List.eq_nil_or_concat xs with rfl | ⟨ys, y, rfl⟩
  · simp at hb
  · simp [rowT]
/-- the digits of small numbers -/
def digS (xs : List Int) : Bs := xs.map (fun x => UInt8.ofNat (48 + x.toNat))
theorem digS_len (xs : List Int) : (digS xs).length = xs.length := by simp [digS]

/-! walks -/
set_option maxHeartbeats 4000000 in
theorem rowsOf_c (t : Bs) (w : World) (hl : t.length ≤ 1000) : Calls Tryz.prog 17 #[.string (S t)] w fun e w' => e = .returned (.string (S (rowsL (linesOf t)))) ∧ w = w' := by
  have hsz := S_size t
  go_enter Tryz.func17, Tryz.ntmps17
  go_wp2
  go_loop [3, 4, 5] (fun v s i => ∃ (k : Nat) (d : List Bs) (u : Bs), k ≤ t.length ∧ i = .int .i64 k ∧ s = .int .i64 ((k - u.length : Nat) : Int) ∧ v = .string (S (rowsL d)) ∧ Hid (pcs 10 (t.take k) = d ++ [u]) ∧ (rowsL d).length + 5 * u.length ≤ 5 * k) (fun _ _ i => t.length - (intOf i).toNat)
  case atStart => exact ⟨0, [], [], Nat.zero_le _, rfl, rfl, rfl, Lib.hid rfl, by simp [rowsL]⟩
  case round =>
    obtain ⟨k, d, u, hk, rfl, rfl, rfl, hP, hdl⟩ := hrel
    obtain ⟨hu1, hu2⟩ := tail_piece hk hP.out
    by_cases hlt : k < t.length
    · have hi := fun w => idx_ok t k hlt w
      have hgt' := Lib.hid (show t.take (k + 1) = t.take k ++ [t[k]?.getD 0] by rw [take_snoc hlt, List.getElem?_eq_getElem hlt]; rfl)
      obtain ⟨s0, hs0⟩ : ∃ s0, s0 = k - u.length := ⟨_, rfl⟩
      have hx10 : t[k]?.getD 0 = 10 → (t.drop s0).take (k + 1 - s0) = u ++ [10] := by
        intro e
        have h1 : (t.take (k + 1)).drop s0 = u ++ [10] := by
          rw [take_snoc hlt, List.drop_append_of_le_length (by rw [List.length_take]; omega)]
          have h2 : t[k] = 10 := by rw [List.getElem?_eq_getElem hlt, Option.getD_some] at e; exact e
          rw [h2]
          congr 1
          rw [← hs0] at hu2
          rw [List.drop_take, show k - s0 = u.length by omega]
          exact hu2
        rw [← h1, List.drop_take]
      rw [← hs0]
      have hs0' := Lib.hid hs0
      have hsk : s0 ≤ k := by omega
      have hsl := fun w => slc_ok t s0 (k + 1) (by omega) (by omega) w
      have e3 : ((k + 1 : Nat) : Int) = (k : Int) + 1 := by omega
      rw [e3] at hsl
      generalize t[k]?.getD 0 = x at hi hgt' hx10
      have hcl := x.toNat_lt
      clear hu2 hs0 e3
      by_cases h10 : x = 10
      · have g1 : (((x.toNat : Nat) : Int) == 10) = true := by subst h10; rfl
        have hN := Lib.hid (show pcs 10 (t.take (k + 1)) = (d ++ [u]) ++ [[]] by rw [hgt'.out, h10]; exact Pc.hit hP.out)
        rw [hx10 h10] at hsl
        have hR := Lib.hid (rowsL_snoc d u)
        have c1 : ∀ w, (Op.stringOp .add (S (rowsL d)) ({ data := #[114, 111, 119, 32] } : ByteArray)).run Tryz.prog w = .ok (.string (S (rowsL d ++ [114, 111, 119, 32]))) w := fun w => cat_ok (rowsL d) [114, 111, 119, 32] (by simp; omega) w
        have c2 : ∀ w, (Op.stringOp .add (S (rowsL d ++ [114, 111, 119, 32])) (S (u ++ [10]))).run Tryz.prog w = .ok (.string (S (rowsL (d ++ [u])))) w := fun w => by
          have := cat_ok (rowsL d ++ [114, 111, 119, 32]) (u ++ [10]) (by simp; omega) w
          rw [hR.out]
          simpa using this
        have hlen : (rowsL (d ++ [u])).length + 5 * ([] : Bs).length ≤ 5 * (k + 1) := by rw [hR.out]; simp; omega
        obtain ⟨z1, hz1⟩ : ∃ z, Hid (rowsL (d ++ [u]) = z) := ⟨_, Lib.hid rfl⟩
        obtain ⟨z2, hz2⟩ : ∃ z, Hid (rowsL d ++ [114, 111, 119, 32] = z) := ⟨_, Lib.hid rfl⟩
        obtain ⟨z3, hz3⟩ : ∃ z, Hid (u ++ [10] = z) := ⟨_, Lib.hid rfl⟩
        rw [hz2.out] at c1
        rw [hz2.out, hz3.out, hz1.out] at c2
        rw [hz3.out] at hsl
        rw [hz1.out] at hlen
        clear h10 hx10
        go_wp2
        go_round
        case rel => exact ⟨k + 1, d ++ [u], [], by omega, by go_num, by go_num, by rw [hz1.out], hN, by rw [hz1.out]; exact hlen⟩
        case measure => simp [intOf]; omega
      · have g1 : (((x.toNat : Nat) : Int) == 10) = false := by
          rw [beq_eq_false_iff_ne]
          intro e
          exact h10 (UInt8.toNat_inj.1 (by show x.toNat = 10; omega))
        have hN := Lib.hid (show pcs 10 (t.take (k + 1)) = d ++ [u ++ [x]] by rw [hgt'.out]; exact Pc.miss h10 hP.out)
        have hs1' := Lib.hid (show s0 = k + 1 - (u ++ [x]).length by rw [List.length_append, List.length_singleton, hs0'.out]; omega)
        clear h10 hx10 hsl
        go_wp2
        go_round
        case rel => exact ⟨k + 1, d, u ++ [x], by omega, by go_num, by rw [← hs1'.out], rfl, hN, by rw [List.length_append, List.length_singleton]; omega⟩
        case measure => simp [intOf]; omega
    · obtain rfl : k = t.length := by omega
      have hP9 := hP.out
      rw [List.take_length] at hP9
      have hF := Lib.hid (show linesOf t = d by rw [linesOf, hP9, List.dropLast_concat])
      clear hP9
      go_wp2
      go_ret
      rw [hF.out]
      exact ⟨rfl, rfl⟩

set_option maxHeartbeats 4000000 in
theorem digitsOf_c (A : Option Addr) (n c : Nat) (xs : List Int) (w : World) (hr : Rd w A n xs) (hn : n ≤ 100) (hx : ∀ x ∈ xs, 0 ≤ x ∧ x ≤ 9) :
    Calls Tryz.prog 21 #[.slice A n c] w fun e w' => e = .returned (.string (S (digS xs))) ∧ Below w.heap.size w w' := by
  have hx' := Lib.hid hx
  have hxl := Lib.hid hr.1
  clear hx
  go_enter Tryz.func21, Tryz.ntmps21
  go_wp2
  go_loopw [3, 4] (fun v i wr => ∃ (k : Nat), k ≤ n ∧ i = .int .i64 k ∧ v = .string (S (digS (xs.take k))) ∧ Below w.heap.size w wr) (fun _ i _ => n - (intOf i).toNat)
  case atStart => exact ⟨0, Nat.zero_le _, rfl, rfl, Below.refl _ _⟩
  case round =>
    obtain ⟨k, hk, rfl, rfl, hL⟩ := hrel
    by_cases hlt : k < n
    · obtain ⟨b, off, rfl, hb, hc⟩ := (hr.next hL).at_ hlt
      have hkl : k < xs.length := by rw [hxl.out]; exact hlt
      have hxk := hx'.out _ (mem_at hkl)
      have hsn : digS (xs.take (k + 1)) = digS (xs.take k) ++ [UInt8.ofNat (48 + (xs[k]?.getD 0).toNat)] := by
        rw [take_snoc hkl, digS, List.map_append, List.getElem?_eq_getElem hkl]; rfl
      obtain ⟨q, hq⟩ : ∃ q : Nat, xs[k]?.getD 0 = (q : Int) := ⟨_, (Int.toNat_of_nonneg hxk.1).symm⟩
      rw [hq] at hc hsn hxk
      rw [Int.toNat_natCast] at hsn
      have hdl : (digS (xs.take k)).length ≤ 100 := by rw [digS_len, List.length_take]; omega
      have hk5 : Blk (wr.alloc (.cells #[.int .u8 (((48 + q : Nat) : Nat) : Int)] 5)) wr.heap.size 5 #[.int .u8 (((48 + q : Nat) : Nat) : Int)] := Blk.new _ _ _
      have hcv := conv_ok (48 + q) wr.heap.size (by omega) _ hk5
      have e1 : ((48 + q : Nat) : Int) = 48 + (q : Int) := by omega
      rw [e1] at hcv
      have hct := fun w => cat_ok (digS (xs.take k)) [UInt8.ofNat (48 + q)] (by simp; omega) w
      rw [← hsn] at hct
      have hL3 := lo_alloc hL (.cells #[.int .u8 (48 + (q : Int))] 5)
      generalize UInt8.ofNat (48 + q) = ch at hcv hct hsn
      obtain ⟨z1, hz1⟩ : ∃ z, Hid (digS (xs.take (k + 1)) = z) := ⟨_, Lib.hid rfl⟩
      rw [hz1.out] at hct
      obtain ⟨z2, hz2⟩ : ∃ z, Hid (digS (xs.take k) = z) := ⟨_, Lib.hid rfl⟩
      rw [hz2.out] at hct ⊢
      clear hsn hk5 e1 hq
      go_wp2
      go_roundw
      case rel => exact ⟨k + 1, by omega, by go_num, by rw [hz1.out], hL3⟩
      case measure => simp [intOf]; omega
    · obtain rfl : k = n := by omega
      have hF := Lib.hid (show xs.take k = xs by rw [List.take_of_length_le (Nat.le_of_eq hxl.out)])
      rw [hF.out]
      go_wp2
      go_ret
      exact ⟨rfl, hL⟩
end Go.Proofs.YtpeiolimdglmhaaGreatDoor

-- Walks: drawn images and sums of the laws on scripts; the text of an image that is none.
namespace Go.Proofs.YtpeiolimdglmhaaGreatDoor
open Go.RowKit
set_option maxRecDepth 100000

set_option maxHeartbeats 2000000 in
theorem DrawImageText_c (A : Option Addr) (n c : Nat) (w : World) (hr : RdB w A n) (hn : n ≤ 1048576) (hc : n ≤ c) :
    Calls Tryz.prog 11 #[.slice A n c] w (DrawnImg w) := by
  go_enter Tryz.func11, Tryz.ntmps11
  go_wp2_with fail
  refine (l6Open_c A n c _ (hr.next (by (repeat (first | exact Below.refl _ _ | assumption | refine lo_alloc ?_ _ | refine lo_set ?_ (by simp; try omega) _ | refine Below.drew ?_ | refine below_drewN ?_ _ | refine lo_trans ?_ (by assumption) | refine lo_wr ?_ (by assumption) (by omega))))) hn hc).mono ?_
  rintro e w1 ⟨b, rfl, hr1, hb1⟩
  have hK1 : Blk w1 w.heap.size _ _ := (Blk.new w 25 #[.int .i64 0, .slice none 0 0]).next hb1
  have hB1 : Below w.heap.size w w1 := by (repeat (first | exact Below.refl _ _ | assumption | refine lo_alloc ?_ _ | refine lo_set ?_ (by simp; try omega) _ | refine Below.drew ?_ | refine below_drewN ?_ _ | refine lo_trans ?_ (by assumption) | refine lo_wr ?_ (by assumption) (by omega)))
  have hbl := hr1.1
  rw [World.size_alloc] at hbl
  clear hb1
  go_wp2_with fail
  refine (l91Wrong_c _ b 0 36 _ hr1 (by omega) (by omega) (by omega)).mono ?_
  rintro e w2 ⟨W, X, x, k, q, xs, rfl, h1, h2, h3, hX, hg2, _, _⟩
  have hK2 := hK1.grown hg2 (by intro e; injection e; omega)
  have hB2 := lo_grown hB1 hg2 (by rintro g ⟨⟩; omega)
  have hs1 := hB1.size
  have hw1 := hK1.lt
  have r0 := hK2.cell 0
  have r1 := hK2.cell 1
  have f0 := hK2.frozen 0
  have f1 := hK2.frozen 1
  obtain ⟨s0, s1, hB5⟩ := fin_cells hK2 hB2 (.int .i64 W) (.slice X x k)
  have s0' := Lib.hid s0; have s1' := Lib.hid s1; clear s0 s1
  go_wp2
  refine bodyPost_ret (v := .agg #[.int .i64 W, .slice X x k]) (by simp [results, Tryz.results11, go_sem, s0'.out, s1'.out]) rfl ⟨W, X, x, k, xs, rfl, h3, ?_, hB5⟩
  exact ((hX.far_lo (p := ⟨w.heap.size, 0, none⟩) (by simp; omega) _).far_lo (p := ⟨w.heap.size, 1, none⟩) (by simp; omega) _).mono hs1

set_option maxHeartbeats 400000 in
theorem DrawSumsValid_c (A : Option Addr) (n c : Nat) (w : World) (hr : RdB w A n) (hn : n ≤ 1048576) (hc : n ≤ c) :
    Calls Tryz.prog 24 #[.slice A n c] w (DrawnTwoS w) := by
  go_enter Tryz.func24, Tryz.ntmps24
  go_wp2_with fail
  refine (l6Open_c A n c _ hr hn hc).mono ?_
  rintro e w1 ⟨b, rfl, hR1, hb1⟩
  have hz1 := hb1.size
  have hlo := hR1.1
  go_wp2_with fail
  refine (l91SumsWrong_c _ b 0 _ hR1 (by omega)).mono ?_
  rintro e w2 ⟨R, n, c, Q, m, d, q, xs, ys, rfl, hn, hm, hnc, hmd, hB, hQ, hG, hR, hq⟩
  go_wp2
  go_ret2
  exact ⟨_, _, _, _, _, _, _, _, rfl, hn, hm, hnc, hmd, hB.mono hz1, hQ.mono hz1, hb1.grown hG hz1 (by rintro _ ⟨⟩; exact hlo)⟩

set_option maxHeartbeats 400000 in
theorem DrawBuildImage_c (A : Option Addr) (n c : Nat) (w : World) (hr : RdB w A n) (hn : n ≤ 1048576) (hc : n ≤ c) :
    Calls Tryz.prog 32 #[.slice A n c] w (DrawnTwoS w) := by
  go_enter Tryz.func32, Tryz.ntmps32
  go_wp2_with fail
  refine (l6Open_c A n c _ hr hn hc).mono ?_
  rintro e w1 ⟨b, rfl, hR1, hb1⟩
  have hz1 := hb1.size
  have hlo := hR1.1
  go_wp2_with fail
  refine (l91SumsWrong_c _ b 0 _ hR1 (by omega)).mono ?_
  rintro e w2 ⟨R, n, c, Q, m, d, q, xs, ys, rfl, hn, hm, hnc, hmd, hB, hQ, hG, hR, hq⟩
  go_wp2
  go_ret2
  exact ⟨_, _, _, _, _, _, _, _, rfl, hn, hm, hnc, hmd, hB.mono hz1, hQ.mono hz1, hb1.grown hG hz1 (by rintro _ ⟨⟩; exact hlo)⟩

set_option maxHeartbeats 2000000 in
theorem spec_ImageText_no (W : Int) (A : Option Addr) (n c : Nat) (xs : List Int) (w : World) (hr : Rd w A n xs) (hn : n ≤ 1000) (hk : okB W xs = false) :
    Calls Tryz.prog 13 #[.agg #[.int .i64 W, .slice A n c]] w fun e w' => e = .returned (.string (S [])) ∧ Below w.heap.size w w' := by
  have hP := Blk.new w 25 #[.int .i64 W, .slice A n c]
  have hL0 := lo_alloc (Below.refl w.heap.size w) (.cells #[.int .i64 W, .slice A n c] 25)
  have hk' := Lib.hid hk
  clear hk
  go_enter Tryz.func13, Tryz.ntmps13
  go_wp2
  go_loopw [3, 4] (fun v i wr => i = .int .i64 0 ∧ v = .string (S []) ∧ Blk wr w.heap.size 25 #[.int .i64 W, .slice A n c] ∧ Below w.heap.size w wr) (fun _ _ _ => 0)
  case atStart => exact ⟨rfl, rfl, hP, hL0⟩
  case round =>
    clear hP hL0
    obtain ⟨rfl, rfl, hP, hL⟩ := hrel
    have p0 := hP.cell 0
    have p1 := hP.cell 1
    rcases Nat.eq_zero_or_pos n with rfl | h0
    · go_wp2
      go_ret
      exact ⟨rfl, hL⟩
    · go_wp2_with fail
      refine (spec_ImageValid_c _ _ _ _ xs _ (hr.next hL) (by omega)).mono ?_
      rw [hk'.out]
      rintro e w1 ⟨rfl, hb1⟩
      go_wp2
      go_ret
      exact ⟨rfl, lo_trans hL hb1⟩
/-- the text of whatever image, by both -/
theorem text_impl (W : Int) (A : Option Addr) (n c : Nat) (xs : List Int) (w : World) (hr : Rd w A n xs) (hn : n ≤ 1000) :
    Calls Tryz.prog 12 #[.agg #[.int .i64 W, .slice A n c]] w fun e w' => e = .returned (.string (S (textW W xs))) ∧ Below w.heap.size w w' :=
  ImageText_c W A n c xs w hr (by omega)
theorem text_spec (W : Int) (A : Option Addr) (n c : Nat) (xs : List Int) (w : World) (hr : Rd w A n xs) (hn : n ≤ 1000) :
    Calls Tryz.prog 13 #[.agg #[.int .i64 W, .slice A n c]] w fun e w' => e = .returned (.string (S (textW W xs))) ∧ Below w.heap.size w w' := by
  cases hk : okB W xs with
  | false =>
    rw [show textW W xs = [] by rw [textW, hk]; rfl]
    exact spec_ImageText_no W A n c xs w hr hn hk
  | true =>
    have hb := okB_bd hk
    obtain ⟨m, rfl⟩ : ∃ m : Nat, W = (m : Int) := ⟨W.toNat, by omega⟩
    rw [show textW (m : Int) xs = textL m xs by rw [textW, hk, if_pos rfl, Int.toNat_natCast]]
    exact spec_ImageText_c m A n c xs w hr hk
theorem text_ne {m : Nat} {xs : List Int} (hk : okB (m : Int) xs = true) : textL m xs ≠ [] := by
  have hb := okB_bd hk
  rw [textL_eq xs (by omega)]
  match xs, hb.2.2.1 with
  | x :: t, _ => simp [rowT]
end Go.Proofs.YtpeiolimdglmhaaGreatDoor

-- Walks: an image and a switch are drawn.
namespace Go.Proofs.YtpeiolimdglmhaaGreatDoor
open Go.RowKit
set_option maxRecDepth 100000

def DrawnSw (w : World) (b : Nat) (e : Ending) (w' : World) : Prop :=
  ∃ x y z u : Nat, e = .returned (.agg #[.int .i64 (x : Nat), .int .i64 (y : Nat), .int .i64 (z : Nat), .int .i64 (u : Nat)]) ∧ (x ≤ 6 ∧ y ≤ 6 ∧ z ≤ 6 ∧ u ≤ 6) ∧ w.grownBy w' (some b)
set_option maxHeartbeats 4000000 in
theorem l92Switch_c (lo b p : Nat) (W : Int) (A : Option Addr) (n c : Nat) (xs : List Int) (w : World) (h : Rdr w lo b p) (hp : p ≤ 700000) (hX : Rd w A n xs) (hn : n ≤ 6) :
    Calls Tryz.prog 100 #[.pointer (some ⟨b, 0, none⟩), .agg #[.int .i64 W, .slice A n c]] w (DrawnSw w b) := by
  have hbz := h.lt
  have hC0 := heap_at2 w (.cells #[.int .i64 W, .slice A n c] 25) 44 #[.int .i64 0, .int .i64 0, .int .i64 0, .int .i64 0]
  have hL0 := lo_alloc (lo_alloc (Below.refl w.heap.size w) (.cells #[.int .i64 W, .slice A n c] 25)) (.cells #[.int .i64 0, .int .i64 0, .int .i64 0, .int .i64 0] 44)
  have hG0 : w.grownBy _ (some b) := grown_of_below hL0 (some b)
  have hR0 := h.next hL0
  have hX0 := hX.next hL0
  go_enter Tryz.func100, Tryz.ntmps100
  go_wp2_with fail
  refine (spec_SwitchList_c W A n c xs _ hX0 (by omega)).mono ?_
  rintro e w1 ⟨R, cR, rfl, hb1, hL⟩
  have hC1 := hC0.next hb1
  have hG1 := grown_trans hG0 (grown_of_below hb1 (some b))
  have hR1 := hR0.next hb1
  have hs1 := hb1.size
  rw [World.size_alloc, World.size_alloc] at hs1
  have hsw : Hid (∀ s ∈ swListW W xs, s.a ≤ 6 ∧ s.b ≤ 6 ∧ s.c ≤ 6 ∧ s.d ≤ 6) := Lib.hid (fun s hs => by
    rw [swListW] at hs
    split at hs
    · next hk =>
      have hbd := okB_bd hk
      have := (mem_swList.1 hs).1
      omega
    · cases hs)
  have hbL : ∀ g, R = some ⟨g, 0, none⟩ → b ≠ g := by
    intro g hg e
    subst e
    rcases hL.form with ⟨rfl, _⟩ | ⟨g', _, e', hg', _⟩
    · cases hg
    · rw [hg] at e'
      cases e'
      rw [World.size_alloc, World.size_alloc] at hg'
      omega
  clear hC0 hG0 hR0 hX0 hb1 hL0 h hX
  by_cases h0 : (swListW W xs).length = 0
  · rw [h0]
    clear hL hsw hbL
    go_wp2_with fail
    refine (pick_c lo b (p) _ _ hR1 (by omega)).mono ?_
    rintro e wp1 ⟨v1, rfl, hv1, hgp1, hrp1⟩
    have hvv1 := hv1 (by omega)
    have hCp1 := hC1.grown hgp1 (by intro e; injection e; omega)
    have hGp1 := grown_trans hG1 hgp1
    clear hv1 hgp1
    go_wp2_with fail
    refine (pick_c lo b (p + 1) _ _ hrp1 (by omega)).mono ?_
    rintro e wp2 ⟨v2, rfl, hv2, hgp2, hrp2⟩
    have hvv2 := hv2 (by omega)
    have hCp2 := hCp1.grown hgp2 (by intro e; injection e; omega)
    have hGp2 := grown_trans hGp1 hgp2
    clear hv2 hgp2
    go_wp2_with fail
    refine (pick_c lo b (p + 1 + 1) _ _ hrp2 (by omega)).mono ?_
    rintro e wp3 ⟨v3, rfl, hv3, hgp3, hrp3⟩
    have hvv3 := hv3 (by omega)
    have hCp3 := hCp2.grown hgp3 (by intro e; injection e; omega)
    have hGp3 := grown_trans hGp2 hgp3
    clear hv3 hgp3
    go_wp2_with fail
    refine (pick_c lo b (p + 1 + 1 + 1) _ _ hrp3 (by omega)).mono ?_
    rintro e wp4 ⟨v4, rfl, hv4, hgp4, hrp4⟩
    have hvv4 := hv4 (by omega)
    have hCp4 := hCp3.grown hgp4 (by intro e; injection e; omega)
    have hGp4 := grown_trans hGp3 hgp4
    clear hv4 hgp4
    have hf := (((hCp4.set_ 0 (.int .i64 (v1 : Nat))).set_ 1 (.int .i64 (v2 : Nat))).set_ 2 (.int .i64 (v3 : Nat))).set_ 3 (.int .i64 (v4 : Nat))
    have hG7 := grown_over (grown_over (grown_over (grown_over hGp4 (grown_set (w := wp4) (g := w.heap.size + 1) (k := 0) (.int .i64 (v1 : Nat))) (by rintro _ ⟨⟩; omega)) (grown_set (g := w.heap.size + 1) (k := 1) (.int .i64 (v2 : Nat))) (by rintro _ ⟨⟩; omega)) (grown_set (g := w.heap.size + 1) (k := 2) (.int .i64 (v3 : Nat))) (by rintro _ ⟨⟩; omega)) (grown_set (g := w.heap.size + 1) (k := 3) (.int .i64 (v4 : Nat))) (by rintro _ ⟨⟩; omega)
    have z0 := Lib.hid (hf.cell 0); have z1 := Lib.hid (hf.cell 1); have z2 := Lib.hid (hf.cell 2); have z3 := Lib.hid (hf.cell 3)
    have r0 := hCp4.cell 0; have r1 := hCp4.cell 1; have r2 := hCp4.cell 2; have r3 := hCp4.cell 3
    have f0 := hCp4.frozen 0; have f1 := hCp4.frozen 1; have f2 := hCp4.frozen 2; have f3 := hCp4.frozen 3
    clear hf
    go_wp2
    refine bodyPost_ret (v := .agg #[.int .i64 (v1 : Nat), .int .i64 (v2 : Nat), .int .i64 (v3 : Nat), .int .i64 (v4 : Nat)]) (by simp [results, Tryz.results100, go_sem, z0.out, z1.out, z2.out, z3.out]) rfl ⟨v1, v2, v3, v4, rfl, ⟨by omega, by omega, by omega, by omega⟩, hG7⟩
  · have hform := hL.addr.resolve_left (by
      rintro rfl
      rcases hL.form with ⟨_, e⟩ | ⟨_, _, e, _⟩
      · exact h0 (by rw [e]; rfl)
      · cases e)
    obtain ⟨gL, rfl⟩ := hform
    generalize swListW W xs = ss at hL h0 hsw
    have hls : 1 ≤ ss.length := by omega
    have hl0 : decide ((0 : Int) < (ss.length : Int)) = true := decide_eq_true (by omega)
    have hbg := hbL gL rfl
    clear hbL
    go_wp2_with fail
    refine (pick_c lo b p _ _ hR1 (by omega)).mono ?_
    rintro e w2 ⟨v, rfl, _, hg2, hr2⟩
    have hC2 := hC1.grown hg2 (by intro e; injection e; omega)
    have hG2 := grown_trans hG1 hg2
    have hL2 := BufW.kept hL hg2 (by rintro g ⟨⟩ e; injection e with e; exact hbg e)
    clear hC1 hG1 hR1 hL hg2
    by_cases hv0 : v = 0
    · subst hv0
      clear hL2 hsw
      go_wp2_with fail
      refine (pick_c lo b (p + 1) _ _ hr2 (by omega)).mono ?_
      rintro e wp1 ⟨v1, rfl, hv1, hgp1, hrp1⟩
      have hvv1 := hv1 (by omega)
      have hCp1 := hC2.grown hgp1 (by intro e; injection e; omega)
      have hGp1 := grown_trans hG2 hgp1
      clear hv1 hgp1
      go_wp2_with fail
      refine (pick_c lo b (p + 1 + 1) _ _ hrp1 (by omega)).mono ?_
      rintro e wp2 ⟨v2, rfl, hv2, hgp2, hrp2⟩
      have hvv2 := hv2 (by omega)
      have hCp2 := hCp1.grown hgp2 (by intro e; injection e; omega)
      have hGp2 := grown_trans hGp1 hgp2
      clear hv2 hgp2
      go_wp2_with fail
      refine (pick_c lo b (p + 1 + 1 + 1) _ _ hrp2 (by omega)).mono ?_
      rintro e wp3 ⟨v3, rfl, hv3, hgp3, hrp3⟩
      have hvv3 := hv3 (by omega)
      have hCp3 := hCp2.grown hgp3 (by intro e; injection e; omega)
      have hGp3 := grown_trans hGp2 hgp3
      clear hv3 hgp3
      go_wp2_with fail
      refine (pick_c lo b (p + 1 + 1 + 1 + 1) _ _ hrp3 (by omega)).mono ?_
      rintro e wp4 ⟨v4, rfl, hv4, hgp4, hrp4⟩
      have hvv4 := hv4 (by omega)
      have hCp4 := hCp3.grown hgp4 (by intro e; injection e; omega)
      have hGp4 := grown_trans hGp3 hgp4
      clear hv4 hgp4
      have hf := (((hCp4.set_ 0 (.int .i64 (v1 : Nat))).set_ 1 (.int .i64 (v2 : Nat))).set_ 2 (.int .i64 (v3 : Nat))).set_ 3 (.int .i64 (v4 : Nat))
      have hG7 := grown_over (grown_over (grown_over (grown_over hGp4 (grown_set (w := wp4) (g := w.heap.size + 1) (k := 0) (.int .i64 (v1 : Nat))) (by rintro _ ⟨⟩; omega)) (grown_set (g := w.heap.size + 1) (k := 1) (.int .i64 (v2 : Nat))) (by rintro _ ⟨⟩; omega)) (grown_set (g := w.heap.size + 1) (k := 2) (.int .i64 (v3 : Nat))) (by rintro _ ⟨⟩; omega)) (grown_set (g := w.heap.size + 1) (k := 3) (.int .i64 (v4 : Nat))) (by rintro _ ⟨⟩; omega)
      have z0 := Lib.hid (hf.cell 0); have z1 := Lib.hid (hf.cell 1); have z2 := Lib.hid (hf.cell 2); have z3 := Lib.hid (hf.cell 3)
      have r0 := hCp4.cell 0; have r1 := hCp4.cell 1; have r2 := hCp4.cell 2; have r3 := hCp4.cell 3
      have f0 := hCp4.frozen 0; have f1 := hCp4.frozen 1; have f2 := hCp4.frozen 2; have f3 := hCp4.frozen 3
      clear hf
      go_wp2
      refine bodyPost_ret (v := .agg #[.int .i64 (v1 : Nat), .int .i64 (v2 : Nat), .int .i64 (v3 : Nat), .int .i64 (v4 : Nat)]) (by simp [results, Tryz.results100, go_sem, z0.out, z1.out, z2.out, z3.out]) rfl ⟨v1, v2, v3, v4, rfl, ⟨by omega, by omega, by omega, by omega⟩, hG7⟩
    · have hv1 : decide ((0 : Int) < (v : Int)) = true := decide_eq_true (by omega)
      go_wp2_with fail
      refine (pick_c lo b (p + 1) _ _ hr2 (by omega)).mono ?_
      rintro e w5 ⟨x, rfl, hx, hg5, hr5⟩
      have hC5 := hC2.grown hg5 (by intro e; injection e; omega)
      have hG5 := grown_trans hG2 hg5
      have hL5 := BufW.kept hL2 hg5 (by rintro g ⟨⟩ e; injection e with e; exact hbg e)
      have hxl : x < ss.length := by have := hx (by omega); omega
      have hxi : (x : Int) < (ss.length : Int) := by omega
      have hxi0 : (0 : Int) ≤ (x : Int) := by omega
      obtain ⟨s, hs⟩ : ∃ s, ss[x]? = some s := ⟨ss[x], List.getElem?_eq_getElem hxl⟩
      obtain ⟨bL, oL, eL, hbL, hcL⟩ := hL5.rd.2 (by omega)
      cases eL
      obtain ⟨l0, l1, l2, l3⟩ := hcL x s hs
      simp only [Nat.zero_add, Nat.mul_comm 4 x] at l0 l1 l2 l3
      have hsb := hsw.out s (List.mem_of_getElem? hs)
      clear hcL hs hC2 hG2 hL2 hg5 hx hr2 hsw hL5
      have hf := (((hC5.set_ 0 (.int .i64 (s.a : Nat))).set_ 1 (.int .i64 (s.b : Nat))).set_ 2 (.int .i64 (s.c : Nat))).set_ 3 (.int .i64 (s.d : Nat))
      have hG7 := grown_over (grown_over (grown_over (grown_over hG5 (grown_set (w := w5) (g := w.heap.size + 1) (k := 0) (.int .i64 (s.a : Nat))) (by rintro _ ⟨⟩; omega)) (grown_set (g := w.heap.size + 1) (k := 1) (.int .i64 (s.b : Nat))) (by rintro _ ⟨⟩; omega)) (grown_set (g := w.heap.size + 1) (k := 2) (.int .i64 (s.c : Nat))) (by rintro _ ⟨⟩; omega)) (grown_set (g := w.heap.size + 1) (k := 3) (.int .i64 (s.d : Nat))) (by rintro _ ⟨⟩; omega)
      have z0 := Lib.hid (hf.cell 0); have z1 := Lib.hid (hf.cell 1); have z2 := Lib.hid (hf.cell 2); have z3 := Lib.hid (hf.cell 3)
      have r0 := hC5.cell 0; have r1 := hC5.cell 1; have r2 := hC5.cell 2; have r3 := hC5.cell 3
      have f0 := hC5.frozen 0; have f1 := hC5.frozen 1; have f2 := hC5.frozen 2; have f3 := hC5.frozen 3
      clear hf
      go_wp2
      refine bodyPost_ret (v := .agg #[.int .i64 (s.a : Nat), .int .i64 (s.b : Nat), .int .i64 (s.c : Nat), .int .i64 (s.d : Nat)]) (by simp [results, Tryz.results100, go_sem, z0.out, z1.out, z2.out, z3.out]) rfl ⟨s.a, s.b, s.c, s.d, rfl, hsb, hG7⟩

def DrawnImgSw (w : World) (e : Ending) (w' : World) : Prop :=
  ∃ (W : Int) (A : Option Addr) (n c : Nat) (xs : List Int) (x y z u : Nat), e = .returned (.tuple #[.agg #[.int .i64 W, .slice A n c], .agg #[.int .i64 (x : Nat), .int .i64 (y : Nat), .int .i64 (z : Nat), .int .i64 (u : Nat)]]) ∧ (x ≤ 6 ∧ y ≤ 6 ∧ z ≤ 6 ∧ u ≤ 6) ∧ n ≤ 6 ∧ Own w' w.heap.size A n xs ∧ Below w.heap.size w w'
set_option maxHeartbeats 4000000 in
theorem DrawSwitchOk_c (A : Option Addr) (n c : Nat) (w : World) (hr : RdB w A n) (hn : n ≤ 1048576) (hc : n ≤ c) :
    Calls Tryz.prog 59 #[.slice A n c] w (DrawnImgSw w) := by
  have hA0 := (Blk.new w 25 #[.int .i64 0, .slice none 0 0]).alloc (.cells #[.int .i64 0, .int .i64 0, .int .i64 0, .int .i64 0] 44)
  have hC0 := heap_at2 w (.cells #[.int .i64 0, .slice none 0 0] 25) 44 #[.int .i64 0, .int .i64 0, .int .i64 0, .int .i64 0]
  have hL0 := lo_alloc (lo_alloc (Below.refl w.heap.size w) (.cells #[.int .i64 0, .slice none 0 0] 25)) (.cells #[.int .i64 0, .int .i64 0, .int .i64 0, .int .i64 0] 44)
  go_enter Tryz.func59, Tryz.ntmps59
  go_wp2_with fail
  refine (l6Open_c A n c _ (hr.next hL0) hn hc).mono ?_
  rintro e w1 ⟨b, rfl, hr1, hb1⟩
  have hA1 := hA0.next hb1
  have hC1 := hC0.next hb1
  have hB1 := lo_trans hL0 hb1
  have hbl := hr1.1
  have hbz := hr1.lt
  rw [World.size_alloc, World.size_alloc] at hbl
  clear hA0 hC0 hL0 hb1
  go_wp2_with fail
  refine (l91Wrong_c _ b 0 36 _ hr1 (by omega) (by omega) (by omega)).mono ?_
  rintro e w2 ⟨W, X, x, k, q, xs, rfl, h1, h2, h3, hX, hg2, hR2, hq⟩
  have hs2 := hg2.size
  have hA2 := ((hA1.grown hg2 (by intro e; injection e; omega)).alloc (.cells #[.int .i64 W, .slice X x k] 25)).drew
  have hC2 := ((hC1.grown hg2 (by intro e; injection e; omega)).alloc (.cells #[.int .i64 W, .slice X x k] 25)).drew
  have hB2 := Below.drew (lo_alloc (lo_grown hB1 hg2 (by rintro g ⟨⟩; omega)) (.cells #[.int .i64 W, .slice X x k] 25))
  have hX2 := (hX.alloc (.cells #[.int .i64 W, .slice X x k] 25)).drew
  have hR3 := hR2.next (Below.drew (lo_alloc (Below.refl w2.heap.size w2) (.cells #[.int .i64 W, .slice X x k] 25)))
  have hK := (Blk.new w2 25 #[.int .i64 W, .slice X x k]).drew
  have k0 := (Blk.new w2 25 #[.int .i64 W, .slice X x k]).cell 0
  have k1 := (Blk.new w2 25 #[.int .i64 W, .slice X x k]).cell 1
  have d0 := hK.cell 0
  have d1 := hK.cell 1
  clear hA1 hC1 hB1 hX hr1 hR2 hg2
  go_wp2
  go_region_with
    (go_at_call 100
     refine (l92Switch_c _ b q W X x k xs _ hR3 (by omega) hX2.rd h3).mono ?_
     rintro e w5 ⟨y, z, u, v, rfl, hyz, hg5⟩
     have hA5 := hA2.grown hg5 (by intro e; injection e; omega)
     have hC5 := hC2.grown hg5 (by intro e; injection e; omega)
     have hK5 := hK.grown hg5 (by intro e; injection e; omega)
     have hX5 := hX2.grown_lo hg5 (by rintro g ⟨⟩; exact hbz)
     have hB5 := lo_grown hB2 hg5 (by rintro g ⟨⟩; omega)
     have kk0 := hK5.cell 0; have kk1 := hK5.cell 1
     have s0 := hA5.cell 0; have s1 := hA5.cell 1; have t0 := hA5.frozen 0; have t1 := hA5.frozen 1
     have c0 := hC5.cell 0; have c1 := hC5.cell 1; have c2 := hC5.cell 2; have c3 := hC5.cell 3
     have f0 := hC5.frozen 0; have f1 := hC5.frozen 1; have f2 := hC5.frozen 2; have f3 := hC5.frozen 3)
  all_goals
    have hA6 := (((((hA5.set_ 0 (.int .i64 W)).set_ 1 (.slice X x k)).far (p := ⟨w.heap.size + 1, 0, none⟩) (by simp) (.int .i64 (y : Nat))).far (p := ⟨w.heap.size + 1, 1, none⟩) (by simp) (.int .i64 (z : Nat))).far (p := ⟨w.heap.size + 1, 2, none⟩) (by simp) (.int .i64 (u : Nat))).far (p := ⟨w.heap.size + 1, 3, none⟩) (by simp) (.int .i64 (v : Nat))
    have hC6 := (((((hC5.far (p := ⟨w.heap.size, 0, none⟩) (by simp) (.int .i64 W)).far (p := ⟨w.heap.size, 1, none⟩) (by simp) (.slice X x k)).set_ 0 (.int .i64 (y : Nat))).set_ 1 (.int .i64 (z : Nat))).set_ 2 (.int .i64 (u : Nat))).set_ 3 (.int .i64 (v : Nat))
    have hX6 := (((((hX5.far_lo (p := ⟨w.heap.size, 0, none⟩) (by simp; try omega) (.int .i64 W)).far_lo (p := ⟨w.heap.size, 1, none⟩) (by simp; try omega) (.slice X x k)).far_lo (p := ⟨w.heap.size + 1, 0, none⟩) (by simp; try omega) (.int .i64 (y : Nat))).far_lo (p := ⟨w.heap.size + 1, 1, none⟩) (by simp; try omega) (.int .i64 (z : Nat))).far_lo (p := ⟨w.heap.size + 1, 2, none⟩) (by simp; try omega) (.int .i64 (u : Nat))).far_lo (p := ⟨w.heap.size + 1, 3, none⟩) (by simp; try omega) (.int .i64 (v : Nat))
    have hB6 := lo_set (lo_set (lo_set (lo_set (lo_set (lo_set hB5 (p := ⟨w.heap.size, 0, none⟩) (by simp) (.int .i64 W)) (p := ⟨w.heap.size, 1, none⟩) (by simp) (.slice X x k)) (p := ⟨w.heap.size + 1, 0, none⟩) (by simp) (.int .i64 (y : Nat))) (p := ⟨w.heap.size + 1, 1, none⟩) (by simp) (.int .i64 (z : Nat))) (p := ⟨w.heap.size + 1, 2, none⟩) (by simp) (.int .i64 (u : Nat))) (p := ⟨w.heap.size + 1, 3, none⟩) (by simp) (.int .i64 (v : Nat))
    have z0 := Lib.hid (hA6.cell 0); have z1 := Lib.hid (hA6.cell 1); have z2 := Lib.hid (hC6.cell 0); have z3 := Lib.hid (hC6.cell 1); have z4 := Lib.hid (hC6.cell 2); have z5 := Lib.hid (hC6.cell 3)
    clear hA6 hC6
    have hX7 := hX6.mono (lo' := w.heap.size) (by omega)
    clear hX6 hA5 hC5 hK5 hX5 hB5 hA2 hC2 hX2 hB2 hK kk0 kk1 k0 k1 d0 d1
    go_wp2
    exact bodyPost_ret (v := .tuple #[.agg #[.int .i64 W, .slice X x k], .agg #[.int .i64 (y : Nat), .int .i64 (z : Nat), .int .i64 (u : Nat), .int .i64 (v : Nat)]]) (by simp [results, Tryz.results59, go_sem, z0.out, z1.out, z2.out, z3.out, z4.out, z5.out]) rfl ⟨W, X, x, k, xs, y, z, u, v, rfl, hyz, h3, hX7, hB6⟩
set_option maxHeartbeats 4000000 in
theorem DrawSwitchDo_c (A : Option Addr) (n c : Nat) (w : World) (hr : RdB w A n) (hn : n ≤ 1048576) (hc : n ≤ c) :
    Calls Tryz.prog 28 #[.slice A n c] w (DrawnImgSw w) := by
  have hA0 := (Blk.new w 25 #[.int .i64 0, .slice none 0 0]).alloc (.cells #[.int .i64 0, .int .i64 0, .int .i64 0, .int .i64 0] 44)
  have hC0 := heap_at2 w (.cells #[.int .i64 0, .slice none 0 0] 25) 44 #[.int .i64 0, .int .i64 0, .int .i64 0, .int .i64 0]
  have hL0 := lo_alloc (lo_alloc (Below.refl w.heap.size w) (.cells #[.int .i64 0, .slice none 0 0] 25)) (.cells #[.int .i64 0, .int .i64 0, .int .i64 0, .int .i64 0] 44)
  go_enter Tryz.func28, Tryz.ntmps28
  go_wp2_with fail
  refine (DrawSwitchOk_c A n c _ (hr.next hL0) hn hc).mono ?_
  rintro e w5 ⟨W, X, x, k, xs, y, z, u, v, rfl, hyz, h3, hX5, hb1⟩
  have hA5 := hA0.next hb1
  have hC5 := hC0.next hb1
  have hB5 := lo_trans hL0 hb1
  have s0 := hA5.cell 0; have s1 := hA5.cell 1; have t0 := hA5.frozen 0; have t1 := hA5.frozen 1
  have c0 := hC5.cell 0; have c1 := hC5.cell 1; have c2 := hC5.cell 2; have c3 := hC5.cell 3
  have f0 := hC5.frozen 0; have f1 := hC5.frozen 1; have f2 := hC5.frozen 2; have f3 := hC5.frozen 3
  have hA6 := (((((hA5.set_ 0 (.int .i64 W)).set_ 1 (.slice X x k)).far (p := ⟨w.heap.size + 1, 0, none⟩) (by simp) (.int .i64 (y : Nat))).far (p := ⟨w.heap.size + 1, 1, none⟩) (by simp) (.int .i64 (z : Nat))).far (p := ⟨w.heap.size + 1, 2, none⟩) (by simp) (.int .i64 (u : Nat))).far (p := ⟨w.heap.size + 1, 3, none⟩) (by simp) (.int .i64 (v : Nat))
  have hC6 := (((((hC5.far (p := ⟨w.heap.size, 0, none⟩) (by simp) (.int .i64 W)).far (p := ⟨w.heap.size, 1, none⟩) (by simp) (.slice X x k)).set_ 0 (.int .i64 (y : Nat))).set_ 1 (.int .i64 (z : Nat))).set_ 2 (.int .i64 (u : Nat))).set_ 3 (.int .i64 (v : Nat))
  have hX6 := (((((hX5.far_lo (p := ⟨w.heap.size, 0, none⟩) (by simp; try omega) (.int .i64 W)).far_lo (p := ⟨w.heap.size, 1, none⟩) (by simp; try omega) (.slice X x k)).far_lo (p := ⟨w.heap.size + 1, 0, none⟩) (by simp; try omega) (.int .i64 (y : Nat))).far_lo (p := ⟨w.heap.size + 1, 1, none⟩) (by simp; try omega) (.int .i64 (z : Nat))).far_lo (p := ⟨w.heap.size + 1, 2, none⟩) (by simp; try omega) (.int .i64 (u : Nat))).far_lo (p := ⟨w.heap.size + 1, 3, none⟩) (by simp; try omega) (.int .i64 (v : Nat))
  have hB6 := lo_set (lo_set (lo_set (lo_set (lo_set (lo_set hB5 (p := ⟨w.heap.size, 0, none⟩) (by simp) (.int .i64 W)) (p := ⟨w.heap.size, 1, none⟩) (by simp) (.slice X x k)) (p := ⟨w.heap.size + 1, 0, none⟩) (by simp) (.int .i64 (y : Nat))) (p := ⟨w.heap.size + 1, 1, none⟩) (by simp) (.int .i64 (z : Nat))) (p := ⟨w.heap.size + 1, 2, none⟩) (by simp) (.int .i64 (u : Nat))) (p := ⟨w.heap.size + 1, 3, none⟩) (by simp) (.int .i64 (v : Nat))
  have z0 := Lib.hid (hA6.cell 0); have z1 := Lib.hid (hA6.cell 1); have z2 := Lib.hid (hC6.cell 0); have z3 := Lib.hid (hC6.cell 1); have z4 := Lib.hid (hC6.cell 2); have z5 := Lib.hid (hC6.cell 3)
  clear hA6 hC6
  have hX7 := hX6.mono (lo' := w.heap.size) (by simp; omega)
  clear hX6 hA5 hC5 hX5 hB5 hA0 hC0 hL0 hb1
  go_wp2
  exact bodyPost_ret (v := .tuple #[.agg #[.int .i64 W, .slice X x k], .agg #[.int .i64 (y : Nat), .int .i64 (z : Nat), .int .i64 (u : Nat), .int .i64 (v : Nat)]]) (by simp [results, Tryz.results28, go_sem, z0.out, z1.out, z2.out, z3.out, z4.out, z5.out]) rfl ⟨W, X, x, k, xs, y, z, u, v, rfl, hyz, h3, hX7, hB6⟩
end Go.Proofs.YtpeiolimdglmhaaGreatDoor

-- Plain facts: digits as a script's words are read back; a script of one line.
namespace Go.Proofs.YtpeiolimdglmhaaGreatDoor
open Go.RowKit
set_option maxRecDepth 100000

theorem dig_byte {q : Nat} (h : q ≤ 9) : (UInt8.ofNat (48 + q)).toNat = 48 + q := by
  exact UInt8.toNat_ofNat_of_lt' (show 48 + q < 256 by omega)
theorem dig_isDig {q : Nat} (h : q ≤ 9) : isDig (UInt8.ofNat (48 + q)) = true ∧ digV (UInt8.ofNat (48 + q)) = (q : Int) := by
  have e := dig_byte h
  constructor
  · rw [isDig, Bool.and_eq_true, decide_eq_true_eq, decide_eq_true_eq, UInt8.le_iff_toNat_le, UInt8.le_iff_toNat_le, e]
    constructor
    · show 48 ≤ _; omega
    · show _ ≤ 57; omega
  · rw [digV, e]; omega
theorem dgt_digS {x : Int} (h : 0 ≤ x ∧ x ≤ 9) : dgt (digS [x]) = x := by
  have := dig_isDig (q := x.toNat) (by omega)
  show (if isDig (UInt8.ofNat (48 + x.toNat)) then digV (UInt8.ofNat (48 + x.toNat)) else -1) = x
  rw [if_pos this.1, this.2]
  omega
theorem digS_no {c : UInt8} (hc : c.toNat < 48) {xs : List Int} (h : ∀ x ∈ xs, 0 ≤ x ∧ x ≤ 9) : c ∉ digS xs := by
  intro hm
  obtain ⟨x, hx, e⟩ := List.mem_map.1 hm
  have hb := h x hx
  have := dig_byte (q := x.toNat) (by omega)
  rw [← e] at hc
  omega
end Go.Proofs.YtpeiolimdglmhaaGreatDoor

-- Plain facts: a script that builds an image and shows it.
namespace Go.Proofs.YtpeiolimdglmhaaGreatDoor
open Go.RowKit
set_option maxRecDepth 100000

end Go.Proofs.YtpeiolimdglmhaaGreatDoor
