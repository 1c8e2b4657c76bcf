/- Plain facts and walks that the law's proof uses; each says its own conditions. -/
import Derived.Test.YtpeiolimdglmhaaGreatDoorZ09
import Derived.Test.YtpeiolimdglmhaaGreatDoorZ27
import Derived.Test.YtpeiolimdglmhaaGreatDoorZ28
import Derived.Test.YtpeiolimdglmhaaGreatDoorZ20
import Derived.Test.YtpeiolimdglmhaaGreatDoorZ22
import Derived.Test.YtpeiolimdglmhaaGreatDoorZ11
import Derived.Test.YtpeiolimdglmhaaGreatDoorZ23
import Derived.Test.YtpeiolimdglmhaaGreatDoorZ21
-- Plain mathematics: what a script's lines do and say; a script with a line more.
namespace Go.Proofs.YtpeiolimdglmhaaGreatDoor
open Go

abbrev Ig := Int × List Int
def kRow : Bs := [114, 111, 119]
def kClear : Bs := [99, 108, 101, 97, 114]
def kShow : Bs := [115, 104, 111, 119]
def kSums : Bs := [115, 117, 109, 115]
def kLines : Bs := [108, 105, 110, 101, 115]
def kBuild : Bs := [98, 117, 105, 108, 100]
def kSwitch : Bs := [115, 119, 105, 116, 99, 104]
def kNext : Bs := [110, 101, 120, 116]
def kUnique : Bs := [117, 110, 105, 113, 117, 101]
def kProof : Bs := [112, 114, 111, 111, 102]
def tOk : Bs := [111, 107]
def tNo : Bs := [110, 111]
def tWhat : Bs := [119, 104, 97, 116]
def tRowsW : Bs := [114, 111, 119, 115]
def tColsW : Bs := [32, 99, 111, 108, 115]
def tYes : Bs := [121, 101, 115]
def tSeveral : Bs := [115, 101, 118, 101, 114, 97, 108]
def tCells : Bs := [99, 101, 108, 108, 115, 32]
def tLong : Bs := [116, 111, 111, 32, 108, 111, 110, 103, 10]

def exRow (s : Ig) (x : Bs) : Option Ig :=
  if decide (1 ≤ x.length) && decide (x.length ≤ 6) && x.all isCell && decide (s.2.length ≠ 6) && (decide (s.2.length = 0) || decide ((x.length : Int) = s.1)) then some ((x.length : Int), s.2 ++ [(rowV x : Int)]) else none
def exBuild (r c : List Int) : Option Ig := if consB r c then some (bldW r c, bldX r c) else none
def swIn (W : Int) (n : Nat) (a b c d : Int) : Bool := decide (0 ≤ a) && decide (a < b) && decide (b < (n : Int)) && decide (0 ≤ c) && decide (c < d) && decide (d < W)
def exSwitch (s : Ig) (a b c d : Int) : Option Ig :=
  if okB s.1 s.2 && swIn s.1 s.2.length a b c d && swOk s.2 ⟨a.toNat, b.toNat, c.toNat, d.toNat⟩ then some (s.1, swDo s.1.toNat s.2 ⟨a.toNat, b.toNat, c.toNat, d.toNat⟩) else none
def exNext (s : Ig) : Option Ig :=
  if okB s.1 s.2 && decide (s.2.length * s.1.toNat ≤ 16) then ((imgL (rsum s.2) (csum s.1.toNat s.2))[(imgL (rsum s.2) (csum s.1.toNat s.2)).idxOf s.2 + 1]?).map (fun y => (s.1, y)) else none
def become (s : Ig) (o : Option Ig) : Ig × Bs := match o with
  | some t => (t, tOk ++ [10])
  | none => (s, tNo ++ [10])
def askO (s : Ig) (o : Option Bs) : Ig × Bs := match o with
  | some t => (s, t ++ [10])
  | none => (s, tNo ++ [10])
def wd (ws : List Bs) (k : Nat) : Bs := ws[k]?.getD []
/-- what a line of words does to the image, and says -/
def stepS (s : Ig) (ws : List Bs) : Ig × Bs :=
  if wd ws 0 = kRow ∧ ws.length = 2 then become s (exRow s (wd ws 1))
  else if wd ws 0 = kClear ∧ ws.length = 1 then ((0, []), tOk ++ [10])
  else if wd ws 0 = kBuild ∧ ws.length = 3 then become s (exBuild (dgs (wd ws 1)) (dgs (wd ws 2)))
  else if wd ws 0 = kSwitch ∧ ws.length = 5 then become s (exSwitch s (dgt (wd ws 1)) (dgt (wd ws 2)) (dgt (wd ws 3)) (dgt (wd ws 4)))
  else if wd ws 0 = kNext ∧ ws.length = 1 then become s (exNext s)
  else if wd ws 0 = kProof ∧ ws.length = 3 then askO s ((pOf (dgs (wd ws 1)) (dgs (wd ws 2))).map dec2)
  else if wd ws 0 = kShow ∧ ws.length = 1 then askO s (if okB s.1 s.2 then some ((textL s.1.toNat s.2).dropLast) else none)
  else if wd ws 0 = kSums ∧ ws.length = 1 then askO s (if okB s.1 s.2 then some (tRowsW ++ decs (rsum s.2) ++ tColsW ++ decs (csum s.1.toNat s.2)) else none)
  else if wd ws 0 = kUnique ∧ ws.length = 1 then askO s (if okB s.1 s.2 then some (if swList s.1.toNat s.2 = [] then tYes else tSeveral) else none)
  else if wd ws 0 = kLines ∧ ws.length = 2 then askO s (if okB s.1 s.2 && dirB (dgt (wd ws 1)) then some (kLines ++ decs (dirS (dgt (wd ws 1)).toNat s.1.toNat s.2)) else none)
  else (s, tWhat ++ [10])
def lineS (st : Ig × Bs) (l : Bs) : Ig × Bs := ((stepS st.1 (pcs 32 l)).1, st.2 ++ (stepS st.1 (pcs 32 l)).2)
def linesOf (t : Bs) : List Bs := (pcs 10 t).dropLast
def runS (ls : List Bs) : Ig × Bs := ls.foldl lineS ((0, []), [])
def manyI (s : Ig) : Nat := if okB s.1 s.2 then sumN s.2.length (fun i => pop (s.2[i]?.getD 0).toNat) else 0
def cellsT (s : Ig) : Bs := tCells ++ dec2 (manyI s) ++ [10]
/-- what a script says -/
def execT (t : Bs) : Bs := if 400 < t.length then tLong else (runS (linesOf t)).2 ++ cellsT (runS (linesOf t)).1

theorem runS_snoc (ls : List Bs) (l : Bs) : runS (ls ++ [l]) = lineS (runS ls) l := by simp [runS, List.foldl_append]
/-- a text that is empty or ends in a newline -/
def Full (t : Bs) : Prop := ∃ d, pcs 10 t = d ++ [[]]
theorem Full.nil : Full [] := ⟨[], rfl⟩
theorem Full.add {t l : Bs} (h : Full t) (hl : (10 : UInt8) ∉ l) : Full (t ++ l ++ [10]) ∧ linesOf (t ++ l ++ [10]) = linesOf t ++ [l] := by
  obtain ⟨d, e⟩ := h
  have e1 : ∀ (l u : Bs), (10 : UInt8) ∉ l → ∀ s, pcs 10 s = d ++ [u] → pcs 10 (s ++ l) = d ++ [u ++ l] := by
    intro l
    induction l with
    | nil => intro u _ s h; simpa using h
    | cons x l ih =>
      intro u hx s h
      have h1 : x ≠ 10 := fun e => hx (by rw [e]; exact List.mem_cons_self ..)
      have h2 := ih (u ++ [x]) (fun e => hx (List.mem_cons_of_mem _ e)) (s ++ [x]) (pcs_snoc h1 h)
      simpa using h2
  have e2 := e1 l [] hl t e
  have e3 : pcs 10 (t ++ l ++ [10]) = (d ++ [l]) ++ [[]] := Pc.hit e2
  refine ⟨⟨_, e3⟩, ?_⟩
  rw [linesOf, linesOf, e3, e, List.dropLast_concat, List.dropLast_concat]
theorem exec_add {t l : Bs} (h : Full t) (hl : (10 : UInt8) ∉ l) (hn : t.length + l.length + 1 ≤ 400) :
    execT (t ++ l ++ [10]) = (lineS (runS (linesOf t)) l).2 ++ cellsT (lineS (runS (linesOf t)) l).1 := by
  rw [execT, if_neg (by simp; omega), (h.add hl).2, runS_snoc]
theorem exec_at {t : Bs} (hn : t.length ≤ 400) : execT t = (runS (linesOf t)).2 ++ cellsT (runS (linesOf t)).1 := by
  rw [execT, if_neg (by omega)]

/-- a text that is empty or ends in a newline (its end) -/
def EndN (t : Bs) : Prop := t = [] ∨ ∃ u, t = u ++ [10]
theorem EndN.app {t u : Bs} (h : EndN t) (k : EndN u) : EndN (t ++ u) := by
  rcases k with rfl | ⟨v, rfl⟩
  · simpa using h
  · exact .inr ⟨t ++ v, by simp⟩
theorem become_end (s : Ig) (o : Option Ig) : ∃ u, (become s o).2 = u ++ [10] := by
  cases o <;> exact ⟨_, rfl⟩
theorem askO_end (s : Ig) (o : Option Bs) : ∃ u, (askO s o).2 = u ++ [10] := by
  cases o <;> exact ⟨_, rfl⟩
theorem ite_end {c : Prop} [Decidable c] {a b : Ig × Bs} (h : ∃ u, a.2 = u ++ [10]) (k : ∃ u, b.2 = u ++ [10]) : ∃ u, (if c then a else b).2 = u ++ [10] := by
  split
  · exact h
  · exact k
theorem stepS_end (s : Ig) (ws : List Bs) : ∃ u, (stepS s ws).2 = u ++ [10] := by
  unfold stepS
  repeat' refine ite_end ?_ ?_
  all_goals first
    | exact become_end _ _
    | exact askO_end _ _
    | exact ⟨_, rfl⟩
theorem foldS_end : ∀ (ls : List Bs) (st : Ig × Bs), EndN st.2 → EndN (ls.foldl lineS st).2
  | [], _, h => h
  | l :: ls, st, h => foldS_end ls (lineS st l) (h.app (.inr (stepS_end _ _)))
theorem runS_end (ls : List Bs) : EndN (runS ls).2 := foldS_end ls _ (.inl rfl)

/-- the last line -/
def lastL (o : Bs) : Bs := ((o.dropLast.reverse.takeWhile (fun c => c != 10)).reverse) ++ o.getLast?.toList
theorem lastL_of {p q : Bs} (hp : EndN p) (hq : (10 : UInt8) ∉ q) : lastL (p ++ (q ++ [10])) = q ++ [10] := by
  have e1 : p ++ (q ++ [10]) = (p ++ q) ++ [10] := by simp
  have hq' : ∀ c ∈ q.reverse, (c != 10) = true := fun c hc => by
    have : c ≠ 10 := fun e => hq (by rw [← e]; exact List.mem_reverse.1 hc)
    simpa using this
  rw [e1, lastL, List.dropLast_concat, List.getLast?_concat, List.reverse_append, List.takeWhile_append_of_pos hq']
  have e2 : (p.reverse).takeWhile (fun c => c != 10) = [] := by
    rcases hp with rfl | ⟨u, rfl⟩
    · rfl
    · simp
  rw [e2]
  simp
theorem dec2_no10 {n : Nat} (h : n < 100) : (10 : UInt8) ∉ dec2 n := by
  revert n
  decide
theorem manyI_lt (s : Ig) : manyI s < 100 := by
  unfold manyI
  split
  · next h =>
    have hb := okB_bd h
    have : ∀ n, n ≤ 6 → sumN n (fun i => pop (s.2[i]?.getD 0).toNat) ≤ 6 * n := by
      intro n
      induction n with
      | zero => intro _; exact Nat.le_refl _
      | succ n ih =>
        intro hn
        have h1 := ih (by omega)
        have h2 := pop_le (s.2[n]?.getD 0).toNat
        simp only [sumN]
        omega
    have := this s.2.length (by omega)
    omega
  · omega
theorem cells_no10 (s : Ig) : (10 : UInt8) ∉ tCells ++ dec2 (manyI s) := by
  intro h
  rcases List.mem_append.1 h with h | h
  · revert h; decide
  · exact dec2_no10 (manyI_lt s) h
theorem exec_last {t : Bs} (hn : t.length ≤ 400) : lastL (execT t) = cellsT (runS (linesOf t)).1 ∧ ∃ o, o = (runS (linesOf t)).2 ∧ execT t = o ++ cellsT (runS (linesOf t)).1 := by
  rw [exec_at hn]
  refine ⟨?_, _, rfl, rfl⟩
  exact lastL_of (runS_end _) (cells_no10 _)

end Go.Proofs.YtpeiolimdglmhaaGreatDoor

-- Walks: a switch of an image with any four numbers: the program's way.
namespace Go.Proofs.YtpeiolimdglmhaaGreatDoor
open Go.RowKit
set_option maxRecDepth 100000

theorem swIn_no {W : Int} {n : Nat} {a b c d : Int} (h : swIn W n a b c d = false) : a < 0 ∨ (0 ≤ a ∧ b ≤ a) ∨ (0 ≤ a ∧ a < b ∧ (n : Int) ≤ b) ∨ (0 ≤ a ∧ a < b ∧ b < (n : Int) ∧ c < 0) ∨ (0 ≤ a ∧ a < b ∧ b < (n : Int) ∧ 0 ≤ c ∧ d ≤ c) ∨
    (0 ≤ a ∧ a < b ∧ b < (n : Int) ∧ 0 ≤ c ∧ c < d ∧ W ≤ d) := by
  simp only [swIn, Bool.and_eq_false_iff, decide_eq_false_iff_not] at h
  omega
theorem swIn_yes {W : Int} {n : Nat} {a b c d : Int} (h : swIn W n a b c d = true) : 0 ≤ a ∧ a < b ∧ b < (n : Int) ∧ 0 ≤ c ∧ c < d ∧ d < W := by
  simp only [swIn, Bool.and_eq_true, decide_eq_true_eq] at h
  omega

set_option maxHeartbeats 4000000 in
theorem switchOk_out (m n c' : Nat) (A : Option Addr) (a b c d : Int) (w : World) (h : swIn (m : Int) n a b c d = false) :
    Calls Tryz.prog 101 #[.agg #[.int .i64 (m : Int), .slice A n c'], .agg #[.int .i64 a, .int .i64 b, .int .i64 c, .int .i64 d]] w fun e w' => e = .returned (.bool false) ∧ Below w.heap.size w w' := by
  have hB0 := lo_alloc (lo_alloc (Below.refl w.heap.size w) (.cells #[.int .i64 (m : Int), .slice A n c'] 25)) (.cells #[.int .i64 a, .int .i64 b, .int .i64 c, .int .i64 d] 44)
  rcases swIn_no h with h | h | h | h | h | h
  · have g1 : decide (a < 0) = true := by simp; omega
    clear h
    go_enter Tryz.func101, Tryz.ntmps101
    go_wp2
    go_ret
    exact ⟨rfl, hB0⟩
  · have g1 : decide (a < 0) = false := by simp; omega
    have g2 : decide (b ≤ a) = true := by simp; omega
    clear h
    go_enter Tryz.func101, Tryz.ntmps101
    go_wp2
    go_ret
    exact ⟨rfl, hB0⟩
  · have g1 : decide (a < 0) = false := by simp; omega
    have g2 : decide (b ≤ a) = false := by simp; omega
    have g3 : decide ((n : Int) ≤ b) = true := by simp; omega
    clear h
    go_enter Tryz.func101, Tryz.ntmps101
    go_wp2
    go_ret
    exact ⟨rfl, hB0⟩
  · have g1 : decide (a < 0) = false := by simp; omega
    have g2 : decide (b ≤ a) = false := by simp; omega
    have g3 : decide ((n : Int) ≤ b) = false := by simp; omega
    have g4 : decide (c < 0) = true := by simp; omega
    clear h
    go_enter Tryz.func101, Tryz.ntmps101
    go_wp2
    go_ret
    exact ⟨rfl, hB0⟩
  · have g1 : decide (a < 0) = false := by simp; omega
    have g2 : decide (b ≤ a) = false := by simp; omega
    have g3 : decide ((n : Int) ≤ b) = false := by simp; omega
    have g4 : decide (c < 0) = false := by simp; omega
    have g5 : decide (d ≤ c) = true := by simp; omega
    clear h
    go_enter Tryz.func101, Tryz.ntmps101
    go_wp2
    go_ret
    exact ⟨rfl, hB0⟩
  · have g1 : decide (a < 0) = false := by simp; omega
    have g2 : decide (b ≤ a) = false := by simp; omega
    have g3 : decide ((n : Int) ≤ b) = false := by simp; omega
    have g4 : decide (c < 0) = false := by simp; omega
    have g5 : decide (d ≤ c) = false := by simp; omega
    have g6 : decide ((m : Int) ≤ d) = true := by simp; omega
    clear h
    go_enter Tryz.func101, Tryz.ntmps101
    go_wp2
    go_ret
    exact ⟨rfl, hB0⟩
/-- a switch fits an image -/
def swFit (W : Int) (xs : List Int) (a b c d : Int) : Bool := okB W xs && swIn W xs.length a b c d && swOk xs ⟨a.toNat, b.toNat, c.toNat, d.toNat⟩
theorem exSwitch_def (s : Ig) (a b c d : Int) : exSwitch s a b c d = if swFit s.1 s.2 a b c d then some (s.1, swDo s.1.toNat s.2 ⟨a.toNat, b.toNat, c.toNat, d.toNat⟩) else none := rfl
theorem switchOk_any (m n c' : Nat) (A : Option Addr) (xs : List Int) (a b c d : Int) (w : World) (hr : Rd w A n xs) (hk : okB (m : Int) xs = true) :
    Calls Tryz.prog 101 #[.agg #[.int .i64 (m : Int), .slice A n c'], .agg #[.int .i64 a, .int .i64 b, .int .i64 c, .int .i64 d]] w fun e w' => e = .returned (.bool (swFit (m : Int) xs a b c d)) ∧ Below w.heap.size w w' := by
  have hbd := okB_bd hk
  rw [hr.1] at hbd
  cases hi : swIn (m : Int) xs.length a b c d with
  | false =>
    rw [hr.1] at hi
    refine (switchOk_out m n c' A a b c d w hi).mono fun e w' ⟨h1, h2⟩ => ⟨?_, h2⟩
    rw [h1, swFit, hr.1, hi, Bool.and_false, Bool.false_and]
  | true =>
    obtain ⟨i1, i2, i3, i4, i5, i6⟩ := swIn_yes hi
    rw [hr.1] at i3
    obtain ⟨a, rfl⟩ : ∃ x : Nat, a = (x : Int) := ⟨a.toNat, by omega⟩
    obtain ⟨b, rfl⟩ : ∃ x : Nat, b = (x : Int) := ⟨b.toNat, by omega⟩
    obtain ⟨c, rfl⟩ : ∃ x : Nat, c = (x : Int) := ⟨c.toNat, by omega⟩
    obtain ⟨d, rfl⟩ : ∃ x : Nat, d = (x : Int) := ⟨d.toNat, by omega⟩
    refine (switchOk_c m n c' A xs ⟨a, b, c, d⟩ w hr hk ⟨by simp only; omega, by simp only; omega, by simp only; omega, by simp only; omega⟩).mono fun e w' ⟨h1, h2⟩ => ⟨?_, h2⟩
    rw [h1, swFit, hi, hk]
    simp only [Bool.true_and, Int.toNat_natCast]

set_option maxHeartbeats 2000000 in
theorem impl_SwitchOk_c (W : Int) (n c' : Nat) (A : Option Addr) (xs : List Int) (a b c d : Int) (w : World) (hr : Rd w A n xs) (hn : n ≤ 1000) :
    Calls Tryz.prog 60 #[.agg #[.int .i64 W, .slice A n c'], .agg #[.int .i64 a, .int .i64 b, .int .i64 c, .int .i64 d]] w fun e w' => e = .returned (.bool (swFit W xs a b c d)) ∧ Below w.heap.size w w' := by
  have hP := (Blk.new w 25 #[.int .i64 W, .slice A n c']).alloc (.cells #[.int .i64 a, .int .i64 b, .int .i64 c, .int .i64 d] 44)
  have hQ := heap_at2 w (.cells #[.int .i64 W, .slice A n c'] 25) 44 #[.int .i64 a, .int .i64 b, .int .i64 c, .int .i64 d]
  have hB0 := lo_alloc (lo_alloc (Below.refl w.heap.size w) (.cells #[.int .i64 W, .slice A n c'] 25)) (.cells #[.int .i64 a, .int .i64 b, .int .i64 c, .int .i64 d] 44)
  have hR0 := hr.next hB0
  cases hk : okB W xs with
  | false =>
    have hk' := Lib.hid hk
    have hT := Lib.hid (show swFit W xs a b c d = false by rw [swFit, hk, Bool.false_and, Bool.false_and])
    clear hk
    go_enter Tryz.func60, Tryz.ntmps60
    go_wp2_with fail
    refine (impl_ImageValid_c _ _ _ _ xs _ hR0 (by omega)).mono ?_
    rw [hk'.out]
    rintro e w1 ⟨rfl, hb1⟩
    go_wp2
    go_ret
    rw [hT.out]
    exact ⟨rfl, lo_trans hB0 hb1⟩
  | true =>
    have hbd := okB_bd hk
    obtain ⟨m, rfl⟩ : ∃ m : Nat, W = (m : Int) := ⟨W.toNat, by omega⟩
    have hk' := Lib.hid hk
    clear hk
    obtain ⟨v, hv⟩ : ∃ v, Hid (swFit (m : Int) xs a b c d = v) := ⟨_, Lib.hid rfl⟩
    go_enter Tryz.func60, Tryz.ntmps60
    go_wp2_with fail
    refine (impl_ImageValid_c _ _ _ _ xs _ hR0 (by omega)).mono ?_
    rw [hk'.out]
    rintro e w1 ⟨rfl, hb1⟩
    have kP := hP.next hb1
    have kQ := hQ.next hb1
    have p0 := kP.cell 0
    have p1 := kP.cell 1
    have q0 := kQ.cell 0
    have q1 := kQ.cell 1
    have q2 := kQ.cell 2
    have q3 := kQ.cell 3
    have hR1 := hR0.next hb1
    clear hP hQ kP kQ
    go_wp2_with fail
    refine (switchOk_any m n c' A xs a b c d _ hR1 hk'.out).mono ?_
    rw [hv.out]
    rintro e w2 ⟨rfl, hb2⟩
    cases v
    all_goals
      go_wp2
      go_ret
      rw [hv.out]
      exact ⟨rfl, lo_trans hB0 (lo_trans hb1 hb2)⟩

/-- what SwitchDo, BuildImage, ImageNext hand back: an image of one's own, and whether there is one -/
def Img2 (w : World) (o : Option Ig) (e : Ending) (w' : World) : Prop :=
  ∃ (V : Int) (R : Option Addr) (r k : Nat) (zs : List Int), e = .returned (.tuple #[.agg #[.int .i64 V, .slice R r k], .bool o.isSome]) ∧ (∀ z, o = some z → z = (V, zs)) ∧ Own w' w.heap.size R r zs ∧ Below w.heap.size w w'

set_option maxHeartbeats 4000000 in
theorem impl_SwitchDo_c (W : Int) (n c' : Nat) (A : Option Addr) (xs : List Int) (a b c d : Int) (w : World) (hr : Rd w A n xs) (hn : n ≤ 1000) :
    Calls Tryz.prog 29 #[.agg #[.int .i64 W, .slice A n c'], .agg #[.int .i64 a, .int .i64 b, .int .i64 c, .int .i64 d]] w (Img2 w (exSwitch (W, xs) a b c d)) := by
  have hk0 : Blk (((w.alloc (.cells #[.int .i64 W, .slice A n c'] 25)).alloc (.cells #[.int .i64 a, .int .i64 b, .int .i64 c, .int .i64 d] 44)).alloc (.cells #[.int .i64 0, .slice none 0 0] 25)) w.heap.size 25 #[.int .i64 W, .slice A n c'] :=
    ((Blk.new w 25 #[.int .i64 W, .slice A n c']).alloc _).alloc _
  have hk1 := (heap_at2 w (.cells #[.int .i64 W, .slice A n c'] 25) 44 #[.int .i64 a, .int .i64 b, .int .i64 c, .int .i64 d]).alloc (.cells #[.int .i64 0, .slice none 0 0] 25)
  have hk2 : Blk (((w.alloc (.cells #[.int .i64 W, .slice A n c'] 25)).alloc (.cells #[.int .i64 a, .int .i64 b, .int .i64 c, .int .i64 d] 44)).alloc (.cells #[.int .i64 0, .slice none 0 0] 25)) (w.heap.size + 1 + 1) 25 #[.int .i64 0, .slice none 0 0] := by
    have := heap_at2 (w.alloc (.cells #[.int .i64 W, .slice A n c'] 25)) (.cells #[.int .i64 a, .int .i64 b, .int .i64 c, .int .i64 d] 44) 25 #[.int .i64 0, .slice none 0 0]
    simpa using this
  have hB0 := lo_alloc (lo_alloc (lo_alloc (Below.refl w.heap.size w) (.cells #[.int .i64 W, .slice A n c'] 25)) (.cells #[.int .i64 a, .int .i64 b, .int .i64 c, .int .i64 d] 44)) (.cells #[.int .i64 0, .slice none 0 0] 25)
  have hR0 := hr.next hB0
  cases hs : swFit W xs a b c d with
  | false =>
    have hs' := Lib.hid hs
    have hT := Lib.hid (show exSwitch (W, xs) a b c d = none by rw [exSwitch_def, hs]; rfl)
    clear hs
    go_enter Tryz.func29, Tryz.ntmps29
    go_wp2_with fail
    refine (impl_SwitchOk_c W n c' A xs a b c d _ hR0 hn).mono ?_
    rw [hs'.out]
    rintro e w1 ⟨rfl, hb1⟩
    have k2 := hk2.next hb1
    have d0 := k2.cell 0
    have d1 := k2.cell 1
    have f0 := k2.frozen 0
    have f1 := k2.frozen 1
    have hF := (k2.set_ 0 (.int .i64 0)).set_ 1 (.slice none 0 0)
    have r0 := hF.cell 0
    have r1 := hF.cell 1
    have hL1 : Below w.heap.size w ((w1.setCell ⟨w.heap.size + 1 + 1, 0, none⟩ (.int .i64 0)).setCell ⟨w.heap.size + 1 + 1, 1, none⟩ (.slice none 0 0)) := lo_set (lo_set (lo_trans hB0 hb1) (by simp; omega) _) (by simp; omega) _
    clear hF k2 hk0 hk1 hk2
    go_wp2
    refine bodyPost_ret (v := .tuple #[.agg #[.int .i64 0, .slice none 0 0], .bool false]) (by simp [results, Tryz.results29, go_sem, r0, r1]) rfl ⟨0, none, 0, 0, [], by rw [hT.out]; rfl, fun z e => (by rw [hT.out] at e; cases e), Own.nil_ _ _ _, hL1⟩
  | true =>
    have hs' := Lib.hid hs
    simp only [swFit, Bool.and_eq_true] at hs
    obtain ⟨⟨hk, hi⟩, _⟩ := hs
    obtain ⟨i1, i2, i3, i4, i5, i6⟩ := swIn_yes hi
    rw [hr.1] at i3
    have hbd := okB_bd hk
    obtain ⟨m, rfl⟩ : ∃ m : Nat, W = (m : Int) := ⟨W.toNat, by omega⟩
    obtain ⟨a, rfl⟩ : ∃ x : Nat, a = (x : Int) := ⟨a.toNat, by omega⟩
    obtain ⟨b, rfl⟩ : ∃ x : Nat, b = (x : Int) := ⟨b.toNat, by omega⟩
    obtain ⟨c, rfl⟩ : ∃ x : Nat, c = (x : Int) := ⟨c.toNat, by omega⟩
    obtain ⟨d, rfl⟩ : ∃ x : Nat, d = (x : Int) := ⟨d.toNat, by omega⟩
    have hT := Lib.hid (show exSwitch ((m : Int), xs) a b c d = some ((m : Int), swDo m xs ⟨a, b, c, d⟩) by rw [exSwitch_def, hs'.out]; simp)
    have hk' := Lib.hid hk
    clear hk hi hbd
    go_enter Tryz.func29, Tryz.ntmps29
    go_wp2_with fail
    refine (impl_SwitchOk_c (m : Int) n c' A xs a b c d _ hR0 hn).mono ?_
    rw [hs'.out]
    rintro e w1 ⟨rfl, hb1⟩
    have k0 := hk0.next hb1
    have k1 := hk1.next hb1
    have k2 := hk2.next hb1
    have a0 := k0.cell 0
    have a1 := k0.cell 1
    have b0 := k1.cell 0
    have b1 := k1.cell 1
    have b2 := k1.cell 2
    have b3 := k1.cell 3
    have hB1 := lo_trans hB0 hb1
    have hs1 := hb1.size
    have hs0 : w.heap.size + 1 + 1 + 1 ≤ w1.heap.size := by have := hk2.lt; omega
    go_wp2_with fail
    refine (switched_c m n c' A xs ⟨a, b, c, d⟩ _ (hR0.next hb1) hk'.out ⟨by simp only; omega, by simp only; omega, by simp only; omega, by simp only; omega⟩).mono ?_
    rintro e w2 ⟨g, q, rfl, hb2, hO2⟩
    have k3 := k2.next hb2
    have d0 := k3.cell 0
    have d1 := k3.cell 1
    have f0 := k3.frozen 0
    have f1 := k3.frozen 1
    have hF := (k3.set_ 0 (.int .i64 (m : Int))).set_ 1 (.slice (some ⟨g, 0, none⟩) n q)
    have r0 := hF.cell 0
    have r1 := hF.cell 1
    have hL1 : Below w.heap.size w ((w2.setCell ⟨w.heap.size + 1 + 1, 0, none⟩ (.int .i64 (m : Int))).setCell ⟨w.heap.size + 1 + 1, 1, none⟩ (.slice (some ⟨g, 0, none⟩) n q)) := lo_set (lo_set (lo_trans hB1 hb2) (by simp; omega) _) (by simp; omega) _
    have hO3 : Own ((w2.setCell ⟨w.heap.size + 1 + 1, 0, none⟩ (.int .i64 (m : Int))).setCell ⟨w.heap.size + 1 + 1, 1, none⟩ (.slice (some ⟨g, 0, none⟩) n q)) w.heap.size (some ⟨g, 0, none⟩) n (swDo m xs ⟨a, b, c, d⟩) :=
      ((hO2.far_lo (p := ⟨w.heap.size + 1 + 1, 0, none⟩) (by simp; omega) _).far_lo (p := ⟨w.heap.size + 1 + 1, 1, none⟩) (by simp; omega) _).mono (by omega)
    clear hF k3 k2 k1 k0 hk0 hk1 hk2 hO2 a0 a1 b0 b1 b2 b3
    go_wp2
    refine bodyPost_ret (v := .tuple #[.agg #[.int .i64 (m : Int), .slice (some ⟨g, 0, none⟩) n q], .bool true]) (by simp [results, Tryz.results29, go_sem, r0, r1]) rfl ⟨(m : Int), _, n, q, _, by rw [hT.out]; rfl, fun z e => (by rw [hT.out] at e; exact (Option.some.inj e).symm), hO3, hL1⟩
end Go.Proofs.YtpeiolimdglmhaaGreatDoor

-- Walks: how many cells of an image are set: the program's function and the reference's.
namespace Go.Proofs.YtpeiolimdglmhaaGreatDoor
open Go.RowKit
set_option maxRecDepth 100000

def popQ (xs : List Int) (i : Nat) : Nat := pop (xs[i]?.getD 0).toNat
def manyV (W : Int) (xs : List Int) : Int := if okB W xs then ((sumN xs.length (popQ xs) : Nat) : Int) else -1
theorem manyV_max (s : Ig) : max 0 (manyV s.1 s.2) = ((manyI s : Nat) : Int) := by
  unfold manyV manyI
  split
  · have : sumN s.2.length (popQ s.2) = sumN s.2.length (fun i => pop (s.2[i]?.getD 0).toNat) := rfl
    rw [this]
    omega
  · rfl

set_option maxHeartbeats 2000000 in
theorem impl_ImageMany_w (W : Int) (A : Option Addr) (n c : Nat) (xs : List Int) (w : World) (hr : Rd w A n xs) (hn : n ≤ 1000000) :
    Calls Tryz.prog 15 #[.agg #[.int .i64 W, .slice A n c]] w fun e w' => e = .returned (.int .i64 (manyV W xs)) ∧ Below w.heap.size w w' := by
  have hP := Blk.new w 25 #[.int .i64 W, .slice A n c]
  have hB0 := lo_alloc (Below.refl w.heap.size w) (.cells #[.int .i64 W, .slice A n c] 25)
  have c0 := hP.cell 0
  have c1 := hP.cell 1
  cases hk : okB W xs with
  | false =>
    have hk' := Lib.hid hk
    have hm := Lib.hid (show manyV W xs = -1 by rw [manyV, hk]; rfl)
    clear hk
    go_enter Tryz.func15, Tryz.ntmps15
    go_wp2_with fail
    refine (impl_ImageValid_c _ _ _ _ xs _ (hr.next hB0) (by omega)).mono ?_
    rw [hk'.out]
    rintro e w1 ⟨rfl, hb1⟩
    go_wp2
    go_ret
    rw [hm.out]
    exact ⟨rfl, lo_trans hB0 hb1⟩
  | true =>
    have hbd := okB_bd hk
    rw [hr.1] at hbd
    have hk' := Lib.hid hk
    have hlen := Lib.hid hr.1
    have hm := Lib.hid (show manyV W xs = ((sumN n (popQ xs) : Nat) : Int) by rw [manyV, hk, hr.1]; rfl)
    clear hk
    go_enter Tryz.func15, Tryz.ntmps15
    go_wp2_with fail
    refine (impl_ImageValid_c _ _ _ _ xs _ (hr.next hB0) (by omega)).mono ?_
    rw [hk'.out]
    rintro e w1 ⟨rfl, hb1⟩
    have hP1 := hP.next hb1
    have hB1 : Below w.heap.size w w1 := lo_trans hB0 hb1
    have hr1 := hr.next hB1
    clear c0 c1 hP hB0 hb1
    have c0 := hP1.cell 0
    have c1 := hP1.cell 1
    go_wp2
    go_loop [3, 12] (fun s i => ∃ k : Nat, k ≤ n ∧ i = .int .i64 k ∧ s = .int .i64 (sumN k (popQ xs) : Nat)) (fun _ i => n - (intOf i).toNat)
    case atStart => exact ⟨0, Nat.zero_le _, rfl, rfl⟩
    case round =>
      obtain ⟨k, hkn, rfl, rfl⟩ := hrel
      by_cases hlt : k < n
      · obtain ⟨b, off, rfl, hb, hc⟩ := hr1.at_ hlt
        obtain ⟨r, h1, h2⟩ := okB_at hk'.out (k := k) (by rw [hlen.out]; exact hlt)
        have hS : Hid (sumN (k + 1) (popQ xs) = sumN k (popQ xs) + pop r) := Lib.hid (by rw [sumN, popQ, h1, Int.toNat_natCast])
        have hle : sumN k (popQ xs) ≤ k * 6 := sumN_le_mul (fun i _ => pop_le _)
        have hpl : pop r ≤ 6 := pop_le _
        rw [h1] at hc
        clear h1
        generalize sumN k (popQ xs) = S at hS hle ⊢
        go_wp2_with fail
        refine (ones_c r _ h2).mono ?_
        rintro e w3 ⟨rfl, rfl⟩
        go_wp2
        go_round
        case rel => exact ⟨k + 1, by omega, by go_num, by rw [hS.out]; go_num⟩
        case measure => simp [intOf]; omega
      · obtain rfl : k = n := by omega
        go_wp2
        go_ret
        rw [hm.out]
        exact ⟨rfl, hB1⟩

end Go.Proofs.YtpeiolimdglmhaaGreatDoor

-- Walks: text is written to a builder.
namespace Go.Proofs.YtpeiolimdglmhaaGreatDoor
open Go.Shelf Go.RowKit

def renV : Go.Shelf.Ren := ⟨fun | 166 => 46 | 240 => 78 | 276 => 114 | n => n,
  fun | 0 => 0 | 3 => 3 | 4 => 4 | 5 => 5 | 9 => 9 | 20 => 20 | 37 => 22 | 70 => 53 | 72 => 55 | 75 => 61 | 80 => 63 | 164 => 127 | n => n, fun | n => n⟩
theorem laysV : Go.Proofs.Lays.n166 Tryz.prog renV := {
  mixed := by kernel_rfl
  f166 := Tryz.func46.trans (congrArg some (by kernel_rfl))
  f240 := Tryz.func78.trans (congrArg some (by kernel_rfl))
  f276 := Tryz.func114.trans (congrArg some (by kernel_rfl))
  t0 := Tryz.underlying0
  a0 := Tryz.isAgg0
  z0 := Tryz.sizeOf0
  v0 := Tryz.zeroValue0
  t3 := Tryz.underlying3
  a3 := Tryz.isAgg3
  z3 := Tryz.sizeOf3
  v3 := Tryz.zeroValue3
  t4 := Tryz.underlying4
  a4 := Tryz.isAgg4
  z4 := Tryz.sizeOf4
  v4 := Tryz.zeroValue4
  t9 := Tryz.underlying9
  a9 := Tryz.isAgg9
  z9 := Tryz.sizeOf9
  v9 := Tryz.zeroValue9
  t20 := by kernel_rfl
  a20 := fun _ => by kernel_rfl
  z20 := fun _ => by kernel_rfl
  v20 := fun _ => by kernel_rfl
  t37 := Tryz.underlying22
  a37 := Tryz.isAgg22
  z37 := Tryz.sizeOf22
  v37 := Tryz.zeroValue22
  t70 := Tryz.underlying53
  a70 := Tryz.isAgg53
  z70 := Tryz.sizeOf53
  v70 := Tryz.zeroValue53
  t72 := Tryz.underlying55
  a72 := Tryz.isAgg55
  z72 := Tryz.sizeOf55
  v72 := Tryz.zeroValue55
  t75 := by kernel_rfl
  a75 := fun _ => by kernel_rfl
  z75 := fun _ => by kernel_rfl
  v75 := fun _ => by kernel_rfl
  t164 := by kernel_rfl
  a164 := fun _ => by kernel_rfl
  z164 := fun _ => by kernel_rfl
  v164 := fun _ => by kernel_rfl }
theorem extraV : Builder.Extra Tryz.prog renV := {
  sizeBuilder := by kernel_rfl
  liesBuilder := by kernel_rfl
  t5 := Tryz.underlying5
  a5 := Tryz.isAgg5
  z5 := Tryz.sizeOf5
  v5 := Tryz.zeroValue5
  infoByte := by kernel_rfl
  cellsByte := by kernel_rfl
  sizeByte := by kernel_rfl
  neB5 := by decide }

theorem byteCells_app (l t : List UInt8) : Lib.byteCells (l ++ t) = Lib.byteCells l ++ Lib.byteCells t := by simp [Lib.byteCells]
/-- a text more -/
theorem ws_c (b : Nat) (l t : Bs) (w : World) (h : Bd b l w) (hl : l.length + t.length ≤ 1000000) :
    Calls Tryz.prog 46 #[.pointer (some ⟨b, 0, none⟩), .string (S t)] w fun e w' => e = .returned (.tuple #[.int .i64 (t.length : Int), .nilIface]) ∧ Bd b (l ++ t) w' ∧ Below b w w' ∧ Lib.OthersKept 5 (some b) w w' := by
  refine (Any.Builder_WriteString_k laysV extraV b b _ (S t) w h (by simp [Lib.byteCells, S_size]; omega) (Nat.le_of_lt h.lt)).mono ?_
  rintro e w' ⟨he, h1, h2, h3⟩
  refine ⟨by rw [he, S_size], .inr ?_, h2, h3⟩
  rw [byteCells_app]
  rw [show Lib.byteCells t = Lib.strCells (S t) by simp [Lib.strCells, Lib.byteCells, S]]
  exact h1
end Go.Proofs.YtpeiolimdglmhaaGreatDoor
