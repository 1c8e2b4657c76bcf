/- Plain facts and walks that the law's proof uses; each says its own conditions. -/
import Derived.Test.YtpeiolimdglmhaaGreatDoorZ32
import Derived.Test.YtpeiolimdglmhaaGreatDoorZ30
import Derived.Test.YtpeiolimdglmhaaGreatDoorZ35
import Derived.Test.YtpeiolimdglmhaaGreatDoorZ25
import Derived.Test.YtpeiolimdglmhaaGreatDoorZ18
import Derived.Test.YtpeiolimdglmhaaGreatDoorZ24
import Derived.Test.YtpeiolimdglmhaaGreatDoorZ14
import Derived.Test.YtpeiolimdglmhaaGreatDoorZ29
import Derived.Test.YtpeiolimdglmhaaGreatDoorZ27
-- Walks: a line of words is executed (the program's way).
namespace Go.Proofs.YtpeiolimdglmhaaGreatDoor
open Go.RowKit
set_option maxRecDepth 100000

/-- how many words follow each order -/
def wantL : List (Bs × Int) := [(kRow, 1), (kClear, 0), (kShow, 0), (kSums, 0), (kLines, 1), (kBuild, 2), (kSwitch, 4), (kNext, 0), (kUnique, 0), (kProof, 2)]
def putL (D : DataW Unit) (l : List (Bs × Int)) : DataW Unit := l.foldl (fun D e => D.put (kT e.1) (.lit (.int .i64 e.2))) D
def wantD : DataW Unit := putL (.map []) wantL
theorem kT_inj {t u : Bs} (h : kT t = kT u) : t = u := by cases h; rfl
theorem wantD_no {x : Bs} (h : ∀ e ∈ wantL, e.1 ≠ x) : Maps.has wantD (kT x) = false := by
  have : ∀ (l : List (Bs × Int)) (D : DataW Unit), (∀ e ∈ l, e.1 ≠ x) → Maps.has (putL D l) (kT x) = Maps.has D (kT x) := by
    intro l
    induction l with
    | nil => intro D _; rfl
    | cons e l ih =>
      intro D hl
      rw [show putL D (e :: l) = putL (D.put (kT e.1) (.lit (.int .i64 e.2))) l from rfl, ih _ (fun e he => hl e (List.mem_cons_of_mem _ he))]
      exact Maps.has_put_other (fun h => hl e (List.mem_cons_self ..) (kT_inj h).symm) _
  exact (this wantL _ h).trans rfl
set_option maxHeartbeats 1000000 in
/-- the map of the orders is made -/
theorem wants_map (w : World) : ∃ w1 w2 w3 w4 w5 w6 w7 w8 w9 w10 : World, (Instr.mapUpdate 99 (.map (some w.heap.size)) (.string { data := #[114, 111, 119] }) (.int .i64 1)).run Tryz.prog (w.alloc (.map #[] 0)) = .ok () w1 ∧ (Instr.mapUpdate 99 (.map (some w.heap.size)) (.string { data := #[99, 108, 101, 97, 114] }) (.int .i64 0)).run Tryz.prog w1 = .ok () w2 ∧ (Instr.mapUpdate 99 (.map (some w.heap.size)) (.string { data := #[115, 104, 111, 119] }) (.int .i64 0)).run Tryz.prog w2 = .ok () w3 ∧ (Instr.mapUpdate 99 (.map (some w.heap.size)) (.string { data := #[115, 117, 109, 115] }) (.int .i64 0)).run Tryz.prog w3 = .ok () w4 ∧ (Instr.mapUpdate 99 (.map (some w.heap.size)) (.string { data := #[108, 105, 110, 101, 115] }) (.int .i64 1)).run Tryz.prog w4 = .ok () w5 ∧ (Instr.mapUpdate 99 (.map (some w.heap.size)) (.string { data := #[98, 117, 105, 108, 100] }) (.int .i64 2)).run Tryz.prog w5 = .ok () w6 ∧ (Instr.mapUpdate 99 (.map (some w.heap.size)) (.string { data := #[115, 119, 105, 116, 99, 104] }) (.int .i64 4)).run Tryz.prog w6 = .ok () w7 ∧ (Instr.mapUpdate 99 (.map (some w.heap.size)) (.string { data := #[110, 101, 120, 116] }) (.int .i64 0)).run Tryz.prog w7 = .ok () w8 ∧ (Instr.mapUpdate 99 (.map (some w.heap.size)) (.string { data := #[117, 110, 105, 113, 117, 101] }) (.int .i64 0)).run Tryz.prog w8 = .ok () w9 ∧ (Instr.mapUpdate 99 (.map (some w.heap.size)) (.string { data := #[112, 114, 111, 111, 102] }) (.int .i64 2)).run Tryz.prog w9 = .ok () w10 ∧ w10.ownsMap Tryz.prog 9 (plainElem Tryz.prog 3) w.heap.size 10 wantD ∧ Below w.heap.size w w10 := by
  have hM : (w.alloc (.map #[] 0)).ownsMap Tryz.prog 9 (plainElem Tryz.prog 3) w.heap.size 0 (.map [] : DataW Unit) := World.ownsMap_made (H := Unit) w Tryz.prog 9 (plainElem Tryz.prog 3)
  have hB := lo_alloc (Below.refl w.heap.size w) (.map #[] 0)
  obtain ⟨w1, u1, hM, hg⟩ := hM.update keyLaw Tryz.underlying99 (by unfold maxLen; omega) (show keyOf Tryz.prog 9 (.string { data := #[114, 111, 119] }) = some (kT kRow) from kT_of (t := kRow) (by decide)) (plainElem_int Tryz.underlying3 (show (Lit.int .i64 1).wf = true by decide))
  replace hB := hB.grown hg hB.size (fun g e => by cases e; exact Nat.le_refl _)
  clear hg
  obtain ⟨w2, u2, hM, hg⟩ := hM.update keyLaw Tryz.underlying99 (by unfold maxLen; omega) (show keyOf Tryz.prog 9 (.string { data := #[99, 108, 101, 97, 114] }) = some (kT kClear) from kT_of (t := kClear) (by decide)) (plainElem_int Tryz.underlying3 (show (Lit.int .i64 0).wf = true by decide))
  replace hB := hB.grown hg hB.size (fun g e => by cases e; exact Nat.le_refl _)
  clear hg
  obtain ⟨w3, u3, hM, hg⟩ := hM.update keyLaw Tryz.underlying99 (by unfold maxLen; omega) (show keyOf Tryz.prog 9 (.string { data := #[115, 104, 111, 119] }) = some (kT kShow) from kT_of (t := kShow) (by decide)) (plainElem_int Tryz.underlying3 (show (Lit.int .i64 0).wf = true by decide))
  replace hB := hB.grown hg hB.size (fun g e => by cases e; exact Nat.le_refl _)
  clear hg
  obtain ⟨w4, u4, hM, hg⟩ := hM.update keyLaw Tryz.underlying99 (by unfold maxLen; omega) (show keyOf Tryz.prog 9 (.string { data := #[115, 117, 109, 115] }) = some (kT kSums) from kT_of (t := kSums) (by decide)) (plainElem_int Tryz.underlying3 (show (Lit.int .i64 0).wf = true by decide))
  replace hB := hB.grown hg hB.size (fun g e => by cases e; exact Nat.le_refl _)
  clear hg
  obtain ⟨w5, u5, hM, hg⟩ := hM.update keyLaw Tryz.underlying99 (by unfold maxLen; omega) (show keyOf Tryz.prog 9 (.string { data := #[108, 105, 110, 101, 115] }) = some (kT kLines) from kT_of (t := kLines) (by decide)) (plainElem_int Tryz.underlying3 (show (Lit.int .i64 1).wf = true by decide))
  replace hB := hB.grown hg hB.size (fun g e => by cases e; exact Nat.le_refl _)
  clear hg
  obtain ⟨w6, u6, hM, hg⟩ := hM.update keyLaw Tryz.underlying99 (by unfold maxLen; omega) (show keyOf Tryz.prog 9 (.string { data := #[98, 117, 105, 108, 100] }) = some (kT kBuild) from kT_of (t := kBuild) (by decide)) (plainElem_int Tryz.underlying3 (show (Lit.int .i64 2).wf = true by decide))
  replace hB := hB.grown hg hB.size (fun g e => by cases e; exact Nat.le_refl _)
  clear hg
  obtain ⟨w7, u7, hM, hg⟩ := hM.update keyLaw Tryz.underlying99 (by unfold maxLen; omega) (show keyOf Tryz.prog 9 (.string { data := #[115, 119, 105, 116, 99, 104] }) = some (kT kSwitch) from kT_of (t := kSwitch) (by decide)) (plainElem_int Tryz.underlying3 (show (Lit.int .i64 4).wf = true by decide))
  replace hB := hB.grown hg hB.size (fun g e => by cases e; exact Nat.le_refl _)
  clear hg
  obtain ⟨w8, u8, hM, hg⟩ := hM.update keyLaw Tryz.underlying99 (by unfold maxLen; omega) (show keyOf Tryz.prog 9 (.string { data := #[110, 101, 120, 116] }) = some (kT kNext) from kT_of (t := kNext) (by decide)) (plainElem_int Tryz.underlying3 (show (Lit.int .i64 0).wf = true by decide))
  replace hB := hB.grown hg hB.size (fun g e => by cases e; exact Nat.le_refl _)
  clear hg
  obtain ⟨w9, u9, hM, hg⟩ := hM.update keyLaw Tryz.underlying99 (by unfold maxLen; omega) (show keyOf Tryz.prog 9 (.string { data := #[117, 110, 105, 113, 117, 101] }) = some (kT kUnique) from kT_of (t := kUnique) (by decide)) (plainElem_int Tryz.underlying3 (show (Lit.int .i64 0).wf = true by decide))
  replace hB := hB.grown hg hB.size (fun g e => by cases e; exact Nat.le_refl _)
  clear hg
  obtain ⟨w10, u10, hM, hg⟩ := hM.update keyLaw Tryz.underlying99 (by unfold maxLen; omega) (show keyOf Tryz.prog 9 (.string { data := #[112, 114, 111, 111, 102] }) = some (kT kProof) from kT_of (t := kProof) (by decide)) (plainElem_int Tryz.underlying3 (show (Lit.int .i64 2).wf = true by decide))
  replace hB := hB.grown hg hB.size (fun g e => by cases e; exact Nat.le_refl _)
  clear hg
  exact ⟨w1, w2, w3, w4, w5, w6, w7, w8, w9, w10, u1, u2, u3, u4, u5, u6, u7, u8, u9, u10, hM, hB⟩

theorem want_look {w : World} {b n : Nat} (hM : w.ownsMap Tryz.prog 9 (plainElem Tryz.prog 3) b n wantD) (k : Bs) (v : Int) (hk : k.length ≤ 1000) (h1 : Maps.has wantD (kT k) = true) (h2 : wantD.atKey (kT k) (.lit (.int .i64 0)) = .lit (.int .i64 v)) :
    (Instr.lookup 99 (.map (some b)) (.string (S k)) true).run Tryz.prog w = .ok (.tuple #[.int .i64 v, .bool true]) w := by
  obtain ⟨c, hlk, hat⟩ := look_int hM (key := .string (S k)) (kT_of (t := k) hk)
  rw [h2] at hat
  cases hat
  rw [h1] at hlk
  exact hlk
theorem strs_cell {w : World} {b : Nat} {ws : List Bs} (h : Blk w b 9 (strs ws)) {k : Nat} {x : Bs} (hx : ws[k]? = some x) : w.cell? ⟨b, k, none⟩ = some (.string (S x)) := by
  rw [h.cell, strs_get, hx]; rfl
-- step lemmas
theorem step_Row (s : Ig) (x : Bs) : stepS s [kRow, x] = become s (exRow s x) := by
  rw [stepS, if_pos ⟨rfl, rfl⟩]
  rfl
theorem step_Clear (s : Ig) : stepS s [kClear] = ((0, []), tOk ++ [10]) := by
  rw [stepS, if_neg (fun e => absurd (show kClear = kRow from e.1) (by decide)), if_pos ⟨rfl, rfl⟩]
theorem step_Build (s : Ig) (x y : Bs) : stepS s [kBuild, x, y] = become s (exBuild (dgs x) (dgs y)) := by
  rw [stepS, if_neg (fun e => absurd (show kBuild = kRow from e.1) (by decide)), if_neg (fun e => absurd (show kBuild = kClear from e.1) (by decide)), if_pos ⟨rfl, rfl⟩]
  rfl
theorem step_Switch (s : Ig) (x y z u : Bs) : stepS s [kSwitch, x, y, z, u] = become s (exSwitch s (dgt x) (dgt y) (dgt z) (dgt u)) := by
  rw [stepS, if_neg (fun e => absurd (show kSwitch = kRow from e.1) (by decide)), if_neg (fun e => absurd (show kSwitch = kClear from e.1) (by decide)), if_neg (fun e => absurd (show kSwitch = kBuild from e.1) (by decide)), if_pos ⟨rfl, rfl⟩]
  rfl
theorem step_Next (s : Ig) : stepS s [kNext] = become s (exNext s) := by
  rw [stepS, if_neg (fun e => absurd (show kNext = kRow from e.1) (by decide)), if_neg (fun e => absurd (show kNext = kClear from e.1) (by decide)), if_neg (fun e => absurd (show kNext = kBuild from e.1) (by decide)), if_neg (fun e => absurd (show kNext = kSwitch from e.1) (by decide)), if_pos ⟨rfl, rfl⟩]
theorem step_Proof (s : Ig) (x y : Bs) : stepS s [kProof, x, y] = askO s ((pOf (dgs x) (dgs y)).map dec2) := by
  rw [stepS, if_neg (fun e => absurd (show kProof = kRow from e.1) (by decide)), if_neg (fun e => absurd (show kProof = kClear from e.1) (by decide)), if_neg (fun e => absurd (show kProof = kBuild from e.1) (by decide)), if_neg (fun e => absurd (show kProof = kSwitch from e.1) (by decide)), if_neg (fun e => absurd (show kProof = kNext from e.1) (by decide)), if_pos ⟨rfl, rfl⟩]
  rfl
theorem step_Show (s : Ig) : stepS s [kShow] = askO s (if okB s.1 s.2 then some ((textL s.1.toNat s.2).dropLast) else none) := by
  rw [stepS, if_neg (fun e => absurd (show kShow = kRow from e.1) (by decide)), if_neg (fun e => absurd (show kShow = kClear from e.1) (by decide)), if_neg (fun e => absurd (show kShow = kBuild from e.1) (by decide)), if_neg (fun e => absurd (show kShow = kSwitch from e.1) (by decide)), if_neg (fun e => absurd (show kShow = kNext from e.1) (by decide)), if_neg (fun e => absurd (show kShow = kProof from e.1) (by decide)), if_pos ⟨rfl, rfl⟩]
theorem step_Sums (s : Ig) : stepS s [kSums] = askO s (if okB s.1 s.2 then some (tRowsW ++ decs (rsum s.2) ++ tColsW ++ decs (csum s.1.toNat s.2)) else none) := by
  rw [stepS, if_neg (fun e => absurd (show kSums = kRow from e.1) (by decide)), if_neg (fun e => absurd (show kSums = kClear from e.1) (by decide)), if_neg (fun e => absurd (show kSums = kBuild from e.1) (by decide)), if_neg (fun e => absurd (show kSums = kSwitch from e.1) (by decide)), if_neg (fun e => absurd (show kSums = kNext from e.1) (by decide)), if_neg (fun e => absurd (show kSums = kProof from e.1) (by decide)), if_neg (fun e => absurd (show kSums = kShow from e.1) (by decide)), if_pos ⟨rfl, rfl⟩]
theorem step_Unique (s : Ig) : stepS s [kUnique] = askO s (if okB s.1 s.2 then some (if swList s.1.toNat s.2 = [] then tYes else tSeveral) else none) := by
  rw [stepS, if_neg (fun e => absurd (show kUnique = kRow from e.1) (by decide)), if_neg (fun e => absurd (show kUnique = kClear from e.1) (by decide)), if_neg (fun e => absurd (show kUnique = kBuild from e.1) (by decide)), if_neg (fun e => absurd (show kUnique = kSwitch from e.1) (by decide)), if_neg (fun e => absurd (show kUnique = kNext from e.1) (by decide)), if_neg (fun e => absurd (show kUnique = kProof from e.1) (by decide)), if_neg (fun e => absurd (show kUnique = kShow from e.1) (by decide)), if_neg (fun e => absurd (show kUnique = kSums from e.1) (by decide)), if_pos ⟨rfl, rfl⟩]
theorem step_Lines (s : Ig) (x : Bs) : stepS s [kLines, x] = askO s (if okB s.1 s.2 && dirB (dgt x) then some (kLines ++ decs (dirS (dgt x).toNat s.1.toNat s.2)) else none) := by
  rw [stepS, if_neg (fun e => absurd (show kLines = kRow from e.1) (by decide)), if_neg (fun e => absurd (show kLines = kClear from e.1) (by decide)), if_neg (fun e => absurd (show kLines = kBuild from e.1) (by decide)), if_neg (fun e => absurd (show kLines = kSwitch from e.1) (by decide)), if_neg (fun e => absurd (show kLines = kNext from e.1) (by decide)), if_neg (fun e => absurd (show kLines = kProof from e.1) (by decide)), if_neg (fun e => absurd (show kLines = kShow from e.1) (by decide)), if_neg (fun e => absurd (show kLines = kSums from e.1) (by decide)), if_neg (fun e => absurd (show kLines = kUnique from e.1) (by decide)), if_pos ⟨rfl, rfl⟩]
  rfl
theorem step_what (s : Ig) (ws : List Bs) (h : ∀ e ∈ wantL, wd ws 0 = e.1 → (ws.length : Int) ≠ e.2 + 1) : stepS s ws = (s, tWhat ++ [10]) := by
  rw [stepS, if_neg (fun e => h (kRow, 1) (by simp [wantL]) e.1 (by rw [e.2]; rfl)), if_neg (fun e => h (kClear, 0) (by simp [wantL]) e.1 (by rw [e.2]; rfl)), if_neg (fun e => h (kBuild, 2) (by simp [wantL]) e.1 (by rw [e.2]; rfl)), if_neg (fun e => h (kSwitch, 4) (by simp [wantL]) e.1 (by rw [e.2]; rfl)), if_neg (fun e => h (kNext, 0) (by simp [wantL]) e.1 (by rw [e.2]; rfl)), if_neg (fun e => h (kProof, 2) (by simp [wantL]) e.1 (by rw [e.2]; rfl)), if_neg (fun e => h (kShow, 0) (by simp [wantL]) e.1 (by rw [e.2]; rfl)), if_neg (fun e => h (kSums, 0) (by simp [wantL]) e.1 (by rw [e.2]; rfl)), if_neg (fun e => h (kUnique, 0) (by simp [wantL]) e.1 (by rw [e.2]; rfl)), if_neg (fun e => h (kLines, 1) (by simp [wantL]) e.1 (by rw [e.2]; rfl))]
theorem okB_sw {s z : Ig} {a b c d : Int} (h : exSwitch s a b c d = some z) : okB z.1 z.2 = true := by
  rw [exSwitch_def] at h
  split at h
  · next hf =>
    obtain rfl := (Option.some.inj h).symm
    simp only [swFit, Bool.and_eq_true] at hf
    have hb := okB_bd hf.1.1
    have h1 := okB_img (f := fun i j => cellF s.2 i j ^^ inSw ⟨a.toNat, b.toNat, c.toNat, d.toNat⟩ i j) hb.2.2.1 hb.2.2.2 (m := s.1.toNat) (by omega) (by omega)
    have e : ((s.1.toNat : Nat) : Int) = s.1 := by omega
    rw [e] at h1
    exact h1
  · cases h
theorem okB_nx {s z : Ig} (h : exNext s = some z) : okB z.1 z.2 = true := by
  unfold exNext at h
  split at h
  · next hf =>
    simp only [Bool.and_eq_true] at hf
    have hb := okB_bd hf.1
    obtain ⟨m, hm⟩ : ∃ m : Nat, s.1 = (m : Int) := ⟨s.1.toNat, by omega⟩
    cases hi : (imgL (rsum s.2) (csum s.1.toNat s.2))[(imgL (rsum s.2) (csum s.1.toNat s.2)).idxOf s.2 + 1]? with
    | none => rw [hi] at h; cases h
    | some y =>
      rw [hi] at h
      obtain rfl := (Option.some.inj h).symm
      have hy := List.mem_of_getElem? hi
      have hk := hf.1
      rw [hm] at hk hy ⊢
      rw [Int.toNat_natCast] at hy
      exact ((imgL_sums hk y).1 hy).2.1
  · cases h
theorem okB_bld {r c : List Int} {z : Ig} (h : exBuild r c = some z) : okB z.1 z.2 = true := by
  unfold exBuild at h
  split at h
  · next hf =>
    obtain rfl := (Option.some.inj h).symm
    have hv := (consB_iff.1 hf).1
    have hl : 1 ≤ r.length ∧ r.length ≤ 6 ∧ 1 ≤ c.length ∧ c.length ≤ 6 := by
      rcases Classical.em (1 ≤ r.length ∧ r.length ≤ 6 ∧ 1 ≤ c.length ∧ c.length ≤ 6) with h | h
      · exact h
      · rw [sV_len h] at hv; cases hv
    simp only [bldW, bldX, hf, if_true]
    exact okB_img hl.1 hl.2.1 hl.2.2.1 hl.2.2.2
  · cases h
theorem BuildImage_i (A B : Option Addr) (n m c d : Nat) (xs ys : List Int) (w : World) (hr : Rd w A n xs) (hq : Rd w B m ys) (hn : n ≤ 1048576) (hm : m ≤ 1048576) :
    Calls Tryz.prog 33 #[.slice A n c, .slice B m d] w (Img2 w (exBuild xs ys)) := by
  refine (BuildImage_x A B n m c d xs ys w hr hq hn hm).mono fun e w' ⟨R, r, k, he, hb, ho⟩ => ⟨bldW xs ys, R, r, k, bldX xs ys, ?_, fun z hz => ?_, ho, hb⟩
  · rw [he, exBuild]
    cases consB xs ys <;> rfl
  · rw [exBuild] at hz
    split at hz
    · exact (Option.some.inj hz).symm
    · cases hz
theorem Res.of {w w' : World} {sb : Nat} {z : Ig} {r p : Bs} {ok : Bool} {e : Ending} (he : e = .returned (.tuple #[.string (S r), .bool ok])) (hp : p = (if ok then r else tNo) ++ [10]) (hr : r.length ≤ 1000) (h : SS w' sb z) (hg : w.grownBy w' (some sb)) :
    Res w sb (z, p) e w' := ⟨r, ok, he, hp, hr, h, hg⟩
end Go.Proofs.YtpeiolimdglmhaaGreatDoor
