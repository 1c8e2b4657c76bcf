/- Plain facts and walks that the law's proof uses; each says its own conditions. -/
import Derived.RangeFuncNested
import Derived.RangeFuncBound
import Derived.Test.YtpeiolimdglmhaaGreatDoorZ07
import Derived.Test.YtpeiolimdglmhaaGreatDoorZ28
import Derived.Test.YtpeiolimdglmhaaGreatDoorZ11
import Derived.Test.YtpeiolimdglmhaaGreatDoorZ10
import Derived.BigQuiet
import Derived.Test.YtpeiolimdglmhaaGreatDoorZ22
import Derived.Sort.BigQuietIn
import Derived.Sort.CutIn
import Derived.Laws.EntriesVeiled
-- Plain facts and walks that the law's proof uses; each says its own conditions.
namespace Go.Proofs.YtpeiolimdglmhaaGreatDoor
open Go.RowKit

/-- all blocks from B on lie as they lay -/
structure KeepsUp (B : Nat) (W W' : World) : Prop where
  size : W.heap.size ≤ W'.heap.size
  same : ∀ b, B ≤ b → b < W.heap.size → W'.heap[b]? = W.heap[b]?
theorem KeepsUp.refl (B : Nat) (W : World) : KeepsUp B W W := ⟨Nat.le_refl _, fun _ _ _ => rfl⟩
theorem KeepsUp.trans {B : Nat} {X Y Z : World} (h : KeepsUp B X Y) (k : KeepsUp B Y Z) : KeepsUp B X Z :=
  ⟨Nat.le_trans h.size k.size, fun b hb hl => (k.same b hb (Nat.lt_of_lt_of_le hl h.size)).trans (h.same b hb hl)⟩
theorem KeepsUp.mono {B B' : Nat} {X Y : World} (h : KeepsUp B X Y) (hl : B ≤ B') : KeepsUp B' X Y := ⟨h.size, fun b hb => h.same b (Nat.le_trans hl hb)⟩
theorem KeepsUp.of_grown {B : Nat} {W W' : World} {row : Option Nat} (hg : W.grownBy W' row) (hr : ∀ r, row = some r → r < B) : KeepsUp B W W' :=
  ⟨hg.size, fun b hb hl => hg.block b hl (fun e => by have := hr b e.symm; omega)⟩
theorem KeepsUp.of_below {B : Nat} {W W' : World} (h : Below W.heap.size W W') : KeepsUp B W W' := ⟨h.size, fun b _ hl => h.block b hl⟩
theorem KeepsUp.blk {B g : Nat} {W W' : World} {t : TypeId} {cs : Array Value} (h : KeepsUp B W W') (hk : Blk W g t cs) (hB : B ≤ g) : Blk W' g t cs := (h.same g hB hk.lt).trans hk
/-- what is told abides a turn of any block from B on -/
def Bears {β : Type} (B : Nat) (J : β → World → Prop) : Prop := ∀ s W W' row, J s W → W.grownBy W' row → (∀ r, row = some r → B ≤ r) → J s W'
theorem Bears.and {β : Type} {B : Nat} {J J' : β → World → Prop} (h : Bears B J) (h' : Bears B J') : Bears B (fun s W => J s W ∧ J' s W) := fun s W W' row hs hg hr => ⟨h s W W' row hs.1 hg hr, h' s W W' row hs.2 hg hr⟩
theorem bears_pure {β : Type} (B : Nat) (p : β → Prop) : Bears B (fun s (_ : World) => p s) := fun _ _ _ _ hs _ _ => hs
theorem bears_below {β : Type} {B : Nat} {w : World} (h : w.heap.size ≤ B) : Bears B (fun (_ : β) W => Below w.heap.size w W) := fun _ _ _ _ hs hg hr => hs.grown hg hs.size (fun r e => by have := hr r e; omega)
theorem bears_blk {β : Type} {B g : Nat} {t : TypeId} (f : β → Array Value) (h : g < B) : Bears B (fun s W => Blk W g t (f s)) := fun _ _ _ _ hs hg hr => hs.grown hg (fun e => by have := hr g e.symm; omega)
theorem Bears.mono {β : Type} {B B' : Nat} {J : β → World → Prop} (h : Bears B J) (hl : B ≤ B') : Bears B' J := fun s W W' row hs hg hr => h s W W' row hs hg (fun r e => Nat.le_trans hl (hr r e))
theorem Bears.putObj {β : Type} {B : Nat} {J : β → World → Prop} (h : Bears B J) {s : β} {W : World} {l : Nat} (o' : Obj) (hs : J s W) (hB : B ≤ l) : J s (W.putObj l o') :=
  h s W _ (some l) hs (grownBy_putObj' W l o') (fun r e => by cases e; exact hB)
theorem Bears.alloc {β : Type} {B : Nat} {J : β → World → Prop} (h : Bears B J) {s : β} {W : World} (o : Obj) (hs : J s W) : J s (W.alloc o) :=
  h s W _ none hs (World.grownBy_alloc W o none) (fun r e => by cases e)

/-- what writes to the blocks from B up to T do not turn -/
def BearsT {β : Type} (B T : Nat) (J : β → World → Prop) : Prop := ∀ s W W' row, J s W → W.grownBy W' row → (∀ r, row = some r → B ≤ r ∧ r < T) → J s W'
theorem BearsT.mono {β : Type} {B B' T : Nat} {J : β → World → Prop} (h : BearsT B T J) (hl : B ≤ B') : BearsT B' T J := fun s W W' row hs hg hr => h s W W' row hs hg (fun r e => ⟨Nat.le_trans hl (hr r e).1, (hr r e).2⟩)
theorem BearsT.putObj {β : Type} {B T : Nat} {J : β → World → Prop} (h : BearsT B T J) {s : β} {W : World} {l : Nat} (o' : Obj) (hs : J s W) (hB : B ≤ l) (hT : l < T) : J s (W.putObj l o') :=
  h s W _ (some l) hs (grownBy_putObj' W l o') (fun r e => by cases e; exact ⟨hB, hT⟩)

/-- how a round may be left -/
def roundTold {α : Type} (B : Nat) (Kp : World → World → Prop) (I : List α → World → Prop) (Ix : Code → List α → World → Prop) (xs : List α) (W : World) : Exit → Act → World → Prop
  | .normal, _, W' => KeepsUp B W W' ∧ Kp W W' ∧ I xs W'
  | .ret, _, W' => KeepsUp B W W' ∧ Kp W W' ∧ Ix .ret xs W'
  | .exit id, _, W' => KeepsUp B W W' ∧ Kp W W' ∧ Ix (.exit id) xs W'
  | .goto t, _, W' => KeepsUp B W W' ∧ Kp W W' ∧ Ix (.goto t) xs W'
  | .panic _, _, _ => False
  | .outgrown, _, _ => False

/-- the iterator's contract: it may write whatever lies from the heap's end at its call on; each round leaves that as it lies; at each yield 'Pre' is told of that memory -/
def SeqCells {α : Type} (F : Fence) (n : Nat) (P : Program) (g : Nat) (lb : Array Value) (encs : α → Array Value) (Pre : Nat → α → World → Prop) (Kp : World → World → Prop) (S Sp : List α → Prop) (N : Nat) (w : World) : Prop :=
  ∀ (l : Nat) (J : List α → World → Prop) (Jx : Nat → List α → World → Prop) (W : World), Below w.heap.size w W → Bears W.heap.size J → (∀ T, BearsT W.heap.size T (Jx T)) →
    (∀ T pre x W1, W.heap.size ≤ T → T ≤ W1.heap.size → J pre W1 → Pre W.heap.size x W1 → pre.length < N → YieldAt F (n - 1) P l (encs x) W1 fun e W' =>
      (e = .returned (.bool true) ∧ J (pre ++ [x]) W' ∧ KeepsUp W.heap.size W1 W' ∧ Kp W1 W') ∨ (e = .returned (.bool false) ∧ Jx T (pre ++ [x]) W' ∧ KeepsUp W.heap.size W1 W' ∧ Kp W1 W')) →
    J [] W →
    CallsIn F n P g (#[.func (.yield l) #[] #[]] ++ lb) W fun e W' => (∃ v, e = .returned v) ∧ ((∃ xs, S xs ∧ J xs W') ∨ (∃ T pre, W.heap.size ≤ T ∧ Sp pre ∧ Jx T pre W'))

variable {F : Fence} {n : Nat} {P : Program}

theorem wpIn_rangeFunc_cells {α : Type} {g : Operand} {ps : Array Tmp} {assign body : Code} {Q : Exit → Act → World → Prop} {a : Act} {w : World}
    (hro : F.round = none) (h1 : 1 ≤ n) {gf : Nat} {lb : Array Value} (hg : a.eval g = .func (.func gf) #[] lb) (hFg : F.fn gf) (eg : ∀ args w, (callFunc gf args).run P w = .ok (.enter gf args) w)
    {encs : α → Array Value} {Pre : Nat → α → World → Prop} (hPre : ∀ B x W W', Pre B x W → KeepsUp B W W' → Pre B x W') {Kp : World → World → Prop} (hKt : ∀ {A B C : World}, Kp A B → Kp B C → Kp A C) (hKb : ∀ (W : World) (l : Nat) (o' : Obj), w.heap.size ≤ l → Kp W (W.putObj l o')) {S Sp : List α → Prop} {N : Nat} {w0 : World} (hseq : SeqCells F (n - 1) P gf lb encs Pre Kp S Sp N w0)
    (hb0 : Below w0.heap.size w0 w) (hps : ∀ x, (encs x).size = ps.size)
    (I : List α → World → Prop) (Ix : Nat → Code → List α → World → Prop) (hI : Bears w.heap.size I) (hIx : ∀ T c, BearsT w.heap.size T (Ix T c)) (h0 : I [] w) (Ax : α → Act → World → Prop) (hAx : ∀ x a', OwnFrom w.heap.size (fun (_ : Unit) W => Ax x a' W))
    (hassign : ∀ (l : Nat) (pre : List α) (x : α) (W : World) (K : Act → World → Prop), I pre W → (∀ a' W', KeepsUp w.heap.size W W' → Kp W W' → I pre W' → Ax x a' W' → K a' W') →
      assign.wpIn (F.inRound l) (n - 1 - 1) P (Exit.then K (fun _ _ _ => False)) { tmps := (ps.zip (encs x)).foldl (fun t (p, v) => t.setIfInBounds p v) a.tmps, defers := [] } W)
    (hbody : ∀ (T l : Nat) (pre : List α) (x : α) (a' : Act) (W : World), w.heap.size + 2 ≤ T → T ≤ W.heap.size → I pre W → Pre (w.heap.size + 2) x W → Ax x a' W → pre.length < N → body.wpIn (F.inRound l) (n - 1 - 1) P (roundTold w.heap.size Kp I (Ix T) (pre ++ [x]) W) a' W)
    (hdone : ∀ (D : Nat) (xs : List α) (W : World), w.heap.size ≤ D → S xs → I xs W → W.heap[D]? = some (.deferred (some [])) → Q .normal { a with defers := { target := .collected D, args := #[] } :: a.defers } W)
    (hstop : ∀ (D T : Nat) (c : Code) (pre : List α) (W : World), w.heap.size ≤ D → w.heap.size + 2 ≤ T → Sp pre → Ix T c pre W → W.heap[D]? = some (.deferred (some [])) → c.wpIn F n P Q { a with defers := { target := .collected D, args := #[] } :: a.defers } W) :
    (Code.rangeFunc g ps assign body).wpIn F n P Q a w := by
  refine wpIn_rangeFunc ?_
  intro fn hfn
  rw [hro]
  let rec_ : LoopState → Option Code → Loop := fun st pe => { state := st, pending := pe, fn, tmps := a.tmps, params := ps, assign, body, defers := w.heap.size }
  have ready : Bears (w.heap.size + 2) (fun (_ : Unit) W => W.heap[w.heap.size + 1]? = some (.loop (rec_ .ready none)) ∧ W.heap[w.heap.size]? = some (.deferred (some []))) := fun _ A B row hs hg hr => by
    have z1 := (Array.getElem?_eq_some_iff.1 hs.1).1
    have z2 := (Array.getElem?_eq_some_iff.1 hs.2).1
    exact ⟨(hg.block _ z1 (fun e => by have := hr _ e.symm; omega)).trans hs.1, (hg.block _ z2 (fun e => by have := hr _ e.symm; omega)).trans hs.2⟩
  have ended : ∀ c, Bears (w.heap.size + 2) (fun (_ : Unit) W => W.heap[w.heap.size + 1]? = some (.loop (rec_ .done (some c))) ∧ W.heap[w.heap.size]? = some (.deferred (some []))) := fun c _ A B row hs hg hr => by
    have z1 := (Array.getElem?_eq_some_iff.1 hs.1).1
    have z2 := (Array.getElem?_eq_some_iff.1 hs.2).1
    exact ⟨(hg.block _ z1 (fun e => by have := hr _ e.symm; omega)).trans hs.1, (hg.block _ z2 (fun e => by have := hr _ e.symm; omega)).trans hs.2⟩
  have hsz : ((w.alloc (.deferred (some []))).alloc (.loop (rec_ .ready none))).heap.size = w.heap.size + 2 := by simp
  have hL1 : ((w.alloc (.deferred (some []))).alloc (.loop (rec_ .ready none))).heap[w.heap.size + 1]? = some (.loop (rec_ .ready none)) := by
    have := World.alloc_heap_new (w.alloc (.deferred (some []))) (.loop (rec_ .ready none)); rwa [World.size_alloc] at this
  have hK1 : ((w.alloc (.deferred (some []))).alloc (.loop (rec_ .ready none))).heap[w.heap.size]? = some (.deferred (some [])) := (Below.heap_alloc _ _ _ (by simp)).trans (World.alloc_heap_new w _)
  refine ⟨w.heap.size + 1, [{ target := .collected w.heap.size, args := #[] }], (w.alloc (.deferred (some []))).alloc (.loop (rec_ .ready none)), { target := .fn (.func gf) lb, args := #[.func (.yield (w.heap.size + 1)) #[] #[]] },
    (w.alloc (.deferred (some []))).alloc (.loop (rec_ .ready none)), gf, #[.func (.yield (w.heap.size + 1)) #[] #[]] ++ lb, (w.alloc (.deferred (some []))).alloc (.loop (rec_ .ready none)), run_enterLoop_outer _ _ _ _ _, ?_, ?_, ?_, fun _ => h1, ?_⟩
  · simp only [resolve, hg]
    simp [go_sem]
  · intro f' hf'
    simp [Target.leads] at hf'
    subst hf'
    exact hFg
  · simp [invoke, go_sem, eg]
  have hcall := hseq (w.heap.size + 1) (fun pre W => I pre W ∧ W.heap[w.heap.size + 1]? = some (.loop (rec_ .ready none)) ∧ W.heap[w.heap.size]? = some (.deferred (some [])))
    (fun T pre W => ∃ c, Ix T c pre W ∧ W.heap[w.heap.size + 1]? = some (.loop (rec_ .done (some c))) ∧ W.heap[w.heap.size]? = some (.deferred (some [])))
    ((w.alloc (.deferred (some []))).alloc (.loop (rec_ .ready none))) (lo_alloc (lo_alloc hb0 _) _)
    (fun s A B row hs hg' hr => ⟨hI.mono (by omega) s A B row hs.1 hg' hr, ready () A B row hs.2 hg' (fun r e => by have := hr r e; omega)⟩)
    (fun T s A B row hs hg' hr => by
      obtain ⟨c, hc, hl⟩ := hs
      exact ⟨c, (hIx T c).mono (by omega) s A B row hc hg' hr, ended c () A B row hl hg' (fun r e => by have := hr r e; omega)⟩)
    ?_ ⟨hI.alloc _ (hI.alloc _ h0), hL1, hK1⟩
  · refine hcall.mono ?_
    rintro e W2 ⟨⟨v, rfl⟩, (⟨xs, hS, hi, hl, hk⟩ | ⟨T, pre, hT, hSp, c, hi, hl, hk⟩)⟩
    · exact ⟨none, _, run_endLoop (P := P) hl (by simp [rec_]), hdone _ xs _ (Nat.le_refl _) hS (hI.putObj _ hi (by omega)) ((World.putObj_heap_other (by omega)).trans hk)⟩
    · exact ⟨some c, _, run_endLoop (P := P) hl (by simp [rec_]), hstop _ T c pre _ (Nat.le_refl _) (by rw [hsz] at hT; exact hT) hSp ((hIx T c).putObj _ hi (by omega) (by rw [hsz] at hT; omega)) ((World.putObj_heap_other (by omega)).trans hk)⟩
  rw [hsz]
  rintro T pre x W hT1 hT2 ⟨hi, hl, hk⟩ hpre hlen
  refine ⟨fn, _, assign, body, run_yield (P := P) (args := encs x) hl (hps x), roundIn_of_wpIn hfn (hassign _ pre x W _ hi ?_)⟩
  intro a' Wa hka hkp hia hax
  have hl2 := (hka.same _ (by omega) (Array.getElem?_eq_some_iff.1 hl).1).trans hl
  have hk2 := (hka.same _ (Nat.le_refl _) (Array.getElem?_eq_some_iff.1 hk).1).trans hk
  have hlt := (Array.getElem?_eq_some_iff.1 hl2).1
  refine ⟨_, run_beginRound hl2 rfl, ?_⟩
  have hl3 : (Wa.putObj (w.heap.size + 1) (.loop { rec_ .ready none with state := .busy })).heap[w.heap.size + 1]? = some (.loop { rec_ .ready none with state := .busy }) := World.putObj_heap_same hlt
  have hk3 : (Wa.putObj (w.heap.size + 1) (.loop { rec_ .ready none with state := .busy })).heap[w.heap.size]? = some (.deferred (some [])) := (World.putObj_heap_other (by omega)).trans hk2
  have hu : KeepsUp (w.heap.size + 2) W (Wa.putObj (w.heap.size + 1) (.loop { rec_ .ready none with state := .busy })) :=
    (hka.mono (by omega)).trans (KeepsUp.of_grown (grownBy_putObj' Wa _ _) (fun r e => by cases e; omega))
  have hup := hKt hkp (hKb Wa (w.heap.size + 1) (.loop { rec_ .ready none with state := .busy }) (by omega))
  have hsp : T ≤ (Wa.putObj (w.heap.size + 1) (.loop { rec_ .ready none with state := .busy })).heap.size := by
    have := hka.size
    have := (grownBy_putObj' Wa (w.heap.size + 1) (.loop { rec_ .ready none with state := .busy })).size
    omega
  refine wpIn_mono (hbody T _ pre x a' _ hT1 hsp (hI.putObj _ hia (by omega)) (hPre _ x _ _ hpre hu) ((hAx x a').putObj (s := ()) _ hax (by omega) hl2 rfl) hlen) ?_
  have fin : ∀ (jump : Option Code) (W3 : World), KeepsUp w.heap.size (Wa.putObj (w.heap.size + 1) (.loop { rec_ .ready none with state := .busy })) W3 →
      (Instr.endRound (w.heap.size + 1) jump).run P W3 = .ok (.bool jump.isNone) (W3.putObj (w.heap.size + 1) (.loop (rec_ (if jump.isNone then .ready else .done) jump))) ∧
      (W3.putObj (w.heap.size + 1) (.loop (rec_ (if jump.isNone then .ready else .done) jump))).heap[w.heap.size + 1]? = some (.loop (rec_ (if jump.isNone then .ready else .done) jump)) ∧
      (W3.putObj (w.heap.size + 1) (.loop (rec_ (if jump.isNone then .ready else .done) jump))).heap[w.heap.size]? = some (.deferred (some [])) := fun jump W3 h3 => by
    have e1 := (h3.same _ (by omega) (Array.getElem?_eq_some_iff.1 hl3).1).trans hl3
    have e2 := (h3.same _ (Nat.le_refl _) (Array.getElem?_eq_some_iff.1 hk3).1).trans hk3
    exact ⟨run_endRound (P := P) jump e1, World.putObj_heap_same (Array.getElem?_eq_some_iff.1 e1).1, (World.putObj_heap_other (by omega)).trans e2⟩
  rintro e a3 W3 hp
  cases e with
  | normal =>
    obtain ⟨hk4, hp4, hi4⟩ := hp
    obtain ⟨hr, hl4, hd4⟩ := fin none W3 hk4
    exact ⟨_, _, hr, .inl ⟨rfl, ⟨hI.putObj _ hi4 (by omega), hl4, hd4⟩, (hu.trans (hk4.mono (by omega))).trans (KeepsUp.of_grown (grownBy_putObj' W3 _ _) (fun r e => by cases e; omega)), hKt (hKt hup hp4) (hKb _ _ _ (by omega))⟩⟩
  | ret =>
    obtain ⟨hk4, hp4, hi4⟩ := hp
    obtain ⟨hr, hl4, hd4⟩ := fin (some .ret) W3 hk4
    exact ⟨_, _, hr, .inr ⟨rfl, ⟨.ret, (hIx T _).putObj _ hi4 (by omega) (by omega), hl4, hd4⟩, (hu.trans (hk4.mono (by omega))).trans (KeepsUp.of_grown (grownBy_putObj' W3 _ _) (fun r e => by cases e; omega)), hKt (hKt hup hp4) (hKb _ _ _ (by omega))⟩⟩
  | exit id =>
    obtain ⟨hk4, hp4, hi4⟩ := hp
    obtain ⟨hr, hl4, hd4⟩ := fin (some (.exit id)) W3 hk4
    exact ⟨_, _, hr, .inr ⟨rfl, ⟨.exit id, (hIx T _).putObj _ hi4 (by omega) (by omega), hl4, hd4⟩, (hu.trans (hk4.mono (by omega))).trans (KeepsUp.of_grown (grownBy_putObj' W3 _ _) (fun r e => by cases e; omega)), hKt (hKt hup hp4) (hKb _ _ _ (by omega))⟩⟩
  | goto t =>
    obtain ⟨hk4, hp4, hi4⟩ := hp
    obtain ⟨hr, hl4, hd4⟩ := fin (some (.goto t)) W3 hk4
    exact ⟨_, _, hr, .inr ⟨rfl, ⟨.goto t, (hIx T _).putObj _ hi4 (by omega) (by omega), hl4, hd4⟩, (hu.trans (hk4.mono (by omega))).trans (KeepsUp.of_grown (grownBy_putObj' W3 _ _) (fun r e => by cases e; omega)), hKt (hKt hup hp4) (hKb _ _ _ (by omega))⟩⟩
  | panic ch => exact hp.elim
  | outgrown => exact hp.elim
end Go.Proofs.YtpeiolimdglmhaaGreatDoor

-- Walks: the iterator over all images with given sums (it writes its own image and its own list).
namespace Go.Proofs.YtpeiolimdglmhaaGreatDoor
open Go.RowKit Go.Shelf
attribute [local go_sem] Oper.semAt_some
set_option maxRecDepth 100000

set_option maxHeartbeats 4000000 in
theorem fits_c (A : Option Addr) (n c r : Nat) (k : Int) (lf : List Int) (w : World) (hr : Rd w A n lf) (hn : n ≤ 6) (hr64 : r < 64) :
    Calls Tryz.prog 126 #[.int .i64 r, .slice A n c, .int .i64 k] w fun e w' => e = .returned (.bool (fitB r lf k)) ∧ w = w' := by
  have hxl := Lib.hid hr.1
  go_enter Tryz.func126, Tryz.ntmps126
  go_wp2
  go_loop [12] (fun i => ∃ j : Nat, j ≤ n ∧ i = .int .i64 j ∧ Hid (∀ t, t < j → (r.testBit t = true → lf[t]?.getD 0 ≠ 0) ∧ (r.testBit t = false → lf[t]?.getD 0 ≠ k))) (fun i => n - (intOf i).toNat)
  case atStart => exact ⟨0, Nat.zero_le _, rfl, Lib.hid (fun t h => absurd h (by omega))⟩
  case round =>
    obtain ⟨j, hj, rfl, hall⟩ := hrel
    by_cases hlt : j < n
    · obtain ⟨b, off, rfl, hb, hc⟩ := hr.at_ hlt
      have hp := pow_int (j := j) (by omega)
      have hA := and_bit r j (by omega)
      cases hbit : r.testBit j with
      | true =>
        rw [hbit, if_pos rfl] at hA
        by_cases h0 : lf[j]?.getD 0 = 0
        · have hF := Lib.hid (show fitB r lf k = false by
            rw [← Bool.not_eq_true]
            intro h
            exact (fitB_iff.1 h j (by rw [hxl.out]; exact hlt)).1 hbit h0)
          rw [h0] at hc
          clear hbit h0
          go_wp2
          go_ret
          exact ⟨ret_bool hF.out.symm, rfl⟩
        · have hN : Hid (∀ t, t < j + 1 → (r.testBit t = true → lf[t]?.getD 0 ≠ 0) ∧ (r.testBit t = false → lf[t]?.getD 0 ≠ k)) := Lib.hid (fun t ht => by
            rcases Nat.lt_or_ge t j with h | h
            · exact hall.out t h
            · obtain rfl : t = j := by omega
              exact ⟨fun _ => h0, fun h => by rw [hbit] at h; cases h⟩)
          generalize lf[j]?.getD 0 = v at hc h0
          have hz : (v == 0) = false := beq_eq_false_iff_ne.2 h0
          clear hbit h0
          go_wp2
          go_round
          case rel => exact ⟨j + 1, by omega, by go_num, hN⟩
          case measure => simp [intOf]; omega
      | false =>
        rw [hbit, if_neg (by simp)] at hA
        by_cases h0 : lf[j]?.getD 0 = k
        · have hF := Lib.hid (show fitB r lf k = false by
            rw [← Bool.not_eq_true]
            intro h
            exact (fitB_iff.1 h j (by rw [hxl.out]; exact hlt)).2 hbit h0)
          rw [h0] at hc
          have hz : (k == k) = true := by simp
          clear hbit h0
          go_wp2
          go_ret
          exact ⟨ret_bool hF.out.symm, rfl⟩
        · have hN : Hid (∀ t, t < j + 1 → (r.testBit t = true → lf[t]?.getD 0 ≠ 0) ∧ (r.testBit t = false → lf[t]?.getD 0 ≠ k)) := Lib.hid (fun t ht => by
            rcases Nat.lt_or_ge t j with h | h
            · exact hall.out t h
            · obtain rfl : t = j := by omega
              exact ⟨fun h => by rw [hbit] at h; (cases h), fun _ => h0⟩)
          generalize lf[j]?.getD 0 = v at hc h0
          have hz : (v == k) = false := beq_eq_false_iff_ne.2 h0
          clear hbit h0
          go_wp2
          go_round
          case rel => exact ⟨j + 1, by omega, by go_num, hN⟩
          case measure => simp [intOf]; omega
    · obtain rfl : j = n := by omega
      have hF := Lib.hid (show fitB r lf k = true from fitB_iff.2 (by rw [hxl.out]; exact hall.out))
      go_wp2
      go_ret
      exact ⟨ret_bool hF.out.symm, rfl⟩

/-- a row's cells taken, times a number -/
def takeT (t : Int) (row : Nat) (lf : List Int) : List Int := (List.range lf.length).map (fun j => lf[j]?.getD 0 - ((b1 (row.testBit j) : Nat) : Int) * t)
theorem takeT_len (t : Int) (row : Nat) (lf : List Int) : (takeT t row lf).length = lf.length := by simp [takeT]
theorem takeT_one (row : Nat) (lf : List Int) : takeT 1 row lf = takeL row lf := by simp [takeT, takeL]
theorem takeT_back (row : Nat) (lf : List Int) : takeT (-1) row lf = giveL row lf := by
  simp only [takeT, giveL]
  refine List.map_congr_left (fun j _ => ?_)
  omega
theorem takeT_at {t : Int} {row : Nat} {lf : List Int} {j : Nat} (h : j < lf.length) : (takeT t row lf)[j]? = some (lf[j]?.getD 0 - ((b1 (row.testBit j) : Nat) : Int) * t) := by
  simp [takeT, List.getElem?_map, List.getElem?_range h]
theorem mixed_get (ys xs : List Int) {j : Nat} (h : j ≤ ys.length) : (ys.take j ++ xs.drop j)[j]?.getD 0 = xs[j]?.getD 0 := by
  have e : (ys.take j).length = j := by rw [List.length_take]; omega
  rw [List.getElem?_append_right (by rw [e]; exact Nat.le_refl _), e, Nat.sub_self, List.getElem?_drop, Nat.add_zero]

theorem take_val {r j : Nat} {v t : Int} (ht : t = 1 ∨ t = -1) (hr : r < 64) (hv : -1000 ≤ v ∧ v ≤ 1000) : wrap64 (v - wrap64 (bits .and .i64 ((r : Int) / 2 ^ j) 1 * t)) = v - ((b1 (r.testBit j) : Nat) : Int) * t := by
  rw [and_bit r j (by omega)]
  have e : ((if r.testBit j = true then (1 : Int) else 0) * t) = ((b1 (r.testBit j) : Nat) : Int) * t := by cases r.testBit j <;> rfl
  have hb : -1 ≤ ((b1 (r.testBit j) : Nat) : Int) * t ∧ ((b1 (r.testBit j) : Nat) : Int) * t ≤ 1 := by
    cases r.testBit j <;> rcases ht with rfl | rfl <;> simp [b1]
  rw [e]
  generalize ((b1 (r.testBit j) : Nat) : Int) * t = z at hb ⊢
  rw [IntWalk.wrap64_in z (by omega), IntWalk.wrap64_in _ (by omega)]

set_option maxHeartbeats 4000000 in
theorem take_c (lo g n c r : Nat) (t : Int) (lf : List Int) (w : World) (ho : Own w lo (some ⟨g, 0, none⟩) n lf) (hn : n ≤ 6) (hr64 : r < 64) (ht : t = 1 ∨ t = -1) (hl : ∀ x ∈ lf, -1000 ≤ x ∧ x ≤ 1000) :
    Calls Tryz.prog 127 #[.slice (some ⟨g, 0, none⟩) n c, .int .i64 r, .int .i64 t] w fun e w' => e = .returned (.tuple #[]) ∧ w.grownBy w' (some g) ∧ Own w' lo (some ⟨g, 0, none⟩) n (takeT t r lf) := by
  have hxl := Lib.hid ho.1
  have hl' := Lib.hid hl
  clear hl
  go_enter Tryz.func127, Tryz.ntmps127
  go_wp2
  go_loopw [9] (fun i wr => ∃ j : Nat, j ≤ n ∧ i = .int .i64 j ∧ w.grownBy wr (some g) ∧ Own wr lo (some ⟨g, 0, none⟩) n ((takeT t r lf).take j ++ lf.drop j)) (fun i _ => n - (intOf i).toNat)
  case atStart => exact ⟨0, Nat.zero_le _, rfl, World.grownBy.refl _ _, by simpa using ho⟩
  case round =>
    obtain ⟨j, hj, rfl, hg, hO⟩ := hrel
    by_cases hlt : j < n
    · obtain ⟨g', e', _, hz, cc, ff, ss⟩ := hO.at_ (k := j) hlt
      cases e'
      rw [mixed_get _ _ (by rw [takeT_len, hxl.out]; omega)] at cc
      have hp := pow_int (j := j) (by omega)
      have hset := Lib.hid (take_drop_set (takeT t r lf) lf j _ (by rw [hxl.out]; exact hlt) (takeT_at (t := t) (row := r) (by rw [hxl.out]; exact hlt)))
      have hvb := hl'.out _ (mem_at (xs := lf) (k := j) (by rw [hxl.out]; exact hlt))
      generalize lf[j]?.getD 0 = v at cc hset hvb
      have hV : Hid (wrap64 (v - wrap64 (bits .and .i64 ((r : Int) / 2 ^ j) 1 * t)) = v - ((b1 (r.testBit j) : Nat) : Int) * t) := Lib.hid (take_val ht (by omega) (by omega))
      have H := Lib.hid (ss (v - ((b1 (r.testBit j) : Nat) : Int) * t))
      rw [hset.out] at H
      clear ss hO hset
      go_wp2
      go_region
      rw [hV.out]
      go_wp2
      go_roundw
      case rel => exact ⟨j + 1, by omega, by go_num, grown_trans (grown_trans hg (grown_set _)) (grown_drew _), H.out.drew⟩
      case measure => simp [intOf]; omega
    · obtain rfl : j = n := by omega
      rw [List.take_of_length_le (by rw [takeT_len, hxl.out]; exact Nat.le_refl _), List.drop_of_length_le (by rw [hxl.out]; exact Nat.le_refl _), List.append_nil] at hO
      go_wp2
      go_end0
      exact ⟨rfl, hg, hO⟩
end Go.Proofs.YtpeiolimdglmhaaGreatDoor

-- Walks: the iterator over all images with given sums: the function within it that calls itself.
namespace Go.Proofs.YtpeiolimdglmhaaGreatDoor
open Go.RowKit Go.Shelf
theorem wide_fn (f : FuncId) : Fence.wide.fn f = True := rfl
attribute [local go_sem] Oper.semAt_some wide_fn
set_option maxRecDepth 100000

theorem Own.keepsUp {W W' : World} {lo B n : Nat} {A : Option Addr} {xs : List Int} (h : Own W lo A n xs) (k : KeepsUp B W W') (hl : B ≤ lo) : Own W' lo A n xs :=
  ⟨h.1, fun hn => by
    obtain ⟨g, cs, e, h1, h2, h3⟩ := h.2 hn
    exact ⟨g, cs, e, h1, k.blk h2 (by omega), h3⟩⟩
theorem YieldAt.any {m m' l : Nat} {P : Program} {args : Array Value} {W : World} {R : Ending → World → Prop} (h : YieldAt Fence.wide m P l args W R) : YieldAt Fence.wide m' P l args W R := by
  obtain ⟨fn, tmps, assign, body, hy, hR⟩ := h
  exact ⟨fn, tmps, assign, body, hy, hR.1, fun c cs _ => hR.2 c cs (room_wide _)⟩

/-- the iterator's own memory: its boxes, its image, its list -/
structure FillSt (B y i l f gA gL h m cA cL lY bR : Nat) (x lf : List Int) (W : World) : Prop where
  by_ : Blk W y 33 #[.func (.yield lY) #[] #[]]
  bi : Blk W i 25 #[.int .i64 (m : Int), .slice (some ⟨gA, 0, none⟩) h cA]
  bl : Blk W l 23 #[.slice (some ⟨gL, 0, none⟩) m cL]
  bf : Blk W f 105 #[.func (.func 124) #[] #[.pointer (some ⟨bR, 0, none⟩), .pointer (some ⟨l, 0, none⟩), .pointer (some ⟨y, 0, none⟩), .pointer (some ⟨i, 0, none⟩), .pointer (some ⟨f, 0, none⟩)]]
  oA : Own W B (some ⟨gA, 0, none⟩) h x
  oL : Own W B (some ⟨gL, 0, none⟩) m lf
/-- its blocks are new and differ -/
structure FillNe (B y i l f gA gL bR gR : Nat) : Prop where
  up : B ≤ y ∧ B ≤ i ∧ B ≤ l ∧ B ≤ f ∧ B ≤ gA ∧ B ≤ gL ∧ bR < B ∧ gR < B
  ne : gA ≠ y ∧ gA ≠ i ∧ gA ≠ l ∧ gA ≠ f ∧ gL ≠ y ∧ gL ≠ i ∧ gL ≠ l ∧ gL ≠ f ∧ gA ≠ gL
section
variable {B y i l f gA gL h m cA cL lY bR gR : Nat} {x lf : List Int} {W W' : World}
theorem FillSt.keep (s : FillSt B y i l f gA gL h m cA cL lY bR x lf W) (ne : FillNe B y i l f gA gL bR gR) (k : KeepsUp B W W') : FillSt B y i l f gA gL h m cA cL lY bR x lf W' :=
  ⟨k.blk s.by_ ne.up.1, k.blk s.bi ne.up.2.1, k.blk s.bl ne.up.2.2.1, k.blk s.bf ne.up.2.2.2.1, s.oA.keepsUp k (Nat.le_refl _), s.oL.keepsUp k (Nat.le_refl _)⟩
theorem FillSt.setA (s : FillSt B y i l f gA gL h m cA cL lY bR x lf W) (ne : FillNe B y i l f gA gL bR gR) {k : Nat} (hk : k < h) (v : Int) : FillSt B y i l f gA gL h m cA cL lY bR (x.set k v) lf (W.setCell ⟨gA, k, none⟩ (.int .i64 v)) := by
  obtain ⟨g', e', _, _, _, _, ss⟩ := s.oA.at_ hk
  cases e'
  obtain ⟨n1, n2, n3, n4, n5, n6, n7, n8, n9⟩ := ne.ne
  exact ⟨s.by_.far (by simpa using Ne.symm n1) _, s.bi.far (by simpa using Ne.symm n2) _, s.bl.far (by simpa using Ne.symm n3) _, s.bf.far (by simpa using Ne.symm n4) _, ss v, s.oL.far (by rintro g ⟨⟩; simpa using Ne.symm n9) _⟩
theorem FillSt.takeA (s : FillSt B y i l f gA gL h m cA cL lY bR x lf W) (ne : FillNe B y i l f gA gL bR gR) {lf' : List Int} (hg : W.grownBy W' (some gL)) (ho : Own W' B (some ⟨gL, 0, none⟩) m lf') : FillSt B y i l f gA gL h m cA cL lY bR x lf' W' := by
  obtain ⟨n1, n2, n3, n4, n5, n6, n7, n8, n9⟩ := ne.ne
  exact ⟨s.by_.grown hg (fun e => by injection e with e; exact n5 e.symm), s.bi.grown hg (fun e => by injection e with e; exact n6 e.symm), s.bl.grown hg (fun e => by injection e with e; exact n7 e.symm), s.bf.grown hg (fun e => by injection e with e; exact n8 e.symm),
    s.oA.grown hg (by rintro g ⟨⟩ e; injection e with e; exact n9 e.symm), ho⟩
end

def imEnc (h m cA : Nat) (x : Nat × List Int) : Array Value := #[.agg #[.int .i64 (m : Int), .slice (some ⟨x.1, 0, none⟩) h cA]]
def imPre (h B : Nat) (x : Nat × List Int) (W : World) : Prop := B ≤ x.1 ∧ Own W B (some ⟨x.1, 0, none⟩) h x.2
theorem imPre_keep (n B : Nat) (x : Nat × List Int) (W W' : World) (h : imPre n B x W) (k : KeepsUp B W W') : imPre n B x W' := ⟨h.1, h.2.keepsUp k (Nat.le_refl _)⟩
/-- what the inner function leaves -/
structure FillFr (bR gR : Nat) (W W' : World) : Prop where
  kb : KB2 bR gR W W'
  sz : W.heap.size ≤ W'.heap.size
theorem FillFr.trans {bR gR : Nat} {X Y Z : World} (h : FillFr bR gR X Y) (k : FillFr bR gR Y Z) : FillFr bR gR X Z := ⟨h.kb.trans k.kb, Nat.le_trans h.sz k.sz⟩
theorem FillFr.refl (bR gR : Nat) (W : World) : FillFr bR gR W W := ⟨KB2.refl _ _ _, Nat.le_refl _⟩
theorem FillFr.grown {bR gR g B : Nat} {W W' : World} (hg : W.grownBy W' (some g)) (hB : B ≤ g) (h1 : bR < B) (h2 : gR < B) (hW : B ≤ W.heap.size) : FillFr bR gR W W' :=
  ⟨KB2.of_grown hg (by omega) (by omega) (fun e => by injection e; omega) (fun e => by injection e; omega), hg.size⟩

def withG (gA : Nat) (p : List Int) (L : List (List Int)) : List (Nat × List Int) := L.map (fun t => (gA, p ++ t))
theorem withG_append (gA : Nat) (p : List Int) (L M : List (List Int)) : withG gA p (L ++ M) = withG gA p L ++ withG gA p M := by simp [withG]
theorem withG_cons (gA : Nat) (p : List Int) (a : Int) (L : List (List Int)) : withG gA p (L.map (fun x => a :: x)) = withG gA (p ++ [a]) L := by simp [withG]
theorem withG_len (gA : Nat) (p : List Int) (L : List (List Int)) : (withG gA p L).length = L.length := by simp [withG]
theorem imgK_prefix (r : Int) (rs lf : List Int) {k k' : Nat} (h : k ≤ k') : imgK r rs lf k <+: imgK r rs lf k' := by
  obtain ⟨d, rfl⟩ := Nat.exists_eq_add_of_le h
  refine ⟨(List.range' k d).flatMap (fun row => if ((pop row : Nat) : Int) = r ∧ fitB row lf ((rs.length + 1 : Nat) : Int) = true then (imgL rs (takeL row lf)).map (fun x => (row : Int) :: x) else []), ?_⟩
  rw [imgK, imgK, List.range_eq_range', List.range_eq_range', ← List.flatMap_append]
  congr 1
  have := List.range'_append (s := 0) (m := k) (n := d) (step := 1)
  simpa using this
theorem withG_prefix {gA : Nat} {p : List Int} {L M : List (List Int)} (h : L <+: M) : withG gA p L <+: withG gA p M := by
  obtain ⟨t, rfl⟩ := h
  exact ⟨withG gA p t, (withG_append _ _ _ _).symm⟩

def FillPost (J Jx : List (Nat × List Int) → World → Prop) (B y i l f gA gL h m cA cL lY bR gR : Nat) (k : Nat) (x lf : List Int) (pre : List (Nat × List Int)) (L : List (List Int)) (W : World) (e : Ending) (W' : World) : Prop :=
  (e = .returned (.bool true) ∧ J (pre ++ withG gA (x.take k) L) W' ∧ (∃ x', x'.take k = x.take k ∧ FillSt B y i l f gA gL h m cA cL lY bR x' lf W') ∧ FillFr bR gR W W') ∨
  (e = .returned (.bool false) ∧ (∃ pre', pre' ≠ [] ∧ pre' <+: withG gA (x.take k) L ∧ Jx (pre ++ pre') W') ∧ (∃ x', FillSt B y i l f gA gL h m cA cL lY bR x' lf W') ∧ FillFr bR gR W W')

def sumsLe (k : Nat) (lf : List Int) : Prop := ∀ j, j < lf.length → 0 ≤ lf[j]?.getD 0 ∧ lf[j]?.getD 0 ≤ k
theorem sumsLe_mem {k : Nat} {lf : List Int} (h : sumsLe k lf) : ∀ v ∈ lf, 0 ≤ v ∧ v ≤ (k : Int) := by
  intro v hv
  obtain ⟨j, hj, rfl⟩ := List.mem_iff_getElem.1 hv
  have := h j hj
  rwa [List.getElem?_eq_getElem hj, Option.getD_some] at this
theorem sumsLe_take {k row : Nat} {lf : List Int} (h : sumsLe (k + 1) lf) (hf : fitB row lf ((k + 1 : Nat) : Int) = true) : sumsLe k (takeL row lf) := by
  intro j hj
  rw [takeL_len] at hj
  rw [takeL_get hj]
  have h1 := h j hj
  have h2 := fitB_iff.1 hf j hj
  cases hb : row.testBit j with
  | true => have := h2.1 hb; simp [b1]; omega
  | false => have := h2.2 hb; simp [b1]; omega

set_option maxHeartbeats 16000000 in
theorem fill_c {B y i l f gA gL h m cA cL lY bR gR offR cR : Nat} {rows : List Int} (hm1 : 1 ≤ m) (hm : m ≤ 6) (hh1 : 1 ≤ h) (hh : h ≤ 6) (ne : FillNe B y i l f gA gL bR gR) (N : Nat)
    {T : Nat} (hgT : gL < T) (J Jx : List (Nat × List Int) → World → Prop) (hJ : Bears B J) (hJx : BearsT B T Jx)
    (hY : ∀ k pre x W1, J pre W1 → imPre h B x W1 → pre.length < N → YieldAt Fence.wide k Tryz.prog lY (imEnc h m cA x) W1 fun e W' =>
      (e = .returned (.bool true) ∧ J (pre ++ [x]) W' ∧ KeepsUp B W1 W' ∧ KB2 bR gR W1 W') ∨ (e = .returned (.bool false) ∧ Jx (pre ++ [x]) W' ∧ KeepsUp B W1 W' ∧ KB2 bR gR W1 W')) :
    ∀ (k t : Nat) (x lf : List Int) (pre : List (Nat × List Int)) (W : World), t + k = h → FillSt B y i l f gA gL h m cA cL lY bR x lf W → Rd W (some ⟨gR, offR, none⟩) h rows → Blk W bR 23 #[.slice (some ⟨gR, offR, none⟩) h cR] → B ≤ W.heap.size → J pre W → sumsLe k lf →
      pre.length + (imgL (rows.drop t) lf).length ≤ N →
      Calls Tryz.prog 124 #[.int .i64 (t : Int), .pointer (some ⟨bR, 0, none⟩), .pointer (some ⟨l, 0, none⟩), .pointer (some ⟨y, 0, none⟩), .pointer (some ⟨i, 0, none⟩), .pointer (some ⟨f, 0, none⟩)] W
        (FillPost J Jx B y i l f gA gL h m cA cL lY bR gR t x lf pre (imgL (rows.drop t) lf) W) := by
  have hne' := Lib.hid ne
  have hup := ne.up
  clear ne
  intro k
  induction k with
  | zero =>
    intro t x lf pre W htk hS hR hbR hBW hJp hlf hN
    obtain rfl : t = h := by omega
    have hlen := Lib.hid hS.oL.1
    have hxl := Lib.hid hS.oA.1
    have hrl := Lib.hid hR.1
    have hz : lf.sum = 0 := sum_zero (fun j hj => by have := hlf j hj; omega)
    have hL := Lib.hid (show imgL (rows.drop t) lf = [[]] by rw [List.drop_of_length_le (by rw [hR.1]; exact Nat.le_refl _), imgL, hz, if_neg (by omega)])
    rw [hL.out] at hN
    have hlm := sumsLe_mem hlf
    refine (callsIn_wide (n := 2)).1 ?_
    refine callsIn_of_wp Tryz.func124 rfl trivial ?_ rfl
    simp only [Tryz.ntmps124, List.size_toArray, List.length_cons, List.length_nil, Nat.reduceAdd, Nat.reduceSub, Array.replicate_succ, Array.replicate_zero, List.push_toArray, List.append_toArray, List.nil_append, List.cons_append]
    have r0 := hbR.cell 0
    have l0 := hS.bl.cell 0
    have y0 := hS.by_.cell 0
    have i0 := hS.bi.cell 0
    have i1 := hS.bi.cell 1
    have hfull := Lib.hid (show x.take t = x by rw [List.take_of_length_le (by rw [hS.oA.1]; exact Nat.le_refl _)])
    obtain ⟨fn, tmps, assign, body, hy, hRd⟩ := hY 1 pre (gA, x) W hJp ⟨hup.2.2.2.2.1, hS.oA⟩ (by simp at hN; omega)
    have hy' : (Instr.yield lY #[.agg #[.int .i64 (m : Int), .slice (some ⟨gA, 0, none⟩) t cA]]).run Tryz.prog W = .ok (.round lY fn tmps assign body) W := hy
    clear hy
    gi_wp2_with (gi_at_call 125; refine (callsIn_wide.2 (total_c _ _ _ 0 lf _ hS.oL.rd (by omega) (by omega) (by omega) (fun v hv => by have := hlm v hv; omega))).mono ?_; rw [hz]; rintro e w2 ⟨rfl, rfl⟩)
    refine hRd.mono ?_
    rintro e W3 (⟨rfl, hJ3, hk3, hb3⟩ | ⟨rfl, hJx3, hk3, hb3⟩)
    · gi_wp2
      refine bodyPost_ret (v := .bool true) (by simp [results, Tryz.results124, go_sem]) rfl (.inl ⟨rfl, ?_, ⟨x, rfl, hS.keep hne'.out hk3⟩, hb3, hk3.size⟩)
      rw [hL.out, hfull.out]
      simpa [withG] using hJ3
    · gi_wp2
      refine bodyPost_ret (v := .bool false) (by simp [results, Tryz.results124, go_sem]) rfl (.inr ⟨rfl, ⟨[(gA, x)], by simp, ?_, hJx3⟩, ⟨x, hS.keep hne'.out hk3⟩, hb3, hk3.size⟩)
      rw [hL.out, hfull.out]
      simp [withG]
  | succ k ih =>
    intro t x lf pre W htk hS hR hbR hBW hJp hlf hN
    have hlt : t < h := by omega
    have hlen := Lib.hid hS.oL.1
    have hrl := Lib.hid hR.1
    have hdr := Lib.hid (show rows.drop t = (rows[t]?.getD 0) :: rows.drop (t + 1) by
      have : t < rows.length := by rw [hR.1]; exact hlt
      rw [List.drop_eq_getElem_cons this, List.getElem?_eq_getElem this]; rfl)
    have hrs := Lib.hid (show (rows.drop (t + 1)).length = k by rw [List.length_drop, hR.1]; omega)
    obtain ⟨r, hrv⟩ : ∃ r, Hid (r = rows[t]?.getD 0) := ⟨_, Lib.hid rfl⟩
    have hrc : ∀ {V : World}, Rd V (some ⟨gR, offR, none⟩) h rows → V.cell? ⟨gR, offR + t, none⟩ = some (.int .i64 r) := fun {V} hV => by
      obtain ⟨b', off', e', _, hc⟩ := hV.at_ hlt
      cases e'
      rw [hrv.out]
      exact hc
    rw [hdr.out, ← hrv.out] at hN ⊢
    obtain ⟨rs, hrsd⟩ : ∃ rs, Hid (rs = rows.drop (t + 1)) := ⟨_, Lib.hid rfl⟩
    rw [← hrsd.out] at hN hrs ⊢
    obtain ⟨M, hMd⟩ : ∃ M, Hid (M = 2 ^ m) := ⟨_, Lib.hid rfl⟩
    have hM64 : M ≤ 64 := by rw [hMd.out]; exact pow_le64 hm
    have hpm := pow_int (j := m) hm
    have hpw := Lib.hid (show ((2 : Int) ^ m) = (M : Int) by rw [hMd.out]; simp)
    have hAll := Lib.hid (show imgK r rs lf M = imgL (r :: rs) lf by rw [hMd.out, ← hS.oL.1]; exact imgK_all r rs lf)
    refine (callsIn_wide (n := 2)).1 ?_
    refine callsIn_of_wp Tryz.func124 rfl trivial ?_ rfl
    simp only [Tryz.ntmps124, List.size_toArray, List.length_cons, List.length_nil, Nat.reduceAdd, Nat.reduceSub, Array.replicate_succ, Array.replicate_zero, List.push_toArray, List.append_toArray, List.nil_append, List.cons_append]
    have r0 := hbR.cell 0
    have i0 := hS.bi.cell 0
    have i1 := hS.bi.cell 1
    have hth : ((t : Int) == (h : Int)) = false := by rw [beq_eq_false_iff_ne]; omega
    gi_wp2
    clear r0 i0 i1
    rw [hpw.out]
    clear hpm
    have hJ0 : J (pre ++ withG gA (x.take t) (imgK r rs lf 0)) W := by rw [imgK_zero]; simpa [withG] using hJp
    gi_loopw [25] (fun q wr => ∃ (q' : Nat) (x' : List Int), q' ≤ M ∧ q = .int .i64 q' ∧ Hid (x'.take t = x.take t) ∧ FillSt B y i l f gA gL h m cA cL lY bR x' lf wr ∧ J (pre ++ withG gA (x.take t) (imgK r rs lf q')) wr ∧ FillFr bR gR W wr) (fun q _ => M - (intOf q).toNat)
    case atStart => exact ⟨0, x, Nat.zero_le _, rfl, Lib.hid rfl, hS, hJ0, FillFr.refl _ _ _⟩
    case round =>
      clear hJ0 hJp hS
      obtain ⟨q, x', hq, rfl, hx', hS, hJq, hF⟩ := hrel
      have hRw := hR.kb (by omega) hF.kb.2
      have hbw := hbR.kb hF.kb.1
      by_cases hlq : q < M
      · have hq64 : q < 64 := by omega
        have r0 := hbw.cell 0
        have rc := hrc hRw
        have l0 := hS.bl.cell 0
        have hkk : ((k + 1 : Nat) : Int) = (h : Int) - (t : Int) := by omega
        have hbz : bR < wr.heap.size ∧ gR < wr.heap.size := ⟨by have := hF.sz; omega, by have := hF.sz; omega⟩
        have hadv : ∀ {V : World}, Below wr.heap.size wr V → FillSt B y i l f gA gL h m cA cL lY bR x' lf V ∧ J (pre ++ withG gA (x.take t) (imgK r rs lf q)) V ∧ FillFr bR gR W V := fun {V} hb =>
          ⟨hS.keep hne'.out (KeepsUp.of_below hb), hJ _ _ _ none hJq (grown_of_below hb none) (fun r e => by cases e), hF.trans ⟨KB2.of_below hb hbz.1 hbz.2, hb.size⟩⟩
        by_cases hpop : ((pop q : Nat) : Int) = r
        · have hp1 : (((pop q : Nat) : Int) != r) = false := by simp [hpop]
          cases hfit : fitB q lf ((k + 1 : Nat) : Int) with
          | false =>
            have hM := Lib.hid (imgK_miss (r := r) (rs := rs) (lf := lf) (k := q) (by rw [hrs.out, hfit]; simp))
            rw [hkk] at hfit
            clear hpop hkk
            gi_wp2
            gi_big_quiet_th (first
              | (gi_at_call 48; exact CallsIn.quiet_of_same (callsIn_wide.2 (still_of (ones_c q _ hq64))))
              | (gi_at_call 126; exact CallsIn.quiet_of_same (callsIn_wide.2 (still_of (fits_c _ _ _ _ _ lf _ (hS.oL.next (below_drewN (Below.refl _ _) _)).rd hm hq64)))))
            obtain ⟨hS2, hJ2, hF2⟩ := hadv (below_drewN (Below.refl wr.heap.size wr) nq)
            rw [← hM.out] at hJ2
            gi_wp2
            go_roundw
            case rel => exact ⟨q + 1, x', by omega, by go_num, hx', hS2, hJ2, hF2⟩
            case measure => simp [intOf]; omega
          | true =>
            have hH := Lib.hid (imgK_hit (r := r) (rs := rs) (lf := lf) (k := q) hpop (by rw [hrs.out]; exact hfit))
            have hle := Lib.hid (sumsLe_take hlf hfit)
            rw [hkk] at hfit
            clear hpop hkk
            gi_wp2
            gi_big_quiet_th (first
              | (gi_at_call 48; exact CallsIn.quiet_of_same (callsIn_wide.2 (still_of (ones_c q _ hq64))))
              | (gi_at_call 126; exact CallsIn.quiet_of_same (callsIn_wide.2 (still_of (fits_c _ _ _ _ _ lf _ (hS.oL.next (below_drewN (Below.refl _ _) _)).rd hm hq64)))))
            obtain ⟨hS2, hJ2, hF2⟩ := hadv (below_drewN (Below.refl wr.heap.size wr) nq)
            have hRw2 := hR.kb (by omega) hF2.kb.2
            have hbw2 := hbR.kb hF2.kb.1
            clear r0 rc l0 hadv hS hJq hF hbz hRw hbw
            generalize wr.drewN nq = W1 at hS2 hJ2 hF2 hRw2 hbw2 ⊢
            have i1 := hS2.bi.cell 1
            obtain ⟨g', e', _, _, cA0, fA0, _⟩ := hS2.oA.at_ hlt
            cases e'
            have hS3 := hS2.setA hne'.out hlt (q : Int)
            have hJ3 := hJ _ _ _ (some gA) hJ2 (grown_set (g := gA) (k := t) (.int .i64 (q : Int))) (fun r e => by cases e; exact hup.2.2.2.2.1)
            have hF3 := hF2.trans (FillFr.grown (grown_set (g := gA) (k := t) (.int .i64 (q : Int))) hup.2.2.2.2.1 hup.2.2.2.2.2.2.1 hup.2.2.2.2.2.2.2 (by have := hF2.sz; omega))
            have l0 := hS3.bl.cell 0
            gi_wp2_with fail
            clear i1 cA0 fA0 hS2 hJ2 hF2
            generalize W1.setCell ⟨gA, t, none⟩ (.int .i64 (q : Int)) = W2 at hS3 hJ3 hF3 l0 ⊢
            gi_at_call 127
            refine (callsIn_wide.2 (take_c B gL m cL q 1 lf _ hS3.oL hm hq64 (.inl rfl) (fun v hv => by have := sumsLe_mem hlf v hv; omega))).mono ?_
            rw [takeT_one]
            rintro e W3 ⟨rfl, hg3, ho3⟩
            have hS4 := hS3.takeA hne'.out hg3 ho3
            have hJ4 := hJ _ _ _ (some gL) hJ3 hg3 (fun r e => by cases e; exact hup.2.2.2.2.2.1)
            have hF4 := hF3.trans (FillFr.grown hg3 hup.2.2.2.2.2.1 hup.2.2.2.2.2.2.1 hup.2.2.2.2.2.2.2 (by have := hF3.sz; omega))
            clear hS3 hJ3 hF3 hg3 ho3 l0
            have f0 := hS4.bf.cell 0
            have hRw4 := hR.kb (by omega) hF4.kb.2
            have hbw4 := hbR.kb hF4.kb.1
            have hlq1 : (imgK r rs lf (q + 1)).length ≤ (imgL (r :: rs) lf).length := by rw [← hAll.out]; exact (imgK_prefix r rs lf (show q + 1 ≤ M by omega)).length_le
            have hih := ih (t + 1) (x'.set t (q : Int)) (takeL q lf) (pre ++ withG gA (x.take t) (imgK r rs lf q)) W3 (by omega) hS4 hRw4 hbw4 (by have := hF4.sz; omega) hJ4 hle.out (by
              rw [← hrsd.out, List.length_append, withG_len]
              rw [hH.out, List.length_append, List.length_map] at hlq1
              omega)
            rw [← hrsd.out, Int.natCast_succ] at hih
            have hx2 : Hid ((x'.set t (q : Int)).take (t + 1) = x.take t ++ [(q : Int)]) := Lib.hid (by
              have hxl : t < x'.length := by rw [hS4.oA.1.symm.trans (List.length_set ..) |>.symm]; exact hlt
              rw [List.take_succ_eq_append_getElem (by rw [List.length_set]; exact hxl), List.getElem_set_self, List.take_set_of_le (Nat.le_refl _), hx'.out])
            gi_wp2_with fail
            gi_at_call 124
            refine (callsIn_wide.2 hih).mono ?_
            clear hih
            rintro e W4 (⟨rfl, hJ5, ⟨x2, hx3, hS5⟩, hF5⟩ | ⟨rfl, ⟨pre', hp1', hp2', hJ5⟩, ⟨x2, hS5⟩, hF5⟩)
            · have hF6 := hF4.trans hF5
              rw [hx2.out] at hJ5 hx3
              have l0 := hS5.bl.cell 0
              gi_wp2_with fail
              gi_at_call 127
              refine (callsIn_wide.2 (take_c B gL m cL q (-1) (takeL q lf) _ hS5.oL hm hq64 (.inr rfl) (fun v hv => by have := sumsLe_mem hle.out v hv; omega))).mono ?_
              rw [takeT_back, give_take]
              rintro e W5 ⟨rfl, hg6, ho6⟩
              have hS7 := hS5.takeA hne'.out hg6 ho6
              have hJ7 := hJ _ _ _ (some gL) hJ5 hg6 (fun r e => by cases e; exact hup.2.2.2.2.2.1)
              have hF7 := hF6.trans (FillFr.grown hg6 hup.2.2.2.2.2.1 hup.2.2.2.2.2.2.1 hup.2.2.2.2.2.2.2 (by have := hF6.sz; omega))
              rw [List.append_assoc, ← withG_cons, ← withG_append, ← hH.out] at hJ7
              have hx4 : Hid (x2.take t = x.take t) := Lib.hid (by
                have := congrArg (List.take t) hx3
                rw [List.take_take, Nat.min_eq_left (by omega), List.take_append_of_le_length (by rw [List.length_take]; have := hS7.oA.1; have := congrArg List.length hx3; simp at this; omega), List.take_take, Nat.min_self] at this
                exact this)
              gi_wp2
              go_roundw
              case rel => exact ⟨q + 1, x2, by omega, by go_num, hx4, hS7, hJ7, hF7⟩
              case measure => simp [intOf]; omega
            · have hF6 := hF4.trans hF5
              rw [hx2.out] at hp2'
              have l0 := hS5.bl.cell 0
              gi_wp2_with fail
              gi_at_call 127
              refine (callsIn_wide.2 (take_c B gL m cL q (-1) (takeL q lf) _ hS5.oL hm hq64 (.inr rfl) (fun v hv => by have := sumsLe_mem hle.out v hv; omega))).mono ?_
              rw [takeT_back, give_take]
              rintro e W5 ⟨rfl, hg6, ho6⟩
              have hS7 := hS5.takeA hne'.out hg6 ho6
              have hJ7 := hJx _ _ _ (some gL) hJ5 hg6 (fun r e => by cases e; exact ⟨hup.2.2.2.2.2.1, hgT⟩)
              have hF7 := hF6.trans (FillFr.grown hg6 hup.2.2.2.2.2.1 hup.2.2.2.2.2.2.1 hup.2.2.2.2.2.2.2 (by have := hF6.sz; omega))
              rw [List.append_assoc] at hJ7
              have hpp : Hid (withG gA (x.take t) (imgK r rs lf q) ++ pre' <+: withG gA (x.take t) (imgL (r :: rs) lf)) := Lib.hid (by
                rw [← hAll.out]
                refine List.IsPrefix.trans ?_ (withG_prefix (imgK_prefix r rs lf (show q + 1 ≤ M by omega)))
                rw [hH.out, withG_append, withG_cons]
                exact (List.prefix_append_right_inj _).2 hp2')
              gi_wp2
              exact bodyPost_ret (v := .bool false) (by simp [results, Tryz.results124, go_sem]) rfl (.inr ⟨rfl, ⟨_, by simp [hp1'], hpp.out, hJ7⟩, ⟨x2, hS7⟩, hF7⟩)
        · have hM := Lib.hid (imgK_miss (r := r) (rs := rs) (lf := lf) (k := q) (fun hh => hpop hh.1))
          have hp1 : (((pop q : Nat) : Int) != r) = true := by simp [hpop]
          clear hpop hkk
          gi_wp2
          gi_big_quiet_th ((gi_at_call 48; exact CallsIn.quiet_of_same (callsIn_wide.2 (still_of (ones_c q _ hq64)))))
          obtain ⟨hS2, hJ2, hF2⟩ := hadv (below_drewN (Below.refl wr.heap.size wr) nq)
          rw [← hM.out] at hJ2
          gi_wp2
          go_roundw
          case rel => exact ⟨q + 1, x', by omega, by go_num, hx', hS2, hJ2, hF2⟩
          case measure => simp [intOf]; omega
      · obtain rfl : q = M := by omega
        rw [hAll.out] at hJq
        gi_wp2
        exact bodyPost_ret (v := .bool true) (by simp [results, Tryz.results124, go_sem]) rfl (.inl ⟨rfl, hJq, ⟨x', hx'.out, hS⟩, hF⟩)
end Go.Proofs.YtpeiolimdglmhaaGreatDoor

-- Walks: the iterator over all images with given sums; the number of images with given sums.
namespace Go.Proofs.YtpeiolimdglmhaaGreatDoor
open Go.RowKit Go.Shelf
attribute [local go_sem] Oper.semAt_some wide_fn
set_option maxRecDepth 100000

theorem withG_snd (gA : Nat) (L : List (List Int)) : (withG gA [] L).map (·.2) = L := by
  simp only [withG, List.nil_append, List.map_map]
  exact List.map_id L

set_option maxHeartbeats 8000000 in
theorem images_seq {bR bC gR gC offR offC cR cC h m : Nat} {rows cols : List Int} (n : Nat) (hn : 1 ≤ n) (hm1 : 1 ≤ m) (hm : m ≤ 6) (hh1 : 1 ≤ h) (hh : h ≤ 6) (w : World) (hR : Rd w (some ⟨gR, offR, none⟩) h rows) (hC : Rd w (some ⟨gC, offC, none⟩) m cols)
    (hbR : Blk w bR 23 #[.slice (some ⟨gR, offR, none⟩) h cR]) (hbC : Blk w bC 23 #[.slice (some ⟨gC, offC, none⟩) m cC]) (hle : sumsLe h cols) :
    SeqCells Fence.wide n Tryz.prog 123 #[.pointer (some ⟨bR, 0, none⟩), .pointer (some ⟨bC, 0, none⟩)] (imEnc h m h) (imPre h) (KB2 bR gR) (fun xs => xs.map (·.2) = imgL rows cols) (fun pre => pre ≠ [] ∧ pre.map (·.2) <+: imgL rows cols) (imgL rows cols).length w := by
  intro lY J Jx W hb hJ hJx hY hJ0
  obtain ⟨_, _, e1, hgR, _⟩ := hR.at_ (k := 0) (by omega)
  cases e1
  have hbRl := hbR.lt
  have hsz := hb.size
  have hRW := hR.next hb
  have hCW := hC.next hb
  have hbRW := hbR.next hb
  have hbCW := hbC.next hb
  clear hR hC hbR hbC hb
  obtain ⟨B, hB⟩ : ∃ B, B = W.heap.size := ⟨_, rfl⟩
  have hB1 : B ≤ W.heap.size := by omega
  have hB2 : W.heap.size ≤ B := by omega
  refine callsIn_of_wp Tryz.func123 rfl trivial ?_ rfl
  simp only [Tryz.ntmps123, List.size_toArray, List.length_cons, List.length_nil, Nat.reduceAdd, Nat.reduceSub, Array.replicate_succ, Array.replicate_zero, List.push_toArray, List.append_toArray, List.nil_append, List.cons_append]
  have hY1 := Blk.new W 33 #[.func (.yield lY) #[] #[]]
  have hL1 := lo_alloc (Below.refl W.heap.size W) (.cells #[.func (.yield lY) #[] #[]] 33)
  have r0 := (hbRW.next hL1).cell 0
  have c0 := (hbCW.next hL1).cell 0
  gi_wp2_with fail
  generalize W.alloc (.cells #[.func (.yield lY) #[] #[]] 33) = W1 at hY1 hL1 r0 c0 ⊢
  gi_at_call 66
  refine (callsIn_wide.2 (emptyImage_c h m _ (by omega))).mono ?_
  rintro e W2 ⟨gA, rfl, hb2, hA2, hgA1, hgA2⟩
  have hI2 := Blk.new W2 25 #[.int .i64 (m : Int), .slice (some ⟨gA, 0, none⟩) h h]
  have hA3 := hA2.alloc (.cells #[.int .i64 (m : Int), .slice (some ⟨gA, 0, none⟩) h h] 25)
  have hY3 := (hY1.next hb2).alloc (.cells #[.int .i64 (m : Int), .slice (some ⟨gA, 0, none⟩) h h] 25)
  have hL3 := lo_alloc (lo_trans hL1 hb2) (.cells #[.int .i64 (m : Int), .slice (some ⟨gA, 0, none⟩) h h] 25)
  have hz3 : (W2.alloc (.cells #[.int .i64 (m : Int), .slice (some ⟨gA, 0, none⟩) h h] 25)).heap.size = W2.heap.size + 1 := by simp
  have hs2 := hb2.size
  have hs1 := hY1.lt
  clear r0 c0 hA2 hb2 hL1 hY1
  have c0 := (hbCW.next hL3).cell 0
  gi_wp2_with fail
  generalize W2.alloc (.cells #[.int .i64 (m : Int), .slice (some ⟨gA, 0, none⟩) h h] 25) = W3 at hI2 hA3 hY3 hL3 hz3 c0 ⊢
  gi_at_call 67
  refine (callsIn_wide.2 (Clone_c _ m _ cols _ (hCW.next hL3) (by omega) (by omega))).mono ?_
  rintro e W4 ⟨gL, cL, rfl, hb4, hO4⟩
  have hs4 := hb4.size
  have hl5 := Blk.new W4 23 #[.slice (some ⟨gL, 0, none⟩) m cL]
  have hO5 := hO4.alloc (.cells #[.slice (some ⟨gL, 0, none⟩) m cL] 23)
  have hI5 := (hI2.next hb4).alloc (.cells #[.slice (some ⟨gL, 0, none⟩) m cL] 23)
  have hA5 := (hA3.next hb4).alloc (.cells #[.slice (some ⟨gL, 0, none⟩) m cL] 23)
  have hY5 := (hY3.next hb4).alloc (.cells #[.slice (some ⟨gL, 0, none⟩) m cL] 23)
  have hL5 := lo_alloc (lo_trans hL3 hb4) (.cells #[.slice (some ⟨gL, 0, none⟩) m cL] 23)
  have hz5 : (W4.alloc (.cells #[.slice (some ⟨gL, 0, none⟩) m cL] 23)).heap.size = W4.heap.size + 1 := by simp
  obtain ⟨_, e1, hgL1, hgL2, _⟩ := hO4.at_ (k := 0) (by omega)
  cases e1
  clear c0 hI2 hA3 hY3 hL3 hO4 hb4
  have hf6 := heap_at2 W4 (.cells #[.slice (some ⟨gL, 0, none⟩) m cL] 23) 105 #[Value.nilFunc]
  have hl6 := hl5.alloc (.cells #[Value.nilFunc] 105)
  have hO6 := hO5.alloc (.cells #[Value.nilFunc] 105)
  have hI6 := hI5.alloc (.cells #[Value.nilFunc] 105)
  have hA6 := hA5.alloc (.cells #[Value.nilFunc] 105)
  have hY6 := hY5.alloc (.cells #[Value.nilFunc] 105)
  have hL6 := lo_alloc hL5 (.cells #[Value.nilFunc] 105)
  clear hl5 hO5 hI5 hA5 hY5 hL5 hz5
  gi_upto_region 4 with fail
  generalize (W4.alloc (.cells #[.slice (some ⟨gL, 0, none⟩) m cL] 23)).alloc (.cells #[Value.nilFunc] 105) = W6 at hf6 hl6 hO6 hI6 hA6 hY6 hL6 ⊢
  have f0 := hf6.cell 0
  have ff := hf6.frozen 0
  gi_wp2_with fail
  have hf7 := hf6.set_ 0 (.func (.func 124) #[] #[.pointer (some ⟨bR, 0, none⟩), .pointer (some ⟨W4.heap.size, 0, none⟩), .pointer (some ⟨W.heap.size, 0, none⟩), .pointer (some ⟨W2.heap.size, 0, none⟩), .pointer (some ⟨W4.heap.size + 1, 0, none⟩)])
  have hl7 := hl6.far (p := ⟨W4.heap.size + 1, 0, none⟩) (by simp) (.func (.func 124) #[] #[.pointer (some ⟨bR, 0, none⟩), .pointer (some ⟨W4.heap.size, 0, none⟩), .pointer (some ⟨W.heap.size, 0, none⟩), .pointer (some ⟨W2.heap.size, 0, none⟩), .pointer (some ⟨W4.heap.size + 1, 0, none⟩)])
  have hO7 := hO6.far (p := ⟨W4.heap.size + 1, 0, none⟩) (by rintro g ⟨⟩; show gL ≠ W4.heap.size + 1; omega) (.func (.func 124) #[] #[.pointer (some ⟨bR, 0, none⟩), .pointer (some ⟨W4.heap.size, 0, none⟩), .pointer (some ⟨W.heap.size, 0, none⟩), .pointer (some ⟨W2.heap.size, 0, none⟩), .pointer (some ⟨W4.heap.size + 1, 0, none⟩)])
  have hI7 := hI6.far (p := ⟨W4.heap.size + 1, 0, none⟩) (by show W2.heap.size ≠ W4.heap.size + 1; omega) (.func (.func 124) #[] #[.pointer (some ⟨bR, 0, none⟩), .pointer (some ⟨W4.heap.size, 0, none⟩), .pointer (some ⟨W.heap.size, 0, none⟩), .pointer (some ⟨W2.heap.size, 0, none⟩), .pointer (some ⟨W4.heap.size + 1, 0, none⟩)])
  have hA7 := hA6.far (p := ⟨W4.heap.size + 1, 0, none⟩) (by show gA ≠ W4.heap.size + 1; omega) (.func (.func 124) #[] #[.pointer (some ⟨bR, 0, none⟩), .pointer (some ⟨W4.heap.size, 0, none⟩), .pointer (some ⟨W.heap.size, 0, none⟩), .pointer (some ⟨W2.heap.size, 0, none⟩), .pointer (some ⟨W4.heap.size + 1, 0, none⟩)])
  have hY7 := hY6.far (p := ⟨W4.heap.size + 1, 0, none⟩) (by show W.heap.size ≠ W4.heap.size + 1; omega) (.func (.func 124) #[] #[.pointer (some ⟨bR, 0, none⟩), .pointer (some ⟨W4.heap.size, 0, none⟩), .pointer (some ⟨W.heap.size, 0, none⟩), .pointer (some ⟨W2.heap.size, 0, none⟩), .pointer (some ⟨W4.heap.size + 1, 0, none⟩)])
  have hL7 := lo_set hL6 (p := ⟨W4.heap.size + 1, 0, none⟩) (by show W.heap.size ≤ W4.heap.size + 1; omega) (.func (.func 124) #[] #[.pointer (some ⟨bR, 0, none⟩), .pointer (some ⟨W4.heap.size, 0, none⟩), .pointer (some ⟨W.heap.size, 0, none⟩), .pointer (some ⟨W2.heap.size, 0, none⟩), .pointer (some ⟨W4.heap.size + 1, 0, none⟩)])
  clear hf6 hl6 hO6 hI6 hA6 hY6 hL6 f0 ff
  generalize W6.setCell _ _ = W7 at hf7 hl7 hO7 hI7 hA7 hY7 hL7 ⊢
  have hz7 := hf7.lt
  have ne : FillNe W.heap.size W.heap.size W2.heap.size W4.heap.size (W4.heap.size + 1) gA gL bR gR := ⟨by omega, by omega⟩
  have hS : FillSt W.heap.size W.heap.size W2.heap.size W4.heap.size (W4.heap.size + 1) gA gL h m h cL lY bR (List.replicate h 0) cols W7 :=
    ⟨hY7, hI7, hl7, hf7, Own.of_blk hA7 (by omega) (by simp), hO7.mono (by omega)⟩
  have hJ7 := hJ _ _ _ none hJ0 (grown_of_below hL7 none) (fun r e => by cases e)
  have hWT := hL7.size
  have hgL7 : gL < W7.heap.size := by
    rcases hO7.blk with ⟨hm0, _⟩ | ⟨g', e', _, h7⟩
    · omega
    · cases e'; exact h7
  have hfc := fill_c (offR := offR) (cR := cR) (rows := rows) hm1 hm hh1 hh ne (imgL rows cols).length (T := W7.heap.size) hgL7 (fun pre X => J pre X ∧ W7.heap.size ≤ X.heap.size) (Jx W7.heap.size) (Bears.and hJ (fun _ _ _ _ hs hg _ => Nat.le_trans hs hg.size)) (hJx _) (fun k pre x W1 h1 h2 h3 => YieldAt.any (YieldAt.mono (hY W7.heap.size pre x W1 hWT h1.2 h1.1 h2 h3) fun e W' hh => by
    rcases hh with ⟨q1, q2, q3, q4⟩ | hh
    · exact .inl ⟨q1, ⟨q2, Nat.le_trans h1.2 q3.size⟩, q3, q4⟩
    · exact .inr hh)) h 0 (List.replicate h 0) cols [] W7 (by omega) hS (hRW.next hL7) (hbRW.next hL7) (by omega) ⟨hJ7, Nat.le_refl _⟩ hle (by simp)
  rw [List.drop_zero] at hfc
  gi_at_call 124
  refine (callsIn_wide.2 hfc).mono ?_
  clear hfc
  rintro e W8 (⟨rfl, ⟨hJ8, -⟩, -, -⟩ | ⟨rfl, ⟨pre', hp1, hp2, hJ8⟩, -, -⟩)
  · gi_wp2
    go_end0
    refine ⟨⟨_, rfl⟩, .inl ⟨_, ?_, hJ8⟩⟩
    exact withG_snd gA _
  · gi_wp2
    go_end0
    refine ⟨⟨_, rfl⟩, .inr ⟨W7.heap.size, _, hWT, ⟨?_, ?_⟩, hJ8⟩⟩
    · simpa using hp1
    · obtain ⟨t, ht⟩ := hp2
      refine ⟨t.map (·.2), ?_⟩
      rw [List.nil_append, ← List.map_append, ht]
      exact withG_snd gA _

theorem imagesOf_in (F : Fence) (n : Nat) (hF : F.fn 89) (hro : F.round = none) (A B : Option Addr) (h m c d : Nat) (w : World) :
    CallsIn F n Tryz.prog 89 #[.slice A h c, .slice B m d] w fun e w' => e = .returned (.func (.func 123) #[] #[.pointer (some ⟨w.heap.size, 0, none⟩), .pointer (some ⟨w.heap.size + 1, 0, none⟩)]) ∧ w' = (w.alloc (.cells #[.slice A h c] 23)).alloc (.cells #[.slice B m d] 23) := by
  have hmf : ∀ (fn : Fn) (first cap : Array Value) (w : World), (Instr.makeFunc fn first cap).run Tryz.prog w = .ok (.func fn first cap) w := fun _ _ _ _ => rfl
  refine callsIn_of_wp Tryz.func89 rfl hF ?_ hro
  simp only [Tryz.ntmps89, List.size_toArray, List.length_cons, List.length_nil, Nat.reduceAdd, Nat.reduceSub, Array.replicate_succ, Array.replicate_zero, List.push_toArray, List.append_toArray, List.nil_append, List.cons_append]
  gi_wp2
  go_ret
  exact ⟨rfl, rfl⟩

theorem imgL_bd : ∀ (rs lf : List Int), (imgL rs lf).length ≤ (2 ^ lf.length) ^ rs.length
  | [], lf => by rw [imgL]; split <;> simp
  | r :: rs, lf => by
    rw [imgL, List.length_cons, Nat.pow_succ, Nat.mul_comm]
    have key : ∀ k, ((List.range k).flatMap (fun row => if ((pop row : Nat) : Int) = r ∧ fitB row lf ((rs.length + 1 : Nat) : Int) = true then (imgL rs (takeL row lf)).map (fun x => (row : Int) :: x) else [])).length ≤ k * (2 ^ lf.length) ^ rs.length := by
      intro k
      induction k with
      | zero => simp
      | succ k ih =>
        rw [List.range_succ, List.flatMap_append, List.length_append, Nat.add_mul, Nat.one_mul]
        refine Nat.add_le_add ih ?_
        simp only [List.flatMap_cons, List.flatMap_nil, List.append_nil]
        split
        · rw [List.length_map]
          have := imgL_bd rs (takeL k lf)
          rwa [takeL_len] at this
        · simp
    exact key _
theorem imgL_small {rs lf : List Int} (h1 : rs.length ≤ 6) (h2 : lf.length ≤ 6) : (imgL rs lf).length ≤ 68719476736 := by
  refine Nat.le_trans (imgL_bd rs lf) ?_
  have h3 : 2 ^ lf.length ≤ 64 := pow_le64 h2
  calc (2 ^ lf.length) ^ rs.length ≤ 64 ^ rs.length := Nat.pow_le_pow_left h3 _
    _ ≤ 64 ^ 6 := Nat.pow_le_pow_right (by omega) h1
    _ = 68719476736 := by decide

/-- sums of images that are counted -/
def cntB (rows cols : List Int) : Bool := sV rows cols && decide (rows.length * cols.length ≤ 16)
theorem sV_le {rows cols : List Int} (h : sV rows cols = true) : 1 ≤ rows.length ∧ rows.length ≤ 6 ∧ 1 ≤ cols.length ∧ cols.length ≤ 6 ∧ sumsLe rows.length cols := by
  rw [sV, Bool.and_eq_true] at h
  obtain ⟨a1, a2, a3⟩ := sIn_out h.1
  obtain ⟨b1, b2, b3⟩ := sIn_out h.2
  exact ⟨a1, a2, b1, b2, fun j hj => allIn_at b3 j hj⟩

set_option maxHeartbeats 2000000 in
theorem countable_c (A B : Option Addr) (n m c d : Nat) (xs ys : List Int) (w : World) (hr : Rd w A n xs) (hs : Rd w B m ys) (hn : n ≤ 1048576) (hm : m ≤ 1048576) :
    Calls Tryz.prog 91 #[.slice A n c, .slice B m d] w fun e w' => e = .returned (.bool (cntB xs ys)) ∧ w = w' := by
  have hx := Lib.hid hr.1
  have hy := Lib.hid hs.1
  go_enter Tryz.func91, Tryz.ntmps91
  go_wp2_with fail
  refine (SumsValid_c _ _ _ _ _ _ xs ys _ hr hs (by omega) (by omega)).mono ?_
  rintro e w' ⟨rfl, rfl⟩
  cases hv : sV xs ys with
  | false =>
    have hF := Lib.hid (show cntB xs ys = false by rw [cntB, hv]; rfl)
    go_wp2
    go_ret
    exact ⟨ret_bool hF.out.symm, rfl⟩
  | true =>
    have hb := sV_le hv
    rw [hx.out, hy.out] at hb
    have hF := Lib.hid (show cntB xs ys = decide (n * m ≤ 16) by rw [cntB, hv, hx.out, hy.out]; rfl)
    have hmul : n * m ≤ 6 * 6 := Nat.mul_le_mul hb.2.1 hb.2.2.2.1
    have hmi : (n : Int) * (m : Int) = ((n * m : Nat) : Int) := by simp
    have hmi' := Lib.hid hmi
    have hw : wrap64 ((n : Int) * (m : Int)) = ((n * m : Nat) : Int) := by rw [hmi]; exact IntWalk.wrap64_in _ (by omega)
    clear hmi
    generalize n * m = q at hF hmul hw
    go_wp2
    go_ret
    refine ⟨ret_bool ?_, rfl⟩
    rw [hF.out, decide_eq_decide]
    omega

end Go.Proofs.YtpeiolimdglmhaaGreatDoor
