
/- A loop over an iterator that writes cells of blocks that it has made itself: the iterator's word on such a contract, and the loop's law over it. No program in sight. -/
import Derived.RangeFuncNested
import Derived.Test.YtnbaedpckdefgaaKa
namespace Go.Proofs.Ytnbaedpckdefgaa
open Go.RowKit

/-- all blocks from B on lie as they lay -/
structure KeepsUp (B : Nat) (W W' : World) : Prop where
  size : W.heap.size ≤ W'.heap.size
  same : ∀ b, B ≤ b → b < W.heap.size → W'.heap[b]? = W.heap[b]?
theorem KeepsUp.refl (B : Nat) (W : World) : KeepsUp B W W := ⟨Nat.le_refl _, fun _ _ _ => rfl⟩
theorem KeepsUp.trans {B : Nat} {X Y Z : World} (h : KeepsUp B X Y) (k : KeepsUp B Y Z) : KeepsUp B X Z :=
  ⟨Nat.le_trans h.size k.size, fun b hb hl => (k.same b hb (Nat.lt_of_lt_of_le hl h.size)).trans (h.same b hb hl)⟩
theorem KeepsUp.mono {B B' : Nat} {X Y : World} (h : KeepsUp B X Y) (hl : B ≤ B') : KeepsUp B' X Y := ⟨h.size, fun b hb => h.same b (Nat.le_trans hl hb)⟩
theorem KeepsUp.of_grown {B : Nat} {W W' : World} {row : Option Nat} (hg : W.grownBy W' row) (hr : ∀ r, row = some r → r < B) : KeepsUp B W W' :=
  ⟨hg.size, fun b hb hl => hg.block b hl (fun e => by have := hr b e.symm; omega)⟩
theorem KeepsUp.of_below {B : Nat} {W W' : World} (h : Below W.heap.size W W') : KeepsUp B W W' := ⟨h.size, fun b _ hl => h.block b hl⟩
theorem KeepsUp.blk {B g : Nat} {W W' : World} {t : TypeId} {cs : Array Value} (h : KeepsUp B W W') (hk : Blk W g t cs) (hB : B ≤ g) : Blk W' g t cs := (h.same g hB hk.lt).trans hk
/-- what is told abides a turn of any block from B on -/
def Bears {β : Type} (B : Nat) (J : β → World → Prop) : Prop := ∀ s W W' row, J s W → W.grownBy W' row → (∀ r, row = some r → B ≤ r) → J s W'
theorem Bears.and {β : Type} {B : Nat} {J J' : β → World → Prop} (h : Bears B J) (h' : Bears B J') : Bears B (fun s W => J s W ∧ J' s W) := fun s W W' row hs hg hr => ⟨h s W W' row hs.1 hg hr, h' s W W' row hs.2 hg hr⟩
theorem bears_pure {β : Type} (B : Nat) (p : β → Prop) : Bears B (fun s (_ : World) => p s) := fun _ _ _ _ hs _ _ => hs
theorem bears_below {β : Type} {B : Nat} {w : World} (h : w.heap.size ≤ B) : Bears B (fun (_ : β) W => Below w.heap.size w W) := fun _ _ _ _ hs hg hr => hs.grown hg hs.size (fun r e => by have := hr r e; omega)
theorem bears_blk {β : Type} {B g : Nat} {t : TypeId} (f : β → Array Value) (h : g < B) : Bears B (fun s W => Blk W g t (f s)) := fun _ _ _ _ hs hg hr => hs.grown hg (fun e => by have := hr g e.symm; omega)
theorem Bears.mono {β : Type} {B B' : Nat} {J : β → World → Prop} (h : Bears B J) (hl : B ≤ B') : Bears B' J := fun s W W' row hs hg hr => h s W W' row hs hg (fun r e => Nat.le_trans hl (hr r e))
theorem Bears.putObj {β : Type} {B : Nat} {J : β → World → Prop} (h : Bears B J) {s : β} {W : World} {l : Nat} (o' : Obj) (hs : J s W) (hB : B ≤ l) : J s (W.putObj l o') :=
  h s W _ (some l) hs (grownBy_putObj' W l o') (fun r e => by cases e; exact hB)
theorem Bears.alloc {β : Type} {B : Nat} {J : β → World → Prop} (h : Bears B J) {s : β} {W : World} (o : Obj) (hs : J s W) : J s (W.alloc o) :=
  h s W _ none hs (World.grownBy_alloc W o none) (fun r e => by cases e)

/-- how a round may be left -/
def roundTold {α : Type} (B : Nat) (Kp : World → World → Prop) (I : List α → World → Prop) (Ix : Code → List α → World → Prop) (xs : List α) (W : World) : Exit → Act → World → Prop
  | .normal, _, W' => KeepsUp B W W' ∧ Kp W W' ∧ I xs W'
  | .ret, _, W' => KeepsUp B W W' ∧ Kp W W' ∧ Ix .ret xs W'
  | .exit id, _, W' => KeepsUp B W W' ∧ Kp W W' ∧ Ix (.exit id) xs W'
  | .goto t, _, W' => KeepsUp B W W' ∧ Kp W W' ∧ Ix (.goto t) xs W'
  | .panic _, _, _ => False
  | .outgrown, _, _ => False

/-- the iterator's contract: it may write whatever lies from the heap's end at its call on; each round leaves that as it lies; at each yield 'Pre' is told of that memory -/
def SeqCells {α : Type} (F : Fence) (n : Nat) (P : Program) (g : Nat) (lb : Array Value) (encs : α → Array Value) (Pre : Nat → α → World → Prop) (Kp : World → World → Prop) (S Sp : List α → Prop) (N : Nat) (w : World) : Prop :=
  ∀ (l : Nat) (J Jx : List α → World → Prop) (W : World), Below w.heap.size w W → Bears W.heap.size J → Bears W.heap.size Jx →
    (∀ pre x W1, J pre W1 → Pre W.heap.size x W1 → pre.length < N → YieldAt F (n - 1) P l (encs x) W1 fun e W' =>
      (e = .returned (.bool true) ∧ J (pre ++ [x]) W' ∧ KeepsUp W.heap.size W1 W' ∧ Kp W1 W') ∨ (e = .returned (.bool false) ∧ Jx (pre ++ [x]) W' ∧ KeepsUp W.heap.size W1 W' ∧ Kp W1 W')) →
    J [] W →
    CallsIn F n P g (#[.func (.yield l) #[] #[]] ++ lb) W fun e W' => (∃ v, e = .returned v) ∧ ((∃ xs, S xs ∧ J xs W') ∨ (∃ pre, Sp pre ∧ Jx pre W'))

variable {F : Fence} {n : Nat} {P : Program}

theorem wpIn_rangeFunc_cells {α : Type} {g : Operand} {ps : Array Tmp} {assign body : Code} {Q : Exit → Act → World → Prop} {a : Act} {w : World}
    (hro : F.round = none) (h1 : 1 ≤ n) {gf : Nat} {lb : Array Value} (hg : a.eval g = .func (.func gf) #[] lb) (hFg : F.fn gf) (eg : ∀ args w, (callFunc gf args).run P w = .ok (.enter gf args) w)
    {encs : α → Array Value} {Pre : Nat → α → World → Prop} (hPre : ∀ B x W W', Pre B x W → KeepsUp B W W' → Pre B x W') {Kp : World → World → Prop} (hKt : ∀ {A B C : World}, Kp A B → Kp B C → Kp A C) (hKb : ∀ (W : World) (l : Nat) (o' : Obj), w.heap.size ≤ l → Kp W (W.putObj l o')) {S Sp : List α → Prop} {N : Nat} {w0 : World} (hseq : SeqCells F (n - 1) P gf lb encs Pre Kp S Sp N w0)
    (hb0 : Below w0.heap.size w0 w) (hps : ∀ x, (encs x).size = ps.size)
    (I : List α → World → Prop) (Ix : Code → List α → World → Prop) (hI : Bears w.heap.size I) (hIx : ∀ c, Bears w.heap.size (Ix c)) (h0 : I [] w) (Ax : α → Act → World → Prop) (hAx : ∀ x a', OwnFrom w.heap.size (fun (_ : Unit) W => Ax x a' W))
    (hassign : ∀ (l : Nat) (pre : List α) (x : α) (W : World) (K : Act → World → Prop), I pre W → (∀ a' W', KeepsUp w.heap.size W W' → Kp W W' → I pre W' → Ax x a' W' → K a' W') →
      assign.wpIn (F.inRound l) (n - 1 - 1) P (Exit.then K (fun _ _ _ => False)) { tmps := (ps.zip (encs x)).foldl (fun t (p, v) => t.setIfInBounds p v) a.tmps, defers := [] } W)
    (hbody : ∀ (l : Nat) (pre : List α) (x : α) (a' : Act) (W : World), I pre W → Pre (w.heap.size + 2) x W → Ax x a' W → pre.length < N → body.wpIn (F.inRound l) (n - 1 - 1) P (roundTold w.heap.size Kp I Ix (pre ++ [x]) W) a' W)
    (hdone : ∀ (D : Nat) (xs : List α) (W : World), w.heap.size ≤ D → S xs → I xs W → W.heap[D]? = some (.deferred (some [])) → Q .normal { a with defers := { target := .collected D, args := #[] } :: a.defers } W)
    (hstop : ∀ (D : Nat) (c : Code) (pre : List α) (W : World), w.heap.size ≤ D → Sp pre → Ix c pre W → W.heap[D]? = some (.deferred (some [])) → c.wpIn F n P Q { a with defers := { target := .collected D, args := #[] } :: a.defers } W) :
    (Code.rangeFunc g ps assign body).wpIn F n P Q a w := by
  refine wpIn_rangeFunc ?_
  intro fn hfn
  rw [hro]
  let rec_ : LoopState → Option Code → Loop := fun st pe => { state := st, pending := pe, fn, tmps := a.tmps, params := ps, assign, body, defers := w.heap.size }
  have ready : Bears (w.heap.size + 2) (fun (_ : Unit) W => W.heap[w.heap.size + 1]? = some (.loop (rec_ .ready none)) ∧ W.heap[w.heap.size]? = some (.deferred (some []))) := fun _ A B row hs hg hr => by
    have z1 := (Array.getElem?_eq_some_iff.1 hs.1).1
    have z2 := (Array.getElem?_eq_some_iff.1 hs.2).1
    exact ⟨(hg.block _ z1 (fun e => by have := hr _ e.symm; omega)).trans hs.1, (hg.block _ z2 (fun e => by have := hr _ e.symm; omega)).trans hs.2⟩
  have ended : ∀ c, Bears (w.heap.size + 2) (fun (_ : Unit) W => W.heap[w.heap.size + 1]? = some (.loop (rec_ .done (some c))) ∧ W.heap[w.heap.size]? = some (.deferred (some []))) := fun c _ A B row hs hg hr => by
    have z1 := (Array.getElem?_eq_some_iff.1 hs.1).1
    have z2 := (Array.getElem?_eq_some_iff.1 hs.2).1
    exact ⟨(hg.block _ z1 (fun e => by have := hr _ e.symm; omega)).trans hs.1, (hg.block _ z2 (fun e => by have := hr _ e.symm; omega)).trans hs.2⟩
  have hsz : ((w.alloc (.deferred (some []))).alloc (.loop (rec_ .ready none))).heap.size = w.heap.size + 2 := by simp
  have hL1 : ((w.alloc (.deferred (some []))).alloc (.loop (rec_ .ready none))).heap[w.heap.size + 1]? = some (.loop (rec_ .ready none)) := by
    have := World.alloc_heap_new (w.alloc (.deferred (some []))) (.loop (rec_ .ready none)); rwa [World.size_alloc] at this
  have hK1 : ((w.alloc (.deferred (some []))).alloc (.loop (rec_ .ready none))).heap[w.heap.size]? = some (.deferred (some [])) := (Below.heap_alloc _ _ _ (by simp)).trans (World.alloc_heap_new w _)
  refine ⟨w.heap.size + 1, [{ target := .collected w.heap.size, args := #[] }], (w.alloc (.deferred (some []))).alloc (.loop (rec_ .ready none)), { target := .fn (.func gf) lb, args := #[.func (.yield (w.heap.size + 1)) #[] #[]] },
    (w.alloc (.deferred (some []))).alloc (.loop (rec_ .ready none)), gf, #[.func (.yield (w.heap.size + 1)) #[] #[]] ++ lb, (w.alloc (.deferred (some []))).alloc (.loop (rec_ .ready none)), run_enterLoop_outer _ _ _ _ _, ?_, ?_, ?_, fun _ => h1, ?_⟩
  · simp only [resolve, hg]
    simp [go_sem]
  · intro f' hf'
    simp [Target.leads] at hf'
    subst hf'
    exact hFg
  · simp [invoke, go_sem, eg]
  have hcall := hseq (w.heap.size + 1) (fun pre W => I pre W ∧ W.heap[w.heap.size + 1]? = some (.loop (rec_ .ready none)) ∧ W.heap[w.heap.size]? = some (.deferred (some [])))
    (fun pre W => ∃ c, Ix c pre W ∧ W.heap[w.heap.size + 1]? = some (.loop (rec_ .done (some c))) ∧ W.heap[w.heap.size]? = some (.deferred (some [])))
    ((w.alloc (.deferred (some []))).alloc (.loop (rec_ .ready none))) (lo_alloc (lo_alloc hb0 _) _)
    (fun s A B row hs hg' hr => ⟨hI.mono (by omega) s A B row hs.1 hg' hr, ready () A B row hs.2 hg' (fun r e => by have := hr r e; omega)⟩)
    (fun s A B row hs hg' hr => by
      obtain ⟨c, hc, hl⟩ := hs
      exact ⟨c, (hIx c).mono (by omega) s A B row hc hg' hr, ended c () A B row hl hg' (fun r e => by have := hr r e; omega)⟩)
    ?_ ⟨hI.alloc _ (hI.alloc _ h0), hL1, hK1⟩
  · refine hcall.mono ?_
    rintro e W2 ⟨⟨v, rfl⟩, (⟨xs, hS, hi, hl, hk⟩ | ⟨pre, hSp, c, hi, hl, hk⟩)⟩
    · exact ⟨none, _, run_endLoop (P := P) hl (by simp [rec_]), hdone _ xs _ (Nat.le_refl _) hS (hI.putObj _ hi (by omega)) ((World.putObj_heap_other (by omega)).trans hk)⟩
    · exact ⟨some c, _, run_endLoop (P := P) hl (by simp [rec_]), hstop _ c pre _ (Nat.le_refl _) hSp ((hIx c).putObj _ hi (by omega)) ((World.putObj_heap_other (by omega)).trans hk)⟩
  rw [hsz]
  rintro pre x W ⟨hi, hl, hk⟩ hpre hlen
  refine ⟨fn, _, assign, body, run_yield (P := P) (args := encs x) hl (hps x), roundIn_of_wpIn hfn (hassign _ pre x W _ hi ?_)⟩
  intro a' Wa hka hkp hia hax
  have hl2 := (hka.same _ (by omega) (Array.getElem?_eq_some_iff.1 hl).1).trans hl
  have hk2 := (hka.same _ (Nat.le_refl _) (Array.getElem?_eq_some_iff.1 hk).1).trans hk
  have hlt := (Array.getElem?_eq_some_iff.1 hl2).1
  refine ⟨_, run_beginRound hl2 rfl, ?_⟩
  have hl3 : (Wa.putObj (w.heap.size + 1) (.loop { rec_ .ready none with state := .busy })).heap[w.heap.size + 1]? = some (.loop { rec_ .ready none with state := .busy }) := World.putObj_heap_same hlt
  have hk3 : (Wa.putObj (w.heap.size + 1) (.loop { rec_ .ready none with state := .busy })).heap[w.heap.size]? = some (.deferred (some [])) := (World.putObj_heap_other (by omega)).trans hk2
  have hu : KeepsUp (w.heap.size + 2) W (Wa.putObj (w.heap.size + 1) (.loop { rec_ .ready none with state := .busy })) :=
    (hka.mono (by omega)).trans (KeepsUp.of_grown (grownBy_putObj' Wa _ _) (fun r e => by cases e; omega))
  have hup := hKt hkp (hKb Wa (w.heap.size + 1) (.loop { rec_ .ready none with state := .busy }) (by omega))
  refine wpIn_mono (hbody _ pre x a' _ (hI.putObj _ hia (by omega)) (hPre _ x _ _ hpre hu) ((hAx x a').putObj (s := ()) _ hax (by omega) hl2 rfl) hlen) ?_
  have fin : ∀ (jump : Option Code) (W3 : World), KeepsUp w.heap.size (Wa.putObj (w.heap.size + 1) (.loop { rec_ .ready none with state := .busy })) W3 →
      (Instr.endRound (w.heap.size + 1) jump).run P W3 = .ok (.bool jump.isNone) (W3.putObj (w.heap.size + 1) (.loop (rec_ (if jump.isNone then .ready else .done) jump))) ∧
      (W3.putObj (w.heap.size + 1) (.loop (rec_ (if jump.isNone then .ready else .done) jump))).heap[w.heap.size + 1]? = some (.loop (rec_ (if jump.isNone then .ready else .done) jump)) ∧
      (W3.putObj (w.heap.size + 1) (.loop (rec_ (if jump.isNone then .ready else .done) jump))).heap[w.heap.size]? = some (.deferred (some [])) := fun jump W3 h3 => by
    have e1 := (h3.same _ (by omega) (Array.getElem?_eq_some_iff.1 hl3).1).trans hl3
    have e2 := (h3.same _ (Nat.le_refl _) (Array.getElem?_eq_some_iff.1 hk3).1).trans hk3
    exact ⟨run_endRound (P := P) jump e1, World.putObj_heap_same (Array.getElem?_eq_some_iff.1 e1).1, (World.putObj_heap_other (by omega)).trans e2⟩
  rintro e a3 W3 hp
  cases e with
  | normal =>
    obtain ⟨hk4, hp4, hi4⟩ := hp
    obtain ⟨hr, hl4, hd4⟩ := fin none W3 hk4
    exact ⟨_, _, hr, .inl ⟨rfl, ⟨hI.putObj _ hi4 (by omega), hl4, hd4⟩, (hu.trans (hk4.mono (by omega))).trans (KeepsUp.of_grown (grownBy_putObj' W3 _ _) (fun r e => by cases e; omega)), hKt (hKt hup hp4) (hKb _ _ _ (by omega))⟩⟩
  | ret =>
    obtain ⟨hk4, hp4, hi4⟩ := hp
    obtain ⟨hr, hl4, hd4⟩ := fin (some .ret) W3 hk4
    exact ⟨_, _, hr, .inr ⟨rfl, ⟨.ret, (hIx _).putObj _ hi4 (by omega), hl4, hd4⟩, (hu.trans (hk4.mono (by omega))).trans (KeepsUp.of_grown (grownBy_putObj' W3 _ _) (fun r e => by cases e; omega)), hKt (hKt hup hp4) (hKb _ _ _ (by omega))⟩⟩
  | exit id =>
    obtain ⟨hk4, hp4, hi4⟩ := hp
    obtain ⟨hr, hl4, hd4⟩ := fin (some (.exit id)) W3 hk4
    exact ⟨_, _, hr, .inr ⟨rfl, ⟨.exit id, (hIx _).putObj _ hi4 (by omega), hl4, hd4⟩, (hu.trans (hk4.mono (by omega))).trans (KeepsUp.of_grown (grownBy_putObj' W3 _ _) (fun r e => by cases e; omega)), hKt (hKt hup hp4) (hKb _ _ _ (by omega))⟩⟩
  | goto t =>
    obtain ⟨hk4, hp4, hi4⟩ := hp
    obtain ⟨hr, hl4, hd4⟩ := fin (some (.goto t)) W3 hk4
    exact ⟨_, _, hr, .inr ⟨rfl, ⟨.goto t, (hIx _).putObj _ hi4 (by omega), hl4, hd4⟩, (hu.trans (hk4.mono (by omega))).trans (KeepsUp.of_grown (grownBy_putObj' W3 _ _) (fun r e => by cases e; omega)), hKt (hKt hup hp4) (hKb _ _ _ (by omega))⟩⟩
  | panic ch => exact hp.elim
  | outgrown => exact hp.elim
end Go.Proofs.Ytnbaedpckdefgaa
