
/- Plain facts and walks that the law's proof uses; each says its own conditions. -/
import Derived.Test.YtkcdoacojiilaaaGreatKb
-- Walks: the reader of codes.
namespace Go.Proofs.YtkcdoacojiilaaaGreat
open Go.RowKit
set_option maxRecDepth 100000

/-- block b, from lo on, is a reader that has been asked p times; its code lies below lo -/
def Rdr (w : World) (lo b p : Nat) : Prop :=
  lo ≤ b ∧ ∃ A n c, n ≤ 2000 ∧ Blk w b 58 #[.slice A n c, .int .i64 p] ∧ RdB w A n ∧ (0 < n → ∀ x off, A = some ⟨x, off, none⟩ → x < lo)
theorem Rdr.lt {w : World} {lo b p : Nat} (h : Rdr w lo b p) : b < w.heap.size := by
  obtain ⟨_, A, n, c, _, h, _⟩ := h; exact h.lt
theorem Rdr.next {w w' : World} {lo b p : Nat} (h : Rdr w lo b p) (hb : Below w.heap.size w w') : Rdr w' lo b p := by
  obtain ⟨h0, A, n, c, h1, h2, h3, h4⟩ := h
  exact ⟨h0, A, n, c, h1, h2.next hb, h3.next hb, h4⟩
theorem Rdr.wr {w w' : World} {lo lo' hi b p : Nat} (h : Rdr w lo b p) (k : Wr lo' hi w w') (hl : b < lo' ∨ hi ≤ b) (h2 : lo ≤ lo') : Rdr w' lo b p := by
  obtain ⟨h0, A, n, c, h1, hb, h3, h4⟩ := h
  refine ⟨h0, A, n, c, h1, hb.wr k hl, ?_, h4⟩
  obtain ⟨row, k, hr⟩ := k
  by_cases hn : 0 < n
  · refine h3.keep k.size (fun x off e j => ?_)
    refine World.cell?_of_block (k.block x ?_ (fun e' => ?_))
    · have := h4 hn x off e; have := hb.lt; omega
    · have := hr x e'.symm; have := h4 hn x off e; omega
  · exact fun h => absurd h hn

set_option maxHeartbeats 400000 in
theorem l6Open_c (A : Option Addr) (n c : Nat) (w : World) (hr : RdB w A n) (hn : n ≤ 1048576) (hc : n ≤ c) :
    Calls Tryz.prog 13 #[.slice A n c] w fun e w' => ∃ b, e = .returned (.pointer (some ⟨b, 0, none⟩)) ∧ Rdr w' w.heap.size b 0 ∧ Below w.heap.size w w' := by
  by_cases h : 2000 < n
  · obtain ⟨b, off, rfl, hb, hcc⟩ := hr (by omega)
    go_enter Tryz.func13, Tryz.ntmps13
    go_wp2
    go_ret
    refine ⟨_, rfl, ⟨Nat.le_refl _, _, 2000, c, Nat.le_refl _, Blk.new _ _ _, ?_, ?_⟩, by (repeat (first | exact Below.refl _ _ | assumption | refine lo_alloc ?_ _ | refine lo_set ?_ (by simp; try omega) _ | refine Below.drew ?_ | refine below_drewN ?_ _ | refine lo_trans ?_ (by assumption) | refine lo_wr ?_ (by assumption) (by omega)))⟩
    · exact RdB.next (w := w) (fun _ => ⟨b, off, rfl, hb, fun k hk => hcc k (by omega)⟩) (by (repeat (first | exact Below.refl _ _ | assumption | refine lo_alloc ?_ _ | refine lo_set ?_ (by simp; try omega) _ | refine Below.drew ?_ | refine below_drewN ?_ _ | refine lo_trans ?_ (by assumption) | refine lo_wr ?_ (by assumption) (by omega))))
    · rintro _ x off' ⟨⟩; exact hb
  · go_enter Tryz.func13, Tryz.ntmps13
    go_wp2
    go_ret
    refine ⟨_, rfl, ⟨Nat.le_refl _, _, n, c, by omega, Blk.new _ _ _, hr.next (by (repeat (first | exact Below.refl _ _ | assumption | refine lo_alloc ?_ _ | refine lo_set ?_ (by simp; try omega) _ | refine Below.drew ?_ | refine below_drewN ?_ _ | refine lo_trans ?_ (by assumption) | refine lo_wr ?_ (by assumption) (by omega)))), ?_⟩, by (repeat (first | exact Below.refl _ _ | assumption | refine lo_alloc ?_ _ | refine lo_set ?_ (by simp; try omega) _ | refine Below.drew ?_ | refine below_drewN ?_ _ | refine lo_trans ?_ (by assumption) | refine lo_wr ?_ (by assumption) (by omega)))⟩
    rintro h0 x off rfl
    obtain ⟨b, off', e, hb, _⟩ := hr h0
    injection e with e; injection e with e1; omega

def SomeNat (m : Int) (w : World) (lo b p : Nat) (e : Ending) (w' : World) : Prop :=
  ∃ x : Nat, e = .returned (.int .i64 x) ∧ (1 ≤ m → (x : Int) < m) ∧ w.grownBy w' (some b) ∧ Rdr w' lo b (p + 1)

theorem Rdr.put {w : World} {lo b p : Nat} {A : Option Addr} {n c : Nat} (h0 : lo ≤ b) (hn : n ≤ 2000) (hb : Blk w b 58 #[.slice A n c, .int .i64 p]) (hr : RdB w A n) (hA : 0 < n → ∀ x off, A = some ⟨x, off, none⟩ → x < lo) (q : Nat) :
    Rdr (w.setCell ⟨b, 1, none⟩ (.int .i64 q)) lo b q ∧ w.grownBy (w.setCell ⟨b, 1, none⟩ (.int .i64 q)) (some b) := by
  refine ⟨⟨h0, A, n, c, hn, by simpa using hb.set_ 1 (.int .i64 q), ?_, hA⟩, grown_set _⟩
  by_cases h1 : 0 < n
  case neg => exact fun h => absurd h h1
  refine hr.keep (by simp [World.setCell]) (fun x off e k => ?_)
  have := hA h1 x off e
  exact World.cell?_setCell_other _ _ _ _ (fun e' => by injection e' with e'; omega)

set_option maxHeartbeats 1000000 in
theorem pick_c (lo b p : Nat) (m : Int) (w : World) (h : Rdr w lo b p) (hp : p ≤ 1000000) :
    Calls Tryz.prog 36 #[.pointer (some ⟨b, 0, none⟩), .int .i64 m] w (SomeNat m w lo b p) := by
  obtain ⟨h0, A, n, c, hn, hb, hr, hA⟩ := h
  have hz := hb.lt
  have c0 := hb.cell 0
  have c1 := hb.cell 1
  have f1 := hb.frozen 1
  have hput := Lib.hid (Rdr.put h0 hn hb hr hA (p + 1))
  by_cases hm : m < 1
  · go_enter Tryz.func36, Tryz.ntmps36
    go_wp2
    go_ret
    exact ⟨0, rfl, fun h => absurd h (by omega), by have := hput.out.2; simpa using this, by have := hput.out.1; simpa using this⟩
  by_cases hn0 : n = 0
  · subst hn0
    go_enter Tryz.func36, Tryz.ntmps36
    go_wp2
    go_ret
    exact ⟨0, rfl, fun h => by omega, by have := hput.out.2; simpa using this, by have := hput.out.1; simpa using this⟩
  have hn1 : 1 ≤ n := by omega
  obtain ⟨x, off, rfl, hx, hcc⟩ := hr (by omega)
  by_cases hpn : p < n
  · obtain ⟨v, v1, v2, hv⟩ := hcc p hpn
    have hne : x ≠ b := by have := hA (by omega) x off rfl; omega
    have hn0' : ((n : Int) == 0) = false := by simp; omega
    clear hn0
    go_enter Tryz.func36, Tryz.ntmps36
    go_wp2
    go_ret
    have h1 := Int.emod_nonneg v (show m ≠ 0 by omega)
    have h2 := Int.emod_lt_of_pos v (show 0 < m by omega)
    exact ⟨(v % m).toNat, by rw [Int.toNat_of_nonneg h1]; rfl, fun _ => by omega, by have := hput.out.2; simpa using this, by have := hput.out.1; simpa using this⟩
  · obtain ⟨v, v1, v2, hv⟩ := hcc (p % n) (Nat.mod_lt _ (by omega))
    obtain ⟨u, u1, u2, hu⟩ := hcc ((p * 7 + 3) % n) (Nat.mod_lt _ (by omega))
    have hne : x ≠ b := by have := hA (by omega) x off rfl; omega
    have hn0' : ((n : Int) == 0) = false := by simp; omega
    have q1 : (p : Int).tmod n = ((p % n : Nat) : Int) := by rw [Int.tmod_eq_emod_of_nonneg (by omega)]; simp
    have q2 : ((p : Int) * 7 + 3).tmod n = (((p * 7 + 3) % n : Nat) : Int) := by rw [Int.tmod_eq_emod_of_nonneg (by omega)]; simp
    have q3 : (p : Int).tdiv n = ((p / n : Nat) : Int) := by rw [Int.tdiv_eq_ediv_of_nonneg (by omega)]; simp
    have r1 : p % n < n := Nat.mod_lt _ (by omega)
    have r2 : (p * 7 + 3) % n < n := Nat.mod_lt _ (by omega)
    have r3 : p / n ≤ p := Nat.div_le_self _ _
    generalize p % n = i1 at hv q1 r1
    generalize (p * 7 + 3) % n = i2 at hu q2 r2
    generalize p / n = i3 at q3 r3
    have s1 : (0 : Int) ≤ i1 := by omega
    have s2 : (0 : Int) ≤ i2 := by omega
    have s3 : (i1 : Int) < n := by omega
    have s4 : (i2 : Int) < n := by omega
    have w1 : IntKind.i64.wrap ((p : Int) * 7) = (p : Int) * 7 := IntWalk.i64_in _ (by omega)
    have w2 : IntKind.i64.wrap ((p : Int) * 7 + 3) = (p : Int) * 7 + 3 := IntWalk.i64_in _ (by omega)
    have w3 : IntKind.i64.wrap (v * 131) = v * 131 := IntWalk.i64_in _ (by omega)
    have w4 : IntKind.i64.wrap (u * 1117) = u * 1117 := IntWalk.i64_in _ (by omega)
    have w5 : IntKind.i64.wrap (v * 131 + u * 1117) = v * 131 + u * 1117 := IntWalk.i64_in _ (by omega)
    have w6 : IntKind.i64.wrap ((p : Int) * 29) = (p : Int) * 29 := IntWalk.i64_in _ (by omega)
    have w7 : IntKind.i64.wrap (v * 131 + u * 1117 + (p : Int) * 29) = v * 131 + u * 1117 + (p : Int) * 29 := IntWalk.i64_in _ (by omega)
    have w8 : IntKind.i64.wrap ((i3 : Int) * 53) = (i3 : Int) * 53 := IntWalk.i64_in _ (by omega)
    have w9 : IntKind.i64.wrap (v * 131 + u * 1117 + (p : Int) * 29 + (i3 : Int) * 53) = v * 131 + u * 1117 + (p : Int) * 29 + (i3 : Int) * 53 := IntWalk.i64_in _ (by omega)
    clear hn0
    go_enter Tryz.func36, Tryz.ntmps36
    go_wp2
    go_quiet (fail)
    clear q1 q2 q3 w1 w2 w3 w4 w5 w6 w7 w8 w9
    obtain ⟨Y, hY⟩ := Int.eq_ofNat_of_zero_le (show 0 ≤ v * 131 + u * 1117 + (p : Int) * 29 + (i3 : Int) * 53 by omega)
    have hYb : Y < 1000000000 := by omega
    rw [hY]
    have hd : (Y : Int) / 64 = ((Y / 64 : Nat) : Int) := by simp
    have hxor : bits .xor .i64 (Y : Int) ((Y : Int) / 64) = ((Y ^^^ Y / 64 : Nat) : Int) := by
      rw [hd]; exact i64_xor_nat _ _ (by omega) (by omega)
    clear hY hd s1 s2 s3 s4 hv hu
    generalize Y ^^^ Y / 64 = Z at hxor
    go_wp2
    go_ret
    have h1 := Int.emod_nonneg (Z : Int) (show m ≠ 0 by omega)
    have h2 := Int.emod_lt_of_pos (Z : Int) (show 0 < m by omega)
    refine ⟨((Z : Int) % m).toNat, by rw [Int.toNat_of_nonneg h1]; rfl, fun _ => by omega, ?_, ?_⟩
    · have := hput.out.2; simp only [Int.natCast_add, Int.cast_ofNat_Int] at this
      exact grown_trans this (grown_of_below (below_drewN (Below.refl _ _) _) _)
    · have := hput.out.1; simp only [Int.natCast_add, Int.cast_ofNat_Int] at this
      exact this.next (below_drewN (Below.refl _ _) _)
end Go.Proofs.YtkcdoacojiilaaaGreat

-- Walks: drawn weights.
namespace Go.Proofs.YtkcdoacojiilaaaGreat
open Go.RowKit
set_option maxRecDepth 100000

theorem Rdr.grown {w w' : World} {lo b p x : Nat} (h : Rdr w lo b p) (k : w.grownBy w' (some x)) (hx : b < x) : Rdr w' lo b p :=
  h.wr (lo' := x) (hi := x + 1) ⟨_, k, fun g e => by injection e; omega⟩ (.inl hx) (by have := h.1; omega)
theorem Rdr.grownA {w w' : World} {lo b p : Nat} {row : Option Nat} (h : Rdr w lo b p) (k : w.grownBy w' row) (hx : ∀ g, row = some g → b < g) : Rdr w' lo b p := by
  cases row with
  | none => exact h.next ⟨k.os, k.tape, k.output, k.size, fun i hi => k.block i hi (by simp)⟩
  | some x => exact h.grown k (hx x rfl)
/-- two steps: the one writes block b alone, the other a block from base on -/
theorem grown_over {a w w' : World} {b : Nat} {row : Option Nat} (h : a.grownBy w (some b)) (k : w.grownBy w' row) (hr : ∀ g, row = some g → a.heap.size ≤ g) : a.grownBy w' (some b) :=
  ⟨k.os.trans h.os, k.tape.trans h.tape, k.output.trans h.output, Nat.le_trans h.size k.size, fun i hi hne => (k.block i (Nat.lt_of_lt_of_le hi h.size) (fun e => by have := hr i e.symm; omega)).trans (h.block i hi hne)⟩
theorem rowA_ge {w : World} {base : Nat} {A : Option Addr} {c : Nat} {xs : List Int} (h : Buf w base A c xs) : ∀ g, rowA A = some g → base ≤ g := by
  intro g hg
  rcases h.form with ⟨rfl, _⟩ | ⟨g', cs, rfl, hb, _⟩
  · cases hg
  · injection hg with hg; subst hg; exact hb

theorem rowA_at {w : World} {base : Nat} {A : Option Addr} {c : Nat} {xs : List Int} (h : Buf w base A c xs) : ∀ g, rowA A = some g → A = some ⟨g, 0, none⟩ := by
  intro g hg
  rcases h.form with ⟨rfl, _⟩ | ⟨g', cs, rfl, hb, _⟩
  · cases hg
  · injection hg with hg; subst hg; rfl

end Go.Proofs.YtkcdoacojiilaaaGreat
