
/- Plain facts and walks that the law's proof uses; each says its own conditions. -/
import Derived.Test.YtnbaedpckdefgaaKb
-- Walks: the reader of codes.
namespace Go.Proofs.Ytnbaedpckdefgaa
open Go.RowKit
set_option maxRecDepth 100000

/-- block b, from lo on, is a reader that has been asked p times; its code lies below lo -/
def Rdr (w : World) (lo b p : Nat) : Prop :=
  lo ≤ b ∧ ∃ A n c, n ≤ 2000 ∧ Blk w b 57 #[.slice A n c, .int .i64 p] ∧ RdB w A n ∧ (0 < n → ∀ x off, A = some ⟨x, off, none⟩ → x < lo)
theorem Rdr.lt {w : World} {lo b p : Nat} (h : Rdr w lo b p) : b < w.heap.size := by
  obtain ⟨_, A, n, c, _, h, _⟩ := h; exact h.lt
theorem Rdr.next {w w' : World} {lo b p : Nat} (h : Rdr w lo b p) (hb : Below w.heap.size w w') : Rdr w' lo b p := by
  obtain ⟨h0, A, n, c, h1, h2, h3, h4⟩ := h
  exact ⟨h0, A, n, c, h1, h2.next hb, h3.next hb, h4⟩
theorem Rdr.wr {w w' : World} {lo lo' hi b p : Nat} (h : Rdr w lo b p) (k : Wr lo' hi w w') (hl : b < lo' ∨ hi ≤ b) (h2 : lo ≤ lo') : Rdr w' lo b p := by
  obtain ⟨h0, A, n, c, h1, hb, h3, h4⟩ := h
  refine ⟨h0, A, n, c, h1, hb.wr k hl, ?_, h4⟩
  obtain ⟨row, k, hr⟩ := k
  by_cases hn : 0 < n
  · refine h3.keep k.size (fun x off e j => ?_)
    refine World.cell?_of_block (k.block x ?_ (fun e' => ?_))
    · have := h4 hn x off e; have := hb.lt; omega
    · have := hr x e'.symm; have := h4 hn x off e; omega
  · exact fun h => absurd h hn

set_option maxHeartbeats 400000 in
theorem l6Open_c (A : Option Addr) (n c : Nat) (w : World) (hr : RdB w A n) (hn : n ≤ 1048576) (hc : n ≤ c) :
    Calls Try.prog 16 #[.slice A n c] w fun e w' => ∃ b, e = .returned (.pointer (some ⟨b, 0, none⟩)) ∧ Rdr w' w.heap.size b 0 ∧ Below w.heap.size w w' := by
  by_cases h : 2000 < n
  · obtain ⟨b, off, rfl, hb, hcc⟩ := hr (by omega)
    go_enter Try.func16, Try.ntmps16
    go_wp2
    go_ret
    refine ⟨_, rfl, ⟨Nat.le_refl _, _, 2000, c, Nat.le_refl _, Blk.new _ _ _, ?_, ?_⟩, by (repeat (first | exact Below.refl _ _ | assumption | refine lo_alloc ?_ _ | refine lo_set ?_ (by simp; try omega) _ | refine Below.drew ?_ | refine below_drewN ?_ _ | refine lo_trans ?_ (by assumption) | refine lo_wr ?_ (by assumption) (by omega)))⟩
    · exact RdB.next (w := w) (fun _ => ⟨b, off, rfl, hb, fun k hk => hcc k (by omega)⟩) (by (repeat (first | exact Below.refl _ _ | assumption | refine lo_alloc ?_ _ | refine lo_set ?_ (by simp; try omega) _ | refine Below.drew ?_ | refine below_drewN ?_ _ | refine lo_trans ?_ (by assumption) | refine lo_wr ?_ (by assumption) (by omega))))
    · rintro _ x off' ⟨⟩; exact hb
  · go_enter Try.func16, Try.ntmps16
    go_wp2
    go_ret
    refine ⟨_, rfl, ⟨Nat.le_refl _, _, n, c, by omega, Blk.new _ _ _, hr.next (by (repeat (first | exact Below.refl _ _ | assumption | refine lo_alloc ?_ _ | refine lo_set ?_ (by simp; try omega) _ | refine Below.drew ?_ | refine below_drewN ?_ _ | refine lo_trans ?_ (by assumption) | refine lo_wr ?_ (by assumption) (by omega)))), ?_⟩, by (repeat (first | exact Below.refl _ _ | assumption | refine lo_alloc ?_ _ | refine lo_set ?_ (by simp; try omega) _ | refine Below.drew ?_ | refine below_drewN ?_ _ | refine lo_trans ?_ (by assumption) | refine lo_wr ?_ (by assumption) (by omega)))⟩
    rintro h0 x off rfl
    obtain ⟨b, off', e, hb, _⟩ := hr h0
    injection e with e; injection e with e1; omega

def SomeNat (m : Int) (w : World) (lo b p : Nat) (e : Ending) (w' : World) : Prop :=
  ∃ x : Nat, e = .returned (.int .i64 x) ∧ (1 ≤ m → (x : Int) < m) ∧ w.grownBy w' (some b) ∧ Rdr w' lo b (p + 1)

theorem Rdr.put {w : World} {lo b p : Nat} {A : Option Addr} {n c : Nat} (h0 : lo ≤ b) (hn : n ≤ 2000) (hb : Blk w b 57 #[.slice A n c, .int .i64 p]) (hr : RdB w A n) (hA : 0 < n → ∀ x off, A = some ⟨x, off, none⟩ → x < lo) (q : Nat) :
    Rdr (w.setCell ⟨b, 1, none⟩ (.int .i64 q)) lo b q ∧ w.grownBy (w.setCell ⟨b, 1, none⟩ (.int .i64 q)) (some b) := by
  refine ⟨⟨h0, A, n, c, hn, by simpa using hb.set_ 1 (.int .i64 q), ?_, hA⟩, grown_set _⟩
  by_cases h1 : 0 < n
  case neg => exact fun h => absurd h h1
  refine hr.keep (by simp [World.setCell]) (fun x off e k => ?_)
  have := hA h1 x off e
  exact World.cell?_setCell_other _ _ _ _ (fun e' => by injection e' with e'; omega)

set_option maxHeartbeats 1000000 in
theorem pick_c (lo b p : Nat) (m : Int) (w : World) (h : Rdr w lo b p) (hp : p ≤ 1000000) :
    Calls Try.prog 17 #[.pointer (some ⟨b, 0, none⟩), .int .i64 m] w (SomeNat m w lo b p) := by
  obtain ⟨h0, A, n, c, hn, hb, hr, hA⟩ := h
  have hz := hb.lt
  have c0 := hb.cell 0
  have c1 := hb.cell 1
  have f1 := hb.frozen 1
  have hput := Lib.hid (Rdr.put h0 hn hb hr hA (p + 1))
  by_cases hm : m < 1
  · go_enter Try.func17, Try.ntmps17
    go_wp2
    go_ret
    exact ⟨0, rfl, fun h => absurd h (by omega), by have := hput.out.2; simpa using this, by have := hput.out.1; simpa using this⟩
  by_cases hn0 : n = 0
  · subst hn0
    go_enter Try.func17, Try.ntmps17
    go_wp2
    go_ret
    exact ⟨0, rfl, fun h => by omega, by have := hput.out.2; simpa using this, by have := hput.out.1; simpa using this⟩
  have hn1 : 1 ≤ n := by omega
  obtain ⟨x, off, rfl, hx, hcc⟩ := hr (by omega)
  by_cases hpn : p < n
  · obtain ⟨v, v1, v2, hv⟩ := hcc p hpn
    have hne : x ≠ b := by have := hA (by omega) x off rfl; omega
    have hn0' : ((n : Int) == 0) = false := by simp; omega
    clear hn0
    go_enter Try.func17, Try.ntmps17
    go_wp2
    go_ret
    have h1 := Int.emod_nonneg v (show m ≠ 0 by omega)
    have h2 := Int.emod_lt_of_pos v (show 0 < m by omega)
    exact ⟨(v % m).toNat, by rw [Int.toNat_of_nonneg h1]; rfl, fun _ => by omega, by have := hput.out.2; simpa using this, by have := hput.out.1; simpa using this⟩
  · obtain ⟨v, v1, v2, hv⟩ := hcc (p % n) (Nat.mod_lt _ (by omega))
    obtain ⟨u, u1, u2, hu⟩ := hcc ((p * 7 + 3) % n) (Nat.mod_lt _ (by omega))
    have hne : x ≠ b := by have := hA (by omega) x off rfl; omega
    have hn0' : ((n : Int) == 0) = false := by simp; omega
    have q1 : (p : Int).tmod n = ((p % n : Nat) : Int) := by rw [Int.tmod_eq_emod_of_nonneg (by omega)]; simp
    have q2 : ((p : Int) * 7 + 3).tmod n = (((p * 7 + 3) % n : Nat) : Int) := by rw [Int.tmod_eq_emod_of_nonneg (by omega)]; simp
    have q3 : (p : Int).tdiv n = ((p / n : Nat) : Int) := by rw [Int.tdiv_eq_ediv_of_nonneg (by omega)]; simp
    have r1 : p % n < n := Nat.mod_lt _ (by omega)
    have r2 : (p * 7 + 3) % n < n := Nat.mod_lt _ (by omega)
    have r3 : p / n ≤ p := Nat.div_le_self _ _
    generalize p % n = i1 at hv q1 r1
    generalize (p * 7 + 3) % n = i2 at hu q2 r2
    generalize p / n = i3 at q3 r3
    have s1 : (0 : Int) ≤ i1 := by omega
    have s2 : (0 : Int) ≤ i2 := by omega
    have s3 : (i1 : Int) < n := by omega
    have s4 : (i2 : Int) < n := by omega
    have w1 : IntKind.i64.wrap ((p : Int) * 7) = (p : Int) * 7 := IntWalk.i64_in _ (by omega)
    have w2 : IntKind.i64.wrap ((p : Int) * 7 + 3) = (p : Int) * 7 + 3 := IntWalk.i64_in _ (by omega)
    have w3 : IntKind.i64.wrap (v * 131) = v * 131 := IntWalk.i64_in _ (by omega)
    have w4 : IntKind.i64.wrap (u * 1117) = u * 1117 := IntWalk.i64_in _ (by omega)
    have w5 : IntKind.i64.wrap (v * 131 + u * 1117) = v * 131 + u * 1117 := IntWalk.i64_in _ (by omega)
    have w6 : IntKind.i64.wrap ((p : Int) * 29) = (p : Int) * 29 := IntWalk.i64_in _ (by omega)
    have w7 : IntKind.i64.wrap (v * 131 + u * 1117 + (p : Int) * 29) = v * 131 + u * 1117 + (p : Int) * 29 := IntWalk.i64_in _ (by omega)
    have w8 : IntKind.i64.wrap ((i3 : Int) * 53) = (i3 : Int) * 53 := IntWalk.i64_in _ (by omega)
    have w9 : IntKind.i64.wrap (v * 131 + u * 1117 + (p : Int) * 29 + (i3 : Int) * 53) = v * 131 + u * 1117 + (p : Int) * 29 + (i3 : Int) * 53 := IntWalk.i64_in _ (by omega)
    clear hn0
    go_enter Try.func17, Try.ntmps17
    go_wp2
    go_quiet (fail)
    clear q1 q2 q3 w1 w2 w3 w4 w5 w6 w7 w8 w9
    obtain ⟨Y, hY⟩ := Int.eq_ofNat_of_zero_le (show 0 ≤ v * 131 + u * 1117 + (p : Int) * 29 + (i3 : Int) * 53 by omega)
    have hYb : Y < 1000000000 := by omega
    rw [hY]
    have hd : (Y : Int) / 64 = ((Y / 64 : Nat) : Int) := by simp
    have hxor : bits .xor .i64 (Y : Int) ((Y : Int) / 64) = ((Y ^^^ Y / 64 : Nat) : Int) := by
      rw [hd]; exact i64_xor_nat _ _ (by omega) (by omega)
    clear hY hd s1 s2 s3 s4 hv hu
    generalize Y ^^^ Y / 64 = Z at hxor
    go_wp2
    go_ret
    have h1 := Int.emod_nonneg (Z : Int) (show m ≠ 0 by omega)
    have h2 := Int.emod_lt_of_pos (Z : Int) (show 0 < m by omega)
    refine ⟨((Z : Int) % m).toNat, by rw [Int.toNat_of_nonneg h1]; rfl, fun _ => by omega, ?_, ?_⟩
    · have := hput.out.2; simp only [Int.natCast_add, Int.cast_ofNat_Int] at this
      exact grown_trans this (grown_of_below (below_drewN (Below.refl _ _) _) _)
    · have := hput.out.1; simp only [Int.natCast_add, Int.cast_ofNat_Int] at this
      exact this.next (below_drewN (Below.refl _ _) _)
end Go.Proofs.Ytnbaedpckdefgaa

-- Walks: drawn weights.
namespace Go.Proofs.Ytnbaedpckdefgaa
open Go.RowKit
set_option maxRecDepth 100000

theorem Rdr.grown {w w' : World} {lo b p x : Nat} (h : Rdr w lo b p) (k : w.grownBy w' (some x)) (hx : b < x) : Rdr w' lo b p :=
  h.wr (lo' := x) (hi := x + 1) ⟨_, k, fun g e => by injection e; omega⟩ (.inl hx) (by have := h.1; omega)
theorem Rdr.grownA {w w' : World} {lo b p : Nat} {row : Option Nat} (h : Rdr w lo b p) (k : w.grownBy w' row) (hx : ∀ g, row = some g → b < g) : Rdr w' lo b p := by
  cases row with
  | none => exact h.next ⟨k.os, k.tape, k.output, k.size, fun i hi => k.block i hi (by simp)⟩
  | some x => exact h.grown k (hx x rfl)
/-- two steps: the one writes block b alone, the other a block from base on -/
theorem grown_over {a w w' : World} {b : Nat} {row : Option Nat} (h : a.grownBy w (some b)) (k : w.grownBy w' row) (hr : ∀ g, row = some g → a.heap.size ≤ g) : a.grownBy w' (some b) :=
  ⟨k.os.trans h.os, k.tape.trans h.tape, k.output.trans h.output, Nat.le_trans h.size k.size, fun i hi hne => (k.block i (Nat.lt_of_lt_of_le hi h.size) (fun e => by have := hr i e.symm; omega)).trans (h.block i hi hne)⟩
theorem rowA_ge {w : World} {base : Nat} {A : Option Addr} {c : Nat} {xs : List Int} (h : Buf w base A c xs) : ∀ g, rowA A = some g → base ≤ g := by
  intro g hg
  rcases h.form with ⟨rfl, _⟩ | ⟨g', cs, rfl, hb, _⟩
  · cases hg
  · injection hg with hg; subst hg; exact hb

theorem rowA_at {w : World} {base : Nat} {A : Option Addr} {c : Nat} {xs : List Int} (h : Buf w base A c xs) : ∀ g, rowA A = some g → A = some ⟨g, 0, none⟩ := by
  intro g hg
  rcases h.form with ⟨rfl, _⟩ | ⟨g', cs, rfl, hb, _⟩
  · cases hg
  · injection hg with hg; subst hg; rfl

set_option maxHeartbeats 1000000 in
theorem l93Weights_c (lo b p : Nat) (w : World) (h : Rdr w lo b p) (hp : p ≤ 900000) :
    Calls Try.prog 26 #[.pointer (some ⟨b, 0, none⟩)] w fun e w' => ∃ A n c B m d xs ys q, e = .returned (.tuple #[.slice A n c, .slice B m d]) ∧ 1 ≤ n ∧ n ≤ 6 ∧ m ≤ 6 ∧ Own w' w.heap.size A n xs ∧ Own w' w.heap.size B m ys ∧ w.grownBy w' (some b) ∧ Rdr w' lo b q ∧ q ≤ p + 20 := by
  have hbz := h.lt
  go_enter Try.func26, Try.ntmps26
  go_wp2_with fail
  refine (pick_c lo b p _ _ (h.next (by (repeat (first | exact Below.refl _ _ | assumption | refine lo_alloc ?_ _ | refine lo_set ?_ (by simp; try omega) _ | refine Below.drew ?_ | refine below_drewN ?_ _ | refine lo_trans ?_ (by assumption) | refine lo_wr ?_ (by assumption) (by omega))))) (by omega)).mono ?_
  rintro e w1 ⟨x1, rfl, hx1, hg1, hr1⟩
  go_wp2_with fail
  refine (pick_c lo b (p + 1) _ _ hr1 (by omega)).mono ?_
  rintro e w2 ⟨x2, rfl, hx2, hg2, hr2⟩
  have hy1 := hx1 (by omega)
  have hy2 := hx2 (by omega)
  have hz1 : w.heap.size + 2 ≤ w1.heap.size := by have := hg1.size; simp at this; omega
  have hz2 : w.heap.size + 2 ≤ w2.heap.size := by have := hg2.size; omega
  have hG2 : w.grownBy w2 (some b) := grown_trans (grown_trans (grown_trans (grown_alloc _ _) (grown_alloc _ _)) hg1) hg2
  have hP : Blk w2 w.heap.size 3 #[] := (((Blk.new w 3 #[]).alloc (.cells #[] 3)).grown hg1 (by intro e; injection e; omega)).grown hg2 (by intro e; injection e; omega)
  have hQ : Blk w2 (w.heap.size + 1) 3 #[] := ((heap_at2 w (.cells #[] 3) 3 #[]).grown hg1 (by intro e; injection e; omega)).grown hg2 (by intro e; injection e; omega)
  have hBp : Buf w2 w.heap.size (some ⟨w.heap.size, 0, none⟩) 0 [] := ⟨rfl, .inr ⟨w.heap.size, 0, #[], rfl, Nat.le_refl _, hP, Nat.le_refl _, Nat.zero_le _, rfl, rfl⟩⟩
  clear hx1 hx2 hg1 hg2 hr1 hP
  go_wp2
  go_loopw [4, 8] (fun v i wr => ∃ (k : Nat) (A : Option Addr) (c : Nat) (xs : List Int), k ≤ 1 + x1 ∧ i = .int .i64 k ∧ v = .slice A k c ∧ xs.length = k ∧ Buf wr w.heap.size A c xs ∧
      Hid (∀ g, A = some ⟨g, 0, none⟩ → g ≠ w.heap.size + 1) ∧ w.grownBy wr (some b) ∧ Rdr wr lo b (p + 2 + k) ∧ Blk wr (w.heap.size + 1) 3 #[]) (fun _ i _ => 1 + x1 - (intOf i).toNat)
  case atStart => exact ⟨0, _, 0, [], Nat.zero_le _, rfl, rfl, rfl, hBp, Lib.hid (by rintro g ⟨⟩; omega), hG2, hr2, hQ⟩
  case round =>
    clear hBp hG2 hr2 hQ
    obtain ⟨k, A, c, xs, hk, rfl, rfl, hxl, hB, hA, hG, hR, hQ⟩ := hrel
    have hxl' := Lib.hid hxl; clear hxl
    have hzr := hG.size
    have hzq := hQ.lt
    by_cases hlt : k < 1 + x1
    · go_wp2_with fail
      refine (pick_c lo b (p + 2 + k) _ _ hR (by omega)).mono ?_
      rintro e w3 ⟨x3, rfl, hx3, hg3, hr3⟩
      have hy3 := hx3 (by omega)
      have hB3 : Buf (w3.alloc (.cells #[.int .i64 (2 * (x3 : Int) - 7)] 3)) w.heap.size A c xs := (hB.kept hg3 (by intro g e e'; injection e'; have := hB.lt g e; omega)).next (by (repeat (first | exact Below.refl _ _ | assumption | refine lo_alloc ?_ _ | refine lo_set ?_ (by simp; try omega) _ | refine Below.drew ?_ | refine below_drewN ?_ _ | refine lo_trans ?_ (by assumption) | refine lo_wr ?_ (by assumption) (by omega))))
      have hr3' : Rdr (w3.alloc (.cells #[.int .i64 (2 * (x3 : Int) - 7)] 3)) lo b (p + 2 + k + 1) := hr3.next (by (repeat (first | exact Below.refl _ _ | assumption | refine lo_alloc ?_ _ | refine lo_set ?_ (by simp; try omega) _ | refine Below.drew ?_ | refine below_drewN ?_ _ | refine lo_trans ?_ (by assumption) | refine lo_wr ?_ (by assumption) (by omega))))
      have hQ3 : Blk (w3.alloc (.cells #[.int .i64 (2 * (x3 : Int) - 7)] 3)) (w.heap.size + 1) 3 #[] := (hQ.grown hg3 (by intro e; injection e; omega)).alloc _
      have hG3 : w.grownBy (w3.alloc (.cells #[.int .i64 (2 * (x3 : Int) - 7)] 3)) (some b) := grown_trans (grown_trans hG hg3) (grown_alloc _ _)
      have hz3 := hg3.size
      have hrd : Rd (w3.alloc (.cells (ints [2 * (x3 : Int) - 7]) 3)) (some ⟨w3.heap.size, 0, none⟩) 1 [2 * (x3 : Int) - 7] := Rd.of_blk (Blk.new _ _ _)
      go_wp2_with (at_builtin; refine (wpl_append rfl _ _ rfl w.heap.size A c k xs rfl hxl'.out.symm hB3 _ 1 1 [2 * (x3 : Int) - 7] rfl hrd (by omega) (by omega) (by simp; omega) ?_); intro g c' w4 hB4 hg4 hat)
      have hz4 := hg4.size
      have hn4 := rowA_at hB3
      have hBk := rowA_ge hB3
      go_roundw
      case rel =>
        refine ⟨k + 1, _, c', _, by omega, by go_num, rfl, by simp [hxl'.out], hB4, Lib.hid ?_, grown_over hG3 hg4 (fun g hg => hBk g hg), hr3'.grownA hg4 (fun g hg => by have := hBk g hg; omega), hQ3.grown hg4 (fun e => hA.out _ (hn4 _ e.symm) rfl)⟩
        rintro g' ⟨⟩
        rcases hat with h | h
        · exact hA.out _ h
        · simp at h; omega
      case measure => simp [intOf]; omega
    · obtain ⟨k1, rfl⟩ : ∃ k1 : Nat, k1 = k := ⟨_, rfl⟩
      have hBq : Buf wr w.heap.size (some ⟨w.heap.size + 1, 0, none⟩) 0 [] := ⟨rfl, .inr ⟨w.heap.size + 1, 0, #[], rfl, by omega, hQ, Nat.le_refl _, Nat.zero_le _, rfl, rfl⟩⟩
      have hX := Lib.hid (show ∀ g, some (⟨w.heap.size + 1, 0, none⟩ : Addr) = some ⟨g, 0, none⟩ → A ≠ some ⟨g, 0, none⟩ by
        rintro g ⟨⟩ e; exact hA.out _ e rfl)
      clear hQ hA
      obtain ⟨wo, rfl⟩ : ∃ wo : World, wo = wr := ⟨_, rfl⟩
      go_wp2
      go_loopw [5, 9] (fun v i wr => ∃ (k : Nat) (B : Option Addr) (d : Nat) (ys : List Int), k ≤ 1 + x2 ∧ i = .int .i64 k ∧ v = .slice B k d ∧ ys.length = k ∧ Buf wr w.heap.size B d ys ∧ Buf wr w.heap.size A c xs ∧
          Hid (∀ g, B = some ⟨g, 0, none⟩ → A ≠ some ⟨g, 0, none⟩) ∧ w.grownBy wr (some b) ∧ Rdr wr lo b (p + 2 + k1 + k)) (fun _ i _ => 1 + x2 - (intOf i).toNat)
      case atStart => exact ⟨0, _, 0, [], Nat.zero_le _, rfl, rfl, rfl, hBq, hB, hX, hG, hR⟩
      case round =>
        clear hB hX hG hR hzr hzq hBq
        obtain ⟨k, B, d, ys, hk, rfl, rfl, hyl, hBq, hB, hX, hG, hR⟩ := hrel
        have hyl' := Lib.hid hyl; clear hyl
        have hzr := hG.size
        by_cases hlt : k < 1 + x2
        · go_wp2_with fail
          refine (pick_c lo b (p + 2 + k1 + k) _ _ hR (by omega)).mono ?_
          rintro e w3 ⟨x3, rfl, hx3, hg3, hr3⟩
          have hy3 := hx3 (by omega)
          have hB3 : Buf (w3.alloc (.cells #[.int .i64 (2 * (x3 : Int) - 8)] 3)) w.heap.size B d ys := (hBq.kept hg3 (by intro g e e'; injection e'; have := hBq.lt g e; omega)).next (by (repeat (first | exact Below.refl _ _ | assumption | refine lo_alloc ?_ _ | refine lo_set ?_ (by simp; try omega) _ | refine Below.drew ?_ | refine below_drewN ?_ _ | refine lo_trans ?_ (by assumption) | refine lo_wr ?_ (by assumption) (by omega))))
          have hA3 : Buf (w3.alloc (.cells #[.int .i64 (2 * (x3 : Int) - 8)] 3)) w.heap.size A c xs := (hB.kept hg3 (by intro g e e'; injection e'; have := hB.lt g e; omega)).next (by (repeat (first | exact Below.refl _ _ | assumption | refine lo_alloc ?_ _ | refine lo_set ?_ (by simp; try omega) _ | refine Below.drew ?_ | refine below_drewN ?_ _ | refine lo_trans ?_ (by assumption) | refine lo_wr ?_ (by assumption) (by omega))))
          have hr3' : Rdr (w3.alloc (.cells #[.int .i64 (2 * (x3 : Int) - 8)] 3)) lo b (p + 2 + k1 + k + 1) := hr3.next (by (repeat (first | exact Below.refl _ _ | assumption | refine lo_alloc ?_ _ | refine lo_set ?_ (by simp; try omega) _ | refine Below.drew ?_ | refine below_drewN ?_ _ | refine lo_trans ?_ (by assumption) | refine lo_wr ?_ (by assumption) (by omega))))
          have hG3 : w.grownBy (w3.alloc (.cells #[.int .i64 (2 * (x3 : Int) - 8)] 3)) (some b) := grown_trans (grown_trans hG hg3) (grown_alloc _ _)
          have hz3 := hg3.size
          have hrd : Rd (w3.alloc (.cells (ints [2 * (x3 : Int) - 8]) 3)) (some ⟨w3.heap.size, 0, none⟩) 1 [2 * (x3 : Int) - 8] := Rd.of_blk (Blk.new _ _ _)
          go_wp2_with (at_builtin; refine (wpl_append rfl _ _ rfl w.heap.size B d k ys rfl hyl'.out.symm hB3 _ 1 1 [2 * (x3 : Int) - 8] rfl hrd (by omega) (by omega) (by simp; omega) ?_); intro g c' w4 hB4 hg4 hat)
          have hz4 := hg4.size
          have hn4 := rowA_at hB3
          have hBk := rowA_ge hB3
          go_roundw
          case rel =>
            refine ⟨k + 1, _, c', _, by omega, by go_num, rfl, by simp [hyl'.out], hB4, hA3.kept hg4 (fun g e e' => hX.out g (hn4 g e') e), Lib.hid ?_, grown_over hG3 hg4 (fun g hg => hBk g hg), hr3'.grownA hg4 (fun g hg => by have := hBk g hg; omega)⟩
            rintro g' ⟨⟩ e
            rcases hat with h | h
            · exact hX.out _ h e
            · have := hA3.lt _ e; omega
          case measure => simp [intOf]; omega
        · have hke : 1 + x2 ≤ k := by omega
          have hOp := hB.own
          have hOq := hBq.own
          rw [hxl'.out] at hOp
          rw [hyl'.out] at hOq
          have hX'0 := hX
          clear hB hBq hX
          go_wp2_with fail
          refine (pick_c lo b _ _ _ hR (by omega)).mono ?_
          rintro e w5 ⟨x5, rfl, hx5, hg5, hr5⟩
          have hOp5 := hOp.grown_lo hg5 (by rintro g ⟨⟩; omega)
          have hOq5 := hOq.grown_lo hg5 (by rintro g ⟨⟩; omega)
          have hG5 := grown_trans hG hg5
          have hz5 := hG5.size
          have hQ5 : p + 2 + k1 + k + 1 ≤ p + 20 := by omega
          obtain ⟨gA, rfl, lA, zA, cA, fA, sA⟩ := hOp5.at_ (k := 0) (by omega)
          obtain ⟨gB, rfl, lB, zB, cB, fB, sB⟩ := hOq5.at_ (k := 0) (by omega)
          have hX' : gA ≠ gB := fun e => hX'0.out gB rfl (by rw [e])
          by_cases s0 : x5 = 0
          · have s0' : ((x5 : Int) == 0) = true := by simp; omega
            have hsB := Lib.hid sB
            clear sA sB s0
            go_wp2
            go_ret2
            refine ⟨_, _, _, _, _, _, _, _, _, rfl, by omega, by omega, by omega, hOp5.far (by rintro g ⟨⟩; exact hX') _, hsB.out _, grown_over hG5 (grown_set _) (by rintro g ⟨⟩; omega), hr5.grown (grown_set _) (by omega), hQ5⟩
          have s0' : ((x5 : Int) == 0) = false := by simp; omega
          by_cases s1 : x5 = 1
          · have s1' : ((x5 : Int) == 1) = true := by simp; omega
            clear sA sB s0 s1
            have hn5 := (Below.refl w5.heap.size w5).alloc (Nat.le_refl _) (.cells #[.int .i64 100, .int .i64 99] 3)
            go_wp2_with fail
            refine (pick_c lo b _ _ _ (hr5.next hn5) (by omega)).mono ?_
            rintro e w6 ⟨x6, rfl, hx6, hg6, hr6⟩
            have hy6 := hx6 (by omega)
            have hOp6 := (hOp5.next hn5).grown_lo hg6 (by rintro g ⟨⟩; omega)
            have hOq6 := (hOq5.next hn5).grown_lo hg6 (by rintro g ⟨⟩; omega)
            obtain ⟨_, e1, lA, zA, cA, fA, sA⟩ := hOp6.at_ (k := 0) (by omega)
            cases e1
            have hsA := Lib.hid sA
            clear sA
            have hG6 := grown_trans (grown_trans hG5 (grown_alloc _ _)) hg6
            have hk6 := (Blk.new w5 3 #[.int .i64 100, .int .i64 99]).grown hg6 (by intro e; injection e; omega)
            have ck := hk6.cell x6
            have hck : ∃ y : Int, (#[Value.int .i64 100, Value.int .i64 99] : Array Value)[x6]? = some (.int .i64 y) := by
              rcases (show x6 = 0 ∨ x6 = 1 by omega) with rfl | rfl
              · exact ⟨100, rfl⟩
              · exact ⟨99, rfl⟩
            obtain ⟨y, hy⟩ := hck
            rw [hy] at ck
            clear hy hk6 hx6
            go_wp2
            go_ret2
            refine ⟨_, _, _, _, _, _, _, _, _, rfl, by omega, by omega, by omega, hsA.out _, hOq6.far (by rintro g ⟨⟩; exact fun e => hX' e.symm) _, grown_over hG6 (grown_set _) (by rintro g ⟨⟩; omega), hr6.grown (grown_set _) (by omega), by omega⟩
          have s1' : ((x5 : Int) == 1) = false := by simp; omega
          by_cases s2 : x5 = 2
          · have s2' : ((x5 : Int) == 2) = true := by simp; omega
            clear sA sB s0 s1 s2
            have hn5 := (Below.refl w5.heap.size w5).alloc (Nat.le_refl _) (.cells #[] 3)
            go_wp2
            go_ret2
            refine ⟨_, _, _, _, _, 0, _, [], _, rfl, by omega, by omega, by omega, hOp5.next hn5, Own.nil_ _ _ _, grown_trans hG5 (grown_alloc _ _), hr5.next hn5, hQ5⟩
          · have s2' : ((x5 : Int) == 2) = false := by simp; omega
            clear sA sB s0 s1 s2
            go_wp2
            go_ret2
            exact ⟨_, _, _, _, _, _, _, _, _, rfl, by omega, by omega, by omega, hOp5, hOq5, hG5, hr5, hQ5⟩

set_option maxHeartbeats 400000 in
theorem DrawWeightsImage_c (A : Option Addr) (n c : Nat) (w : World) (hr : RdB w A n) (hn : n ≤ 1048576) (hc : n ≤ c) :
    Calls Try.prog 11 #[.slice A n c] w fun e w' => ∃ P l a Q m b xs ys, e = .returned (.tuple #[.slice P l a, .slice Q m b]) ∧ l ≤ 6 ∧ m ≤ 6 ∧ Own w' w.heap.size P l xs ∧ Own w' w.heap.size Q m ys ∧ Below w.heap.size w w' := by
  go_enter Try.func11, Try.ntmps11
  go_wp2_with fail
  refine (l6Open_c A n c _ hr hn hc).mono ?_
  rintro e w1 ⟨b, rfl, hr1, hb1⟩
  go_wp2_with fail
  refine (l93Weights_c _ b 0 _ hr1 (by omega)).mono ?_
  rintro e w2 ⟨P, l, a, Q, m, b', xs, ys, q, rfl, h1, h2, h3, hP, hQ, hg, _, _⟩
  have hz := hb1.size
  go_wp2
  go_ret2
  exact ⟨_, _, _, _, _, _, _, _, rfl, h2, h3, hP.mono hz, hQ.mono hz, lo_grown hb1 hg (by rintro g ⟨⟩; exact hr1.1)⟩
end Go.Proofs.Ytnbaedpckdefgaa
