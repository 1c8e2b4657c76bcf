/- Plain facts and walks that the law's proof uses; each says its own conditions. -/
import Derived.Test.YtpeiolimdglmhaaGreatDoorZ11
import Derived.Test.YtpeiolimdglmhaaGreatDoorZ01
import Derived.Deep.RegionHeld3
import Derived.Deep.QuietTactic
import Derived.BigQuiet
import Derived.Test.YtpeiolimdglmhaaGreatDoorZ10
import Derived.Test.YtpeiolimdglmhaaGreatDoorZ07
-- Walks: insertion sort by a comparison that is handed in.
namespace Go.Proofs.YtpeiolimdglmhaaGreatDoor
open Go.RowKit
set_option maxRecDepth 100000

/-- the comparison answers cf in every world that Kp keeps -/
structure Cmp (F : Nat) (cap : Array Value) (cf : Int → Int → Int) (ok : Int → Prop) (g : Nat) (Kp : World → Prop) : Prop where
  ent : ∀ args w, (callFunc F args).run Tryz.prog w = .ok (.enter F args) w
  next : ∀ {W W' : World}, Kp W → Below W.heap.size W W' → Kp W'
  set_ : ∀ {W : World} (i : Nat) (v : Value), Kp W → Kp (W.setCell ⟨g, i, none⟩ v)
  call : ∀ {W : World} {x y : Int}, Kp W → ok x → ok y → Calls Tryz.prog F (#[.int .i64 x, .int .i64 y] ++ cap) W fun e w' => e = .returned (.int .i64 (cf x y)) ∧ Below W.heap.size W w'
def ltC (cf : Int → Int → Int) (x y : Int) : Bool := decide (cf x y < 0)

theorem Own.cellSet' {w : World} {lo g n k : Nat} {xs : List Int} (h : Own w lo (some ⟨g, 0, none⟩) n xs) (hk : k < n) : lo ≤ g ∧ g < w.heap.size ∧ w.cell? ⟨g, k, none⟩ = some (.int .i64 (xs[k]?.getD 0)) ∧ w.frozen? ⟨g, k, none⟩ = false ∧
    ∀ y, Own (w.setCell ⟨g, k, none⟩ (.int .i64 y)) lo (some ⟨g, 0, none⟩) n (xs.set k y) := by
  obtain ⟨g', e, h1, h2, h3, h4, h5⟩ := h.at_ hk
  cases e
  exact ⟨h1, h2, h3, h4, h5⟩
/-- the row amid the sort -/
structure SI (w wr : World) (lo g n : Nat) (Kp : World → Prop) (xs : List Int) : Prop where
  ow : Own wr lo (some ⟨g, 0, none⟩) n xs
  gr : w.grownBy wr (some g)
  kp : Kp wr
theorem SI.next {w wr w2 : World} {lo g n F : Nat} {cap : Array Value} {cf : Int → Int → Int} {ok : Int → Prop} {Kp : World → Prop} {xs : List Int} (hC : Cmp F cap cf ok g Kp) (h : SI w wr lo g n Kp xs) (hb : Below wr.heap.size wr w2) : SI w w2 lo g n Kp xs :=
  ⟨h.ow.next hb, grown_trans h.gr (grown_of_below hb _), hC.next h.kp hb⟩

set_option maxHeartbeats 8000000 in
theorem insertion_c (F : Nat) (cap : Array Value) (cf : Int → Int → Int) (ok : Int → Prop) (lo g n c : Nat) (Kp : World → Prop) (xs : List Int) (w : World) (hC : Cmp F cap cf ok g Kp) (ho : Own w lo (some ⟨g, 0, none⟩) n xs) (hk : Kp w) (hn : n ≤ 1000) (hok : ∀ x ∈ xs, ok x) :
    Calls Tryz.prog 169 #[.slice (some ⟨g, 0, none⟩) n c, .int .i64 0, .int .i64 n, .func (.func F) #[] cap] w fun e w' => e = .returned (.tuple #[]) ∧ SI w w' lo g n Kp (isort (ltC cf) xs) := by
  have hC' := Lib.hid hC; clear hC
  have hok' := Lib.hid hok; clear hok
  have hxl := Lib.hid ho.1
  have h0 : SI w w lo g n Kp xs := ⟨ho, World.grownBy.refl _ _, hk⟩
  clear ho hk
  go_enter Tryz.func169, Tryz.ntmps169
  go_wp2
  go_loopw [8] (fun i wr => ∃ k : Nat, (k ≤ n ∨ k = 1) ∧ 1 ≤ k ∧ i = .int .i64 k ∧ Hid (SI w wr lo g n Kp ((isr (ltC cf) (xs.take k)).reverse ++ xs.drop k))) (fun i _ => n + 1 - (intOf i).toNat)
  case atStart =>
    refine ⟨1, .inr rfl, Nat.le_refl _, rfl, Lib.hid ?_⟩
    have e : (isr (ltC cf) (xs.take 1)).reverse ++ xs.drop 1 = xs := by cases xs <;> rfl
    rw [e]
    exact h0
  case round =>
    clear h0
    obtain ⟨k, hk, hk1, rfl, hI⟩ := hrel
    by_cases hlt : k < n
    · obtain ⟨r, hr⟩ : ∃ r, r = isr (ltC cf) (xs.take k) := ⟨_, rfl⟩
      obtain ⟨x, hx⟩ : ∃ x, xs[k]? = some x := ⟨_, List.getElem?_eq_getElem (by rw [hxl.out]; exact hlt)⟩
      have hrl : r.length = k := by rw [hr, isr_len, List.length_take, hxl.out]; omega
      have hrok : Hid (∀ y ∈ r, ok y) := Lib.hid (fun y hy => hok'.out y (List.mem_of_mem_take ((isr_perm _ _).mem_iff.1 (hr ▸ hy))))
      have hxok := Lib.hid (hok'.out x (List.mem_of_getElem? hx))
      have hI0 : Hid (SI w wr lo g n Kp (sAt r x (xs.drop (k + 1)) 0)) := Lib.hid (by
        have h1 := hI.out
        rw [← hr] at h1
        rw [sAt_zero]
        obtain ⟨h2, h3⟩ := List.getElem?_eq_some_iff.1 hx
        rw [List.drop_eq_getElem_cons h2, h3] at h1
        exact h1)
      obtain ⟨rest, hrest⟩ : ∃ rest, rest = xs.drop (k + 1) := ⟨_, rfl⟩
      rw [← hrest] at hI0
      have hN : Hid ((isr (ltC cf) (xs.take (k + 1))).reverse ++ xs.drop (k + 1) = (bub (ltC cf) x r).reverse ++ rest) := Lib.hid (by
        have : xs.take (k + 1) = xs.take k ++ [x] := by
          obtain ⟨h1, h2⟩ := List.getElem?_eq_some_iff.1 hx
          rw [List.take_succ_eq_append_getElem h1, h2]
        rw [this, isr_snoc, hr, hrest])
      clear hI hr hx
      have hrl' := Lib.hid hrl
      have hlr : rest.length + k + 1 = n := by rw [hrest, List.length_drop, hxl.out]; omega
      clear hrest hrl
      go_wp2
      go_loopw [9] (fun v wr => ∃ d j : Nat, d + j ≤ k ∧ k ≤ d + j ∧ v = .int .i64 (j : Int) ∧ Hid (SI w wr lo g n Kp (sAt r x rest d)) ∧ Hid (∀ i y, i < d → r[i]? = some y → ltC cf x y = true)) (fun v _ => (intOf v).toNat)
      case atStart => exact ⟨0, k, by omega, by omega, rfl, hI0, Lib.hid (fun i y h => absurd h (by omega))⟩
      case round =>
        clear hI0
        obtain ⟨d, j, hd1, hd2, rfl, hI, hall⟩ := hrel
        rcases Nat.eq_zero_or_pos j with h0 | h0
        · obtain rfl : d = k := by omega
          subst h0
          have hB := Lib.hid (bub_at (ltC cf) x r d (by rw [hrl'.out]; exact Nat.le_refl _) (fun i y hi hy => hall.out i y hi hy) (fun y hy => by rw [List.getElem?_eq_none (by rw [hrl'.out]; exact Nat.le_refl _)] at hy; cases hy))
          have hI2 : Hid (SI w wr lo g n Kp ((isr (ltC cf) (xs.take (d + 1))).reverse ++ xs.drop (d + 1))) := Lib.hid (by rw [hN.out, ← sAt_end rest hB.out]; exact hI.out)
          clear hI
          go_wp2
          go_quiet (fail)
          have hI3 : ∀ q, Hid (SI w (wr.drewN q) lo g n Kp ((isr (ltC cf) (xs.take (d + 1))).reverse ++ xs.drop (d + 1))) := fun q => Lib.hid (hI2.out.next hC'.out (below_drewN (Below.refl wr.heap.size wr) q))
          clear hI2
          go_wp2
          go_roundw
          case rel => exact ⟨d + 1, by omega, by omega, by go_num, hI3 _⟩
          case measure => simp [intOf]; omega
        · obtain ⟨p, rfl⟩ : ∃ p, j = p + 1 := ⟨j - 1, by omega⟩
          have hdr : d < r.length := by rw [hrl'.out]; omega
          obtain ⟨y, hy⟩ : ∃ y, r[d]? = some y := ⟨_, List.getElem?_eq_getElem hdr⟩
          have hyr : r[d] = y := by rw [List.getElem?_eq_getElem hdr] at hy; injection hy
          have hy' := Lib.hid hy
          have hyr' := Lib.hid hyr
          have hyok := Lib.hid (hrok.out y (List.mem_of_getElem? hy))
          have ex := Lib.hid (show r.length - d = p + 1 by rw [hrl'.out]; omega)
          have vx := sAt_x r x rest (Nat.le_of_lt hdr)
          have vy := sAt_y r x rest hdr
          rw [ex.out] at vx
          rw [ex.out, hyr, Nat.add_sub_cancel] at vy
          obtain ⟨_, hz, cx, fx, sx⟩ := hI.out.ow.cellSet' (k := p + 1) (by omega)
          obtain ⟨_, _, cy, fy, sy⟩ := hI.out.ow.cellSet' (k := p) (by omega)
          rw [vx] at cx
          rw [vy] at cy
          have hK := hI.out.kp
          have w1 : IntKind.i64.wrap ((p : Int) + 1 - 1) = (p : Int) := by rw [Int.add_sub_cancel]; exact IntWalk.i64_in _ (by omega)
          clear sx sy vx vy hy hyr
          dsimp only [Option.getD_some] at cx cy
          have hKd := hC'.out.next hK (Below.drew (Below.refl wr.heap.size wr))
          have hent := hC'.out.ent
          have hd1 : decide ((0 : Int) < (p : Int) + 1) = true := decide_eq_true (by omega)
          have w3 : IntKind.i64.wrap (p : Int) = (p : Int) := IntWalk.i64_in _ (by omega)
          have w2 : IntKind.i64.wrap (((p + 1 : Nat) : Int) - 1) = (p : Int) := by rw [Int.natCast_add, Int.natCast_one]; exact w1
          have hp1 : (0 : Int) ≤ (p : Int) := by omega
          have hp2 : (p : Int) < (n : Int) := by omega
          have hp3 : (p : Int) + 1 < (n : Int) := by omega
          have hp4 : (0 : Int) ≤ (p : Int) + 1 := by omega
          have hp5 : ((p : Int) + 1).toNat = p + 1 := by omega
          by_cases hc : cf x y < 0
          · have hc' := Lib.hid hc
            go_wp2
            go_region_held3 (fun w' => w'.cell? ⟨g, p + 1, none⟩ = some (.int .i64 x) ∧ w'.cell? ⟨g, p, none⟩ = some (.int .i64 y))
              (first
                | exact ⟨(hb5.cell (p := ⟨g, p + 1, none⟩) hz).trans cx, (hb5.cell (p := ⟨g, p, none⟩) hz).trans cy⟩
                | exact ⟨cx, cy⟩)
              (first
                | (refine (hC'.out.call hKd hxok.out hyok.out).mono ?_
                   rintro e w5 ⟨rfl, hb5⟩))
            clear w1 w2 w3
            have hI5 := hI.out.next hC'.out (lo_trans (Below.drew (Below.refl wr.heap.size wr)) hb5)
            clear hI cx cy fx fy hz hKd hK hb5
            obtain ⟨_, hz, cx, fx, sx⟩ := hI5.ow.cellSet' (k := p + 1) (by omega)
            obtain ⟨_, _, cy, fy, _⟩ := hI5.ow.cellSet' (k := p) (by omega)
            have hI6 : SI w (w5.setCell ⟨g, p + 1, none⟩ (.int .i64 y)) lo g n Kp _ := ⟨sx y, grown_trans hI5.gr (grown_set _), hC'.out.set_ _ _ hI5.kp⟩
            have hI7 : SI w ((w5.setCell ⟨g, p + 1, none⟩ (.int .i64 y)).setCell ⟨g, p, none⟩ (.int .i64 x)) lo g n Kp _ := ⟨(hI6.ow.cellSet' (k := p) (by omega)).2.2.2.2 x, grown_trans hI6.gr (grown_set _), hC'.out.set_ _ _ hI6.kp⟩
            have hsw := sAt_swap r x rest hdr
            rw [ex.out, hyr'.out, Nat.add_sub_cancel] at hsw
            rw [hsw] at hI7
            have hI8 := Lib.hid (hI7.next hC'.out (Below.drew (Below.refl _ _)))
            have vx := sAt_x r x rest (Nat.le_of_lt hdr)
            have vy := sAt_y r x rest hdr
            rw [ex.out] at vx
            rw [ex.out, hyr'.out, Nat.add_sub_cancel] at vy
            rw [vx] at cx
            rw [vy] at cy
            dsimp only [Option.getD_some] at cx cy
            have hall2 : Hid (∀ i z, i < d + 1 → r[i]? = some z → ltC cf x z = true) := Lib.hid (fun i z hi hz => by
              rcases Nat.lt_or_ge i d with h | h
              · exact hall.out i z h hz
              · obtain rfl : i = d := by omega
                rw [hy'.out] at hz; cases hz
                exact decide_eq_true hc'.out)
            clear hI5 hI6 hI7 sx vx vy hsw
            go_wp2
            have w1 : IntKind.i64.wrap ((p : Int) + 1 - 1) = (p : Int) := by rw [Int.add_sub_cancel]; exact IntWalk.i64_in _ (by omega)
            have w2 : IntKind.i64.wrap (((p + 1 : Nat) : Int) - 1) = (p : Int) := by rw [Int.natCast_add, Int.natCast_one]; exact w1
            have w3 : IntKind.i64.wrap (p : Int) = (p : Int) := IntWalk.i64_in _ (by omega)
            go_region
            clear w1 w2 w3
            go_wp2
            go_roundw
            case rel => exact ⟨d + 1, p, by omega, by omega, by first | rfl | go_num, hI8, hall2⟩
            case measure => simp [intOf]
          · have hc' := Lib.hid hc
            go_wp2
            go_region_held3 (fun w' => w'.cell? ⟨g, p + 1, none⟩ = some (.int .i64 x) ∧ w'.cell? ⟨g, p, none⟩ = some (.int .i64 y))
              (first
                | exact ⟨(hb5.cell (p := ⟨g, p + 1, none⟩) hz).trans cx, (hb5.cell (p := ⟨g, p, none⟩) hz).trans cy⟩
                | exact ⟨cx, cy⟩)
              (first
                | (refine (hC'.out.call hKd hxok.out hyok.out).mono ?_
                   rintro e w5 ⟨rfl, hb5⟩))
            clear w1 w2 w3
            have hB := Lib.hid (bub_at (ltC cf) x r d (Nat.le_of_lt hdr) (fun i z hi hz => hall.out i z hi hz) (fun z hz => by rw [hy'.out] at hz; cases hz; exact decide_eq_false (by have := hc'.out; omega)))
            have hI5 : Hid (SI w w5 lo g n Kp ((isr (ltC cf) (xs.take (k + 1))).reverse ++ xs.drop (k + 1))) := Lib.hid (by
              rw [hN.out, ← sAt_end rest hB.out]
              exact hI.out.next hC'.out (lo_trans (Below.drew (Below.refl wr.heap.size wr)) hb5))
            clear hI cx cy fx fy hz hKd hK hb5 hB
            go_wp2
            go_roundw
            case rel => exact ⟨k + 1, by omega, by omega, by go_num, hI5⟩
            case measure => simp [intOf]; omega
    · have hI2 : Hid (SI w wr lo g n Kp (isort (ltC cf) xs)) := Lib.hid (by
        have h1 := hI.out
        rw [List.take_of_length_le (by rw [hxl.out]; omega), List.drop_eq_nil_of_le (by rw [hxl.out]; omega), List.append_nil] at h1
        exact h1)
      clear hI
      go_wp2
      go_end0
      exact ⟨rfl, hI2.out⟩
end Go.Proofs.YtpeiolimdglmhaaGreatDoor

-- Plain mathematics: the places of a list by descending value; the stable sort and the reference's way give the same.
namespace Go.Proofs.YtpeiolimdglmhaaGreatDoor

def keyL (L : List Int) (x : Int) : Int := L[x.toNat]?.getD 0
def iotaL (n : Nat) : List Int := (List.range n).map (fun i : Nat => (i : Int))
/-- the program's order -/
def ordL (L : List Int) : List Int := isort (ltC (fun x y => keyL L y - keyL L x)) (iotaL L.length)
theorem iotaL_len (n : Nat) : (iotaL n).length = n := by simp [iotaL]
theorem iotaL_mem {n : Nat} {x : Int} : x ∈ iotaL n ↔ 0 ≤ x ∧ x < n := by
  simp only [iotaL, List.mem_map, List.mem_range]
  constructor
  · rintro ⟨k, h, rfl⟩; omega
  · rintro ⟨h1, h2⟩; exact ⟨x.toNat, by omega, by omega⟩
theorem iotaL_sorted (n : Nat) : (iotaL n).Pairwise (fun a b => a < b) := by
  rw [iotaL, List.pairwise_map]
  exact List.pairwise_lt_range.imp (fun h => by omega)
theorem ordL_perm (L : List Int) : (ordL L).Perm (iotaL L.length) := isort_perm _ _
end Go.Proofs.YtpeiolimdglmhaaGreatDoor

-- Plain facts and walks that the law's proof uses; each says its own conditions.
namespace Go.Proofs.YtpeiolimdglmhaaGreatDoor
open Go.RowKit
set_option maxRecDepth 100000

theorem put_lt_all : ∀ m, m < 7 → ∀ r, r < 2 ^ m → ∀ j, j < m → ∀ b, put r j b < 2 ^ m := by decide +kernel
theorem put_lt {m r j : Nat} (b : Bool) (hm : m ≤ 6) (hr : r < 2 ^ m) (hj : j < m) : put r j b < 2 ^ m := put_lt_all m (by omega) r hr j hj b

set_option maxHeartbeats 400000 in
theorem l15Count_c (r : Nat) (w : World) (hr : r < 64) :
    Calls Tryz.prog 142 #[.int .i64 r] w fun e w' => ∃ n : Nat, e = .returned (.int .i64 n) ∧ n ≤ 6 ∧ w = w' := by
  go_enter Tryz.func142, Tryz.ntmps142
  go_wp2
  go_loop [0, 3] (fun q c => ∃ s x n : Nat, s ≤ 6 ∧ n ≤ s ∧ Hid (x < 2 ^ (6 - s)) ∧ q = .int .i64 x ∧ c = .int .i64 n) (fun q _ => (intOf q).toNat)
  case atStart => exact ⟨0, r, 0, by omega, by omega, Lib.hid (by simpa using hr), rfl, rfl⟩
  case round =>
    obtain ⟨s, x, n, hs, hn, hx, rfl, rfl⟩ := hrel
    by_cases h0 : 0 < x
    · have hs6 : s < 6 := by
        rcases Nat.lt_or_ge s 6 with h | h
        · exact h
        · have h2 := hx.out
          rw [show 6 - s = 0 by omega] at h2; omega
      have hN : Hid (x / 2 < 2 ^ (6 - (s + 1))) := Lib.hid (by
        have h2 := hx.out
        rw [show 6 - s = (6 - (s + 1)) + 1 by omega, Nat.pow_succ] at h2
        omega)
      have hxb : x < 64 := by
        have h2 := hx.out
        have : 2 ^ (6 - s) ≤ 2 ^ 6 := Nat.pow_le_pow_right (by omega) (by omega)
        omega
      go_wp2
      go_round
      case rel =>
        refine ⟨s + 1, x / 2, n + x % 2, by omega, by omega, hN, ?_, ?_⟩
        · simp
        · simp
      case measure => simp [intOf]; omega
    · go_wp2
      go_ret
      exact ⟨n, rfl, by omega, rfl⟩

/-- A drawn image: valid, in new memory. -/
def DrawnImage (w : World) (lo b p k : Nat) (e : Ending) (w' : World) : Prop :=
  ∃ (h m g q : Nat) (f : Nat → Nat → Bool), e = .returned (.agg #[.int .i64 m, .slice (some ⟨g, 0, none⟩) h h]) ∧ 1 ≤ h ∧ h ≤ 6 ∧ 1 ≤ m ∧ m ≤ 6 ∧ w.heap.size ≤ g ∧ Blk w' g 3 (ints (img f h m)) ∧ w.grownBy w' (some b) ∧ Rdr w' lo b q ∧ q ≤ p + k

set_option maxHeartbeats 1000000 in
theorem l91Shape_c (lo b p : Nat) (cells : Int) (w : World) (h : Rdr w lo b p) (hp : p ≤ 900000) (hc : 1 ≤ cells) (hc2 : cells ≤ 100) :
    Calls Tryz.prog 113 #[.pointer (some ⟨b, 0, none⟩), .int .i64 cells] w (DrawnImage w lo b p 20) := by
  have hbz := h.lt
  go_enter Tryz.func113, Tryz.ntmps113
  go_wp2_with fail
  refine (pick_c lo b p _ _ (h.next (by (repeat (first | exact Below.refl _ _ | assumption | refine lo_alloc ?_ _ | refine lo_set ?_ (by simp; try omega) _ | refine Below.drew ?_ | refine below_drewN ?_ _ | refine lo_trans ?_ (by assumption) | refine lo_wr ?_ (by assumption) (by omega))))) (by omega)).mono ?_
  rintro e w1 ⟨x1, rfl, hx1, hg1, hr1⟩
  go_wp2_with fail
  refine (pick_c lo b (p + 1) _ _ hr1 (by omega)).mono ?_
  rintro e w2 ⟨x2, rfl, hx2, hg2, hr2⟩
  have hy1 := hx1 (by omega)
  have hy2 := hx2 (by omega)
  have hz1 : w.heap.size + 1 ≤ w1.heap.size := by have := hg1.size; simp at this; omega
  have hz2 : w.heap.size + 1 ≤ w2.heap.size := by have := hg2.size; omega
  have hG2 : w.grownBy w2 (some b) := grown_trans (grown_trans (grown_alloc _ _) hg1) hg2
  have hK2 : Blk w2 w.heap.size _ _ := ((Blk.new w 25 #[.int .i64 0, .slice none 0 0]).grown hg1 (by intro e; injection e; omega)).grown hg2 (by intro e; injection e; omega)
  clear hx1 hx2 hg1 hg2 hr1
  go_wp2
  go_loop [5, 6] (fun u v => ∃ a c : Nat, 1 ≤ a ∧ a ≤ 6 ∧ 1 ≤ c ∧ c ≤ 6 ∧ u = .int .i64 a ∧ v = .int .i64 c) (fun u v => (intOf u).toNat + (intOf v).toNat)
  case atStart => exact ⟨1 + x1, 1 + x2, by omega, by omega, by omega, by omega, by go_num, by go_num⟩
  case round =>
    obtain ⟨a, c, ha1, ha2, hc1, hc2, rfl, rfl⟩ := hrel
    have hm1 : a * c ≤ 6 * 6 := Nat.mul_le_mul ha2 hc2
    have hm2 : (a : Int) * c = ((a * c : Nat) : Int) := by simp
    have hm3 : (a : Int) * c ≤ 36 := by omega
    have hm4 : (0 : Int) ≤ (a : Int) * c := by omega
    have hm5 := Lib.hid hm2; clear hm2
    by_cases hgt : cells < (a : Int) * c
    · have hne : ¬ (a = 1 ∧ c = 1) := by rintro ⟨rfl, rfl⟩; simp at hgt; omega
      by_cases hac : c < a
      · go_wp2
        go_round
        case rel => exact ⟨a - 1, c, by omega, by omega, by omega, by omega, by go_num, rfl⟩
        case measure => simp [intOf]; omega
      · go_wp2
        go_round
        case rel => exact ⟨a, c - 1, by omega, by omega, by omega, by omega, rfl, by go_num⟩
        case measure => simp [intOf]; omega
    · go_wp2_with fail
      refine (l1Blank_c a c _ (by omega)).mono ?_
      rintro e w3 ⟨g, rfl, hb3, hk3, hg3, hg4⟩
      go_wp2
      obtain ⟨o, ho⟩ : ∃ o, o = w3.heap.size := ⟨_, rfl⟩
      have hO0 : Blk (w3.alloc (.cells #[.int .i64 c, .slice (some ⟨g, 0, none⟩) a a] 25)) o 25 #[.int .i64 c, .slice (some ⟨g, 0, none⟩) a a] := by rw [ho]; exact Blk.new _ _ _
      have hI0 := hk3.alloc (.cells #[.int .i64 c, .slice (some ⟨g, 0, none⟩) a a] 25)
      have hG3 : w.grownBy (w3.alloc (.cells #[.int .i64 c, .slice (some ⟨g, 0, none⟩) a a] 25)) (some b) := grown_trans (grown_trans hG2 (grown_of_below hb3 _)) (grown_alloc _ _)
      have hK3 : Blk (w3.alloc (.cells #[.int .i64 c, .slice (some ⟨g, 0, none⟩) a a] 25)) w.heap.size _ _ := (hK2.next hb3).alloc _
      have hR3 : Rdr (w3.alloc (.cells #[.int .i64 c, .slice (some ⟨g, 0, none⟩) a a] 25)) lo b (p + 2) := (hr2.next hb3).next (by (repeat (first | exact Below.refl _ _ | assumption | refine lo_alloc ?_ _ | refine lo_set ?_ (by simp; try omega) _ | refine Below.drew ?_ | refine below_drewN ?_ _ | refine lo_trans ?_ (by assumption) | refine lo_wr ?_ (by assumption) (by omega))))
      have hog : o ≠ g := by omega
      have hob : b < o := by omega
      have hgb : w.heap.size < g := by omega
      have hko : w.heap.size < o := by omega
      rw [← ho]
      have ho' := Lib.hid ho
      clear ho hG2 hK2 hr2 hb3 hk3 hm1 hm3 hm4 hgt
      obtain ⟨wo, rfl⟩ : ∃ wo : World, wo = w3 := ⟨_, rfl⟩
      go_loopw [8] (fun i wr => ∃ (k : Nat) (rs : List Nat), k ≤ a ∧ i = .int .i64 k ∧ Hid (rs.length = k) ∧ Hid (∀ x ∈ rs, x < 2 ^ c) ∧ Blk wr g 3 (ints (nats rs ++ List.replicate (a - k) 0)) ∧
          Blk wr o 25 #[.int .i64 c, .slice (some ⟨g, 0, none⟩) a a] ∧ Blk wr w.heap.size 25 #[.int .i64 0, .slice none 0 0] ∧ w.grownBy wr (some b) ∧ Rdr wr lo b (p + 2 + k)) (fun i _ => a - (intOf i).toNat)
      case atStart => exact ⟨0, [], Nat.zero_le _, rfl, Lib.hid rfl, Lib.hid (by simp), hI0, hO0, hK3, hG3, hR3⟩
      case round =>
        clear hO0 hI0 hG3 hK3 hR3
        obtain ⟨k, rs, hk, rfl, hl, hall, hI, hO, hK, hG, hR⟩ := hrel
        have hlI : (nats rs ++ List.replicate (a - k) 0).length = a := by rw [List.length_append, List.length_replicate]; simp only [nats, List.length_map]; have := hl.out; omega
        have hlI' := Lib.hid hlI; clear hlI
        by_cases hlt : k < a
        · have o1 := hO.cell 1
          have hpw := pow_int (j := c) hc2
          have hzz := hO.lt
          have hzg := hI.lt
          go_wp2
          go_region_held3 (fun w' => w'.cell? ⟨o, 1, none⟩ = some (.slice (some ⟨g, 0, none⟩) a a))
            (first
              | go_keep
              | exact ((hO.drew).grown hg5 (by intro e; injection e; omega)).cell 1
              | exact (((hO.drew).grown hg5 (by intro e; injection e; omega)).far (p := ⟨g, k, none⟩) hog _).cell 1)
            (first
              | (go_at_call 76; refine (l1Power_c _ _ (by omega) (by omega)).mono ?_; rintro e w' ⟨rfl, rfl⟩)
              | (go_at_call 75; refine (pick_c lo b (p + 2 + k) _ _ (hR.next (by (repeat (first | exact Below.refl _ _ | assumption | refine lo_alloc ?_ _ | refine lo_set ?_ (by simp; try omega) _ | refine Below.drew ?_ | refine below_drewN ?_ _ | refine lo_trans ?_ (by assumption) | refine lo_wr ?_ (by assumption) (by omega))))) (by omega)).mono ?_; rintro e w5 ⟨x5, rfl, hx5, hg5, hr5⟩; have hI5 := hI.drew.grown hg5 (by intro e; injection e; omega); have i5 := hI5.icell (k := k) (by rw [hlI'.out]; exact hlt); have f5 := hI5.frozen k))
          have hy5 : x5 < 2 ^ c := by
            have h5 := hx5 (by omega)
            have e : ((2 ^ c : Nat) : Int) = (2 : Int) ^ c := by simp
            omega
          have hI6 := Lib.hid (hI5.iset k (x5 : Int))
          have hst := Lib.hid (nats_step (x := x5) hl.out hlt)
          have hO6 := ((hO.drew).grown hg5 (by intro e; injection e; omega)).far (p := ⟨g, k, none⟩) hog (.int .i64 (x5 : Int))
          have hK6 := ((hK.drew).grown hg5 (by intro e; injection e; omega)).far (p := ⟨g, k, none⟩) (show w.heap.size ≠ g by omega) (.int .i64 (x5 : Int))
          have hG6 := grown_over (grown_trans (grown_trans hG (grown_drew _)) hg5) (grown_set (w := w5) (g := g) (k := k) (.int .i64 (x5 : Int))) (by rintro _ ⟨⟩; omega)
          have hR6 := hr5.grown (grown_set (w := w5) (g := g) (k := k) (.int .i64 (x5 : Int))) (by omega)
          clear o1 i5 f5 hI5 hx5 hpw hI hO hK hG hR hr5
          go_wp2
          go_roundw
          case rel => exact ⟨k + 1, rs ++ [x5], by omega, by go_num, Lib.hid (by simp [hl.out]), Lib.hid (by intro y hy; rcases List.mem_append.1 hy with h | h; exact hall.out y h; simp at h; subst h; exact hy5), by rw [← hst.out]; exact hI6.out, hO6, hK6, hG6, hR6⟩
          case measure => simp [intOf]; omega
        · have hka : k = a := by omega
          have hka' := Lib.hid hka
          have e0 : nats rs ++ List.replicate (a - k) 0 = nats rs := by rw [hka, Nat.sub_self]; simp
          rw [e0, nats_img (hl.out.trans hka) hall.out] at hI
          clear hlI' hka e0
          have o0 := hO.cell 0
          have o1 := hO.cell 1
          have r0 := hK.cell 0
          have r1 := hK.cell 1
          have f0 := hK.frozen 0
          have f1 := hK.frozen 1
          have hgr := grown_over (grown_over hG (grown_set (w := wr) (g := w.heap.size) (k := 0) (.int .i64 (c : Int))) (by rintro _ ⟨⟩; omega)) (grown_set (g := w.heap.size) (k := 1) (.slice (some ⟨g, 0, none⟩) a a)) (by rintro _ ⟨⟩; omega)
          have hRf := (hR.grown (grown_set (w := wr) (g := w.heap.size) (k := 0) (.int .i64 (c : Int))) (by omega)).grown (grown_set (g := w.heap.size) (k := 1) (.slice (some ⟨g, 0, none⟩) a a)) (by omega)
          have hIf := (hI.far (p := ⟨w.heap.size, 0, none⟩) (show g ≠ w.heap.size by omega) (.int .i64 (c : Int))).far (p := ⟨w.heap.size, 1, none⟩) (show g ≠ w.heap.size by omega) (.slice (some ⟨g, 0, none⟩) a a)
          go_wp2
          refine bodyPost_ret (v := .agg #[.int .i64 c, .slice (some ⟨g, 0, none⟩) a a]) (by simp [results, Tryz.results113, go_sem, r0, r1]) rfl ?_
          exact ⟨a, c, g, _, _, rfl, ha1, ha2, hc1, hc2, by omega, hIf, hgr, hRf, by omega⟩
end Go.Proofs.YtpeiolimdglmhaaGreatDoor

-- Walks: drawn images, the rest.
namespace Go.Proofs.YtpeiolimdglmhaaGreatDoor
open Go.RowKit
set_option maxRecDepth 100000

/-- rows of an image: so many, each in range -/
def Rws (h m : Nat) (rs : List Nat) : Prop := rs.length = h ∧ ∀ x ∈ rs, x < 2 ^ m
theorem Rws.of_img (f : Nat → Nat → Bool) (h m : Nat) : ∃ rs, img f h m = nats rs ∧ Rws h m rs :=
  ⟨_, img_nats f h m, by simp, by
    intro x hx
    obtain ⟨k, _, rfl⟩ := List.mem_map.1 hx
    exact mkRow_lt _ _⟩
theorem Rws.img {h m : Nat} {rs : List Nat} (hr : Rws h m rs) : ∃ f, nats rs = img f h m := ⟨_, nats_img hr.1 hr.2⟩
theorem Rws.set {h m : Nat} {rs : List Nat} (hr : Rws h m rs) (i : Nat) {y : Nat} (hy : y < 2 ^ m) : Rws h m (rs.set i y) :=
  ⟨by simp [hr.1], fun x hx => by
    rcases List.mem_or_eq_of_mem_set hx with h | rfl
    · exact hr.2 x h
    · exact hy⟩
theorem Rws.lt {h m : Nat} {rs : List Nat} (hr : Rws h m rs) {i : Nat} (hi : i < h) : rs[i]?.getD 0 < 2 ^ m := by
  have hl : i < rs.length := by rw [hr.1]; exact hi
  rw [List.getElem?_eq_getElem hl]
  exact hr.2 _ (List.getElem_mem hl)

/-- while rows are drawn: the image's cells, its rows, the result's cells, the reader -/
def NestInv (w wr : World) (lo b o g h m p : Nat) (rs : List Nat) : Prop :=
  Rws h m rs ∧ Blk wr g 3 (ints (nats rs)) ∧ Blk wr o 25 #[.int .i64 m, .slice (some ⟨g, 0, none⟩) h h] ∧ Blk wr w.heap.size 25 #[.int .i64 0, .slice none 0 0] ∧ w.grownBy wr (some b) ∧ Rdr wr lo b p
theorem NestInv.step {w wr w' : World} {lo b o g h m p : Nat} {rs rs' : List Nat} (hI : NestInv w wr lo b o g h m p rs) (hw : w.heap.size < g) (hb : b < w.heap.size) (hgo : g ≠ o)
    (hg : wr.grownBy w' (some g)) (hr : Rws h m rs') (hk : Blk w' g 3 (ints (nats rs'))) : NestInv w w' lo b o g h m p rs' :=
  ⟨hr, hk, hI.2.2.1.grown hg (by intro e; injection e; omega), hI.2.2.2.1.grown hg (by intro e; injection e; omega), grown_over hI.2.2.2.2.1 hg (by rintro _ ⟨⟩; omega), hI.2.2.2.2.2.grown hg (by omega)⟩
theorem NestInv.drew {w wr : World} {lo b o g h m p : Nat} {rs : List Nat} (hI : NestInv w wr lo b o g h m p rs) : NestInv w wr.drew lo b o g h m p rs :=
  ⟨hI.1, hI.2.1.drew, hI.2.2.1.drew, hI.2.2.2.1.drew, grown_trans hI.2.2.2.2.1 (grown_drew _), hI.2.2.2.2.2.next (Below.drew (Below.refl _ _))⟩

set_option maxHeartbeats 1000000 in
theorem l91Nested_c (lo b p : Nat) (cells : Int) (w : World) (h : Rdr w lo b p) (hp : p ≤ 800000) (hc : 1 ≤ cells) (hc2 : cells ≤ 100) :
    Calls Tryz.prog 112 #[.pointer (some ⟨b, 0, none⟩), .int .i64 cells] w (DrawnImage w lo b p 40) := by
  have hbz := h.lt
  go_enter Tryz.func112, Tryz.ntmps112
  go_wp2_with fail
  refine (l91Shape_c lo b p cells _ (h.next (by (repeat (first | exact Below.refl _ _ | assumption | refine lo_alloc ?_ _ | refine lo_set ?_ (by simp; try omega) _ | refine Below.drew ?_ | refine below_drewN ?_ _ | refine lo_trans ?_ (by assumption) | refine lo_wr ?_ (by assumption) (by omega))))) (by omega) hc hc2).mono ?_
  rintro e w1 ⟨a, m, g, q, f, rfl, ha1, ha2, hm1, hm2, hg, hk1, hg1, hr1, hq⟩
  have hz1 : w.heap.size + 1 ≤ w1.heap.size := by have := hg1.size; simp at this; omega
  obtain ⟨o, ho⟩ : ∃ o, o = w1.heap.size := ⟨_, rfl⟩
  obtain ⟨rs, hrs, hrr⟩ := Rws.of_img f a m
  rw [hrs] at hk1
  have hI0 : NestInv w (w1.alloc (.cells #[.int .i64 m, .slice (some ⟨g, 0, none⟩) a a] 25)) lo b o g a m q rs :=
    ⟨hrr, hk1.alloc _, by rw [ho]; exact Blk.new _ _ _, ((Blk.new w _ _).grown hg1 (by intro e; injection e; omega)).alloc _, grown_trans (grown_trans (grown_alloc _ _) hg1) (grown_alloc _ _), hr1.next (by (repeat (first | exact Below.refl _ _ | assumption | refine lo_alloc ?_ _ | refine lo_set ?_ (by simp; try omega) _ | refine Below.drew ?_ | refine below_drewN ?_ _ | refine lo_trans ?_ (by assumption) | refine lo_wr ?_ (by assumption) (by omega))))⟩
  have hgo : g < o := by rw [ho]; exact hk1.lt
  have hwg : w.heap.size < g := by simp at hg; omega
  have hgo' : g ≠ o := by omega
  clear hrs hrr hk1 hg1 hr1 hg
  go_wp2_with fail
  rw [← ho]
  have ho' := Lib.hid ho; clear ho
  obtain ⟨wz, hwz⟩ : ∃ wz, wz = w1.alloc (.cells #[.int .i64 m, .slice (some ⟨g, 0, none⟩) a a] 25) := ⟨_, rfl⟩
  rw [← hwz] at hI0 ⊢
  have hwz' := Lib.hid hwz; clear hwz
  refine (pick_c lo b q _ _ hI0.2.2.2.2.2 (by omega)).mono ?_
  rintro e w2 ⟨s, rfl, hs, hg2, hr2⟩
  have hsm := hs (by omega)
  have hI2 : NestInv w w2 lo b o g a m (q + 1) rs := ⟨hI0.1, hI0.2.1.grown hg2 (by intro e; injection e; omega), hI0.2.2.1.grown hg2 (by intro e; injection e; omega), hI0.2.2.2.1.grown hg2 (by intro e; injection e; omega), grown_trans hI0.2.2.2.2.1 hg2, hr2⟩
  clear hI0 hs hg2 hr2
  go_wp2
  go_loopw [7] (fun i wr => ∃ (k : Nat) (rs : List Nat), k ≤ a ∧ i = .int .i64 k ∧ NestInv w wr lo b o g a m (q + 1) rs) (fun i _ => a - (intOf i).toNat)
  case atStart => exact ⟨0, rs, Nat.zero_le _, rfl, hI2⟩
  case round =>
    clear hI2
    obtain ⟨k, rs, hk, rfl, hI⟩ := hrel
    obtain ⟨wo, rfl⟩ : ∃ wo : World, wo = wr := ⟨_, rfl⟩
    have o0 := hI.2.2.1.cell 0
    have o1 := hI.2.2.1.cell 1
    by_cases hlt : k < a
    · have hkl : k < rs.length := by rw [hI.1.1]; exact hlt
      have hz := hI.2.1.lt
      have ck := hI.2.1.icell (k := k) (by rw [nats_len]; exact hkl)
      rw [nats_get hkl] at ck
      have fk := hI.2.1.frozen k
      have hb6 : rs[k]?.getD 0 < 64 := by
        have h1 := hI.1.lt hlt
        have h2 := pow_le64 (j := m) hm2
        omega
      have hp0 : 0 < 2 ^ m := Nat.pow_pos (by omega)
      have hk0 : Blk (wo.setCell ⟨g, k, none⟩ (.int .i64 ((0 : Nat) : Int))) g 3 (ints (nats (rs.set k 0))) := by
        have h := hI.2.1.iset k ((0 : Nat) : Int)
        rwa [nats_set] at h
      have hI3 := hI.step hwg hbz hgo' (grown_set (w := wo) (g := g) (k := k) (.int .i64 ((0 : Nat) : Int))) (hI.1.set k hp0) hk0
      clear hk0 hp0 hI hkl
      generalize hx : rs[k]?.getD 0 = x at ck hb6
      have hx' := Lib.hid hx; clear hx
      go_wp2_with fail
      refine (l15Count_c _ _ hb6).mono ?_
      rintro e w4 ⟨n, rfl, hn, rfl⟩
      go_wp2
      go_loopw [9] (fun i wr => ∃ (j : Nat) (rs : List Nat), j ≤ n ∧ i = .int .i64 j ∧ NestInv w wr lo b o g a m (q + 1) rs) (fun i _ => n - (intOf i).toNat)
      case atStart => exact ⟨0, _, Nat.zero_le _, rfl, hI3⟩
      case round =>
        clear hI3 ck fk o0 o1 hx'
        obtain ⟨j, rs, hj, rfl, hI⟩ := hrel
        have o0 := hI.2.2.1.cell 0
        have o1 := hI.2.2.1.cell 1
        by_cases hlt2 : j < n
        · have e1 : IntKind.i64.wrap ((j : Int) + s) = (j : Int) + s := IntWalk.i64_in _ (by omega)
          have e2 : ((j : Int) + s).tmod m = (((j + s) % m : Nat) : Int) := by rw [Int.tmod_eq_emod_of_nonneg (by omega)]; simp
          have e3 : ¬ m = 0 := by omega
          have hym : (j + s) % m < m := Nat.mod_lt _ (by omega)
          generalize (j + s) % m = y at e2 hym
          have hxb := hI.1.lt hlt
          have hx64 := pow_le64 (j := m) hm2
          have hP := put_lt true hm2 hxb hym
          have hget := nats_get (rs := rs) (i := k) (by rw [hI.1.1]; exact hlt)
          have hget' := Lib.hid hget; clear hget
          have hI' := hI.drew
          generalize rs[k]?.getD 0 = x2 at hxb hP hget'
          go_wp2
          refine region_tail 8 (by kernel_rfl) (by kernel_rfl) ?_
          simp only [List.take_succ_cons, List.take_zero, List.drop_succ_cons, List.drop_zero]
          repeat still_step
          refine wpStill_nil ?_
          clear e1 e2 e3
          go_wp2_with fail
          refine (l1Put_c g a a k y x2 true (nats rs) m _ hI'.2.1 hlt (by rw [nats_len, hI.1.1]; exact hlt) (by omega) (by omega) hget'.out).mono ?_
          rintro _ w3 ⟨rfl, hk3, hg3⟩
          have hI4 := hI'.step hwg hbz hgo' hg3 (hI.1.set k hP) (by rw [← nats_set]; exact hk3)
          clear hk3 hg3 hI hI' o0 o1 hP hget'
          go_wp2
          go_roundw
          case rel => exact ⟨j + 1, _, by omega, by go_num, hI4⟩
          case measure => simp [intOf]; omega
        · go_wp2
          go_roundw
          case rel => exact ⟨k + 1, rs, by omega, by go_num, hI⟩
          case measure => simp [intOf]; omega
    · obtain ⟨f', hf'⟩ := hI.1.img
      have hB := hI.2.1
      rw [hf'] at hB
      have r0 := hI.2.2.2.1.cell 0
      have r1 := hI.2.2.2.1.cell 1
      have f0 := hI.2.2.2.1.frozen 0
      have f1 := hI.2.2.2.1.frozen 1
      have hgr := grown_over (grown_over hI.2.2.2.2.1 (grown_set (w := wo) (g := w.heap.size) (k := 0) (.int .i64 (m : Int))) (by rintro _ ⟨⟩; omega)) (grown_set (g := w.heap.size) (k := 1) (.slice (some ⟨g, 0, none⟩) a a)) (by rintro _ ⟨⟩; omega)
      have hRf := (hI.2.2.2.2.2.grown (grown_set (w := wo) (g := w.heap.size) (k := 0) (.int .i64 (m : Int))) (by omega)).grown (grown_set (g := w.heap.size) (k := 1) (.slice (some ⟨g, 0, none⟩) a a)) (by omega)
      have hIf := (hB.far (p := ⟨w.heap.size, 0, none⟩) (show g ≠ w.heap.size by omega) (.int .i64 (m : Int))).far (p := ⟨w.heap.size, 1, none⟩) (show g ≠ w.heap.size by omega) (.slice (some ⟨g, 0, none⟩) a a)
      clear hf' hB hI
      go_wp2
      refine bodyPost_ret (v := .agg #[.int .i64 m, .slice (some ⟨g, 0, none⟩) a a]) (by simp [results, Tryz.results112, go_sem, r0, r1]) rfl ?_
      exact ⟨a, m, g, _, _, rfl, ha1, ha2, hm1, hm2, by omega, hIf, hgr, hRf, by omega⟩

set_option maxHeartbeats 1000000 in
theorem l91Image_c (lo b p : Nat) (cells : Int) (w : World) (h : Rdr w lo b p) (hp : p ≤ 700000) (hc : 1 ≤ cells) (hc2 : cells ≤ 100) :
    Calls Tryz.prog 74 #[.pointer (some ⟨b, 0, none⟩), .int .i64 cells] w (DrawnImage w lo b p 60) := by
  have hbz := h.lt
  go_enter Tryz.func74, Tryz.ntmps74
  go_wp2_with fail
  refine (pick_c lo b p _ _ (h.next (by (repeat (first | exact Below.refl _ _ | assumption | refine lo_alloc ?_ _ | refine lo_set ?_ (by simp; try omega) _ | refine Below.drew ?_ | refine below_drewN ?_ _ | refine lo_trans ?_ (by assumption) | refine lo_wr ?_ (by assumption) (by omega))))) (by omega)).mono ?_
  rintro e w1 ⟨x1, rfl, hx1, hg1, hr1⟩
  have hK1 : Blk w1 w.heap.size _ _ := (Blk.new w 25 #[.int .i64 0, .slice none 0 0]).grown hg1 (by intro e; injection e; omega)
  have hz1 : w.heap.size + 1 ≤ w1.heap.size := by have := hg1.size; simp at this; omega
  clear hx1
  by_cases h0 : x1 = 0
  · have h0' : ((x1 : Int) == 0) = true := by simp; omega
    clear h0
    go_wp2_with fail
    refine (l91Nested_c lo b (p + 1) cells _ hr1 (by omega) hc hc2).mono ?_
    rintro e w2 ⟨a, m, g, q, f, rfl, ha1, ha2, hm1, hm2, hg, hk2, hg2, hr2, hq⟩
    have hK2 := hK1.grown hg2 (by intro e; injection e; omega)
    have r0 := hK2.cell 0
    have r1 := hK2.cell 1
    have f0 := hK2.frozen 0
    have f1 := hK2.frozen 1
    have hgr := grown_over (grown_over (grown_trans (grown_trans (grown_alloc _ _) hg1) hg2) (grown_set (w := w2) (g := w.heap.size) (k := 0) (.int .i64 (m : Int))) (by rintro _ ⟨⟩; omega)) (grown_set (g := w.heap.size) (k := 1) (.slice (some ⟨g, 0, none⟩) a a)) (by rintro _ ⟨⟩; omega)
    have hRf := (hr2.grown (grown_set (w := w2) (g := w.heap.size) (k := 0) (.int .i64 (m : Int))) (by omega)).grown (grown_set (g := w.heap.size) (k := 1) (.slice (some ⟨g, 0, none⟩) a a)) (by omega)
    have hIf := (hk2.far (p := ⟨w.heap.size, 0, none⟩) (show g ≠ w.heap.size by omega) (.int .i64 (m : Int))).far (p := ⟨w.heap.size, 1, none⟩) (show g ≠ w.heap.size by omega) (.slice (some ⟨g, 0, none⟩) a a)
    go_wp2
    refine bodyPost_ret (v := .agg #[.int .i64 m, .slice (some ⟨g, 0, none⟩) a a]) (by simp [results, Tryz.results74, go_sem, r0, r1]) rfl ?_
    exact ⟨a, m, g, _, _, rfl, ha1, ha2, hm1, hm2, by omega, hIf, hgr, hRf, by omega⟩
  · have h0' : ((x1 : Int) == 0) = false := by simp; omega
    clear h0
    go_wp2_with fail
    refine (l91Shape_c lo b (p + 1) cells _ hr1 (by omega) hc hc2).mono ?_
    rintro e w2 ⟨a, m, g, q, f, rfl, ha1, ha2, hm1, hm2, hg, hk2, hg2, hr2, hq⟩
    have hK2 := hK1.grown hg2 (by intro e; injection e; omega)
    have r0 := hK2.cell 0
    have r1 := hK2.cell 1
    have f0 := hK2.frozen 0
    have f1 := hK2.frozen 1
    have hgr := grown_over (grown_over (grown_trans (grown_trans (grown_alloc _ _) hg1) hg2) (grown_set (w := w2) (g := w.heap.size) (k := 0) (.int .i64 (m : Int))) (by rintro _ ⟨⟩; omega)) (grown_set (g := w.heap.size) (k := 1) (.slice (some ⟨g, 0, none⟩) a a)) (by rintro _ ⟨⟩; omega)
    have hRf := (hr2.grown (grown_set (w := w2) (g := w.heap.size) (k := 0) (.int .i64 (m : Int))) (by omega)).grown (grown_set (g := w.heap.size) (k := 1) (.slice (some ⟨g, 0, none⟩) a a)) (by omega)
    have hIf := (hk2.far (p := ⟨w.heap.size, 0, none⟩) (show g ≠ w.heap.size by omega) (.int .i64 (m : Int))).far (p := ⟨w.heap.size, 1, none⟩) (show g ≠ w.heap.size by omega) (.slice (some ⟨g, 0, none⟩) a a)
    go_wp2
    refine bodyPost_ret (v := .agg #[.int .i64 m, .slice (some ⟨g, 0, none⟩) a a]) (by simp [results, Tryz.results74, go_sem, r0, r1]) rfl ?_
    exact ⟨a, m, g, _, _, rfl, ha1, ha2, hm1, hm2, by omega, hIf, hgr, hRf, by omega⟩
end Go.Proofs.YtpeiolimdglmhaaGreatDoor

-- Walks: drawn images that may be invalid; drawn weights with an image.
namespace Go.Proofs.YtpeiolimdglmhaaGreatDoor
open Go.RowKit
set_option maxRecDepth 100000

/-- A drawn image, valid or not. -/
def DrawnAny (w : World) (lo b p k : Nat) (e : Ending) (w' : World) : Prop :=
  ∃ (W : Int) (A : Option Addr) (n c q : Nat) (xs : List Int), e = .returned (.agg #[.int .i64 W, .slice A n c]) ∧ 0 ≤ W ∧ W ≤ 7 ∧ n ≤ 6 ∧ Own w' w.heap.size A n xs ∧ w.grownBy w' (some b) ∧ Rdr w' lo b q ∧ q ≤ p + k

/-- the end of a function that returns an image through its result's cells -/
theorem ret_cells {w wr : World} {lo b p : Nat} {v0 v1 : Value} (hK : Blk wr w.heap.size 25 #[v0, v1]) (hG : w.grownBy wr (some b)) (hR : Rdr wr lo b p) (hb : b < w.heap.size) (u0 u1 : Value) :
    (((wr.setCell ⟨w.heap.size, 0, none⟩ u0).setCell ⟨w.heap.size, 1, none⟩ u1).cell? ⟨w.heap.size, 0, none⟩ = some u0) ∧ (((wr.setCell ⟨w.heap.size, 0, none⟩ u0).setCell ⟨w.heap.size, 1, none⟩ u1).cell? ⟨w.heap.size, 1, none⟩ = some u1) ∧
    w.grownBy ((wr.setCell ⟨w.heap.size, 0, none⟩ u0).setCell ⟨w.heap.size, 1, none⟩ u1) (some b) ∧ Rdr ((wr.setCell ⟨w.heap.size, 0, none⟩ u0).setCell ⟨w.heap.size, 1, none⟩ u1) lo b p := by
  have h := (hK.set_ 0 u0).set_ 1 u1
  refine ⟨by rw [h.cell]; rfl, by rw [h.cell]; rfl, ?_, ?_⟩
  · exact grown_over (grown_over hG (grown_set _) (by rintro _ ⟨⟩; omega)) (grown_set _) (by rintro _ ⟨⟩; omega)
  · exact (hR.grown (grown_set _) (by omega)).grown (grown_set _) (by omega)

set_option maxHeartbeats 2000000 in
theorem l91Wrong_c (lo b p : Nat) (cells : Int) (w : World) (h : Rdr w lo b p) (hp : p ≤ 600000) (hc : 1 ≤ cells) (hc2 : cells ≤ 100) :
    Calls Tryz.prog 35 #[.pointer (some ⟨b, 0, none⟩), .int .i64 cells] w (DrawnAny w lo b p 70) := by
  have hbz := h.lt
  go_enter Tryz.func35, Tryz.ntmps35
  go_wp2_with fail
  refine (l91Image_c lo b p cells _ (h.next (by (repeat (first | exact Below.refl _ _ | assumption | refine lo_alloc ?_ _ | refine lo_set ?_ (by simp; try omega) _ | refine Below.drew ?_ | refine below_drewN ?_ _ | refine lo_trans ?_ (by assumption) | refine lo_wr ?_ (by assumption) (by omega))))) (by omega) hc hc2).mono ?_
  rintro e w1 ⟨a, m, g, q, f, rfl, ha1, ha2, hm1, hm2, hg, hk1, hg1, hr1, hq⟩
  have hK1 : Blk w1 w.heap.size _ _ := (Blk.new w 25 #[.int .i64 0, .slice none 0 0]).grown hg1 (by intro e; injection e; omega)
  have hz1 : w.heap.size + 1 ≤ w1.heap.size := by have := hg1.size; simp at this; omega
  have hgw : w.heap.size < g := by simp at hg; omega
  obtain ⟨o, ho⟩ : ∃ o, o = w1.heap.size := ⟨_, rfl⟩
  have hgo : g < o := by rw [ho]; exact hk1.lt
  obtain ⟨wz, hwz⟩ : ∃ wz, wz = w1.alloc (.cells #[.int .i64 m, .slice (some ⟨g, 0, none⟩) a a] 25) := ⟨_, rfl⟩
  have hO : Blk wz o 25 #[.int .i64 m, .slice (some ⟨g, 0, none⟩) a a] := by rw [hwz, ho]; exact Blk.new _ _ _
  have hI : Blk wz g 3 (ints (img f a m)) := by rw [hwz]; exact hk1.alloc _
  have hK : Blk wz w.heap.size 25 #[.int .i64 0, .slice none 0 0] := by rw [hwz]; exact hK1.alloc _
  have hG : w.grownBy wz (some b) := by rw [hwz]; exact grown_trans (grown_trans (grown_alloc _ _) hg1) (grown_alloc _ _)
  have hR : Rdr wz lo b q := by rw [hwz]; exact hr1.next (by (repeat (first | exact Below.refl _ _ | assumption | refine lo_alloc ?_ _ | refine lo_set ?_ (by simp; try omega) _ | refine Below.drew ?_ | refine below_drewN ?_ _ | refine lo_trans ?_ (by assumption) | refine lo_wr ?_ (by assumption) (by omega))))
  clear hg hk1 hg1 hr1 hK1
  go_wp2_with fail
  rw [← ho, ← hwz]
  have ho' := Lib.hid ho; clear ho
  have hwz' := Lib.hid hwz; clear hwz
  refine (pick_c lo b q _ _ hR (by omega)).mono ?_
  rintro e w2 ⟨x, rfl, hx, hg2, hr2⟩
  have hO2 := hO.grown hg2 (by intro e; injection e; omega)
  have hI2 := hI.grown hg2 (by intro e; injection e; omega)
  have hK2 := hK.grown hg2 (by intro e; injection e; omega)
  have hG2 := grown_trans hG hg2
  clear hO hI hK hG hR hg2 hx
  have o0 := hO2.cell 0
  have o1 := hO2.cell 1
  have p0 := hO2.frozen 0
  have p1 := hO2.frozen 1
  have r0 := hK2.cell 0
  have r1 := hK2.cell 1
  have f0 := hK2.frozen 0
  have f1 := hK2.frozen 1
  have hzo := hO2.lt
  have hzg := hI2.lt
  have hn0 : 0 < a := by omega
  by_cases x0 : x = 0
  · have x0' : ((x : Int) == 0) = true := by simp; omega
    clear x0
    have i0 := hI2.icell (k := 0) (by rw [img_len]; omega)
    have j0 := hI2.frozen 0
    have hpw := pow_int (j := m) (by omega)
    have hm60 : (m : Int) ≤ 60 := by omega
    have hm00 : (0 : Int) ≤ m := by omega
    have hI3 := hI2.iset 0 ((2 : Int) ^ m)
    have hK3 := hK2.far (p := ⟨g, 0, none⟩) (show w.heap.size ≠ g by omega) (.int .i64 ((2 : Int) ^ m))
    have hG3 := grown_over hG2 (grown_set (w := w2) (g := g) (k := 0) (.int .i64 ((2 : Int) ^ m))) (by rintro _ ⟨⟩; omega)
    have hR3 := hr2.grown (grown_set (w := w2) (g := g) (k := 0) (.int .i64 ((2 : Int) ^ m))) (by omega)
    have hO3 := hO2.far (p := ⟨g, 0, none⟩) (show o ≠ g by omega) (.int .i64 ((2 : Int) ^ m))
    obtain ⟨s0, s1, hG4, hR4⟩ := ret_cells hK3 hG3 hR3 hbz (.int .i64 m) (.slice (some ⟨g, 0, none⟩) a a)
    have hIf := Own.of_blk (lo := g) hI3 (Nat.le_refl _) (n := a) (by simp [img_len])
    have o0' := hO3.drew.cell 0
    have o1' := hO3.drew.cell 1
    have q0 := hK3.drew.cell 0
    have q1 := hK3.drew.cell 1
    have s0' := Lib.hid s0; have s1' := Lib.hid s1; clear s0 s1
    go_wp2
    refine region_tail 6 (by kernel_rfl) (by kernel_rfl) ?_
    simp only [List.take_succ_cons, List.take_zero, List.drop_succ_cons, List.drop_zero]
    repeat still_step
    still_call (still_of (l1Power_c _ _ hm00 hm60))
    repeat still_step
    refine wpStill_nil ?_
    go_wp2
    refine bodyPost_ret (v := .agg #[.int .i64 m, .slice (some ⟨g, 0, none⟩) a a]) (by simp [results, Tryz.results35, go_sem, s0'.out, s1'.out]) rfl ?_
    exact ⟨m, _, a, a, _, _, rfl, by omega, by omega, by omega, (((hIf.far_lo (p := ⟨w.heap.size, 0, none⟩) hgw _).far_lo (p := ⟨w.heap.size, 1, none⟩) hgw _).drew).mono (by omega), grown_trans hG4 (grown_drew _), hR4.next (Below.drew (Below.refl _ _)), by omega⟩
  have x0' : ((x : Int) == 0) = false := by simp; omega
  by_cases x1 : x = 1
  · have x1' : ((x : Int) == 1) = true := by simp; omega
    clear x0 x1
    have hn2 := (Below.refl w2.heap.size w2).alloc (Nat.le_refl _) (.cells #[.int .i64 0, .int .i64 7] 3)
    go_wp2_with fail
    refine (pick_c lo b _ _ _ (hr2.next hn2) (by omega)).mono ?_
    rintro e w4 ⟨x6, rfl, hx6, hg4, hr4⟩
    have hy6 := hx6 (by omega)
    have hO4 := (hO2.next hn2).grown hg4 (by intro e; injection e; omega)
    have hI4 := (hI2.next hn2).grown hg4 (by intro e; injection e; omega)
    have hK4 := (hK2.next hn2).grown hg4 (by intro e; injection e; omega)
    have hG4 := grown_trans (grown_trans hG2 (grown_alloc (.cells #[.int .i64 0, .int .i64 7] 3) _)) hg4
    have hk6 := (Blk.new w2 3 #[.int .i64 0, .int .i64 7]).grown hg4 (by intro e; injection e; omega)
    have ck := hk6.cell x6
    have hck : ∃ y : Int, 0 ≤ y ∧ y ≤ 7 ∧ (#[Value.int .i64 0, Value.int .i64 7] : Array Value)[x6]? = some (.int .i64 y) := by
      rcases (show x6 = 0 ∨ x6 = 1 by omega) with rfl | rfl
      · exact ⟨0, by omega, by omega, rfl⟩
      · exact ⟨7, by omega, by omega, rfl⟩
    obtain ⟨y, hy0, hy7, hy⟩ := hck
    rw [hy] at ck
    clear hy hk6 hx6 o0 o1 p0 p1 r0 r1 f0 f1 hO2 hI2 hK2 hG2 hr2
    have hK3 := hK4.far (p := ⟨o, 0, none⟩) (show w.heap.size ≠ o by omega) (.int .i64 y)
    have hG3 := grown_over hG4 (grown_set (w := w4) (g := o) (k := 0) (.int .i64 y)) (by rintro _ ⟨⟩; omega)
    have hR3 := hr4.grown (grown_set (g := o) (k := 0) (.int .i64 y)) (by omega)
    have hO3 := hO4.set_ 0 (.int .i64 y)
    obtain ⟨s0, s1, hG5, hR5⟩ := ret_cells hK3 hG3 hR3 hbz (.int .i64 y) (.slice (some ⟨g, 0, none⟩) a a)
    have hIf := (Own.of_blk (lo := g) hI4 (Nat.le_refl _) (n := a) (img_len _ _ _)).far (p := ⟨o, 0, none⟩) (by rintro _ ⟨⟩; simp; omega) (.int .i64 y)
    have s0' := Lib.hid s0; have s1' := Lib.hid s1; clear s0 s1
    have o0 := hO4.cell 0
    have o1 := hO4.cell 1
    have p0 := hO4.frozen 0
    have o0' := hO3.cell 0
    have o1' := hO3.cell 1
    have q0 := hK3.cell 0
    have q1 := hK3.cell 1
    have y0 := hK4.frozen 0
    have y1 := hK4.frozen 1
    have hne : ¬ o = w.heap.size := by omega
    go_wp2
    refine bodyPost_ret (v := .agg #[.int .i64 y, .slice (some ⟨g, 0, none⟩) a a]) (by simp [results, Tryz.results35, go_sem, s0'.out, s1'.out]) rfl ?_
    exact ⟨y, _, a, a, _, _, rfl, hy0, hy7, by omega, ((hIf.far_lo (p := ⟨w.heap.size, 0, none⟩) hgw _).far_lo (p := ⟨w.heap.size, 1, none⟩) hgw _).mono (by omega), hG5, hR5, by omega⟩
  have x1' : ((x : Int) == 1) = false := by simp; omega
  by_cases x2 : x = 2
  · have x2' : ((x : Int) == 2) = true := by simp; omega
    clear x0 x1 x2
    have hwo : w.heap.size < o := by omega
    have hK3 := (hK2.far (p := ⟨o, 1, none⟩) (show w.heap.size ≠ o by omega) (.slice (some ⟨w2.heap.size, 0, none⟩) 0 0)).alloc (.cells #[] 3)
    have hG3 := grown_trans (grown_over hG2 (grown_set (w := w2) (g := o) (k := 1) (.slice (some ⟨w2.heap.size, 0, none⟩) 0 0)) (by rintro _ ⟨⟩; omega)) (grown_alloc (.cells #[] 3) _)
    have hR3 := (hr2.grown (grown_set (g := o) (k := 1) (.slice (some ⟨w2.heap.size, 0, none⟩) 0 0)) (by omega)).next ((Below.refl _ _).alloc (Nat.le_refl _) (.cells #[] 3))
    have hO3 := (hO2.set_ 1 (.slice (some ⟨w2.heap.size, 0, none⟩) 0 0)).alloc (.cells #[] 3)
    have ⟨s0, s1, hG4, hR4⟩ := ret_cells hK3 hG3 hR3 hbz (.int .i64 m) (.slice (some ⟨w2.heap.size, 0, none⟩) 0 0)
    have s0' := Lib.hid s0; have s1' := Lib.hid s1; clear s0 s1
    have o0' := hO3.cell 0
    have q0 := hK3.cell 0
    have q1 := hK3.cell 1
    have y0 := hK3.frozen 0
    have y1 := hK3.frozen 1
    have hne : ¬ o = w.heap.size := by omega
    go_wp2
    refine bodyPost_ret (v := .agg #[.int .i64 m, .slice (some ⟨w2.heap.size, 0, none⟩) 0 0]) (by simp [results, Tryz.results35, go_sem, s0'.out, s1'.out]) rfl ?_
    exact ⟨m, _, 0, 0, _, [], rfl, by omega, by omega, by omega, Own.nil_ _ _ _, hG4, hR4, by omega⟩
  have x2' : ((x : Int) == 2) = false := by simp; omega
  by_cases x3 : x = 3
  · have x3' : ((x : Int) == 3) = true := by simp; omega
    clear x0 x1 x2 x3
    have i0 := hI2.icell (k := 0) (by rw [img_len]; omega)
    have j0 := hI2.frozen 0
    have hI3 := (hI2.iset 0 (-1))
    have hK3 := hK2.far (p := ⟨g, 0, none⟩) (show w.heap.size ≠ g by omega) (.int .i64 (-1))
    have hG3 := grown_over hG2 (grown_set (w := w2) (g := g) (k := 0) (.int .i64 (-1))) (by rintro _ ⟨⟩; omega)
    have hR3 := hr2.grown (grown_set (w := w2) (g := g) (k := 0) (.int .i64 (-1))) (by omega)
    have hO3 := hO2.far (p := ⟨g, 0, none⟩) (show o ≠ g by omega) (.int .i64 (-1))
    obtain ⟨s0, s1, hG4, hR4⟩ := ret_cells hK3 hG3 hR3 hbz (.int .i64 m) (.slice (some ⟨g, 0, none⟩) a a)
    have hIf := Own.of_blk (lo := g) (n := a) hI3 (Nat.le_refl _) (by simp [img_len])
    have o0' := hO3.cell 0
    have o1' := hO3.cell 1
    have q0 := hK3.cell 0
    have q1 := hK3.cell 1
    have s0' := Lib.hid s0; have s1' := Lib.hid s1; clear s0 s1
    go_wp2
    refine bodyPost_ret (v := .agg #[.int .i64 m, .slice (some ⟨g, 0, none⟩) a a]) (by simp [results, Tryz.results35, go_sem, s0'.out, s1'.out]) rfl ?_
    exact ⟨m, _, a, a, _, _, rfl, by omega, by omega, by omega, ((hIf.far_lo (p := ⟨w.heap.size, 0, none⟩) hgw _).far_lo (p := ⟨w.heap.size, 1, none⟩) hgw _).mono (by omega), hG4, hR4, by omega⟩
  have x3' : ((x : Int) == 3) = false := by simp; omega
  clear x0 x1 x2 x3
  obtain ⟨s0, s1, hG4, hR4⟩ := ret_cells hK2 hG2 hr2 hbz (.int .i64 m) (.slice (some ⟨g, 0, none⟩) a a)
  have hIf := Own.of_blk (lo := g) hI2 (Nat.le_refl _) (img_len _ _ _)
  have s0' := Lib.hid s0; have s1' := Lib.hid s1; clear s0 s1
  go_wp2
  refine bodyPost_ret (v := .agg #[.int .i64 m, .slice (some ⟨g, 0, none⟩) a a]) (by simp [results, Tryz.results35, go_sem, r0, r1]) rfl ?_
  exact ⟨m, _, a, a, _, _, rfl, by omega, by omega, by omega, ((hIf.far_lo (p := ⟨w.heap.size, 0, none⟩) hgw _).far_lo (p := ⟨w.heap.size, 1, none⟩) hgw _).mono (by omega), hG4, hR4, by omega⟩
end Go.Proofs.YtpeiolimdglmhaaGreatDoor

-- Walks: drawn weights with an image.
namespace Go.Proofs.YtpeiolimdglmhaaGreatDoor
open Go.RowKit
set_option maxRecDepth 100000

theorem Own.cellAt {w : World} {lo g n k : Nat} {xs : List Int} (h : Own w lo (some ⟨g, 0, none⟩) n xs) (hk : k < n) : w.cell? ⟨g, k, none⟩ = some (.int .i64 (xs[k]?.getD 0)) := by
  obtain ⟨g', e, _, _, hc, _⟩ := h.at_ hk
  cases e
  exact hc
theorem Own.ltAt {w : World} {lo g n k : Nat} {xs : List Int} (h : Own w lo (some ⟨g, 0, none⟩) n xs) (hk : k < n) : g < w.heap.size := by
  obtain ⟨g', e, _, hl, _⟩ := h.at_ hk
  cases e
  exact hl

def DrawnFit (w : World) (e : Ending) (w' : World) : Prop :=
  ∃ (W : Int) (A : Option Addr) (n c : Nat) (P : Option Addr) (l a : Nat) (Q : Option Addr) (m d : Nat) (xs p q : List Int), e = .returned (.tuple #[.agg #[.int .i64 W, .slice A n c], .slice P l a, .slice Q m d]) ∧ n ≤ 6 ∧ l ≤ 6 ∧ m ≤ 6 ∧
    Own w' w.heap.size A n xs ∧ Own w' w.heap.size P l p ∧ Own w' w.heap.size Q m q ∧ Below w.heap.size w w'

theorem fin_cells {w wr : World} {v0 v1 : Value} (hK : Blk wr w.heap.size 25 #[v0, v1]) (hB : Below w.heap.size w wr) (u0 u1 : Value) :
    (((wr.setCell ⟨w.heap.size, 0, none⟩ u0).setCell ⟨w.heap.size, 1, none⟩ u1).cell? ⟨w.heap.size, 0, none⟩ = some u0) ∧ (((wr.setCell ⟨w.heap.size, 0, none⟩ u0).setCell ⟨w.heap.size, 1, none⟩ u1).cell? ⟨w.heap.size, 1, none⟩ = some u1) ∧
    Below w.heap.size w ((wr.setCell ⟨w.heap.size, 0, none⟩ u0).setCell ⟨w.heap.size, 1, none⟩ u1) := by
  have h := (hK.set_ 0 u0).set_ 1 u1
  exact ⟨by rw [h.cell]; rfl, by rw [h.cell]; rfl, (hB.setCell (by simp) _).setCell (by simp) _⟩

end Go.Proofs.YtpeiolimdglmhaaGreatDoor

-- Walks: drawn images of the laws on neighbors; images compared.
namespace Go.Proofs.YtpeiolimdglmhaaGreatDoor
open Go.RowKit
set_option maxRecDepth 100000

/-- A drawn image in new memory. -/
def DrawnImg (w : World) (e : Ending) (w' : World) : Prop :=
  ∃ (W : Int) (A : Option Addr) (n c : Nat) (xs : List Int), e = .returned (.agg #[.int .i64 W, .slice A n c]) ∧ n ≤ 6 ∧ Own w' w.heap.size A n xs ∧ Below w.heap.size w w'

set_option maxHeartbeats 1000000 in
theorem lsameImage_c (W V : Int) (A B : Option Addr) (n m c d : Nat) (xs ys : List Int) (w : World) (hr : Rd w A n xs) (hs : Rd w B m ys) (hn : n ≤ 1073741824) :
    Calls Tryz.prog 31 #[.agg #[.int .i64 W, .slice A n c], .agg #[.int .i64 V, .slice B m d]] w fun e w' => e = .returned (.bool (decide (W = V) && decide (xs = ys))) ∧ Below w.heap.size w w' := by
  by_cases h : W = V
  · have h' : (W == V) = true := beq_iff_eq.2 h
    have hh := Lib.hid h; clear h
    go_enter Tryz.func31, Tryz.ntmps31
    go_wp2_with fail
    refine (sameInts_c _ _ _ _ _ _ xs ys _ ((hr.alloc _).alloc _) ((hs.alloc _).alloc _) hn).mono ?_
    rintro e w1 ⟨rfl, hb⟩
    go_wp2
    go_ret
    exact ⟨ret_bool (by rw [hh.out]; simp), by (repeat (first | exact Below.refl _ _ | assumption | refine lo_alloc ?_ _ | refine lo_set ?_ (by simp; try omega) _ | refine Below.drew ?_ | refine below_drewN ?_ _ | refine lo_trans ?_ (by assumption) | refine lo_wr ?_ (by assumption) (by omega)))⟩
  · have h' : (W == V) = false := beq_eq_false_iff_ne.2 h
    have hh := Lib.hid h; clear h
    go_enter Tryz.func31, Tryz.ntmps31
    go_wp2
    go_ret
    exact ⟨ret_bool (by simp [hh.out]), by (repeat (first | exact Below.refl _ _ | assumption | refine lo_alloc ?_ _ | refine lo_set ?_ (by simp; try omega) _ | refine Below.drew ?_ | refine below_drewN ?_ _ | refine lo_trans ?_ (by assumption) | refine lo_wr ?_ (by assumption) (by omega)))⟩
end Go.Proofs.YtpeiolimdglmhaaGreatDoor
