/- Plain facts and walks that the law's proof uses; each says its own conditions. -/
import Derived.Test.YtpeiolimdglmhaaGreatDoorZ10
import Derived.Test.YtpeiolimdglmhaaGreatDoorZ01
import Derived.Deep.RegionHeld3
import Derived.Deep.QuietTactic
import Derived.BigQuiet
-- Walks: insertion sort by a comparison that is handed in.
namespace Go.Proofs.YtpeiolimdglmhaaGreatDoor
open Go.RowKit
set_option maxRecDepth 100000

/-- the comparison answers cf in every world that Kp keeps -/
structure Cmp (F : Nat) (cap : Array Value) (cf : Int → Int → Int) (ok : Int → Prop) (g : Nat) (Kp : World → Prop) : Prop where
  ent : ∀ args w, (callFunc F args).run Tryz.prog w = .ok (.enter F args) w
  next : ∀ {W W' : World}, Kp W → Below W.heap.size W W' → Kp W'
  set_ : ∀ {W : World} (i : Nat) (v : Value), Kp W → Kp (W.setCell ⟨g, i, none⟩ v)
  call : ∀ {W : World} {x y : Int}, Kp W → ok x → ok y → Calls Tryz.prog F (#[.int .i64 x, .int .i64 y] ++ cap) W fun e w' => e = .returned (.int .i64 (cf x y)) ∧ Below W.heap.size W w'
def ltC (cf : Int → Int → Int) (x y : Int) : Bool := decide (cf x y < 0)

theorem Own.cellSet' {w : World} {lo g n k : Nat} {xs : List Int} (h : Own w lo (some ⟨g, 0, none⟩) n xs) (hk : k < n) : lo ≤ g ∧ g < w.heap.size ∧ w.cell? ⟨g, k, none⟩ = some (.int .i64 (xs[k]?.getD 0)) ∧ w.frozen? ⟨g, k, none⟩ = false ∧
    ∀ y, Own (w.setCell ⟨g, k, none⟩ (.int .i64 y)) lo (some ⟨g, 0, none⟩) n (xs.set k y) := by
  obtain ⟨g', e, h1, h2, h3, h4, h5⟩ := h.at_ hk
  cases e
  exact ⟨h1, h2, h3, h4, h5⟩
/-- the row amid the sort -/
structure SI (w wr : World) (lo g n : Nat) (Kp : World → Prop) (xs : List Int) : Prop where
  ow : Own wr lo (some ⟨g, 0, none⟩) n xs
  gr : w.grownBy wr (some g)
  kp : Kp wr
theorem SI.next {w wr w2 : World} {lo g n F : Nat} {cap : Array Value} {cf : Int → Int → Int} {ok : Int → Prop} {Kp : World → Prop} {xs : List Int} (hC : Cmp F cap cf ok g Kp) (h : SI w wr lo g n Kp xs) (hb : Below wr.heap.size wr w2) : SI w w2 lo g n Kp xs :=
  ⟨h.ow.next hb, grown_trans h.gr (grown_of_below hb _), hC.next h.kp hb⟩

set_option maxHeartbeats 8000000 in
theorem insertion_c (F : Nat) (cap : Array Value) (cf : Int → Int → Int) (ok : Int → Prop) (lo g n c : Nat) (Kp : World → Prop) (xs : List Int) (w : World) (hC : Cmp F cap cf ok g Kp) (ho : Own w lo (some ⟨g, 0, none⟩) n xs) (hk : Kp w) (hn : n ≤ 1000) (hok : ∀ x ∈ xs, ok x) :
    Calls Tryz.prog 169 #[.slice (some ⟨g, 0, none⟩) n c, .int .i64 0, .int .i64 n, .func (.func F) #[] cap] w fun e w' => e = .returned (.tuple #[]) ∧ SI w w' lo g n Kp (isort (ltC cf) xs) := by
  have hC' := Lib.hid hC; clear hC
  have hok' := Lib.hid hok; clear hok
  have hxl := Lib.hid ho.1
  have h0 : SI w w lo g n Kp xs := ⟨ho, World.grownBy.refl _ _, hk⟩
  clear ho hk
  go_enter Tryz.func169, Tryz.ntmps169
  go_wp2
  go_loopw [8] (fun i wr => ∃ k : Nat, (k ≤ n ∨ k = 1) ∧ 1 ≤ k ∧ i = .int .i64 k ∧ Hid (SI w wr lo g n Kp ((isr (ltC cf) (xs.take k)).reverse ++ xs.drop k))) (fun i _ => n + 1 - (intOf i).toNat)
  case atStart =>
    refine ⟨1, .inr rfl, Nat.le_refl _, rfl, Lib.hid ?_⟩
    have e : (isr (ltC cf) (xs.take 1)).reverse ++ xs.drop 1 = xs := by cases xs <;> rfl
    rw [e]
    exact h0
  case round =>
    clear h0
    obtain ⟨k, hk, hk1, rfl, hI⟩ := hrel
    by_cases hlt : k < n
    · obtain ⟨r, hr⟩ : ∃ r, r = isr (ltC cf) (xs.take k) := ⟨_, rfl⟩
      obtain ⟨x, hx⟩ : ∃ x, xs[k]? = some x := ⟨_, List.getElem?_eq_getElem (by rw [hxl.out]; exact hlt)⟩
      have hrl : r.length = k := by rw [hr, isr_len, List.length_take, hxl.out]; omega
      have hrok : Hid (∀ y ∈ r, ok y) := Lib.hid (fun y hy => hok'.out y (List.mem_of_mem_take ((isr_perm _ _).mem_iff.1 (hr ▸ hy))))
      have hxok := Lib.hid (hok'.out x (List.mem_of_getElem? hx))
      have hI0 : Hid (SI w wr lo g n Kp (sAt r x (xs.drop (k + 1)) 0)) := Lib.hid (by
        have h1 := hI.out
        rw [← hr] at h1
        rw [sAt_zero]
        obtain ⟨h2, h3⟩ := List.getElem?_eq_some_iff.1 hx
        rw [List.drop_eq_getElem_cons h2, h3] at h1
        exact h1)
      obtain ⟨rest, hrest⟩ : ∃ rest, rest = xs.drop (k + 1) := ⟨_, rfl⟩
      rw [← hrest] at hI0
      have hN : Hid ((isr (ltC cf) (xs.take (k + 1))).reverse ++ xs.drop (k + 1) = (bub (ltC cf) x r).reverse ++ rest) := Lib.hid (by
        have : xs.take (k + 1) = xs.take k ++ [x] := by
          obtain ⟨h1, h2⟩ := List.getElem?_eq_some_iff.1 hx
          rw [List.take_succ_eq_append_getElem h1, h2]
        rw [this, isr_snoc, hr, hrest])
      clear hI hr hx
      have hrl' := Lib.hid hrl
      have hlr : rest.length + k + 1 = n := by rw [hrest, List.length_drop, hxl.out]; omega
      clear hrest hrl
      go_wp2
      go_loopw [9] (fun v wr => ∃ d j : Nat, d + j ≤ k ∧ k ≤ d + j ∧ v = .int .i64 (j : Int) ∧ Hid (SI w wr lo g n Kp (sAt r x rest d)) ∧ Hid (∀ i y, i < d → r[i]? = some y → ltC cf x y = true)) (fun v _ => (intOf v).toNat)
      case atStart => exact ⟨0, k, by omega, by omega, rfl, hI0, Lib.hid (fun i y h => absurd h (by omega))⟩
      case round =>
        clear hI0
        obtain ⟨d, j, hd1, hd2, rfl, hI, hall⟩ := hrel
        rcases Nat.eq_zero_or_pos j with h0 | h0
        · obtain rfl : d = k := by omega
          subst h0
          have hB := Lib.hid (bub_at (ltC cf) x r d (by rw [hrl'.out]; exact Nat.le_refl _) (fun i y hi hy => hall.out i y hi hy) (fun y hy => by rw [List.getElem?_eq_none (by rw [hrl'.out]; exact Nat.le_refl _)] at hy; cases hy))
          have hI2 : Hid (SI w wr lo g n Kp ((isr (ltC cf) (xs.take (d + 1))).reverse ++ xs.drop (d + 1))) := Lib.hid (by rw [hN.out, ← sAt_end rest hB.out]; exact hI.out)
          clear hI
          go_wp2
          go_quiet (fail)
          have hI3 : ∀ q, Hid (SI w (wr.drewN q) lo g n Kp ((isr (ltC cf) (xs.take (d + 1))).reverse ++ xs.drop (d + 1))) := fun q => Lib.hid (hI2.out.next hC'.out (below_drewN (Below.refl wr.heap.size wr) q))
          clear hI2
          go_wp2
          go_roundw
          case rel => exact ⟨d + 1, by omega, by omega, by go_num, hI3 _⟩
          case measure => simp [intOf]; omega
        · obtain ⟨p, rfl⟩ : ∃ p, j = p + 1 := ⟨j - 1, by omega⟩
          have hdr : d < r.length := by rw [hrl'.out]; omega
          obtain ⟨y, hy⟩ : ∃ y, r[d]? = some y := ⟨_, List.getElem?_eq_getElem hdr⟩
          have hyr : r[d] = y := by rw [List.getElem?_eq_getElem hdr] at hy; injection hy
          have hy' := Lib.hid hy
          have hyr' := Lib.hid hyr
          have hyok := Lib.hid (hrok.out y (List.mem_of_getElem? hy))
          have ex := Lib.hid (show r.length - d = p + 1 by rw [hrl'.out]; omega)
          have vx := sAt_x r x rest (Nat.le_of_lt hdr)
          have vy := sAt_y r x rest hdr
          rw [ex.out] at vx
          rw [ex.out, hyr, Nat.add_sub_cancel] at vy
          obtain ⟨_, hz, cx, fx, sx⟩ := hI.out.ow.cellSet' (k := p + 1) (by omega)
          obtain ⟨_, _, cy, fy, sy⟩ := hI.out.ow.cellSet' (k := p) (by omega)
          rw [vx] at cx
          rw [vy] at cy
          have hK := hI.out.kp
          have w1 : IntKind.i64.wrap ((p : Int) + 1 - 1) = (p : Int) := by rw [Int.add_sub_cancel]; exact IntWalk.i64_in _ (by omega)
          clear sx sy vx vy hy hyr
          dsimp only [Option.getD_some] at cx cy
          have hKd := hC'.out.next hK (Below.drew (Below.refl wr.heap.size wr))
          have hent := hC'.out.ent
          have hd1 : decide ((0 : Int) < (p : Int) + 1) = true := decide_eq_true (by omega)
          have w3 : IntKind.i64.wrap (p : Int) = (p : Int) := IntWalk.i64_in _ (by omega)
          have w2 : IntKind.i64.wrap (((p + 1 : Nat) : Int) - 1) = (p : Int) := by rw [Int.natCast_add, Int.natCast_one]; exact w1
          have hp1 : (0 : Int) ≤ (p : Int) := by omega
          have hp2 : (p : Int) < (n : Int) := by omega
          have hp3 : (p : Int) + 1 < (n : Int) := by omega
          have hp4 : (0 : Int) ≤ (p : Int) + 1 := by omega
          have hp5 : ((p : Int) + 1).toNat = p + 1 := by omega
          by_cases hc : cf x y < 0
          · have hc' := Lib.hid hc
            go_wp2
            go_region_held3 (fun w' => w'.cell? ⟨g, p + 1, none⟩ = some (.int .i64 x) ∧ w'.cell? ⟨g, p, none⟩ = some (.int .i64 y))
              (first
                | exact ⟨(hb5.cell (p := ⟨g, p + 1, none⟩) hz).trans cx, (hb5.cell (p := ⟨g, p, none⟩) hz).trans cy⟩
                | exact ⟨cx, cy⟩)
              (first
                | (refine (hC'.out.call hKd hxok.out hyok.out).mono ?_
                   rintro e w5 ⟨rfl, hb5⟩))
            clear w1 w2 w3
            have hI5 := hI.out.next hC'.out (lo_trans (Below.drew (Below.refl wr.heap.size wr)) hb5)
            clear hI cx cy fx fy hz hKd hK hb5
            obtain ⟨_, hz, cx, fx, sx⟩ := hI5.ow.cellSet' (k := p + 1) (by omega)
            obtain ⟨_, _, cy, fy, _⟩ := hI5.ow.cellSet' (k := p) (by omega)
            have hI6 : SI w (w5.setCell ⟨g, p + 1, none⟩ (.int .i64 y)) lo g n Kp _ := ⟨sx y, grown_trans hI5.gr (grown_set _), hC'.out.set_ _ _ hI5.kp⟩
            have hI7 : SI w ((w5.setCell ⟨g, p + 1, none⟩ (.int .i64 y)).setCell ⟨g, p, none⟩ (.int .i64 x)) lo g n Kp _ := ⟨(hI6.ow.cellSet' (k := p) (by omega)).2.2.2.2 x, grown_trans hI6.gr (grown_set _), hC'.out.set_ _ _ hI6.kp⟩
            have hsw := sAt_swap r x rest hdr
            rw [ex.out, hyr'.out, Nat.add_sub_cancel] at hsw
            rw [hsw] at hI7
            have hI8 := Lib.hid (hI7.next hC'.out (Below.drew (Below.refl _ _)))
            have vx := sAt_x r x rest (Nat.le_of_lt hdr)
            have vy := sAt_y r x rest hdr
            rw [ex.out] at vx
            rw [ex.out, hyr'.out, Nat.add_sub_cancel] at vy
            rw [vx] at cx
            rw [vy] at cy
            dsimp only [Option.getD_some] at cx cy
            have hall2 : Hid (∀ i z, i < d + 1 → r[i]? = some z → ltC cf x z = true) := Lib.hid (fun i z hi hz => by
              rcases Nat.lt_or_ge i d with h | h
              · exact hall.out i z h hz
              · obtain rfl : i = d := by omega
                rw [hy'.out] at hz; cases hz
                exact decide_eq_true hc'.out)
            clear hI5 hI6 hI7 sx vx vy hsw
            go_wp2
            have w1 : IntKind.i64.wrap ((p : Int) + 1 - 1) = (p : Int) := by rw [Int.add_sub_cancel]; exact IntWalk.i64_in _ (by omega)
            have w2 : IntKind.i64.wrap (((p + 1 : Nat) : Int) - 1) = (p : Int) := by rw [Int.natCast_add, Int.natCast_one]; exact w1
            have w3 : IntKind.i64.wrap (p : Int) = (p : Int) := IntWalk.i64_in _ (by omega)
            go_region
            clear w1 w2 w3
            go_wp2
            go_roundw
            case rel => exact ⟨d + 1, p, by omega, by omega, by first | rfl | go_num, hI8, hall2⟩
            case measure => simp [intOf]
          · have hc' := Lib.hid hc
            go_wp2
            go_region_held3 (fun w' => w'.cell? ⟨g, p + 1, none⟩ = some (.int .i64 x) ∧ w'.cell? ⟨g, p, none⟩ = some (.int .i64 y))
              (first
                | exact ⟨(hb5.cell (p := ⟨g, p + 1, none⟩) hz).trans cx, (hb5.cell (p := ⟨g, p, none⟩) hz).trans cy⟩
                | exact ⟨cx, cy⟩)
              (first
                | (refine (hC'.out.call hKd hxok.out hyok.out).mono ?_
                   rintro e w5 ⟨rfl, hb5⟩))
            clear w1 w2 w3
            have hB := Lib.hid (bub_at (ltC cf) x r d (Nat.le_of_lt hdr) (fun i z hi hz => hall.out i z hi hz) (fun z hz => by rw [hy'.out] at hz; cases hz; exact decide_eq_false (by have := hc'.out; omega)))
            have hI5 : Hid (SI w w5 lo g n Kp ((isr (ltC cf) (xs.take (k + 1))).reverse ++ xs.drop (k + 1))) := Lib.hid (by
              rw [hN.out, ← sAt_end rest hB.out]
              exact hI.out.next hC'.out (lo_trans (Below.drew (Below.refl wr.heap.size wr)) hb5))
            clear hI cx cy fx fy hz hKd hK hb5 hB
            go_wp2
            go_roundw
            case rel => exact ⟨k + 1, by omega, by omega, by go_num, hI5⟩
            case measure => simp [intOf]; omega
    · have hI2 : Hid (SI w wr lo g n Kp (isort (ltC cf) xs)) := Lib.hid (by
        have h1 := hI.out
        rw [List.take_of_length_le (by rw [hxl.out]; omega), List.drop_eq_nil_of_le (by rw [hxl.out]; omega), List.append_nil] at h1
        exact h1)
      clear hI
      go_wp2
      go_end0
      exact ⟨rfl, hI2.out⟩
end Go.Proofs.YtpeiolimdglmhaaGreatDoor

-- Plain mathematics: the places of a list by descending value; the stable sort and the reference's way give the same.
namespace Go.Proofs.YtpeiolimdglmhaaGreatDoor

def keyL (L : List Int) (x : Int) : Int := L[x.toNat]?.getD 0
def iotaL (n : Nat) : List Int := (List.range n).map (fun i : Nat => (i : Int))
/-- the program's order -/
def ordL (L : List Int) : List Int := isort (ltC (fun x y => keyL L y - keyL L x)) (iotaL L.length)
def befL (L : List Int) (a b : Int) : Prop := keyL L b < keyL L a ∨ (keyL L a = keyL L b ∧ a < b)
theorem iotaL_len (n : Nat) : (iotaL n).length = n := by simp [iotaL]
theorem iotaL_mem {n : Nat} {x : Int} : x ∈ iotaL n ↔ 0 ≤ x ∧ x < n := by
  simp only [iotaL, List.mem_map, List.mem_range]
  constructor
  · rintro ⟨k, h, rfl⟩; omega
  · rintro ⟨h1, h2⟩; exact ⟨x.toNat, by omega, by omega⟩
theorem iotaL_sorted (n : Nat) : (iotaL n).Pairwise (fun a b => a < b) := by
  rw [iotaL, List.pairwise_map]
  exact List.pairwise_lt_range.imp (fun h => by omega)
theorem ordL_perm (L : List Int) : (ordL L).Perm (iotaL L.length) := isort_perm _ _
theorem ordL_sorted (L : List Int) : (ordL L).Pairwise (befL L) := by
  refine (isort_sorted (ltC (fun x y => keyL L y - keyL L x)) (by intro x y; simp only [ltC, decide_eq_true_eq, decide_eq_false_iff_not]; omega)
    (by intro x y z; simp only [ltC, decide_eq_false_iff_not]; omega) (fun a b => a < b) (iotaL L.length) (iotaL_sorted _)).imp (fun {a b} h => ?_)
  simp only [ltC, decide_eq_false_iff_not] at h
  obtain ⟨h1, h2⟩ := h
  unfold befL
  rcases Int.lt_or_le (keyL L b) (keyL L a) with h3 | h3
  · exact .inl h3
  · exact .inr ⟨by omega, h2 (by omega)⟩
end Go.Proofs.YtpeiolimdglmhaaGreatDoor
