/- Plain facts and walks that the law's proof uses; each says its own conditions. -/
import Derived.Test.YteabnljjogiflaaGreatDoorZ33
import Derived.Test.YteabnljjogiflaaGreatDoorZ34
import Derived.Test.YteabnljjogiflaaGreatDoorZ35
import Derived.Test.YteabnljjogiflaaGreatDoorZ24
-- Walks: the ways to fill rows (the reference's way).
namespace Go.Proofs.YteabnljjogiflaaGreatDoor
open Go.RowKit
set_option maxRecDepth 100000

theorem wayK_mono (r : Int) (rs lf : List Int) (k : Nat) : wayK r rs lf k ≤ wayK r rs lf (k + 1) := by
  rw [wayK, wayK, List.range_succ, List.map_append, List.sum_append]
  omega
theorem wayK_le (r : Int) (rs lf : List Int) {k : Nat} : ∀ j, wayK r rs lf k ≤ wayK r rs lf (k + j)
  | 0 => Nat.le_refl _
  | j + 1 => Nat.le_trans (wayK_le r rs lf j) (wayK_mono r rs lf (k + j))
theorem wayK_bd {r : Int} {rs lf : List Int} (h0 : ∀ x ∈ lf, 0 ≤ x) (h1 : rs.length + 1 ≤ 6) (h2 : lf.length ≤ 6) {k : Nat} (hk : k ≤ 2 ^ lf.length) : wayK r rs lf k ≤ 68719476736 := by
  have e1 := wayN_img (r :: rs) lf h0
  have e2 := imgL_small (rs := r :: rs) (lf := lf) (by rw [List.length_cons]; exact h1) h2
  rw [← wayK_all] at e1
  have e3 := wayK_le r rs lf (k := k) (2 ^ lf.length - k)
  rw [show k + (2 ^ lf.length - k) = 2 ^ lf.length by omega] at e3
  omega
theorem Rd.tail1 {w : World} {A : Option Addr} {n : Nat} {x : Int} {xs : List Int} (h : Rd w A n (x :: xs)) : ∃ b off, A = some ⟨b, off, none⟩ ∧ n = xs.length + 1 ∧ w.cell? ⟨b, off, none⟩ = some (.int .i64 x) ∧ Rd w (some ⟨b, off + 1, none⟩) xs.length xs := by
  have hn := h.1
  rw [List.length_cons] at hn
  obtain ⟨b, off, rfl, hb, hc⟩ := h.2 (by omega)
  refine ⟨b, off, rfl, hn.symm, by have := hc 0 x rfl; simpa using this, rfl, fun _ => ⟨b, off + 1, rfl, hb, fun k y hy => ?_⟩⟩
  have := hc (k + 1) y (by simpa using hy)
  rwa [show off + (k + 1) = off + 1 + k by omega] at this

theorem takeL_1000 {row : Nat} {lf : List Int} (h : ∀ x ∈ lf, 0 ≤ x ∧ x ≤ 1000) (h0 : ∀ x ∈ takeL row lf, 0 ≤ x) : ∀ x ∈ takeL row lf, 0 ≤ x ∧ x ≤ 1000 := by
  intro x hx
  refine ⟨h0 x hx, ?_⟩
  obtain ⟨j, hj, rfl⟩ := List.mem_map.1 hx
  have := h _ (getD_mem' (List.mem_range.1 hj))
  omega
set_option maxHeartbeats 8000000 in
theorem l15Ways_c : ∀ (rs : List Int) (A : Option Addr) (n c : Nat) (B : Option Addr) (m d : Nat) (lf : List Int) (w : World), Rd w A n rs → Rd w B m lf → n ≤ 6 → n ≤ c → 1 ≤ m → m ≤ 6 → (∀ x ∈ lf, 0 ≤ x ∧ x ≤ 1000) →
    Calls Tryz.prog 162 #[.slice A n c, .slice B m d] w fun e w' => e = .returned (.int .i64 (wayN rs lf : Nat)) ∧ Below w.heap.size w w' := by
  intro rs
  induction rs with
  | nil =>
    intro A n c B m d lf w hr hq hn hnc hm1 hm hx
    have hn0 := hr.1
    rw [List.length_nil] at hn0
    subst hn0
    have hml := hq.1
    have hs := Lib.hid (show (lf.take m).sum = lf.sum by rw [← hml, List.take_length])
    by_cases h0 : lf.sum = 0
    · have hT := Lib.hid (show wayN [] lf = 1 by rw [wayN, if_pos h0])
      have h0' := Lib.hid h0
      clear h0 hml
      go_enter Tryz.func162, Tryz.ntmps162
      go_wp2_with fail
      refine (l3Sum_c B m d m 1000 lf _ hq (by omega) (by omega) (by omega) (by omega) hx).mono ?_
      rw [hs.out, h0'.out]
      rintro e w1 ⟨rfl, rfl⟩
      go_wp2
      go_ret
      rw [hT.out]
      exact ⟨rfl, Below.refl _ _⟩
    · have hT := Lib.hid (show wayN [] lf = 0 by rw [wayN, if_neg h0])
      have g1 : (lf.sum == 0) = false := by rw [beq_eq_false_iff_ne]; exact h0
      clear h0 hml
      go_enter Tryz.func162, Tryz.ntmps162
      go_wp2_with fail
      refine (l3Sum_c B m d m 1000 lf _ hq (by omega) (by omega) (by omega) (by omega) hx).mono ?_
      rw [hs.out]
      rintro e w1 ⟨rfl, rfl⟩
      generalize lf.sum = v at g1
      go_wp2
      go_ret
      rw [hT.out]
      exact ⟨rfl, Below.refl _ _⟩
  | cons r rs ih =>
    intro A n c B m d lf w hr hq hn hnc hm1 hm hx
    obtain ⟨b, off, rfl, rfl, hc0, hr1⟩ := hr.tail1
    have hml := Lib.hid hq.1
    have hall := Lib.hid (wayK_all r rs lf)
    have g0 : (((rs.length : Nat) : Int) + 1 == 0) = false := by rw [beq_eq_false_iff_ne]; omega
    go_enter Tryz.func162, Tryz.ntmps162
    go_wp2
    have hrow0 : ∀ k, wayK r rs lf (k + 1) = wayK r rs lf k ∨ True := fun _ => .inr trivial
    clear hrow0
    go_loopw [5, 6] (fun v i wr => ∃ k : Nat, k ≤ 2 ^ m ∧ i = .int .i64 k ∧ v = .int .i64 (wayK r rs lf k : Nat) ∧ Below w.heap.size w wr) (fun _ i _ => 2 ^ m - (intOf i).toNat)
    case atStart => exact ⟨0, Nat.zero_le _, rfl, by rw [wayK_zero]; rfl, Below.refl _ _⟩
    case round =>
      obtain ⟨k, hk, rfl, rfl, hL⟩ := hrel
      have hpi : ((2 : Int) ^ m) = ((2 ^ m : Nat) : Int) := by simp
      have hp64 : 2 ^ m ≤ 64 := Nat.pow_le_pow_right (n := 2) (by omega) hm
      have hpm := Lib.hid (show 2 ^ lf.length = 2 ^ m by rw [hml.out])
      go_wp2_with fail
      refine (l1Power_c (m : Int) _ (by omega) (by omega)).mono ?_
      rw [Int.toNat_natCast, hpi]
      rintro e w1 ⟨rfl, rfl⟩
      clear hpi
      obtain ⟨P, hP⟩ : ∃ P, Hid (2 ^ m = P) := ⟨_, Lib.hid rfl⟩
      rw [hP.out] at hk hp64 hpm ⊢
      by_cases hlt : k < P
      · have hcr : wr.cell? ⟨b, off, none⟩ = some (.int .i64 r) := (hL.cell (World.block_lt_of_cell? _ _ hc0)).trans hc0
        have hcd : wr.drew.cell? ⟨b, off, none⟩ = some (.int .i64 r) := hcr
        go_wp2
        have hLr := Below.refl wr.drew.heap.size wr.drew
        go_region_held3 (fun w' => w'.cell? ⟨b, off, none⟩ = some (.int .i64 r))
          (first
            | exact hcd
            | fail)
          (first
            | (go_at_call 111
               refine (l15Count_x k _ (by omega)).mono ?_
               rintro e w11 ⟨rfl, rfl⟩))
        have hLd : Below w.heap.size w wr.drew := Below.drew hL
        have hqd := hq.next hLd
        have hmk := fun h => Lib.hid (wayK_miss (r := r) (rs := rs) (lf := lf) (k := k) h)
        have hht := fun h1 h2 => Lib.hid (wayK_hit (r := r) (rs := rs) (lf := lf) (k := k) h1 h2)
        by_cases hp : ((pop k : Nat) : Int) = r
        · have g1 : (((pop k : Nat) : Int) != r) = false := by simp [hp]
          cases ht : takeOk k lf with
          | false =>
            have hT := hmk (fun e => by rw [ht] at e; exact absurd e.2 (by decide))
            have ht' := Lib.hid ht
            clear hmk hht ht hp
            generalize ((pop k : Nat) : Int) = z at g1 ⊢
            go_wp2_with fail
            refine (l15Take_c B m d k lf _ hqd (by omega) hm (by omega) (fun x h => by have := hx x h; omega)).mono ?_
            rw [ht'.out]
            rintro e w12 ⟨g, c', rfl, hb2, _⟩
            have hL2 := lo_trans hLd hb2
            go_wp2
            go_roundw
            case rel => exact ⟨k + 1, by rw [hP.out]; omega, by go_num, by rw [hT.out], hL2⟩
            case measure => rw [hP.out]; simp [intOf]; omega
          | true =>
            have hT := hht hp ht
            have ht' := Lib.hid ht
            have hbk := takeL_1000 (row := k) hx (takeOk_iff.1 ht)
            clear hmk hht ht hp
            have hb1 := wayK_bd (r := r) (rs := rs) (lf := lf) (fun x h => (hx x h).1) hn (by rw [hml.out]; exact hm) (k := k + 1) (by rw [hpm.out]; omega)
            rw [hT.out] at hb1
            generalize ((pop k : Nat) : Int) = z at g1 ⊢
            go_wp2_with fail
            refine (l15Take_c B m d k lf _ hqd (by omega) hm (by omega) (fun x h => by have := hx x h; omega)).mono ?_
            rw [ht'.out]
            rintro e w12 ⟨g, c', rfl, hb2, hO⟩
            have hO' := hO rfl
            have hL2 := lo_trans hLd hb2
            have hr2 := hr1.next hL2
            have hsm : IntKind.i64.wrap (((wayK r rs lf k : Nat) : Int) + ((wayN rs (takeL k lf) : Nat) : Int)) = ((wayK r rs lf (k + 1) : Nat) : Int) := by rw [hT.out, IntWalk.i64_in _ (by omega)]; omega
            have hcc : 1 < c ∨ c = 1 := by omega
            rcases hcc with hc1 | rfl
            all_goals
              go_wp2_with fail
              refine (ih _ _ _ _ _ _ (takeL k lf) _ (by first | exact hr2 | exact ⟨by omega, fun h => absurd h (by omega)⟩) hO'.rd (by omega) (by omega) hm1 hm hbk).mono ?_
              rintro e w13 ⟨rfl, hb3⟩
              have hL3 := lo_trans hL2 hb3
              go_wp2
              go_roundw
              case rel => exact ⟨k + 1, by rw [hP.out]; omega, by go_num, by first | rfl | (rw [hT.out]; go_num), hL3⟩
              case measure => rw [hP.out]; simp [intOf]; omega
        · have g1 : (((pop k : Nat) : Int) != r) = true := by rw [bne_iff_ne]; exact hp
          have hT := hmk (fun e => hp e.1)
          clear hmk hht hp
          generalize ((pop k : Nat) : Int) = z at g1 ⊢
          go_wp2
          go_roundw
          case rel => exact ⟨k + 1, by rw [hP.out]; omega, by go_num, by rw [hT.out], hLd⟩
          case measure => rw [hP.out]; simp [intOf]; omega
      · obtain rfl : k = P := by omega
        have hT := Lib.hid (show wayN (r :: rs) lf = wayK r rs lf k by rw [← hall.out, hpm.out])
        go_wp2
        go_ret
        rw [hT.out]
        exact ⟨rfl, hL⟩
end Go.Proofs.YteabnljjogiflaaGreatDoor

-- Walks: how many images come before those with a first row (the reference's way).
namespace Go.Proofs.YteabnljjogiflaaGreatDoor
open Go.RowKit
set_option maxRecDepth 100000

set_option maxHeartbeats 8000000 in
theorem l16Before_c (r : Int) (rs : List Int) (A : Option Addr) (n c : Nat) (B : Option Addr) (m d K : Nat) (lf : List Int) (w : World) (hr : Rd w A n (r :: rs)) (hq : Rd w B m lf) (hn : n ≤ 6) (hnc : n ≤ c) (hm1 : 1 ≤ m) (hm : m ≤ 6) (hx : ∀ x ∈ lf, 0 ≤ x ∧ x ≤ 1000) (hK : K ≤ 2 ^ m) :
    Calls Tryz.prog 118 #[.slice A n c, .slice B m d, .int .i64 (K : Int)] w fun e w' => e = .returned (.int .i64 (wayK r rs lf K : Nat)) ∧ Below w.heap.size w w' := by
  obtain ⟨b, off, rfl, rfl, hc0, hr1⟩ := hr.tail1
  have hml := Lib.hid hq.1
  have hp64 : 2 ^ m ≤ 64 := Nat.pow_le_pow_right (n := 2) (by omega) hm
  have hpm := Lib.hid (show 2 ^ lf.length = 2 ^ m by rw [hml.out])
  have hK' := Lib.hid hK
  have hK64 : K ≤ 64 := by omega
  clear hK hp64
  go_enter Tryz.func118, Tryz.ntmps118
  go_wp2
  go_loopw [7, 8] (fun v i wr => ∃ k : Nat, k ≤ K ∧ i = .int .i64 k ∧ v = .int .i64 (wayK r rs lf k : Nat) ∧ Below w.heap.size w wr) (fun _ i _ => K - (intOf i).toNat)
  case atStart => exact ⟨0, Nat.zero_le _, rfl, by rw [wayK_zero]; rfl, Below.refl _ _⟩
  case round =>
    obtain ⟨k, hk, rfl, rfl, hL⟩ := hrel
    by_cases hlt : k < K
    · have hcr : wr.cell? ⟨b, off, none⟩ = some (.int .i64 r) := (hL.cell (World.block_lt_of_cell? _ _ hc0)).trans hc0
      have hcd : wr.drew.cell? ⟨b, off, none⟩ = some (.int .i64 r) := hcr
      go_wp2
      have hLr := Below.refl wr.drew.heap.size wr.drew
      go_region_held3 (fun w' => w'.cell? ⟨b, off, none⟩ = some (.int .i64 r))
        (first
          | exact hcd
          | fail)
        (first
          | (go_at_call 111
             refine (l15Count_x k _ (by omega)).mono ?_
             rintro e w11 ⟨rfl, rfl⟩))
      have hLd : Below w.heap.size w wr.drew := Below.drew hL
      have hqd := hq.next hLd
      have hmk := fun h => Lib.hid (wayK_miss (r := r) (rs := rs) (lf := lf) (k := k) h)
      have hht := fun h1 h2 => Lib.hid (wayK_hit (r := r) (rs := rs) (lf := lf) (k := k) h1 h2)
      by_cases hp : ((pop k : Nat) : Int) = r
      · have g1 : (((pop k : Nat) : Int) != r) = false := by simp [hp]
        cases ht : takeOk k lf with
        | false =>
          have hT := hmk (fun e => by rw [ht] at e; exact absurd e.2 (by decide))
          have ht' := Lib.hid ht
          clear hmk hht ht hp
          generalize ((pop k : Nat) : Int) = z at g1 ⊢
          go_wp2_with fail
          refine (l15Take_c B m d k lf _ hqd (by omega) hm (by omega) (fun x h => by have := hx x h; omega)).mono ?_
          rw [ht'.out]
          rintro e w12 ⟨g, c', rfl, hb2, _⟩
          have hL2 := lo_trans hLd hb2
          go_wp2
          go_roundw
          case rel => exact ⟨k + 1, by omega, by go_num, by rw [hT.out], hL2⟩
          case measure => simp [intOf]; omega
        | true =>
          have hT := hht hp ht
          have ht' := Lib.hid ht
          have hbk := takeL_1000 (row := k) hx (takeOk_iff.1 ht)
          clear hmk hht ht hp
          have hb1 := wayK_bd (r := r) (rs := rs) (lf := lf) (fun x h => (hx x h).1) hn (by rw [hml.out]; exact hm) (k := k + 1) (by rw [hpm.out]; have := hK'.out; omega)
          rw [hT.out] at hb1
          generalize ((pop k : Nat) : Int) = z at g1 ⊢
          go_wp2_with fail
          refine (l15Take_c B m d k lf _ hqd (by omega) hm (by omega) (fun x h => by have := hx x h; omega)).mono ?_
          rw [ht'.out]
          rintro e w12 ⟨g, c', rfl, hb2, hO⟩
          have hO' := hO rfl
          have hL2 := lo_trans hLd hb2
          have hr2 := hr1.next hL2
          have hsm : IntKind.i64.wrap (((wayK r rs lf k : Nat) : Int) + ((wayN rs (takeL k lf) : Nat) : Int)) = ((wayK r rs lf (k + 1) : Nat) : Int) := by rw [hT.out, IntWalk.i64_in _ (by omega)]; omega
          have hcc : 1 < c ∨ c = 1 := by omega
          rcases hcc with hc1 | rfl
          all_goals
            go_wp2_with fail
            refine (l15Ways_c rs _ _ _ _ _ _ (takeL k lf) _ (by first | exact hr2 | exact ⟨by omega, fun h => absurd h (by omega)⟩) hO'.rd (by omega) (by omega) hm1 hm hbk).mono ?_
            rintro e w13 ⟨rfl, hb3⟩
            have hL3 := lo_trans hL2 hb3
            go_wp2
            go_roundw
            case rel => exact ⟨k + 1, by omega, by go_num, by first | rfl | (rw [hT.out]; go_num), hL3⟩
            case measure => simp [intOf]; omega
      · have g1 : (((pop k : Nat) : Int) != r) = true := by rw [bne_iff_ne]; exact hp
        have hT := hmk (fun e => hp e.1)
        clear hmk hht hp
        generalize ((pop k : Nat) : Int) = z at g1 ⊢
        go_wp2
        go_roundw
        case rel => exact ⟨k + 1, by omega, by go_num, by rw [hT.out], hLd⟩
        case measure => simp [intOf]; omega
    · obtain rfl : k = K := by omega
      go_wp2
      go_ret
      exact ⟨rfl, hL⟩
end Go.Proofs.YteabnljjogiflaaGreatDoor

-- Plain mathematics: a rank, row by row (the reference's way).
namespace Go.Proofs.YteabnljjogiflaaGreatDoor

/-- i rows are ranked: what is left, and the number so far -/
def RkI (rs lf xs : List Int) (i : Nat) (L : List Int) (v : Nat) : Prop :=
  xs.drop i ∈ imgL (rs.drop i) L ∧ v + (imgL (rs.drop i) L).idxOf (xs.drop i) = (imgL rs lf).idxOf xs ∧ L.length = lf.length ∧ (∀ x ∈ L, 0 ≤ x)
theorem RkI.zero {rs lf xs : List Int} (h : xs ∈ imgL rs lf) (h0 : ∀ x ∈ lf, 0 ≤ x) : RkI rs lf xs 0 lf 0 := by
  refine ⟨by simpa using h, by simp, rfl, h0⟩
theorem RkI.step {rs lf xs L : List Int} {i v k : Nat} {r : Int} (h : RkI rs lf xs i L v) (hr : rs[i]? = some r) (hx : xs[i]? = some (k : Int)) :
    RkI rs lf xs (i + 1) (takeL k L) (v + wayK r (rs.drop (i + 1)) L k) ∧ takeOk k L = true := by
  obtain ⟨h1, h2, h3, h4⟩ := h
  obtain ⟨hi, er⟩ := List.getElem?_eq_some_iff.1 hr
  obtain ⟨hj, ex⟩ := List.getElem?_eq_some_iff.1 hx
  have e1 : rs.drop i = r :: rs.drop (i + 1) := by rw [List.drop_eq_getElem_cons hi, er]
  have e2 : xs.drop i = (k : Int) :: xs.drop (i + 1) := by rw [List.drop_eq_getElem_cons hj, ex]
  rw [e1, e2] at h1 h2
  obtain ⟨a1, a2, a3⟩ := idx_step h1
  have a4 := fit_take h4 a3
  rw [a1] at h2
  refine ⟨⟨a2, ?_, by rw [takeL_len, h3], takeOk_iff.1 a4⟩, a4⟩
  rw [wayK_img r _ L h4]
  omega
theorem RkI.done {rs lf xs L : List Int} {v : Nat} (h : RkI rs lf xs xs.length L v) (hl : rs.length = xs.length) : v = (imgL rs lf).idxOf xs := by
  obtain ⟨h1, h2, _, _⟩ := h
  rw [List.drop_length, ← hl, List.drop_length] at h1 h2
  have e : imgL [] L = [[]] := by
    rw [imgL] at h1 ⊢
    split at h1
    · cases h1
    · rw [if_neg (by assumption)]
  rw [e] at h2
  simpa using h2
end Go.Proofs.YteabnljjogiflaaGreatDoor

-- Plain mathematics: the image with a rank, row by row (the reference's way).
namespace Go.Proofs.YteabnljjogiflaaGreatDoor

/-- a first row behind which an image lies fits -/
theorem fit_of_pos {rs lf : List Int} {k : Nat} (ht : takeOk k lf = true) (hp : 0 < wayN rs (takeL k lf)) : fitB k lf ((rs.length + 1 : Nat) : Int) = true := by
  apply Classical.byContradiction
  intro hf
  obtain ⟨j, hj, hb, he⟩ : ∃ j, j < lf.length ∧ k.testBit j = false ∧ lf[j]?.getD 0 = ((rs.length + 1 : Nat) : Int) := by
    apply Classical.byContradiction
    intro hno
    refine hf (fitB_iff.2 fun j hj => ⟨fun hb => ?_, fun hb he => hno ⟨j, hj, hb, he⟩⟩)
    have h1 := all_getD.1 (takeOk_iff.1 ht) j (by rw [takeL_len]; exact hj)
    rw [takeL_get hj, hb] at h1
    simp only [b1, if_true] at h1
    omega
  rw [wayN_img rs _ (takeOk_iff.1 ht), img_over rs (takeL k lf) (takeOk_iff.1 ht) j (by rw [takeL_len]; exact hj) (by
    rw [takeL_get hj, hb, he]
    simp only [b1]
    simp
    omega)] at hp
  exact absurd hp (by simp)
theorem row_hit {r : Int} {rs lf : List Int} {k v q : Nat} (h0 : ∀ x ∈ lf, 0 ≤ x) (hk : k < 2 ^ lf.length) (h1 : ((pop k : Nat) : Int) = r) (h2 : takeOk k lf = true) (hv : v = wayK r rs lf k + q) (hq : q < wayN rs (takeL k lf)) :
    (imgL (r :: rs) lf)[v]? = ((imgL rs (takeL k lf))[q]?).map (fun z => (k : Int) :: z) := by
  have hf := fit_of_pos (rs := rs) h2 (by omega)
  have e := wayK_img r rs lf h0 k
  have hs := nth_step (rs := rs) (n := v) hk h1 hf (by omega) (by rw [← e, ← wayN_img rs _ (takeOk_iff.1 h2)]; omega)
  rw [hs, ← e, show v - wayK r rs lf k = q by omega]
/-- the row with number k is the one that is sought; q are left -/
def RowAt (r : Int) (rs lf : List Int) (v k q : Nat) : Prop := k < 2 ^ lf.length ∧ ((pop k : Nat) : Int) = r ∧ takeOk k lf = true ∧ v = wayK r rs lf k + q ∧ q < wayN rs (takeL k lf)
/-- i rows are chosen -/
def NtI (rs lf : List Int) (n i : Nat) (out L : List Int) (v : Nat) : Prop :=
  out.length = i ∧ L.length = lf.length ∧ (∀ x ∈ L, 0 ≤ x) ∧ v < wayN (rs.drop i) L ∧ (imgL rs lf)[n]? = ((imgL (rs.drop i) L)[v]?).map (fun z => out ++ z)
theorem NtI.zero {rs lf : List Int} {n : Nat} (h0 : ∀ x ∈ lf, 0 ≤ x) (h : n < wayN rs lf) : NtI rs lf n 0 [] lf n := by
  refine ⟨rfl, rfl, h0, by simpa using h, ?_⟩
  simp
theorem NtI.step {rs lf out L : List Int} {n i v k q : Nat} {r : Int} (h : NtI rs lf n i out L v) (hr : rs[i]? = some r) (hk : RowAt r (rs.drop (i + 1)) L v k q) :
    NtI rs lf n (i + 1) (out ++ [(k : Int)]) (takeL k L) q := by
  obtain ⟨h1, h2, h3, h4, h5⟩ := h
  obtain ⟨k1, k2, k3, k4, k5⟩ := hk
  obtain ⟨hi, er⟩ := List.getElem?_eq_some_iff.1 hr
  have e1 : rs.drop i = r :: rs.drop (i + 1) := by rw [List.drop_eq_getElem_cons hi, er]
  refine ⟨by simp [h1], by rw [takeL_len, h2], takeOk_iff.1 k3, k5, ?_⟩
  rw [h5, e1, row_hit h3 k1 k2 k3 k4 k5, Option.map_map]
  congr 1
  funext z
  simp
theorem NtI.done {rs lf out L : List Int} {n v : Nat} (h : NtI rs lf n rs.length out L v) : (imgL rs lf)[n]? = some out := by
  obtain ⟨h1, h2, h3, h4, h5⟩ := h
  rw [List.drop_length] at h4 h5
  have hs : L.sum = 0 := by
    rw [wayN] at h4
    split at h4
    · assumption
    · omega
  have hv : v = 0 := by
    rw [wayN, if_pos hs] at h4
    omega
  have hl := wayN_img [] L h3
  rw [wayN, if_pos hs] at hl
  have e : imgL [] L = [[]] := by
    rw [imgL] at hl ⊢
    split at hl
    · cases hl
    · rw [if_neg (by assumption)]
  rw [h5, hv, e]
  simp
end Go.Proofs.YteabnljjogiflaaGreatDoor

-- Walks: the row that is sought by its number (the reference's way).
namespace Go.Proofs.YteabnljjogiflaaGreatDoor
open Go.RowKit
set_option maxRecDepth 100000

/-- what is returned: the row's number, and what is left -/
def RowPost (r : Int) (rs lf : List Int) (v : Nat) (w : World) (e : Ending) (w' : World) : Prop :=
  ∃ k q : Nat, e = .returned (.tuple #[.int .i64 (k : Int), .int .i64 (q : Int)]) ∧ RowAt r rs lf v k q ∧ Below w.heap.size w w'
theorem wayN_bd {r : Int} {rs lf : List Int} (h0 : ∀ x ∈ lf, 0 ≤ x) (h1 : rs.length + 1 ≤ 6) (h2 : lf.length ≤ 6) : wayN (r :: rs) lf ≤ 68719476736 := by
  rw [← wayK_all]; exact wayK_bd h0 h1 h2 (Nat.le_refl _)

set_option maxHeartbeats 8000000 in
theorem l16Row_c (r : Int) (rs : List Int) (A : Option Addr) (n c : Nat) (B : Option Addr) (m d v : Nat) (lf : List Int) (w : World) (hr : Rd w A n (r :: rs)) (hq : Rd w B m lf) (hn : n ≤ 6) (hnc : n ≤ c) (hm1 : 1 ≤ m) (hm : m ≤ 6) (hx : ∀ x ∈ lf, 0 ≤ x ∧ x ≤ 1000) (hv : v < wayN (r :: rs) lf) :
    Calls Tryz.prog 121 #[.slice A n c, .slice B m d, .int .i64 (v : Int)] w (RowPost r rs lf v w) := by
  obtain ⟨b, off, rfl, rfl, hc0, hr1⟩ := hr.tail1
  have hml := Lib.hid hq.1
  have hvb := wayN_bd (r := r) (rs := rs) (lf := lf) (fun x h => (hx x h).1) hn (by rw [hml.out]; exact hm)
  have hvb' : v ≤ 68719476736 := by omega
  have hp64 : 2 ^ m ≤ 64 := Nat.pow_le_pow_right (n := 2) (by omega) hm
  have hpm := Lib.hid (show 2 ^ lf.length = 2 ^ m by rw [hml.out])
  have hall := Lib.hid (wayK_all r rs lf)
  have hv' := Lib.hid hv
  clear hv hvb
  go_enter Tryz.func121, Tryz.ntmps121
  go_wp2
  go_loopw [2, 8] (fun t i wr => ∃ k u : Nat, k ≤ 2 ^ m ∧ i = .int .i64 k ∧ t = .int .i64 u ∧ Hid (wayK r rs lf k + u = v) ∧ Below w.heap.size w wr) (fun _ i _ => 2 ^ m - (intOf i).toNat)
  case atStart => exact ⟨0, v, Nat.zero_le _, rfl, rfl, Lib.hid (by rw [wayK_zero]; omega), Below.refl _ _⟩
  case round =>
    obtain ⟨k, u, hk, rfl, rfl, hI, hL⟩ := hrel
    have huv : u ≤ 68719476736 := by have := hI.out; omega
    have hpi : ((2 : Int) ^ m) = ((2 ^ m : Nat) : Int) := by simp
    go_wp2_with fail
    refine (l1Power_c (m : Int) _ (by omega) (by omega)).mono ?_
    rw [Int.toNat_natCast, hpi]
    rintro e w1 ⟨rfl, rfl⟩
    clear hpi
    obtain ⟨P, hP⟩ : ∃ P, Hid (2 ^ m = P) := ⟨_, Lib.hid rfl⟩
    rw [hP.out] at hk hp64 hpm ⊢
    by_cases hlt : k < P
    · have hcr : wr.cell? ⟨b, off, none⟩ = some (.int .i64 r) := (hL.cell (World.block_lt_of_cell? _ _ hc0)).trans hc0
      have hcd : wr.drew.cell? ⟨b, off, none⟩ = some (.int .i64 r) := hcr
      go_wp2
      have hLr := Below.refl wr.drew.heap.size wr.drew
      go_region_held3 (fun w' => w'.cell? ⟨b, off, none⟩ = some (.int .i64 r))
        (first
          | exact hcd
          | fail)
        (first
          | (go_at_call 111
             refine (l15Count_x k _ (by omega)).mono ?_
             rintro e w11 ⟨rfl, rfl⟩))
      have hLd : Below w.heap.size w wr.drew := Below.drew hL
      have hqd := hq.next hLd
      have hmk := fun h => Lib.hid (wayK_miss (r := r) (rs := rs) (lf := lf) (k := k) h)
      have hht := fun h1 h2 => Lib.hid (wayK_hit (r := r) (rs := rs) (lf := lf) (k := k) h1 h2)
      by_cases hp : ((pop k : Nat) : Int) = r
      · have g1 : (((pop k : Nat) : Int) != r) = false := by simp [hp]
        cases ht : takeOk k lf with
        | false =>
          have hT := hmk (fun e => by rw [ht] at e; exact absurd e.2 (by decide))
          have ht' := Lib.hid ht
          clear hmk hht ht hp
          generalize ((pop k : Nat) : Int) = z at g1 ⊢
          go_wp2_with fail
          refine (l15Take_c B m d k lf _ hqd (by omega) hm (by omega) (fun x h => by have := hx x h; omega)).mono ?_
          rw [ht'.out]
          rintro e w12 ⟨g, c', rfl, hb2, _⟩
          have hL2 := lo_trans hLd hb2
          go_wp2
          go_roundw
          case rel => exact ⟨k + 1, u, by rw [hP.out]; omega, by go_num, rfl, Lib.hid (by rw [hT.out]; exact hI.out), hL2⟩
          case measure => rw [hP.out]; simp [intOf]; omega
        | true =>
          have hT := hht hp ht
          have ht' := Lib.hid ht
          have hp' := Lib.hid hp
          have hbk := takeL_1000 (row := k) hx (takeOk_iff.1 ht)
          clear hmk hht ht hp
          have hb1 := wayK_bd (r := r) (rs := rs) (lf := lf) (fun x h => (hx x h).1) hn (by rw [hml.out]; exact hm) (k := k + 1) (by rw [hpm.out]; omega)
          rw [hT.out] at hb1
          generalize ((pop k : Nat) : Int) = z at g1 ⊢
          go_wp2_with fail
          refine (l15Take_c B m d k lf _ hqd (by omega) hm (by omega) (fun x h => by have := hx x h; omega)).mono ?_
          rw [ht'.out]
          rintro e w12 ⟨g, c', rfl, hb2, hO⟩
          have hO' := hO rfl
          have hL2 := lo_trans hLd hb2
          have hr2 := hr1.next hL2
          have hcc : 1 < c ∨ c = 1 := by omega
          rcases hcc with hc1 | rfl
          all_goals
            go_wp2_with fail
            refine (l15Ways_c rs _ _ _ _ _ _ (takeL k lf) _ (by first | exact hr2 | exact ⟨by omega, fun h => absurd h (by omega)⟩) hO'.rd (by omega) (by omega) hm1 hm hbk).mono ?_
            rintro e w13 ⟨rfl, hb3⟩
            have hL3 := lo_trans hL2 hb3
            obtain ⟨M, hM⟩ : ∃ M, Hid (wayN rs (takeL k lf) = M) := ⟨_, Lib.hid rfl⟩
            rw [hM.out] at hb1 hT ⊢
            by_cases hlu : u < M
            · go_wp2
              go_ret2
              exact ⟨k, u, rfl, ⟨by rw [hpm.out]; exact hlt, hp'.out, ht'.out, hI.out.symm, by rw [hM.out]; exact hlu⟩, hL3⟩
            · obtain ⟨u', rfl⟩ : ∃ u', u = u' + M := ⟨u - M, by omega⟩
              have hI' : Hid (wayK r rs lf (k + 1) + u' = v) := Lib.hid (by have := hI.out; rw [hT.out]; omega)
              have hgt : decide (((u' + M : Nat) : Int) < (M : Int)) = false := by simp; omega
              have hgN : decide (u' + M < M) = false := by simp
              have hs2 : wrap64 (((u' + M : Nat) : Int) - (M : Int)) = (u' : Int) := by rw [IntWalk.wrap64_in _ (by omega)]; omega
              have hsub : IntKind.i64.wrap (((u' + M : Nat) : Int) - (M : Int)) = (u' : Int) := by clear hs2; rw [IntWalk.i64_in _ (by omega)]; omega
              generalize hUM : u' + M = UM at hsub hgt hs2 hgN ⊢
              clear hUM
              go_wp2
              go_roundw
              case rel => exact ⟨k + 1, u', by rw [hP.out]; omega, by go_num, by first | rfl | (rw [hsub]) | (rw [hs2]), hI', hL3⟩
              case measure => rw [hP.out]; simp [intOf]; omega
      · have g1 : (((pop k : Nat) : Int) != r) = true := by rw [bne_iff_ne]; exact hp
        have hT := hmk (fun e => hp e.1)
        clear hmk hht hp
        generalize ((pop k : Nat) : Int) = z at g1 ⊢
        go_wp2
        go_roundw
        case rel => exact ⟨k + 1, u, by rw [hP.out]; omega, by go_num, rfl, Lib.hid (by rw [hT.out]; exact hI.out), hLd⟩
        case measure => rw [hP.out]; simp [intOf]; omega
    · obtain rfl : k = P := by omega
      exfalso
      have h1 := hI.out
      have h2 := hall.out
      have h3 := hv'.out
      rw [hpm.out] at h2
      omega
end Go.Proofs.YteabnljjogiflaaGreatDoor

-- Walks: the rank of an image (the reference's way).
namespace Go.Proofs.YteabnljjogiflaaGreatDoor
open Go.RowKit
set_option maxRecDepth 100000

set_option maxHeartbeats 4000000 in
theorem spec_ImageRank_no (W : Int) (A : Option Addr) (n c : Nat) (xs : List Int) (w : World) (hr : Rd w A n xs) (hn : n ≤ 1000) (h : rkB W xs = false) :
    Calls Tryz.prog 77 #[.agg #[.int .i64 W, .slice A n c]] w fun e w' => e = .returned (.int .i64 (-1)) ∧ Below w.heap.size w w' := by
  have hP := Blk.new w 29 #[.int .i64 W, .slice A n c]
  have hB0 := lo_alloc (Below.refl w.heap.size w) (.cells #[.int .i64 W, .slice A n c] 29)
  have p0 := hP.cell 0
  have p1 := hP.cell 1
  cases hk : okB W xs with
  | false =>
    have hk' := Lib.hid hk
    clear hk
    go_enter Tryz.func77, Tryz.ntmps77
    go_wp2_with fail
    refine (spec_ImageValid_c _ _ _ _ xs _ (hr.next hB0) (by omega)).mono ?_
    rw [hk'.out]
    rintro e w1 ⟨rfl, hb1⟩
    go_wp2
    go_ret
    exact ⟨rfl, lo_trans hB0 hb1⟩
  | true =>
    have hbd := okB_bd hk
    obtain ⟨m, rfl⟩ : ∃ m : Nat, W = (m : Int) := ⟨W.toNat, by omega⟩
    have hq : ¬ n * m ≤ 16 := by
      intro h2
      rw [rkB, hk, hr.1, Int.toNat_natCast] at h
      simp at h
      omega
    rw [hr.1] at hbd
    have hmul : n * m ≤ 6 * 6 := Nat.mul_le_mul (by omega) (by omega)
    have hmi : (n : Int) * (m : Int) = ((n * m : Nat) : Int) := by simp
    have hw : wrap64 ((n : Int) * (m : Int)) = ((n * m : Nat) : Int) := by rw [hmi]; exact IntWalk.wrap64_in _ (by omega)
    have hk' := Lib.hid hk
    clear hk hmi h
    generalize n * m = q at hq hmul hw
    have g1 : decide ((16 : Int) < ((q : Nat) : Int)) = true := by simp; omega
    go_enter Tryz.func77, Tryz.ntmps77
    go_wp2_with fail
    refine (spec_ImageValid_c _ _ _ _ xs _ (hr.next hB0) (by omega)).mono ?_
    rw [hk'.out]
    rintro e w1 ⟨rfl, hb1⟩
    have hP1 := hP.next hb1
    have c0 := hP1.cell 0
    have c1 := hP1.cell 1
    clear hP hP1 p0 p1
    go_wp2
    go_ret
    exact ⟨rfl, lo_trans hB0 hb1⟩

theorem Rd.drop {w : World} {b off n : Nat} {xs : List Int} (h : Rd w (some ⟨b, off, none⟩) n xs) (k : Nat) : Rd w (some ⟨b, off + k, none⟩) (n - k) (xs.drop k) := by
  refine ⟨by rw [List.length_drop, h.1], fun hn => ?_⟩
  obtain ⟨b', off', e, hb, hc⟩ := h.2 (by omega)
  cases e
  refine ⟨b, off + k, rfl, hb, fun j y hy => ?_⟩
  rw [List.getElem?_drop] at hy
  have := hc (k + j) y hy
  rwa [← Nat.add_assoc] at this
theorem sl_from (g off n c k : Nat) (hk : k ≤ n) (hc : k < c) (w : World) : (Instr.slice 27 (.slice (some ⟨g, off, none⟩) n c) (some (.int .i64 (k : Int))) none none).run Tryz.prog w = .ok (.slice (some ⟨g, off + k, none⟩) (n - k) (c - k)) w := by
  have h1 : ¬ c = k := by omega
  rw [run_slice_l (P := Tryz.prog) w 27 _ n c Tryz.underlying27 .i64 k (by omega) (by omega)]
  simp [go_sem, sliced, h1]
theorem rsum_q {xs : List Int} {k q : Nat} (hk : k < xs.length) (hx : xs[k]?.getD 0 = (q : Int)) : (rsum xs)[k]? = some ((pop q : Nat) : Int) ∧ xs[k]? = some (q : Int) := by
  rw [List.getElem?_eq_getElem hk, Option.getD_some] at hx
  rw [rsum, List.getElem?_map, List.getElem?_eq_getElem hk, hx]
  exact ⟨rfl, rfl⟩
theorem csum_1000 {m : Nat} {xs : List Int} (h : xs.length ≤ 6) : ∀ x ∈ csum m xs, 0 ≤ x ∧ x ≤ 1000 := by
  intro x hx
  have := csum_bd h x hx
  omega

set_option maxHeartbeats 8000000 in
theorem spec_ImageRank_yes (m : Nat) (A : Option Addr) (n c : Nat) (xs : List Int) (w : World) (hr : Rd w A n xs) (hk : okB (m : Int) xs = true) (hc : n * m ≤ 16) :
    Calls Tryz.prog 77 #[.agg #[.int .i64 (m : Int), .slice A n c]] w fun e w' => e = .returned (.int .i64 (((imgL (rsum xs) (csum m xs)).idxOf xs : Nat) : Int)) ∧ Below w.heap.size w w' := by
  have hbd := okB_bd hk
  rw [hr.1] at hbd
  obtain ⟨tot, htot⟩ : ∃ tot, Hid ((imgL (rsum xs) (csum m xs)).idxOf xs = tot) := ⟨_, Lib.hid rfl⟩
  rw [htot.out]
  have hP := Blk.new w 29 #[.int .i64 (m : Int), .slice A n c]
  have hB0 := lo_alloc (Below.refl w.heap.size w) (.cells #[.int .i64 (m : Int), .slice A n c] 29)
  have p0 := hP.cell 0
  have p1 := hP.cell 1
  have hmi : (n : Int) * (m : Int) = ((n * m : Nat) : Int) := by simp
  have hw : wrap64 ((n : Int) * (m : Int)) = ((n * m : Nat) : Int) := by rw [hmi]; exact IntWalk.wrap64_in _ (by omega)
  have hk' := Lib.hid hk
  have hin := Lib.hid (own_in hk)
  clear hk hmi
  generalize n * m = q at hc hw
  have g1 : decide ((16 : Int) < ((q : Nat) : Int)) = false := by simp; omega
  go_enter Tryz.func77, Tryz.ntmps77
  go_wp2_with fail
  refine (spec_ImageValid_c _ _ _ _ xs _ (hr.next hB0) (by omega)).mono ?_
  rw [hk'.out]
  rintro e w1 ⟨rfl, hb1⟩
  have hP1 := hP.next hb1
  have c0 := hP1.cell 0
  have c1 := hP1.cell 1
  have hB1 := lo_trans hB0 hb1
  clear hP p0 p1
  go_wp2_with fail
  refine (spec_RowSums_z A n c m xs _ (hr.next hB1) hk'.out).mono ?_
  rintro e w2 ⟨R1, d1, rfl, hO1, hle1, hb2⟩
  have hP2 := hP1.next hb2
  clear c0 c1
  have c0 := hP2.cell 0
  have c1 := hP2.cell 1
  have hB2 := lo_trans hB1 hb2
  go_wp2_with fail
  refine (spec_ColSums_x A n c m xs _ (hr.next hB2) hk'.out).mono ?_
  rintro e w3 ⟨R2, d2, rfl, hO2, hb3⟩
  have hP3 := hP2.next hb3
  clear c0 c1
  have c0 := hP3.cell 0
  have c1 := hP3.cell 1
  have hB3 := lo_trans hB2 hb3
  obtain ⟨gR, rfl, hgR, _⟩ := hO1.at_ (k := 0) (by omega)
  have hR1 := hO1.rd.next hb3
  have hR2 := hO2.rd
  have hpz : w.heap.size < w3.heap.size := hP3.lt
  have hL0 := Below.refl w3.heap.size w3
  have hI0 := Lib.hid (RkI.zero hin.out (fun x h => (csum_1000 (m := m) (by rw [hr.1]; omega) x h).1))
  have hc0 := Lib.hid (csum_1000 (m := m) (xs := xs) (by rw [hr.1]; omega))
  have hsm := imgL_small (rs := rsum xs) (lf := csum m xs) (by rw [rsum_len, hr.1]; omega) (by rw [csum_len]; omega)
  have hix := idx_lt hin.out
  have hxl := Lib.hid hr.1
  rw [htot.out] at hix
  have htb : tot ≤ 68719476736 := by omega
  clear hsm hix
  have hrA := hr.next hB3
  clear hP1 hP2 hB0 hB1 hB2 hb1 hb2 hb3 hO1 hO2 hr g1 hw hc
  go_wp2
  go_loopw [4, 5, 6] (fun cs v i wr => ∃ (k V : Nat) (R : Option Addr) (d : Nat) (L : List Int), k ≤ n ∧ i = .int .i64 k ∧ v = .int .i64 (V : Int) ∧ cs = .slice R m d ∧ Rd wr R m L ∧ Hid (RkI (rsum xs) (csum m xs) xs k L V) ∧ Hid (∀ x ∈ L, 0 ≤ x ∧ x ≤ 1000) ∧ Below w3.heap.size w3 wr) (fun _ _ i _ => n - (intOf i).toNat)
  case atStart => exact ⟨0, 0, R2, d2, csum m xs, Nat.zero_le _, rfl, rfl, rfl, hR2, hI0, hc0, hL0⟩
  case round =>
    clear hR2 hI0 hc0 hL0
    obtain ⟨k, V, R, d, L, hkn, rfl, rfl, rfl, hRL, hI, hL9, hL⟩ := hrel
    have hP4 := hP3.next hL
    have c0 := hP4.cell 0
    have c1 := hP4.cell 1
    by_cases hlt : k < n
    · obtain ⟨q, hxq, hq2⟩ := okB_row hk'.out rfl (k := k) (by rw [hxl.out]; exact hlt)
      obtain ⟨e1, e2⟩ := rsum_q (by rw [hxl.out]; exact hlt) hxq
      obtain ⟨hS, htk⟩ := hI.out.step e1 e2
      have hp64 : 2 ^ m ≤ 64 := pow_le64 (by omega)
      have hq3 := Lib.hid (show q ≤ 2 ^ m by omega)
      have htk' := Lib.hid htk
      have h10 := takeL_1000 (row := q) hL9.out (takeOk_iff.1 htk)
      have h10' := Lib.hid h10
      have hd1 : Rd wr (some ⟨gR, k, none⟩) (n - k) (((pop q : Nat) : Int) :: (rsum xs).drop (k + 1)) := by
        have := (hR1.next hL).drop k
        rw [Nat.zero_add] at this
        obtain ⟨hi, er⟩ := List.getElem?_eq_some_iff.1 e1
        rwa [List.drop_eq_getElem_cons hi, er] at this
      have hsl : ∀ w, (Instr.slice 27 (.slice (some ⟨gR, 0, none⟩) n d1) (some (.int .i64 (k : Int))) none none).run Tryz.prog w = .ok (.slice (some ⟨gR, k, none⟩) (n - k) (d1 - k)) w := fun w => by
        have := sl_from gR 0 n d1 k (by omega) (by omega) w
        rwa [Nat.zero_add] at this
      have hV := hS.2.1
      rw [htot.out] at hV
      have hS' := Lib.hid hS
      clear hS e1 e2 htk h10 hI
      obtain ⟨bA, offA, rfl, hbA, hcA⟩ := (hrA.next hL).at_ hlt
      rw [hxq] at hcA
      have hwk := l16Before_c ((pop q : Nat) : Int) ((rsum xs).drop (k + 1)) (some ⟨gR, k, none⟩) (n - k) (d1 - k) R m d q L
      obtain ⟨z, hz⟩ : ∃ z, Hid (wayK ((pop q : Nat) : Int) ((rsum xs).drop (k + 1)) L q = z) := ⟨_, Lib.hid rfl⟩
      rw [hz.out] at hV hS' hwk
      have hVz : V + z ≤ 68719476736 := by omega
      have hsm2 : IntKind.i64.wrap ((V : Int) + (z : Int)) = ((V + z : Nat) : Int) := by rw [IntWalk.i64_in _ (by omega)]; omega
      have hkd : (k : Int) ≤ (n : Int) := by omega
      have hPd := hP4.drew
      have hdd := hd1.drew
      have hRd := hRL.drew
      have hcd : wr.drew.cell? ⟨bA, offA + k, none⟩ = some (.int .i64 (q : Int)) := hcA
      have hLr := Below.refl wr.drew.heap.size wr.drew
      have hq64 : q < 64 := by omega
      clear hV hxq hcA hq2 hz
      go_wp2
      go_region_held3 (fun w' => w'.cell? ⟨w.heap.size, 0, none⟩ = some (.int .i64 (m : Int)) ∧ w'.cell? ⟨w.heap.size, 1, none⟩ = some (.slice (some ⟨bA, offA, none⟩) n c) ∧ w'.cell? ⟨bA, offA + k, none⟩ = some (.int .i64 (q : Int)))
        (first
          | exact ⟨(hPd.next hLr).cell 0, (hPd.next hLr).cell 1, (hLr.cell (p := ⟨bA, offA + k, none⟩) hbA).trans hcd⟩
          | fail)
        (first
          | (go_at_call 118
             with_reducible refine (hwk _ hdd hRd (by omega) (by omega) (by omega) (by omega) hL9.out hq3.out).mono ?_
             rintro e w5 ⟨rfl, hb5⟩
             have hLr := hb5))
      have hL5 : Below w3.heap.size w3 w5 := lo_trans (Below.drew hL) hb5
      have hP5 := hPd.next hb5
      clear c0 c1 hdd hd1 hsl hwk hsm2 hRL hP4 hPd
      have c0 := hP5.cell 0
      have c1 := hP5.cell 1
      have cA := (hb5.cell (p := ⟨bA, offA + k, none⟩) hbA).trans hcd
      go_wp2_with fail
      refine (l15Take_c R m d q L _ (hRd.next hb5) (by omega) (by omega) (by omega) (fun x h => by have := hL9.out x h; omega)).mono ?_
      rw [htk'.out]
      rintro e w6 ⟨g, c', rfl, hb6, hO⟩
      have hO6 := (hO rfl).rd
      have hL6 := lo_trans hL5 hb6
      clear hO
      go_wp2
      go_roundw
      case rel => exact ⟨k + 1, V + z, some ⟨g, 0, none⟩, c', takeL q L, by omega, by go_num, by go_num, rfl, hO6, hS', h10', hL6⟩
      case measure => simp [intOf]; omega
    · obtain rfl : k = n := by omega
      have hD := hI.out
      rw [← hxl.out] at hD
      have hV := hD.done (by rw [rsum_len])
      rw [htot.out] at hV
      subst hV
      go_wp2
      go_ret
      exact ⟨rfl, lo_trans hB3 hL⟩

theorem spec_ImageRank_c (W : Int) (A : Option Addr) (n c : Nat) (xs : List Int) (w : World) (hr : Rd w A n xs) (hn : n ≤ 1000) :
    Calls Tryz.prog 77 #[.agg #[.int .i64 W, .slice A n c]] w fun e w' => e = .returned (.int .i64 (rankV W xs)) ∧ Below w.heap.size w w' := by
  cases hk : rkB W xs with
  | false => exact (spec_ImageRank_no W A n c xs w hr hn hk).mono fun e w' ⟨he, hb⟩ => ⟨by rw [he, rankV, hk]; rfl, hb⟩
  | true =>
    have h2 := hk
    rw [rkB, Bool.and_eq_true, decide_eq_true_eq] at h2
    have hbd := okB_bd h2.1
    obtain ⟨m, rfl⟩ : ∃ m : Nat, W = (m : Int) := ⟨W.toNat, by omega⟩
    have h3 := h2.2
    rw [hr.1, Int.toNat_natCast] at h3
    exact (spec_ImageRank_yes m A n c xs w hr h2.1 h3).mono fun e w' ⟨he, hb⟩ => ⟨by rw [he, rankV, hk, Int.toNat_natCast]; rfl, hb⟩
end Go.Proofs.YteabnljjogiflaaGreatDoor
