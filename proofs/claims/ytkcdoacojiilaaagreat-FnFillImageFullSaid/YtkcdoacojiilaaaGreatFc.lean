
/- Walks: an image is filled by one more cell (improve). -/
import Derived.Test.YtkcdoacojiilaaaGreatFa
import Derived.Test.YtkcdoacojiilaaaGreatFb
import Derived.Test.YtkcdoacojiilaaaGreatQu
import Derived.Sort.CutIn
import Derived.Deep.Cut
import Derived.Deep.RegionHeld3
import Derived.Deep.LoopGhost
namespace Go.Proofs.YtkcdoacojiilaaaGreat
open Go.RowKit
set_option maxRecDepth 100000

theorem par_zero (N : Nat) (xs rs : List Int) : parK N xs rs 0 = List.replicate N (-1) := by
  refine List.ext_getElem? (fun i => ?_)
  rw [parK, List.getElem?_map, List.getElem?_replicate]
  by_cases h : i < N
  · rw [List.getElem?_range h, if_pos h]; simp
  · rw [List.getElem?_eq_none (by simp; omega), if_neg h]; rfl
theorem par_step {N k : Nat} {xs rs : List Int} (hk : k < N) : parK N xs rs (k + 1) = if lackR xs rs k = true then (parK N xs rs k).set k (k : Int) else parK N xs rs k := by
  refine List.ext_getElem? (fun i => ?_)
  by_cases h : i < N
  · have e1 : (parK N xs rs (k + 1))[i]? = some (if i < k + 1 ∧ lackR xs rs i = true then (i : Int) else -1) := by rw [parK, List.getElem?_map, List.getElem?_range h]; rfl
    have e2 : (parK N xs rs k)[i]? = some (if i < k ∧ lackR xs rs i = true then (i : Int) else -1) := by rw [parK, List.getElem?_map, List.getElem?_range h]; rfl
    rw [e1]
    by_cases hl : lackR xs rs k = true
    · rw [if_pos hl]
      by_cases e : i = k
      · subst e
        rw [List.getElem?_set_self (by simp [parK]; omega), if_pos ⟨by omega, hl⟩]
      · rw [List.getElem?_set_ne (Ne.symm e), e2]
        have : (i < k + 1 ∧ lackR xs rs i = true) ↔ (i < k ∧ lackR xs rs i = true) := by constructor <;> rintro ⟨a, b⟩ <;> exact ⟨by omega, b⟩
        simp only [this]
    · rw [if_neg hl, e2]
      by_cases e : i = k
      · subst e
        rw [if_neg (fun h => hl h.2), if_neg (fun h => hl h.2)]
      · have : (i < k + 1 ∧ lackR xs rs i = true) ↔ (i < k ∧ lackR xs rs i = true) := by constructor <;> rintro ⟨a, b⟩ <;> exact ⟨by omega, b⟩
        simp only [this]
  · rw [List.getElem?_eq_none (by simp [parK]; omega)]
    split
    · rw [List.getElem?_eq_none (by simp [parK]; omega)]
    · rw [List.getElem?_eq_none (by simp [parK]; omega)]
theorem wk_step (xs rs : List Int) (k : Nat) : wkK xs rs (k + 1) = wkK xs rs k ++ if lackR xs rs k = true then [k] else [] := by
  rw [wkK, List.range_succ, List.filter_append]
  congr 1
  by_cases h : lackR xs rs k = true
  · simp [h]
  · simp [h]

theorem Qi.row {w : World} {lo c : Nat} {A : Option Addr} {xs : List Int} (h : Qi w lo A c xs) : ∀ g, rowA A = some g → lo ≤ g := by
  intro g e
  rcases h.2 with ⟨rfl, _⟩ | ⟨g', off, cs, rfl, h1, _⟩
  · cases e
  · simp [rowA] at e
    omega
theorem qi_drew {w : World} {lo c : Nat} {A : Option Addr} {xs : List Int} (h : Qi w lo A c xs) : Qi w.drew lo A c xs := h.kept (grown_drew none) (fun _ _ _ e => by cases e)
/-- places as numbers -/
def asI (wk : List Nat) : List Int := wk.map (fun k : Nat => (k : Int))
theorem asI_len (wk : List Nat) : (asI wk).length = wk.length := by simp [asI]

set_option maxHeartbeats 4000000 in
theorem improve_c (A B : Option Addr) (n m a b g c : Nat) (rs ys xs : List Int) (w : World) (hr : Rd w A n rs) (hs : Rd w B m ys) (hb : Blk w g 3 (ints xs)) (hv : sV rs ys = true) (hf : FitX n m rs ys xs) :
    Calls Tryz.prog 16 #[.agg #[.int .i64 (m : Int), .slice (some ⟨g, 0, none⟩) n c], .slice A n a, .slice B m b] w fun e w' =>
      e = .returned (.bool (nextX n m rs ys xs).isSome) ∧ Blk w' g 3 (ints ((nextX n m rs ys xs).getD xs)) ∧ w.grownBy w' (some g) := by
  have hvb := sV_out hv
  rw [hr.1, hs.1] at hvb
  obtain ⟨b1, b2, b3, b4, b5, b6⟩ := hvb
  have hok := hf.ok
  have hgz := hb.lt
  have hS1 : Hid (rSums (m : Int) xs = rsum xs) := Lib.hid (by rw [rSums, if_pos hok])
  have hS2 : Hid (cSums (m : Int) xs = csum m xs) := Lib.hid (by rw [cSums, if_pos hok, Int.toNat_natCast])
  have hXr : Rd w (some ⟨g, 0, none⟩) n xs := by have := Rd.of_blk hb; rwa [hf.len] at this
  have hP := Blk.new w 27 #[.int .i64 (m : Int), .slice (some ⟨g, 0, none⟩) n c]
  have hB0 := lo_alloc (Below.refl w.heap.size w) (.cells #[.int .i64 (m : Int), .slice (some ⟨g, 0, none⟩) n c] 27)
  have hz0 := hP.lt
  have hf' := Lib.hid hf
  have hv' := Lib.hid hv
  obtain ⟨W1, hW1⟩ : ∃ W1, Hid (W1 = w.alloc (.cells #[.int .i64 (m : Int), .slice (some ⟨g, 0, none⟩) n c] 27)) := ⟨_, Lib.hid rfl⟩
  have c0 := hP.cell 0
  have c1 := hP.cell 1
  clear b5 b6 hf hv hok
  go_enter Tryz.func16, Tryz.ntmps16
  rw [← hW1.out] at hP hB0 hz0 c0 c1
  go_upto_region 2 with fail
  try rw [← hW1.out]
  go_cut [8, 9] from 18 (fun s8 s9 wx => ∃ (R R2 : Option Addr) (r d r2 d2 : Nat), s8 = .slice R r d ∧ s9 = .slice R2 r2 d2 ∧ Below w.heap.size w wx ∧ Blk wx w.heap.size 27 #[.int .i64 (m : Int), .slice (some ⟨g, 0, none⟩) n c] ∧ Own wx w.heap.size R r (rsum xs) ∧ Own wx w.heap.size R2 r2 (csum m xs))
  case first =>
    go_region_held3 (fun w' => w'.cell? ⟨w.heap.size, 0, none⟩ = some (.int .i64 (m : Int)) ∧ w'.cell? ⟨w.heap.size, 1, none⟩ = some (.slice (some ⟨g, 0, none⟩) n c))
      (first
        | go_keep
        | exact ⟨(hP.next (by (repeat (first | exact Below.refl _ _ | assumption | refine lo_alloc ?_ _ | refine lo_set ?_ (by simp; try omega) _ | refine Below.drew ?_ | refine below_drewN ?_ _ | refine lo_trans ?_ (by assumption) | refine lo_wr ?_ (by assumption) (by omega))))).cell 0, (hP.next (by (repeat (first | exact Below.refl _ _ | assumption | refine lo_alloc ?_ _ | refine lo_set ?_ (by simp; try omega) _ | refine Below.drew ?_ | refine below_drewN ?_ _ | refine lo_trans ?_ (by assumption) | refine lo_wr ?_ (by assumption) (by omega))))).cell 1⟩)
      (first
        | (go_at_call 28
           refine (RowSums_c _ _ _ _ xs _ (hXr.next (by (repeat (first | exact Below.refl _ _ | assumption | refine lo_alloc ?_ _ | refine lo_set ?_ (by simp; try omega) _ | refine Below.drew ?_ | refine below_drewN ?_ _ | refine lo_trans ?_ (by assumption) | refine lo_wr ?_ (by assumption) (by omega))))) (by omega)).mono ?_
           rw [hS1.out]
           rintro e w6 ⟨R6, r6, d6, rfl, hb6, hO6⟩)
        | (go_at_call 29
           refine (ColSums_c _ _ _ _ xs _ (hXr.next (by (repeat (first | exact Below.refl _ _ | assumption | refine lo_alloc ?_ _ | refine lo_set ?_ (by simp; try omega) _ | refine Below.drew ?_ | refine below_drewN ?_ _ | refine lo_trans ?_ (by assumption) | refine lo_wr ?_ (by assumption) (by omega))))) (by omega)).mono ?_
           rw [hS2.out]
           rintro e w7 ⟨R7, r7, d7, rfl, hb7, hO7⟩))
    all_goals
      go_wp2_with fail
      go_meet
      have hs6 : w.heap.size ≤ w6.heap.size := Below.size (w := w) (B := w.heap.size) (by (repeat (first | exact Below.refl _ _ | assumption | refine lo_alloc ?_ _ | refine lo_set ?_ (by simp; try omega) _ | refine Below.drew ?_ | refine below_drewN ?_ _ | refine lo_trans ?_ (by assumption) | refine lo_wr ?_ (by assumption) (by omega))))
      exact ⟨R6, R7, r6, d6, r7, d7, rfl, rfl, by (repeat (first | exact Below.refl _ _ | assumption | refine lo_alloc ?_ _ | refine lo_set ?_ (by simp; try omega) _ | refine Below.drew ?_ | refine below_drewN ?_ _ | refine lo_trans ?_ (by assumption) | refine lo_wr ?_ (by assumption) (by omega))), hP.next (by (repeat (first | exact Below.refl _ _ | assumption | refine lo_alloc ?_ _ | refine lo_set ?_ (by simp; try omega) _ | refine Below.drew ?_ | refine below_drewN ?_ _ | refine lo_trans ?_ (by assumption) | refine lo_wr ?_ (by assumption) (by omega)))), (hO6.next (by (repeat (first | exact Below.refl _ _ | assumption | refine lo_alloc ?_ _ | refine lo_set ?_ (by simp; try omega) _ | refine Below.drew ?_ | refine below_drewN ?_ _ | refine lo_trans ?_ (by assumption) | refine lo_wr ?_ (by assumption) (by omega))))).mono (by first | omega | (simp; omega)), hO7.mono (by first | omega | (simp; omega))⟩
  case rest =>
    obtain ⟨R, R2, r, d, r2, d2, rfl, rfl, hBc, hPc, hO1, hO2⟩ := hcut
    clear hP hB0 c0 c1 hW1 hz0
    obtain rfl : r = n := by rw [← hO1.1, rsum_len, hf'.out.len]
    obtain rfl : r2 = m := by rw [← hO2.1, csum_len]
    have hXc := hXr.next hBc
    have hrc := hr.next hBc
    have hsc := hs.next hBc
    have hbc := hb.next hBc
    have hzc := hPc.lt
    clear hXr hr hs hb
    have c0 := hPc.cell 0
    have c1 := hPc.cell 1
    have hwr : IntKind.i64.wrap ((r : Int) + (r2 : Int)) = ((r + r2 : Nat) : Int) := by rw [IntKind.wrap_i64]; omega
    go_wp2_with fail
    rw [← Int.natCast_add]
    have hR0 : Rd (wc.alloc (.cells #[Value.int IntKind.i64 (-1)] 3)) (some ⟨wc.heap.size, 0, none⟩) 1 [-1] := Rd.of_blk (cs := [-1]) (Blk.new _ _ _)
    refine (Repeat_c _ 1 (r + r2) (-1) _ hR0 (by omega) (by omega)).mono ?_
    rintro e w3 ⟨F, rfl, hb3, hlF, hF⟩
    have hB3 : Below wc.heap.size wc w3 := by (repeat (first | exact Below.refl _ _ | assumption | refine lo_alloc ?_ _ | refine lo_set ?_ (by simp; try omega) _ | refine Below.drew ?_ | refine below_drewN ?_ _ | refine lo_trans ?_ (by assumption) | refine lo_wr ?_ (by assumption) (by omega)))
    have hlF : wc.heap.size < F := by have : (wc.alloc (.cells #[Value.int IntKind.i64 (-1)] 3)).heap.size = wc.heap.size + 1 := by simp
                                      omega
    rw [← par_zero (r + r2) xs rs] at hF
    clear hb3 hR0 c0 c1
    go_wp2
    go_loopw [30, 11] (fun i q wr => ∃ (k : Nat) (Q : Option Addr) (cq : Nat), k ≤ r ∧ i = .int .i64 k ∧ q = .slice Q (wkK xs rs k).length cq ∧ Qi wr (F + 1) Q cq (asI (wkK xs rs k)) ∧ Below wc.heap.size wc wr ∧ Blk wr F 3 (ints (parK (r + r2) xs rs k))) (fun i _ _ => r - (intOf i).toNat)
    case atStart => exact ⟨0, none, 0, Nat.zero_le _, rfl, rfl, Qi.nil_ _ _, hB3, hF⟩
    case round =>
      clear hB3 hF
      obtain ⟨k, Q, cq, hk, rfl, rfl, hq, hB, hF⟩ := hrel
      by_cases hlt : k < r
      · obtain ⟨bo, off, rfl, hbz, hc1⟩ := (hO1.rd.next hB).at_ hlt
        obtain ⟨bo2, off2, rfl, hbz2, hc2⟩ := (hrc.next hB).at_ hlt
        have hkx : k < xs.length := by rw [hf'.out.len]; exact hlt
        rw [rsum_get xs hkx] at hc1
        have hkw : (wkK xs rs k).length ≤ k := by
          have := List.length_filter_le (lackR xs rs) (List.range k)
          rw [List.length_range] at this
          exact this
        have hpp : popI xs k = pop (xs[k]?.getD 0).toNat := rfl
        by_cases hl : lackR xs rs k = true
        · have hp1 := Lib.hid (show parK (r + r2) xs rs (k + 1) = (parK (r + r2) xs rs k).set k (k : Int) by rw [par_step (by omega), if_pos hl])
          have hw1 := Lib.hid (show wkK xs rs (k + 1) = wkK xs rs k ++ [k] by rw [wk_step, if_pos hl])
          have hlt2 : ((popI xs k : Nat) : Int) < rs[k]?.getD 0 := by rw [hpp]; simpa [lackR] using hl
          clear hl hpp
          generalize popI xs k = x at hc1 hlt2
          generalize rs[k]?.getD 0 = y at hc2 hlt2
          have hkl : k < (parK (r + r2) xs rs k).length := by simp [parK]; omega
          have hcF := hF.icell hkl
          have hfF := hF.frozen k
          have hzF := hF.lt
          have hS := Lib.hid (hF.iset k (k : Int))
          have hq' := Lib.hid hq
          clear hF hq hkl
          have hnl := Lib.hid (show (wkK xs rs k).length = (asI (wkK xs rs k)).length from (asI_len _).symm)
          go_wp2_with (refine wpl_appendQi rfl (.tmp 45) (.tmp 47) rfl (F + 1) Q cq _ (asI (wkK xs rs k)) rfl hnl.out ?hq _ 1 k rfl ?hc ?hl ?hlo ?hh)
          case hq => exact hq'.out.kept (row := some F) (grown_trans (grown_set _) (grown_alloc _ _)) (fun g' o' e e2 => by
            have := hq'.out.row g' (by rw [e]; rfl)
            injection e2 with e2
            omega)
          case hc =>
            have := (Blk.new (wr.setCell ⟨F, k, none⟩ (.int .i64 k)) 3 #[.int .i64 k]).cell 0
            simpa using this
          case hl => omega
          case hlo => simp; omega
          case hh =>
            intro g1 off1 c' w' hq2 hg2 hat
            have hrow := Lib.hid hq'.out.row
            have hB9 : Hid (Below wc.heap.size wc w') := Lib.hid (lo_grown (lo_alloc (lo_set hB (by simp; omega) _) _) hg2 (fun g' e => by have := hrow.out g' e; omega))
            have hF9 : Hid (Blk w' F 3 (ints (parK (r + r2) xs rs (k + 1)))) := Lib.hid (by
              rw [hp1.out]
              exact (hS.out.alloc _).grown hg2 (fun e => by have := hrow.out F e.symm; omega))
            have hq9 : Hid (Qi w' (F + 1) (some ⟨g1, off1, none⟩) c' (asI (wkK xs rs (k + 1)))) := Lib.hid (by rw [hw1.out]; simpa [asI] using hq2)
            have hl9 : Hid ((wkK xs rs k).length + 1 = (wkK xs rs (k + 1)).length) := Lib.hid (by rw [hw1.out]; simp)
            clear hq2 hg2 hat
            go_wp2
            go_roundw
            case rel => exact ⟨k + 1, _, _, by omega, by go_num, by rw [hl9.out], hq9.out, hB9.out, hF9.out⟩
            case measure => simp [intOf]; omega
        · have hp1 := Lib.hid (show parK (r + r2) xs rs (k + 1) = parK (r + r2) xs rs k by rw [par_step (by omega), if_neg hl])
          have hw1 := Lib.hid (show wkK xs rs (k + 1) = wkK xs rs k by rw [wk_step, if_neg hl, List.append_nil])
          have hlt2 : ¬ ((popI xs k : Nat) : Int) < rs[k]?.getD 0 := by rw [hpp]; simpa [lackR] using hl
          clear hl hpp
          generalize popI xs k = x at hc1 hlt2
          generalize rs[k]?.getD 0 = y at hc2 hlt2
          go_wp2
          go_roundw
          case rel => exact ⟨k + 1, _, _, by omega, by go_num, by rw [hw1.out], by rw [hw1.out]; exact hq, hB, by rw [hp1.out]; exact hF⟩
          case measure => simp [intOf]; omega
      · obtain rfl : k = r := by omega
        clear hlt
        have hbf := Lib.hid (bfs_start (h := k) (n := k + r2) xs rs (ys := ys) (by omega))
        have hq0 : Hid (Qi wr (F + 1) Q cq (asI ((wkK xs rs k).drop 0))) := Lib.hid (by rw [List.drop_zero]; exact hq)
        have hl0 : Hid ((wkK xs rs k).length = (wkK xs rs k).length - 0) := Lib.hid (by omega)
        clear hq
        go_wp2
        go_loopg [11] (k + r2 + 1) (fun f q wr => ∃ (at_ : Nat) (par : List Int) (wk : List Nat) (Q : Option Addr) (cq : Nat), at_ + f = k + r2 + 1 ∧ at_ ≤ wk.length ∧ Hid (srch k (k + r2) xs ys f at_ par wk = srchAll k (k + r2) xs rs ys) ∧ Hid (Bfs k (k + r2) xs rs ys par wk) ∧ q = .slice Q (wk.length - at_) cq ∧ Hid (Qi wr (F + 1) Q cq (asI (wk.drop at_))) ∧ Hid (Below wc.heap.size wc wr) ∧ Hid (Blk wr F 3 (ints par)))
        case atStart => exact ⟨0, _, _, Q, cq, by omega, Nat.zero_le _, Lib.hid rfl, hbf, by rw [← hl0.out], hq0, Lib.hid hB, Lib.hid hF⟩
        case round =>
          clear hq0 hl0 hB hF hbf
          obtain ⟨at_, par, wk, Q, cq, hat, haw, hsr, hbf, rfl, hq, hB, hF⟩ := hrel
          by_cases hne : at_ < wk.length
          · obtain ⟨p, hp⟩ : ∃ p, wk[at_]? = some p := ⟨_, List.getElem?_eq_getElem hne⟩
            have hdr : wk.drop at_ = p :: wk.drop (at_ + 1) := by
              rw [List.drop_eq_getElem_cons hne]
              congr 1
              rw [List.getElem?_eq_getElem hne] at hp
              injection hp
            have hdr2 : asI (wk.drop at_) = (p : Int) :: asI (wk.drop (at_ + 1)) := by rw [hdr]; rfl
            rw [hdr2] at hq
            obtain ⟨gQ, oQ, rfl, hlQ, hzQ, hcQ, hcq0⟩ := hq.out.head
            have hqt := Lib.hid hq.out.tail
            have hlen := wk_len hbf.out
            have hqn : 0 < wk.length - at_ := by omega
            have hpN : p < k + r2 := hbf.out.lt p (List.mem_of_getElem? hp)
            obtain ⟨f, rfl⟩ : ∃ f, gk = f + 1 := ⟨gk - 1, by omega⟩
            have hdr3 := Lib.hid hdr
            have hp' := Lib.hid hp
            clear hdr hdr2 hp
            generalize hL : wk.length - at_ = L at hqn
            have hL' := Lib.hid hL
            clear hL
            go_wp2
            go_loopw [60, 11] (fun i q wr => ∃ (t k' : Nat) (par' : List Int) (wk' : List Nat) (Q : Option Addr) (cq : Nat), t + k' = k + r2 ∧ i = .int .i64 t ∧ at_ < wk'.length ∧ Hid (scan k (k + r2) xs ys p k' par' wk' = scan k (k + r2) xs ys p (k + r2) par wk) ∧ Hid (Bfs k (k + r2) xs rs ys par' wk') ∧ Hid (wk'[at_]? = some p) ∧ q = .slice Q (wk'.length - at_) cq ∧ Hid (Qi wr (F + 1) Q cq (asI (wk'.drop at_))) ∧ Hid (Below wc.heap.size wc wr) ∧ Hid (Blk wr F 3 (ints par'))) (fun i _ _ => k + r2 - (intOf i).toNat)
            case atStart => exact ⟨0, k + r2, par, wk, _, cq, by omega, rfl, hne, Lib.hid rfl, hbf, hp', by rw [hL'.out], Lib.hid (by rw [hdr3.out]; exact hq.out), hB, hF⟩
            case round =>
              clear hB hF hq hdr3 hqt hL' hqn hlen hbf hcQ
              obtain ⟨t, k', par', wk', Q', c', htk, rfl, hne', hsn, hbf', hp2, rfl, hq', hB', hF'⟩ := hrel
              by_cases hlt : t < k + r2
              · obtain ⟨k', rfl⟩ : ∃ j, k' = j + 1 := ⟨k' - 1, by omega⟩
                have htN : k + r2 - (k' + 1) = t := by omega
                have hpl : t < par'.length := by rw [hbf'.out.pl]; exact hlt
                have hcF := hF'.out.icell hpl
                have hfF := hF'.out.frozen t
                have hzF := hF'.out.lt
                by_cases h0 : 0 ≤ par'[t]?.getD 0
                · have hsk : Hid (scan k (k + r2) xs ys p k' par' wk' = scan k (k + r2) xs ys p (k + r2) par wk) := Lib.hid (by
                    rw [← hsn.out, scan, htN, if_pos (by simp [skipB, h0])])
                  clear htN
                  generalize par'[t]?.getD 0 = y at hcF h0
                  go_wp2
                  go_roundw
                  case rel => exact ⟨t + 1, k', par', wk', Q', c', by omega, by go_num, hne', hsk, hbf', hp2, rfl, hq', hB', hF'⟩
                  case measure => simp [intOf]; omega
                · have hs0 : Hid (skipB k xs par' p t = !arrF k xs p t) := Lib.hid (by rw [skipB, decide_eq_false h0, Bool.false_or])
                  generalize par'[t]?.getD 0 = y at hcF h0
                  have hPr := hPc.next hB'.out
                  have c0 := hPr.cell 0
                  have c1 := hPr.cell 1
                  have hzP := hPr.lt
                  have hXr := hXc.next hB'.out
                  have hFl := hF'.out.lt
                  go_wp2_with fail
                  refine (arrow_c r2 k c p t (some ⟨g, 0, none⟩) xs _ hXr hf'.out.ok hpN hlt).mono ?_
                  rintro e w5 ⟨rfl, hb5⟩
                  have hB5 : Hid (Below wc.heap.size wc w5) := Lib.hid (lo_trans hB'.out hb5)
                  have hq5 := Lib.hid (hq'.out.next hb5)
                  have hF5 := Lib.hid (hF'.out.next hb5)
                  clear c0 c1 hPr hzP hXr hcF hfF hzF hFl hB' hq' hF'
                  cases hA : arrF k xs p t with
                  | false =>
                    have hsk : Hid (scan k (k + r2) xs ys p k' par' wk' = scan k (k + r2) xs ys p (k + r2) par wk) := Lib.hid (by
                      rw [← hsn.out, scan, htN, if_pos (by rw [hs0.out, hA]; rfl)])
                    clear htN hA h0 hs0
                    go_wp2
                    go_roundw
                    case rel => exact ⟨t + 1, k', par', wk', Q', c', by omega, by go_num, hne', hsk, hbf', hp2, rfl, hq5, hB5, hF5⟩
                    case measure => simp [intOf]; omega
                  | true =>
                    have hsb : skipB k xs par' p t = false := by rw [hs0.out, hA]; rfl
                    have hbf2 := Lib.hid (bfs_add hbf'.out hlt (List.mem_of_getElem? hp2.out) hsb)
                    have hstep : Hid ((if lackC k xs ys t = true then (some t, par'.set t (p : Int), wk' ++ [t]) else scan k (k + r2) xs ys p k' (par'.set t (p : Int)) (wk' ++ [t])) = scan k (k + r2) xs ys p (k + r2) par wk) := Lib.hid (by
                      rw [← hsn.out, scan, htN, hsb]; rfl)
                    have hwl2 := wk_len hbf2.out
                    rw [List.length_append, List.length_singleton] at hwl2
                    have hnl := Lib.hid (show wk'.length - at_ = (asI (wk'.drop at_)).length by rw [asI_len, List.length_drop])
                    have hdp : Hid (asI ((wk' ++ [t]).drop at_) = asI (wk'.drop at_) ++ [(t : Int)]) := Lib.hid (by
                      rw [List.drop_append_of_le_length (by omega), asI, asI, List.map_append]; rfl)
                    have hl9 : Hid (wk'.length - at_ + 1 = (wk' ++ [t]).length - at_) := Lib.hid (by rw [List.length_append, List.length_singleton]; omega)
                    have hp3 : Hid ((wk' ++ [t])[at_]? = some p) := Lib.hid (by rw [List.getElem?_append_left hne']; exact hp2.out)
                    have hix9 : Hid ((wk' ++ [t])[wk'.length]? = some t) := Lib.hid (by rw [List.getElem?_append_right (Nat.le_refl _), Nat.sub_self]; rfl)
                    have hat3 : Hid (at_ < (wk' ++ [t]).length) := Lib.hid (by rw [List.length_append]; omega)
                    have hLb : wk'.length - at_ ≤ 2000 := by omega
                    have hcF := hF5.out.icell hpl
                    have hfF := hF5.out.frozen t
                    have hzF := hF5.out.lt
                    have hS := Lib.hid (hF5.out.iset t (p : Int))
                    clear htN hA h0 hs0 hsb hsn hF5 hwl2 hp2 hbf'
                    generalize wk'.length - at_ = L at hnl hl9 hLb
                    go_wp2_with (refine wpl_appendQi rfl (.tmp 79) (.tmp 81) rfl (F + 1) Q' c' _ (asI (wk'.drop at_)) rfl hnl.out ?hq _ 1 t rfl ?hc ?hl ?hlo ?hh)
                    case hq => exact hq5.out.kept (row := some F) (grown_trans (grown_set _) (grown_alloc _ _)) (fun g' o' e e2 => by
                      have := hq5.out.row g' (by rw [e]; rfl)
                      injection e2 with e2
                      omega)
                    case hc =>
                      have := (Blk.new (w5.setCell ⟨F, t, none⟩ (.int .i64 p)) 3 #[.int .i64 t]).cell 0
                      simpa using this
                    case hl => have := hnl.out; omega
                    case hlo => simp; omega
                    case hh =>
                      intro g1 off1 c9 w' hq2 hg2 hat2
                      have hrow := Lib.hid hq5.out.row
                      have hB9 : Hid (Below wc.heap.size wc w') := Lib.hid (lo_grown (lo_alloc (lo_set hB5.out (by simp; omega) _) _) hg2 (fun g' e => by have := hrow.out g' e; omega))
                      have hF9 : Hid (Blk w' F 3 (ints (par'.set t (p : Int)))) := Lib.hid ((hS.out.alloc _).grown hg2 (fun e => by have := hrow.out F e.symm; omega))
                      have hq9 : Hid (Qi w' (F + 1) (some ⟨g1, off1, none⟩) c9 (asI ((wk' ++ [t]).drop at_))) := Lib.hid (by rw [hdp.out]; exact hq2)
                      clear hq2 hg2 hat2 hcF hfF hzF hrow hS hB5 hq5
                      by_cases hk1 : k ≤ t
                      · obtain ⟨q, hpq⟩ : ∃ q, Hid (t = k + q) := ⟨t - k, Lib.hid (by omega)⟩
                        have hqm : q < r2 := by have := hpq.out; omega
                        have hw : IntKind.i64.wrap ((t : Int) - k) = (q : Int) := by rw [IntKind.wrap_i64]; have := hpq.out; omega
                        obtain ⟨bo, off, hRe, hbz, hc1⟩ := (hO2.rd.next hB9.out).at_ hqm
                        obtain ⟨bo2, off2, hBe, hbz2, hc2⟩ := (hsc.next hB9.out).at_ hqm
                        rw [csum_get r2 xs hqm] at hc1
                        subst hRe
                        subst hBe
                        by_cases hl : ((ccnt xs q : Nat) : Int) < ys[q]?.getD 0
                        · have hres : Hid (nextX k r2 rs ys xs = some (flipB k (par'.set t (p : Int)) (k + r2 + 1) xs t)) := Lib.hid (by
                            rw [nextX, ← hsr.out, srch, hp'.out]
                            simp only
                            rw [← hstep.out, lackC, hpq.out, Nat.add_sub_cancel_left, decide_eq_true hl, decide_eq_true (by omega)]
                            rfl)
                          clear hstep
                          generalize ((ccnt xs q : Nat) : Int) = x at hc1 hl
                          generalize ys[q]?.getD 0 = y2 at hc2 hl
                          have hPr := hPc.next hB9.out
                          have c0 := hPr.cell 0
                          have c1 := hPr.cell 1
                          have hzP := hPr.lt
                          go_wp2
                          go_region
                          go_wp2_with fail
                          refine (changeBack_c r2 k c g (g + 1) _ _ xs xs rs ys (par'.set t (p : Int)) (wk' ++ [t]) wk'.length t _ (by first | exact (hbc.next hB9.out).drew | exact hbc.next hB9.out) hf'.out.ok hf'.out.len (Own.of_blk (by first | exact hF9.out.drew | exact hF9.out) (by omega) hbf2.out.pl) (by omega) hbf2.out hix9.out).mono ?_
                          rintro e w6 ⟨rfl, hb6, hg6⟩
                          go_wp2
                          go_ret
                          exact ⟨ret_bool (by rw [hres.out]; rfl), by rw [hres.out]; exact hb6, grown_trans (grown_of_below hBc (some g)) (grown_trans (grown_of_below hB9.out (some g)) (grown_trans (grown_drew (some g)) hg6))⟩
                        · have hsk : Hid (scan k (k + r2) xs ys p k' (par'.set t (p : Int)) (wk' ++ [t]) = scan k (k + r2) xs ys p (k + r2) par wk) := Lib.hid (by
                            rw [← hstep.out, lackC, hpq.out, Nat.add_sub_cancel_left, decide_eq_false hl, Bool.and_false]
                            rfl)
                          clear hstep
                          generalize ((ccnt xs q : Nat) : Int) = x at hc1 hl
                          generalize ys[q]?.getD 0 = y2 at hc2 hl
                          go_wp2
                          go_region
                          go_wp2
                          go_roundw
                          case rel => exact ⟨t + 1, k', par'.set t (p : Int), wk' ++ [t], _, _, by omega, by go_num, hat3.out, hsk, hbf2, hp3, by rw [hl9.out], Lib.hid (qi_drew hq9.out), Lib.hid (Below.drew hB9.out), Lib.hid hF9.out.drew⟩
                          case measure => simp [intOf]; omega
                      · have hsk : Hid (scan k (k + r2) xs ys p k' (par'.set t (p : Int)) (wk' ++ [t]) = scan k (k + r2) xs ys p (k + r2) par wk) := Lib.hid (by
                          rw [← hstep.out, lackC, decide_eq_false hk1, Bool.false_and]
                          rfl)
                        clear hstep
                        go_wp2
                        go_region
                        go_wp2
                        go_roundw
                        case rel => exact ⟨t + 1, k', par'.set t (p : Int), wk' ++ [t], _, _, by omega, by go_num, hat3.out, hsk, hbf2, hp3, by rw [hl9.out], Lib.hid (qi_drew hq9.out), Lib.hid (Below.drew hB9.out), Lib.hid hF9.out.drew⟩
                        case measure => simp [intOf]; omega
              · obtain rfl : k' = 0 := by omega
                obtain rfl : t = k + r2 := by omega
                have hnx : Hid (srch k (k + r2) xs ys f (at_ + 1) par' wk' = srchAll k (k + r2) xs rs ys) := Lib.hid (by
                  rw [← hsr.out, srch, hp'.out]
                  simp only
                  rw [← hsn.out, scan])
                have hdr : wk'.drop at_ = p :: wk'.drop (at_ + 1) := by
                  rw [List.drop_eq_getElem_cons hne']
                  congr 1
                  have h9 := hp2.out
                  rw [List.getElem?_eq_getElem hne'] at h9
                  injection h9
                have hdr2 : asI (wk'.drop at_) = (p : Int) :: asI (wk'.drop (at_ + 1)) := by rw [hdr]; rfl
                have hq9 := hq'.out
                rw [hdr2] at hq9
                obtain ⟨gR, oR, rfl, hlR, hzR, hcR, hcR0⟩ := hq9.head
                have hqt := Lib.hid hq9.tail
                have hle9 := hq9.1
                have hL9 := Lib.hid (show wk'.length - at_ - 1 = wk'.length - (at_ + 1) by omega)
                have hLc : wk'.length - at_ ≤ c' := by simp [asI] at hle9; omega
                have hLp : 1 ≤ wk'.length - at_ := by omega
                have hat9 := Lib.hid (show at_ + 1 ≤ wk'.length by omega)
                clear hdr hdr2 hq9 hq' hle9 hne' hne haw
                generalize wk'.length - at_ = L at hL9 hLc hLp
                by_cases hc9 : c' = 1
                · have hq8 : Hid (Qi wr (F + 1) (some ⟨gR, oR, none⟩) (c' - 1) (asI (wk'.drop (at_ + 1)))) := Lib.hid (by have := hqt.out; rwa [if_pos hc9] at this)
                  go_wp2
                  go_roundg f
                  case measure => omega
                  case rel => exact ⟨at_ + 1, par', wk', _, _, by omega, hat9.out, hnx, hbf', by rw [← hL9.out, hc9], hq8, hB', hF'⟩
                · have hq8 : Hid (Qi wr (F + 1) (some ⟨gR, oR + 1, none⟩) (c' - 1) (asI (wk'.drop (at_ + 1)))) := Lib.hid (by have := hqt.out; rwa [if_neg hc9] at this)
                  go_wp2
                  go_roundg f
                  case measure => omega
                  case rel => exact ⟨at_ + 1, par', wk', _, _, by omega, hat9.out, hnx, hbf', by rw [← hL9.out], hq8, hB', hF'⟩
          · have hw0 : wk.length - at_ = 0 := by omega
            have hres : Hid (nextX k r2 rs ys xs = none) := Lib.hid (by
              have hs := hsr.out
              have hnn : wk[at_]? = none := List.getElem?_eq_none (by omega)
              unfold nextX
              rw [← hs]
              cases gk with
              | zero => rw [srch]
              | succ f => rw [srch, hnn])
            rw [hw0]
            go_wp2
            go_ret
            exact ⟨ret_bool (by rw [hres.out]; rfl), by rw [hres.out]; exact hbc.next hB.out, grown_trans (grown_of_below hBc (some g)) (grown_of_below hB.out (some g))⟩
end Go.Proofs.YtkcdoacojiilaaaGreat
