/- Plain facts and walks that the law's proof uses; each says its own conditions. -/
import Derived.Test.YtpeiolimdglmhaaGreatDoorZ14
import Derived.Test.YtpeiolimdglmhaaGreatDoorZ16
import Derived.Test.YtpeiolimdglmhaaGreatDoorZ29
import Derived.Test.YtpeiolimdglmhaaGreatDoorZ17
import Derived.Deep.QuietTactic
import Derived.BigQuiet
-- Walks: the image that is built of sums, exactly.
namespace Go.Proofs.YtpeiolimdglmhaaGreatDoor
open Go.RowKit Go.Shelf
set_option maxRecDepth 100000

theorem map_plc_set {n k c : Nat} {O : List Int} (A B : Nat → Int) (ho : ∀ j : Nat, j < n → (j : Int) ∈ O) (hcn : c < n) (hc : plc O (c : Int) = k) :
    ((List.range n).map (fun j : Nat => if plc O (j : Int) < k then A j else B j)).set c (A c) = (List.range n).map (fun j : Nat => if plc O (j : Int) < k + 1 then A j else B j) := by
  apply List.ext_getElem
  · simp
  · intro i h1 h2
    have hi : i < n := by simpa using h2
    rw [List.getElem_set]
    simp only [List.getElem_map, List.getElem_range]
    by_cases e : c = i
    · subst e
      rw [if_pos rfl, if_pos (by omega)]
    · rw [if_neg e]
      have hne : plc O (i : Int) ≠ k := by
        intro h
        have g1 := plc_get (ho i hi)
        have g2 := plc_get (ho c hcn)
        rw [h, ← hc, g2] at g1
        injection g1 with g1
        omega
      by_cases hl : plc O (i : Int) < k
      · rw [if_pos hl, if_pos (by omega)]
      · rw [if_neg hl, if_neg (by omega)]
theorem WInv.nextX {w wr w3 : World} {o g n m : Nat} {xs : List Int} (h : WInv w wr o g n m xs) (hb : Below wr.heap.size wr w3) : WInv w w3 o g n m xs :=
  ⟨lo_trans h.1 hb, h.2.1.next hb, h.2.2.1.next hb, h.2.2.2.next hb⟩
/-- the image's rows and what is left, amid column j -/
def bRow (h : Nat) (xs ys : List Int) (j k : Nat) : List Int := (List.range h).map (fun i : Nat => if plc (ordL (leftL h xs ys j)) (i : Int) < k then ((mkRow (bldF h xs ys i) j + 2 ^ j : Nat) : Int) else ((mkRow (bldF h xs ys i) j : Nat) : Int))
def bLef (h : Nat) (xs ys : List Int) (j k : Nat) : List Int := (List.range h).map (fun i : Nat => if plc (ordL (leftL h xs ys j)) (i : Int) < k then (leftL h xs ys j)[i]?.getD 0 - 1 else (leftL h xs ys j)[i]?.getD 0)
theorem bRow_len (h : Nat) (xs ys : List Int) (j k : Nat) : (bRow h xs ys j k).length = h := by simp [bRow]
theorem bLef_len (h : Nat) (xs ys : List Int) (j k : Nat) : (bLef h xs ys j k).length = h := by simp [bLef]
theorem bRow_zero (h : Nat) (xs ys : List Int) (j : Nat) : bRow h xs ys j 0 = img (bldF h xs ys) h j := by simp [bRow, img]
theorem bRow_start (h : Nat) (xs ys : List Int) : bRow h xs ys 0 0 = List.replicate h 0 := by
  rw [bRow_zero]
  apply List.ext_getElem <;> simp [img, mkRow]
theorem bRow_end (h : Nat) (xs ys : List Int) (j : Nat) : bRow h xs ys j (ys[j]?.getD 0).toNat = bRow h xs ys (j + 1) 0 := by
  rw [bRow_zero, bRow, img]
  refine List.map_congr_left (fun i _ => ?_)
  by_cases hp : plc (ordL (leftL h xs ys j)) (i : Int) < (ys[j]?.getD 0).toNat
  · rw [if_pos hp, mkRow_step_t (by simp [bldF, hp])]
  · rw [if_neg hp, mkRow_step_f (by simp only [bldF, hp, decide_false])]
theorem bLef_zero {h : Nat} {xs : List Int} (ys : List Int) (hx : xs.length = h) (j : Nat) : bLef h xs ys j 0 = leftL h xs ys j := by
  have hl := leftL_len ys hx j
  apply List.ext_getElem
  · rw [bLef_len, hl]
  · intro i h1 h2
    simp [bLef, List.getElem?_eq_getElem h2]
theorem bLef_end (h : Nat) (xs ys : List Int) (j : Nat) : bLef h xs ys j (ys[j]?.getD 0).toNat = leftL h xs ys (j + 1) := by
  rw [bLef, leftL]
  refine List.map_congr_left (fun i _ => ?_)
  by_cases hp : plc (ordL (leftL h xs ys j)) (i : Int) < (ys[j]?.getD 0).toNat
  · rw [if_pos hp]; simp [hp, b1]
  · rw [if_neg hp]; simp only [hp, decide_false, b1]; simp
theorem bRow_at {h : Nat} {xs ys : List Int} {j k p : Nat} (hp : p < h) (hk : plc (ordL (leftL h xs ys j)) (p : Int) = k) : (bRow h xs ys j k)[p]?.getD 0 = ((mkRow (bldF h xs ys p) j : Nat) : Int) := by
  simp [bRow, List.getElem?_map, List.getElem?_range hp, hk]
theorem bLef_at {h : Nat} {xs ys : List Int} {j k p : Nat} (hp : p < h) (hk : plc (ordL (leftL h xs ys j)) (p : Int) = k) : (bLef h xs ys j k)[p]?.getD 0 = (leftL h xs ys j)[p]?.getD 0 := by
  simp [bLef, List.getElem?_map, List.getElem?_range hp, hk]
theorem ord_all {h : Nat} {xs : List Int} (ys : List Int) (hx : xs.length = h) (j : Nat) : ∀ i : Nat, i < h → (i : Int) ∈ ordL (leftL h xs ys j) := fun i hi => ordL_mem.2 ⟨by omega, by rw [leftL_len ys hx]; omega⟩
theorem bRow_set {h : Nat} {xs ys : List Int} {j k p : Nat} (hx : xs.length = h) (hp : p < h) (hk : plc (ordL (leftL h xs ys j)) (p : Int) = k) : (bRow h xs ys j k).set p ((mkRow (bldF h xs ys p) j ^^^ 2 ^ j : Nat) : Int) = bRow h xs ys j (k + 1) := by
  rw [mkRow_xor]
  exact map_plc_set (fun i => ((mkRow (bldF h xs ys i) j + 2 ^ j : Nat) : Int)) (fun i => ((mkRow (bldF h xs ys i) j : Nat) : Int)) (ord_all ys hx j) hp hk
theorem bLef_set {h : Nat} {xs ys : List Int} {j k p : Nat} (hx : xs.length = h) (hp : p < h) (hk : plc (ordL (leftL h xs ys j)) (p : Int) = k) : (bLef h xs ys j k).set p ((leftL h xs ys j)[p]?.getD 0 - 1) = bLef h xs ys j (k + 1) :=
  map_plc_set (fun i => (leftL h xs ys j)[i]?.getD 0 - 1) (fun i => (leftL h xs ys j)[i]?.getD 0) (ord_all ys hx j) hp hk
theorem leftL_bd {h : Nat} {xs : List Int} (ys : List Int) (hx : xs.length = h) (hb : ∀ x ∈ xs, 0 ≤ x ∧ x ≤ 6) : ∀ j i : Nat, i < h → -(j : Int) ≤ (leftL h xs ys j)[i]?.getD 0 ∧ (leftL h xs ys j)[i]?.getD 0 ≤ 6
  | 0, i, hi => by
    have := hb (xs[i]?.getD 0) (mem_at (by omega))
    simpa [leftL] using this
  | j + 1, i, hi => by
    have h1 := leftL_bd ys hx hb j i hi
    have h2 := b1_le (bldF h xs ys i j)
    rw [leftL_at xs ys hi]
    omega
theorem leftL_mem {h : Nat} {xs : List Int} (ys : List Int) (hx : xs.length = h) (hb : ∀ x ∈ xs, 0 ≤ x ∧ x ≤ 6) (j : Nat) : ∀ x ∈ leftL h xs ys j, -(j : Int) ≤ x ∧ x ≤ 6 := by
  intro x hm
  obtain ⟨i, hi, rfl⟩ := List.mem_iff_getElem.1 hm
  have := leftL_bd ys hx hb j i (by rw [leftL_len ys hx] at hi; exact hi)
  rwa [List.getElem?_eq_getElem hi, Option.getD_some] at this
set_option maxHeartbeats 4000000 in
theorem greatest_x (lo gl n c m : Nat) (L : List Int) (w : World) (hr : Own w lo (some ⟨gl, 0, none⟩) n L) (hn0 : 0 < n) (hn : n ≤ 6) (hm : m ≤ n) (hL : ∀ x ∈ L, -1000 ≤ x ∧ x ≤ 1000) :
    Calls Tryz.prog 68 #[.slice (some ⟨gl, 0, none⟩) n c, .int .i64 m] w fun e w' => e = .returned (.slice (some ⟨w.heap.size + 1, 0, none⟩) m n) ∧ Below w.heap.size w w' ∧ Own w' w.heap.size (some ⟨w.heap.size + 1, 0, none⟩) n (ordL L) := by
  have hL' := Lib.hid hL; clear hL
  have h1 : (m : Int) ≤ (n : Int) := by omega
  have h2 : (0 : Int) ≤ (m : Int) := by omega
  have h3 : ¬ n = 0 := by omega
  go_enter Tryz.func68, Tryz.ntmps68
  go_wp2_with fail
  refine (descending_x lo gl n c L _ hr hn0 hn hL'.out).mono ?_
  rintro e w1 ⟨rfl, hb1, ho1⟩
  go_wp2
  go_ret
  exact ⟨rfl, hb1, ho1⟩

set_option maxHeartbeats 8000000 in
theorem BuildImage_x (A B : Option Addr) (n m c d : Nat) (xs ys : List Int) (w : World) (hr : Rd w A n xs) (hq : Rd w B m ys) (hn : n ≤ 1048576) (hm : m ≤ 1048576) :
    Calls Tryz.prog 33 #[.slice A n c, .slice B m d] w fun e w' => ∃ (R : Option Addr) (r k : Nat), e = .returned (.tuple #[.agg #[.int .i64 (bldW xs ys), .slice R r k], .bool (consB xs ys)]) ∧ Below w.heap.size w w' ∧ Own w' w.heap.size R r (bldX xs ys) := by
  have hrA := hr.alloc (.cells #[.int .i64 0, .slice none 0 0] 25)
  have hqA := hq.alloc (.cells #[.int .i64 0, .slice none 0 0] 25)
  cases hc : consB xs ys with
  | false =>
    have hbW := Lib.hid (show bldW xs ys = 0 by rw [bldW, hc]; rfl)
    have hbX := Lib.hid (show bldX xs ys = [] by rw [bldX, hc]; rfl)
    have hL0 := lo_alloc (Below.refl w.heap.size w) (.cells #[.int .i64 0, .slice none 0 0] 25)
    have hK0 := Blk.new w 25 #[.int .i64 0, .slice none 0 0]
    go_enter Tryz.func33, Tryz.ntmps33
    go_wp2_with fail
    refine (SumsConsistent_c _ _ _ _ _ _ xs ys _ hrA hqA hn hm).mono ?_
    rw [hc]
    rintro e w1 ⟨rfl, hb1⟩
    have hK1 := hK0.next hb1
    have c0 := hK1.cell 0
    have c1 := hK1.cell 1
    have f0 := hK1.frozen 0
    have f1 := hK1.frozen 1
    have hz := hK1.lt
    have hF := (hK1.set_ 0 (.int .i64 0)).set_ 1 (.slice none 0 0)
    have r0 := hF.cell 0
    have r1 := hF.cell 1
    have hL1 : Below w.heap.size w ((w1.setCell ⟨w.heap.size, 0, none⟩ (.int .i64 0)).setCell ⟨w.heap.size, 1, none⟩ (.slice none 0 0)) := lo_set (lo_set (lo_trans hL0 hb1) (Nat.le_refl _) _) (Nat.le_refl _) _
    clear hF hK1 hK0
    go_wp2
    refine bodyPost_ret (v := .tuple #[.agg #[.int .i64 0, .slice none 0 0], .bool false]) (by simp [results, Tryz.results33, go_sem, r0, r1]) rfl ⟨none, 0, 0, by rw [hbW.out], hL1, by rw [hbX.out]; exact Own.nil_ _ _ _⟩
  | true =>
    have hbW := Lib.hid (show bldW xs ys = (m : Int) by rw [bldW, hc, if_pos rfl, hq.1])
    have hbX := Lib.hid (show bldX xs ys = img (bldF n xs ys) n m by rw [bldX, hc, if_pos rfl, hr.1, hq.1])
    have hxl := Lib.hid hr.1
    have hxb := Lib.hid (show ∀ x ∈ xs, 0 ≤ x ∧ x ≤ 6 from fun x hx => by have h1 := (sV_out (consB_iff.1 hc).1); have := h1.2.2.2.2.1 x hx; omega)
    have hv : sV xs ys = true := (consB_iff.1 hc).1
    obtain ⟨q1, q2, q3, q4, q5, q6⟩ := sV_out hv
    rw [hq.1] at q3 q4 q5
    rw [hr.1] at q1 q2 q6
    have hyn := Lib.hid q6
    have hyl := Lib.hid hq.1
    clear q5 q6 hv
    have hL0 := lo_alloc (Below.refl w.heap.size w) (.cells #[.int .i64 0, .slice none 0 0] 25)
    have hK0 := Blk.new w 25 #[.int .i64 0, .slice none 0 0]
    go_enter Tryz.func33, Tryz.ntmps33
    go_wp2_with fail
    refine (SumsConsistent_c _ _ _ _ _ _ xs ys _ hrA hqA hn hm).mono ?_
    rw [hc]
    rintro e w1 ⟨rfl, hb1⟩
    go_wp2_with fail
    refine (emptyImage_c n m _ (by omega)).mono ?_
    rintro e w2 ⟨g, rfl, hb2, hk2, hg1, hg2⟩
    have hK2 := (hK0.next hb1).next hb2
    have hL2 := lo_trans (lo_trans hL0 hb1) hb2
    have hs1 := hb1.size
    rw [World.size_alloc] at hs1
    have hgw : w.heap.size < g := by omega
    obtain ⟨o, ho⟩ : ∃ o, o = w2.heap.size := ⟨_, rfl⟩
    obtain ⟨w3, hw3⟩ : ∃ w3, w3 = w2.alloc (.cells #[.int .i64 m, .slice (some ⟨g, 0, none⟩) n n] 25) := ⟨_, rfl⟩
    have hI3 : WInv w w3 o g n m (List.replicate n 0) := by
      rw [hw3]
      exact ⟨lo_alloc hL2 _, hK2.alloc _, by rw [ho]; exact Blk.new _ _ _, hk2.alloc _⟩
    have hgo : g < o := by omega
    have ho3 : o < w3.heap.size := by rw [hw3, ho]; simp
    clear hk2 hK2 hL2 hL0 hK0 hb1 hb2 hrA hqA hg1 hg2 hs1
    go_wp2_with fail
    rw [← ho, ← hw3]
    have ho' := Lib.hid ho; clear ho
    have hw3' := Lib.hid hw3; clear hw3
    refine (Clone_c2 A n c xs _ (hr.next hI3.1) (by omega) hn).mono ?_
    rintro e w4 ⟨gl, cl, rfl, hb4, hO4, hcl1, hcl2⟩
    have hgl : o < gl := by
      obtain ⟨g', e', h', _⟩ := hO4.at_ (k := 0) (by omega)
      cases e'
      omega
    have hI4 : WInv w w4 o g n m (bRow n xs ys 0 0) := by rw [bRow_start]; exact hI3.nextX hb4
    have hO4' : Own w4 w.heap.size (some ⟨gl, 0, none⟩) n (leftL n xs ys 0) := hO4.mono (by omega)
    clear hI3 hb4 hO4
    go_wp2
    go_loopw [26] (fun i wr => ∃ j : Nat, j ≤ m ∧ i = .int .i64 j ∧ WInv w wr o g n m (bRow n xs ys j 0) ∧ Own wr w.heap.size (some ⟨gl, 0, none⟩) n (leftL n xs ys j)) (fun i _ => m - (intOf i).toNat)
    case atStart => exact ⟨0, Nat.zero_le _, rfl, hI4, hO4'⟩
    case round =>
      clear hI4 hO4'
      obtain ⟨j, hj, rfl, hI, hOl⟩ := hrel
      by_cases hlt : j < m
      · obtain ⟨b, off, rfl, hb, hcy⟩ := (hq.next hI.1).at_ hlt
        have hyb := hyn.out _ (mem_at (show j < ys.length by rw [hyl.out]; exact hlt))
        obtain ⟨s, hse⟩ : ∃ s : Nat, ys[j]?.getD 0 = (s : Int) := ⟨_, (Int.toNat_of_nonneg hyb.1).symm⟩
        rw [hse] at hcy hyb
        have hRe := Lib.hid (bRow_end n xs ys j)
        have hLe := Lib.hid (bLef_end n xs ys j)
        rw [hse, Int.toNat_natCast] at hRe hLe
        have hLz := Lib.hid (bLef_zero ys hxl.out j)
        have hse' := Lib.hid hse; clear hse
        have hsn : s ≤ n := by omega
        have hj6 : j ≤ 5 := by omega
        have hLm := Lib.hid (leftL_mem ys hxl.out hxb.out j)
        have hOlen := Lib.hid (show (leftL n xs ys j).length = n from leftL_len ys hxl.out j)
        go_wp2_with fail
        refine (greatest_x w.heap.size gl n cl s (leftL n xs ys j) _ hOl (by omega) q2 hsn (fun x hx => by have := hLm.out x hx; omega)).mono ?_
        rintro e w5 ⟨rfl, hb5, hO5⟩
        have hI5 := hI.nextX hb5
        have hOl5 := hOl.next hb5
        rw [← hLz.out] at hOl5
        obtain ⟨go, hgo5⟩ : ∃ go, go = wr.heap.size + 1 := ⟨_, rfl⟩
        have hglt := hOl.ltAt (k := 0) (by omega)
        have hglgo : gl < go := by omega
        rw [← hgo5] at hO5 ⊢
        have hgo5' := Lib.hid hgo5; clear hgo5
        clear hI hb5 hb hcy hyb hOl
        obtain ⟨wo, rfl⟩ : ∃ wo : World, wo = wr := ⟨_, rfl⟩
        go_wp2
        go_loopw [35] (fun i wr => ∃ k : Nat, k ≤ s ∧ i = .int .i64 k ∧ WInv w wr o g n m (bRow n xs ys j k) ∧ Own wr w.heap.size (some ⟨gl, 0, none⟩) n (bLef n xs ys j k) ∧ Own wr wo.heap.size (some ⟨go, 0, none⟩) n (ordL (leftL n xs ys j))) (fun i _ => s - (intOf i).toNat)
        case atStart => exact ⟨0, Nat.zero_le _, rfl, hI5, hOl5, hO5⟩
        case round =>
          clear hI5 hO5 hOl5
          obtain ⟨k, hk, rfl, hI, hOl, hO⟩ := hrel
          by_cases hlt2 : k < s
          · obtain ⟨g', e', _, hzo, ck, _, _⟩ := hO.at_ (k := k) (by omega)
            cases e'
            obtain ⟨p, hp1, hp2, hp3⟩ := ordL_at (L := leftL n xs ys j) (k := k) (by rw [hOlen.out]; omega)
            rw [hOlen.out] at hp2
            rw [hp1] at ck
            have hset := Lib.hid (bRow_set hxl.out hp2 hp3)
            have hsetL := Lib.hid (bLef_set hxl.out hp2 hp3)
            have hrat := bRow_at (h := n) (xs := xs) (ys := ys) (j := j) hp2 hp3
            have hlat := Lib.hid (bLef_at (h := n) (xs := xs) (ys := ys) (j := j) hp2 hp3)
            have hlb := leftL_bd ys hxl.out hxb.out j p hp2
            clear hp1 hp3
            have hr64 := mkRow_lt64 (bldF n xs ys p) j (by omega)
            obtain ⟨_, _, _, _, c2, c3⟩ := hI.cells
            go_wp2_with fail
            refine (flip_c g n n p j _ _ m _ hI.2.2.2 hp2 (by rw [bRow_len]; exact hp2) (by omega) hr64 hrat).mono ?_
            rintro _ w6 ⟨rfl, hk6, hg6⟩
            rw [hset.out] at hk6
            have hI6 := hI.step hgw (by omega) hg6 hk6
            have hO6 := hO.grown hg6 (by rintro g' ⟨⟩ e; injection e; omega)
            have hOl6 := hOl.grown hg6 (by rintro g' ⟨⟩ e; injection e; omega)
            clear hI hO hOl hk6 hg6 c2 c3 hrat ck hr64 hset
            obtain ⟨_, hz, cl6, fl6, ss6⟩ := hOl6.cellSet' (k := p) hp2
            rw [hlat.out] at cl6
            generalize (leftL n xs ys j)[p]?.getD 0 = v at cl6 hlb hsetL
            have hOl7 := ss6 (v - 1)
            rw [hsetL.out] at hOl7
            have hI7 : WInv w (w6.setCell ⟨gl, p, none⟩ (.int .i64 (v - 1))) o g n m (bRow n xs ys j (k + 1)) :=
              ⟨lo_set hI6.1 (by simp; omega) _, hI6.2.1.far (by simp; omega) _, hI6.2.2.1.far (by simp; omega) _, hI6.2.2.2.far (by simp; omega) _⟩
            have hO7 := hO6.far (p := ⟨gl, p, none⟩) (by rintro g' ⟨⟩; exact fun e => by simp at e; omega) (.int .i64 (v - 1))
            clear hI6 hO6 ss6 hsetL
            go_wp2
            go_roundw
            case rel => exact ⟨k + 1, by omega, by go_num, hI7, hOl7, hO7⟩
            case measure => simp [intOf]; omega
          · obtain rfl : k = s := by omega
            rw [hRe.out] at hI
            rw [hLe.out] at hOl
            clear hO
            go_wp2
            go_roundw
            case rel => exact ⟨j + 1, by omega, by go_num, hI, hOl⟩
            case measure => simp [intOf]; omega
      · obtain rfl : j = m := by omega
        obtain ⟨c0, c1, f0, f1, c2, c3⟩ := hI.cells
        have hz := hI.2.1.lt
        have hF := (hI.2.1.set_ 0 (.int .i64 (j : Int))).set_ 1 (.slice (some ⟨g, 0, none⟩) n n)
        have r0 := hF.cell 0
        have r1 := hF.cell 1
        have hL1 := lo_set (lo_set hI.1 (p := ⟨w.heap.size, 0, none⟩) (Nat.le_refl _) (.int .i64 (j : Int))) (p := ⟨w.heap.size, 1, none⟩) (Nat.le_refl _) (.slice (some ⟨g, 0, none⟩) n n)
        have hG := (hI.2.2.2.far (p := ⟨w.heap.size, 0, none⟩) (by simp; omega) (.int .i64 (j : Int))).far (p := ⟨w.heap.size, 1, none⟩) (by simp; omega) (.slice (some ⟨g, 0, none⟩) n n)
        rw [bRow_zero] at hG
        have hOf := Own.of_blk (lo := w.heap.size) hG (by omega) (img_len _ _ _)
        clear hF hI hG
        go_wp2
        refine bodyPost_ret (v := .tuple #[.agg #[.int .i64 j, .slice (some ⟨g, 0, none⟩) n n], .bool true]) (by simp [results, Tryz.results33, go_sem, r0, r1]) rfl ⟨_, _, _, by rw [hbW.out], hL1, by rw [hbX.out]; exact hOf⟩
end Go.Proofs.YtpeiolimdglmhaaGreatDoor

-- Plain mathematics: the free row with the most cells to come (the reference's way).
namespace Go.Proofs.YtpeiolimdglmhaaGreatDoor

/-- i rows are looked at; b is the best free one so far -/
def BestI (L : List Int) (k i : Nat) (b : Int) : Prop :=
  (b = -1 ∧ ∀ p : Nat, p < i → plc (ordL L) (p : Int) < k) ∨ (∃ q : Nat, b = (q : Int) ∧ q < i ∧ k ≤ plc (ordL L) (q : Int) ∧ ∀ p : Nat, p < i → k ≤ plc (ordL L) (p : Int) → p = q ∨ befL L (q : Int) (p : Int))
theorem BestI.zero (L : List Int) (k : Nat) : BestI L k 0 (-1) := .inl ⟨rfl, fun p h => absurd h (by omega)⟩
theorem BestI.skip {L : List Int} {k i : Nat} {b : Int} (h : BestI L k i b) (hp : plc (ordL L) (i : Int) < k) : BestI L k (i + 1) b := by
  rcases h with ⟨e, h⟩ | ⟨q, e, h1, h2, h3⟩
  · refine .inl ⟨e, fun p hlt => ?_⟩
    rcases Nat.lt_or_ge p i with h4 | h4
    · exact h p h4
    · obtain rfl : p = i := by omega
      exact hp
  · refine .inr ⟨q, e, by omega, h2, fun p hlt hpk => ?_⟩
    rcases Nat.lt_or_ge p i with h4 | h4
    · exact h3 p h4 hpk
    · obtain rfl : p = i := by omega
      omega
theorem BestI.first {L : List Int} {k i : Nat} (h : BestI L k i (-1)) (hp : k ≤ plc (ordL L) (i : Int)) : BestI L k (i + 1) (i : Int) := by
  rcases h with ⟨_, h⟩ | ⟨q, e, h1, h2, h3⟩
  · refine .inr ⟨i, rfl, by omega, hp, fun p hlt hpk => ?_⟩
    rcases Nat.lt_or_ge p i with h4 | h4
    · have := h p h4; omega
    · exact .inl (by omega)
  · omega
theorem BestI.more {L : List Int} {k i q : Nat} (h : BestI L k i (q : Int)) (hp : k ≤ plc (ordL L) (i : Int)) (hv : L[q]?.getD 0 < L[i]?.getD 0) : BestI L k (i + 1) (i : Int) := by
  rcases h with ⟨e, _⟩ | ⟨q', e, h1, h2, h3⟩
  · omega
  · obtain rfl : q = q' := by omega
    refine .inr ⟨i, rfl, by omega, hp, fun p hlt hpk => ?_⟩
    rcases Nat.lt_or_ge p i with h4 | h4
    · refine .inr (.inl ?_)
      rcases h3 p h4 hpk with rfl | h5
      · simpa [keyL] using hv
      · simp only [befL, keyL, Int.toNat_natCast] at h5 ⊢
        omega
    · exact .inl (by omega)
theorem BestI.keep {L : List Int} {k i q : Nat} (h : BestI L k i (q : Int)) (hv : L[i]?.getD 0 ≤ L[q]?.getD 0) : BestI L k (i + 1) (q : Int) := by
  rcases h with ⟨e, _⟩ | ⟨q', e, h1, h2, h3⟩
  · omega
  · obtain rfl : q = q' := by omega
    refine .inr ⟨q, rfl, by omega, h2, fun p hlt hpk => ?_⟩
    rcases Nat.lt_or_ge p i with h4 | h4
    · exact h3 p h4 hpk
    · obtain rfl : p = i := by omega
      refine .inr ?_
      simp only [befL, keyL, Int.toNat_natCast]
      omega
theorem BestI.form {L : List Int} {k i : Nat} {b : Int} (h : BestI L k i b) : b = -1 ∨ ∃ q : Nat, b = (q : Int) ∧ q < i ∧ k ≤ plc (ordL L) (q : Int) := by
  rcases h with ⟨e, _⟩ | ⟨q, e, h1, h2, _⟩
  · exact .inl e
  · exact .inr ⟨q, e, h1, h2⟩
theorem BestI.done {L : List Int} {k p : Nat} {b : Int} (h : BestI L k L.length b) (hp : p < L.length) (hk : plc (ordL L) (p : Int) = k) : b = (p : Int) := by
  rcases h with ⟨_, h⟩ | ⟨q, e, h1, h2, h3⟩
  · have := h p hp; omega
  · rw [e]
    rcases h3 p hp (by omega) with h4 | h4
    · omega
    · exfalso
      have g1 := plc_get (ordL_mem.2 (⟨by omega, by omega⟩ : 0 ≤ (p : Int) ∧ (p : Int) < L.length))
      have g2 := plc_get (ordL_mem.2 (⟨by omega, by omega⟩ : 0 ≤ (q : Int) ∧ (q : Int) < L.length))
      have l1 := plc_lt (List.mem_of_getElem? g1)
      have l2 := plc_lt (List.mem_of_getElem? g2)
      rw [List.getElem?_eq_getElem l1] at g1
      rw [List.getElem?_eq_getElem l2] at g2
      injection g1 with g1
      injection g2 with g2
      rcases Nat.lt_or_ge (plc (ordL L) (p : Int)) (plc (ordL L) (q : Int)) with h5 | h5
      · have hs := ordL_sorted L
        rw [List.pairwise_iff_getElem] at hs
        have := hs _ _ l1 l2 h5
        rw [g1, g2] at this
        unfold befL at this h4
        omega
      · have e2 : plc (ordL L) (p : Int) = plc (ordL L) (q : Int) := by omega
        have e3 : (p : Int) = (q : Int) := by
          rw [← g1, ← g2]
          congr 1
        have : p = q := by omega
        subst this
        unfold befL at h4
        omega
theorem bLef_far {h : Nat} {xs ys : List Int} {j k p : Nat} (hp : p < h) (hk : k ≤ plc (ordL (leftL h xs ys j)) (p : Int)) : (bLef h xs ys j k)[p]?.getD 0 = (leftL h xs ys j)[p]?.getD 0 := by
  simp [bLef, List.getElem?_map, List.getElem?_range hp]
  intro h1
  omega
end Go.Proofs.YtpeiolimdglmhaaGreatDoor

-- Walks: an image is built of sums (the reference's way).
namespace Go.Proofs.YtpeiolimdglmhaaGreatDoor
open Go.RowKit Go.Shelf
set_option maxRecDepth 100000

/-- the rows that are used: those among the first k -/
def usd (O : List Int) (n k : Nat) : Array Value := ((List.range n).map (fun j : Nat => Value.bool (decide (plc O (j : Int) < k)))).toArray
theorem usd_get {O : List Int} {n k i : Nat} (h : i < n) : (usd O n k)[i]? = some (.bool (decide (plc O (i : Int) < k))) := by
  simp [usd, List.getElem?_map, List.getElem?_range h]
theorem usd_set {O : List Int} {n k c : Nat} (ho : ∀ j : Nat, j < n → (j : Int) ∈ O) (hcn : c < n) (hc : plc O (c : Int) = k) : (usd O n k).setIfInBounds c (.bool true) = usd O n (k + 1) := by
  unfold usd
  rw [List.setIfInBounds_toArray]
  congr 1
  apply List.ext_getElem
  · simp
  · intro i h1 h2
    have hi : i < n := by simpa using h2
    rw [List.getElem_set]
    simp only [List.getElem_map, List.getElem_range]
    by_cases e : c = i
    · subst e
      rw [if_pos rfl, decide_eq_true (by omega : plc O (c : Int) < k + 1)]
    · rw [if_neg e]
      have hne : plc O (i : Int) ≠ k := by
        intro h
        have g1 := plc_get (ho i hi)
        have g2 := plc_get (ho c hcn)
        rw [h, ← hc, g2] at g1
        injection g1 with g1
        omega
      congr 1
      rw [decide_eq_decide]
      omega
theorem infoBool : (Tryz.prog.info? 4).map (fun i => (i.zero, i.size, i.bytes)) = some (some (.bool false), 1, 1) := by kernel_rfl
theorem made_bools (O : List Int) (n : Nat) : madeCells #[Value.bool false] n = usd O n 0 := by
  apply Array.ext
  · simp [madeCells, usd]
  · intro i h1 h2
    simp [madeCells, usd, Nat.mod_one]
theorem make_bools (n : Nat) (hn : n ≤ 1073741824) : ∀ u : World, (Instr.makeSlice 91 (.int .i64 (n : Int)) (.int .i64 (n : Int))).run Tryz.prog u =
      .ok (.slice (some ⟨u.heap.size, 0, none⟩) n n) (u.alloc (.cells (madeCells #[.bool false] n) 4)) := fun u => by
  obtain ⟨i0, hi, hz0, hz1, hz2⟩ := info_parts infoBool
  have h := run_make (P := Tryz.prog) u 91 4 i0 (.bool false) Tryz.underlying91 hi hz0 .i64 .i64 (n : Int) (n : Int) (by omega) (Int.le_refl _) (by rw [hz2]; omega) (by omega)
  simpa [hz1, Value.cells] using h

set_option maxHeartbeats 4000000 in
theorem l5Best_c (L Z : List Int) (A : Option Addr) (n c u k p : Nat) (w : World) (hr : Rd w A n Z) (hu : Blk w u 4 (usd (ordL L) n k)) (hn : n ≤ 6) (hLn : L.length = n)
    (hZ : ∀ i : Nat, i < n → k ≤ plc (ordL L) (i : Int) → Z[i]?.getD 0 = L[i]?.getD 0) (hp : p < n) (hk : plc (ordL L) (p : Int) = k) :
    Calls Tryz.prog 72 #[.slice A n c, .slice (some ⟨u, 0, none⟩) n n] w fun e w' => e = .returned (.int .i64 (p : Int)) ∧ Below w.heap.size w w' := by
  have hZ' := Lib.hid hZ
  have hln := Lib.hid hLn
  have hk' := Lib.hid hk
  clear hZ hk hLn
  go_enter Tryz.func72, Tryz.ntmps72
  go_wp2
  go_loopw [5, 6] (fun b i wr => ∃ (j : Nat) (z : Int), j ≤ n ∧ i = .int .i64 j ∧ b = .int .i64 z ∧ Hid (BestI L k j z) ∧ Below w.heap.size w wr) (fun _ i _ => n - (intOf i).toNat)
  case atStart => exact ⟨0, -1, Nat.zero_le _, rfl, rfl, Lib.hid (BestI.zero L k), Below.refl _ _⟩
  case round =>
    obtain ⟨j, z, hj, rfl, rfl, hI, hL⟩ := hrel
    by_cases hlt : j < n
    · have hu1 := (hu.next hL).cell j
      rw [usd_get hlt] at hu1
      by_cases hpl : plc (ordL L) (j : Int) < k
      · have hN := Lib.hid (hI.out.skip hpl)
        rw [decide_eq_true hpl] at hu1
        clear hpl
        go_wp2
        go_quiet (fail)
        go_wp2
        go_roundw
        case rel => exact ⟨j + 1, z, by omega, by go_num, rfl, hN, below_drewN hL _⟩
        case measure => simp [intOf]; omega
      · have hpk : k ≤ plc (ordL L) (j : Int) := by omega
        rw [decide_eq_false hpl] at hu1
        obtain ⟨b, off, rfl, hb, hc⟩ := (hr.next hL).at_ hlt
        rw [hZ'.out j hlt hpk] at hc
        rcases hI.out.form with rfl | ⟨q, rfl, hq1, hq2⟩
        · have hN := Lib.hid (hI.out.first hpk)
          have g1 : decide ((-1 : Int) < 0) = true := by decide
          clear hpl hpk
          generalize L[j]?.getD 0 = y at hc
          go_wp2
          go_quiet (fail)
          go_wp2
          go_roundw
          case rel => exact ⟨j + 1, (j : Int), by omega, by go_num, rfl, hN, below_drewN hL _⟩
          case measure => simp [intOf]; omega
        · obtain ⟨b', off', e', _, hcq⟩ := (hr.next hL).at_ (k := q) (by omega)
          cases e'
          rw [hZ'.out q (by omega) hq2] at hcq
          have g1 : decide ((q : Int) < 0) = false := decide_eq_false (by omega)
          have hqn : (q : Int) < (n : Int) := by omega
          by_cases hv : L[q]?.getD 0 < L[j]?.getD 0
          · have hN := Lib.hid (hI.out.more hpk hv)
            clear hpl hpk hq2
            generalize L[j]?.getD 0 = y at hc hv
            generalize L[q]?.getD 0 = x at hcq hv
            have g2 : decide (x < y) = true := by simp; omega
            go_wp2
            go_quiet (fail)
            go_wp2
            go_roundw
            case rel => exact ⟨j + 1, (j : Int), by omega, by go_num, rfl, hN, below_drewN hL _⟩
            case measure => simp [intOf]; omega
          · have hN := Lib.hid (hI.out.keep (show L[j]?.getD 0 ≤ L[q]?.getD 0 by omega))
            clear hpl hpk hq2
            generalize L[j]?.getD 0 = y at hc hv
            generalize L[q]?.getD 0 = x at hcq hv
            have g2 : decide (x < y) = false := by simp; omega
            go_wp2
            go_quiet (fail)
            go_wp2
            go_roundw
            case rel => exact ⟨j + 1, (q : Int), by omega, by go_num, rfl, hN, below_drewN hL _⟩
            case measure => simp [intOf]; omega
    · obtain rfl : j = n := by omega
      have hD := hI.out
      rw [← hln.out] at hD
      have hT := Lib.hid (hD.done (by rw [hln.out]; exact hp) hk'.out)
      go_wp2
      go_ret
      exact ⟨ret_int hT.out, hL⟩
set_option maxHeartbeats 8000000 in
theorem spec_BuildImage_x (A B : Option Addr) (n m c d : Nat) (xs ys : List Int) (w : World) (hr : Rd w A n xs) (hq : Rd w B m ys) (hn : n ≤ 1048576) (hm : m ≤ 1048576) :
    Calls Tryz.prog 34 #[.slice A n c, .slice B m d] w fun e w' => ∃ (R : Option Addr) (r k : Nat), e = .returned (.tuple #[.agg #[.int .i64 (bldW xs ys), .slice R r k], .bool (consB xs ys)]) ∧ Below w.heap.size w w' ∧ Own w' w.heap.size R r (bldX xs ys) := by
  have hrA := hr.alloc (.cells #[.int .i64 0, .slice none 0 0] 25)
  have hqA := hq.alloc (.cells #[.int .i64 0, .slice none 0 0] 25)
  cases hc : consB xs ys with
  | false =>
    have hbW := Lib.hid (show bldW xs ys = 0 by rw [bldW, hc]; rfl)
    have hbX := Lib.hid (show bldX xs ys = [] by rw [bldX, hc]; rfl)
    have hL0 := lo_alloc (Below.refl w.heap.size w) (.cells #[.int .i64 0, .slice none 0 0] 25)
    have hK0 := Blk.new w 25 #[.int .i64 0, .slice none 0 0]
    go_enter Tryz.func34, Tryz.ntmps34
    go_wp2_with fail
    refine (spec_SumsConsistent_c _ _ _ _ _ _ xs ys _ hrA hqA hn hm).mono ?_
    rw [hc]
    rintro e w1 ⟨rfl, hb1⟩
    have hK1 := hK0.next hb1
    have c0 := hK1.cell 0
    have c1 := hK1.cell 1
    have f0 := hK1.frozen 0
    have f1 := hK1.frozen 1
    have hz := hK1.lt
    have hF := (hK1.set_ 0 (.int .i64 0)).set_ 1 (.slice none 0 0)
    have r0 := hF.cell 0
    have r1 := hF.cell 1
    have hL1 : Below w.heap.size w ((w1.setCell ⟨w.heap.size, 0, none⟩ (.int .i64 0)).setCell ⟨w.heap.size, 1, none⟩ (.slice none 0 0)) := lo_set (lo_set (lo_trans hL0 hb1) (Nat.le_refl _) _) (Nat.le_refl _) _
    clear hF hK1 hK0
    go_wp2
    refine bodyPost_ret (v := .tuple #[.agg #[.int .i64 0, .slice none 0 0], .bool false]) (by simp [results, Tryz.results34, go_sem, r0, r1]) rfl ⟨none, 0, 0, by rw [hbW.out], hL1, by rw [hbX.out]; exact Own.nil_ _ _ _⟩
  | true =>
    have hbW := Lib.hid (show bldW xs ys = (m : Int) by rw [bldW, hc, if_pos rfl, hq.1])
    have hbX := Lib.hid (show bldX xs ys = img (bldF n xs ys) n m by rw [bldX, hc, if_pos rfl, hr.1, hq.1])
    have hxl := Lib.hid hr.1
    have hxb := Lib.hid (show ∀ x ∈ xs, 0 ≤ x ∧ x ≤ 6 from fun x hx => by have h1 := (sV_out (consB_iff.1 hc).1); have := h1.2.2.2.2.1 x hx; omega)
    have hv : sV xs ys = true := (consB_iff.1 hc).1
    obtain ⟨q1, q2, q3, q4, q5, q6⟩ := sV_out hv
    rw [hq.1] at q3 q4 q5
    rw [hr.1] at q1 q2 q6
    have hyn := Lib.hid q6
    have hyl := Lib.hid hq.1
    clear q5 q6 hv
    have hL0 := lo_alloc (Below.refl w.heap.size w) (.cells #[.int .i64 0, .slice none 0 0] 25)
    have hK0 := Blk.new w 25 #[.int .i64 0, .slice none 0 0]
    go_enter Tryz.func34, Tryz.ntmps34
    go_wp2_with fail
    refine (spec_SumsConsistent_c _ _ _ _ _ _ xs ys _ hrA hqA hn hm).mono ?_
    rw [hc]
    rintro e w1 ⟨rfl, hb1⟩
    go_wp2_with fail
    refine (l1Blank_c n m _ (by omega)).mono ?_
    rintro e w2 ⟨g, rfl, hb2, hk2, hg1, hg2⟩
    have hK2 := (hK0.next hb1).next hb2
    have hL2 := lo_trans (lo_trans hL0 hb1) hb2
    have hs1 := hb1.size
    rw [World.size_alloc] at hs1
    have hgw : w.heap.size < g := by omega
    have hI3 : WInv w (w2.alloc (.cells #[.int .i64 m, .slice (some ⟨g, 0, none⟩) n n] 25)) w2.heap.size g n m (List.replicate n 0) := ⟨lo_alloc hL2 _, hK2.alloc _, Blk.new _ _ _, hk2.alloc _⟩
    have hI3e := hI3.nextX (lo_alloc (Below.refl _ _) (.cells #[] 3))
    have hE : Buf ((w2.alloc (.cells #[.int .i64 m, .slice (some ⟨g, 0, none⟩) n n] 25)).alloc (.cells #[] 3)) (w2.heap.size + 1) (some ⟨w2.heap.size + 1, 0, none⟩) 0 [] :=
      ⟨rfl, .inr ⟨w2.heap.size + 1, 0, #[], rfl, Nat.le_refl _, heap_at2 w2 _ 3 #[], Nat.le_refl _, Nat.zero_le _, rfl, rfl⟩⟩
    have hre := (hr.next hI3.1).alloc (.cells #[] 3)
    have hg2' : g < w2.heap.size := hg2
    clear hk2 hK2 hL2 hL0 hK0 hb1 hb2 hrA hqA hg1 hg2 hs1
    go_wp2_with (at_builtin; refine (wpl_append rfl _ _ rfl (w2.heap.size + 1) _ 0 0 [] rfl rfl hE _ n c xs rfl hre (by omega) (by omega) (by simp) ?_); intro gl cl w4 hB4 hg4 hat)
    rw [List.nil_append] at hB4
    have hgE := rowA_ge hE
    obtain ⟨o, ho⟩ : ∃ o, o = w2.heap.size := ⟨_, rfl⟩
    rw [← ho] at hI3e hB4 hg2'
    have hI4 : WInv w w4 o g n m (bRow n xs ys 0 0) := by
      rw [bRow_start]
      have hsz := hI3e.1.size
      exact ⟨hI3e.1.grown hg4 hsz (fun g hg => by have := hgE g hg; omega), hI3e.2.1.grown hg4 (fun e => by have := hgE _ e.symm; omega), hI3e.2.2.1.grown hg4 (fun e => by have := hgE _ e.symm; omega), hI3e.2.2.2.grown hg4 (fun e => by have := hgE _ e.symm; omega)⟩
    have hO4 := hB4.own
    rw [hxl.out] at hO4
    have hgl : o < gl := by
      obtain ⟨g', e', h', _⟩ := hO4.at_ (k := 0) (by omega)
      cases e'
      omega
    have hgo : g < o := hg2'
    have hO4' : Own w4 w.heap.size (some ⟨gl, 0, none⟩) n (leftL n xs ys 0) := hO4.mono (by omega)
    clear hI3 hI3e hO4 hB4 hE hre hat hgE hg4 hg2'
    rw [← ho]
    clear ho
    go_wp2
    go_loopw [8] (fun i wr => ∃ j : Nat, j ≤ m ∧ i = .int .i64 j ∧ WInv w wr o g n m (bRow n xs ys j 0) ∧ Own wr w.heap.size (some ⟨gl, 0, none⟩) n (leftL n xs ys j)) (fun i _ => m - (intOf i).toNat)
    case atStart => exact ⟨0, Nat.zero_le _, rfl, hI4, hO4'⟩
    case round =>
      clear hI4 hO4'
      obtain ⟨j, hj, rfl, hI, hOl⟩ := hrel
      by_cases hlt : j < m
      · obtain ⟨b, off, rfl, hb, hcy⟩ := (hq.next hI.1).at_ hlt
        have hyb := hyn.out _ (mem_at (show j < ys.length by rw [hyl.out]; exact hlt))
        obtain ⟨s, hse⟩ : ∃ s : Nat, ys[j]?.getD 0 = (s : Int) := ⟨_, (Int.toNat_of_nonneg hyb.1).symm⟩
        rw [hse] at hcy hyb
        have hRe := Lib.hid (bRow_end n xs ys j)
        have hLe := Lib.hid (bLef_end n xs ys j)
        rw [hse, Int.toNat_natCast] at hRe hLe
        have hLz := Lib.hid (bLef_zero ys hxl.out j)
        have hse' := Lib.hid hse; clear hse
        have hsn : s ≤ n := by omega
        have hj6 : j ≤ 5 := by omega
        have hLm := Lib.hid (leftL_mem ys hxl.out hxb.out j)
        have hOlen := Lib.hid (show (leftL n xs ys j).length = n from leftL_len ys hxl.out j)
        have hmk := make_bools n (by omega)
        obtain ⟨u, hu⟩ : ∃ u, u = wr.heap.size := ⟨_, rfl⟩
        obtain ⟨w5, hw5⟩ : ∃ w5, w5 = wr.alloc (.cells (madeCells #[.bool false] n) 4) := ⟨_, rfl⟩
        have hU5 : Blk w5 u 4 (usd (ordL (leftL n xs ys j)) n 0) := by rw [hw5, hu, ← made_bools]; exact Blk.new _ _ _
        have hI5 : WInv w w5 o g n m (bRow n xs ys j 0) := by rw [hw5]; exact hI.nextX (lo_alloc (Below.refl _ _) _)
        have hOl5 : Own w5 w.heap.size (some ⟨gl, 0, none⟩) n (leftL n xs ys j) := by rw [hw5]; exact hOl.next (lo_alloc (Below.refl _ _) _)
        rw [← hLz.out] at hOl5
        have hglt := hOl.ltAt (k := 0) (by omega)
        have hgu : gl < u := by omega
        have hgo2 : g < u := by have := hI.2.2.2.lt; omega
        have hou : o < u := by have := hI.2.2.1.lt; omega
        have hwu : w.heap.size < u := by omega
        clear hI hOl hb hcy
        go_wp2
        rw [← hu, ← hw5]
        clear hu hw5 hmk
        go_loopw [10] (fun i wr => ∃ k : Nat, k ≤ s ∧ i = .int .i64 k ∧ WInv w wr o g n m (bRow n xs ys j k) ∧ Own wr w.heap.size (some ⟨gl, 0, none⟩) n (bLef n xs ys j k) ∧ Blk wr u 4 (usd (ordL (leftL n xs ys j)) n k)) (fun i _ => s - (intOf i).toNat)
        case atStart => exact ⟨0, Nat.zero_le _, rfl, hI5, hOl5, hU5⟩
        case round =>
          clear hI5 hU5 hOl5
          obtain ⟨k, hk, rfl, hI, hOl, hU⟩ := hrel
          obtain ⟨b, off, eB, hb, hcy⟩ := (hq.next hI.1).at_ hlt
          cases eB
          rw [hse'.out] at hcy
          by_cases hlt2 : k < s
          · obtain ⟨p, hp1, hp2, hp3⟩ := ordL_at (L := leftL n xs ys j) (k := k) (by rw [hOlen.out]; omega)
            rw [hOlen.out] at hp2
            have hbest := l5Best_c (leftL n xs ys j) (bLef n xs ys j k) (some ⟨gl, 0, none⟩) n cl u k p wr hOl.rd hU q2 hOlen.out (fun i hi hki => bLef_far hi hki) hp2 hp3
            have hset := Lib.hid (bRow_set hxl.out hp2 hp3)
            have hsetL := Lib.hid (bLef_set hxl.out hp2 hp3)
            have hsetU := Lib.hid (usd_set (ord_all ys hxl.out j) hp2 hp3)
            have hrat := bRow_at (h := n) (xs := xs) (ys := ys) (j := j) hp2 hp3
            have hlat := Lib.hid (bLef_at (h := n) (xs := xs) (ys := ys) (j := j) hp2 hp3)
            have hlb := leftL_bd ys hxl.out hxb.out j p hp2
            have hr64 := mkRow_lt64 (bldF n xs ys p) j (by omega)
            have hput := Lib.hid (show put (mkRow (bldF n xs ys p) j) j true = mkRow (bldF n xs ys p) j ^^^ 2 ^ j by rw [mkRow_xor, put, mkRow_div]; simp)
            have hrat' := Lib.hid hrat
            clear hp1 hp3 hrat
            go_wp2_with fail
            refine hbest.mono ?_
            rintro e w6 ⟨rfl, hb6⟩
            have hI6 := hI.nextX hb6
            have hOl6 := hOl.next hb6
            have hU6 := hU.next hb6
            clear hbest hI hOl hU hb6 hcy
            have fu := hU6.frozen p
            have cu := hU6.cell p
            rw [usd_get hp2] at cu
            have hzu := hU6.lt
            have hU7 := hU6.set_ p (.bool true)
            rw [hsetU.out] at hU7
            have hI7 : WInv w (w6.setCell ⟨u, p, none⟩ (.bool true)) o g n m (bRow n xs ys j k) :=
              ⟨lo_set hI6.1 (by simp; omega) _, hI6.2.1.far (by simp; omega) _, hI6.2.2.1.far (by simp; omega) _, hI6.2.2.2.far (by simp; omega) _⟩
            have hOl7 := hOl6.far (p := ⟨u, p, none⟩) (by rintro g' ⟨⟩; simp; omega) (.bool true)
            obtain ⟨_, hz, cl6, fl6, ss6⟩ := hOl7.cellSet' (k := p) hp2
            rw [hlat.out] at cl6
            generalize (leftL n xs ys j)[p]?.getD 0 = v at cl6 hlb hsetL
            have hOl8 := ss6 (v - 1)
            rw [hsetL.out] at hOl8
            have hI8 : WInv w ((w6.setCell ⟨u, p, none⟩ (.bool true)).setCell ⟨gl, p, none⟩ (.int .i64 (v - 1))) o g n m (bRow n xs ys j k) :=
              ⟨lo_set hI7.1 (by simp; omega) _, hI7.2.1.far (by simp; omega) _, hI7.2.2.1.far (by simp; omega) _, hI7.2.2.2.far (by simp; omega) _⟩
            have hU8 := hU7.far (p := ⟨gl, p, none⟩) (by simp; omega) (.int .i64 (v - 1))
            obtain ⟨_, _, _, _, c2, c3⟩ := hI8.cells
            clear hI6 hI7 hOl6 hU6 ss6 hsetL hsetU hOl7 hU7
            go_wp2_with fail
            refine (l1Put_c g n n p j _ true _ m _ hI8.2.2.2 hp2 (by rw [bRow_len]; exact hp2) (by omega) (by omega) hrat'.out).mono ?_
            rw [hput.out, hset.out]
            rintro _ w9 ⟨rfl, hk9, hg9⟩
            have hI9 := hI8.step hgw (by omega) hg9 hk9
            have hOl9 := hOl8.grown hg9 (by rintro g' ⟨⟩ e; injection e; omega)
            have hU9 := hU8.grown hg9 (by intro e; injection e; omega)
            clear hI8 hOl8 hU8 hk9 hg9 c2 c3 cu fu cl6 fl6
            go_wp2
            go_roundw
            case rel => exact ⟨k + 1, by omega, by go_num, hI9, hOl9, hU9⟩
            case measure => simp [intOf]; omega
          · obtain rfl : k = s := by omega
            rw [hRe.out] at hI
            rw [hLe.out] at hOl
            clear hU
            go_wp2
            go_roundw
            case rel => exact ⟨j + 1, by omega, by go_num, hI, hOl⟩
            case measure => simp [intOf]; omega
      · obtain rfl : j = m := by omega
        obtain ⟨c0, c1, f0, f1, c2, c3⟩ := hI.cells
        have hz := hI.2.1.lt
        have hF := (hI.2.1.set_ 0 (.int .i64 (j : Int))).set_ 1 (.slice (some ⟨g, 0, none⟩) n n)
        have r0 := hF.cell 0
        have r1 := hF.cell 1
        have hL1 := lo_set (lo_set hI.1 (p := ⟨w.heap.size, 0, none⟩) (Nat.le_refl _) (.int .i64 (j : Int))) (p := ⟨w.heap.size, 1, none⟩) (Nat.le_refl _) (.slice (some ⟨g, 0, none⟩) n n)
        have hG := (hI.2.2.2.far (p := ⟨w.heap.size, 0, none⟩) (by simp; omega) (.int .i64 (j : Int))).far (p := ⟨w.heap.size, 1, none⟩) (by simp; omega) (.slice (some ⟨g, 0, none⟩) n n)
        rw [bRow_zero] at hG
        have hOf := Own.of_blk (lo := w.heap.size) hG (by omega) (img_len _ _ _)
        clear hF hI hG
        go_wp2
        refine bodyPost_ret (v := .tuple #[.agg #[.int .i64 j, .slice (some ⟨g, 0, none⟩) n n], .bool true]) (by simp [results, Tryz.results34, go_sem, r0, r1]) rfl ⟨_, _, _, by rw [hbW.out], hL1, by rw [hbX.out]; exact hOf⟩
end Go.Proofs.YtpeiolimdglmhaaGreatDoor
