/- Plain facts and walks that the law's proof uses; each says its own conditions. -/
import Derived.Test.YtpeiolimdglmhaaGreatDoorZ14
import Derived.Test.YtpeiolimdglmhaaGreatDoorZ15
import Derived.Test.YtpeiolimdglmhaaGreatDoorZ28
-- Walks: the image that is built of sums, exactly.
namespace Go.Proofs.YtpeiolimdglmhaaGreatDoor
open Go.RowKit Go.Shelf
set_option maxRecDepth 100000

theorem map_plc_set {n k c : Nat} {O : List Int} (A B : Nat → Int) (ho : ∀ j : Nat, j < n → (j : Int) ∈ O) (hcn : c < n) (hc : plc O (c : Int) = k) :
    ((List.range n).map (fun j : Nat => if plc O (j : Int) < k then A j else B j)).set c (A c) = (List.range n).map (fun j : Nat => if plc O (j : Int) < k + 1 then A j else B j) := by
  apply List.ext_getElem
  · simp
  · intro i h1 h2
    have hi : i < n := by simpa using h2
    rw [List.getElem_set]
    simp only [List.getElem_map, List.getElem_range]
    by_cases e : c = i
    · subst e
      rw [if_pos rfl, if_pos (by omega)]
    · rw [if_neg e]
      have hne : plc O (i : Int) ≠ k := by
        intro h
        have g1 := plc_get (ho i hi)
        have g2 := plc_get (ho c hcn)
        rw [h, ← hc, g2] at g1
        injection g1 with g1
        omega
      by_cases hl : plc O (i : Int) < k
      · rw [if_pos hl, if_pos (by omega)]
      · rw [if_neg hl, if_neg (by omega)]
theorem WInv.nextX {w wr w3 : World} {o g n m : Nat} {xs : List Int} (h : WInv w wr o g n m xs) (hb : Below wr.heap.size wr w3) : WInv w w3 o g n m xs :=
  ⟨lo_trans h.1 hb, h.2.1.next hb, h.2.2.1.next hb, h.2.2.2.next hb⟩
/-- the image's rows and what is left, amid column j -/
def bRow (h : Nat) (xs ys : List Int) (j k : Nat) : List Int := (List.range h).map (fun i : Nat => if plc (ordL (leftL h xs ys j)) (i : Int) < k then ((mkRow (bldF h xs ys i) j + 2 ^ j : Nat) : Int) else ((mkRow (bldF h xs ys i) j : Nat) : Int))
def bLef (h : Nat) (xs ys : List Int) (j k : Nat) : List Int := (List.range h).map (fun i : Nat => if plc (ordL (leftL h xs ys j)) (i : Int) < k then (leftL h xs ys j)[i]?.getD 0 - 1 else (leftL h xs ys j)[i]?.getD 0)
theorem bRow_len (h : Nat) (xs ys : List Int) (j k : Nat) : (bRow h xs ys j k).length = h := by simp [bRow]
theorem bLef_len (h : Nat) (xs ys : List Int) (j k : Nat) : (bLef h xs ys j k).length = h := by simp [bLef]
theorem bRow_zero (h : Nat) (xs ys : List Int) (j : Nat) : bRow h xs ys j 0 = img (bldF h xs ys) h j := by simp [bRow, img]
theorem bRow_start (h : Nat) (xs ys : List Int) : bRow h xs ys 0 0 = List.replicate h 0 := by
  rw [bRow_zero]
  apply List.ext_getElem <;> simp [img, mkRow]
theorem bRow_end (h : Nat) (xs ys : List Int) (j : Nat) : bRow h xs ys j (ys[j]?.getD 0).toNat = bRow h xs ys (j + 1) 0 := by
  rw [bRow_zero, bRow, img]
  refine List.map_congr_left (fun i _ => ?_)
  by_cases hp : plc (ordL (leftL h xs ys j)) (i : Int) < (ys[j]?.getD 0).toNat
  · rw [if_pos hp, mkRow_step_t (by simp [bldF, hp])]
  · rw [if_neg hp, mkRow_step_f (by simp only [bldF, hp, decide_false])]
theorem bLef_zero {h : Nat} {xs : List Int} (ys : List Int) (hx : xs.length = h) (j : Nat) : bLef h xs ys j 0 = leftL h xs ys j := by
  have hl := leftL_len ys hx j
  apply List.ext_getElem
  · rw [bLef_len, hl]
  · intro i h1 h2
    simp [bLef, List.getElem?_eq_getElem h2]
theorem bLef_end (h : Nat) (xs ys : List Int) (j : Nat) : bLef h xs ys j (ys[j]?.getD 0).toNat = leftL h xs ys (j + 1) := by
  rw [bLef, leftL]
  refine List.map_congr_left (fun i _ => ?_)
  by_cases hp : plc (ordL (leftL h xs ys j)) (i : Int) < (ys[j]?.getD 0).toNat
  · rw [if_pos hp]; simp [hp, b1]
  · rw [if_neg hp]; simp only [hp, decide_false, b1]; simp
theorem bRow_at {h : Nat} {xs ys : List Int} {j k p : Nat} (hp : p < h) (hk : plc (ordL (leftL h xs ys j)) (p : Int) = k) : (bRow h xs ys j k)[p]?.getD 0 = ((mkRow (bldF h xs ys p) j : Nat) : Int) := by
  simp [bRow, List.getElem?_map, List.getElem?_range hp, hk]
theorem bLef_at {h : Nat} {xs ys : List Int} {j k p : Nat} (hp : p < h) (hk : plc (ordL (leftL h xs ys j)) (p : Int) = k) : (bLef h xs ys j k)[p]?.getD 0 = (leftL h xs ys j)[p]?.getD 0 := by
  simp [bLef, List.getElem?_map, List.getElem?_range hp, hk]
theorem ord_all {h : Nat} {xs : List Int} (ys : List Int) (hx : xs.length = h) (j : Nat) : ∀ i : Nat, i < h → (i : Int) ∈ ordL (leftL h xs ys j) := fun i hi => ordL_mem.2 ⟨by omega, by rw [leftL_len ys hx]; omega⟩
theorem bRow_set {h : Nat} {xs ys : List Int} {j k p : Nat} (hx : xs.length = h) (hp : p < h) (hk : plc (ordL (leftL h xs ys j)) (p : Int) = k) : (bRow h xs ys j k).set p ((mkRow (bldF h xs ys p) j ^^^ 2 ^ j : Nat) : Int) = bRow h xs ys j (k + 1) := by
  rw [mkRow_xor]
  exact map_plc_set (fun i => ((mkRow (bldF h xs ys i) j + 2 ^ j : Nat) : Int)) (fun i => ((mkRow (bldF h xs ys i) j : Nat) : Int)) (ord_all ys hx j) hp hk
theorem bLef_set {h : Nat} {xs ys : List Int} {j k p : Nat} (hx : xs.length = h) (hp : p < h) (hk : plc (ordL (leftL h xs ys j)) (p : Int) = k) : (bLef h xs ys j k).set p ((leftL h xs ys j)[p]?.getD 0 - 1) = bLef h xs ys j (k + 1) :=
  map_plc_set (fun i => (leftL h xs ys j)[i]?.getD 0 - 1) (fun i => (leftL h xs ys j)[i]?.getD 0) (ord_all ys hx j) hp hk
theorem leftL_bd {h : Nat} {xs : List Int} (ys : List Int) (hx : xs.length = h) (hb : ∀ x ∈ xs, 0 ≤ x ∧ x ≤ 6) : ∀ j i : Nat, i < h → -(j : Int) ≤ (leftL h xs ys j)[i]?.getD 0 ∧ (leftL h xs ys j)[i]?.getD 0 ≤ 6
  | 0, i, hi => by
    have := hb (xs[i]?.getD 0) (mem_at (by omega))
    simpa [leftL] using this
  | j + 1, i, hi => by
    have h1 := leftL_bd ys hx hb j i hi
    have h2 := b1_le (bldF h xs ys i j)
    rw [leftL_at xs ys hi]
    omega
theorem leftL_mem {h : Nat} {xs : List Int} (ys : List Int) (hx : xs.length = h) (hb : ∀ x ∈ xs, 0 ≤ x ∧ x ≤ 6) (j : Nat) : ∀ x ∈ leftL h xs ys j, -(j : Int) ≤ x ∧ x ≤ 6 := by
  intro x hm
  obtain ⟨i, hi, rfl⟩ := List.mem_iff_getElem.1 hm
  have := leftL_bd ys hx hb j i (by rw [leftL_len ys hx] at hi; exact hi)
  rwa [List.getElem?_eq_getElem hi, Option.getD_some] at this
set_option maxHeartbeats 4000000 in
theorem greatest_x (lo gl n c m : Nat) (L : List Int) (w : World) (hr : Own w lo (some ⟨gl, 0, none⟩) n L) (hn0 : 0 < n) (hn : n ≤ 6) (hm : m ≤ n) (hL : ∀ x ∈ L, -1000 ≤ x ∧ x ≤ 1000) :
    Calls Tryz.prog 68 #[.slice (some ⟨gl, 0, none⟩) n c, .int .i64 m] w fun e w' => e = .returned (.slice (some ⟨w.heap.size + 1, 0, none⟩) m n) ∧ Below w.heap.size w w' ∧ Own w' w.heap.size (some ⟨w.heap.size + 1, 0, none⟩) n (ordL L) := by
  have hL' := Lib.hid hL; clear hL
  have h1 : (m : Int) ≤ (n : Int) := by omega
  have h2 : (0 : Int) ≤ (m : Int) := by omega
  have h3 : ¬ n = 0 := by omega
  go_enter Tryz.func68, Tryz.ntmps68
  go_wp2_with fail
  refine (descending_x lo gl n c L _ hr hn0 hn hL'.out).mono ?_
  rintro e w1 ⟨rfl, hb1, ho1⟩
  go_wp2
  go_ret
  exact ⟨rfl, hb1, ho1⟩

set_option maxHeartbeats 8000000 in
theorem BuildImage_x (A B : Option Addr) (n m c d : Nat) (xs ys : List Int) (w : World) (hr : Rd w A n xs) (hq : Rd w B m ys) (hn : n ≤ 1048576) (hm : m ≤ 1048576) :
    Calls Tryz.prog 33 #[.slice A n c, .slice B m d] w fun e w' => ∃ (R : Option Addr) (r k : Nat), e = .returned (.tuple #[.agg #[.int .i64 (bldW xs ys), .slice R r k], .bool (consB xs ys)]) ∧ Below w.heap.size w w' ∧ Own w' w.heap.size R r (bldX xs ys) := by
  have hrA := hr.alloc (.cells #[.int .i64 0, .slice none 0 0] 25)
  have hqA := hq.alloc (.cells #[.int .i64 0, .slice none 0 0] 25)
  cases hc : consB xs ys with
  | false =>
    have hbW := Lib.hid (show bldW xs ys = 0 by rw [bldW, hc]; rfl)
    have hbX := Lib.hid (show bldX xs ys = [] by rw [bldX, hc]; rfl)
    have hL0 := lo_alloc (Below.refl w.heap.size w) (.cells #[.int .i64 0, .slice none 0 0] 25)
    have hK0 := Blk.new w 25 #[.int .i64 0, .slice none 0 0]
    go_enter Tryz.func33, Tryz.ntmps33
    go_wp2_with fail
    refine (SumsConsistent_c _ _ _ _ _ _ xs ys _ hrA hqA hn hm).mono ?_
    rw [hc]
    rintro e w1 ⟨rfl, hb1⟩
    have hK1 := hK0.next hb1
    have c0 := hK1.cell 0
    have c1 := hK1.cell 1
    have f0 := hK1.frozen 0
    have f1 := hK1.frozen 1
    have hz := hK1.lt
    have hF := (hK1.set_ 0 (.int .i64 0)).set_ 1 (.slice none 0 0)
    have r0 := hF.cell 0
    have r1 := hF.cell 1
    have hL1 : Below w.heap.size w ((w1.setCell ⟨w.heap.size, 0, none⟩ (.int .i64 0)).setCell ⟨w.heap.size, 1, none⟩ (.slice none 0 0)) := lo_set (lo_set (lo_trans hL0 hb1) (Nat.le_refl _) _) (Nat.le_refl _) _
    clear hF hK1 hK0
    go_wp2
    refine bodyPost_ret (v := .tuple #[.agg #[.int .i64 0, .slice none 0 0], .bool false]) (by simp [results, Tryz.results33, go_sem, r0, r1]) rfl ⟨none, 0, 0, by rw [hbW.out], hL1, by rw [hbX.out]; exact Own.nil_ _ _ _⟩
  | true =>
    have hbW := Lib.hid (show bldW xs ys = (m : Int) by rw [bldW, hc, if_pos rfl, hq.1])
    have hbX := Lib.hid (show bldX xs ys = img (bldF n xs ys) n m by rw [bldX, hc, if_pos rfl, hr.1, hq.1])
    have hxl := Lib.hid hr.1
    have hxb := Lib.hid (show ∀ x ∈ xs, 0 ≤ x ∧ x ≤ 6 from fun x hx => by have h1 := (sV_out (consB_iff.1 hc).1); have := h1.2.2.2.2.1 x hx; omega)
    have hv : sV xs ys = true := (consB_iff.1 hc).1
    obtain ⟨q1, q2, q3, q4, q5, q6⟩ := sV_out hv
    rw [hq.1] at q3 q4 q5
    rw [hr.1] at q1 q2 q6
    have hyn := Lib.hid q6
    have hyl := Lib.hid hq.1
    clear q5 q6 hv
    have hL0 := lo_alloc (Below.refl w.heap.size w) (.cells #[.int .i64 0, .slice none 0 0] 25)
    have hK0 := Blk.new w 25 #[.int .i64 0, .slice none 0 0]
    go_enter Tryz.func33, Tryz.ntmps33
    go_wp2_with fail
    refine (SumsConsistent_c _ _ _ _ _ _ xs ys _ hrA hqA hn hm).mono ?_
    rw [hc]
    rintro e w1 ⟨rfl, hb1⟩
    go_wp2_with fail
    refine (emptyImage_c n m _ (by omega)).mono ?_
    rintro e w2 ⟨g, rfl, hb2, hk2, hg1, hg2⟩
    have hK2 := (hK0.next hb1).next hb2
    have hL2 := lo_trans (lo_trans hL0 hb1) hb2
    have hs1 := hb1.size
    rw [World.size_alloc] at hs1
    have hgw : w.heap.size < g := by omega
    obtain ⟨o, ho⟩ : ∃ o, o = w2.heap.size := ⟨_, rfl⟩
    obtain ⟨w3, hw3⟩ : ∃ w3, w3 = w2.alloc (.cells #[.int .i64 m, .slice (some ⟨g, 0, none⟩) n n] 25) := ⟨_, rfl⟩
    have hI3 : WInv w w3 o g n m (List.replicate n 0) := by
      rw [hw3]
      exact ⟨lo_alloc hL2 _, hK2.alloc _, by rw [ho]; exact Blk.new _ _ _, hk2.alloc _⟩
    have hgo : g < o := by omega
    have ho3 : o < w3.heap.size := by rw [hw3, ho]; simp
    clear hk2 hK2 hL2 hL0 hK0 hb1 hb2 hrA hqA hg1 hg2 hs1
    go_wp2_with fail
    rw [← ho, ← hw3]
    have ho' := Lib.hid ho; clear ho
    have hw3' := Lib.hid hw3; clear hw3
    refine (Clone_c2 A n c xs _ (hr.next hI3.1) (by omega) hn).mono ?_
    rintro e w4 ⟨gl, cl, rfl, hb4, hO4, hcl1, hcl2⟩
    have hgl : o < gl := by
      obtain ⟨g', e', h', _⟩ := hO4.at_ (k := 0) (by omega)
      cases e'
      omega
    have hI4 : WInv w w4 o g n m (bRow n xs ys 0 0) := by rw [bRow_start]; exact hI3.nextX hb4
    have hO4' : Own w4 w.heap.size (some ⟨gl, 0, none⟩) n (leftL n xs ys 0) := hO4.mono (by omega)
    clear hI3 hb4 hO4
    go_wp2
    go_loopw [26] (fun i wr => ∃ j : Nat, j ≤ m ∧ i = .int .i64 j ∧ WInv w wr o g n m (bRow n xs ys j 0) ∧ Own wr w.heap.size (some ⟨gl, 0, none⟩) n (leftL n xs ys j)) (fun i _ => m - (intOf i).toNat)
    case atStart => exact ⟨0, Nat.zero_le _, rfl, hI4, hO4'⟩
    case round =>
      clear hI4 hO4'
      obtain ⟨j, hj, rfl, hI, hOl⟩ := hrel
      by_cases hlt : j < m
      · obtain ⟨b, off, rfl, hb, hcy⟩ := (hq.next hI.1).at_ hlt
        have hyb := hyn.out _ (mem_at (show j < ys.length by rw [hyl.out]; exact hlt))
        obtain ⟨s, hse⟩ : ∃ s : Nat, ys[j]?.getD 0 = (s : Int) := ⟨_, (Int.toNat_of_nonneg hyb.1).symm⟩
        rw [hse] at hcy hyb
        have hRe := Lib.hid (bRow_end n xs ys j)
        have hLe := Lib.hid (bLef_end n xs ys j)
        rw [hse, Int.toNat_natCast] at hRe hLe
        have hLz := Lib.hid (bLef_zero ys hxl.out j)
        have hse' := Lib.hid hse; clear hse
        have hsn : s ≤ n := by omega
        have hj6 : j ≤ 5 := by omega
        have hLm := Lib.hid (leftL_mem ys hxl.out hxb.out j)
        have hOlen := Lib.hid (show (leftL n xs ys j).length = n from leftL_len ys hxl.out j)
        go_wp2_with fail
        refine (greatest_x w.heap.size gl n cl s (leftL n xs ys j) _ hOl (by omega) q2 hsn (fun x hx => by have := hLm.out x hx; omega)).mono ?_
        rintro e w5 ⟨rfl, hb5, hO5⟩
        have hI5 := hI.nextX hb5
        have hOl5 := hOl.next hb5
        rw [← hLz.out] at hOl5
        obtain ⟨go, hgo5⟩ : ∃ go, go = wr.heap.size + 1 := ⟨_, rfl⟩
        have hglt := hOl.ltAt (k := 0) (by omega)
        have hglgo : gl < go := by omega
        rw [← hgo5] at hO5 ⊢
        have hgo5' := Lib.hid hgo5; clear hgo5
        clear hI hb5 hb hcy hyb hOl
        obtain ⟨wo, rfl⟩ : ∃ wo : World, wo = wr := ⟨_, rfl⟩
        go_wp2
        go_loopw [35] (fun i wr => ∃ k : Nat, k ≤ s ∧ i = .int .i64 k ∧ WInv w wr o g n m (bRow n xs ys j k) ∧ Own wr w.heap.size (some ⟨gl, 0, none⟩) n (bLef n xs ys j k) ∧ Own wr wo.heap.size (some ⟨go, 0, none⟩) n (ordL (leftL n xs ys j))) (fun i _ => s - (intOf i).toNat)
        case atStart => exact ⟨0, Nat.zero_le _, rfl, hI5, hOl5, hO5⟩
        case round =>
          clear hI5 hO5 hOl5
          obtain ⟨k, hk, rfl, hI, hOl, hO⟩ := hrel
          by_cases hlt2 : k < s
          · obtain ⟨g', e', _, hzo, ck, _, _⟩ := hO.at_ (k := k) (by omega)
            cases e'
            obtain ⟨p, hp1, hp2, hp3⟩ := ordL_at (L := leftL n xs ys j) (k := k) (by rw [hOlen.out]; omega)
            rw [hOlen.out] at hp2
            rw [hp1] at ck
            have hset := Lib.hid (bRow_set hxl.out hp2 hp3)
            have hsetL := Lib.hid (bLef_set hxl.out hp2 hp3)
            have hrat := bRow_at (h := n) (xs := xs) (ys := ys) (j := j) hp2 hp3
            have hlat := Lib.hid (bLef_at (h := n) (xs := xs) (ys := ys) (j := j) hp2 hp3)
            have hlb := leftL_bd ys hxl.out hxb.out j p hp2
            clear hp1 hp3
            have hr64 := mkRow_lt64 (bldF n xs ys p) j (by omega)
            obtain ⟨_, _, _, _, c2, c3⟩ := hI.cells
            go_wp2_with fail
            refine (flip_c g n n p j _ _ m _ hI.2.2.2 hp2 (by rw [bRow_len]; exact hp2) (by omega) hr64 hrat).mono ?_
            rintro _ w6 ⟨rfl, hk6, hg6⟩
            rw [hset.out] at hk6
            have hI6 := hI.step hgw (by omega) hg6 hk6
            have hO6 := hO.grown hg6 (by rintro g' ⟨⟩ e; injection e; omega)
            have hOl6 := hOl.grown hg6 (by rintro g' ⟨⟩ e; injection e; omega)
            clear hI hO hOl hk6 hg6 c2 c3 hrat ck hr64 hset
            obtain ⟨_, hz, cl6, fl6, ss6⟩ := hOl6.cellSet' (k := p) hp2
            rw [hlat.out] at cl6
            generalize (leftL n xs ys j)[p]?.getD 0 = v at cl6 hlb hsetL
            have hOl7 := ss6 (v - 1)
            rw [hsetL.out] at hOl7
            have hI7 : WInv w (w6.setCell ⟨gl, p, none⟩ (.int .i64 (v - 1))) o g n m (bRow n xs ys j (k + 1)) :=
              ⟨lo_set hI6.1 (by simp; omega) _, hI6.2.1.far (by simp; omega) _, hI6.2.2.1.far (by simp; omega) _, hI6.2.2.2.far (by simp; omega) _⟩
            have hO7 := hO6.far (p := ⟨gl, p, none⟩) (by rintro g' ⟨⟩; exact fun e => by simp at e; omega) (.int .i64 (v - 1))
            clear hI6 hO6 ss6 hsetL
            go_wp2
            go_roundw
            case rel => exact ⟨k + 1, by omega, by go_num, hI7, hOl7, hO7⟩
            case measure => simp [intOf]; omega
          · obtain rfl : k = s := by omega
            rw [hRe.out] at hI
            rw [hLe.out] at hOl
            clear hO
            go_wp2
            go_roundw
            case rel => exact ⟨j + 1, by omega, by go_num, hI, hOl⟩
            case measure => simp [intOf]; omega
      · obtain rfl : j = m := by omega
        obtain ⟨c0, c1, f0, f1, c2, c3⟩ := hI.cells
        have hz := hI.2.1.lt
        have hF := (hI.2.1.set_ 0 (.int .i64 (j : Int))).set_ 1 (.slice (some ⟨g, 0, none⟩) n n)
        have r0 := hF.cell 0
        have r1 := hF.cell 1
        have hL1 := lo_set (lo_set hI.1 (p := ⟨w.heap.size, 0, none⟩) (Nat.le_refl _) (.int .i64 (j : Int))) (p := ⟨w.heap.size, 1, none⟩) (Nat.le_refl _) (.slice (some ⟨g, 0, none⟩) n n)
        have hG := (hI.2.2.2.far (p := ⟨w.heap.size, 0, none⟩) (by simp; omega) (.int .i64 (j : Int))).far (p := ⟨w.heap.size, 1, none⟩) (by simp; omega) (.slice (some ⟨g, 0, none⟩) n n)
        rw [bRow_zero] at hG
        have hOf := Own.of_blk (lo := w.heap.size) hG (by omega) (img_len _ _ _)
        clear hF hI hG
        go_wp2
        refine bodyPost_ret (v := .tuple #[.agg #[.int .i64 j, .slice (some ⟨g, 0, none⟩) n n], .bool true]) (by simp [results, Tryz.results33, go_sem, r0, r1]) rfl ⟨_, _, _, by rw [hbW.out], hL1, by rw [hbX.out]; exact hOf⟩
end Go.Proofs.YtpeiolimdglmhaaGreatDoor
