
/- Walks: the image that is built of sums: it is built when the sums are consistent. -/
import Derived.Test.YtljmlhcmjgepcaaBu
namespace Go.Proofs.Ytljmlhcmjgepcaa
open Go.RowKit Go.Shelf
set_option maxRecDepth 100000

structure QI (n : Nat) (is : List Int) : Prop where
  len : is.length = n
  val : ∀ x ∈ is, ∃ r : Nat, x = (r : Int) ∧ r < 64
theorem QI.set {n p v : Nat} {is : List Int} (h : QI n is) (hv : v < 64) : QI n (is.set p (v : Int)) :=
  ⟨by rw [List.length_set]; exact h.len, fun x hx => by
    rcases List.mem_or_eq_of_mem_set hx with h1 | h1
    · exact h.val x h1
    · exact ⟨v, h1, hv⟩⟩
theorem QI.at_ {n p : Nat} {is : List Int} (h : QI n is) (hp : p < n) : ∃ r : Nat, is[p]?.getD 0 = (r : Int) ∧ r < 64 := h.val _ (mem_at (by rw [h.len]; exact hp))
def LB (t : Nat) (L : List Int) : Prop := ∀ x ∈ L, -(t : Int) ≤ x ∧ x ≤ 6
structure BInv (w wr : World) (o g gl n m : Nat) (is Lf : List Int) (t : Nat) : Prop where
  wi : WInv w wr o g n m is
  ow : Own wr w.heap.size (some ⟨gl, 0, none⟩) n Lf
  qi : QI n is
  lb : LB t Lf
theorem WInv.next {w wr w3 : World} {o g n m : Nat} {xs : List Int} (h : WInv w wr o g n m xs) (hb : Below wr.heap.size wr w3) : WInv w w3 o g n m xs :=
  ⟨lo_trans h.1 hb, h.2.1.next hb, h.2.2.1.next hb, h.2.2.2.next hb⟩
theorem BInv.next {w wr w3 : World} {o g gl n m t : Nat} {is Lf : List Int} (h : BInv w wr o g gl n m is Lf t) (hb : Below wr.heap.size wr w3) : BInv w w3 o g gl n m is Lf t :=
  ⟨h.wi.next hb, h.ow.next hb, h.qi, h.lb⟩
theorem BInv.flip {w wr w3 : World} {o g gl n m t p v : Nat} {is Lf : List Int} (h : BInv w wr o g gl n m is Lf t) (h1 : w.heap.size < g) (h2 : g ≠ o) (h3 : gl ≠ g) (hv : v < 64) (hg : wr.grownBy w3 (some g)) (hb : Blk w3 g 3 (ints (is.set p (v : Int)))) : BInv w w3 o g gl n m (is.set p (v : Int)) Lf t :=
  ⟨h.wi.step h1 h2 hg hb, h.ow.grown hg (by rintro g' ⟨⟩ e; injection e with e; exact h3 e.symm), h.qi.set hv, h.lb⟩
theorem BInv.dec {w wr : World} {o g gl n m t p : Nat} {is Lf : List Int} (h : BInv w wr o g gl n m is Lf t) (h1 : w.heap.size < gl) (h2 : gl ≠ o) (h3 : gl ≠ g) {y : Int} (hp : p < n) (hy : -((t + 1 : Nat) : Int) ≤ y ∧ y ≤ 6) : BInv w (wr.setCell ⟨gl, p, none⟩ (.int .i64 y)) o g gl n m is (Lf.set p y) (t + 1) :=
  ⟨⟨lo_set h.wi.1 (by simp; omega) _, h.wi.2.1.far (by simp; omega) _, h.wi.2.2.1.far (fun e => h2 e.symm) _, h.wi.2.2.2.far (fun e => h3 e.symm) _⟩, (h.ow.cellSet' hp).2.2.2.2 y, h.qi, fun x hx => by
    rcases List.mem_or_eq_of_mem_set hx with h4 | rfl
    · have := h.lb x h4; omega
    · exact hy⟩
theorem LB.mono {t u : Nat} {L : List Int} (h : LB t L) (hu : t ≤ u) : LB u L := fun x hx => by have := h x hx; omega

set_option maxHeartbeats 8000000 in
theorem BuildImage_c (A B : Option Addr) (n m c d : Nat) (xs ys : List Int) (w : World) (hr : Rd w A n xs) (hq : Rd w B m ys) (hn : n ≤ 1048576) (hm : m ≤ 1048576) :
    Calls Try.prog 23 #[.slice A n c, .slice B m d] w fun e w' => ∃ (W : Int) (R : Option Addr) (r k : Nat), e = .returned (.tuple #[.agg #[.int .i64 W, .slice R r k], .bool (consB xs ys)]) ∧ Below w.heap.size w w' := by
  have hrA := hr.alloc (.cells #[.int .i64 0, .slice none 0 0] 36)
  have hqA := hq.alloc (.cells #[.int .i64 0, .slice none 0 0] 36)
  cases hc : consB xs ys with
  | false =>
    have hL0 := lo_alloc (Below.refl w.heap.size w) (.cells #[.int .i64 0, .slice none 0 0] 36)
    have hK0 := Blk.new w 36 #[.int .i64 0, .slice none 0 0]
    go_enter Try.func23, Try.ntmps23
    go_wp2_with fail
    refine (SumsConsistent_c _ _ _ _ _ _ xs ys _ hrA hqA hn hm).mono ?_
    rw [hc]
    rintro e w1 ⟨rfl, hb1⟩
    have hK1 := hK0.next hb1
    have c0 := hK1.cell 0
    have c1 := hK1.cell 1
    have f0 := hK1.frozen 0
    have f1 := hK1.frozen 1
    have hz := hK1.lt
    have hF := (hK1.set_ 0 (.int .i64 0)).set_ 1 (.slice none 0 0)
    have r0 := hF.cell 0
    have r1 := hF.cell 1
    have hL1 : Below w.heap.size w ((w1.setCell ⟨w.heap.size, 0, none⟩ (.int .i64 0)).setCell ⟨w.heap.size, 1, none⟩ (.slice none 0 0)) := lo_set (lo_set (lo_trans hL0 hb1) (Nat.le_refl _) _) (Nat.le_refl _) _
    clear hF hK1 hK0
    go_wp2
    refine bodyPost_ret (v := .tuple #[.agg #[.int .i64 0, .slice none 0 0], .bool false]) (by simp [results, Try.results23, go_sem, r0, r1]) rfl ⟨_, _, _, _, rfl, hL1⟩
  | true =>
    have hv : sV xs ys = true := (consB_iff.1 hc).1
    obtain ⟨q1, q2, q3, q4, q5, q6⟩ := sV_out hv
    rw [hq.1] at q3 q4 q5
    rw [hr.1] at q1 q2 q6
    have hx6 := Lib.hid (show LB 0 xs from fun x hx => by have := q5 x hx; omega)
    have hyn := Lib.hid q6
    have hyl := Lib.hid hq.1
    clear q5 q6 hv
    have hL0 := lo_alloc (Below.refl w.heap.size w) (.cells #[.int .i64 0, .slice none 0 0] 36)
    have hK0 := Blk.new w 36 #[.int .i64 0, .slice none 0 0]
    go_enter Try.func23, Try.ntmps23
    go_wp2_with fail
    refine (SumsConsistent_c _ _ _ _ _ _ xs ys _ hrA hqA hn hm).mono ?_
    rw [hc]
    rintro e w1 ⟨rfl, hb1⟩
    go_wp2_with fail
    refine (emptyImage_c n m _ (by omega)).mono ?_
    rintro e w2 ⟨g, rfl, hb2, hk2, hg1, hg2⟩
    have hK2 := (hK0.next hb1).next hb2
    have hL2 := lo_trans (lo_trans hL0 hb1) hb2
    have hs1 := hb1.size
    rw [World.size_alloc] at hs1
    have hgw : w.heap.size < g := by omega
    obtain ⟨o, ho⟩ : ∃ o, o = w2.heap.size := ⟨_, rfl⟩
    obtain ⟨w3, hw3⟩ : ∃ w3, w3 = w2.alloc (.cells #[.int .i64 m, .slice (some ⟨g, 0, none⟩) n n] 36) := ⟨_, rfl⟩
    have hI3 : WInv w w3 o g n m (List.replicate n 0) := by
      rw [hw3]
      exact ⟨lo_alloc hL2 _, hK2.alloc _, by rw [ho]; exact Blk.new _ _ _, hk2.alloc _⟩
    have hgo : g < o := by omega
    have ho3 : o < w3.heap.size := by rw [hw3, ho]; simp
    clear hk2 hK2 hL2 hL0 hK0 hb1 hb2 hrA hqA hg1 hg2 hs1
    go_wp2_with fail
    rw [← ho, ← hw3]
    have ho' := Lib.hid ho; clear ho
    have hw3' := Lib.hid hw3; clear hw3
    refine (Clone_c2 A n c xs _ (hr.next hI3.1) (by omega) hn).mono ?_
    rintro e w4 ⟨gl, cl, rfl, hb4, hO4, hcl1, hcl2⟩
    have hgl : o < gl := by
      obtain ⟨g', e', h', _⟩ := hO4.at_ (k := 0) (by omega)
      cases e'
      omega
    have hI4 : BInv w w4 o g gl n m (List.replicate n 0) xs 0 := ⟨hI3.next hb4, hO4.mono (by omega), ⟨by simp, fun x hx => ⟨0, List.eq_of_mem_replicate hx, by omega⟩⟩, hx6.out⟩
    clear hI3 hb4 hO4
    go_wp2
    go_loopw [26] (fun i wr => ∃ (j : Nat) (is Lf : List Int), j ≤ m ∧ i = .int .i64 j ∧ BInv w wr o g gl n m is Lf (j * 6)) (fun i _ => m - (intOf i).toNat)
    case atStart => exact ⟨0, _, _, Nat.zero_le _, rfl, hI4⟩
    case round =>
      clear hI4
      obtain ⟨j, is, Lf, hj, rfl, hI⟩ := hrel
      by_cases hlt : j < m
      · obtain ⟨b, off, rfl, hb, hcy⟩ := (hq.next hI.wi.1).at_ hlt
        have hyb := hyn.out _ (mem_at (show j < ys.length by rw [hyl.out]; exact hlt))
        obtain ⟨s, hse⟩ : ∃ s : Nat, ys[j]?.getD 0 = (s : Int) := ⟨_, (Int.toNat_of_nonneg hyb.1).symm⟩
        rw [hse] at hcy hyb
        have hse' := Lib.hid hse; clear hse
        have hsn : s ≤ n := by omega
        have hj6 : j ≤ 5 := by omega
        go_wp2_with fail
        refine (greatest_c w.heap.size gl n cl s Lf _ hI.ow (by omega) q2 hsn (fun x hx => by have := hI.lb x hx; omega)).mono ?_
        rintro e w5 ⟨ks, rfl, hb5, hO5, hks⟩
        have hI5 := hI.next hb5
        obtain ⟨go, hgo5⟩ : ∃ go, go = wr.heap.size + 1 := ⟨_, rfl⟩
        have hglt := hI.ow.ltAt (k := 0) (by omega)
        have hglgo : gl < go := by omega
        rw [← hgo5] at hO5 ⊢
        have hgo5' := Lib.hid hgo5; clear hgo5
        clear hI hb5 hb hcy hyb
        obtain ⟨wo, rfl⟩ : ∃ wo : World, wo = wr := ⟨_, rfl⟩
        go_wp2
        go_loopw [35] (fun i wr => ∃ (k : Nat) (is Lf : List Int), k ≤ s ∧ i = .int .i64 k ∧ BInv w wr o g gl n m is Lf (j * 6 + k) ∧ Own wr wo.heap.size (some ⟨go, 0, none⟩) n ks) (fun i _ => s - (intOf i).toNat)
        case atStart => exact ⟨0, is, Lf, Nat.zero_le _, rfl, hI5, hO5⟩
        case round =>
          clear hI5 hO5
          obtain ⟨k, is, Lf, hk, rfl, hI, hO⟩ := hrel
          by_cases hlt2 : k < s
          · obtain ⟨g', e', _, hzo, ck, _, _⟩ := hO.at_ (k := k) (by omega)
            cases e'
            have hkb := hks.out _ (mem_at (show k < ks.length by rw [hO.1]; omega))
            obtain ⟨p, hpe⟩ : ∃ p : Nat, ks[k]?.getD 0 = (p : Int) := ⟨_, (Int.toNat_of_nonneg hkb.1).symm⟩
            rw [hpe] at ck hkb
            have hpe' := Lib.hid hpe; clear hpe
            have hpn : p < n := by omega
            obtain ⟨_, _, _, _, c2, c3⟩ := hI.wi.cells
            obtain ⟨r, hre, hr64⟩ := hI.qi.at_ hpn
            have hx64 : r ^^^ 2 ^ j < 64 := Nat.xor_lt_two_pow (n := 6) hr64 (Nat.pow_lt_pow_right (by omega) (by omega))
            go_wp2_with fail
            refine (flip_c g n n p j r is m _ hI.wi.2.2.2 hpn (by rw [hI.qi.len]; exact hpn) (by omega) hr64 hre).mono ?_
            rintro _ w6 ⟨rfl, hk6, hg6⟩
            have hI6 := hI.flip hgw (by omega) (by omega) hx64 hg6 hk6
            have hO6 := hO.grown hg6 (by rintro g' ⟨⟩ e; injection e; omega)
            clear hI hO hk6 hg6 c2 c3 hre ck
            obtain ⟨_, hz, cl6, fl6, _⟩ := hI6.ow.cellSet' (k := p) hpn
            have hlb := hI6.lb _ (mem_at (show p < Lf.length by rw [hI6.ow.1]; exact hpn))
            generalize Lf[p]?.getD 0 = v at cl6 hlb
            have hI7 := hI6.dec (y := v - 1) (by omega) (by omega) (by omega) hpn (by omega)
            have hO7 := hO6.far (p := ⟨gl, p, none⟩) (by rintro g' ⟨⟩; exact fun e => by simp at e; omega) (.int .i64 (v - 1))
            clear hI6 hO6
            go_wp2
            go_roundw
            case rel => exact ⟨k + 1, _, _, by omega, by go_num, hI7, hO7⟩
            case measure => simp [intOf]; omega
          · obtain rfl : k = s := by omega
            have hI8 : BInv w wr o g gl n m is Lf ((j + 1) * 6) := ⟨hI.wi, hI.ow, hI.qi, hI.lb.mono (by omega)⟩
            clear hI hO
            go_wp2
            go_roundw
            case rel => exact ⟨j + 1, _, _, by omega, by go_num, hI8⟩
            case measure => simp [intOf]; omega
      · obtain rfl : j = m := by omega
        obtain ⟨c0, c1, f0, f1, c2, c3⟩ := hI.wi.cells
        have hz := hI.wi.2.1.lt
        have hF := (hI.wi.2.1.set_ 0 (.int .i64 (j : Int))).set_ 1 (.slice (some ⟨g, 0, none⟩) n n)
        have r0 := hF.cell 0
        have r1 := hF.cell 1
        have hL1 := lo_set (lo_set hI.wi.1 (p := ⟨w.heap.size, 0, none⟩) (Nat.le_refl _) (.int .i64 (j : Int))) (p := ⟨w.heap.size, 1, none⟩) (Nat.le_refl _) (.slice (some ⟨g, 0, none⟩) n n)
        clear hF hI
        go_wp2
        refine bodyPost_ret (v := .tuple #[.agg #[.int .i64 j, .slice (some ⟨g, 0, none⟩) n n], .bool true]) (by simp [results, Try.results23, go_sem, r0, r1]) rfl ⟨_, _, _, _, rfl, hL1⟩
end Go.Proofs.Ytljmlhcmjgepcaa
