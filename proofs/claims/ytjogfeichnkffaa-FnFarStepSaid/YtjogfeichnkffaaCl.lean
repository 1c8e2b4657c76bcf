
/- Walks: a copy of an image; the image's other cells. -/
import Derived.Test.YtjogfeichnkffaaTu
import Derived.Test.YtjogfeichnkffaaBuf
import Derived.Deep.RegionHeld3
import Derived.Test.YtjogfeichnkffaaDw
namespace Go.Proofs.Ytjogfeichnkffaa
open Go.RowKit

set_option maxHeartbeats 1000000 in
theorem Clone_c (A : Option Addr) (n c : Nat) (xs : List Int) (w : World) (hr : Rd w A n xs) (hn0 : 0 < n) (hn : n ≤ 1048576) :
    Calls Try.prog 51 #[.slice A n c] w fun e w' => ∃ g c', e = .returned (.slice (some ⟨g, 0, none⟩) n c') ∧ Below w.heap.size w w' ∧ Own w' w.heap.size (some ⟨g, 0, none⟩) n xs := by
  obtain ⟨b, off, rfl, hb, hcc⟩ := hr.2 hn0
  have hnil := fun w' => Lib.run_eql_slice_nil (P := Try.prog) w' 22 3 (some ⟨b, off, none⟩) n c 0 0 Try.underlying22
  have hB0 : Buf (w.alloc (.cells #[] 3)) w.heap.size (some ⟨w.heap.size, 0, none⟩) 0 [] := Buf.lit w w.heap.size [] (Nat.le_refl _) (Nat.zero_le _)
  have hrd : Rd (w.alloc (.cells #[] 3)) (some ⟨b, off, none⟩) n xs := hr.alloc _
  go_enter Try.func51, Try.ntmps51
  go_wp2_with (at_builtin; refine (wpl_append rfl _ _ rfl w.heap.size _ 0 0 [] rfl rfl hB0 _ n c xs rfl hrd hn0 (by omega) (by simp) ?_); intro g c' w4 hB4 hg4 hat)
  go_ret
  have h1 := hB4.own
  simp only [List.nil_append, hr.1] at h1
  refine ⟨g, c', by simp, ?_, h1⟩
  exact lo_grown (lo_alloc (Below.refl w.heap.size w) (.cells #[] 3)) hg4 (fun g hg => rowA_ge hB0 g hg)

set_option maxHeartbeats 1000000 in
theorem clone_c (W : Int) (A : Option Addr) (n c : Nat) (xs : List Int) (w : World) (hr : Rd w A n xs) (hn0 : 0 < n) (hn : n ≤ 1048576) :
    Calls Try.prog 39 #[.agg #[.int .i64 W, .slice A n c]] w fun e w' => ∃ g c', e = .returned (.agg #[.int .i64 W, .slice (some ⟨g, 0, none⟩) n c']) ∧ Below w.heap.size w w' ∧ Own w' w.heap.size (some ⟨g, 0, none⟩) n xs := by
  have hz : ((w.alloc (.cells #[.int .i64 W, .slice A n c] 27)).alloc (.cells #[.int .i64 0, .slice none 0 0] 27)).heap.size = w.heap.size + 2 := by simp
  have hz' := Lib.hid hz; clear hz
  go_enter Try.func39, Try.ntmps39
  go_wp2
  go_region_held3 (fun w' => w'.cell? ⟨w.heap.size, 0, none⟩ = some (.int .i64 W) ∧ w'.cell? ⟨w.heap.size, 1, none⟩ = some (.slice A n c))
    (first
      | go_keep
      | exact ⟨((((Blk.new w 27 #[.int .i64 W, .slice A n c]).alloc (.cells #[.int .i64 0, .slice none 0 0] 27)).drew).next hb1).cell 0, ((((Blk.new w 27 #[.int .i64 W, .slice A n c]).alloc (.cells #[.int .i64 0, .slice none 0 0] 27)).drew).next hb1).cell 1⟩)
    (first
      | (go_at_call 51; refine (Clone_c _ _ _ xs _ (((hr.alloc _).alloc _).drew) hn0 hn).mono ?_; rintro e w1 ⟨g, c', rfl, hb1, ho1⟩; have hKr := ((heap_at2 w (.cells #[.int .i64 W, .slice A n c] 27) 27 #[.int .i64 0, .slice none 0 0]).drew).next hb1; have r0 := hKr.cell 0; have r1 := hKr.cell 1; have f0 := hKr.frozen 0; have f1 := hKr.frozen 1))
  obtain ⟨s0, s1, hB5⟩ := fin_cells1 (w := w) hKr (lo_trans (Below.drew (lo_alloc (lo_alloc (Below.refl w.heap.size w) (.cells #[.int .i64 W, .slice A n c] 27)) (.cells #[.int .i64 0, .slice none 0 0] 27))) hb1) (.int .i64 W) (.slice (some ⟨g, 0, none⟩) n c')
  have s0' := Lib.hid s0; have s1' := Lib.hid s1; clear s0 s1
  go_wp2
  refine bodyPost_ret (v := .agg #[.int .i64 W, .slice (some ⟨g, 0, none⟩) n c']) (by simp [results, Try.results39, go_sem, s0'.out, s1'.out]) rfl ⟨g, c', rfl, hB5, ?_⟩
  have hz2 : ((w.alloc (.cells #[.int .i64 W, .slice A n c] 27)).alloc (.cells #[.int .i64 0, .slice none 0 0] 27)).drew.heap.size = w.heap.size + 2 := hz'.out
  rw [hz2] at ho1
  exact ((ho1.far_lo (p := ⟨w.heap.size + 1, 0, none⟩) (by simp) _).far_lo (p := ⟨w.heap.size + 1, 1, none⟩) (by simp) _).mono (by omega)

def otherW (W : Int) (xs : List Int) : Int := if okB W xs then W else 0
def otherX (W : Int) (xs : List Int) : List Int := if okB W xs then img (fun i j => !cellF xs i j) xs.length W.toNat else []
theorem other_row {r m : Nat} (hr : r < 2 ^ m) : r ^^^ (2 ^ m - 1) = mkRow (fun j => !r.testBit j) m := by
  have hp : 0 < 2 ^ m := Nat.pow_pos (by omega)
  refine row_ext (Nat.xor_lt_two_pow hr (by omega)) (mkRow_lt _ _) (fun j hj => ?_)
  rw [Nat.testBit_xor, Nat.testBit_two_pow_sub_one, testBit_mkRow]
  simp [hj]
theorem okB_row {W : Int} {xs : List Int} {m : Nat} (h : okB W xs = true) (hW : W = m) {k : Nat} (hk : k < xs.length) : ∃ r : Nat, xs[k]?.getD 0 = (r : Int) ∧ r < 2 ^ m := by
  have h1 := allIn_at (okB_all h) k hk
  subst hW
  rw [Int.toNat_natCast] at h1
  have e : ((2 ^ m : Nat) : Int) = (2 : Int) ^ m := by simp
  exact ⟨(xs[k]?.getD 0).toNat, by omega, by omega⟩
theorem other_step {m k r : Nat} {xs : List Int} (hk : k < xs.length) (hx : xs[k]?.getD 0 = (r : Int)) (hr : r < 2 ^ m) :
    ((img (fun i j => !cellF xs i j) xs.length m).take k ++ xs.drop k).set k ((r ^^^ (2 ^ m - 1) : Nat) : Int) = (img (fun i j => !cellF xs i j) xs.length m).take (k + 1) ++ xs.drop (k + 1) := by
  refine take_drop_set _ _ _ _ hk ?_
  rw [img_get' hk, other_row hr]
  simp only [cellF, hx, Int.toNat_natCast]

set_option maxRecDepth 100000 in
set_option maxHeartbeats 2000000 in
theorem ImageOther_c (W : Int) (A : Option Addr) (n c : Nat) (xs : List Int) (w : World) (hr : Rd w A n xs) (hn : n ≤ 1073741824) :
    Calls Try.prog 18 #[.agg #[.int .i64 W, .slice A n c]] w fun e w' => ∃ R r k, e = .returned (.tuple #[.agg #[.int .i64 (otherW W xs), .slice R r k], .bool (okB W xs)]) ∧ Below w.heap.size w w' ∧ Own w' w.heap.size R r (otherX W xs) := by
  cases hk : okB W xs with
  | false =>
    have hT := Lib.hid (show otherW W xs = 0 ∧ otherX W xs = [] by simp [otherW, otherX, hk])
    go_enter Try.func18, Try.ntmps18
    go_wp2_with fail
    refine (impl_ImageValid_c _ _ _ _ xs _ ((hr.alloc _).alloc _) (by omega)).mono ?_
    rw [hk]
    rintro e w1 ⟨rfl, hb1⟩
    have hK : Blk w1 (w.heap.size + 1) _ _ := (heap_at2 w (.cells #[.int .i64 W, .slice A n c] 27) 27 #[.int .i64 0, .slice none 0 0]).next hb1
    have r0 := hK.cell 0
    have r1 := hK.cell 1
    have f0 := hK.frozen 0
    have f1 := hK.frozen 1
    go_wp2
    refine bodyPost_ret (v := .tuple #[.agg #[.int .i64 0, .slice none 0 0], .bool false]) (by simp [results, Try.results18, go_sem, r0, r1]) rfl ⟨none, 0, 0, by rw [hT.out.1], ?_, by rw [hT.out.2]; exact Own.nil_ _ _ _⟩
    (repeat (first | exact Below.refl _ _ | assumption | refine lo_alloc ?_ _ | refine lo_set ?_ (by simp; try omega) _ | refine Below.drew ?_ | refine below_drewN ?_ _ | refine lo_trans ?_ (by assumption) | refine lo_wr ?_ (by assumption) (by omega)))
  | true =>
    have hbd := okB_bd hk
    rw [hr.1] at hbd
    obtain ⟨m, rfl⟩ := Int.eq_ofNat_of_zero_le (show 0 ≤ W by omega)
    have hk' := Lib.hid hk
    have hT := Lib.hid (show otherW m xs = m ∧ otherX m xs = img (fun i j => !cellF xs i j) xs.length m by simp [otherW, otherX, hk])
    have hpw := pow_int (j := m) (by omega)
    go_enter Try.func18, Try.ntmps18
    go_wp2_with fail
    refine (impl_ImageValid_c _ _ _ _ xs _ ((hr.alloc _).alloc _) (by omega)).mono ?_
    rw [hk]
    rintro e w1 ⟨rfl, hb1⟩
    clear hk
    have hKa : Blk w1 w.heap.size _ _ := ((Blk.new w 27 #[.int .i64 (m : Int), .slice A n c]).alloc (.cells #[.int .i64 0, .slice none 0 0] 27)).next hb1
    have hKr : Blk w1 (w.heap.size + 1) _ _ := (heap_at2 w (.cells #[.int .i64 (m : Int), .slice A n c] 27) 27 #[.int .i64 0, .slice none 0 0]).next hb1
    have hB1 : Below w.heap.size w w1 := by (repeat (first | exact Below.refl _ _ | assumption | refine lo_alloc ?_ _ | refine lo_set ?_ (by simp; try omega) _ | refine Below.drew ?_ | refine below_drewN ?_ _ | refine lo_trans ?_ (by assumption) | refine lo_wr ?_ (by assumption) (by omega)))
    have a0 := hKa.cell 0
    have a1 := hKa.cell 1
    have hz1 := hKr.lt
    clear hb1
    go_wp2_with fail
    refine (clone_c m _ _ _ xs _ (hr.next hB1) (by omega) (by omega)).mono ?_
    rintro e w2 ⟨g, cc, rfl, hb2, ho2⟩
    obtain ⟨o, ho⟩ : ∃ o, o = w2.heap.size := ⟨_, rfl⟩
    have hO2 : Blk (w2.alloc (.cells #[.int .i64 (m : Int), .slice (some ⟨g, 0, none⟩) n cc] 27)) o 27 #[.int .i64 (m : Int), .slice (some ⟨g, 0, none⟩) n cc] := by rw [ho]; exact Blk.new _ _ _
    have hKa2 := (hKa.next hb2).alloc (.cells #[.int .i64 (m : Int), .slice (some ⟨g, 0, none⟩) n cc] 27)
    have hKr2 := (hKr.next hb2).alloc (.cells #[.int .i64 (m : Int), .slice (some ⟨g, 0, none⟩) n cc] 27)
    have hB2 := lo_alloc (lo_trans hB1 hb2) (.cells #[.int .i64 (m : Int), .slice (some ⟨g, 0, none⟩) n cc] 27)
    have hI2 : Own (w2.alloc (.cells #[.int .i64 (m : Int), .slice (some ⟨g, 0, none⟩) n cc] 27)) w1.heap.size (some ⟨g, 0, none⟩) n ((img (fun i j => !cellF xs i j) xs.length m).take 0 ++ xs.drop 0) := by
      simpa using ho2.alloc _
    have hgo : g < o := by obtain ⟨g', e, _, h3, _⟩ := ho2.at_ (k := 0) (by omega); cases e; omega
    have hgl : w1.heap.size ≤ g := by obtain ⟨g', e, h2, _, _⟩ := ho2.at_ (k := 0) (by omega); cases e; exact h2
    clear a0 a1 hKa hKr hB1 hb2 ho2
    have o1 := hO2.cell 1
    go_wp2
    rw [← ho]
    have ho' := Lib.hid ho
    clear ho o1
    go_loopw [15] (fun i wr => ∃ k : Nat, k ≤ n ∧ i = .int .i64 k ∧ Below w.heap.size w wr ∧ Blk wr w.heap.size 27 #[.int .i64 (m : Int), .slice A n c] ∧ Blk wr (w.heap.size + 1) 27 #[.int .i64 0, .slice none 0 0] ∧ Blk wr o 27 #[.int .i64 (m : Int), .slice (some ⟨g, 0, none⟩) n cc] ∧
        Own wr w1.heap.size (some ⟨g, 0, none⟩) n ((img (fun i j => !cellF xs i j) xs.length m).take k ++ xs.drop k)) (fun i _ => n - (intOf i).toNat)
    case atStart => exact ⟨0, Nat.zero_le _, rfl, hB2, hKa2, hKr2, hO2, hI2⟩
    case round =>
      clear hB2 hKa2 hKr2 hO2 hI2
      obtain ⟨k, hk, rfl, hB, hKa, hKr, hO, hI⟩ := hrel
      by_cases hlt : k < n
      · have hkx : k < xs.length := by rw [hr.1]; exact hlt
        obtain ⟨r, hr1, hr2⟩ := okB_row hk'.out rfl (k := k) hkx
        obtain ⟨g', e, _, hzg, hc, hf, hset⟩ := hI.at_ hlt
        cases e
        have hel : ((img (fun i j => !cellF xs i j) xs.length m).take k ++ xs.drop k)[k]?.getD 0 = (r : Int) := by
          rw [List.getElem?_append_right (by rw [List.length_take]; omega), List.length_take, img_len, Nat.min_eq_left (by omega), List.getElem?_drop, Nat.sub_self, Nat.add_zero]
          exact hr1
        rw [hel] at hc
        have hst := Lib.hid (other_step hkx hr1 hr2)
        have hset' := Lib.hid (hset ((r ^^^ (2 ^ m - 1) : Nat) : Int))
        have hpm := pow_le64 (j := m) (by omega)
        have hX : bits .xor .i64 (r : Int) (2 ^ m - 1) = ((r ^^^ (2 ^ m - 1) : Nat) : Int) := by
          have hp1 : 1 ≤ 2 ^ m := Nat.pow_pos (by omega)
          have e : (2 : Int) ^ m - 1 = ((2 ^ m - 1 : Nat) : Int) := by
            have e2 : ((2 ^ m : Nat) : Int) = (2 : Int) ^ m := by simp
            omega
          rw [e]; exact i64_xor_nat _ _ (by omega) (by omega)
        have hX' := Lib.hid hX
        have a0 := hKa.cell 0
        have o1 := hO.cell 1
        clear hel hr1 hset hX hkx
        go_wp2
        go_region
        rw [hX'.out]
        rw [hst.out] at hset'
        go_wp2
        go_roundw
        case rel => exact ⟨k + 1, by omega, by go_num, Below.drew (lo_set hB (by simp; omega) _), (hKa.far (by simp; omega) _).drew, (hKr.far (by simp; omega) _).drew, (hO.far (by simp; omega) _).drew, hset'.out.drew⟩
        case measure => simp [intOf]; omega
      · have o0 := hO.cell 0
        have o1 := hO.cell 1
        have r0 := hKr.cell 0
        have r1 := hKr.cell 1
        have f0 := hKr.frozen 0
        have f1 := hKr.frozen 1
        obtain ⟨s0, s1, hB5⟩ := fin_cells1 hKr hB (.int .i64 (m : Int)) (.slice (some ⟨g, 0, none⟩) n cc)
        have s0' := Lib.hid s0; have s1' := Lib.hid s1; clear s0 s1
        have hkn : k = n := by omega
        rw [hkn, ← hr.1, List.take_of_length_le (by rw [img_len]; omega), List.drop_eq_nil_of_le (by omega), List.append_nil, hr.1] at hI
        have hkn' := Lib.hid hkn; clear hkn
        go_wp2
        refine bodyPost_ret (v := .tuple #[.agg #[.int .i64 m, .slice (some ⟨g, 0, none⟩) n cc], .bool true]) (by simp [results, Try.results18, go_sem, s0'.out, s1'.out]) rfl ⟨some ⟨g, 0, none⟩, n, cc, by rw [hT.out.1], hB5, ?_⟩
        rw [hT.out.2, hr.1]
        exact ((hI.far_lo (p := ⟨w.heap.size + 1, 0, none⟩) hz1 _).far_lo (p := ⟨w.heap.size + 1, 1, none⟩) hz1 _).mono (by omega)
end Go.Proofs.Ytjogfeichnkffaa
