
/- Walks: the way of switches between two images with the same sums. -/
import Derived.Test.YtkcdoacojiilaaaGreatPt
import Derived.OwnWalk
namespace Go.Proofs.YtkcdoacojiilaaaGreat
open Go.RowKit
set_option maxRecDepth 100000

theorem Own.img {w : World} {lo l n : Nat} {A : Option Addr} {xs : List Int} (h : Own w l A n xs) (hn : 0 < n) : Img w lo A n xs :=
  ⟨h.rd, fun b off e => by
    obtain ⟨g, cs, e', _, hb, _⟩ := h.2 hn
    rw [e] at e'; cases e'
    exact .inr ⟨cs, hb⟩⟩
theorem distX_le' (xs ys : List Int) (h : xs.length ≤ 6) : distX xs ys ≤ 36 := by
  have h1 := sumN_le_mul (n := xs.length) (c := 6) (F := fun i => pop ((xs[i]?.getD 0).toNat ^^^ (ys[i]?.getD 0).toNat)) (fun i _ => pop_le _)
  unfold distX
  omega
theorem path_len {m k : Nat} {xs ys : List Int} (h : Path m xs ys k) : ys.length = xs.length := by
  induction h with
  | nil => rfl
  | step _ hz ih =>
    obtain ⟨s, _, rfl⟩ := List.mem_map.1 hz
    rw [swDo_len, ih]
theorem PM.len {m k1 k2 n : Nat} {xs ys xs' ys' : List Int} (h : PM m xs ys xs' ys' k1 k2) (hl : xs'.length = n) (hn : n ≤ 6) : k1 + k2 ≤ 36 := by
  have h1 := h.me
  have h2 := distX_le' xs ys (by rw [← path_len h.px, hl]; exact hn)
  omega
def sliceLen : Value → Nat
  | .slice _ n _ => n
  | _ => 0
/-- what SwitchPath tells -/
def Pth (m : Nat) (xs ys : List Int) (w : World) (e : Ending) (w' : World) : Prop :=
  Below w.heap.size w w' ∧ ∃ R c k, e = .returned (.tuple #[.slice R k c, .bool true]) ∧ Path m xs ys k ∧ (xs = ys ∧ k = 0 ∨ 2 * k + 2 ≤ distX xs ys)
/-- the loop's relation -/
def PRel (w : World) (m n : Nat) (xs ys : List Int) (v6 v7 : Value) (wr : World) : Prop :=
  ∃ xs' ys' A c B d R1 c1 ss1 R2 c2 ss2, v6 = .slice R1 ss1.length c1 ∧ v7 = .slice R2 ss2.length c2 ∧ PM m xs ys xs' ys' ss1.length ss2.length ∧ PInv w wr m n xs' ys' A c B d R1 c1 ss1 R2 c2 ss2

set_option maxHeartbeats 8000000 in
theorem SwitchPath_c (m n c d : Nat) (A B : Option Addr) (xs ys : List Int) (w : World) (hr : Rd w A n xs) (hq : Rd w B n ys) (hx : okB (m : Int) xs = true) (hy : okB (m : Int) ys = true) (hs : sameB (m : Int) xs (m : Int) ys = true) :
    Calls Tryz.prog 10 #[.agg #[.int .i64 m, .slice A n c], .agg #[.int .i64 m, .slice B n d]] w (Pth m xs ys w) := by
  have hbd := okB_bd hx
  rw [hr.1] at hbd
  have hll := Lib.hid (show xs.length = ys.length by rw [hr.1, hq.1])
  have hx' := Lib.hid hx; have hy' := Lib.hid hy
  have hP0 := PM.start hs hx hy hll.out
  have hD := distX_le (ys := ys) hx
  have hA0 := (Blk.new w 27 #[.int .i64 (m : Int), .slice A n c]).alloc (.cells #[.int .i64 (m : Int), .slice B n d] 27)
  have hB0 := heap_at2 w (.cells #[.int .i64 (m : Int), .slice A n c] 27) 27 #[.int .i64 (m : Int), .slice B n d]
  have hL0 := lo_alloc (lo_alloc (Below.refl w.heap.size w) (.cells #[.int .i64 (m : Int), .slice A n c] 27)) (.cells #[.int .i64 (m : Int), .slice B n d] 27)
  have hI : ∀ {C : Option Addr} {zs : List Int}, Rd w C n zs → Img w w.heap.size C n zs := fun {C zs} h => ⟨h, fun b off e => by
    obtain ⟨b', off', e', hb, _⟩ := h.2 (by omega)
    rw [e] at e'; cases e'; exact .inl hb⟩
  have hIA := (hI hr).next hL0
  have hIB := (hI hq).next hL0
  clear hx hy hI
  go_enter Tryz.func10, Tryz.ntmps10
  go_wp2_with fail
  refine (SumsSame_c _ _ _ _ xs _ _ _ _ ys _ (hr.next hL0) (by omega) (hq.next hL0) (by omega)).mono ?_
  rw [hs]
  rintro e w1 ⟨rfl, hb1⟩
  have hV0 : PInv w w1 m n xs ys A c B d none 0 [] none 0 [] :=
    ⟨lo_trans hL0 hb1, hA0.next hb1, hB0.next hb1, hIA.next hb1, hIB.next hb1, ⟨rfl, .inl ⟨rfl, rfl⟩⟩, ⟨rfl, .inl ⟨rfl, rfl⟩⟩, fun g e => by cases e⟩
  clear hs hA0 hB0 hL0 hIA hIB hb1 hr hq
  go_wp2
  go_loopw [6, 7] (fun v6 v7 wr => PRel w m n xs ys v6 v7 wr) (fun v6 v7 _ => distX xs ys - (sliceLen v6 + sliceLen v7))
  case atStart => exact ⟨xs, ys, A, c, B, d, none, 0, [], none, 0, [], rfl, rfl, hP0, hV0⟩
  case round =>
    clear hP0 hV0
    obtain ⟨xs', ys', A, c, B, d, R1, c1, ss1, R2, c2, ss2, rfl, rfl, hP, hV⟩ := hrel
    have hxl : xs'.length = n := hV.ia.1.1
    have hme := hP.me
    have a0 := hV.ba.cell 0
    have a1 := hV.ba.cell 1
    have b0 := hV.bb.cell 0
    have b1 := hV.bb.cell 1
    have hP' := Lib.hid hP
    clear hP
    go_wp2_with fail
    refine (sameImage_c _ _ _ _ _ _ _ _ xs' ys' _ hV.ia.1 hV.ib.1 (by omega)).mono ?_
    rintro e w2 ⟨rfl, hb2⟩
    have hV2 := hV.next hb2
    clear hV hb2 a0 a1 b0 b1
    have a0 := hV2.ba.cell 0
    have a1 := hV2.ba.cell 1
    have b0 := hV2.bb.cell 0
    have b1 := hV2.bb.cell 1
    by_cases he : xs' = ys'
    · subst he
      have hPn := hP'.out.done hy'.out
      have hEn := hP'.out.en rfl
      have hl6 := PM.len hP'.out hxl (by omega)
      have hPn' := Lib.hid hPn
      have hEn' := Lib.hid hEn
      clear hPn hEn a0 a1 b0 b1
      have hRV := RowV.ofBuf hV2.u2
      go_wp2_with fail
      refine (Reverse_c _ _ _ _ _ hRV).mono ?_
      rintro e w3 ⟨rfl, hRV3, hg3⟩
      have hr : ∀ g, rowA R2 = some g → w.heap.size ≤ g := fun g e => by have := (hV2.u2.rowTy g e).1; omega
      have hL3 := lo_grown hV2.bel hg3 hr
      have hz := hV2.size
      have hU3 := hV2.u1.kept hg3 (by
        rintro g rfl e
        rcases hV2.u2.addr with rfl | ⟨g', rfl⟩
        · simp [rowA] at e
        · simp [rowA] at e
          subst e
          exact hV2.ap _ rfl rfl)
      have hz3 := hg3.size
      obtain ⟨R, cR, w4, hap, hg4⟩ := appendRV_run w3 (w.heap.size + 2) R1 c1 ss1.length ss1 rfl hU3 R2 c2 ss2.length hRV3 (by omega) (by omega) 32
      have hL4 := lo_grown hL3 hg4 (fun g e => by have := (hU3.rowTy g e).1; omega)
      have hap' := Lib.hid hap
      clear hap hU3 hRV3 hRV hV2 hg3 hg4 hr
      go_wp2_with (at_builtin; refine wpl_appendR rfl _ _ 32 rfl _ _ _ rfl rfl hap'.out ?_)
      go_ret2
      refine ⟨hL4, R, cR, _, rfl, hPn'.out, ?_⟩
      rcases hEn'.out with ⟨h1, h2⟩ | h1
      · exact .inl ⟨h1, h2⟩
      · exact .inr h1
    · have hne := Lib.hid he
      go_wp2_with fail
      refine (SwitchToward_c m n c d A B xs' ys' w2 hV2.ia.1 hV2.ib.1 hP'.out.ox hP'.out.oy).mono ?_
      rintro e w3 ⟨hb3, ⟨⟨sa, sb, sc, sd⟩, hs, hd, rfl⟩ | ⟨hno, rfl⟩⟩
      · have hs' := Lib.hid hs
        have hd' := Lib.hid hd
        have hsm := (mem_swList.1 hs).1
        dsimp only at hsm
        rw [hxl] at hsm
        have hX := Blk.new w3 50 #[.int .i64 (sa : Int), .int .i64 (sb : Int), .int .i64 (sc : Int), .int .i64 (sd : Int)]
        have hV4 := (hV2.next hb3).next (lo_alloc (Below.refl w3.heap.size w3) (.cells #[.int .i64 (sa : Int), .int .i64 (sb : Int), .int .i64 (sc : Int), .int .i64 (sd : Int)] 50))
        clear hV2 hb3 hs hd a0 a1 b0 b1
        have a0 := hV4.ba.cell 0
        have a1 := hV4.ba.cell 1
        go_wp2_with fail
        refine (switched_c m n c A xs' ⟨sa, sb, sc, sd⟩ _ hV4.ia.1 hP'.out.ox hsm).mono ?_
        rintro e w5 ⟨g, c', rfl, hb5, hown⟩
        have hV5 := hV4.next hb5
        have hX5 := hX.next hb5
        have hz3 : w3.heap.size < w5.heap.size := hX5.lt
        have hV6 := hV5.putA (c' := c') (hown.img (by omega))
        have hX6 := (hX5.far (p := ⟨w.heap.size, 0, none⟩) (by have := hV4.size; simp at this ⊢; omega) (.int .i64 (m : Int))).far (p := ⟨w.heap.size, 1, none⟩) (by have := hV4.size; simp at this ⊢; omega) (.slice (some ⟨g, 0, none⟩) n c')
        clear a0 a1 hX hV4 hb5 hown
        have f0 := hV5.ba.frozen 0
        have f1 := hV5.ba.frozen 1
        have a0 := hV5.ba.cell 0
        have a1 := hV5.ba.cell 1
        have x0 := hX6.cell 0
        have x1 := hX6.cell 1
        have x2 := hX6.cell 2
        have x3 := hX6.cell 3
        have hz6 := hV6.size
        have hl6 := PM.len hP'.out hxl (by omega)
        have hV7 := hV6.next (lo_alloc (Below.refl _ _) (.cells #[.int .i64 (sa : Int), .int .i64 (sb : Int), .int .i64 (sc : Int), .int .i64 (sd : Int)] 50))
        have hn7 := Blk.new ((w5.setCell ⟨w.heap.size, 0, none⟩ (.int .i64 (m : Int))).setCell ⟨w.heap.size, 1, none⟩ (.slice (some ⟨g, 0, none⟩) n c')) 50 #[.int .i64 (sa : Int), .int .i64 (sb : Int), .int .i64 (sc : Int), .int .i64 (sd : Int)]
        simp only [size_setCell] at hn7 hz6
        go_wp2_with (at_builtin; refine (wpl_appendW rfl _ _ rfl (w.heap.size + 2) R1 c1 ss1.length ss1 rfl rfl hV7.u1 w5.heap.size 1 ⟨sa, sb, sc, sd⟩ rfl hn7 (by omega) (by have := hV7.size; omega) ?_); intro g4 c4 w8 hB4 hg4 hat)
        have hV8 := hV7.app1 hB4 hg4 hat
        have hP8 := hP'.out.stepA hs'.out hd'.out
        clear hV7 hV6 hV5 hn7 hB4 hg4 hat hX5 hX6 f0 f1 a0 a1 x0 x1 x2 x3
        go_roundw
        case rel => exact ⟨_, ys', _, c', B, d, _, c4, ss1 ++ [⟨sa, sb, sc, sd⟩], R2, c2, ss2, by rw [List.length_append]; rfl, rfl, by rw [List.length_append]; exact hP8, hV8⟩
        case measure =>
          have := hP8.me
          simp only [sliceLen]
          omega
      · have hno' := Lib.hid hno
        have hV3 := hV2.next hb3
        clear hV2 hb3 hno a0 a1 b0 b1
        have a0 := hV3.ba.cell 0
        have a1 := hV3.ba.cell 1
        have b0 := hV3.bb.cell 0
        have b1 := hV3.bb.cell 1
        have hV3' := hV3.next (lo_alloc (Below.refl w3.heap.size w3) (.cells #[.int .i64 0, .int .i64 0, .int .i64 0, .int .i64 0] 50))
        clear hV3
        have a2 := hV3'.ba.cell 0
        have a3 := hV3'.ba.cell 1
        have b2 := hV3'.bb.cell 0
        have b3 := hV3'.bb.cell 1
        go_wp2_with fail
        refine (SwitchToward_c m n d c B A ys' xs' _ hV3'.ib.1 hV3'.ia.1 hP'.out.oy hP'.out.ox).mono ?_
        rintro e w4 ⟨hb4, ⟨⟨sa, sb, sc, sd⟩, hs, hd, rfl⟩ | ⟨hno2, rfl⟩⟩
        · have hs' := Lib.hid hs
          have hd' := Lib.hid hd
          have hsm := (mem_swList.1 hs).1
          dsimp only at hsm
          rw [← hP'.out.hl, hxl] at hsm
          have hX := Blk.new w4 50 #[.int .i64 (sa : Int), .int .i64 (sb : Int), .int .i64 (sc : Int), .int .i64 (sd : Int)]
          have hV4 := (hV3'.next hb4).next (lo_alloc (Below.refl w4.heap.size w4) (.cells #[.int .i64 (sa : Int), .int .i64 (sb : Int), .int .i64 (sc : Int), .int .i64 (sd : Int)] 50))
          have hz4 := (hV3'.next hb4).size
          clear hV3' hb4 hs hd a0 a1 b0 b1 a2 a3 b2 b3
          have b0 := hV4.bb.cell 0
          have b1 := hV4.bb.cell 1
          go_wp2_with fail
          refine (switched_c m n d B ys' ⟨sa, sb, sc, sd⟩ _ hV4.ib.1 hP'.out.oy hsm).mono ?_
          rintro e w5 ⟨g, c', rfl, hb5, hown⟩
          have hV5 := hV4.next hb5
          have hX5 := hX.next hb5
          have hz3 : w4.heap.size < w5.heap.size := hX5.lt
          have hV6 := hV5.putB (c' := c') (hown.img (by omega))
          have hX6 := (hX5.far (p := ⟨w.heap.size + 1, 0, none⟩) (by have := hV4.size; simp at this ⊢; omega) (.int .i64 (m : Int))).far (p := ⟨w.heap.size + 1, 1, none⟩) (by have := hV4.size; simp at this ⊢; omega) (.slice (some ⟨g, 0, none⟩) n c')
          clear b0 b1 hX hV4 hb5 hown
          have f0 := hV5.bb.frozen 0
          have f1 := hV5.bb.frozen 1
          have b0 := hV5.bb.cell 0
          have b1 := hV5.bb.cell 1
          have x0 := hX6.cell 0
          have x1 := hX6.cell 1
          have x2 := hX6.cell 2
          have x3 := hX6.cell 3
          have hz6 := hV6.size
          have hl6 := PM.len hP'.out hxl (by omega)
          have hV7 := hV6.next (lo_alloc (Below.refl _ _) (.cells #[.int .i64 (sa : Int), .int .i64 (sb : Int), .int .i64 (sc : Int), .int .i64 (sd : Int)] 50))
          have hn7 := Blk.new ((w5.setCell ⟨w.heap.size + 1, 0, none⟩ (.int .i64 (m : Int))).setCell ⟨w.heap.size + 1, 1, none⟩ (.slice (some ⟨g, 0, none⟩) n c')) 50 #[.int .i64 (sa : Int), .int .i64 (sb : Int), .int .i64 (sc : Int), .int .i64 (sd : Int)]
          simp only [size_setCell] at hn7 hz6
          go_wp2_with (at_builtin; refine (wpl_appendW rfl _ _ rfl (w.heap.size + 2) R2 c2 ss2.length ss2 rfl rfl hV7.u2 w5.heap.size 1 ⟨sa, sb, sc, sd⟩ rfl hn7 (by omega) (by have := hV7.size; omega) ?_); intro g4 c4 w8 hB4 hg4 hat)
          have hV8 := hV7.app2 hB4 hg4 hat
          have hP8 := hP'.out.stepB hx'.out hy'.out hll.out hs'.out hd'.out
          clear hV7 hV6 hV5 hn7 hB4 hg4 hat hX5 hX6 f0 f1 b0 b1 x0 x1 x2 x3
          go_roundw
          case rel => exact ⟨xs', _, A, c, _, c', R1, c1, ss1, _, c4, ss2 ++ [⟨sa, sb, sc, sd⟩], rfl, by rw [List.length_append]; rfl, by rw [List.length_append]; exact hP8, hV8⟩
          case measure =>
            have := hP8.me
            simp only [sliceLen]
            omega
        · exfalso
          obtain ⟨s, h1, h2⟩ := hP'.out.more hne.out hno'.out
          exact hno2 s h1 h2
end Go.Proofs.YtkcdoacojiilaaaGreat
