/- The walk of the law FnExecuteSwitch: it returns true for every slice of bytes, where the table of directions is as the program lays it. -/
import Derived.Test.YtpeiolimdglmhaaGreatDoorZ41
import Derived.Deep.RegionHeld3
import Derived.Deep.CutRange
namespace Go.Proofs.YtpeiolimdglmhaaGreatDoor
open Go.RowKit
set_option maxRecDepth 100000

theorem cells2 {w : World} {g : Nat} {t : TypeId} {a b : Value} (h : Blk w g t #[a, b]) : w.cell? ⟨g, 0, none⟩ = some a ∧ w.cell? ⟨g, 1, none⟩ = some b :=
  ⟨h.cell 0, h.cell 1⟩

set_option maxHeartbeats 8000000 in
theorem law_ExecuteSwitch (A : Option Addr) (n c : Nat) (w : World) (hr : RdB w A n) (hb : n ≤ maxLen ∧ n ≤ c) (hD : Dir w) :
    Calls Tryz.prog 9 #[.slice A n c] w fun e w' => e = .returned (.bool true) ∧ Below w.heap.size w w' := by
  obtain ⟨hl, hc⟩ := hb
  unfold maxLen at hl
  by_cases h : 1048576 < n
  · go_enter Tryz.func9, Tryz.ntmps9
    go_wp2
    go_ret
    exact ⟨rfl, Below.refl _ _⟩
  go_enter Tryz.func9, Tryz.ntmps9
  go_wp2_with fail
  refine (DrawSwitchDo_c A n c _ hr (by omega) hc).mono ?_
  rintro e w1 ⟨W, B, a, d, xs, x, y, z, u, rfl, hyz, ha, hO, hb1⟩
  obtain ⟨hx6, hy6, hz6, hu6⟩ := hyz
  have hG0 := (Blk.new w1 25 #[.int .i64 W, .slice B a d]).alloc (.cells #[.int .i64 (x : Nat), .int .i64 (y : Nat), .int .i64 (z : Nat), .int .i64 (u : Nat)] 44)
  have hS0 := heap_at2 w1 (.cells #[.int .i64 W, .slice B a d] 25) 44 #[.int .i64 (x : Nat), .int .i64 (y : Nat), .int .i64 (z : Nat), .int .i64 (u : Nat)]
  have hR0 := (hO.rd.alloc (.cells #[.int .i64 W, .slice B a d] 25)).alloc (.cells #[.int .i64 (x : Nat), .int .i64 (y : Nat), .int .i64 (z : Nat), .int .i64 (u : Nat)] 44)
  have hL0 := lo_alloc (lo_alloc hb1 (.cells #[.int .i64 W, .slice B a d] 25)) (.cells #[.int .i64 (x : Nat), .int .i64 (y : Nat), .int .i64 (z : Nat), .int .i64 (u : Nat)] 44)
  have g0 := hG0.cell 0; have g1 := hG0.cell 1
  have s0 := hS0.cell 0; have s1 := hS0.cell 1; have s2 := hS0.cell 2; have s3 := hS0.cell 3
  clear hO hb1
  cases hx : exSwitch (W, xs) x y z u with
  | none =>
    have himp := fun w hr => impl_SwitchDo_no W a d B xs x y z u w hr (by omega) hx
    have hspc := fun w hr => spec_SwitchDo_no W a d B xs x y z u w hr (by omega) (by omega) (by omega) hx
    clear hx
    go_wp2_with fail
    refine (himp _ hR0).mono ?_
    rintro e w2 ⟨rfl, hb2⟩
    have hP2 := Blk.new w2 25 #[.int .i64 0, .slice none 0 0]
    have hG2 := (hG0.next hb2).alloc (.cells #[.int .i64 0, .slice none 0 0] 25)
    have hS2 := (hS0.next hb2).alloc (.cells #[.int .i64 0, .slice none 0 0] 25)
    have hR2 := (hR0.next hb2).alloc (.cells #[.int .i64 0, .slice none 0 0] 25)
    have hL2 := lo_alloc (lo_trans hL0 hb2) (.cells #[.int .i64 0, .slice none 0 0] 25)
    clear g0 g1 s0 s1 s2 s3 himp hb2
    have g0 := hG2.cell 0; have g1 := hG2.cell 1
    have s0 := hS2.cell 0; have s1 := hS2.cell 1; have s2 := hS2.cell 2; have s3 := hS2.cell 3
    go_wp2_with fail
    refine (hspc _ hR2).mono ?_
    rintro e w3 ⟨rfl, hb3⟩
    have hQ3 := Blk.new w3 25 #[.int .i64 0, .slice none 0 0]
    have hP3 := (hP2.next hb3).alloc (.cells #[.int .i64 0, .slice none 0 0] 25)
    have hL3 := lo_alloc (lo_trans hL2 hb3) (.cells #[.int .i64 0, .slice none 0 0] 25)
    clear g0 g1 s0 s1 s2 s3 hspc hb3 hG0 hS0 hR0 hL0 hG2 hS2 hR2 hL2 hP2
    have p0 := hP3.cell 0; have p1 := hP3.cell 1; have q0 := hQ3.cell 0; have q1 := hQ3.cell 1
    go_wp2_with fail
    refine (lsameImage_t 0 none none 0 0 0 0 [] _ Rd.nil_ Rd.nil_ (by omega)).mono ?_
    rintro e w4 ⟨rfl, hb4⟩
    have hP4 := hP3.next hb4
    have hQ4 := hQ3.next hb4
    have hL4 := lo_trans hL3 hb4
    clear p0 p1 q0 q1 hb4 hP3 hQ3 hL3
    have p0 := hP4.cell 0; have p1 := hP4.cell 1; have q0 := hQ4.cell 0; have q1 := hQ4.cell 1
    go_wp2_with fail
    refine (lsameImage_t 0 none none 0 0 0 0 [] _ Rd.nil_ Rd.nil_ (by omega)).mono ?_
    rintro e w5 ⟨rfl, hb5⟩
    have hL5 := lo_trans hL4 hb5
    clear hb5
    go_wp2
    go_ret
    exact ⟨rfl, hL5⟩
  | some zz =>
    obtain ⟨m, ys, rfl, hk, rfl, hky, hsy⟩ := exSwitch_some hx
    have himp := fun w hr => impl_SwitchDo_c (m : Int) a d B xs x y z u w hr (by omega)
    have hspc := fun w hr => spec_SwitchDo_c (m : Int) a d B xs x y z u w hr (by omega) (by omega) (by omega)
    rw [hx] at himp hspc
    have hex := switch_exec hk hky hsy hx ⟨hx6, hy6, hz6, hu6⟩
    have hyl : ys.length ≤ 6 := by have := okB_bd hky; omega
    clear hx hsy
    go_wp2_with fail
    refine (himp _ hR0).mono ?_
    rintro e w2 ⟨V, X, r, k, zs, rfl, hzz, hX, hb2⟩
    obtain ⟨rfl, rfl⟩ : V = (m : Int) ∧ zs = ys := by have := hzz _ rfl; injection this with h1 h2; exact ⟨h1.symm, h2.symm⟩
    simp only [Option.isSome_some]
    have hP2 := Blk.new w2 25 #[.int .i64 (m : Int), .slice X r k]
    have hG2 := (hG0.next hb2).alloc (.cells #[.int .i64 (m : Int), .slice X r k] 25)
    have hS2 := (hS0.next hb2).alloc (.cells #[.int .i64 (m : Int), .slice X r k] 25)
    have hR2 := (hR0.next hb2).alloc (.cells #[.int .i64 (m : Int), .slice X r k] 25)
    have hX2 := hX.rd.alloc (.cells #[.int .i64 (m : Int), .slice X r k] 25)
    have hL2 := lo_alloc (lo_trans hL0 hb2) (.cells #[.int .i64 (m : Int), .slice X r k] 25)
    have hr6 : r ≤ 6 := by have := hX.rd.1; omega
    clear g0 g1 s0 s1 s2 s3 himp hb2 hX hzz
    have g0 := hG2.cell 0; have g1 := hG2.cell 1
    have s0 := hS2.cell 0; have s1 := hS2.cell 1; have s2 := hS2.cell 2; have s3 := hS2.cell 3
    go_wp2_with fail
    refine (hspc _ hR2).mono ?_
    rintro e w3 ⟨V, Y, q, l, rfl, hb3, hY⟩
    obtain ⟨e1, hYo⟩ := hY _ rfl
    dsimp only at e1 hYo
    subst e1
    clear hY
    simp only [Option.isSome_some]
    have hQ3 := Blk.new w3 25 #[.int .i64 (m : Int), .slice Y q l]
    have hP3 := (hP2.next hb3).alloc (.cells #[.int .i64 (m : Int), .slice Y q l] 25)
    have hG3 := (hG2.next hb3).alloc (.cells #[.int .i64 (m : Int), .slice Y q l] 25)
    have hS3 := (hS2.next hb3).alloc (.cells #[.int .i64 (m : Int), .slice Y q l] 25)
    have hR3 := (hR2.next hb3).alloc (.cells #[.int .i64 (m : Int), .slice Y q l] 25)
    have hX3 := (hX2.next hb3).alloc (.cells #[.int .i64 (m : Int), .slice Y q l] 25)
    have hY3 := hYo.rd.alloc (.cells #[.int .i64 (m : Int), .slice Y q l] 25)
    have hL3 := lo_alloc (lo_trans hL2 hb3) (.cells #[.int .i64 (m : Int), .slice Y q l] 25)
    clear g0 g1 s0 s1 s2 s3 hspc hb3 hG0 hS0 hR0 hL0 hG2 hS2 hR2 hL2 hP2 hX2 hYo
    have p0 := hP3.cell 0; have p1 := hP3.cell 1; have q0 := hQ3.cell 0; have q1 := hQ3.cell 1
    go_wp2_with fail
    refine (lsameImage_t _ _ _ _ _ _ _ zs _ hX3 hY3 (by omega)).mono ?_
    rintro e w4 ⟨rfl, hb4⟩
    have hP4 := hP3.next hb4
    have hG4 := hG3.next hb4
    have hS4 := hS3.next hb4
    have hR4 := hR3.next hb4
    have hX4 := hX3.next hb4
    have hL4 := lo_trans hL3 hb4
    clear p0 p1 q0 q1 hb4 hP3 hQ3 hG3 hS3 hR3 hX3 hY3 hL3
    obtain ⟨DG, hDG⟩ : ∃ f : Nat → Bs, Hid ((fun q : Nat => digS [(q : Int)]) = f) := ⟨_, Lib.hid rfl⟩
    have hDe : ∀ q : Nat, digS [(q : Int)] = DG q := fun q => congrFun hDG.out q
    have hDl : ∀ q, (DG q).length = 1 := fun q => by rw [← hDe]; exact digS_len _
    have hdg : ∀ (q : Nat) (g : Nat) (w : World), Rd w (some ⟨g, 0, none⟩) 1 [(q : Int)] → q ≤ 6 → Calls Tryz.prog 21 #[.slice (some ⟨g, 0, none⟩) 1 1] w fun e w' => e = .returned (.string (S (DG q))) ∧ Below w.heap.size w w' := fun q g w hr hq => by
      rw [← hDe]
      exact digitsOf_c (some ⟨g, 0, none⟩) 1 1 [(q : Int)] w hr (by omega) (fun x hx => by rw [List.mem_singleton] at hx; subst hx; omega)
    simp only [hDe] at hex
    clear hDe hDG
    have hTX : swT (fun j => DG (pick4 x y z u j)) 7 = kSwitch ++ [32] ++ DG x ++ [32] ++ DG y ++ [32] ++ DG z ++ [32] ++ DG u ++ [10] := swT_seven _
    rw [← hTX] at hex
    have hTXl : (swT (fun j => DG (pick4 x y z u j)) 7).length = 8 + 7 := swT_len (fun j => hDl _) 7
    clear hTX
    obtain ⟨TX, hTX⟩ : ∃ t, Hid (swT (fun j => DG (pick4 x y z u j)) 7 = t) := ⟨_, Lib.hid rfl⟩
    rw [hTX.out] at hex hTXl
    go_upto_region 8 with (fail)
    go_cut [9] from 53 to 76 (fun v wx => v = .string (S TX) ∧ Below w4.heap.size w4 wx)
    case first =>
      rename_i J K' hJ hK'
      refine sw_region _ _ (w1.heap.size + 1) (pick4 x y z u) (fun j => DG (pick4 x y z u j)) (by simp) rfl hS4 (fun j _ g w hR => hdg _ g w hR (pick4_le hx6 hy6 hz6 hu6 j)) (fun j => hDl _) ?_
      intro a w hsz hdf hfr h9 hb
      rw [hTX.out] at h9
      refine hK' _ _ (Met.intro (hJ _ _ ⟨a.tmps.getD 9 undef, a.tmps.getD 53 undef, a.tmps.getD 54 undef, a.tmps.getD 55 undef, a.tmps.getD 56 undef, a.tmps.getD 57 undef, a.tmps.getD 58 undef, a.tmps.getD 59 undef, a.tmps.getD 60 undef, a.tmps.getD 61 undef, a.tmps.getD 62 undef, a.tmps.getD 63 undef, a.tmps.getD 64 undef, a.tmps.getD 65 undef, a.tmps.getD 66 undef, a.tmps.getD 67 undef, a.tmps.getD 68 undef, a.tmps.getD 69 undef, a.tmps.getD 70 undef, a.tmps.getD 71 undef, a.tmps.getD 72 undef, a.tmps.getD 73 undef, a.tmps.getD 74 undef, a.tmps.getD 75 undef, a.tmps.getD 76 undef, ⟨h9, hb⟩, (frame_back hsz hdf hfr).trans ?_⟩))
      kernel_rfl
    case rest =>
      obtain ⟨rfl, hb5⟩ := hcut
      have hP5 := hP4.next hb5
      have hG5 := hG4.next hb5
      have hR5 := hR4.next hb5
      have hX5 := hX4.next hb5
      have hL5 := lo_trans hL4 hb5
      clear hb5 hP4 hG4 hS4 hR4 hX4 hL4 hdg hDl hTX
      have hbd := okB_bd hk
      rw [hR5.1] at hbd
      have hTe : textW (m : Int) xs = textL m xs := by rw [textW, hk, if_pos rfl, Int.toNat_natCast]
      have hUe : textW (m : Int) zs = textL m zs := by rw [textW, hky, if_pos rfl, Int.toNat_natCast]
      have hti := fun w hr => text_impl (m : Int) B a d xs w hr (by omega)
      rw [hTe] at hti
      have htx := fun w hr => text_impl (m : Int) X r k zs w hr (by omega)
      rw [hUe] at htx
      have hTl := textL_len hk
      have hUl := textL_len hky
      have hrows := fun w => rowsOf_c (textL m xs) w (by omega)
      have hscr : rowsL (linesOf (textL m xs)) = scr m xs := rfl
      rw [hscr] at hrows
      obtain ⟨T, hT⟩ : ∃ T, Hid (textL m xs = T) := ⟨_, Lib.hid rfl⟩
      rw [hT.out] at hti hrows hTl
      obtain ⟨U, hU⟩ : ∃ U, Hid (textL m zs = U) := ⟨_, Lib.hid rfl⟩
      rw [hU.out] at htx hex hUl
      have hsh : scr m xs ++ (TX ++ kShow ++ [10]) = (scr m xs ++ TX) ++ [115, 104, 111, 119, 10] := by simp [kShow]
      rw [hsh] at hex
      obtain ⟨hx1, hx2⟩ := scr_exec hk
      have hRl := (scr_run hk).2.2
      have hca := fun w hD => impl_Execute_c (scr m xs) w hD
      rw [hx1] at hca
      have hCl := cellsT_len ((m : Int), xs)
      have hol : (okN xs.length).length ≤ 18 := by rw [okN_len, hR5.1]; omega
      have hlast := fun w => lastLine_c (execT (scr m xs)) w (by rw [hx1, List.length_append]; omega)
      rw [hx2, hx1] at hlast
      have hcb := fun w hD => impl_Execute_c ((scr m xs ++ TX) ++ [115, 104, 111, 119, 10]) w hD
      rw [hex] at hcb
      have k1 : ∀ w, (Op.stringOp .add (S (scr m xs)) (S TX)).run Tryz.prog w = .ok (.string (S (scr m xs ++ TX))) w := fun w => cat_ok (scr m xs) TX (by omega) w
      have k2 : ∀ w, (Op.stringOp .add (S (scr m xs ++ TX)) ({ data := #[115, 104, 111, 119, 10] } : ByteArray)).run Tryz.prog w = .ok (.string (S ((scr m xs ++ TX) ++ [115, 104, 111, 119, 10]))) w := fun w => cat_ok (scr m xs ++ TX) [115, 104, 111, 119, 10] (by simp; omega) w
      clear hx1 hx2 hsh hscr hTe hUe hex
      generalize (scr m xs ++ TX) ++ [115, 104, 111, 119, 10] = R3 at k2 hcb
      generalize scr m xs ++ TX = R2 at k1 k2
      generalize scr m xs = R at k1 hca hrows
      generalize okN xs.length = O at hca hcb hlast hol
      generalize hCe : cellsT ((m : Int), xs) = C at hca hcb hlast hCl
      clear hCe
      have j1 : ∀ w, (Op.stringOp .add (S O) ({ data := #[111, 107, 10] } : ByteArray)).run Tryz.prog w = .ok (.string (S (O ++ [111, 107, 10]))) w := fun w => cat_ok O [111, 107, 10] (by simp; omega) w
      have j2 : ∀ w, (Op.stringOp .add (S (O ++ [111, 107, 10])) (S U)).run Tryz.prog w = .ok (.string (S ((O ++ [111, 107, 10]) ++ U))) w := fun w => cat_ok (O ++ [111, 107, 10]) U (by simp; omega) w
      have j3 : ∀ w, (Op.stringOp .add (S ((O ++ [111, 107, 10]) ++ U)) (S C)).run Tryz.prog w = .ok (.string (S (((O ++ [111, 107, 10]) ++ U) ++ C))) w := fun w => cat_ok ((O ++ [111, 107, 10]) ++ U) C (by simp; omega) w
      generalize ((O ++ [111, 107, 10]) ++ U) ++ C = z9 at j3 hcb
      generalize (O ++ [111, 107, 10]) ++ U = y2 at j2 j3
      generalize O ++ [111, 107, 10] = y1 at j1 j2
      have hsl : ∀ w, (Instr.slice 9 (.string (S (O ++ C))) none (some (.int .i64 (O.length : Int))) none).run Tryz.prog w = .ok (.string (S O)) w := fun w => by
        have := slt_ok (O ++ C) O.length (by simp) w
        rwa [List.take_left] at this
      have hasz := S_size (O ++ C)
      have hCsz := S_size C
      have hab : (O ++ C).length = O.length + C.length := List.length_append
      obtain ⟨av, hav⟩ : ∃ av, Hid (O ++ C = av) := ⟨_, Lib.hid rfl⟩
      rw [hav.out] at hsl hasz hlast hca hab
      have ew : IntKind.i64.wrap ((av.length : Int) - (C.length : Int)) = (O.length : Int) := by rw [IntWalk.i64_in _ (by omega)]; omega
      have ei0 : (0 : Int) ≤ (O.length : Int) := by omega
      have ei1 : (O.length : Int) ≤ (av.length : Int) := by omega
      clear hab hk hky hT hU hbd hyl
      have g0 := hG5.cell 0; have g1 := hG5.cell 1
      go_wp2_with fail
      refine (hti _ hR5).mono ?_
      rintro e w6 ⟨rfl, hb6⟩
      have hP6 := hP5.next hb6
      have hG6 := hG5.next hb6
      have hR6 := hR5.next hb6
      have hX6 := hX5.next hb6
      have hL6 := lo_trans hL5 hb6
      clear g0 g1 hb6 hP5 hG5 hR5 hX5 hL5
      go_wp2_with fail
      refine (hrows _).mono ?_
      rintro e w7 ⟨rfl, rfl⟩
      go_wp2_with fail
      refine (hcb _ (hD.next hL6)).mono ?_
      rintro e w8 ⟨rfl, hb8⟩
      have hP8 := hP6.next hb8
      have hG8 := hG6.next hb8
      have hR8 := hR6.next hb8
      have hX8 := hX6.next hb8
      have hL8 := lo_trans hL6 hb8
      clear hcb hb8 hP6 hG6 hR6 hX6 hL6
      have g0 := hG8.cell 0; have g1 := hG8.cell 1
      go_wp2_with fail
      refine (hti _ hR8).mono ?_
      rintro e w9 ⟨rfl, hb9⟩
      have hP9 := hP8.next hb9
      have hX9 := hX8.next hb9
      have hL9 := lo_trans hL8 hb9
      clear g0 g1 hb9 hP8 hG8 hR8 hX8 hL8 hti
      go_wp2_with fail
      refine (hrows _).mono ?_
      rintro e w10 ⟨rfl, rfl⟩
      go_wp2_with fail
      refine (hca _ (hD.next hL9)).mono ?_
      rintro e w11 ⟨rfl, hb11⟩
      have hP11 := hP9.next hb11
      have hX11 := hX9.next hb11
      have hL11 := lo_trans hL9 hb11
      clear hca hb11 hP9 hX9 hL9 hrows
      go_wp2
      go_region_held3 (fun wx => wx.cell? ⟨w2.heap.size, 0, none⟩ = some (.int .i64 (m : Int)) ∧ wx.cell? ⟨w2.heap.size, 1, none⟩ = some (.slice X r k))
        ((with_reducible refine cells2 (t := 25) ?_
          repeat' first
            | with_reducible exact hP11
            | with_reducible refine Blk.drew ?_
            | with_reducible refine Blk.alloc ?_ _
            | with_reducible refine Blk.next ?_ (by assumption)))
        (first
          | (go_at_call 18
             refine (hlast _).mono ?_
             rintro e wd ⟨rfl, rfl⟩)
          | (go_at_call 12
             refine (htx _ (by
               repeat' first
                 | with_reducible exact hX11
                 | with_reducible refine Rd.drew ?_
                 | with_reducible refine Rd.alloc ?_ _
                 | with_reducible refine Rd.next ?_ (by assumption))).mono ?_
             rintro e wd ⟨rfl, hbd⟩))
      go_wp2
      go_ret
      exact ⟨rfl, by (repeat (first | exact Below.refl _ _ | assumption | refine lo_alloc ?_ _ | refine lo_set ?_ (by simp; try omega) _ | refine Below.drew ?_ | refine below_drewN ?_ _ | refine lo_trans ?_ (by assumption) | refine lo_wr ?_ (by assumption) (by omega)))⟩
end Go.Proofs.YtpeiolimdglmhaaGreatDoor
