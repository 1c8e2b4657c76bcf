/- The walk of the law FnExecuteShow: it returns true for every slice of bytes, where the table of directions is as the program lays it. -/
import Derived.Test.YtpeiolimdglmhaaGreatDoorZ40
namespace Go.Proofs.YtpeiolimdglmhaaGreatDoor
open Go.RowKit
set_option maxRecDepth 100000

theorem conv_two (b1 b2 g : Nat) (h1 : b1 < 256) (h2 : b2 < 256) (w : World) (h : Blk w g 5 #[.int .u8 (b1 : Int), .int .u8 (b2 : Int)]) : (convert 22 9 (.slice (some ⟨g, 0, none⟩) 2 2)).run Tryz.prog w = .ok (.string (S [UInt8.ofNat b1, UInt8.ofNat b2])) w := by
  have := run_convert_bytes_back (P := Tryz.prog) w 22 9 5 ⟨g, 0, none⟩ 2 [UInt8.ofNat b1, UInt8.ofNat b2] Tryz.underlying22 Tryz.underlying5 Tryz.underlying9 (fun j hj => by
    have hj2 : j < 2 := by simpa using hj
    rw [Go.WideShapes.add_plain, Nat.zero_add, h.cell j]
    rcases (by omega : j = 0 ∨ j = 1) with rfl | rfl
    · simp [Nat.mod_eq_of_lt h1]
    · simp [Nat.mod_eq_of_lt h2])
  simpa [S] using this
theorem linesJ_len (m : Nat) (xs : List Int) : (linesJ m xs).length = xs.length := by simp [linesJ]
theorem linesOf_text {m : Nat} {xs : List Int} (hk : okB (m : Int) xs = true) : linesOf (textL m xs) = linesJ m xs := by
  have hb := okB_bd hk
  rw [textL_eq xs (by omega)]
  exact (lines_text m xs).2

set_option maxHeartbeats 8000000 in
theorem law_ExecuteShow (A : Option Addr) (n c : Nat) (w : World) (hr : RdB w A n) (hb : n ≤ maxLen ∧ n ≤ c) (hD : Dir w) :
    Calls Tryz.prog 3 #[.slice A n c] w fun e w' => e = .returned (.bool true) ∧ Below w.heap.size w w' := by
  obtain ⟨hl, hc⟩ := hb
  unfold maxLen at hl
  by_cases h : 1048576 < n
  · go_enter Tryz.func3, Tryz.ntmps3
    go_wp2
    go_ret
    exact ⟨rfl, Below.refl _ _⟩
  go_enter Tryz.func3, Tryz.ntmps3
  go_wp2_with fail
  refine (DrawImageText_c A n c _ hr (by omega) hc).mono ?_
  rintro e w1 ⟨W, B, a, d, xs, rfl, ha, hO, hb1⟩
  have hP := Blk.new w1 25 #[.int .i64 W, .slice B a d]
  have hR := hO.rd.alloc (.cells #[.int .i64 W, .slice B a d] 25)
  have hL := lo_alloc hb1 (.cells #[.int .i64 W, .slice B a d] 25)
  have p0 := hP.cell 0
  have p1 := hP.cell 1
  have hti := fun w hr => text_impl W B a d xs w hr (by omega)
  have hts := fun w hr => text_spec W B a d xs w hr (by omega)
  obtain ⟨T, hT⟩ : ∃ T, Hid (textW W xs = T) := ⟨_, Lib.hid rfl⟩
  rw [hT.out] at hti hts
  clear hO hb1
  go_wp2_with fail
  refine (hti _ hR).mono ?_
  rintro e w2 ⟨rfl, hb2⟩
  have hP2 := hP.next hb2
  have hR2 := hR.next hb2
  have hL2 := lo_trans hL hb2
  clear p0 p1 hP hR hL hb2
  have p0 := hP2.cell 0
  have p1 := hP2.cell 1
  go_wp2_with fail
  refine (hts _ hR2).mono ?_
  rintro e w3 ⟨rfl, hb3⟩
  have hP3 := hP2.next hb3
  have hR3 := hR2.next hb3
  have hL3 := lo_trans hL2 hb3
  clear p0 p1 hP2 hR2 hL2 hb3 hti hts
  have p0 := hP3.cell 0
  have p1 := hP3.cell 1
  cases hk : okB W xs with
  | false =>
    have hTe : T = [] := by rw [← hT.out, textW, hk]; rfl
    subst hTe
    have q1 : ((S []).toList == []) = true := by rw [S_list]; rfl
    have q2 : (S []).toList.isEmpty = true := by rw [S_list]; rfl
    go_wp2
    go_ret
    exact ⟨rfl, hL3⟩
  | true =>
    have hbd := okB_bd hk
    rw [hR3.1] at hbd
    obtain ⟨m, rfl⟩ : ∃ m : Nat, W = (m : Int) := ⟨W.toNat, by omega⟩
    have hTe : T = textL m xs := by rw [← hT.out, textW, hk, if_pos rfl, Int.toNat_natCast]
    have hne := text_ne hk
    rw [← hTe] at hne
    have hTl := textL_len hk
    rw [← hTe] at hTl
    have q1 : ((S T).toList == []) = false := by rw [S_list, beq_eq_false_iff_ne]; exact hne
    have q2 : (S T).toList.isEmpty = false := by rw [S_list]; cases T <;> simp at hne ⊢
    have q3 : (!(S T).toList.isEmpty) = true := by rw [q2]; rfl
    have hlin : linesOf T = linesJ m xs := by rw [hTe]; exact linesOf_text hk
    have hlin' := Lib.hid hlin
    have hscr : rowsL (linesOf T) = scr m xs := by rw [hTe]; rfl
    have hx := scr_more hk (l := kShow) (by decide) (by decide)
    rw [show pcs 32 kShow = [kShow] by decide, show_step hk, ← hTe, ← hscr] at hx
    have hex := fun w hD => impl_Execute_c (rowsL (linesOf T) ++ (kShow ++ [10])) w hD
    rw [hx] at hex
    have hmany := fun w hr => impl_ImageMany_w (m : Int) B a d xs w hr (by omega)
    have hmi := manyI_lt ((m : Int), xs)
    have hmv : manyV (m : Int) xs = ((manyI ((m : Int), xs) : Nat) : Int) := by
      have := manyV_max ((m : Int), xs)
      dsimp only at this
      rw [manyV, hk, if_pos rfl] at this ⊢
      rw [← this]
      omega
    rw [hmv] at hmany
    have hcs : cellsT ((m : Int), xs) = tCells ++ dec2 (manyI ((m : Int), xs)) ++ [10] := rfl
    rw [hcs] at hex
    generalize manyI ((m : Int), xs) = N at hmany hmi hex
    have hhn := Lib.hid hk
    have hlx : (linesOf T).length = xs.length := by rw [hlin, linesJ_len]
    have hlx' := Lib.hid (hlx.trans hR3.1)
    clear hk hne hTe hlin hscr hx hmv hcs hlx
    have hsz := S_size T
    go_wp2
    go_loop [6, 7, 8, 9] (fun v du s i => ∃ (k : Nat) (dd : List Bs) (u : Bs), k ≤ T.length ∧ i = .int .i64 k ∧ s = .int .i64 ((k - u.length : Nat) : Int) ∧ v = .string (S (rowsL dd)) ∧ du = .string (S (okN dd.length)) ∧ Hid (pcs 10 (T.take k) = dd ++ [u]) ∧ (rowsL dd).length + 5 * u.length ≤ 5 * k) (fun _ _ _ i => T.length - (intOf i).toNat)
    case atStart => exact ⟨0, [], [], Nat.zero_le _, rfl, rfl, rfl, rfl, Lib.hid rfl, by simp [rowsL]⟩
    case round =>
      obtain ⟨k, dd, u, hkk, rfl, rfl, rfl, rfl, hPc, hdl⟩ := hrel
      obtain ⟨hu1, hu2⟩ := tail_piece hkk hPc.out
      have hddl : dd.length ≤ 101 := by
        have h1 := pcs_len 10 (T.take k)
        rw [hPc.out, List.length_append, List.length_take] at h1
        omega
      by_cases hlt : k < T.length
      · have hi := fun w => idx_ok T k hlt w
        have hgt' := Lib.hid (show T.take (k + 1) = T.take k ++ [T[k]?.getD 0] by rw [take_snoc hlt, List.getElem?_eq_getElem hlt]; rfl)
        obtain ⟨s0, hs0⟩ : ∃ s0, s0 = k - u.length := ⟨_, rfl⟩
        have hx10 : T[k]?.getD 0 = 10 → (T.drop s0).take (k + 1 - s0) = u ++ [10] := by
          intro e
          have h1 : (T.take (k + 1)).drop s0 = u ++ [10] := by
            rw [take_snoc hlt, List.drop_append_of_le_length (by rw [List.length_take]; omega)]
            have h2 : T[k] = 10 := by rw [List.getElem?_eq_getElem hlt, Option.getD_some] at e; exact e
            rw [h2]
            congr 1
            rw [← hs0] at hu2
            rw [List.drop_take, show k - s0 = u.length by omega]
            exact hu2
          rw [← h1, List.drop_take]
        rw [← hs0]
        have hs0' := Lib.hid hs0
        have hsk : s0 ≤ k := by omega
        have hsl := fun w => slc_ok T s0 (k + 1) (by omega) (by omega) w
        have e3 : ((k + 1 : Nat) : Int) = (k : Int) + 1 := by omega
        rw [e3] at hsl
        generalize T[k]?.getD 0 = x at hi hgt' hx10
        have hcl := x.toNat_lt
        clear hu2 hs0 e3
        by_cases h10 : x = 10
        · have g1 : (((x.toNat : Nat) : Int) == 10) = true := by subst h10; rfl
          have hN := Lib.hid (show pcs 10 (T.take (k + 1)) = (dd ++ [u]) ++ [[]] by rw [hgt'.out, h10]; exact Pc.hit hPc.out)
          rw [hx10 h10] at hsl
          have hRr := Lib.hid (rowsL_snoc dd u)
          have c1 : ∀ w, (Op.stringOp .add (S (rowsL dd)) ({ data := #[114, 111, 119, 32] } : ByteArray)).run Tryz.prog w = .ok (.string (S (rowsL dd ++ [114, 111, 119, 32]))) w := fun w => cat_ok (rowsL dd) [114, 111, 119, 32] (by simp; omega) w
          have c2 : ∀ w, (Op.stringOp .add (S (rowsL dd ++ [114, 111, 119, 32])) (S (u ++ [10]))).run Tryz.prog w = .ok (.string (S (rowsL (dd ++ [u])))) w := fun w => by
            have := cat_ok (rowsL dd ++ [114, 111, 119, 32]) (u ++ [10]) (by simp; omega) w
            rw [hRr.out]
            simpa using this
          have c3 : ∀ w, (Op.stringOp .add (S (okN dd.length)) ({ data := #[111, 107, 10] } : ByteArray)).run Tryz.prog w = .ok (.string (S (okN (dd.length + 1)))) w := fun w => by
            rw [okN_snoc]
            exact cat_ok (okN dd.length) [111, 107, 10] (by rw [okN_len]; simp; omega) w
          have hlen : (rowsL (dd ++ [u])).length + 5 * ([] : Bs).length ≤ 5 * (k + 1) := by rw [hRr.out]; simp; omega
          have hl1 := Lib.hid (show (dd ++ [u]).length = dd.length + 1 by simp)
          obtain ⟨z1, hz1⟩ : ∃ z, Hid (rowsL (dd ++ [u]) = z) := ⟨_, Lib.hid rfl⟩
          obtain ⟨z2, hz2⟩ : ∃ z, Hid (rowsL dd ++ [114, 111, 119, 32] = z) := ⟨_, Lib.hid rfl⟩
          obtain ⟨z3, hz3⟩ : ∃ z, Hid (u ++ [10] = z) := ⟨_, Lib.hid rfl⟩
          obtain ⟨z4, hz4⟩ : ∃ z, Hid (okN (dd.length + 1) = z) := ⟨_, Lib.hid rfl⟩
          rw [hz2.out] at c1
          rw [hz2.out, hz3.out, hz1.out] at c2
          rw [hz3.out] at hsl
          rw [hz1.out] at hlen
          rw [hz4.out] at c3
          clear h10 hx10
          go_wp2
          go_round
          case rel => exact ⟨k + 1, dd ++ [u], [], by omega, by go_num, by go_num, by rw [hz1.out], by rw [hl1.out, hz4.out], hN, by rw [hz1.out]; exact hlen⟩
          case measure => simp [intOf]; omega
        · have g1 : (((x.toNat : Nat) : Int) == 10) = false := by
            rw [beq_eq_false_iff_ne]
            intro e
            exact h10 (UInt8.toNat_inj.1 (by show x.toNat = 10; omega))
          have hN := Lib.hid (show pcs 10 (T.take (k + 1)) = dd ++ [u ++ [x]] by rw [hgt'.out]; exact Pc.miss h10 hPc.out)
          have hs1' := Lib.hid (show s0 = k + 1 - (u ++ [x]).length by rw [List.length_append, List.length_singleton, hs0'.out]; omega)
          clear h10 hx10 hsl
          go_wp2
          go_round
          case rel => exact ⟨k + 1, dd, u ++ [x], by omega, by go_num, by rw [← hs1'.out], rfl, rfl, hN, by rw [List.length_append, List.length_singleton]; omega⟩
          case measure => simp [intOf]; omega
      · obtain rfl : k = T.length := by omega
        have hP9 := hPc.out
        rw [List.take_length] at hP9
        have hF : linesOf T = dd := by rw [linesOf, hP9, List.dropLast_concat]
        rw [hF] at hex
        have hdn := hlx'.out
        rw [hF] at hdn
        rw [hdn]
        have hR9 := hR3.1
        rw [hR9] at hex
        have c1 : ∀ w, (Op.stringOp .add (S (rowsL dd)) ({ data := #[115, 104, 111, 119, 10] } : ByteArray)).run Tryz.prog w = .ok (.string (S (rowsL dd ++ (kShow ++ [10])))) w := fun w => cat_ok (rowsL dd) [115, 104, 111, 119, 10] (by simp; omega) w
        obtain ⟨z1, hz1⟩ : ∃ z, Hid (rowsL dd ++ (kShow ++ [10]) = z) := ⟨_, Lib.hid rfl⟩
        rw [hz1.out] at c1 hex
        have hokl : (okN a).length ≤ 100 := by rw [okN_len]; omega
        have c2 := fun w => cat_ok (okN a) T (by omega) w
        obtain ⟨y1, hy1⟩ : ∃ y, Hid (okN a ++ T = y) := ⟨_, Lib.hid rfl⟩
        have hy1l : y1.length ≤ 200 := by rw [← hy1.out, List.length_append]; omega
        rw [hy1.out] at c2 hex
        have c3 : ∀ w, (Op.stringOp .add (S y1) ({ data := #[99, 101, 108, 108, 115, 32] } : ByteArray)).run Tryz.prog w = .ok (.string (S (y1 ++ tCells))) w := fun w => cat_ok y1 tCells (by simp [tCells]; omega) w
        obtain ⟨y2, hy2⟩ : ∃ y, Hid (y1 ++ tCells = y) := ⟨_, Lib.hid rfl⟩
        have hy2l : y2.length ≤ 206 := by rw [← hy2.out, List.length_append]; simp [tCells]; omega
        rw [hy2.out] at c3
        have hdl2 := dec2_len N
        have hex2 : y1 ++ (tCells ++ dec2 N ++ [10]) = (y2 ++ dec2 N) ++ [10] := by rw [← hy2.out]; simp
        rw [hex2] at hex
        have c4 := fun w => cat_ok y2 (dec2 N) (by omega) w
        obtain ⟨y3, hy3⟩ : ∃ y, Hid (y2 ++ dec2 N = y) := ⟨_, Lib.hid rfl⟩
        have hy3l : y3.length ≤ 210 := by rw [← hy3.out, List.length_append]; omega
        rw [hy3.out] at c4 hex
        have c5 : ∀ w, (Op.stringOp .add (S y3) ({ data := #[10] } : ByteArray)).run Tryz.prog w = .ok (.string (S (y3 ++ [10]))) w := fun w => cat_ok y3 [10] (by simp; omega) w
        generalize y3 ++ [10] = z at c5 hex
        clear hP9 hF hdn hu2 hlx' hPc
        generalize okN a = ok at c2
        clear hex2 hdl hkk hddl
        go_wp2_with fail
        refine (hex _ (hD.next hL3)).mono ?_
        rintro e w4 ⟨rfl, hb4⟩
        have hP4 := hP3.next hb4
        have hL4 := lo_trans hL3 hb4
        have hR4 := hR3.next hb4
        clear p0 p1 hex
        have p0 := hP4.cell 0
        have p1 := hP4.cell 1
        go_wp2_with fail
        refine (hmany _ hR4).mono ?_
        rintro e w5 ⟨rfl, hb5⟩
        have hL5 := lo_trans hL4 hb5
        clear hmany hb4 hb5 p0 p1 hP4 hR4 hL4 hP3 hR3 hL3
        have w0 : (N : Int).tmod 10 = (N : Int) % 10 := Int.tmod_eq_emod_of_nonneg (by omega)
        have w1 : IntKind.i64.wrap ((N : Int) % 10) = (N : Int) % 10 := IntWalk.i64_in _ (by omega)
        have w2 : IntKind.i64.wrap (48 + (N : Int) % 10) = 48 + (N : Int) % 10 := IntWalk.i64_in _ (by omega)
        have w3 : IntKind.u8.wrap (48 + (N : Int) % 10) = 48 + (N : Int) % 10 := by show (48 + (N : Int) % 10) % 256 = _; omega
        have e1 : ((48 + N % 10 : Nat) : Int) = 48 + (N : Int) % 10 := by omega
        have hk1 := Blk.new w5 5 #[.int .u8 (((48 + N % 10 : Nat) : Nat) : Int)]
        have hv1 := conv_ok (48 + N % 10) w5.heap.size (by omega) _ hk1
        rw [e1] at hv1
        clear hk1
        by_cases hn : N < 10
        · have g3 : decide ((9 : Int) < (N : Int)) = false := decide_eq_false (by omega)
          rw [show [UInt8.ofNat (48 + N % 10)] = dec2 N by rw [dec2_one hn, Nat.mod_eq_of_lt hn]] at hv1
          generalize dec2 N = D at hv1 c4
          go_wp2
          go_ret
          exact ⟨rfl, by (repeat (first | exact Below.refl _ _ | assumption | refine lo_alloc ?_ _ | refine lo_set ?_ (by simp; try omega) _ | refine Below.drew ?_ | refine below_drewN ?_ _ | refine lo_trans ?_ (by assumption) | refine lo_wr ?_ (by assumption) (by omega)))⟩
        · have g3 : decide ((9 : Int) < (N : Int)) = true := decide_eq_true (by omega)
          have v0 : (N : Int).tdiv 10 = (N : Int) / 10 := Int.tdiv_eq_ediv_of_nonneg (by omega)
          have v1 : IntKind.i64.wrap ((N : Int) / 10) = (N : Int) / 10 := IntWalk.i64_in _ (by omega)
          have v2 : IntKind.i64.wrap (48 + (N : Int) / 10) = 48 + (N : Int) / 10 := IntWalk.i64_in _ (by omega)
          have v3 : IntKind.u8.wrap (48 + (N : Int) / 10) = 48 + (N : Int) / 10 := by show (48 + (N : Int) / 10) % 256 = _; omega
          have e2 : ((48 + N / 10 : Nat) : Int) = 48 + (N : Int) / 10 := by omega
          have hk2 := Blk.new (w5.alloc (.cells #[.int .u8 (48 + (N : Int) % 10)] 5)) 5 #[.int .u8 (((48 + N / 10 : Nat) : Nat) : Int), .int .u8 (((48 + N % 10 : Nat) : Nat) : Int)]
          have hv2 := conv_two (48 + N / 10) (48 + N % 10) _ (by omega) (by omega) _ hk2
          rw [e1, e2, World.size_alloc, ← dec2_two hn] at hv2
          clear hk2
          generalize dec2 N = D at hv2 c4
          generalize UInt8.ofNat (48 + N % 10) = d1 at hv1
          go_wp2
          go_ret
          exact ⟨rfl, by (repeat (first | exact Below.refl _ _ | assumption | refine lo_alloc ?_ _ | refine lo_set ?_ (by simp; try omega) _ | refine Below.drew ?_ | refine below_drewN ?_ _ | refine lo_trans ?_ (by assumption) | refine lo_wr ?_ (by assumption) (by omega)))⟩
end Go.Proofs.YtpeiolimdglmhaaGreatDoor
