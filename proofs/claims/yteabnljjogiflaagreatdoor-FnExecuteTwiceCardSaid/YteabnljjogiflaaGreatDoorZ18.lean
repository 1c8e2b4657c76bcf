/- Plain facts and walks that the law's proof uses; each says its own conditions. -/
import Derived.Test.YteabnljjogiflaaGreatDoorZ04
import Derived.Test.YteabnljjogiflaaGreatDoorZ17
import Derived.Test.YteabnljjogiflaaGreatDoorZ09
-- Walks: strings.Split at a separator of one byte; the number of a digit or two in decimals; a suffix cut off.
namespace Go.Proofs.YteabnljjogiflaaGreatDoor
open Go.RowKit
set_option maxRecDepth 100000

theorem itoa_dec {n : Nat} (h : n < 100) : Lib.decDigits n = dec2 n := by
  unfold dec2
  split
  · next h1 => exact Lib.decDigits_one h1
  · next h1 => exact Lib.decDigits_two h1 h
theorem Itoa_c (n : Nat) (h : n < 100) (w : World) : Calls Tryz.prog 23 #[.int .i64 (n : Int)] w fun e w' => e = .returned (.string (S (dec2 n))) ∧ w' = w := by
  have := Tryz.strconv_Itoa_small n h w
  rw [itoa_dec h] at this
  exact this
theorem infoStr : (Tryz.prog.info? 9).map (fun i => (i.zero, i.size, i.bytes)) = some (some (.string ByteArray.empty), 1, 16) := by kernel_rfl
theorem TrimSuffix_c (l p : Bs) (w : World) (hl : l.length ≤ 1048576) : Calls Tryz.prog 54 #[.string (S l), .string (S p)] w fun e w' => e = .returned (.string (S (Lib.trimSuffix l p))) ∧ w' = w := by
  have := Tryz.strings_TrimSuffix (S l) (S p) w (by rw [S_size]; omega)
  exact this

/-- the strings of a list, as cells -/
def strs (ls : List Bs) : Array Value := (ls.map (fun l => Value.string (S l))).toArray
theorem strs_get (ls : List Bs) (k : Nat) : (strs ls)[k]? = ls[k]?.map (fun l => Value.string (S l)) := by simp [strs]
set_option maxHeartbeats 1000000 in
theorem Split_c (l : Bs) (c : UInt8) (w : World) (hl : l.length ≤ 1048576) : Calls Tryz.prog 20 #[.string (S l), .string (S [c])] w fun e w' =>
    e = .returned (.slice (some ⟨w.heap.size, 0, none⟩) (pcs c l).length (pcs c l).length) ∧ w' = w.alloc (.cells (strs (pcs c l)) 9) := by
  have hd : (S l).data.toList = l := by simp [S]
  have hle := Lib.countB_le (S [c]) (by simp [S_size]) (S l).size (S l) (Nat.le_refl _)
  have hlen := Lib.splitB_all (S [c]) (by simp [S_size]) 0 _ (S l) rfl
  have hcnt : (Lib.countB (S l) (S [c]) : Int) = (Lib.countByte (S l).data.toList c : Nat) := by
    show ((Lib.count (S l).data.toList [c] : Nat) : Int) = _
    rw [Lib.count_one]; rfl
  have k := Any.strings_genSplit_core Tryz.lays221 infoStr (S l) (S [c]) 0 (-1) (Lib.countB (S l) (S [c]) + 1) w (by rw [S_size]; omega) (by simp [S_size]) (Nat.zero_le _)
    (fun x cs _ => (Tryz.strings_Index_one x c _).mono fun e w' ⟨he, hw⟩ => ⟨by
      rw [he]
      show Ending.returned (.int .i64 (Lib.indexByte x.data.toList c)) = Ending.returned (.int .i64 (Lib.index x.data.toList [c]))
      rw [Lib.index_one], hw⟩)
    ((Tryz.strings_Count_one (S l) c w).mono fun e w' ⟨he, hw⟩ => ⟨by rw [he, hcnt], hw⟩)
    (by decide) (by decide) (by rw [if_pos (by decide)]; omega)
  rw [Nat.add_sub_cancel, hlen] at k
  have e2 : Lib.cellsOf (Lib.splitB (S [c]) 0 (Lib.countB (S l) (S [c])) (S l)) (Lib.countB (S l) (S [c]) + 1) = strs (pcs c l) := by
    rw [← hlen, Lib.cellsOf_full, ← splitB_pcs c l]
    simp only [strs, List.map_map]
    congr 1
  have e3 : Lib.countB (S l) (S [c]) + 1 = (pcs c l).length := by rw [← splitB_pcs c l, List.length_map]; exact hlen.symm
  rw [e2, e3] at k
  go_enter Tryz.func20, Tryz.ntmps20
  go_wp2_with fail
  refine k.mono ?_
  rintro e w1 ⟨rfl, rfl⟩
  go_wp2
  go_ret
  exact ⟨rfl, rfl⟩
end Go.Proofs.YteabnljjogiflaaGreatDoor

-- Walks: the words of a line (the reference's way).
namespace Go.Proofs.YteabnljjogiflaaGreatDoor
open Go.RowKit
set_option maxRecDepth 100000

/-- the slice at A with capacity c is a row of one's own, from block base on, and holds the words ws -/
def SBuf (w : World) (base : Nat) (A : Option Addr) (c : Nat) (ws : List Bs) : Prop := w.ownsRow base 9 1 (.slice A ws.length c) ws.length (ws.map (fun x => Value.string (S x)))
section
variable {w w' : World} {base : Nat} {A : Option Addr} {c : Nat} {ws : List Bs}
theorem SBuf.form (h : SBuf w base A c ws) : (A = none ∧ ws = []) ∨ ∃ g cs, A = some ⟨g, 0, none⟩ ∧ base ≤ g ∧ Blk w g 9 cs ∧ ∀ (k : Nat) (x : Bs), ws[k]? = some x → cs[k]? = some (.string (S x)) := by
  rcases h.2 with ⟨hv, hn⟩ | ⟨g, cap, cur, hv, hb, hh, hn, hm, hs, ht⟩
  · injection hv with h1 h2 h3
    exact .inl ⟨h1, List.eq_nil_of_length_eq_zero h2⟩
  · injection hv with h1 h2 h3
    refine .inr ⟨g, cur, h1, hb, hh, fun k x hx => ?_⟩
    have hk : k < ws.length := by
      rcases Nat.lt_or_ge k ws.length with h | h
      · exact h
      · rw [List.getElem?_eq_none h] at hx; cases hx
    have e : (cur.toList.take (ws.length * 1))[k]? = (ws.map (fun x => Value.string (S x)))[k]? := by rw [ht]
    rw [List.getElem?_take, if_pos (by omega), List.getElem?_map, hx] at e
    simpa using e
theorem SBuf.kept (h : SBuf w base A c ws) {row : Option Nat} (hg : w.grownBy w' row) (hne : ∀ g, A = some ⟨g, 0, none⟩ → row ≠ some g) : SBuf w' base A c ws := by
  refine World.ownsRow.kept h hg ?_
  rcases h.form with ⟨rfl, _⟩ | ⟨g, cs, rfl, _⟩
  · exact .inl rfl
  · exact .inr (fun e => hne g rfl e.symm)
theorem SBuf.next (h : SBuf w base A c ws) (hb : Below w.heap.size w w') : SBuf w' base A c ws := h.kept (grown_of_below hb none) (fun _ _ e => by cases e)
theorem SBuf.empty (w : World) {base : Nat} (hb : base ≤ w.heap.size) : SBuf (w.alloc (.cells #[] 9)) base (some ⟨w.heap.size, 0, none⟩) 0 [] :=
  ⟨rfl, .inr ⟨w.heap.size, 0, #[], rfl, hb, Blk.new _ _ _, Nat.le_refl _, Nat.zero_le _, rfl, rfl⟩⟩
theorem SBuf.ge (h : SBuf w base A c ws) : ∀ g, rowA A = some g → base ≤ g := by
  intro g hg
  rcases h.form with ⟨rfl, _⟩ | ⟨g', cs, rfl, hb, _⟩
  · cases hg
  · cases hg; exact hb
end
theorem wpl_appendS {ops : Array Oper} {rest : List Oper} {o : Oper} {a : Act} {Q : Exit → Act → World → Prop} {w : World} (hgd : o.guard = none) (s x : Operand)
    (ho : o.op = .call { callee := .builtin .append, args := #[s, x], argTypes := #[30, 30] })
    (base : Nat) (A : Option Addr) (c n : Nat) (ws : List Bs) (hs : a.eval s = .slice A n c) (hn : n = ws.length) (hb : SBuf w base A c ws)
    (b : Nat) (y : Bs) (hx : a.eval x = .slice (some ⟨b, 0, none⟩) 1 1) (hc : w.cell? ⟨b, 0, none⟩ = some (.string (S y))) (hlen : n + 1 ≤ 1048576) (hbase : base ≤ w.heap.size)
    (h : ∀ g c' w', SBuf w' base (some ⟨g, 0, none⟩) c' (ws ++ [y]) → w.grownBy w' (rowA A) → wpList Tryz.prog ops Q rest (a.put o.dst (.slice (some ⟨g, 0, none⟩) (n + 1) c')) w') : wpList Tryz.prog ops Q (o :: rest) a w := by
  obtain ⟨i0, hi, hz0, hz1, hz2⟩ := info_parts infoStr
  subst hn
  refine wpList_append_own_at w hgd s x 30 ho base 9 i0 (.string ByteArray.empty) 1 16 Tryz.underlying30 hi hz0 hz1 hz2 rfl (by decide) _ ws.length _ hs hb ⟨b, 0, none⟩ 1 1 [Value.string (S y)] hx (by simp) ?_ (by simp [Value.oneCell']) (by unfold maxLen; omega) (by omega) hbase ?_
  · intro j u hu
    rw [Go.WideShapes.add_plain]
    cases j with
    | zero => cases hu; exact hc
    | succ j => cases hu
  · intro v' w' hown hg _ _
    rcases hown.2 with ⟨hv, hn⟩ | ⟨g, cap, cur, rfl, hb', hh, hn, hm, hsz, ht⟩
    · omega
    · refine h g cap w' ?_ (by cases A <;> exact hg)
      have e : (ws ++ [y]).length = ws.length + 1 := by simp
      unfold SBuf
      rw [e, List.map_append]
      exact hown

theorem tail_piece {c : UInt8} {l : Bs} {k : Nat} {d : List Bs} {u : Bs} (hk : k ≤ l.length) (h : pcs c (l.take k) = d ++ [u]) : u.length ≤ k ∧ (l.drop (k - u.length)).take u.length = u := by
  obtain ⟨t, ht, _⟩ := pcs_sum h
  have hl := congrArg List.length ht
  rw [List.length_take, List.length_append] at hl
  refine ⟨by omega, ?_⟩
  have e : l = (t ++ u) ++ l.drop k := by rw [← ht, List.take_append_drop]
  have hk2 : k - u.length = t.length := by omega
  rw [hk2, e]
  simp
set_option maxHeartbeats 4000000 in
theorem l51Cut_c (l : Bs) (w : World) (hl : l.length ≤ 1000) : Calls Tryz.prog 15 #[.string (S l)] w fun e w' =>
    ∃ (R : Option Addr) (d : Nat), e = .returned (.slice R (pcs 32 l).length d) ∧ SBuf w' w.heap.size R d (pcs 32 l) ∧ Below w.heap.size w w' := by
  have hsz := S_size l
  have hE := SBuf.empty w (base := w.heap.size) (Nat.le_refl _)
  have hL0 := lo_alloc (Below.refl w.heap.size w) (.cells #[] 9)
  go_enter Tryz.func15, Tryz.ntmps15
  go_wp2
  go_loopw [3, 4, 5] (fun v s i wr => ∃ (k : Nat) (R : Option Addr) (c : Nat) (d : List Bs) (u : Bs), k ≤ l.length ∧ i = .int .i64 k ∧ v = .slice R d.length c ∧ s = .int .i64 ((k - u.length : Nat) : Int) ∧ Hid (pcs 32 (l.take k) = d ++ [u]) ∧
      SBuf wr w.heap.size R c d ∧ Below w.heap.size w wr) (fun _ _ i _ => l.length - (intOf i).toNat)
  case atStart => exact ⟨0, _, 0, [], [], Nat.zero_le _, rfl, rfl, rfl, Lib.hid rfl, hE, hL0⟩
  case round =>
    obtain ⟨k, R, c, d, u, hk, rfl, rfl, rfl, hP, hB, hL⟩ := hrel
    clear hE hL0
    have hsz1 := hL.size
    obtain ⟨hu1, hu2⟩ := tail_piece hk hP.out
    have hdl : d.length ≤ 1001 := by
      have h1 := pcs_len 32 (l.take k)
      rw [hP.out, List.length_append, List.length_take] at h1
      omega
    by_cases hlt : k < l.length
    · have hi := fun w => idx_ok l k hlt w
      have hgt : l.take (k + 1) = l.take k ++ [l[k]?.getD 0] := by rw [take_snoc hlt, List.getElem?_eq_getElem hlt]; rfl
      have hgt' := Lib.hid hgt
      clear hgt
      obtain ⟨s, hs⟩ : ∃ s, s = k - u.length := ⟨_, rfl⟩
      have hsl : ∀ w, (Instr.slice 9 (.string (S l)) (some (.int .i64 ((s : Nat) : Int))) (some (.int .i64 (k : Int))) none).run Tryz.prog w = .ok (.string (S u)) w := fun w => by
        have := slc_ok l s k (by omega) (by omega) w
        rw [hs, show k - (k - u.length) = u.length by omega, hu2] at this
        rw [hs]
        exact this
      rw [← hs]
      have hs' := Lib.hid hs
      have hsk : s ≤ k := by omega
      generalize l[k]?.getD 0 = x at hi hgt'
      have hcl := x.toNat_lt
      clear hu2 hs hk
      by_cases h32 : x = 32
      · have g1 : (((x.toNat : Nat) : Int) == 32) = true := by subst h32; rfl
        have hP' := Lib.hid (show pcs 32 (l.take (k + 1)) = (d ++ [u]) ++ [[]] by rw [hgt'.out, h32]; exact Pc.hit hP.out)
        clear h32
        have hB3 : SBuf (wr.alloc (.cells #[.string (S u)] 9)) w.heap.size R c d := hB.next (lo_alloc (Below.refl _ _) _)
        have hL3 := lo_alloc hL (.cells #[.string (S u)] 9)
        have hcc : (wr.alloc (.cells #[.string (S u)] 9)).cell? ⟨wr.heap.size, 0, none⟩ = some (.string (S u)) := (Blk.new wr 9 #[.string (S u)]).cell 0
        go_wp2_with (at_builtin; refine (wpl_appendS rfl _ _ rfl w.heap.size R c d.length d rfl rfl hB3 wr.heap.size u rfl hcc (by omega) (by simp; omega) ?_); intro g c' w4 hB4 hg4)
        have hBk := hB3.ge
        go_roundw
        case rel =>
          refine ⟨k + 1, _, c', d ++ [u], [], by omega, by go_num, by simp, by go_num, hP', hB4, hL3.grown hg4 hL3.size (fun g hg => hBk g hg)⟩
        case measure => simp [intOf]; omega
      · have g1 : (((x.toNat : Nat) : Int) == 32) = false := by
          rw [beq_eq_false_iff_ne]
          intro e
          exact h32 (UInt8.toNat_inj.1 (by show x.toNat = 32; omega))
        have hP' := Lib.hid (show pcs 32 (l.take (k + 1)) = d ++ [u ++ [x]] by rw [hgt'.out]; exact Pc.miss h32 hP.out)
        clear h32
        go_wp2
        refine ⟨⟨k + 1, R, c, d, u ++ [x], by omega, by go_num, rfl, ?_, hP', hB, hL⟩, by simp [intOf]; omega⟩
        have := hs'.out
        rw [List.length_append, List.length_singleton]
        congr 1
        omega
    · obtain rfl : k = l.length := by omega
      rw [List.take_length] at hP
      obtain ⟨s, hs⟩ : ∃ s, s = l.length - u.length := ⟨_, rfl⟩
      have hsl : ∀ w, (Instr.slice 9 (.string (S l)) (some (.int .i64 ((s : Nat) : Int))) none none).run Tryz.prog w = .ok (.string (S u)) w := fun w => by
        have := slf_ok l s (by omega) w
        have e : l.drop s = u := by
          rw [← hs] at hu2
          rw [← hu2, List.take_of_length_le]
          rw [List.length_drop]; omega
        rw [e] at this
        exact this
      rw [← hs]
      have hsk : s ≤ l.length := by omega
      clear hu2 hs hk
      have hB3 : SBuf (wr.alloc (.cells #[.string (S u)] 9)) w.heap.size R c d := hB.next (lo_alloc (Below.refl _ _) _)
      have hL3 := lo_alloc hL (.cells #[.string (S u)] 9)
      have hcc : (wr.alloc (.cells #[.string (S u)] 9)).cell? ⟨wr.heap.size, 0, none⟩ = some (.string (S u)) := (Blk.new wr 9 #[.string (S u)]).cell 0
      go_wp2_with (at_builtin; refine (wpl_appendS rfl _ _ rfl w.heap.size R c d.length d rfl rfl hB3 wr.heap.size u rfl hcc (by omega) (by simp; omega) ?_); intro g c' w4 hB4 hg4)
      have hBk := hB3.ge
      go_wp2
      go_ret
      rw [hP.out]
      exact ⟨_, c', by simp, hB4, hL3.grown hg4 hL3.size (fun g hg => hBk g hg)⟩
end Go.Proofs.YteabnljjogiflaaGreatDoor
