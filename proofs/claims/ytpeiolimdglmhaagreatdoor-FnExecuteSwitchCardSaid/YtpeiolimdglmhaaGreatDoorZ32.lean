/- Plain facts and walks that the law's proof uses; each says its own conditions. -/
import Derived.Test.YtpeiolimdglmhaaGreatDoorZ30
import Derived.Test.YtpeiolimdglmhaaGreatDoorZ17
import Derived.Test.YtpeiolimdglmhaaGreatDoorZ19
import Derived.Test.YtpeiolimdglmhaaGreatDoorZ10
import Derived.Test.YtpeiolimdglmhaaGreatDoorZ31
import Derived.Test.YtpeiolimdglmhaaGreatDoorZ23
-- Walks: the state of a script; an image becomes that of the script; a row is added.
namespace Go.Proofs.YtpeiolimdglmhaaGreatDoor
open Go.RowKit
set_option maxRecDepth 100000

/-- block sb is a script with the image s, whose rows lie in memory of its own -/
def SS (w : World) (sb : Nat) (s : Ig) : Prop :=
  ∃ (A : Option Addr) (n c : Nat), Blk w sb 66 #[.int .i64 s.1, .slice A n c] ∧ Own w (sb + 1) A n s.2 ∧ (okB s.1 s.2 = true ∨ (s.1 = 0 ∧ s.2 = [] ∧ A = none ∧ n = 0 ∧ c = 0))
theorem SS.next {w w' : World} {sb : Nat} {s : Ig} (h : SS w sb s) (hb : Below w.heap.size w w') : SS w' sb s := by
  obtain ⟨A, n, c, h1, h2, h3⟩ := h
  exact ⟨A, n, c, h1.next hb, h2.next hb, h3⟩
theorem SS.grown {w w' : World} {sb : Nat} {s : Ig} (h : SS w sb s) {row : Option Nat} (hg : w.grownBy w' row) (hr : ∀ g, row = some g → g < sb) : SS w' sb s := by
  obtain ⟨A, n, c, h1, h2, h3⟩ := h
  exact ⟨A, n, c, h1.grown hg (fun e => by have := hr _ e.symm; omega), h2.grown_lo hg (fun g e => by have := hr g e; omega), h3⟩
theorem SS.lt {w : World} {sb : Nat} {s : Ig} (h : SS w sb s) : sb < w.heap.size := by
  obtain ⟨A, n, c, h1, _⟩ := h
  exact h1.lt
theorem SS.len {w : World} {sb : Nat} {s : Ig} (h : SS w sb s) : s.2.length ≤ 6 := by
  obtain ⟨A, n, c, _, _, h | ⟨_, h, _⟩⟩ := h
  · have := okB_bd h; omega
  · rw [h]; simp
theorem SS.zero {w : World} {sb : Nat} (h : Blk w sb 66 #[.int .i64 0, .slice none 0 0]) : SS w sb (0, []) :=
  ⟨none, 0, 0, h, Own.nil_ _ _ _, .inr ⟨rfl, rfl, rfl, rfl, rfl⟩⟩

/-- what a line's function hands back, and the state behind it -/
def Res (w : World) (sb : Nat) (p : Ig × Bs) (e : Ending) (w' : World) : Prop :=
  ∃ (r : Bs) (ok : Bool), e = .returned (.tuple #[.string (S r), .bool ok]) ∧ p.2 = (if ok then r else tNo) ++ [10] ∧ r.length ≤ 1000 ∧ SS w' sb p.1 ∧ w.grownBy w' (some sb)

set_option maxHeartbeats 1000000 in
theorem become_yes (sb : Nat) (W V : Int) (A B : Option Addr) (n c m d : Nat) (w : World) (hk : Blk w sb 66 #[.int .i64 W, .slice A n c]) :
    Calls Tryz.prog 81 #[.pointer (some ⟨sb, 0, none⟩), .agg #[.int .i64 V, .slice B m d], .bool true] w fun e w' =>
      e = .returned (.tuple #[.string (S tOk), .bool true]) ∧ Blk w' sb 66 #[.int .i64 V, .slice B m d] ∧ w.grownBy w' (some sb) := by
  have hz := hk.lt
  have c0 := hk.cell 0
  have c1 := hk.cell 1
  have f0 := hk.frozen 0
  have f1 := hk.frozen 1
  have hs := Lib.hid ((hk.set_ 0 (.int .i64 V)).set_ 1 (.slice B m d))
  go_enter Tryz.func81, Tryz.ntmps81
  go_wp2
  go_ret2
  exact ⟨rfl, hs.out.alloc _, grown_trans (grown_trans (grown_set _) (grown_set _)) (grown_alloc _ _)⟩
set_option maxHeartbeats 1000000 in
theorem become_no (sb : Nat) (V : Int) (B : Option Addr) (m d : Nat) (w : World) :
    Calls Tryz.prog 81 #[.pointer (some ⟨sb, 0, none⟩), .agg #[.int .i64 V, .slice B m d], .bool false] w fun e w' =>
      e = .returned (.tuple #[.string (S tOk), .bool false]) ∧ Below w.heap.size w w' := by
  go_enter Tryz.func81, Tryz.ntmps81
  go_wp2
  go_ret2
  exact ⟨rfl, by (repeat (first | exact Below.refl _ _ | assumption | refine lo_alloc ?_ _ | refine lo_set ?_ (by simp; try omega) _ | refine Below.drew ?_ | refine below_drewN ?_ _ | refine lo_trans ?_ (by assumption) | refine lo_wr ?_ (by assumption) (by omega)))⟩
/-- a new image of one's own becomes that of the script, or none does -/
theorem become_res (sb : Nat) (s : Ig) (o : Option Ig) (V : Int) (B : Option Addr) (m d : Nat) (zs : List Int) (w0 w : World) (hg : w0.grownBy w (some sb)) (h : SS w sb s) (ho : Own w (sb + 1) B m zs)
    (hv : ∀ z, o = some z → z = (V, zs) ∧ okB V zs = true) :
    Calls Tryz.prog 81 #[.pointer (some ⟨sb, 0, none⟩), .agg #[.int .i64 V, .slice B m d], .bool o.isSome] w (Res w0 sb (become s o)) := by
  obtain ⟨A, n, c, h1, h2, h3⟩ := h
  cases o with
  | none =>
    refine (become_no sb V B m d w).mono fun e w' ⟨he, hb⟩ => ?_
    exact ⟨tOk, false, he, rfl, by decide, ⟨A, n, c, h1.next hb, h2.next hb, h3⟩, grown_trans hg (grown_of_below hb _)⟩
  | some z =>
    obtain ⟨rfl, hk⟩ := hv z rfl
    refine (become_yes sb _ V A B n c m d w h1).mono fun e w' ⟨he, hb, hg2⟩ => ?_
    exact ⟨tOk, true, he, rfl, by decide, ⟨B, m, d, hb, ho.grown_lo hg2 (fun g e => by cases e; omega), .inl hk⟩, grown_trans hg hg2⟩
theorem row_valid {s : Ig} {x : Bs} {z : Ig} (hs : okB s.1 s.2 = true ∨ (s.1 = 0 ∧ s.2 = [])) (h : exRow s x = some z) : z = ((x.length : Int), s.2 ++ [(rowV x : Int)]) ∧ okB z.1 z.2 = true ∧ rowOk x = true := by
  unfold exRow at h
  split at h
  · next hc =>
    simp only [Bool.and_eq_true, Bool.or_eq_true, decide_eq_true_eq] at hc
    obtain ⟨⟨⟨⟨h1, h2⟩, h3⟩, h4⟩, h5⟩ := hc
    have e := (Option.some.inj h).symm
    subst e
    refine ⟨rfl, ?_, by rw [rowOk, h3]; simp; omega⟩
    have hr : rowV x < 2 ^ x.length := mkRow_lt _ _
    have hl : ∀ y ∈ s.2, 0 ≤ y ∧ y ≤ 2 ^ x.length - 1 := by
      intro y hy
      rcases hs with hs | ⟨_, hs⟩
      · have hb := okB_bd hs
        have hW : (x.length : Int) = s.1 := by
          rcases h5 with h5 | h5
          · rw [List.eq_nil_of_length_eq_zero h5] at hy; cases hy
          · exact h5
        obtain ⟨k, hk, rfl⟩ := List.mem_iff_getElem.1 hy
        have := allIn_at (okB_all hs) k hk
        rw [List.getElem?_eq_getElem hk, Option.getD_some, ← hW, Int.toNat_natCast] at this
        exact this
      · rw [hs] at hy; cases hy
    have hlen : s.2.length ≤ 6 := by
      rcases hs with hs | ⟨_, hs⟩
      · have := okB_bd hs; omega
      · rw [hs]; simp
    have hp : ((2 : Int) ^ x.length) = ((2 ^ x.length : Nat) : Int) := by simp
    simp only [okB, Bool.and_eq_true, decide_eq_true_eq, List.length_append, List.length_cons, List.length_nil, Int.toNat_natCast]
    refine ⟨⟨⟨⟨by omega, by omega⟩, by omega⟩, by omega⟩, ?_⟩
    rw [allIn, List.all_eq_true]
    intro y hy
    simp only [Bool.and_eq_true, decide_eq_true_eq]
    rcases List.mem_append.1 hy with h | h
    · exact hl y h
    · rw [List.mem_singleton.1 h]
      omega
  · cases h
theorem exRow_no {s : Ig} {x : Bs} (h : ¬ (rowOk x = true ∧ s.2.length ≠ 6 ∧ (s.2.length = 0 ∨ (x.length : Int) = s.1))) : exRow s x = none := by
  unfold exRow
  rw [if_neg]
  intro e
  simp only [Bool.and_eq_true, Bool.or_eq_true, decide_eq_true_eq] at e
  exact h ⟨by rw [rowOk, e.1.1.2]; simp; omega, e.1.2, e.2⟩
theorem exRow_yes {s : Ig} {x : Bs} (h : rowOk x = true) (h1 : s.2.length ≠ 6) (h2 : s.2.length = 0 ∨ (x.length : Int) = s.1) : exRow s x = some ((x.length : Int), s.2 ++ [(rowV x : Int)]) := by
  unfold exRow
  rw [if_pos]
  simp only [rowOk, Bool.and_eq_true, decide_eq_true_eq] at h
  simp only [Bool.and_eq_true, Bool.or_eq_true, decide_eq_true_eq]
  exact ⟨⟨h, h1⟩, h2⟩
theorem Res.no {w w' : World} {sb : Nat} {s : Ig} {e : Ending} (h : SS w' sb s) (hg : w.grownBy w' (some sb)) (he : e = .returned (.tuple #[.string (S []), .bool false])) : Res w sb (become s none) e w' :=
  ⟨[], false, he, rfl, by simp, h, hg⟩
theorem Clone_nil (n c : Nat) (w : World) : Calls Tryz.prog 67 #[.slice none n c] w fun e w' => e = .returned (.slice none 0 0) ∧ w' = w := by
  have hnil := fun w' => Lib.run_eql_slice_nil (P := Tryz.prog) w' 23 3 none n c 0 0 Tryz.underlying23
  go_enter Tryz.func67, Tryz.ntmps67
  go_wp2
  go_ret
  exact ⟨rfl, rfl⟩

end Go.Proofs.YtpeiolimdglmhaaGreatDoor

-- Walks: a row is added to a script's image.
namespace Go.Proofs.YtpeiolimdglmhaaGreatDoor
open Go.RowKit
set_option maxRecDepth 100000

set_option maxHeartbeats 2000000 in
theorem row_c (sb : Nat) (s : Ig) (x : Bs) (w : World) (h : SS w sb s) (hx : x.length ≤ 1000) :
    Calls Tryz.prog 80 #[.pointer (some ⟨sb, 0, none⟩), .string (S x)] w (Res w sb (become s (exRow s x))) := by
  have hsz := S_size x
  obtain ⟨A, n, c, h1, h2, h3⟩ := id h
  obtain ⟨W, xs⟩ := s
  have hn : xs.length = n := h2.1
  have hn6 : n ≤ 6 := by have := h.len; simp only at this; omega
  have c0 := h1.cell 0
  have c1 := h1.cell 1
  cases hro : rowOk x with
  | false =>
    have hT := Lib.hid (exRow_no (s := (W, xs)) (x := x) (fun e => by rw [hro] at e; cases e.1))
    have hro' := Lib.hid hro
    clear hro
    go_enter Tryz.func80, Tryz.ntmps80
    go_wp2_with fail
    refine (rowFrom_c x _ (by omega)).mono ?_
    rw [hro'.out]
    rintro e w1 ⟨v, rfl, _, rfl⟩
    go_wp2
    go_ret2
    rw [hT.out]
    exact Res.no h (grown_of_below (Below.refl _ _) _) rfl
  | true =>
    have hro' := Lib.hid hro
    by_cases hn6' : n = 6
    · have hT := Lib.hid (exRow_no (s := (W, xs)) (x := x) (fun e => e.2.1 (by simp only; omega)))
      clear hro
      subst hn6'
      have hn' := Lib.hid hn
      clear hn
      go_enter Tryz.func80, Tryz.ntmps80
      go_wp2_with fail
      refine (rowFrom_c x _ (by omega)).mono ?_
      rw [hro'.out]
      rintro e w1 ⟨v, rfl, _, rfl⟩
      go_wp2
      go_ret2
      rw [hT.out]
      exact Res.no h (grown_of_below (Below.refl _ _) _) rfl
    · have hn' := Lib.hid hn
      have g6 : (((n : Nat) : Int) == 6) = false := by rw [beq_eq_false_iff_ne]; omega
      by_cases hn0 : n = 0
      · subst hn0
        obtain ⟨rfl, hxs, rfl, rfl⟩ : W = 0 ∧ xs = [] ∧ A = none ∧ c = 0 := by
          rcases h3 with h3 | ⟨h3, h4, h5, h6, h7⟩
          · have := okB_bd h3; simp only at this; omega
          · exact ⟨h3, h4, h5, h7⟩
        subst hxs
        have hT := Lib.hid (exRow_yes (s := ((0 : Int), ([] : List Int))) (x := x) hro (by simp) (.inl rfl))
        have hV := Lib.hid (row_valid (s := ((0 : Int), ([] : List Int))) (.inr ⟨rfl, rfl⟩) hT.out)
        clear hro hn
        go_enter Tryz.func80, Tryz.ntmps80
        go_wp2_with fail
        refine (rowFrom_c x _ (by omega)).mono ?_
        rw [hro'.out]
        rintro e w1 ⟨v, rfl, hv, rfl⟩
        have hv' := Lib.hid (hv rfl)
        clear hv
        go_wp2_with fail
        refine (Clone_nil _ _ _).mono ?_
        rintro e w2 ⟨rfl, rfl⟩
        have hB3 : Buf (w2.alloc (.cells #[.int .i64 v] 3)) w2.heap.size none 0 [] := Buf.nil_ _ _
        have hrd : Rd (w2.alloc (.cells (ints [v]) 3)) (some ⟨w2.heap.size, 0, none⟩) 1 [v] := Rd.of_blk (Blk.new _ _ _)
        go_wp2_with (at_builtin; refine (wpl_append rfl _ _ rfl w2.heap.size none 0 0 [] rfl rfl hB3 _ 1 1 [v] rfl hrd (by omega) (by omega) (by simp) ?_); intro g c' w4 hB4 hg4 hat)
        have hL4 : Below w2.heap.size w2 w4 := (lo_alloc (Below.refl w2.heap.size w2) (.cells #[.int .i64 v] 3)).grown hg4 (by simp) (fun g hg => by cases hg)
        have hO4 : Own w4 w2.heap.size (some ⟨g, 0, none⟩) 1 [v] := hB4.own
        have h4 : SS w4 sb (0, []) := h.next hL4
        have hz := h.lt
        clear c0 c1 hB3 hrd hB4 hg4 hat
        go_wp2_with fail
        refine (become_res sb (0, []) (some ((x.length : Int), [v])) (x.length : Int) _ 1 c' [v] w2 w4 (grown_of_below hL4 _) h4 (hO4.mono (by omega)) (fun z e => ?_)).mono ?_
        · obtain rfl := (Option.some.inj e).symm
          refine ⟨rfl, ?_⟩
          rw [hv'.out]
          exact hV.out.2.1
        · rintro e w5 hR
          obtain ⟨r, ok, rfl, q1, q2, q3, q4⟩ := hR
          go_wp2
          go_ret2
          rw [hT.out, List.nil_append, ← hv'.out]
          exact ⟨r, ok, rfl, q1, q2, q3, q4⟩
      · have hk : okB W xs = true := by
          rcases h3 with h3 | ⟨_, h4, _⟩
          · exact h3
          · simp only at h4; subst h4; simp at hn; omega
        obtain ⟨m, hm⟩ : ∃ m : Nat, W = (m : Int) := ⟨W.toNat, by have := okB_bd hk; omega⟩
        subst hm
        have gz : decide ((0 : Int) < ((n : Nat) : Int)) = true := by simp; omega
        by_cases hW : x.length = m
        · have gw : (((x.length : Nat) : Int) != ((m : Nat) : Int)) = false := by simp; omega
          have hT := Lib.hid (exRow_yes (s := (((m : Nat) : Int), xs)) (x := x) hro (by simp only; omega) (.inr (by simp only; omega)))
          have hV := Lib.hid (row_valid (s := (((m : Nat) : Int), xs)) (.inl hk) hT.out)
          have hW' := Lib.hid hW
          have hb := h2.blk
          clear hro hn hW
          go_enter Tryz.func80, Tryz.ntmps80
          go_wp2_with fail
          refine (rowFrom_c x _ (by omega)).mono ?_
          rw [hro'.out]
          rintro e w1 ⟨v, rfl, hv, rfl⟩
          have hv' := Lib.hid (hv rfl)
          clear hv
          have hrd0 := h2.rd
          go_wp2_with fail
          refine (Clone_buf _ _ _ xs _ hrd0 (by omega) (by omega)).mono ?_
          rintro e w2 ⟨g0, cc, rfl, hL2, hB2⟩
          have hs2 := hL2.size
          have hnn := Lib.hid hn'.out.symm
          have hB3 : Buf (w2.alloc (.cells #[.int .i64 v] 3)) w1.heap.size (some ⟨g0, 0, none⟩) cc xs := hB2.next (by (repeat (first | exact Below.refl _ _ | assumption | refine lo_alloc ?_ _ | refine lo_set ?_ (by simp; try omega) _ | refine Below.drew ?_ | refine below_drewN ?_ _ | refine lo_trans ?_ (by assumption) | refine lo_wr ?_ (by assumption) (by omega))))
          have hrd : Rd (w2.alloc (.cells (ints [v]) 3)) (some ⟨w2.heap.size, 0, none⟩) 1 [v] := Rd.of_blk (Blk.new _ _ _)
          go_wp2_with (at_builtin; refine (wpl_append rfl _ _ rfl w1.heap.size (some ⟨g0, 0, none⟩) cc n xs rfl hnn.out hB3 _ 1 1 [v] rfl hrd (by omega) (by omega) (by simp; omega) ?_); intro g c' w4 hB4 hg4 hat)
          have hBk := rowA_ge hB3
          have hL4 : Below w1.heap.size w1 w4 := (lo_alloc hL2 (.cells #[.int .i64 v] 3)).grown hg4 (by simp; omega) (fun g hg => hBk g hg)
          have hO4 : Own w4 w1.heap.size (some ⟨g, 0, none⟩) (n + 1) (xs ++ [v]) := by
            have := hB4.own
            rw [List.length_append, hn'.out] at this
            exact this
          have h4 : SS w4 sb (((m : Nat) : Int), xs) := h.next hL4
          have hz := h.lt
          clear c0 c1 hB3 hrd hB4 hg4 hat hB2 hBk
          go_wp2_with fail
          refine (become_res sb (((m : Nat) : Int), xs) (some ((x.length : Int), xs ++ [v])) (x.length : Int) _ (n + 1) c' (xs ++ [v]) w1 w4 (grown_of_below hL4 _) h4 (hO4.mono (by omega)) (fun z e => ?_)).mono ?_
          · obtain rfl := (Option.some.inj e).symm
            refine ⟨rfl, ?_⟩
            rw [hv'.out]
            exact hV.out.2.1
          · rintro e w5 hR
            obtain ⟨r, ok, rfl, q1, q2, q3, q4⟩ := hR
            go_wp2
            go_ret2
            rw [hT.out, ← hv'.out]
            exact ⟨r, ok, rfl, q1, q2, q3, q4⟩
        · have gw : (((x.length : Nat) : Int) != ((m : Nat) : Int)) = true := by simp; omega
          have hT := Lib.hid (exRow_no (s := (((m : Nat) : Int), xs)) (x := x) (fun e => by have := e.2.2; simp only at this; omega))
          clear hro hn hW
          go_enter Tryz.func80, Tryz.ntmps80
          go_wp2_with fail
          refine (rowFrom_c x _ (by omega)).mono ?_
          rw [hro'.out]
          rintro e w1 ⟨v, rfl, _, rfl⟩
          go_wp2
          go_ret2
          rw [hT.out]
          exact Res.no h (grown_of_below (Below.refl _ _) _) rfl
end Go.Proofs.YtpeiolimdglmhaaGreatDoor

-- Walks: a row is added to an image (the reference's way).
namespace Go.Proofs.YtpeiolimdglmhaaGreatDoor
open Go.RowKit
set_option maxRecDepth 100000

/-- an image of one's own and whether there is one -/
def Img3 (w : World) (o : Option Ig) (e : Ending) (w' : World) : Prop :=
  ∃ (V : Int) (R : Option Addr) (r k : Nat), e = .returned (.tuple #[.agg #[.int .i64 V, .slice R r k], .bool o.isSome]) ∧ Below w.heap.size w w' ∧ ∀ z, o = some z → z.1 = V ∧ Own w' w.heap.size R r z.2
theorem Img3.none {w w' : World} {o : Option Ig} {V : Int} {R : Option Addr} {r k : Nat} {e : Ending} (h : o = none) (he : e = .returned (.tuple #[.agg #[.int .i64 V, .slice R r k], .bool false])) (hb : Below w.heap.size w w') : Img3 w o e w' := by
  subst h
  exact ⟨V, R, r, k, he, hb, fun z e => by cases e⟩
theorem Img3.some {w w' : World} {o : Option Ig} {V : Int} {R : Option Addr} {r k : Nat} {e : Ending} {xs : List Int} (h : o = some (V, xs)) (he : e = .returned (.tuple #[.agg #[.int .i64 V, .slice R r k], .bool true])) (hb : Below w.heap.size w w') (hr : Own w' w.heap.size R r xs) : Img3 w o e w' := by
  subst h
  exact ⟨V, R, r, k, he, hb, fun z e => by cases e; exact ⟨rfl, hr⟩⟩

end Go.Proofs.YtpeiolimdglmhaaGreatDoor

-- Walks: a switch of an image with any four numbers: the reference's way.
namespace Go.Proofs.YtpeiolimdglmhaaGreatDoor
open Go.RowKit
set_option maxRecDepth 100000

set_option maxHeartbeats 4000000 in
theorem l11Ok_out (m n c' : Nat) (A : Option Addr) (a b c d : Int) (w : World) (hn : n ≤ 1000) (hm : m ≤ 1000) (hb : -1000 ≤ b ∧ b ≤ 1000) (hd : -1000 ≤ d ∧ d ≤ 1000) (h : swIn (m : Int) n a b c d = false) :
    Calls Tryz.prog 102 #[.agg #[.int .i64 (m : Int), .slice A n c'], .agg #[.int .i64 a, .int .i64 b, .int .i64 c, .int .i64 d]] w fun e w' => e = .returned (.bool false) ∧ Below w.heap.size w w' := by
  have hB0 := lo_alloc (lo_alloc (Below.refl w.heap.size w) (.cells #[.int .i64 (m : Int), .slice A n c'] 25)) (.cells #[.int .i64 a, .int .i64 b, .int .i64 c, .int .i64 d] 44)
  have hh : ¬ (0 ≤ b ∧ b ≤ (n : Int) - 1 ∧ 0 ≤ d ∧ d ≤ (m : Int) - 1 ∧ 0 ≤ a ∧ a ≤ b - 1 ∧ 0 ≤ c ∧ c ≤ d - 1) := fun e => by
    have : swIn (m : Int) n a b c d = true := by simp only [swIn, Bool.and_eq_true, decide_eq_true_eq]; omega
    rw [this] at h; cases h
  clear h
  have yes : ∀ x lo hi : Int, lo ≤ x → x ≤ hi → Hid ((decide (lo ≤ x) && decide (x ≤ hi)) = true) := fun x lo hi h1 h2 => Lib.hid (by simp; omega)
  have no : ∀ x lo hi : Int, ¬ (lo ≤ x ∧ x ≤ hi) → Hid ((decide (lo ≤ x) && decide (x ≤ hi)) = false) := fun x lo hi h1 => Lib.hid (by rw [Bool.eq_false_iff]; simp; omega)
  by_cases h1 : 0 ≤ b ∧ b ≤ (n : Int) - 1
  · have i1 := yes b 0 ((n : Int) - 1) h1.1 h1.2
    by_cases h2 : 0 ≤ d ∧ d ≤ (m : Int) - 1
    · have i2 := yes d 0 ((m : Int) - 1) h2.1 h2.2
      by_cases h3 : 0 ≤ a ∧ a ≤ b - 1
      · have i3 := yes a 0 (b - 1) h3.1 h3.2
        have i4 := no c 0 (d - 1) (fun e => hh ⟨h1.1, h1.2, h2.1, h2.2, h3.1, h3.2, e.1, e.2⟩)
        clear yes no hh h3
        go_enter Tryz.func102, Tryz.ntmps102
        go_wp2_with fail
        refine (l6In_c _ _ _ _).mono ?_; rw [i1.out]; rintro e w' ⟨rfl, rfl⟩
        go_wp2_with fail
        refine (l6In_c _ _ _ _).mono ?_; rw [i2.out]; rintro e w' ⟨rfl, rfl⟩
        go_wp2_with fail
        refine (l6In_c _ _ _ _).mono ?_; rw [i3.out]; rintro e w' ⟨rfl, rfl⟩
        go_wp2_with fail
        refine (l6In_c _ _ _ _).mono ?_; rw [i4.out]; rintro e w' ⟨rfl, rfl⟩
        go_wp2
        go_ret
        exact ⟨rfl, hB0⟩
      · have i3 := no a 0 (b - 1) h3
        clear yes no hh h3
        go_enter Tryz.func102, Tryz.ntmps102
        go_wp2_with fail
        refine (l6In_c _ _ _ _).mono ?_; rw [i1.out]; rintro e w' ⟨rfl, rfl⟩
        go_wp2_with fail
        refine (l6In_c _ _ _ _).mono ?_; rw [i2.out]; rintro e w' ⟨rfl, rfl⟩
        go_wp2_with fail
        refine (l6In_c _ _ _ _).mono ?_; rw [i3.out]; rintro e w' ⟨rfl, rfl⟩
        go_wp2
        go_ret
        exact ⟨rfl, hB0⟩
    · have i2 := no d 0 ((m : Int) - 1) h2
      clear yes no hh h2
      go_enter Tryz.func102, Tryz.ntmps102
      go_wp2_with fail
      refine (l6In_c _ _ _ _).mono ?_; rw [i1.out]; rintro e w' ⟨rfl, rfl⟩
      go_wp2_with fail
      refine (l6In_c _ _ _ _).mono ?_; rw [i2.out]; rintro e w' ⟨rfl, rfl⟩
      go_wp2
      go_ret
      exact ⟨rfl, hB0⟩
  · have i1 := no b 0 ((n : Int) - 1) h1
    clear yes no hh h1
    go_enter Tryz.func102, Tryz.ntmps102
    go_wp2_with fail
    refine (l6In_c _ _ _ _).mono ?_; rw [i1.out]; rintro e w' ⟨rfl, rfl⟩
    go_wp2
    go_ret
    exact ⟨rfl, hB0⟩
theorem l11Ok_any (m n c' : Nat) (A : Option Addr) (xs : List Int) (a b c d : Int) (w : World) (hr : Rd w A n xs) (hk : okB (m : Int) xs = true) (hb : -1000 ≤ b ∧ b ≤ 1000) (hd : -1000 ≤ d ∧ d ≤ 1000) :
    Calls Tryz.prog 102 #[.agg #[.int .i64 (m : Int), .slice A n c'], .agg #[.int .i64 a, .int .i64 b, .int .i64 c, .int .i64 d]] w fun e w' => e = .returned (.bool (swFit (m : Int) xs a b c d)) ∧ Below w.heap.size w w' := by
  have hbd := okB_bd hk
  rw [hr.1] at hbd
  cases hi : swIn (m : Int) xs.length a b c d with
  | false =>
    rw [hr.1] at hi
    refine (l11Ok_out m n c' A a b c d w (by omega) (by omega) hb hd hi).mono fun e w' ⟨h1, h2⟩ => ⟨?_, h2⟩
    rw [h1, swFit, hr.1, hi, Bool.and_false, Bool.false_and]
  | true =>
    obtain ⟨i1, i2, i3, i4, i5, i6⟩ := swIn_yes hi
    rw [hr.1] at i3
    obtain ⟨a, rfl⟩ : ∃ x : Nat, a = (x : Int) := ⟨a.toNat, by omega⟩
    obtain ⟨b, rfl⟩ : ∃ x : Nat, b = (x : Int) := ⟨b.toNat, by omega⟩
    obtain ⟨c, rfl⟩ : ∃ x : Nat, c = (x : Int) := ⟨c.toNat, by omega⟩
    obtain ⟨d, rfl⟩ : ∃ x : Nat, d = (x : Int) := ⟨d.toNat, by omega⟩
    refine (l11Ok_c m n c' A xs ⟨a, b, c, d⟩ w hr hk ⟨by simp only; omega, by simp only; omega, by simp only; omega, by simp only; omega⟩).mono fun e w' ⟨h1, h2⟩ => ⟨?_, h2⟩
    rw [h1, swFit, hi, hk]
    simp only [Bool.true_and, Int.toNat_natCast]

set_option maxHeartbeats 2000000 in
theorem spec_SwitchOk_c (W : Int) (n c' : Nat) (A : Option Addr) (xs : List Int) (a b c d : Int) (w : World) (hr : Rd w A n xs) (hn : n ≤ 1000) (hb : -1000 ≤ b ∧ b ≤ 1000) (hd : -1000 ≤ d ∧ d ≤ 1000) :
    Calls Tryz.prog 62 #[.agg #[.int .i64 W, .slice A n c'], .agg #[.int .i64 a, .int .i64 b, .int .i64 c, .int .i64 d]] w fun e w' => e = .returned (.bool (swFit W xs a b c d)) ∧ Below w.heap.size w w' := by
  have hP := (Blk.new w 25 #[.int .i64 W, .slice A n c']).alloc (.cells #[.int .i64 a, .int .i64 b, .int .i64 c, .int .i64 d] 44)
  have hQ := heap_at2 w (.cells #[.int .i64 W, .slice A n c'] 25) 44 #[.int .i64 a, .int .i64 b, .int .i64 c, .int .i64 d]
  have hB0 := lo_alloc (lo_alloc (Below.refl w.heap.size w) (.cells #[.int .i64 W, .slice A n c'] 25)) (.cells #[.int .i64 a, .int .i64 b, .int .i64 c, .int .i64 d] 44)
  have hR0 := hr.next hB0
  cases hk : okB W xs with
  | false =>
    have hk' := Lib.hid hk
    have hT := Lib.hid (show swFit W xs a b c d = false by rw [swFit, hk, Bool.false_and, Bool.false_and])
    clear hk
    go_enter Tryz.func62, Tryz.ntmps62
    go_wp2_with fail
    refine (spec_ImageValid_c _ _ _ _ xs _ hR0 (by omega)).mono ?_
    rw [hk'.out]
    rintro e w1 ⟨rfl, hb1⟩
    go_wp2
    go_ret
    rw [hT.out]
    exact ⟨rfl, lo_trans hB0 hb1⟩
  | true =>
    have hbd := okB_bd hk
    obtain ⟨m, rfl⟩ : ∃ m : Nat, W = (m : Int) := ⟨W.toNat, by omega⟩
    have hk' := Lib.hid hk
    clear hk
    obtain ⟨v, hv⟩ : ∃ v, Hid (swFit (m : Int) xs a b c d = v) := ⟨_, Lib.hid rfl⟩
    go_enter Tryz.func62, Tryz.ntmps62
    go_wp2_with fail
    refine (spec_ImageValid_c _ _ _ _ xs _ hR0 (by omega)).mono ?_
    rw [hk'.out]
    rintro e w1 ⟨rfl, hb1⟩
    have kP := hP.next hb1
    have kQ := hQ.next hb1
    have p0 := kP.cell 0
    have p1 := kP.cell 1
    have q0 := kQ.cell 0
    have q1 := kQ.cell 1
    have q2 := kQ.cell 2
    have q3 := kQ.cell 3
    have hR1 := hR0.next hb1
    clear hP hQ kP kQ
    go_wp2_with fail
    refine (l11Ok_any m n c' A xs a b c d _ hR1 hk'.out hb hd).mono ?_
    rw [hv.out]
    rintro e w2 ⟨rfl, hb2⟩
    go_wp2
    go_ret
    rw [hv.out]
    exact ⟨rfl, lo_trans hB0 (lo_trans hb1 hb2)⟩

set_option maxHeartbeats 4000000 in
theorem spec_SwitchDo_c (W : Int) (n c' : Nat) (A : Option Addr) (xs : List Int) (a b c d : Int) (w : World) (hr : Rd w A n xs) (hn : n ≤ 1000) (hb : -1000 ≤ b ∧ b ≤ 1000) (hd : -1000 ≤ d ∧ d ≤ 1000) :
    Calls Tryz.prog 30 #[.agg #[.int .i64 W, .slice A n c'], .agg #[.int .i64 a, .int .i64 b, .int .i64 c, .int .i64 d]] w (Img3 w (exSwitch (W, xs) a b c d)) := by
  have hk0 : Blk (((w.alloc (.cells #[.int .i64 W, .slice A n c'] 25)).alloc (.cells #[.int .i64 a, .int .i64 b, .int .i64 c, .int .i64 d] 44)).alloc (.cells #[.int .i64 0, .slice none 0 0] 25)) w.heap.size 25 #[.int .i64 W, .slice A n c'] :=
    ((Blk.new w 25 #[.int .i64 W, .slice A n c']).alloc _).alloc _
  have hk1 := (heap_at2 w (.cells #[.int .i64 W, .slice A n c'] 25) 44 #[.int .i64 a, .int .i64 b, .int .i64 c, .int .i64 d]).alloc (.cells #[.int .i64 0, .slice none 0 0] 25)
  have hk2 : Blk (((w.alloc (.cells #[.int .i64 W, .slice A n c'] 25)).alloc (.cells #[.int .i64 a, .int .i64 b, .int .i64 c, .int .i64 d] 44)).alloc (.cells #[.int .i64 0, .slice none 0 0] 25)) (w.heap.size + 1 + 1) 25 #[.int .i64 0, .slice none 0 0] := by
    have := Blk.new ((w.alloc (.cells #[.int .i64 W, .slice A n c'] 25)).alloc (.cells #[.int .i64 a, .int .i64 b, .int .i64 c, .int .i64 d] 44)) 25 #[.int .i64 0, .slice none 0 0]
    simpa using this
  have hB0 := lo_alloc (lo_alloc (lo_alloc (Below.refl w.heap.size w) (.cells #[.int .i64 W, .slice A n c'] 25)) (.cells #[.int .i64 a, .int .i64 b, .int .i64 c, .int .i64 d] 44)) (.cells #[.int .i64 0, .slice none 0 0] 25)
  have hR0 := hr.next hB0
  have p0 := hk0.cell 0
  have p1 := hk0.cell 1
  have s0 := hk1.cell 0
  have s1 := hk1.cell 1
  have s2 := hk1.cell 2
  have s3 := hk1.cell 3
  cases hs : swFit W xs a b c d with
  | false =>
    have hs' := Lib.hid hs
    have hT := Lib.hid (show exSwitch (W, xs) a b c d = none by rw [exSwitch_def, hs]; rfl)
    clear hs
    go_enter Tryz.func30, Tryz.ntmps30
    go_wp2_with fail
    refine (spec_SwitchOk_c W n c' A xs a b c d _ hR0 hn hb hd).mono ?_
    rw [hs'.out]
    rintro e w1 ⟨rfl, hb1⟩
    have k2 := hk2.next hb1
    have d0 := k2.cell 0
    have d1 := k2.cell 1
    have f0 := k2.frozen 0
    have f1 := k2.frozen 1
    have hF := (k2.set_ 0 (.int .i64 0)).set_ 1 (.slice none 0 0)
    have r0 := hF.cell 0
    have r1 := hF.cell 1
    have hL1 : Below w.heap.size w ((w1.setCell ⟨w.heap.size + 1 + 1, 0, none⟩ (.int .i64 0)).setCell ⟨w.heap.size + 1 + 1, 1, none⟩ (.slice none 0 0)) := lo_set (lo_set (lo_trans hB0 hb1) (by simp; omega) _) (by simp; omega) _
    clear hF k2 hk0 hk1 hk2 p0 p1 s0 s1 s2 s3
    go_wp2
    exact bodyPost_ret (v := .tuple #[.agg #[.int .i64 0, .slice none 0 0], .bool false]) (by simp [results, Tryz.results30, go_sem, r0, r1]) rfl (Img3.none hT.out rfl hL1)
  | true =>
    have hs' := Lib.hid hs
    have hs2 := hs
    simp only [swFit, Bool.and_eq_true] at hs2
    obtain ⟨⟨hk, hi⟩, ho⟩ := hs2
    have hbd := okB_bd hk
    obtain ⟨m, rfl⟩ : ∃ m : Nat, W = (m : Int) := ⟨W.toNat, by omega⟩
    obtain ⟨i1, i2, i3, i4, i5, i6⟩ := swIn_yes hi
    rw [hr.1] at i3
    obtain ⟨a, rfl⟩ : ∃ x : Nat, a = (x : Int) := ⟨a.toNat, by omega⟩
    obtain ⟨b, rfl⟩ : ∃ x : Nat, b = (x : Int) := ⟨b.toNat, by omega⟩
    obtain ⟨c, rfl⟩ : ∃ x : Nat, c = (x : Int) := ⟨c.toNat, by omega⟩
    obtain ⟨d, rfl⟩ : ∃ x : Nat, d = (x : Int) := ⟨d.toNat, by omega⟩
    have hT := Lib.hid (show exSwitch ((m : Int), xs) a b c d = some ((m : Int), swDo m xs ⟨a, b, c, d⟩) by rw [exSwitch_def, hs, if_pos rfl]; simp only [Int.toNat_natCast])
    have hk' := Lib.hid hk
    simp only [Int.toNat_natCast] at ho
    have ho' := Lib.hid ho
    clear hs hi hk ho
    go_enter Tryz.func30, Tryz.ntmps30
    go_wp2_with fail
    refine (spec_SwitchOk_c (m : Int) n c' A xs a b c d _ hR0 hn hb hd).mono ?_
    rw [hs'.out]
    rintro e w1 ⟨rfl, hb1⟩
    have k0 := hk0.next hb1
    have k1 := hk1.next hb1
    have k2 := hk2.next hb1
    have hR1 := hR0.next hb1
    have hL1 := lo_trans hB0 hb1
    have hz1 := k2.lt
    clear hk0 hk1 hk2 p0 p1 s0 s1 s2 s3 hR0
    have p0 := k0.cell 0
    have p1 := k0.cell 1
    have s0 := k1.cell 0
    have s1 := k1.cell 1
    have s2 := k1.cell 2
    have s3 := k1.cell 3
    go_wp2_with fail
    refine (l11Do_c m n c' A xs ⟨a, b, c, d⟩ _ hR1 hk'.out ⟨by simp only; omega, by simp only; omega, by simp only; omega, by simp only; omega⟩ ho'.out).mono ?_
    rintro e w2 ⟨g, c2, rfl, hb2, hO⟩
    have k2' := k2.next hb2
    have d0 := k2'.cell 0
    have d1 := k2'.cell 1
    have f0 := k2'.frozen 0
    have f1 := k2'.frozen 1
    have hF := (k2'.set_ 0 (.int .i64 (m : Int))).set_ 1 (.slice (some ⟨g, 0, none⟩) n c2)
    have r0 := hF.cell 0
    have r1 := hF.cell 1
    have hL2 : Below w.heap.size w ((w2.setCell ⟨w.heap.size + 1 + 1, 0, none⟩ (.int .i64 (m : Int))).setCell ⟨w.heap.size + 1 + 1, 1, none⟩ (.slice (some ⟨g, 0, none⟩) n c2)) := lo_set (lo_set (lo_trans hL1 hb2) (by simp; omega) _) (by simp; omega) _
    have hO2 := ((hO.far_lo (p := ⟨w.heap.size + 1 + 1, 0, none⟩) (by simp only; omega) (.int .i64 (m : Int))).far_lo (p := ⟨w.heap.size + 1 + 1, 1, none⟩) (by simp only; omega) (.slice (some ⟨g, 0, none⟩) n c2)).mono (lo' := w.heap.size) (by have := hL1.size; omega)
    clear hF k2 k2' k0 k1 p0 p1 s0 s1 s2 s3
    go_wp2
    exact bodyPost_ret (v := .tuple #[.agg #[.int .i64 (m : Int), .slice (some ⟨g, 0, none⟩) n c2], .bool true]) (by simp [results, Tryz.results30, go_sem, r0, r1]) rfl (Img3.some hT.out rfl hL2 hO2)
end Go.Proofs.YtpeiolimdglmhaaGreatDoor
