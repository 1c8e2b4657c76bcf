
/- Walks: the iterator over all images with given sums; the number of images with given sums. -/
import Derived.Test.YtnbaedpckdefgaaIn
import Derived.Sort.CutIn
import Derived.Laws.EntriesVeiled
namespace Go.Proofs.Ytnbaedpckdefgaa
open Go.RowKit Go.Shelf
attribute [local go_sem] Oper.semAt_some wide_fn
set_option maxRecDepth 100000

theorem withG_snd (gA : Nat) (L : List (List Int)) : (withG gA [] L).map (·.2) = L := by
  simp only [withG, List.nil_append, List.map_map]
  exact List.map_id L

set_option maxHeartbeats 8000000 in
theorem images_seq {bR bC gR gC offR offC cR cC h m : Nat} {rows cols : List Int} (n : Nat) (hn : 1 ≤ n) (hm1 : 1 ≤ m) (hm : m ≤ 6) (hh1 : 1 ≤ h) (hh : h ≤ 6) (w : World) (hR : Rd w (some ⟨gR, offR, none⟩) h rows) (hC : Rd w (some ⟨gC, offC, none⟩) m cols)
    (hbR : Blk w bR 23 #[.slice (some ⟨gR, offR, none⟩) h cR]) (hbC : Blk w bC 23 #[.slice (some ⟨gC, offC, none⟩) m cC]) (hle : sumsLe h cols) :
    SeqCells Fence.wide n Try.prog 45 #[.pointer (some ⟨bR, 0, none⟩), .pointer (some ⟨bC, 0, none⟩)] (imEnc h m h) imPre (KB2 bR gR) (fun xs => xs.map (·.2) = imgL rows cols) (fun pre => pre ≠ [] ∧ pre.map (·.2) <+: imgL rows cols) (imgL rows cols).length w := by
  intro lY J Jx W hb hJ hJx hY hJ0
  obtain ⟨_, _, e1, hgR, _⟩ := hR.at_ (k := 0) (by omega)
  cases e1
  have hbRl := hbR.lt
  have hsz := hb.size
  have hRW := hR.next hb
  have hCW := hC.next hb
  have hbRW := hbR.next hb
  have hbCW := hbC.next hb
  clear hR hC hbR hbC hb
  obtain ⟨B, hB⟩ : ∃ B, B = W.heap.size := ⟨_, rfl⟩
  have hB1 : B ≤ W.heap.size := by omega
  have hB2 : W.heap.size ≤ B := by omega
  refine callsIn_of_wp Try.func45 rfl trivial ?_ rfl
  simp only [Try.ntmps45, List.size_toArray, List.length_cons, List.length_nil, Nat.reduceAdd, Nat.reduceSub, Array.replicate_succ, Array.replicate_zero, List.push_toArray, List.append_toArray, List.nil_append, List.cons_append]
  have hY1 := Blk.new W 40 #[.func (.yield lY) #[] #[]]
  have hL1 := lo_alloc (Below.refl W.heap.size W) (.cells #[.func (.yield lY) #[] #[]] 40)
  have r0 := (hbRW.next hL1).cell 0
  have c0 := (hbCW.next hL1).cell 0
  gi_wp2_with fail
  generalize W.alloc (.cells #[.func (.yield lY) #[] #[]] 40) = W1 at hY1 hL1 r0 c0 ⊢
  gi_at_call 28
  refine (callsIn_wide.2 (emptyImage_c h m _ (by omega))).mono ?_
  rintro e W2 ⟨gA, rfl, hb2, hA2, hgA1, hgA2⟩
  have hI2 := Blk.new W2 25 #[.int .i64 (m : Int), .slice (some ⟨gA, 0, none⟩) h h]
  have hA3 := hA2.alloc (.cells #[.int .i64 (m : Int), .slice (some ⟨gA, 0, none⟩) h h] 25)
  have hY3 := (hY1.next hb2).alloc (.cells #[.int .i64 (m : Int), .slice (some ⟨gA, 0, none⟩) h h] 25)
  have hL3 := lo_alloc (lo_trans hL1 hb2) (.cells #[.int .i64 (m : Int), .slice (some ⟨gA, 0, none⟩) h h] 25)
  have hz3 : (W2.alloc (.cells #[.int .i64 (m : Int), .slice (some ⟨gA, 0, none⟩) h h] 25)).heap.size = W2.heap.size + 1 := by simp
  have hs2 := hb2.size
  have hs1 := hY1.lt
  clear r0 c0 hA2 hb2 hL1 hY1
  have c0 := (hbCW.next hL3).cell 0
  gi_wp2_with fail
  generalize W2.alloc (.cells #[.int .i64 (m : Int), .slice (some ⟨gA, 0, none⟩) h h] 25) = W3 at hI2 hA3 hY3 hL3 hz3 c0 ⊢
  gi_at_call 35
  refine (callsIn_wide.2 (Clone_c _ m _ cols _ (hCW.next hL3) (by omega) (by omega))).mono ?_
  rintro e W4 ⟨gL, cL, rfl, hb4, hO4⟩
  have hs4 := hb4.size
  have hl5 := Blk.new W4 23 #[.slice (some ⟨gL, 0, none⟩) m cL]
  have hO5 := hO4.alloc (.cells #[.slice (some ⟨gL, 0, none⟩) m cL] 23)
  have hI5 := (hI2.next hb4).alloc (.cells #[.slice (some ⟨gL, 0, none⟩) m cL] 23)
  have hA5 := (hA3.next hb4).alloc (.cells #[.slice (some ⟨gL, 0, none⟩) m cL] 23)
  have hY5 := (hY3.next hb4).alloc (.cells #[.slice (some ⟨gL, 0, none⟩) m cL] 23)
  have hL5 := lo_alloc (lo_trans hL3 hb4) (.cells #[.slice (some ⟨gL, 0, none⟩) m cL] 23)
  have hz5 : (W4.alloc (.cells #[.slice (some ⟨gL, 0, none⟩) m cL] 23)).heap.size = W4.heap.size + 1 := by simp
  obtain ⟨_, e1, hgL1, hgL2, _⟩ := hO4.at_ (k := 0) (by omega)
  cases e1
  clear c0 hI2 hA3 hY3 hL3 hO4 hb4
  have hf6 := heap_at2 W4 (.cells #[.slice (some ⟨gL, 0, none⟩) m cL] 23) 63 #[Value.nilFunc]
  have hl6 := hl5.alloc (.cells #[Value.nilFunc] 63)
  have hO6 := hO5.alloc (.cells #[Value.nilFunc] 63)
  have hI6 := hI5.alloc (.cells #[Value.nilFunc] 63)
  have hA6 := hA5.alloc (.cells #[Value.nilFunc] 63)
  have hY6 := hY5.alloc (.cells #[Value.nilFunc] 63)
  have hL6 := lo_alloc hL5 (.cells #[Value.nilFunc] 63)
  clear hl5 hO5 hI5 hA5 hY5 hL5 hz5
  gi_upto_region 4 with fail
  generalize (W4.alloc (.cells #[.slice (some ⟨gL, 0, none⟩) m cL] 23)).alloc (.cells #[Value.nilFunc] 63) = W6 at hf6 hl6 hO6 hI6 hA6 hY6 hL6 ⊢
  have f0 := hf6.cell 0
  have ff := hf6.frozen 0
  gi_wp2_with fail
  have hf7 := hf6.set_ 0 (.func (.func 46) #[] #[.pointer (some ⟨bR, 0, none⟩), .pointer (some ⟨W4.heap.size, 0, none⟩), .pointer (some ⟨W.heap.size, 0, none⟩), .pointer (some ⟨W2.heap.size, 0, none⟩), .pointer (some ⟨W4.heap.size + 1, 0, none⟩)])
  have hl7 := hl6.far (p := ⟨W4.heap.size + 1, 0, none⟩) (by simp) (.func (.func 46) #[] #[.pointer (some ⟨bR, 0, none⟩), .pointer (some ⟨W4.heap.size, 0, none⟩), .pointer (some ⟨W.heap.size, 0, none⟩), .pointer (some ⟨W2.heap.size, 0, none⟩), .pointer (some ⟨W4.heap.size + 1, 0, none⟩)])
  have hO7 := hO6.far (p := ⟨W4.heap.size + 1, 0, none⟩) (by rintro g ⟨⟩; show gL ≠ W4.heap.size + 1; omega) (.func (.func 46) #[] #[.pointer (some ⟨bR, 0, none⟩), .pointer (some ⟨W4.heap.size, 0, none⟩), .pointer (some ⟨W.heap.size, 0, none⟩), .pointer (some ⟨W2.heap.size, 0, none⟩), .pointer (some ⟨W4.heap.size + 1, 0, none⟩)])
  have hI7 := hI6.far (p := ⟨W4.heap.size + 1, 0, none⟩) (by show W2.heap.size ≠ W4.heap.size + 1; omega) (.func (.func 46) #[] #[.pointer (some ⟨bR, 0, none⟩), .pointer (some ⟨W4.heap.size, 0, none⟩), .pointer (some ⟨W.heap.size, 0, none⟩), .pointer (some ⟨W2.heap.size, 0, none⟩), .pointer (some ⟨W4.heap.size + 1, 0, none⟩)])
  have hA7 := hA6.far (p := ⟨W4.heap.size + 1, 0, none⟩) (by show gA ≠ W4.heap.size + 1; omega) (.func (.func 46) #[] #[.pointer (some ⟨bR, 0, none⟩), .pointer (some ⟨W4.heap.size, 0, none⟩), .pointer (some ⟨W.heap.size, 0, none⟩), .pointer (some ⟨W2.heap.size, 0, none⟩), .pointer (some ⟨W4.heap.size + 1, 0, none⟩)])
  have hY7 := hY6.far (p := ⟨W4.heap.size + 1, 0, none⟩) (by show W.heap.size ≠ W4.heap.size + 1; omega) (.func (.func 46) #[] #[.pointer (some ⟨bR, 0, none⟩), .pointer (some ⟨W4.heap.size, 0, none⟩), .pointer (some ⟨W.heap.size, 0, none⟩), .pointer (some ⟨W2.heap.size, 0, none⟩), .pointer (some ⟨W4.heap.size + 1, 0, none⟩)])
  have hL7 := lo_set hL6 (p := ⟨W4.heap.size + 1, 0, none⟩) (by show W.heap.size ≤ W4.heap.size + 1; omega) (.func (.func 46) #[] #[.pointer (some ⟨bR, 0, none⟩), .pointer (some ⟨W4.heap.size, 0, none⟩), .pointer (some ⟨W.heap.size, 0, none⟩), .pointer (some ⟨W2.heap.size, 0, none⟩), .pointer (some ⟨W4.heap.size + 1, 0, none⟩)])
  clear hf6 hl6 hO6 hI6 hA6 hY6 hL6 f0 ff
  generalize W6.setCell _ _ = W7 at hf7 hl7 hO7 hI7 hA7 hY7 hL7 ⊢
  have hz7 := hf7.lt
  have ne : FillNe W.heap.size W.heap.size W2.heap.size W4.heap.size (W4.heap.size + 1) gA gL bR gR := ⟨by omega, by omega⟩
  have hS : FillSt W.heap.size W.heap.size W2.heap.size W4.heap.size (W4.heap.size + 1) gA gL h m h cL lY bR (List.replicate h 0) cols W7 :=
    ⟨hY7, hI7, hl7, hf7, Own.of_blk hA7 (by omega) (by simp), hO7.mono (by omega)⟩
  have hJ7 := hJ _ _ _ none hJ0 (grown_of_below hL7 none) (fun r e => by cases e)
  have hfc := fill_c (offR := offR) (cR := cR) (rows := rows) hm1 hm hh1 hh ne (imgL rows cols).length J Jx hJ hJx (fun k pre x W1 h1 h2 h3 => YieldAt.any (hY pre x W1 h1 h2 h3)) h 0 (List.replicate h 0) cols [] W7 (by omega) hS (hRW.next hL7) (hbRW.next hL7) (by omega) hJ7 hle (by simp)
  rw [List.drop_zero] at hfc
  gi_at_call 46
  refine (callsIn_wide.2 hfc).mono ?_
  clear hfc
  rintro e W8 (⟨rfl, hJ8, -, -⟩ | ⟨rfl, ⟨pre', hp1, hp2, hJ8⟩, -, -⟩)
  · gi_wp2
    go_end0
    refine ⟨⟨_, rfl⟩, .inl ⟨_, ?_, hJ8⟩⟩
    exact withG_snd gA _
  · gi_wp2
    go_end0
    refine ⟨⟨_, rfl⟩, .inr ⟨_, ⟨?_, ?_⟩, hJ8⟩⟩
    · simpa using hp1
    · obtain ⟨t, ht⟩ := hp2
      refine ⟨t.map (·.2), ?_⟩
      rw [List.nil_append, ← List.map_append, ht]
      exact withG_snd gA _

theorem imagesOf_in (F : Fence) (n : Nat) (hF : F.fn 24) (hro : F.round = none) (A B : Option Addr) (h m c d : Nat) (w : World) :
    CallsIn F n Try.prog 24 #[.slice A h c, .slice B m d] w fun e w' => e = .returned (.func (.func 45) #[] #[.pointer (some ⟨w.heap.size, 0, none⟩), .pointer (some ⟨w.heap.size + 1, 0, none⟩)]) ∧ w' = (w.alloc (.cells #[.slice A h c] 23)).alloc (.cells #[.slice B m d] 23) := by
  have hmf : ∀ (fn : Fn) (first cap : Array Value) (w : World), (Instr.makeFunc fn first cap).run Try.prog w = .ok (.func fn first cap) w := fun _ _ _ _ => rfl
  refine callsIn_of_wp Try.func24 rfl hF ?_ hro
  simp only [Try.ntmps24, List.size_toArray, List.length_cons, List.length_nil, Nat.reduceAdd, Nat.reduceSub, Array.replicate_succ, Array.replicate_zero, List.push_toArray, List.append_toArray, List.nil_append, List.cons_append]
  gi_wp2
  go_ret
  exact ⟨rfl, rfl⟩

theorem imgL_bd : ∀ (rs lf : List Int), (imgL rs lf).length ≤ (2 ^ lf.length) ^ rs.length
  | [], lf => by rw [imgL]; split <;> simp
  | r :: rs, lf => by
    rw [imgL, List.length_cons, Nat.pow_succ, Nat.mul_comm]
    have key : ∀ k, ((List.range k).flatMap (fun row => if ((pop row : Nat) : Int) = r ∧ fitB row lf ((rs.length + 1 : Nat) : Int) = true then (imgL rs (takeL row lf)).map (fun x => (row : Int) :: x) else [])).length ≤ k * (2 ^ lf.length) ^ rs.length := by
      intro k
      induction k with
      | zero => simp
      | succ k ih =>
        rw [List.range_succ, List.flatMap_append, List.length_append, Nat.add_mul, Nat.one_mul]
        refine Nat.add_le_add ih ?_
        simp only [List.flatMap_cons, List.flatMap_nil, List.append_nil]
        split
        · rw [List.length_map]
          have := imgL_bd rs (takeL k lf)
          rwa [takeL_len] at this
        · simp
    exact key _
theorem imgL_small {rs lf : List Int} (h1 : rs.length ≤ 6) (h2 : lf.length ≤ 6) : (imgL rs lf).length ≤ 68719476736 := by
  refine Nat.le_trans (imgL_bd rs lf) ?_
  have h3 : 2 ^ lf.length ≤ 64 := pow_le64 h2
  calc (2 ^ lf.length) ^ rs.length ≤ 64 ^ rs.length := Nat.pow_le_pow_left h3 _
    _ ≤ 64 ^ 6 := Nat.pow_le_pow_right (by omega) h1
    _ = 68719476736 := by decide

/-- sums of images that are counted -/
def cntB (rows cols : List Int) : Bool := sV rows cols && decide (rows.length * cols.length ≤ 16)
def cntW (rows cols : List Int) : Int := if cntB rows cols then ((imgL rows cols).length : Int) else -1
theorem sV_le {rows cols : List Int} (h : sV rows cols = true) : 1 ≤ rows.length ∧ rows.length ≤ 6 ∧ 1 ≤ cols.length ∧ cols.length ≤ 6 ∧ sumsLe rows.length cols := by
  rw [sV, Bool.and_eq_true] at h
  obtain ⟨a1, a2, a3⟩ := sIn_out h.1
  obtain ⟨b1, b2, b3⟩ := sIn_out h.2
  exact ⟨a1, a2, b1, b2, fun j hj => allIn_at b3 j hj⟩

set_option maxHeartbeats 2000000 in
theorem countable_c (A B : Option Addr) (n m c d : Nat) (xs ys : List Int) (w : World) (hr : Rd w A n xs) (hs : Rd w B m ys) (hn : n ≤ 1048576) (hm : m ≤ 1048576) :
    Calls Try.prog 23 #[.slice A n c, .slice B m d] w fun e w' => e = .returned (.bool (cntB xs ys)) ∧ w = w' := by
  have hx := Lib.hid hr.1
  have hy := Lib.hid hs.1
  go_enter Try.func23, Try.ntmps23
  go_wp2_with fail
  refine (SumsValid_c _ _ _ _ _ _ xs ys _ hr hs (by omega) (by omega)).mono ?_
  rintro e w' ⟨rfl, rfl⟩
  cases hv : sV xs ys with
  | false =>
    have hF := Lib.hid (show cntB xs ys = false by rw [cntB, hv]; rfl)
    go_wp2
    go_ret
    exact ⟨ret_bool hF.out.symm, rfl⟩
  | true =>
    have hb := sV_le hv
    rw [hx.out, hy.out] at hb
    have hF := Lib.hid (show cntB xs ys = decide (n * m ≤ 16) by rw [cntB, hv, hx.out, hy.out]; rfl)
    have hmul : n * m ≤ 6 * 6 := Nat.mul_le_mul hb.2.1 hb.2.2.2.1
    have hmi : (n : Int) * (m : Int) = ((n * m : Nat) : Int) := by simp
    have hmi' := Lib.hid hmi
    have hw : wrap64 ((n : Int) * (m : Int)) = ((n * m : Nat) : Int) := by rw [hmi]; exact IntWalk.wrap64_in _ (by omega)
    clear hmi
    generalize n * m = q at hF hmul hw
    go_wp2
    go_ret
    refine ⟨ret_bool ?_, rfl⟩
    rw [hF.out, decide_eq_decide]
    omega

set_option maxHeartbeats 8000000 in
theorem SumsCount_c (A B : Option Addr) (h m c d : Nat) (xs ys : List Int) (w : World) (hr : Rd w A h xs) (hs : Rd w B m ys) (hn : h ≤ 1048576) (hm : m ≤ 1048576) :
    Calls Try.prog 8 #[.slice A h c, .slice B m d] w fun e w' => e = .returned (.int .i64 (cntW xs ys)) ∧ Below w.heap.size w w' := by
  cases hb : cntB xs ys with
  | false =>
    have hF := Lib.hid (show cntW xs ys = -1 by rw [cntW, hb]; rfl)
    go_enter Try.func8, Try.ntmps8
    go_wp2_with fail
    refine (countable_c _ _ _ _ _ _ xs ys _ hr hs hn hm).mono ?_
    rw [hb]
    rintro e w1 ⟨rfl, rfl⟩
    go_wp2
    go_ret
    exact ⟨ret_int hF.out.symm, Below.refl _ _⟩
  | true =>
    have hF := Lib.hid (show cntW xs ys = ((imgL xs ys).length : Int) by rw [cntW, hb]; rfl)
    have hv : sV xs ys = true := by rw [cntB, Bool.and_eq_true] at hb; exact hb.1
    obtain ⟨h1, h6, m1, m6, hle⟩ := sV_le hv
    rw [hr.1] at h1 h6 hle
    rw [hs.1] at m1 m6
    have hsm := imgL_small (rs := xs) (lf := ys) (by rw [hr.1]; exact h6) (by rw [hs.1]; exact m6)
    clear hv
    obtain ⟨gR, offR, rfl, hgR, _⟩ := hr.2 (by omega)
    obtain ⟨gC, offC, rfl, hgC, _⟩ := hs.2 (by omega)
    refine (callsIn_wide (n := 3)).1 ?_
    refine callsIn_of_wp_marks Try.func8 rfl trivial ?_ rfl
    simp only [Try.ntmps8, List.size_toArray, List.length_cons, List.length_nil, Nat.reduceAdd, Nat.reduceSub, Array.replicate_succ, Array.replicate_zero, List.push_toArray, List.append_toArray, List.nil_append, List.cons_append]
    gi_wp2_with fail
    gi_at_call 23
    refine (callsIn_wide.2 (countable_c _ _ _ _ _ _ xs ys _ hr hs hn hm)).mono ?_
    rw [hb]
    rintro e w1 ⟨rfl, rfl⟩
    clear hb
    gi_wp2_with (gi_at_call 24; refine (imagesOf_in Fence.wide _ trivial rfl _ _ _ _ _ _ _).mono ?_; rintro e w3 ⟨rfl, rfl⟩)
    obtain ⟨p, hp⟩ : ∃ p, p = w.heap.size := ⟨_, rfl⟩
    have hP6 : Blk (((w.alloc (.cells #[.int .i64 0] 3)).alloc (.cells #[.slice (some ⟨gR, offR, none⟩) h c] 23)).alloc (.cells #[.slice (some ⟨gC, offC, none⟩) m d] 23)) p 3 #[.int .i64 ((([] : List (Nat × List Int)).length : Nat) : Int)] := by rw [hp]; exact ((Blk.new w 3 #[.int .i64 0]).alloc _).alloc _
    have hR6 : Blk (((w.alloc (.cells #[.int .i64 0] 3)).alloc (.cells #[.slice (some ⟨gR, offR, none⟩) h c] 23)).alloc (.cells #[.slice (some ⟨gC, offC, none⟩) m d] 23)) (p + 1) 23 #[.slice (some ⟨gR, offR, none⟩) h c] := by rw [hp]; exact (heap_at2 w _ _ _).alloc _
    have hC6 : Blk (((w.alloc (.cells #[.int .i64 0] 3)).alloc (.cells #[.slice (some ⟨gR, offR, none⟩) h c] 23)).alloc (.cells #[.slice (some ⟨gC, offC, none⟩) m d] 23)) (p + 1 + 1) 23 #[.slice (some ⟨gC, offC, none⟩) m d] := by
      have := heap_at2 (w.alloc (.cells #[.int .i64 0] 3)) (.cells #[.slice (some ⟨gR, offR, none⟩) h c] 23) 23 #[.slice (some ⟨gC, offC, none⟩) m d]
      rw [World.size_alloc] at this
      rw [hp]
      exact this
    have hL6 := lo_alloc (lo_alloc (lo_alloc (Below.refl w.heap.size w) (.cells #[.int .i64 0] 3)) (.cells #[.slice (some ⟨gR, offR, none⟩) h c] 23)) (.cells #[.slice (some ⟨gC, offC, none⟩) m d] 23)
    rw [← hp]
    have hp1 : w.heap.size ≤ p := by omega
    have hp2 : p ≤ w.heap.size := by omega
    generalize ((w.alloc (.cells #[.int .i64 0] 3)).alloc (.cells #[.slice (some ⟨gR, offR, none⟩) h c] 23)).alloc (.cells #[.slice (some ⟨gC, offC, none⟩) m d] 23) = w6 at hP6 hR6 hC6 hL6 ⊢
    clear hp
    have hz6 := hC6.lt
    have hF' := hF
    refine wpIn_rangeFunc_cells rfl (by omega) (gf := 45) (lb := #[.pointer (some ⟨p + 1, 0, none⟩), .pointer (some ⟨p + 1 + 1, 0, none⟩)]) rfl trivial (enters_of Try.func45 (by kernel_rfl) rfl)
      (encs := imEnc h m h) (Kp := KB2 (p + 1) gR) imPre_keep KB2.trans (fun W l o' hl => ⟨World.putObj_heap_other (by omega), World.putObj_heap_other (by omega)⟩)
      (images_seq _ (by omega) m1 m6 h1 h6 w6 (hr.next hL6) (hs.next hL6) hR6 hC6 hle) (Below.refl _ _) (fun _ => rfl)
      (fun pre W => Below w.heap.size w W ∧ Blk W p 3 #[.int .i64 ((pre.length : Nat) : Int)] ∧ w6.heap.size ≤ W.heap.size) (fun _ _ _ => False)
      (Bears.and (bears_below (by omega)) (Bears.and (bears_blk (fun pre : List (Nat × List Int) => #[.int .i64 ((pre.length : Nat) : Int)]) (by omega)) (fun _ _ _ _ hs hg _ => Nat.le_trans hs hg.size))) (fun _ _ _ _ _ hs _ _ => hs) ⟨hL6, hP6, Nat.le_refl _⟩
      (fun x a' _ => a' = { tmps := #[.slice (some ⟨gR, offR, none⟩) h c, .slice (some ⟨gC, offC, none⟩) m d, undef, undef, .int .i64 0, .pointer (some ⟨p, 0, none⟩), .slice (some ⟨gR, offR, none⟩) h c, .slice (some ⟨gC, offC, none⟩) m d, .bool true, .bool false,
        .slice (some ⟨gR, offR, none⟩) h c, .slice (some ⟨gC, offC, none⟩) m d, .func (.func 45) #[] #[.pointer (some ⟨p + 1, 0, none⟩), .pointer (some ⟨p + 1 + 1, 0, none⟩)],
        .agg #[.int .i64 (m : Int), .slice (some ⟨x.1, 0, none⟩) h h], undef, undef, undef], defers := [] }) (fun _ _ _ _ _ _ hs _ _ => hs) ?assign ?body ?done ?stop
    case assign =>
      rintro l pre x W K hI hQ
      dsimp only [imEnc]
      gi_wp2
      exact hQ _ _ (KeepsUp.refl _ _) (KB2.refl _ _ _) hI (by simp)
    case body =>
      rintro l pre x a' W ⟨hB, hK, hzW⟩ - rfl hlen
      have k0 := hK.cell 0
      have k1 := hK.frozen 0
      obtain ⟨q, hq⟩ : ∃ q, q = pre.length := ⟨_, rfl⟩
      rw [← hq] at k0 hlen
      have hq' := Lib.hid hq
      clear hq
      have hset := Lib.hid (hK.set_ 0 (.int .i64 ((q : Int) + 1)))
      have hlow := lo_set hB (p := ⟨p, 0, none⟩) hp1 (.int .i64 ((q : Int) + 1))
      clear hK hB
      gi_wp2
      refine ⟨KeepsUp.of_grown (grown_set (g := p) (k := 0) _) (fun r e => by cases e; omega), KB2.of_grown (grown_set (g := p) (k := 0) _) (by omega) (by omega) (fun e => by injection e; omega) (fun e => by injection e; omega), hlow, ?_, by simpa using hzW⟩
      · rw [List.length_append, ← hq'.out]
        exact hset.out
    case done =>
      rintro D zs W hD hzs ⟨h1', h2, -⟩ hKD
      have hG := Lib.hid (show ((zs.length : Nat) : Int) = cntW xs ys by rw [hF'.out, ← hzs, List.length_map])
      clear hzs
      have k0 := h2.cell 0
      rw [hG.out] at k0
      gi_wp2
      refine ⟨by simp, .inl ⟨_, _, rfl, run_takeDeferred hKD, ?_⟩⟩
      refine ⟨.int .i64 (cntW xs ys), by simp [results, Try.results8, go_sem], rfl, ?_⟩
      exact h1'.trans (belowK_b (w := w) (Nat.le_refl _) _ D _ (.deferred none) (by omega) hKD rfl rfl)
    case stop =>
      rintro D cc pre W _ _ h _
      exact h.elim
end Go.Proofs.Ytnbaedpckdefgaa
