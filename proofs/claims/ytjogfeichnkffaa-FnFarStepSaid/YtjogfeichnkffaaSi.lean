
/- Walks: the iterator over an image's switches; the neighbors of an image. -/
import Derived.Test.YtjogfeichnkffaaSw
import Derived.Test.YtjogfeichnkffaaMathP
import Derived.Deep.AppendLies
namespace Go.Proofs.Ytjogfeichnkffaa
open Go.RowKit Go.Shelf
attribute [local go_sem] Oper.semAt_some

/-- blocks B and b lie as they lay -/
def KB2 (B b : Nat) (W W' : World) : Prop := KB B W W' ∧ KB b W W'
theorem KB2.trans {B b : Nat} {x y z : World} (h : KB2 B b x y) (k : KB2 B b y z) : KB2 B b x z := ⟨h.1.trans k.1, h.2.trans k.2⟩
theorem KB2.refl (B b : Nat) (W : World) : KB2 B b W W := ⟨rfl, rfl⟩
theorem KB2.put {B b : Nat} {w : World} (hB : B < w.heap.size) (hb : b < w.heap.size) (W : World) (l : Nat) (o o' : Obj) (hl : w.heap.size ≤ l) (_ : W.heap[l]? = some o) (_ : o.isCells = false) (_ : o.isWalk = false) : KB2 B b W (W.putObj l o') :=
  ⟨World.putObj_heap_other (by omega), World.putObj_heap_other (by omega)⟩
theorem KB2.of_below {B b : Nat} {W W' : World} (h : Below W.heap.size W W') (hB : B < W.heap.size) (hb : b < W.heap.size) : KB2 B b W W' := ⟨KB.of_below h hB, KB.of_below h hb⟩
theorem KB2.of_grown {B b : Nat} {W W' : World} {row : Option Nat} (h : W.grownBy W' row) (hB : B < W.heap.size) (hb : b < W.heap.size) (hr : row ≠ some B) (hr' : row ≠ some b) : KB2 B b W W' := ⟨KB.of_grown h hB hr, KB.of_grown h hb hr'⟩
theorem KB.lt {B : Nat} {W W' : World} (h : KB B W W') (hB : B < W.heap.size) : B < W'.heap.size := by
  rcases Nat.lt_or_ge B W'.heap.size with h1 | h1
  · exact h1
  · unfold KB at h
    rw [Array.getElem?_eq_none h1, Array.getElem?_eq_getElem hB] at h
    cases h
theorem Rd.kb {b off n : Nat} {xs : List Int} {W W' : World} (h : Rd W (some ⟨b, off, none⟩) n xs) (hb : b < W.heap.size) (k : KB b W W') : Rd W' (some ⟨b, off, none⟩) n xs :=
  ⟨h.1, fun hn => by
    obtain ⟨b', off', e, _, hc⟩ := h.2 hn
    cases e
    exact ⟨b, off, rfl, k.lt hb, fun i x hx => (World.cell?_of_block (a := ⟨b, off + i, none⟩) k).trans (hc i x hx)⟩⟩
theorem Blk.kb {B : Nat} {t : TypeId} {cs : Array Value} {W W' : World} (h : Blk W B t cs) (k : KB B W W') : Blk W' B t cs := Eq.trans k h

def VSw.of {m : Nat} {xs : List Int} (s : Sw) (h : s ∈ swList m xs) : VSw m xs := ⟨s, h⟩
def swEnc (m : Nat) (xs : List Int) (x : VSw m xs) : Array Value := #[.agg #[.int .i64 (x.1.a : Int), .int .i64 (x.1.b : Int), .int .i64 (x.1.c : Int), .int .i64 (x.1.d : Int)]]

theorem pre_add {m : Nat} {xs : List Int} {h a b c d : Nat} {pre : List (VSw m xs)} (hp : pre.map (·.1) = swS h m xs a b c d) (hd : c + 1 ≤ d) (hk : swOk xs ⟨a, b, c, d⟩ = true) (hm : (⟨a, b, c, d⟩ : Sw) ∈ swList m xs) :
    (pre ++ [VSw.of ⟨a, b, c, d⟩ hm]).map (·.1) = swS h m xs a b c (d + 1) := by
  rw [swS_d hd, if_pos hk, List.map_append, hp]; rfl
theorem pre_not {m : Nat} {xs : List Int} {h a b c d : Nat} {pre : List (VSw m xs)} (hp : pre.map (·.1) = swS h m xs a b c d) (hd : c + 1 ≤ d) (hk : swOk xs ⟨a, b, c, d⟩ = false) :
    pre.map (·.1) = swS h m xs a b c (d + 1) := by
  rw [swS_d hd, if_neg (by rw [hk]; simp), hp]
theorem pre_len {m : Nat} {xs : List Int} {h a b c d : Nat} {pre : List (VSw m xs)} (hp : pre.map (·.1) = swS h m xs a b c d) (hh : h ≤ 6) (hm : m ≤ 6) (ha : a ≤ h) (hb : b ≤ h) (hc : c ≤ m) (hd : d ≤ m) : pre.length < 1600 := by
  have := swS_len xs hh hm ha hb hc hd
  rw [← hp, List.length_map] at this; exact this

set_option maxRecDepth 100000 in
set_option maxHeartbeats 4000000 in
theorem switches1_in (W0 : World) (n : Nat) (hn : 1 ≤ n) (l B h m c b off : Nat) (xs : List Int) (hok : okB (m : Int) xs = true) (hr0 : Rd W0 (some ⟨b, off, none⟩) h xs) (hb0 : b < W0.heap.size) (hB0 : B < W0.heap.size) (J Jx : List (VSw m xs) → World → Prop) (hJ : AbidesFrom W0.heap.size J)
    (hY : ∀ pre x W, J pre W → pre.length < 1600 → YieldAt Fence.wide (n - 1) Try.prog l (swEnc m xs x) W fun e W' =>
      (e = .returned (.bool true) ∧ J (pre ++ [x]) W' ∧ KB2 B b W W') ∨ (e = .returned (.bool false) ∧ Jx (pre ++ [x]) W'))
    (hk0 : Blk W0 B 27 #[.int .i64 (m : Int), .slice (some ⟨b, off, none⟩) h c]) (h0 : J [] W0) :
    CallsIn Fence.wide n Try.prog 52 #[.func (.yield l) #[] #[], .pointer (some ⟨B, 0, none⟩)] W0 fun e W' => (∃ v, e = .returned v) ∧
      ((∃ ys, ys.map (·.1) = swList m xs ∧ J ys W') ∨ (∃ pre, True ∧ Jx pre W')) := by
  have hbd := okB_bd hok
  rw [hr0.1] at hbd
  have hok' := Lib.hid hok; clear hok
  have hxl := Lib.hid hr0.1
  refine callsIn_of_wp Try.func52 rfl trivial ?_ rfl
  simp only [Try.ntmps52, List.size_toArray, List.length_cons, List.length_nil, Nat.reduceAdd, Nat.reduceSub, Array.replicate_succ, Array.replicate_zero, List.push_toArray, List.append_toArray, List.nil_append, List.cons_append]
  have c1 := hk0.cell 1
  gi_wp2
  gi_loopw [11] (fun i wr => ∃ (a : Nat) (pre : List (VSw m xs)), a ≤ h ∧ i = .int .i64 a ∧ Hid (pre.map (·.1) = swS h m xs a (a + 1) 0 1) ∧ J pre wr ∧ KB2 B b W0 wr ∧ B < wr.heap.size ∧ b < wr.heap.size) (fun i _ => h - (intOf i).toNat)
  case atStart => exact ⟨0, [], Nat.zero_le _, rfl, Lib.hid (by rw [swS_0]; rfl), h0, KB2.refl _ _ _, hB0, hb0⟩
  case round =>
    clear c1
    obtain ⟨a, pre, ha, rfl, hp, hJp, hK, hBw, hbw⟩ := hrel
    obtain ⟨wo, rfl⟩ : ∃ wo : World, wo = wr := ⟨_, rfl⟩
    by_cases hlt : a < h
    · gi_wp2
      gi_loopw [4] (fun i wr => ∃ (k : Nat) (pre : List (VSw m xs)), a + 1 ≤ k ∧ k ≤ h ∧ i = .int .i64 k ∧ Hid (pre.map (·.1) = swS h m xs a k 0 1) ∧ J pre wr ∧ KB2 B b W0 wr ∧ B < wr.heap.size ∧ b < wr.heap.size) (fun i _ => h - (intOf i).toNat)
      case atStart => exact ⟨a + 1, pre, Nat.le_refl _, by omega, by go_num, hp, hJp, hK, hBw, hbw⟩
      case round =>
        clear hp hJp hK hBw hbw
        obtain ⟨k, pre, hak, hkh, rfl, hp, hJp, hK, hBw, hbw⟩ := hrel
        obtain ⟨wo2, rfl⟩ : ∃ wo : World, wo = wr := ⟨_, rfl⟩
        have c0 := (hk0.kb hK.1).cell 0
        have c1 := (hk0.kb hK.1).cell 1
        by_cases hlt2 : k < h
        · gi_wp2
          clear c0 c1
          gi_loopw [25] (fun i wr => ∃ (q : Nat) (pre : List (VSw m xs)), q ≤ m ∧ i = .int .i64 q ∧ Hid (pre.map (·.1) = swS h m xs a k q (q + 1)) ∧ J pre wr ∧ KB2 B b W0 wr ∧ B < wr.heap.size ∧ b < wr.heap.size) (fun i _ => m - (intOf i).toNat)
          case atStart => exact ⟨0, pre, Nat.zero_le _, rfl, hp, hJp, hK, hBw, hbw⟩
          case round =>
            clear hp hJp hK hBw hbw
            obtain ⟨q, pre, hq, rfl, hp, hJp, hK, hBw, hbw⟩ := hrel
            obtain ⟨wo3, rfl⟩ : ∃ wo : World, wo = wr := ⟨_, rfl⟩
            by_cases hlt3 : q < m
            · gi_wp2
              gi_loopw [6] (fun i wr => ∃ (d : Nat) (pre : List (VSw m xs)), q + 1 ≤ d ∧ d ≤ m ∧ i = .int .i64 d ∧ Hid (pre.map (·.1) = swS h m xs a k q d) ∧ J pre wr ∧ KB2 B b W0 wr ∧ B < wr.heap.size ∧ b < wr.heap.size) (fun i _ => m - (intOf i).toNat)
              case atStart => exact ⟨q + 1, pre, Nat.le_refl _, by omega, by go_num, hp, hJp, hK, hBw, hbw⟩
              case round =>
                clear hp hJp hK hBw hbw
                obtain ⟨d, pre, hqd, hdm, rfl, hp, hJp, hK, hBw, hbw⟩ := hrel
                have c0 := (hk0.kb hK.1).cell 0
                have c1 := (hk0.kb hK.1).cell 1
                by_cases hlt4 : d < m
                · have hdm2 : d + 1 ≤ m := hlt4
                  have hx2 := Blk.new wr 68 #[.int .i64 (a : Int), .int .i64 (k : Int), .int .i64 (q : Int), .int .i64 (d : Int)]
                  have hR := (hr0.kb hb0 hK.2).alloc (.cells #[.int .i64 (a : Int), .int .i64 (k : Int), .int .i64 (q : Int), .int .i64 (d : Int)] 68)
                  have hb1 := lo_alloc (Below.refl wr.heap.size wr) (.cells #[.int .i64 (a : Int), .int .i64 (k : Int), .int .i64 (q : Int), .int .i64 (d : Int)] 68)
                  gi_wp2_with fail
                  refine ⟨trivial, ?_⟩
                  gi_at_call 53
                  refine (callsIn_wide.2 (switchOk_c m h c (some ⟨b, off, none⟩) xs ⟨a, k, q, d⟩ _ hR hok'.out ⟨by dsimp only; omega, by dsimp only; omega, by dsimp only; omega, by dsimp only; omega⟩)).mono ?_
                  rintro e w2 ⟨rfl, hb2⟩
                  have hb3 := lo_trans hb1 hb2
                  have hx3 := hx2.next hb2
                  have hJ2 : J pre w2 := hJ _ _ _ none hJp (grown_of_below hb3 none) (fun r e => by cases e)
                  have hK2 : KB2 B b wr w2 := KB2.of_below hb3 hBw hbw
                  have hs2 := hb3.size
                  have hplen := pre_len hp.out (by omega) (by omega) (by omega) (by omega) (by omega) (by omega)
                  clear hx2 hR hb1 hb2 hb3 c0 c1
                  have hK3 := hK.trans hK2
                  have c0 := (hk0.kb hK3.1).cell 0
                  have c1 := (hk0.kb hK3.1).cell 1
                  have x0 := hx3.cell 0
                  have x1 := hx3.cell 1
                  have x2 := hx3.cell 2
                  have x3 := hx3.cell 3
                  clear hK2 hK hx3 hJp
                  cases hsw : swOk xs ⟨a, k, q, d⟩ with
                  | false =>
                    have hp2 := Lib.hid (pre_not hp.out hqd hsw)
                    clear hsw hplen
                    gi_wp2
                    refine ⟨(fun _ h => by cases h), ?_⟩
                    gi_wp2
                    go_roundw
                    case rel => exact ⟨d + 1, pre, by omega, by omega, by go_num, hp2, hJ2, hK3, by omega, by omega⟩
                    case measure => simp [intOf]; omega
                  | true =>
                    have hmem : (⟨a, k, q, d⟩ : Sw) ∈ swList m xs := mem_swList.2 ⟨⟨by dsimp only; omega, by dsimp only; rw [hxl.out]; omega, by dsimp only; omega, by dsimp only; omega⟩, hsw⟩
                    have hp2 := Lib.hid (pre_add hp.out hqd hsw hmem)
                    obtain ⟨fn, tmps, assign, body, hy, hR⟩ := hY pre (VSw.of ⟨a, k, q, d⟩ hmem) w2 hJ2 hplen
                    have hy' : (Instr.yield l #[.agg #[.int .i64 (a : Int), .int .i64 (k : Int), .int .i64 (q : Int), .int .i64 (d : Int)]]).run Try.prog w2 = .ok (.round l fn tmps assign body) w2 := hy
                    clear hsw hplen hy
                    gi_wp2
                    refine hR.mono ?_
                    rintro e W3 (⟨rfl, hJ3, hk3⟩ | ⟨rfl, hJx3⟩)
                    · gi_wp2
                      go_roundw
                      case rel => exact ⟨d + 1, _, by omega, by omega, by go_num, hp2, hJ3, hK3.trans hk3, hk3.1.lt (by omega), hk3.2.lt (by omega)⟩
                      case measure => simp [intOf]; omega
                    · gi_wp2
                      refine bodyPost_ret (results_none rfl _ _ _) rfl ?_
                      exact ⟨⟨_, rfl⟩, .inr ⟨_, trivial, hJx3⟩⟩
                · have hdm' : d = m := by omega
                  have hp2 := Lib.hid (hp.out.trans (by rw [hdm', ← swS_c] : swS h m xs a k q d = swS h m xs a k (q + 1) (q + 1 + 1)))
                  clear hdm'
                  gi_wp2
                  go_roundw
                  case rel => exact ⟨q + 1, pre, by omega, by go_num, hp2, hJp, hK, hBw, hbw⟩
                  case measure => simp [intOf]; omega
            · have hqm : q = m := by omega
              have hp2 := Lib.hid (hp.out.trans (by rw [hqm, ← swS_b hak] : swS h m xs a k q (q + 1) = swS h m xs a (k + 1) 0 1))
              clear hqm
              gi_wp2
              go_roundw
              case rel => exact ⟨k + 1, pre, by omega, by omega, by go_num, hp2, hJp, hK, hBw, hbw⟩
              case measure => simp [intOf]; omega
        · have hkh' : k = h := by omega
          have hp2 := Lib.hid (hp.out.trans (by rw [hkh', ← swS_a] : swS h m xs a k 0 1 = swS h m xs (a + 1) (a + 1 + 1) 0 1))
          clear hkh'
          gi_wp2
          go_roundw
          case rel => exact ⟨a + 1, pre, by omega, by go_num, hp2, hJp, hK, hBw, hbw⟩
          case measure => simp [intOf]; omega
    · have hah : a = h := by omega
      have hp2 : pre.map (·.1) = swList m xs := hp.out.trans (by rw [hah, ← swS_end, hxl.out])
      have hp3 := Lib.hid hp2
      clear hah hp2
      gi_wp2
      go_end0
      exact ⟨⟨_, rfl⟩, .inl ⟨_, hp3.out, hJp⟩⟩

theorem switches_stops (n : Nat) (hn : 1 ≤ n) (B h m c b off : Nat) (xs : List Int) (hok : okB (m : Int) xs = true) (w : World) (hr0 : Rd w (some ⟨b, off, none⟩) h xs) (hb0 : b < w.heap.size) (hB0 : B < w.heap.size)
    (hk0 : Blk w B 27 #[.int .i64 (m : Int), .slice (some ⟨b, off, none⟩) h c]) :
    SeqStopsK Fence.wide n Try.prog 52 #[.pointer (some ⟨B, 0, none⟩)] (swEnc m xs) (KB2 B b) (fun ys => ys.map (·.1) = swList m xs) (fun _ => True) 1600 w := fun l J Jx W hW hJ _ hY h0 =>
  switches1_in W n hn l B h m c b off xs hok (hr0.next hW) (Nat.lt_of_lt_of_le hb0 hW.size) (Nat.lt_of_lt_of_le hB0 hW.size) J Jx hJ hY (hk0.next hW) h0

set_option maxHeartbeats 400000 in
theorem switches_in (F : Fence) (n : Nat) (hF : F.fn 40) (hro : F.round = none) (v0 v1 : Value) (w : World) :
    CallsIn F n Try.prog 40 #[.agg #[v0, v1]] w fun e w' => e = .returned (.func (.func 52) #[] #[.pointer (some ⟨w.heap.size, 0, none⟩)]) ∧ w' = w.alloc (.cells #[v0, v1] 27) := by
  have hmf : ∀ (fn : Fn) (first cap : Array Value) (w : World), (Instr.makeFunc fn first cap).run Try.prog w = .ok (.func fn first cap) w := fun _ _ _ _ => rfl
  refine callsIn_of_wp Try.func40 rfl hF ?_ hro
  simp only [Try.ntmps40, List.size_toArray, List.length_cons, List.length_nil, Nat.reduceAdd, Nat.reduceSub, Array.replicate_succ, Array.replicate_zero, List.push_toArray, List.append_toArray, List.nil_append, List.cons_append]
  gi_wp2
  go_ret
  exact ⟨rfl, rfl⟩
end Go.Proofs.Ytjogfeichnkffaa
