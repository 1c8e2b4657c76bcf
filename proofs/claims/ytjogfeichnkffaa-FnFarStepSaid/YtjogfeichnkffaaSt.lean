
/- Walks: the reference's numbers of steps. -/
import Derived.Test.YtjogfeichnkffaaSt0
import Derived.Test.YtjogfeichnkffaaSpd
namespace Go.Proofs.Ytjogfeichnkffaa
open Go.RowKit
set_option maxRecDepth 100000

theorem l1Power_n (n m : Nat) (w : World) (h : n * m ≤ 60) :
    Calls Try.prog 45 #[.int .i64 ((n : Int) * (m : Int))] w fun e w' => e = .returned (.int .i64 ((2 ^ (n * m) : Nat) : Int)) ∧ w = w' := by
  have e : (n : Int) * (m : Int) = ((n * m : Nat) : Int) := by simp
  rw [e]
  refine (l1Power_c ((n * m : Nat) : Int) w (by omega) (by omega)).mono ?_
  rintro e w' ⟨rfl, rfl⟩
  refine ⟨ret_int ?_, rfl⟩
  rw [Int.toNat_natCast]; simp

/-- what lies in memory while the reference searches -/
structure GInv (w wr : World) (m N g : Nat) (A : Option Addr) (c : Nat) (es : List El) (S : List Int) (wk : List (List Int × Nat)) : Prop where
  low : Below w.heap.size w wr
  buf : BufI wr w.heap.size A c es
  els : Els es (m : Int) (wk.map (·.1))
  keep : ∀ e ∈ es, Keep wr w.heap.size e
  steps : Own wr w.heap.size (some ⟨g, 0, none⟩) N S
  is_ : StepsIs S m N wk
  ne : ∀ e ∈ es, e.A ≠ some (⟨g, 0, none⟩ : Addr)
  lo : w.heap.size ≤ g
section
variable {w wr w' : World} {m N g c : Nat} {A : Option Addr} {es : List El} {S : List Int} {wk : List (List Int × Nat)}
theorem GInv.next (h : GInv w wr m N g A c es S wk) (hb : Below wr.heap.size wr w') : GInv w w' m N g A c es S wk :=
  ⟨lo_trans h.low hb, h.buf.next hb, h.els, fun e he => (h.keep e he).next hb, h.steps.next hb, h.is_, h.ne, h.lo⟩
theorem Keep.grownS {w w' : World} {base g : Nat} {e : El} (h : Keep w base e) (hne : e.A ≠ some (⟨g, 0, none⟩ : Addr)) (hg : w.grownBy w' (some g)) (hb : base ≤ g) : Keep w' base e := by
  refine ⟨h.1, ?_⟩
  rcases h.2 with ⟨h1, b, off, h2, h3, h4⟩ | h
  · have hkb : KB b w w' := KB.of_grown hg h4 (fun e => by injection e; omega)
    rw [h2] at h1 ⊢
    exact .inl ⟨h1.kb h4 hkb, b, off, rfl, h3, Nat.lt_of_lt_of_le h4 hg.size⟩
  · exact .inr (h.grown hg (fun q hq e => by cases e; exact hne hq))
theorem Own.blkAt {w : World} {lo g n : Nat} {xs : List Int} (h : Own w lo (some ⟨g, 0, none⟩) n xs) (hn : 0 < n) : ∃ cs, Blk w g 3 cs := by
  obtain ⟨g', cs, e, _, hb, _⟩ := h.2 hn
  cases e
  exact ⟨cs, hb⟩
theorem BufI.ne_int {w : World} {base c gS : Nat} {A : Option Addr} {es : List El} {cs : Array Value} (h : BufI w base A c es) (hb : Blk w gS 3 cs) : ∀ g, A = some ⟨g, 0, none⟩ → some gS ≠ some g := by
  rintro g rfl e
  cases e
  rcases h.form with ⟨e', _⟩ | ⟨g', cs', e', _, hb', _⟩
  · cases e'
  · cases e'
    exact not_int_img hb' _ hb
/-- a step is noted, then the image is put at the end of the work -/
theorem GInv.add {w w8 w10 : World} {m N g c c2 cf d : Nat} {dv : Int} (hdv : dv = (d : Int)) {A Af : Option Addr} {es : List El} {S : List Int} {wk : List (List Int × Nat)} {z : List Int} {bx : Obj} {gB : Nat} (hG : GInv w w8 m N g A c es S wk) (hz : keyN m z < N) (hn : ∀ e ∈ wk, keyN m e.1 ≠ keyN m z)
    (hB : BufI w10 w.heap.size (some ⟨gB, 0, none⟩) c2 (es ++ [⟨(m : Int), Af, cf, z⟩])) (hg10 : ((w8.setCell ⟨g, keyN m z, none⟩ (.int .i64 dv)).alloc bx).grownBy w10 (rowA A)) (hkp : Keep w8 w.heap.size ⟨(m : Int), Af, cf, z⟩) (hAf : Af ≠ some (⟨g, 0, none⟩ : Addr)) :
    GInv w w10 m N g (some ⟨gB, 0, none⟩) c2 (es ++ [⟨(m : Int), Af, cf, z⟩]) (S.set (keyN m z) (d : Int)) (wk ++ [(z, d)]) ∧ (∀ f : El, f.A ≠ some (⟨g, 0, none⟩ : Addr) → Keep w8 w.heap.size f → Keep w10 w.heap.size f) := by
  subst hdv
  obtain ⟨_, hzS, _, _, hset⟩ := hG.steps.cellSet (k := keyN m z) hz
  obtain ⟨cs, hcs⟩ := hG.steps.blkAt (by omega)
  have hs := hset (d : Int)
  have hgs : w8.grownBy (w8.setCell ⟨g, keyN m z, none⟩ (.int .i64 (d : Int))) (some g) := grown_set _
  have hbuf8 := hG.buf.kept hgs (hG.buf.ne_int hcs)
  have hbuf9 := hbuf8.next (lo_alloc (Below.refl _ _) bx)
  have hrowB : ∀ q, rowA A = some q → w.heap.size ≤ q ∧ q < ((w8.setCell ⟨g, keyN m z, none⟩ (.int .i64 (d : Int))).alloc bx).heap.size := rowA_lt hbuf9
  have hrowC : ∀ q, rowA A = some q → ∀ cs, ¬ Blk ((w8.setCell ⟨g, keyN m z, none⟩ (.int .i64 (d : Int))).alloc bx) q 3 cs := by
    intro q hq cs' hb'
    rcases hbuf9.form with ⟨rfl, _⟩ | ⟨g', cs2, rfl, _, hb2, _⟩
    · simp [rowA] at hq
    · simp [rowA] at hq
      subst hq
      exact not_int_img hb2 _ hb'
  have hkeep : ∀ f : El, f.A ≠ some (⟨g, 0, none⟩ : Addr) → Keep w8 w.heap.size f → Keep w10 w.heap.size f := fun f hne h =>
    ((h.grownS hne hgs hG.lo).next (lo_alloc (Below.refl _ _) bx)).grown hg10 (fun q hq => ⟨(hrowB q hq).1, hrowC q hq⟩)
  refine ⟨⟨?_, hB, ?_, ?_, ?_, hG.is_.add d hz hn, ?_, hG.lo⟩, hkeep⟩
  · exact lo_grown (lo_alloc (lo_grown hG.low hgs (by rintro q ⟨⟩; exact hG.lo)) bx) hg10 (fun q hq => (hrowB q hq).1)
  · rw [List.map_append]; exact hG.els.snoc _ _ _
  · intro e he
    rcases List.mem_append.1 he with he | he
    · exact hkeep e (hG.ne e he) (hG.keep e he)
    · obtain rfl := List.mem_singleton.1 he
      exact hkeep _ hAf hkp
  · refine (hs.alloc bx).grown hg10 (fun q hq hr => ?_)
    cases hq
    obtain ⟨cs3, h3⟩ := (hs.alloc bx).blkAt (by omega)
    exact hrowC _ hr cs3 h3
  · intro e he
    rcases List.mem_append.1 he with he | he
    · exact hG.ne e he
    · obtain rfl := List.mem_singleton.1 he
      exact hAf
end

set_option maxHeartbeats 8000000 in
theorem l43Steps_c (m n c : Nat) (A : Option Addr) (xs : List Int) (w : World) (hr : Rd w A n xs) (hk : okB (m : Int) xs = true) (hc : n * m ≤ 16) :
    Calls Try.prog 24 #[.agg #[.int .i64 (m : Int), .slice A n c]] w fun e w' => ∃ (g cc : Nat) (S : List Int), e = .returned (.tuple #[.slice (some ⟨g, 0, none⟩) (2 ^ (n * m)) cc, .int .i64 ((reach m xs).length : Int)]) ∧ Below w.heap.size w w' ∧
      Own w' w.heap.size (some ⟨g, 0, none⟩) (2 ^ (n * m)) S ∧ StepsIs S m (2 ^ (n * m)) (reach m xs) := by
  have hbd := okB_bd hk
  rw [hr.1] at hbd
  have hk' := Lib.hid hk
  have hkey := keyN_bd hk
  rw [hr.1] at hkey
  have hN16 : 2 ^ (n * m) ≤ 2 ^ 16 := Nat.pow_le_pow_right (by omega) hc
  obtain ⟨N, hN⟩ : ∃ N, N = 2 ^ (n * m) := ⟨_, rfl⟩
  rw [← hN] at hkey hN16 ⊢
  have hpow : ∀ w : World, Calls Try.prog 45 #[.int .i64 ((n : Int) * (m : Int))] w fun e w' => e = .returned (.int .i64 (N : Int)) ∧ w = w' := fun w => by
    rw [hN]; exact l1Power_n n m w (by omega)
  have hpow' := Lib.hid hpow
  have hN' := Lib.hid hN
  have hmul1 : (0 : Int) ≤ (n : Int) * (m : Int) := by
    have e : (n : Int) * (m : Int) = ((n * m : Nat) : Int) := by simp
    omega
  have hmul2 : (n : Int) * (m : Int) ≤ 16 := by
    have e : (n : Int) * (m : Int) = ((n * m : Nat) : Int) := by simp
    omega
  clear hk hN hpow
  have hK0 := (Blk.new w 27 #[.int .i64 (m : Int), .slice A n c]).alloc (.cells #[] 3)
  have hB0 := lo_alloc (lo_alloc (Below.refl w.heap.size w) (.cells #[.int .i64 (m : Int), .slice A n c] 27)) (.cells #[] 3)
  have hS0 : Buf ((w.alloc (.cells #[.int .i64 (m : Int), .slice A n c] 27)).alloc (.cells #[] 3)) (w.heap.size + 1) (some ⟨w.heap.size + 1, 0, none⟩) 0 [] := by
    have := Buf.lit (w.alloc (.cells #[.int .i64 (m : Int), .slice A n c] 27)) (w.heap.size + 1) [] (by simp) (Nat.zero_le _)
    simpa [ints] using this
  have hz0 : w.heap.size + 1 ≤ ((w.alloc (.cells #[.int .i64 (m : Int), .slice A n c] 27)).alloc (.cells #[] 3)).heap.size := by simp
  go_enter Try.func24, Try.ntmps24
  go_wp2
  go_loopw [4, 5] (fun v i wr => ∃ (k : Nat) (A' : Option Addr) (c' : Nat), k ≤ N ∧ i = .int .i64 k ∧ v = .slice A' k c' ∧ Buf wr (w.heap.size + 1) A' c' (List.replicate k (-1)) ∧ Below w.heap.size w wr ∧ Blk wr w.heap.size 27 #[.int .i64 (m : Int), .slice A n c] ∧ w.heap.size + 1 ≤ wr.heap.size) (fun _ i _ => N - (intOf i).toNat)
  case atStart => exact ⟨0, _, 0, Nat.zero_le _, rfl, rfl, hS0, hB0, hK0, hz0⟩
  case round =>
    clear hS0 hB0 hK0 hz0
    obtain ⟨k, A', c', hkN, rfl, rfl, hBf, hB, hK, hsz⟩ := hrel
    have a0 := hK.cell 0
    have a1 := hK.cell 1
    go_wp2_with fail
    refine (hpow'.out _).mono ?_
    rintro e w' ⟨rfl, rfl⟩
    by_cases hlt : k < N
    · have hB3 : Buf (wr.alloc (.cells #[.int .i64 (-1)] 3)) (w.heap.size + 1) A' c' (List.replicate k (-1)) := hBf.next (by (repeat (first | exact Below.refl _ _ | assumption | refine lo_alloc ?_ _ | refine lo_set ?_ (by simp; try omega) _ | refine Below.drew ?_ | refine below_drewN ?_ _ | refine lo_trans ?_ (by assumption) | refine lo_wr ?_ (by assumption) (by omega))))
      have hW3 : Below w.heap.size w (wr.alloc (.cells #[.int .i64 (-1)] 3)) := lo_alloc hB _
      have hK3 := hK.alloc (.cells #[.int .i64 (-1)] 3)
      have hs3 : w.heap.size + 1 ≤ (wr.alloc (.cells #[.int .i64 (-1)] 3)).heap.size := by simp; omega
      have hrd : Rd (wr.alloc (.cells (ints [-1]) 3)) (some ⟨wr.heap.size, 0, none⟩) 1 [-1] := Rd.of_blk (Blk.new _ _ _)
      have hlen : Hid (k = (List.replicate k (-1 : Int)).length) := Lib.hid (by simp)
      have hsn : Hid (List.replicate k (-1 : Int) ++ [-1] = List.replicate (k + 1) (-1)) := Lib.hid (by rw [List.replicate_succ']) 
      have hBk := rowA_ge hB3
      clear hBf hB hK a0 a1
      go_wp2_with (at_builtin; refine (wpl_append rfl _ _ rfl (w.heap.size + 1) A' c' k _ rfl hlen.out hB3 _ 1 1 [-1] rfl hrd (by omega) (by omega) hs3 ?_); intro g c4 w4 hB4 hg4 hat)
      rw [hsn.out] at hB4
      go_roundw
      case rel => exact ⟨k + 1, _, c4, by omega, by go_num, rfl, hB4, lo_grown hW3 hg4 (fun g hg => by have := hBk g hg; omega), hK3.grown hg4 (fun e => by have := hBk _ e.symm; omega), Nat.le_trans hs3 hg4.size⟩
      case measure => simp [intOf]; omega
    · have hkN' : N = k := by omega
      subst hkN'
      have hOw := hBf.own
      rw [List.length_replicate] at hOw
      obtain ⟨gS, rfl⟩ : ∃ g, A' = some ⟨g, 0, none⟩ := by
        obtain ⟨g, e, _, _⟩ := (hOw.blk).resolve_left (fun h => by omega)
        exact ⟨g, e⟩
      have hRr := hr.next hB
      clear hBf
      go_wp2_with fail
      refine (l43Key_c m n c A xs wr hRr hk'.out hc).mono ?_
      rintro e w1 ⟨rfl, hb1⟩
      have hO1 := hOw.next hb1
      have hK1 := hK.next hb1
      have hB1 := lo_trans hB hb1
      have hsz1 : w.heap.size + 1 ≤ w1.heap.size := Nat.le_trans hsz hb1.size
      clear hOw hK hB hRr hb1 a0 a1 hsz
      obtain ⟨hgS, hzS, hcS, hfS, hset⟩ := hO1.cellSet (k := keyN m xs) hkey
      have hset' := Lib.hid (hset 0)
      have a0 := hK1.cell 0
      have a1 := hK1.cell 1
      have hSI := Lib.hid (StepsIs.start (m := m) (xs := xs) hkey)
      have hq0 : (0 : Int) ≤ ((keyN m xs : Nat) : Int) := by omega
      have hq1 : ((keyN m xs : Nat) : Int) < (N : Int) := by omega
      have hneb : w.heap.size ≠ gS := by omega
      have hK2 := hK1.far (p := ⟨gS, keyN m xs, none⟩) hneb (.int .i64 0)
      have hB2 := lo_set hB1 (p := ⟨gS, keyN m xs, none⟩) (by simp; omega) (.int .i64 0)
      have b0 := hK2.cell 0
      have b1 := hK2.cell 1
      clear hset hO1 hK1
      go_wp2
      have hG0 : GInv w ((w1.setCell ⟨gS, keyN m xs, none⟩ (.int .i64 0)).alloc (.cells #[.int .i64 (m : Int), .slice A n c] 27)) m N gS (some ⟨w1.heap.size, 0, none⟩) 1 [⟨(m : Int), A, c, xs⟩] ((List.replicate N (-1 : Int)).set (keyN m xs) 0) (bfs m xs 0) := by
        obtain ⟨b, off, eA, hbA, _⟩ := hr.2 (by omega)
        have hlow := lo_alloc hB2 (.cells #[.int .i64 (m : Int), .slice A n c] 27)
        refine ⟨hlow, ?_, ⟨rfl, fun e he => by obtain rfl := List.mem_singleton.1 he; rfl⟩, fun e he => ?_, (hset'.out.alloc _).mono (by omega), hSI.out, fun e he => ?_, by omega⟩
        · refine ⟨rfl, .inr ⟨w1.heap.size, 1, #[.int .i64 (m : Int), .slice A n c], rfl, by omega, ?_, Nat.le_refl _, by unfold maxLen; omega, rfl, ?_⟩⟩
          · have := Blk.new (w1.setCell ⟨gS, keyN m xs, none⟩ (.int .i64 0)) 27 #[.int .i64 (m : Int), .slice A n c]
            rw [size_setCell] at this; exact this
          · simp [elCells, El.cells, hr.1]
        · obtain rfl := List.mem_singleton.1 he
          exact ⟨by show 0 < xs.length; rw [hr.1]; omega, .inl ⟨by show Rd _ A xs.length xs; rw [hr.1]; exact hr.next hlow, b, off, eA, hbA, Nat.lt_of_lt_of_le hbA hlow.size⟩⟩
        · obtain rfl := List.mem_singleton.1 he
          show A ≠ _
          rw [eA]; intro e; cases e; omega
      clear hB2 hK2 b0 b1 a0 a1 hset' hcS hfS hzS hB1 hq0 hq1
      go_loopw [6, 7] (fun v i wr => ∃ (k : Nat) (A' : Option Addr) (c' : Nat) (es : List El) (S : List Int), k ≤ (bfs m xs k).length ∧ i = .int .i64 k ∧ v = .slice A' es.length c' ∧ GInv w wr m N gS A' c' es S (bfs m xs k)) (fun _ i _ => N - (intOf i).toNat)
      case atStart => exact ⟨0, _, 1, [⟨(m : Int), A, c, xs⟩], _, Nat.zero_le _, rfl, rfl, hG0⟩
      case round =>
        clear hG0
        obtain ⟨k, A', c', es, S, hkL, rfl, rfl, hG⟩ := hrel
        have hel : es.length = (bfs m xs k).length := by rw [hG.els.len, List.length_map]
        have hLN : (bfs m xs k).length ≤ N := by rw [hN'.out, ← hr.1]; exact bfs_len hk'.out k
        by_cases hlt : k < es.length
        · obtain ⟨e0, he0⟩ : ∃ e, es[k]? = some e := ⟨es[k], List.getElem?_eq_getElem hlt⟩
          obtain ⟨e1, e2⟩ := hG.els.at_ he0
          obtain ⟨⟨z0, d0⟩, hcur, hx0⟩ : ∃ e, (bfs m xs k)[k]? = some e ∧ e.1 = e0.xs := by
            rw [List.getElem?_map, Option.map_eq_some_iff] at e2
            exact e2
          obtain ⟨gW, rfl⟩ := hG.buf.addr.resolve_left (by
            rintro rfl
            rcases hG.buf.form with ⟨_, h0⟩ | ⟨_, _, e', _⟩
            · rw [h0] at hlt; simp at hlt
            · cases e')
          obtain ⟨bW, oW, eW, hbl, p0, p1, hRz⟩ := (hG.buf.rd (fun e he => (hG.keep e he).rd)).at_ hlt he0
          cases eW
          obtain ⟨W0, A0, c0, x0⟩ := e0
          dsimp only at hx0 e1 e2 p0 p1 hRz
          subst hx0; subst e1
          rw [Nat.zero_add, Nat.mul_comm 2] at p0 p1
          have hmem : (z0, d0) ∈ bfs m xs k := List.mem_of_getElem? hcur
          have hok := path_ok hk'.out ((bfs_inv m xs k).1.path _ hmem)
          have hzl : z0.length = n := hok.2.trans hr.1
          have hok' := Lib.hid hok.1
          have hd0 : d0 ≤ k := bfs_dist m xs k _ hmem
          have hcur' := Lib.hid hcur
          have hzl' := Lib.hid hzl
          have hmem' := Lib.hid hmem
          have he0' := Lib.hid he0
          have hel' := Lib.hid hel
          have hki : (k : Int) < (es.length : Int) := by omega
          have hki0 : (0 : Int) ≤ (k : Int) := by omega
          have hzl2 : z0.length ≤ 6 := by omega
          have hkN : k < N := by omega
          have hesN : es.length ≤ N := by omega
          clear hmem hok hcur hzl he0 e2 hel
          go_wp2_with fail
          refine (spec_ImageNeighbors_c (m : Int) A0 z0.length c0 z0 wr hRz (by omega)).mono ?_
          rintro e w5 ⟨R, cR, fs, rfl, hb5, hI5, hE5⟩
          have hnW : nbrsW (m : Int) z0 = nbrs m z0 := by simp [nbrsW, hok'.out]
          rw [hnW] at hE5
          have hE5' := Lib.hid hE5
          have hfl : fs.length < 1600 := by rw [hE5.len, ← hnW]; exact nbrsW_len _ _
          have hfy := Lib.hid (show ∀ z ∈ nbrs m z0, okB (m : Int) z = true ∧ z.length = n from fun z hz => by have := nbrs_ok hok'.out hz; exact ⟨this.1, by rw [this.2]; exact hzl'.out⟩)
          have hG5 := hG.next hb5
          have h45 : wr.heap.size ≤ w5.heap.size := hb5.size
          have hlow4 := hG.low.size
          have hgS4 : gS < wr.heap.size := (hG.steps.cellSet (k := 0) (by omega)).2.1
          have hbufR := hI5.buf
          have hgR := hI5.buf.lt
          have hkeepR : ∀ f ∈ fs, Keep w5 w.heap.size f := fun f hf => ⟨(hI5.rows f hf).2, .inr ((hI5.rows f hf).1.mono hlow4)⟩
          have hneR : Hid (∀ f ∈ fs, f.A ≠ some (⟨gS, 0, none⟩ : Addr)) := Lib.hid (fun f hf e => by
            obtain ⟨q, eq, h1, h2⟩ := ((hI5.rows f hf).1.blk).resolve_left (fun h => by have := (hI5.rows f hf).2; omega)
            rw [e] at eq; cases eq; omega)
          clear p0 p1 hRz hG hb5 hI5 hE5 hnW
          obtain ⟨wo, rfl⟩ : ∃ wo : World, wo = wr := ⟨_, rfl⟩
          go_wp2
          go_loopw [6, 9] (fun v i wr => ∃ (j : Nat) (A' : Option Addr) (c' : Nat) (es : List El) (S : List Int), j ≤ fs.length ∧ i = .int .i64 j ∧ v = .slice A' es.length c' ∧ GInv w wr m N gS A' c' es S (bAdd (d0 + 1) (bfs m xs k) ((nbrs m z0).take j)) ∧ Hid (es[k]? = some ⟨(m : Int), A0, c0, z0⟩) ∧
              BufI wr wo.heap.size R cR fs ∧ Hid (∀ f ∈ fs, Keep wr w.heap.size f) ∧ Hid (∀ g, A' = some (⟨g, 0, none⟩ : Addr) → g < wo.heap.size ∨ w5.heap.size ≤ g) ∧ w5.heap.size ≤ wr.heap.size) (fun _ i _ => fs.length - (intOf i).toNat)
          case atStart => exact ⟨0, _, _, es, S, Nat.zero_le _, rfl, rfl, hG5, he0', hbufR, Lib.hid hkeepR, Lib.hid (by rintro g ⟨⟩; exact .inl hbl), Nat.le_refl _⟩
          case round =>
            clear hG5 hbufR hkeepR
            obtain ⟨j, A1, c1, es1, S1, hj, rfl, rfl, hG1, hek, hbR, hkR, hgA, hsz5⟩ := hrel
            by_cases hlt2 : j < fs.length
            · obtain ⟨f, hf⟩ : ∃ f, fs[j]? = some f := ⟨fs[j], List.getElem?_eq_getElem hlt2⟩
              obtain ⟨gR, rfl⟩ := hbR.addr.resolve_left (by
                rintro rfl
                rcases hbR.form with ⟨_, h0⟩ | ⟨_, _, e', _⟩
                · rw [h0] at hlt2; simp at hlt2
                · cases e')
              have hgR' := hgR gR rfl
              have hmf := List.mem_of_getElem? hf
              have hkf := hkR.out f hmf
              have hnef := Lib.hid (hneR.out f hmf)
              obtain ⟨e1, e2⟩ := hE5'.out.at_ hf
              obtain ⟨bR, oR, eR, hbl2, p0, p1, hRf⟩ := (hbR.rd (fun e he => (hkR.out e he).rd)).at_ hlt2 hf
              cases eR
              have hgW := hG1.buf.addr.resolve_left (by
                rintro rfl
                rcases hG1.buf.form with ⟨_, h0⟩ | ⟨_, _, e', _⟩
                · have h1 := hek.out; rw [h0] at h1; simp at h1
                · cases e')
              obtain ⟨gW1, rfl⟩ := hgW
              have hkl : k < es1.length := (List.getElem?_eq_some_iff.1 hek.out).1
              obtain ⟨bW1, oW1, eW1, hbl3, q0, q1, hRz⟩ := (hG1.buf.rd (fun e he => (hG1.keep e he).rd)).at_ hkl hek.out
              cases eW1
              obtain ⟨Wf, Af, cf, zf⟩ := f
              dsimp only at e1 e2 p0 p1 hRf q0 q1 hRz
              subst e1
              rw [Nat.zero_add, Nat.mul_comm 2] at p0 p1 q0 q1
              have hzf := hfy.out zf (List.mem_of_getElem? e2)
              have hzfm : zf.length * m ≤ 16 := by rw [hzf.2]; exact hc
              have hz0m : z0.length * m ≤ 16 := by rw [hzl'.out]; exact hc
              obtain ⟨wk, hwk⟩ : ∃ wk, wk = bAdd (d0 + 1) (bfs m xs k) ((nbrs m z0).take j) := ⟨_, rfl⟩
              have hN2 := Lib.hid (show bAdd (d0 + 1) (bfs m xs k) ((nbrs m z0).take (j + 1)) = bAdd1 (d0 + 1) wk zf by rw [bAdd_take e2, hwk])
              rw [← hwk] at hG1
              have hokw : ∀ e ∈ wk, okB (m : Int) e.1 = true ∧ e.1.length = n := by
                intro e he
                rw [hwk] at he
                rcases bAdd_mem he with he | he
                · have := path_ok hk'.out ((bfs_inv m xs k).1.path _ he)
                  exact ⟨this.1, this.2.trans hr.1⟩
                · exact hfy.out _ (List.mem_of_mem_take he)
              have hkeyf : keyN m zf < N := by rw [hN'.out, ← hzf.2]; exact keyN_bd hzf.1
              have hkey0 : keyN m z0 < N := by rw [hN'.out, ← hzl'.out]; exact keyN_bd hok'.out
              have hneg := hG1.is_.neg hokw hzf.1 hzf.2 hkeyf
              have hz0w : (z0, d0) ∈ wk := by
                rw [hwk]
                have : ∀ (zs : List (List Int)) (u : List (List Int × Nat)), (z0, d0) ∈ u → (z0, d0) ∈ bAdd (d0 + 1) u zs := by
                  intro zs
                  induction zs with
                  | nil => intro u h; exact h
                  | cons z zs ih =>
                    intro u h
                    refine ih (bAdd1 (d0 + 1) u z) ?_
                    unfold bAdd1
                    split
                    · exact h
                    · exact List.mem_append_left _ h
                exact this _ _ hmem'.out
              have hsv0 := hG1.is_.2.1 _ hz0w
              dsimp only at hsv0
              have hun := Lib.hid (fun h => seen_key hokw hzf.1 hzf.2 h)
              have hji : (j : Int) < (fs.length : Int) := by omega
              have hji0 : (0 : Int) ≤ (j : Int) := by omega
              have hkel : (k : Int) < (es1.length : Int) := by omega
              have hkf0 : (0 : Int) ≤ ((keyN m zf : Nat) : Int) := by omega
              have hkf1 : ((keyN m zf : Nat) : Int) < (N : Int) := by omega
              have hk00 : (0 : Int) ≤ ((keyN m z0 : Nat) : Int) := by omega
              have hk01 : ((keyN m z0 : Nat) : Int) < (N : Int) := by omega
              have hokf := Lib.hid hzf.1
              have hes1 : es1.length + 1 ≤ 1048576 := by
                have h1 := hG1.els.len
                have h2 := bAdd_len (d0 + 1) ((nbrs m z0).take j) (bfs m xs k)
                rw [← hwk] at h2
                have h3 : ((nbrs m z0).take j).length ≤ 1600 := by
                  have := hE5'.out.len
                  simp; omega
                rw [List.length_map] at h1
                omega
              have hz0w' := Lib.hid hz0w
              clear hf hmf hwk e2 hokw hzf hz0w
              go_wp2_with fail
              refine (l43Key_c m zf.length cf Af zf wr hRf hokf.out hzfm).mono ?_
              rintro e w7 ⟨rfl, hb7⟩
              have hG7 := hG1.next hb7
              have hs7 := hb7.size
              have hbR7 := hbR.next hb7
              have hkR7 := Lib.hid (fun f hf => (hkR.out f hf).next hb7)
              have hkf7 := hkf.next hb7
              have hRf7 := hRf.next hb7
              have hRz7 := hRz.next hb7
              have p0' := (hb7.cell (p := ⟨gR, j * 2, none⟩) hbl2).trans p0
              have p1' := (hb7.cell (p := ⟨gR, j * 2 + 1, none⟩) hbl2).trans p1
              have q0' := (hb7.cell (p := ⟨gW1, k * 2, none⟩) hbl3).trans q0
              have q1' := (hb7.cell (p := ⟨gW1, k * 2 + 1, none⟩) hbl3).trans q1
              have lR : gR < w7.heap.size := by omega
              have lW : gW1 < w7.heap.size := by omega
              obtain ⟨_, hzS, hcS, hfS, _⟩ := hG7.steps.cellSet (k := keyN m zf) hkeyf
              obtain ⟨_, _, hc0, _, _⟩ := hG7.steps.cellSet (k := keyN m z0) hkey0
              rw [hsv0] at hc0
              clear p0 p1 q0 q1 hG1 hbR hkR hkf hRf hRz hb7 hbl2 hbl3 hsv0
              generalize S1[keyN m zf]?.getD 0 = sv at hcS hneg
              cases hs : seen wk zf with
              | true =>
                have hnn : ¬ (sv < 0) := by rw [hs] at hneg; simpa using hneg
                have hN3 := Lib.hid (show bAdd (d0 + 1) (bfs m xs k) ((nbrs m z0).take (j + 1)) = wk by rw [hN2.out, bAdd1, hs, if_pos rfl])
                clear hs hneg
                go_wp2
                go_roundw
                case rel => exact ⟨j + 1, _, c1, es1, S1, by omega, by go_num, rfl, by rw [hN3.out]; exact hG7, hek, hbR7, hkR7, hgA, by omega⟩
                case measure => simp [intOf]; omega
              | false =>
                have hnn : sv < 0 := by rw [hs] at hneg; simpa using hneg
                have hN3 := Lib.hid (show bAdd (d0 + 1) (bfs m xs k) ((nbrs m z0).take (j + 1)) = wk ++ [(zf, d0 + 1)] by rw [hN2.out, bAdd1, hs, if_neg (by simp)])
                have hun2 := Lib.hid (hun.out hs)
                have hkne : keyN m z0 ≠ keyN m zf := hun2.out _ hz0w'.out
                obtain ⟨csS, hcsS⟩ := hG7.steps.blkAt (by omega)
                have hneR2 : gR ≠ gS := fun e => hbR7.ne_int hcsS gR rfl (by rw [e])
                have hneW2 : gW1 ≠ gS := fun e => hG7.buf.ne_int hcsS gW1 rfl (by rw [e])
                have hneR3 := Lib.hid hneR2; have hneW3 := Lib.hid hneW2; have hkne2 := Lib.hid hkne
                have hnA := Lib.hid (show ∀ o, (⟨gS, keyN m zf, none⟩ : Addr) ≠ ⟨gR, o, none⟩ from fun o e => hneR2 (congrArg Addr.block e).symm)
                have hnB := Lib.hid (show ∀ o, (⟨gS, keyN m zf, none⟩ : Addr) ≠ ⟨gW1, o, none⟩ from fun o e => hneW2 (congrArg Addr.block e).symm)
                have hnC := Lib.hid (show (⟨gS, keyN m zf, none⟩ : Addr) ≠ ⟨gS, keyN m z0, none⟩ from fun e => hkne (congrArg Addr.off e).symm)
                have hcsS3 := Lib.hid hcsS
                have wr1 : IntKind.i64.wrap ((d0 : Int) + 1) = (d0 : Int) + 1 := IntWalk.i64_in _ (by omega)
                clear hneR2 hneW2 hkne hcsS
                clear hs hneg
                go_wp2
                go_region_held3 (fun w' => w'.cell? ⟨gR, j * 2, none⟩ = some (.int .i64 (m : Int)) ∧ w'.cell? ⟨gR, j * 2 + 1, none⟩ = some (.slice Af zf.length cf) ∧ w'.cell? ⟨gW1, k * 2, none⟩ = some (.int .i64 (m : Int)) ∧ w'.cell? ⟨gW1, k * 2 + 1, none⟩ = some (.slice A0 z0.length c0) ∧
                    w'.cell? ⟨gS, keyN m z0, none⟩ = some (.int .i64 (d0 : Int)))
                  (first
                    | go_keep
                    | exact ⟨(Below.cell (p := ⟨gR, j * 2, none⟩) hbL2 lR).trans p0', (Below.cell (p := ⟨gR, j * 2 + 1, none⟩) hbL2 lR).trans p1', (Below.cell (p := ⟨gW1, k * 2, none⟩) hbL2 lW).trans q0', (Below.cell (p := ⟨gW1, k * 2 + 1, none⟩) hbL2 lW).trans q1', (Below.cell (p := ⟨gS, keyN m z0, none⟩) hbL2 hzS).trans hc0⟩
                    | exact ⟨(Below.cell (p := ⟨gR, j * 2, none⟩) hbL lR).trans p0', (Below.cell (p := ⟨gR, j * 2 + 1, none⟩) hbL lR).trans p1', (Below.cell (p := ⟨gW1, k * 2, none⟩) hbL lW).trans q0', (Below.cell (p := ⟨gW1, k * 2 + 1, none⟩) hbL lW).trans q1', (Below.cell (p := ⟨gS, keyN m z0, none⟩) hbL hzS).trans hc0⟩
                    | exact ⟨(World.cell?_setCell_other _ _ _ _ (hnA.out _)).trans ((Below.cell (p := ⟨gR, j * 2, none⟩) hbL2 lR).trans p0'), (World.cell?_setCell_other _ _ _ _ (hnA.out _)).trans ((Below.cell (p := ⟨gR, j * 2 + 1, none⟩) hbL2 lR).trans p1'), (World.cell?_setCell_other _ _ _ _ (hnB.out _)).trans ((Below.cell (p := ⟨gW1, k * 2, none⟩) hbL2 lW).trans q0'), (World.cell?_setCell_other _ _ _ _ (hnB.out _)).trans ((Below.cell (p := ⟨gW1, k * 2 + 1, none⟩) hbL2 lW).trans q1'), (World.cell?_setCell_other _ _ _ _ hnC.out).trans ((Below.cell (p := ⟨gS, keyN m z0, none⟩) hbL2 hzS).trans hc0)⟩)
                  (first
                    | (have hz1 := hbz
                       go_at_call 30
                       refine (l43Key_c m z0.length c0 A0 z0 _ (hRz7.next hbL) hok'.out hz0m).mono ?_
                       rintro e wy ⟨rfl, hby⟩
                       have hbL2 : Below w7.heap.size w7 wy := lo_trans hbL hby
                       have cL := (hbL2.cell (p := ⟨gS, keyN m zf, none⟩) hzS).trans hcS
                       have fL := (hbL2.frozen (p := ⟨gS, keyN m zf, none⟩) hzS).trans hfS)
                    | (go_at_call 30
                       refine (l43Key_c m zf.length cf Af zf _ hRf7.drew hokf.out hzfm).mono ?_
                       rintro e wz ⟨rfl, hbz⟩
                       have hbL : Below w7.heap.size w7 wz := lo_trans (Below.drew (Below.refl w7.heap.size w7)) hbz))
                have hG9 := hG7.next hbL2
                have hkf9 := hkf7.next hbL2
                have hd1 := Lib.hid (show (d0 : Int) + 1 = ((d0 + 1 : Nat) : Int) by omega)
                obtain ⟨csY, hcsY⟩ := hG9.steps.blkAt (by omega)
                have hgs9 : wy.grownBy (wy.setCell ⟨gS, keyN m zf, none⟩ (.int .i64 ((d0 : Int) + 1))) (some gS) := grown_set _
                have hbuf9 := (hG9.buf.kept hgs9 (hG9.buf.ne_int hcsY)).next (lo_alloc (Below.refl _ _) (.cells #[.int .i64 (m : Int), .slice Af zf.length cf] 27))
                have hbR9 := ((hbR7.next hbL2).kept hgs9 ((hbR7.next hbL2).ne_int hcsY)).next (lo_alloc (Below.refl _ _) (.cells #[.int .i64 (m : Int), .slice Af zf.length cf] 27))
                have hsy := hbL2.size
                have hblk9 := Blk.new (wy.setCell ⟨gS, keyN m zf, none⟩ (.int .i64 ((d0 : Int) + 1))) 27 #[.int .i64 (m : Int), .slice Af zf.length cf]
                rw [size_setCell] at hblk9
                obtain ⟨gB, c2, w10, hap, hB10, hg10, hat⟩ := appendI_run ((wy.setCell ⟨gS, keyN m zf, none⟩ (.int .i64 ((d0 : Int) + 1))).alloc (.cells #[.int .i64 (m : Int), .slice Af zf.length cf] 27)) w.heap.size (some ⟨gW1, 0, none⟩) c1 es1.length es1 rfl hbuf9 wy.heap.size 1 ⟨(m : Int), Af, cf, zf⟩ hblk9 hes1 (by simp; omega) 37
                have hbR10 : BufI w10 wo.heap.size (some ⟨gR, 0, none⟩) cR fs := hbR9.kept hg10 (by
                  rintro q ⟨⟩ e
                  simp [rowA] at e
                  have := hgA.out _ rfl
                  omega)
                obtain ⟨hadd, hkk⟩ := GInv.add (d := d0 + 1) hd1.out hG9 hkeyf hun2.out hB10 hg10 hkf9 hnef.out
                have hkR10 := Lib.hid (fun f hf => hkk f (hneR.out f hf) ((hkR7.out f hf).next hbL2))
                have hs10 := hg10.size
                have hgA10 := Lib.hid (show ∀ g, some (⟨gB, 0, none⟩ : Addr) = some (⟨g, 0, none⟩ : Addr) → g < wo.heap.size ∨ w5.heap.size ≤ g from fun g1 e => by
                  rcases hat with h2 | h2
                  · rw [e] at h2; exact hgA.out _ h2
                  · cases e; simp at h2; omega)
                have hfin : w5.heap.size ≤ w10.heap.size := by simp at hs10; omega
                have hek10 := Lib.hid (show (es1 ++ [(⟨(m : Int), Af, cf, zf⟩ : El)])[k]? = some ⟨(m : Int), A0, c0, z0⟩ by rw [List.getElem?_append_left (by omega)]; exact hek.out)
                have r0 := (World.cell?_setCell_other _ _ _ (.int .i64 ((d0 : Int) + 1)) (hnA.out (j * 2))).trans ((Below.cell (p := ⟨gR, j * 2, none⟩) hbL2 lR).trans p0')
                have r1 := (World.cell?_setCell_other _ _ _ (.int .i64 ((d0 : Int) + 1)) (hnA.out (j * 2 + 1))).trans ((Below.cell (p := ⟨gR, j * 2 + 1, none⟩) hbL2 lR).trans p1')
                clear p0' p1' q0' q1' hc0 hcS hfS cL fL hbL2 hbuf9 hbR9 hkf7 hRf7 hRz7 hbR7 hkR7 hG7 hG9 hkf9 hblk9 hcsY hs10
                go_wp2_with (refine wpl_append_run (o := ⟨some 79, _, _, _, _, _⟩) rfl (.tmp 73) (.tmp 78) 37 rfl _ _ _ rfl rfl hap ?_)
                go_roundw
                case rel => exact ⟨j + 1, _, c2, es1 ++ [⟨(m : Int), Af, cf, zf⟩], _, by omega, by go_num, by simp, by rw [hN3.out]; exact hadd, hek10, hbR10, hkR10, hgA10, hfin⟩
                case measure => simp [intOf]; omega
            · have hnj : (nbrs m z0).take j = nbrs m z0 := List.take_of_length_le (by rw [← hE5'.out.len]; omega)
              have hbk : bfs m xs (k + 1) = bAdd (d0 + 1) (bfs m xs k) (nbrs m z0) := by simp [bfs, hcur'.out]
              rw [hnj, ← hbk] at hG1
              have hwl := bAdd_len (d0 + 1) (nbrs m z0) (bfs m xs k)
              rw [← hbk] at hwl
              have hk2 : k + 1 ≤ (bfs m xs (k + 1)).length := by have := hel'.out; omega
              clear hnj hbk
              go_wp2
              go_roundw
              case rel => exact ⟨k + 1, A1, c1, es1, S1, hk2, by go_num, rfl, hG1⟩
              case measure => simp [intOf]; omega
        · have hdone : Hid (bfs m xs k = reach m xs ∧ es.length = (reach m xs).length) := Lib.hid (by
            have h1 := reach_eq hk'.out (k := k) (by omega)
            exact ⟨h1, by rw [← h1]; exact hel⟩)
          clear hel
          go_wp2
          go_ret2
          refine ⟨gS, _, S, by rw [hdone.out.2]; rfl, hG.low, hG.steps, ?_⟩
          rw [← hdone.out.1]
          exact hG.is_
end Go.Proofs.Ytjogfeichnkffaa
