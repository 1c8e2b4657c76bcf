
/- Walks: an image is filled as far as it can be (FillImage), and its cells are counted (ImageMany). -/
import Derived.Test.YtkcdoacojiilaaaGreatFc
import Derived.Deep.LoopGhost
namespace Go.Proofs.YtkcdoacojiilaaaGreat
open Go.RowKit
set_option maxRecDepth 100000

theorem mkRow_none (m : Nat) : mkRow (fun _ => false) m = 0 := by
  induction m with
  | zero => rfl
  | succ m ih => rw [mkRow_step_f rfl, ih]
theorem img_none (n m : Nat) : img (fun _ _ => false) n m = List.replicate n 0 := by
  rw [img]
  apply List.ext_getElem
  · simp
  · intro i h1 h2
    simp [mkRow_none]
theorem fit_zero {n m : Nat} {rs ys : List Int} (hr : rs.length = n) (hy : ys.length = m) (hv : sV rs ys = true) : FitX n m rs ys (List.replicate n 0) := by
  obtain ⟨b1, b2, b3, b4, b5, b6⟩ := sV_out hv
  rw [hr] at b1 b2
  rw [hy] at b3 b4
  refine ⟨?_, by simp, fun i hi => ?_, fun j hj => ?_⟩
  · rw [← img_none n m]
    exact okB_img b1 b2 b3 b4
  · have e : popI (List.replicate n 0) i = 0 := by
      rw [popI, List.getElem?_replicate]
      split <;> rfl
    rw [e]
    have hi' : i < rs.length := by omega
    rw [List.getElem?_eq_getElem hi']
    exact (b5 _ (List.getElem_mem hi')).1
  · have e : ccnt (List.replicate n 0) j = 0 := by
      rw [ccnt, List.countP_eq_zero]
      intro x hx
      rw [List.eq_of_mem_replicate hx]
      simp
    rw [e]
    have hj' : j < ys.length := by omega
    rw [List.getElem?_eq_getElem hj']
    exact (b6 _ (List.getElem_mem hj')).1
/-- the image that is filled -/
def fullX (n m : Nat) (rs ys : List Int) : List Int := fillN n m rs ys (n * m) (List.replicate n 0)
theorem full_fit {n m : Nat} {rs ys : List Int} (hr : rs.length = n) (hy : ys.length = m) (hv : sV rs ys = true) : FitX n m rs ys (fullX n m rs ys) := fill_fit _ _ (fit_zero hr hy hv)
theorem full_end {n m : Nat} {rs ys : List Int} (hr : rs.length = n) (hy : ys.length = m) (hv : sV rs ys = true) : nextX n m rs ys (fullX n m rs ys) = none := fill_end _ _ (fit_zero hr hy hv) (by omega)
theorem full_most {n m : Nat} {rs ys : List Int} (hr : rs.length = n) (hy : ys.length = m) (hv : sV rs ys = true) : ((manyX n (fullX n m rs ys) : Nat) : Int) = fM rs ys (n + 1) :=
  fill_most hr hy (fun y hyy => ((sV_out hv).2.2.2.2.2 y hyy).1) (full_fit hr hy hv) (full_end hr hy hv)
theorem fillN_none {n m : Nat} {rs ys xs : List Int} (h : nextX n m rs ys xs = none) : ∀ f, fillN n m rs ys f xs = xs
  | 0 => rfl
  | f + 1 => by rw [fillN, h]

set_option maxHeartbeats 2000000 in
theorem FillImage_no (A B : Option Addr) (n m a b : Nat) (rs ys : List Int) (w : World) (hr : Rd w A n rs) (hs : Rd w B m ys) (hn : n ≤ 1000000) (hm : m ≤ 1000000) (hv : sV rs ys = false) :
    Calls Tryz.prog 5 #[.slice A n a, .slice B m b] w fun e w' => e = .returned (.tuple #[.agg #[.int .i64 0, .slice none 0 0], .bool false]) ∧ Below w.heap.size w w' := by
  have hK := Blk.new w 27 #[.int .i64 0, .slice none 0 0]
  have hL0 := lo_alloc (Below.refl w.heap.size w) (.cells #[.int .i64 0, .slice none 0 0] 27)
  have c0 := hK.cell 0
  have c1 := hK.cell 1
  have f0 := hK.frozen 0
  have f1 := hK.frozen 1
  clear hK
  go_enter Tryz.func5, Tryz.ntmps5
  go_wp2_with fail
  refine (SumsValid_c _ _ _ _ _ _ rs ys _ (hr.alloc _) (hs.alloc _) (by omega) (by omega)).mono ?_
  rw [hv]
  rintro e w' ⟨rfl, rfl⟩
  go_wp2
  exact bodyPost_ret (v := .tuple #[.agg #[.int .i64 0, .slice none 0 0], .bool false]) (by simp [results, Tryz.results5, go_sem]) rfl ⟨rfl, hL0⟩

set_option maxHeartbeats 4000000 in
theorem FillImage_c (A B : Option Addr) (n m a b : Nat) (rs ys : List Int) (w : World) (hr : Rd w A n rs) (hs : Rd w B m ys) (hv : sV rs ys = true) :
    Calls Tryz.prog 5 #[.slice A n a, .slice B m b] w fun e w' => ∃ g, e = .returned (.tuple #[.agg #[.int .i64 (m : Int), .slice (some ⟨g, 0, none⟩) n n], .bool true]) ∧ Below w.heap.size w w' ∧ Blk w' g 3 (ints (fullX n m rs ys)) ∧ w.heap.size ≤ g := by
  obtain ⟨b1, b2, b3, b4, b5, b6⟩ := sV_out hv
  rw [hr.1] at b1 b2
  rw [hs.1] at b3 b4
  clear b5 b6
  have hv' := Lib.hid hv
  have hz := Lib.hid (fit_zero hr.1 hs.1 hv)
  have hL0 := lo_alloc (Below.refl w.heap.size w) (.cells #[.int .i64 0, .slice none 0 0] 27)
  have hK0 := Blk.new w 27 #[.int .i64 0, .slice none 0 0]
  go_enter Tryz.func5, Tryz.ntmps5
  go_wp2_with fail
  refine (SumsValid_c _ _ _ _ _ _ rs ys _ (hr.alloc _) (hs.alloc _) (by omega) (by omega)).mono ?_
  rw [hv]
  rintro e w' ⟨rfl, rfl⟩
  clear hv
  go_wp2_with fail
  refine (emptyImage_c n m _ (by omega)).mono ?_
  rintro e w2 ⟨g, rfl, hb2, hk2, hg1, hg2⟩
  have hK2 := hK0.next hb2
  have hL2 := lo_trans hL0 hb2
  rw [World.size_alloc] at hg1
  have hgw : w.heap.size < g := by omega
  obtain ⟨o, ho⟩ : ∃ o, o = w2.heap.size := ⟨_, rfl⟩
  obtain ⟨w3, hw3⟩ : ∃ w3, w3 = w2.alloc (.cells #[.int .i64 m, .slice (some ⟨g, 0, none⟩) n n] 27) := ⟨_, rfl⟩
  have hI3 : WInv w w3 o g n m (List.replicate n 0) := by
    rw [hw3]
    exact ⟨lo_alloc hL2 _, hK2.alloc _, by rw [ho]; exact Blk.new _ _ _, hk2.alloc _⟩
  have hgo : g < o := by omega
  have ho3 : o < w3.heap.size := by rw [hw3, ho]; simp
  clear hk2 hK2 hL2 hL0 hK0 hb2 hg1 hg2
  go_wp2
  rw [← ho, ← hw3]
  have ho' := Lib.hid ho; clear ho
  have hw3' := Lib.hid hw3; clear hw3
  go_loopg [20] (n * m) (fun f _ wr => ∃ X : List Int, WInv w wr o g n m X ∧ Hid (FitX n m rs ys X) ∧ n * m ≤ f + manyX n X ∧ Hid (fillN n m rs ys f X = fullX n m rs ys))
  case atStart => exact ⟨_, hI3, hz, by omega, Lib.hid rfl⟩
  case round =>
    clear hI3 hz
    obtain ⟨X, hI, hf, hle, hfl⟩ := hrel
    obtain ⟨c0, c1, f0, f1, c2, c3⟩ := hI.cells
    go_wp2_with fail
    refine (improve_c A B n m a b g n rs ys X _ (hr.next hI.1) (hs.next hI.1) hI.2.2.2 hv'.out hf.out).mono ?_
    rintro e w6 ⟨rfl, hk6, hg6⟩
    obtain ⟨nx, hnx⟩ : ∃ nx, Hid (nextX n m rs ys X = nx) := ⟨_, Lib.hid rfl⟩
    rw [hnx.out] at hk6 ⊢
    have hI6 := hI.step hgw (by omega) hg6 hk6
    clear hI hk6 hg6 c0 c1 f0 f1 c2 c3
    cases nx with
    | some z =>
      have hnf := next_fit hf.out hnx.out
      have hmz := many_le hnf.1
      obtain ⟨f, rfl⟩ : ∃ f, gk = f + 1 := ⟨gk - 1, by omega⟩
      have hfl2 : Hid (fillN n m rs ys f z = fullX n m rs ys) := Lib.hid (by rw [← hfl.out, fillN, hnx.out])
      have hI7 : WInv w w6 o g n m z := hI6
      have hfz := Lib.hid hnf.1
      have hle2 : n * m ≤ f + manyX n z := by rw [hnf.2]; omega
      clear hI6 hnf hmz
      go_wp2
      go_roundg f
      case measure => omega
      case rel => exact ⟨z, hI7, hfz, hle2, hfl2⟩
    | none =>
      have hI7 : WInv w w6 o g n m X := hI6
      have hfin : Hid (fullX n m rs ys = X) := Lib.hid (by rw [← hfl.out]; exact fillN_none hnx.out _)
      clear hI6
      obtain ⟨c0, c1, f0, f1, c2, c3⟩ := hI7.cells
      have hz := hI7.2.1.lt
      have hF := (hI7.2.1.set_ 0 (.int .i64 (m : Int))).set_ 1 (.slice (some ⟨g, 0, none⟩) n n)
      have r0 := hF.cell 0
      have r1 := hF.cell 1
      have hL1 := lo_set (lo_set hI7.1 (p := ⟨w.heap.size, 0, none⟩) (Nat.le_refl _) (.int .i64 (m : Int))) (p := ⟨w.heap.size, 1, none⟩) (Nat.le_refl _) (.slice (some ⟨g, 0, none⟩) n n)
      have hG := (hI7.2.2.2.far (p := ⟨w.heap.size, 0, none⟩) (by simp; omega) (.int .i64 (m : Int))).far (p := ⟨w.heap.size, 1, none⟩) (by simp; omega) (.slice (some ⟨g, 0, none⟩) n n)
      clear hF hI7
      go_wp2
      exact bodyPost_ret (v := .tuple #[.agg #[.int .i64 m, .slice (some ⟨g, 0, none⟩) n n], .bool true]) (by simp [results, Tryz.results5, go_sem, r0, r1]) rfl ⟨g, rfl, hL1, by rw [hfin.out]; exact hG, by omega⟩

end Go.Proofs.YtkcdoacojiilaaaGreat
