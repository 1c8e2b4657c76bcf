/- Plain facts and walks that the law's proof uses; each says its own conditions. -/
import Derived.Test.YteabnljjogiflaaGreatDoorZ41
import Derived.Test.YteabnljjogiflaaGreatDoorZ33
import Derived.Test.YteabnljjogiflaaGreatDoorZ40
import Derived.Test.YteabnljjogiflaaGreatDoorZ30
-- Walks: lines that ask for something (the reference's way). Printed by wip/mkask.py.
namespace Go.Proofs.YteabnljjogiflaaGreatDoor
open Go.RowKit
set_option maxRecDepth 100000

/-- what is said -/
def AskP (w : World) (t : Bs) (e : Ending) (w' : World) : Prop := e = .returned (.string (S t)) ∧ Below w.heap.size w w'
theorem dirS_len' {d m : Nat} {xs : List Int} (hd : d < 8) (h1 : 1 ≤ xs.length ∧ xs.length ≤ 6) (h2 : 1 ≤ m ∧ m ≤ 6) : (dirS d m xs).length ≤ 35 := by
  rw [dirS, dst_len]
  exact (lnK_lt hd h1.2 h2.2 (i := 0) (j := 0) (by omega) (by omega)).2.2
set_option maxHeartbeats 2000000 in
theorem l51Lines_c (m n c : Nat) (A : Option Addr) (xs : List Int) (d : Int) (w : World) (hr : Rd w A n xs) (hk : okB (m : Int) xs = true) :
    Calls Tryz.prog 41 #[.agg #[.int .i64 (m : Int), .slice A n c], .int .i64 d] w (AskP w ((askO ((m : Int), xs) (if dirB d then some (kLines ++ decs (dirS d.toNat m xs)) else none)).2)) := by
  have hP := Blk.new w 29 #[.int .i64 (m : Int), .slice A n c]
  have hL0 := lo_alloc (Below.refl w.heap.size w) (.cells #[.int .i64 (m : Int), .slice A n c] 29)
  have p0 := hP.cell 0
  have p1 := hP.cell 1
  cases hd : dirB d with
  | false =>
    have hd' := Lib.hid hd
    clear hd
    go_enter Tryz.func41, Tryz.ntmps41
    go_wp2_with fail
    refine (l21Ok_c _ _).mono ?_
    rw [hd'.out]
    rintro e w0 ⟨rfl, rfl⟩
    go_wp2
    go_ret
    exact ⟨rfl, hL0⟩
  | true =>
    have hd' := Lib.hid hd
    obtain ⟨d, rfl⟩ : ∃ x : Nat, d = (x : Int) := ⟨d.toNat, by simp [dirB] at hd; omega⟩
    have hd8 : d < 8 := by simp [dirB] at hd; omega
    have hbd := okB_bd hk
    have h100 := Lib.hid (dirS_le (xs := xs) (d := d) (m := m) (by omega) (by omega))
    have hdl := dirS_len' (xs := xs) (m := m) hd8 (by omega) (by omega)
    have hk' := Lib.hid hk
    clear hd hk
    obtain ⟨v, hv⟩ : ∃ v, Hid (kLines ++ decs (dirS d m xs) = v) := ⟨_, Lib.hid rfl⟩
    have hvl : v.length ≤ 200 := by
      have := decs_len (dirS d m xs)
      rw [← hv.out]; simp [kLines]; omega
    have hT := Lib.hid (show (askO ((m : Int), xs) (if true = true then some (kLines ++ decs (dirS (d : Int).toNat m xs)) else none)).2 = v ++ [10] by rw [← hv.out]; rfl)
    rw [hT.out]
    have e1 : ∀ w, (Op.stringOp .add (S v) ({ data := #[10] } : ByteArray)).run Tryz.prog w = .ok (.string (S (v ++ [10]))) w := fun w => cat_ok v [10] (by simp; omega) w
    go_enter Tryz.func41, Tryz.ntmps41
    go_wp2_with fail
    refine (l21Ok_c _ _).mono ?_
    rw [hd'.out]
    rintro e w0 ⟨rfl, rfl⟩
    go_wp2_with fail
    refine (spec_DirSums_c d m n c A xs _ (hr.next hL0) hk'.out hd8).mono ?_
    rintro e w1 ⟨R, r, c', rfl, hO, hb1⟩
    have hrl : r ≤ 35 := by have := hO.1; omega
    go_wp2_with fail
    refine (l51Join_c _ _ _ (dirS d m xs) kLines _ hO.rd (by omega) (by decide) h100.out).mono ?_
    rw [hv.out]
    rintro e w2 ⟨rfl, hb2⟩
    clear hT
    go_wp2
    go_ret
    exact ⟨rfl, lo_trans (lo_trans hL0 hb1) hb2⟩

set_option maxHeartbeats 4000000 in
theorem ask_Proof (W : Int) (A : Option Addr) (n c g cw : Nat) (xs : List Int) (x y : Bs) (w : World) (hr : ImR w A n c xs) (hw : WB w g [kProof, x, y]) (hx : x.length ≤ 1000) (hy : y.length ≤ 1000) :
    Calls Tryz.prog 17 #[.agg #[.int .i64 W, .slice A n c], .slice (some ⟨g, 0, none⟩) 3 cw] w (AskP w (stepS (W, xs) [kProof, x, y]).2) := by
  obtain ⟨P, hP⟩ : ∃ P, P = (stepS (W, xs) [kProof, x, y]).2 := ⟨_, rfl⟩
  rw [← hP]
  rw [step_Proof] at hP
  replace hP := Lib.hid hP
  have hn6 := hr.2.1
  have kP := Blk.new w 29 #[.int .i64 W, .slice A n c]
  have hL := lo_alloc (Below.refl w.heap.size w) (.cells #[.int .i64 W, .slice A n c] 29)
  have hr3 := hr.next hL
  have hw3 := hw.next hL
  have hx0 := hw3.get (k := 0) (x := kProof) rfl
  have qProof : ((S kProof).toList == [112, 114, 111, 111, 102]) = true := by rw [S_list]; rfl
  have hcon := fun A1 B1 c1 d1 w h1 h2 => l51Proof_c A1 B1 (dgs x).length (dgs y).length c1 d1 (dgs x) (dgs y) w h1 h2 (by have := dgs_len x; omega) (by have := dgs_len y; omega) (W, xs)
  rw [← hP.out] at hcon
  obtain ⟨w2, hw2⟩ : ∃ w2, w2 = w.alloc (.cells #[.int .i64 W, .slice A n c] 29) := ⟨_, rfl⟩
  have hwd := hw3.drew
  rw [← hw2] at hwd hL
  have hLd : Below w.heap.size w w2.drew := Below.drew hL
  have hLr := Below.refl w2.drew.heap.size w2.drew
  go_enter Tryz.func17, Tryz.ntmps17
  go_wp2
  rw [← hw2]
  clear hw2 hx0 kP hr3 hw3
  go_region_held3 (fun w' => w'.cell? ⟨g, 1, none⟩ = some (.string (S x)) ∧ w'.cell? ⟨g, 2, none⟩ = some (.string (S y)))
    (first
      | exact ⟨(hwd.next hLr).get (k := 1) (x := x) rfl, (hwd.next hLr).get (k := 2) (x := y) rfl⟩
      | fail)
    (first
      | (go_at_call 34
         first
          | (have hmark := hO1
             clear hmark
             refine (l51List_c y _ (by omega)).mono ?_
             rintro e w5 ⟨R2, d2, rfl, hO2, hb2⟩
             have hO1' := hO1.next hb2
             have hX : Below w2.drew.heap.size w2.drew w5 := lo_trans hLr hb2
             clear hLr
             have hLr := hX
             clear hX)
          | (refine (l51List_c x _ (by omega)).mono ?_
             rintro e w4 ⟨R1, d1, rfl, hO1, hb1⟩
             have hX : Below w2.drew.heap.size w2.drew w4 := lo_trans hLr hb1
             clear hLr
             have hLr := hX
             clear hX)
          | fail)
      | (go_at_call 37
         refine (hcon _ _ _ _ _ hO1'.rd hO2.rd).mono ?_
         rintro e w5 ⟨rfl, hb5⟩
         have hX : Below w2.drew.heap.size w2.drew w5 := lo_trans hLr hb5
         clear hLr
         have hLr := hX
         clear hX))
  go_wp2
  go_ret
  exact ⟨rfl, lo_trans hLd hLr⟩

set_option maxHeartbeats 4000000 in
theorem ask_Show_no (W : Int) (A : Option Addr) (n c g cw : Nat) (xs : List Int) (w : World) (hr : ImR w A n c xs) (hw : WB w g [kShow]) (hk : okB W xs = false) :
    Calls Tryz.prog 17 #[.agg #[.int .i64 W, .slice A n c], .slice (some ⟨g, 0, none⟩) 1 cw] w (AskP w (stepS (W, xs) [kShow]).2) := by
  obtain ⟨P, hP⟩ : ∃ P, P = (stepS (W, xs) [kShow]).2 := ⟨_, rfl⟩
  rw [← hP]
  rw [step_Show] at hP
  replace hP := Lib.hid hP
  have hn6 := hr.2.1
  have kP := Blk.new w 29 #[.int .i64 W, .slice A n c]
  have hL := lo_alloc (Below.refl w.heap.size w) (.cells #[.int .i64 W, .slice A n c] 29)
  have hr3 := hr.next hL
  have hw3 := hw.next hL
  have hx0 := hw3.get (k := 0) (x := kShow) rfl
  have qProof : ((S kShow).toList == [112, 114, 111, 111, 102]) = false := by rw [S_list]; rfl
  have qShow : ((S kShow).toList == [115, 104, 111, 119]) = true := by rw [S_list]; rfl
  have hk' := Lib.hid hk
  have hPe := Lib.hid (show P = tNo ++ [10] by rw [hP.out]; simp only [hk]; rfl)
  have p0 := kP.cell 0
  have p1 := kP.cell 1
  clear hk
  go_enter Tryz.func17, Tryz.ntmps17
  go_wp2_with fail
  refine (spec_ImageValid_c _ _ _ _ xs _ hr3.1 (by omega)).mono ?_
  rw [hk'.out]
  rintro e w1 ⟨rfl, hb1⟩
  go_wp2
  go_ret
  rw [hPe.out]
  exact ⟨rfl, lo_trans hL hb1⟩

set_option maxHeartbeats 4000000 in
theorem ask_Sums_no (W : Int) (A : Option Addr) (n c g cw : Nat) (xs : List Int) (w : World) (hr : ImR w A n c xs) (hw : WB w g [kSums]) (hk : okB W xs = false) :
    Calls Tryz.prog 17 #[.agg #[.int .i64 W, .slice A n c], .slice (some ⟨g, 0, none⟩) 1 cw] w (AskP w (stepS (W, xs) [kSums]).2) := by
  obtain ⟨P, hP⟩ : ∃ P, P = (stepS (W, xs) [kSums]).2 := ⟨_, rfl⟩
  rw [← hP]
  rw [step_Sums] at hP
  replace hP := Lib.hid hP
  have hn6 := hr.2.1
  have kP := Blk.new w 29 #[.int .i64 W, .slice A n c]
  have hL := lo_alloc (Below.refl w.heap.size w) (.cells #[.int .i64 W, .slice A n c] 29)
  have hr3 := hr.next hL
  have hw3 := hw.next hL
  have hx0 := hw3.get (k := 0) (x := kSums) rfl
  have qProof : ((S kSums).toList == [112, 114, 111, 111, 102]) = false := by rw [S_list]; rfl
  have qShow : ((S kSums).toList == [115, 104, 111, 119]) = false := by rw [S_list]; rfl
  have qSums : ((S kSums).toList == [115, 117, 109, 115]) = true := by rw [S_list]; rfl
  have hk' := Lib.hid hk
  have hPe := Lib.hid (show P = tNo ++ [10] by rw [hP.out]; simp only [hk]; rfl)
  have p0 := kP.cell 0
  have p1 := kP.cell 1
  clear hk
  go_enter Tryz.func17, Tryz.ntmps17
  go_wp2_with fail
  refine (spec_ImageValid_c _ _ _ _ xs _ hr3.1 (by omega)).mono ?_
  rw [hk'.out]
  rintro e w1 ⟨rfl, hb1⟩
  go_wp2
  go_ret
  rw [hPe.out]
  exact ⟨rfl, lo_trans hL hb1⟩

set_option maxHeartbeats 4000000 in
theorem ask_Unique_no (W : Int) (A : Option Addr) (n c g cw : Nat) (xs : List Int) (w : World) (hr : ImR w A n c xs) (hw : WB w g [kUnique]) (hk : okB W xs = false) :
    Calls Tryz.prog 17 #[.agg #[.int .i64 W, .slice A n c], .slice (some ⟨g, 0, none⟩) 1 cw] w (AskP w (stepS (W, xs) [kUnique]).2) := by
  obtain ⟨P, hP⟩ : ∃ P, P = (stepS (W, xs) [kUnique]).2 := ⟨_, rfl⟩
  rw [← hP]
  rw [step_Unique] at hP
  replace hP := Lib.hid hP
  have hn6 := hr.2.1
  have kP := Blk.new w 29 #[.int .i64 W, .slice A n c]
  have hL := lo_alloc (Below.refl w.heap.size w) (.cells #[.int .i64 W, .slice A n c] 29)
  have hr3 := hr.next hL
  have hw3 := hw.next hL
  have hx0 := hw3.get (k := 0) (x := kUnique) rfl
  have qProof : ((S kUnique).toList == [112, 114, 111, 111, 102]) = false := by rw [S_list]; rfl
  have qShow : ((S kUnique).toList == [115, 104, 111, 119]) = false := by rw [S_list]; rfl
  have qSums : ((S kUnique).toList == [115, 117, 109, 115]) = false := by rw [S_list]; rfl
  have qUnique : ((S kUnique).toList == [117, 110, 105, 113, 117, 101]) = true := by rw [S_list]; rfl
  have hk' := Lib.hid hk
  have hPe := Lib.hid (show P = tNo ++ [10] by rw [hP.out]; simp only [hk]; rfl)
  have p0 := kP.cell 0
  have p1 := kP.cell 1
  clear hk
  go_enter Tryz.func17, Tryz.ntmps17
  go_wp2_with fail
  refine (spec_ImageValid_c _ _ _ _ xs _ hr3.1 (by omega)).mono ?_
  rw [hk'.out]
  rintro e w1 ⟨rfl, hb1⟩
  go_wp2
  go_ret
  rw [hPe.out]
  exact ⟨rfl, lo_trans hL hb1⟩

set_option maxHeartbeats 4000000 in
theorem ask_Lines_no (W : Int) (A : Option Addr) (n c g cw : Nat) (xs : List Int) (x : Bs) (w : World) (hr : ImR w A n c xs) (hw : WB w g [kLines, x]) (hk : okB W xs = false) :
    Calls Tryz.prog 17 #[.agg #[.int .i64 W, .slice A n c], .slice (some ⟨g, 0, none⟩) 2 cw] w (AskP w (stepS (W, xs) [kLines, x]).2) := by
  obtain ⟨P, hP⟩ : ∃ P, P = (stepS (W, xs) [kLines, x]).2 := ⟨_, rfl⟩
  rw [← hP]
  rw [step_Lines] at hP
  replace hP := Lib.hid hP
  have hn6 := hr.2.1
  have kP := Blk.new w 29 #[.int .i64 W, .slice A n c]
  have hL := lo_alloc (Below.refl w.heap.size w) (.cells #[.int .i64 W, .slice A n c] 29)
  have hr3 := hr.next hL
  have hw3 := hw.next hL
  have hx0 := hw3.get (k := 0) (x := kLines) rfl
  have qProof : ((S kLines).toList == [112, 114, 111, 111, 102]) = false := by rw [S_list]; rfl
  have qShow : ((S kLines).toList == [115, 104, 111, 119]) = false := by rw [S_list]; rfl
  have qSums : ((S kLines).toList == [115, 117, 109, 115]) = false := by rw [S_list]; rfl
  have qUnique : ((S kLines).toList == [117, 110, 105, 113, 117, 101]) = false := by rw [S_list]; rfl
  have qLines : ((S kLines).toList == [108, 105, 110, 101, 115]) = true := by rw [S_list]; rfl
  have hk' := Lib.hid hk
  have hPe := Lib.hid (show P = tNo ++ [10] by rw [hP.out]; simp only [hk, Bool.false_and]; rfl)
  have p0 := kP.cell 0
  have p1 := kP.cell 1
  clear hk
  go_enter Tryz.func17, Tryz.ntmps17
  go_wp2_with fail
  refine (spec_ImageValid_c _ _ _ _ xs _ hr3.1 (by omega)).mono ?_
  rw [hk'.out]
  rintro e w1 ⟨rfl, hb1⟩
  go_wp2
  go_ret
  rw [hPe.out]
  exact ⟨rfl, lo_trans hL hb1⟩

set_option maxHeartbeats 4000000 in
theorem ask_Show_yes (W : Int) (A : Option Addr) (n c g cw : Nat) (xs : List Int) (w : World) (hr : ImR w A n c xs) (hw : WB w g [kShow]) (hk : okB W xs = true) :
    Calls Tryz.prog 17 #[.agg #[.int .i64 W, .slice A n c], .slice (some ⟨g, 0, none⟩) 1 cw] w (AskP w (stepS (W, xs) [kShow]).2) := by
  obtain ⟨P, hP⟩ : ∃ P, P = (stepS (W, xs) [kShow]).2 := ⟨_, rfl⟩
  rw [← hP]
  rw [step_Show] at hP
  replace hP := Lib.hid hP
  have hn6 := hr.2.1
  have kP := Blk.new w 29 #[.int .i64 W, .slice A n c]
  have hL := lo_alloc (Below.refl w.heap.size w) (.cells #[.int .i64 W, .slice A n c] 29)
  have hr3 := hr.next hL
  have hw3 := hw.next hL
  have hx0 := hw3.get (k := 0) (x := kShow) rfl
  have qProof : ((S kShow).toList == [112, 114, 111, 111, 102]) = false := by rw [S_list]; rfl
  have qShow : ((S kShow).toList == [115, 104, 111, 119]) = true := by rw [S_list]; rfl
  have hbd := okB_bd hk
  obtain ⟨m, rfl⟩ : ∃ m : Nat, W = (m : Int) := ⟨W.toNat, by omega⟩
  have hk' := Lib.hid hk
  have hPe := Lib.hid (show P = textL m xs by
    rw [hP.out]
    simp only [hk, if_true, Int.toNat_natCast]
    have hb := okB_bd hk
    rw [textL_eq xs (by omega)]
    show (xs.flatMap (fun x => rowT m x.toNat)).dropLast ++ [10] = _
    rcases List.eq_nil_or_concat xs with rfl | ⟨ys, y, rfl⟩
    · simp at hb
    · simp [rowT])
  have hcon := fun w h => spec_ImageText_c m A n c xs w h hk
  rw [← hPe.out] at hcon
  have p0 := kP.cell 0
  have p1 := kP.cell 1
  clear hk
  go_enter Tryz.func17, Tryz.ntmps17
  go_wp2_with fail
  refine (spec_ImageValid_c _ _ _ _ xs _ hr3.1 (by omega)).mono ?_
  rw [hk'.out]
  rintro e w1 ⟨rfl, hb1⟩
  have kP1 := kP.next hb1
  have hw4 := hw3.next hb1
  clear p0 p1 hx0
  have p0 := kP1.cell 0
  have p1 := kP1.cell 1
  have hx0 := hw4.get (k := 0) (x := kShow) rfl
  go_wp2_with fail
  refine (hcon _ (hr3.1.next hb1)).mono ?_
  rintro e w2 ⟨rfl, hb2⟩
  go_wp2
  go_ret
  exact ⟨rfl, lo_trans (lo_trans hL hb1) hb2⟩

set_option maxHeartbeats 4000000 in
theorem ask_Sums_yes (W : Int) (A : Option Addr) (n c g cw : Nat) (xs : List Int) (w : World) (hr : ImR w A n c xs) (hw : WB w g [kSums]) (hk : okB W xs = true) :
    Calls Tryz.prog 17 #[.agg #[.int .i64 W, .slice A n c], .slice (some ⟨g, 0, none⟩) 1 cw] w (AskP w (stepS (W, xs) [kSums]).2) := by
  obtain ⟨P, hP⟩ : ∃ P, P = (stepS (W, xs) [kSums]).2 := ⟨_, rfl⟩
  rw [← hP]
  rw [step_Sums] at hP
  replace hP := Lib.hid hP
  have hn6 := hr.2.1
  have kP := Blk.new w 29 #[.int .i64 W, .slice A n c]
  have hL := lo_alloc (Below.refl w.heap.size w) (.cells #[.int .i64 W, .slice A n c] 29)
  have hr3 := hr.next hL
  have hw3 := hw.next hL
  have hx0 := hw3.get (k := 0) (x := kSums) rfl
  have qProof : ((S kSums).toList == [112, 114, 111, 111, 102]) = false := by rw [S_list]; rfl
  have qShow : ((S kSums).toList == [115, 104, 111, 119]) = false := by rw [S_list]; rfl
  have qSums : ((S kSums).toList == [115, 117, 109, 115]) = true := by rw [S_list]; rfl
  have hbd := okB_bd hk
  obtain ⟨m, rfl⟩ : ∃ m : Nat, W = (m : Int) := ⟨W.toNat, by omega⟩
  have hk' := Lib.hid hk
  have hPe := Lib.hid (show P = tRowsW ++ decs (rsum xs) ++ tColsW ++ decs (csum m xs) ++ [10] by rw [hP.out]; simp only [hk, if_true, Int.toNat_natCast]; rfl)
  have hcon := fun w h => l51Sums_c m n c A xs w h hk
  rw [← hPe.out] at hcon
  have p0 := kP.cell 0
  have p1 := kP.cell 1
  clear hk
  go_enter Tryz.func17, Tryz.ntmps17
  go_wp2_with fail
  refine (spec_ImageValid_c _ _ _ _ xs _ hr3.1 (by omega)).mono ?_
  rw [hk'.out]
  rintro e w1 ⟨rfl, hb1⟩
  have kP1 := kP.next hb1
  have hw4 := hw3.next hb1
  clear p0 p1 hx0
  have p0 := kP1.cell 0
  have p1 := kP1.cell 1
  have hx0 := hw4.get (k := 0) (x := kSums) rfl
  go_wp2_with fail
  refine (hcon _ (hr3.1.next hb1)).mono ?_
  rintro e w2 ⟨rfl, hb2⟩
  go_wp2
  go_ret
  exact ⟨rfl, lo_trans (lo_trans hL hb1) hb2⟩

set_option maxHeartbeats 4000000 in
theorem ask_Unique_yes (W : Int) (A : Option Addr) (n c g cw : Nat) (xs : List Int) (w : World) (hr : ImR w A n c xs) (hw : WB w g [kUnique]) (hk : okB W xs = true) :
    Calls Tryz.prog 17 #[.agg #[.int .i64 W, .slice A n c], .slice (some ⟨g, 0, none⟩) 1 cw] w (AskP w (stepS (W, xs) [kUnique]).2) := by
  obtain ⟨P, hP⟩ : ∃ P, P = (stepS (W, xs) [kUnique]).2 := ⟨_, rfl⟩
  rw [← hP]
  rw [step_Unique] at hP
  replace hP := Lib.hid hP
  have hn6 := hr.2.1
  have kP := Blk.new w 29 #[.int .i64 W, .slice A n c]
  have hL := lo_alloc (Below.refl w.heap.size w) (.cells #[.int .i64 W, .slice A n c] 29)
  have hr3 := hr.next hL
  have hw3 := hw.next hL
  have hx0 := hw3.get (k := 0) (x := kUnique) rfl
  have qProof : ((S kUnique).toList == [112, 114, 111, 111, 102]) = false := by rw [S_list]; rfl
  have qShow : ((S kUnique).toList == [115, 104, 111, 119]) = false := by rw [S_list]; rfl
  have qSums : ((S kUnique).toList == [115, 117, 109, 115]) = false := by rw [S_list]; rfl
  have qUnique : ((S kUnique).toList == [117, 110, 105, 113, 117, 101]) = true := by rw [S_list]; rfl
  have hbd := okB_bd hk
  obtain ⟨m, rfl⟩ : ∃ m : Nat, W = (m : Int) := ⟨W.toNat, by omega⟩
  have hk' := Lib.hid hk
  have hPe := Lib.hid (show P = (if uniqB (m : Int) xs then tYes else tSeveral) ++ [10] by
    rw [hP.out]
    simp only [hk, if_true, Int.toNat_natCast]
    show (if swList m xs = [] then tYes else tSeveral) ++ [10] = _
    congr 1
    simp only [uniqB, hk, Bool.true_and, Int.toNat_natCast]
    by_cases h : swList m xs = [] <;> simp [h])
  have hcon := fun w h => l51Unique_c (m : Int) A n c xs w h (by omega)
  rw [← hPe.out] at hcon
  have p0 := kP.cell 0
  have p1 := kP.cell 1
  clear hk
  go_enter Tryz.func17, Tryz.ntmps17
  go_wp2_with fail
  refine (spec_ImageValid_c _ _ _ _ xs _ hr3.1 (by omega)).mono ?_
  rw [hk'.out]
  rintro e w1 ⟨rfl, hb1⟩
  have kP1 := kP.next hb1
  have hw4 := hw3.next hb1
  clear p0 p1 hx0
  have p0 := kP1.cell 0
  have p1 := kP1.cell 1
  have hx0 := hw4.get (k := 0) (x := kUnique) rfl
  go_wp2_with fail
  refine (hcon _ (hr3.1.next hb1)).mono ?_
  rintro e w2 ⟨rfl, hb2⟩
  go_wp2
  go_ret
  exact ⟨rfl, lo_trans (lo_trans hL hb1) hb2⟩

set_option maxHeartbeats 4000000 in
theorem ask_Lines_yes (W : Int) (A : Option Addr) (n c g cw : Nat) (xs : List Int) (x : Bs) (w : World) (hr : ImR w A n c xs) (hw : WB w g [kLines, x]) (hx : x.length ≤ 1000) (hk : okB W xs = true) :
    Calls Tryz.prog 17 #[.agg #[.int .i64 W, .slice A n c], .slice (some ⟨g, 0, none⟩) 2 cw] w (AskP w (stepS (W, xs) [kLines, x]).2) := by
  obtain ⟨P, hP⟩ : ∃ P, P = (stepS (W, xs) [kLines, x]).2 := ⟨_, rfl⟩
  rw [← hP]
  rw [step_Lines] at hP
  replace hP := Lib.hid hP
  have hn6 := hr.2.1
  have kP := Blk.new w 29 #[.int .i64 W, .slice A n c]
  have hL := lo_alloc (Below.refl w.heap.size w) (.cells #[.int .i64 W, .slice A n c] 29)
  have hr3 := hr.next hL
  have hw3 := hw.next hL
  have hx0 := hw3.get (k := 0) (x := kLines) rfl
  have qProof : ((S kLines).toList == [112, 114, 111, 111, 102]) = false := by rw [S_list]; rfl
  have qShow : ((S kLines).toList == [115, 104, 111, 119]) = false := by rw [S_list]; rfl
  have qSums : ((S kLines).toList == [115, 117, 109, 115]) = false := by rw [S_list]; rfl
  have qUnique : ((S kLines).toList == [117, 110, 105, 113, 117, 101]) = false := by rw [S_list]; rfl
  have qLines : ((S kLines).toList == [108, 105, 110, 101, 115]) = true := by rw [S_list]; rfl
  have hbd := okB_bd hk
  obtain ⟨m, rfl⟩ : ∃ m : Nat, W = (m : Int) := ⟨W.toNat, by omega⟩
  have hk' := Lib.hid hk
  have hPe := Lib.hid (show P = (askO ((m : Int), xs) (if dirB (dgt x) then some (kLines ++ decs (dirS (dgt x).toNat m xs)) else none)).2 by
    rw [hP.out]
    simp only [hk, Bool.true_and, Int.toNat_natCast])
  have hcon := fun w h => l51Lines_c m n c A xs (dgt x) w h hk
  rw [← hPe.out] at hcon
  have p0 := kP.cell 0
  have p1 := kP.cell 1
  clear hk
  go_enter Tryz.func17, Tryz.ntmps17
  go_wp2_with fail
  refine (spec_ImageValid_c _ _ _ _ xs _ hr3.1 (by omega)).mono ?_
  rw [hk'.out]
  rintro e w1 ⟨rfl, hb1⟩
  have kP1 := kP.next hb1
  have hw4 := hw3.next hb1
  have hr4 := hr3.next hb1
  have hL1 := lo_trans hL hb1
  clear p0 p1 hx0 kP hw3 hr3 hL hb1
  have hx0 := hw4.get (k := 0) (x := kLines) rfl
  have kPd := kP1.drew
  have hwd := hw4.drew
  have hrd : ImR w1.drew A n c xs := hr4
  have hLr := Below.refl w1.drew.heap.size w1.drew
  have hLd : Below w.heap.size w w1.drew := Below.drew hL1
  go_wp2
  go_region_held3 (fun w' => w'.cell? ⟨w.heap.size, 0, none⟩ = some (.int .i64 (m : Int)) ∧ w'.cell? ⟨w.heap.size, 1, none⟩ = some (.slice A n c) ∧ w'.cell? ⟨g, 1, none⟩ = some (.string (S x)))
    (first
      | exact ⟨(kPd.next hLr).cell 0, (kPd.next hLr).cell 1, (hwd.next hLr).get (k := 1) (x := x) rfl⟩
      | fail)
    (first
      | (go_at_call 42
         refine (l51Number_c x _ (by omega)).mono ?_
         rintro e w5 ⟨rfl, hb5⟩
         have hX : Below w1.drew.heap.size w1.drew w5 := lo_trans hLr hb5
         clear hLr
         have hLr := hX
         clear hX)
      | (go_at_call 41
         refine (hcon _ (hrd.next hLr).1).mono ?_
         rintro e w6 ⟨rfl, hb6⟩
         have hX : Below w1.drew.heap.size w1.drew w6 := lo_trans hLr hb6
         clear hLr
         have hLr := hX
         clear hX))
  go_wp2
  go_ret
  exact ⟨rfl, lo_trans hLd hLr⟩

set_option maxHeartbeats 4000000 in
theorem ask_what1 (W : Int) (A : Option Addr) (n c g cw : Nat) (x0 : Bs) (w : World) (hw : WB w g (x0 :: [])) (h1 : x0 ≠ kShow) (h2 : x0 ≠ kSums) (h3 : x0 ≠ kUnique) :
    Calls Tryz.prog 17 #[.agg #[.int .i64 W, .slice A n c], .slice (some ⟨g, 0, none⟩) 1 cw] w (AskP w (tWhat ++ [10])) := by
  have hL := lo_alloc (Below.refl w.heap.size w) (.cells #[.int .i64 W, .slice A n c] 29)
  have hw3 := hw.next hL
  have hx0 := hw3.get (k := 0) (x := x0) rfl
  have qShow : ((S x0).toList == [115, 104, 111, 119]) = false := by rw [S_list, beq_eq_false_iff_ne]; exact h1
  have qSums : ((S x0).toList == [115, 117, 109, 115]) = false := by rw [S_list, beq_eq_false_iff_ne]; exact h2
  have qUnique : ((S x0).toList == [117, 110, 105, 113, 117, 101]) = false := by rw [S_list, beq_eq_false_iff_ne]; exact h3
  clear h1 h2 h3
  by_cases hp : x0 = kProof
  · subst hp
    have qProof : ((S kProof).toList == [112, 114, 111, 111, 102]) = true := by rw [S_list]; rfl
    go_enter Tryz.func17, Tryz.ntmps17
    go_wp2
    go_ret
    exact ⟨rfl, hL⟩
  · have qProof : ((S x0).toList == [112, 114, 111, 111, 102]) = false := by rw [S_list, beq_eq_false_iff_ne]; exact hp
    clear hp
    go_enter Tryz.func17, Tryz.ntmps17
    go_wp2
    go_ret
    exact ⟨rfl, hL⟩

set_option maxHeartbeats 4000000 in
theorem ask_what2 (W : Int) (A : Option Addr) (n c g cw : Nat) (x0 : Bs) (x : Bs) (w : World) (hw : WB w g (x0 :: [x])) (h1 : x0 ≠ kLines) :
    Calls Tryz.prog 17 #[.agg #[.int .i64 W, .slice A n c], .slice (some ⟨g, 0, none⟩) 2 cw] w (AskP w (tWhat ++ [10])) := by
  have hL := lo_alloc (Below.refl w.heap.size w) (.cells #[.int .i64 W, .slice A n c] 29)
  have hw3 := hw.next hL
  have hx0 := hw3.get (k := 0) (x := x0) rfl
  have qLines : ((S x0).toList == [108, 105, 110, 101, 115]) = false := by rw [S_list, beq_eq_false_iff_ne]; exact h1
  clear h1
  by_cases hp : x0 = kProof
  · subst hp
    have qProof : ((S kProof).toList == [112, 114, 111, 111, 102]) = true := by rw [S_list]; rfl
    go_enter Tryz.func17, Tryz.ntmps17
    go_wp2
    go_ret
    exact ⟨rfl, hL⟩
  · have qProof : ((S x0).toList == [112, 114, 111, 111, 102]) = false := by rw [S_list, beq_eq_false_iff_ne]; exact hp
    clear hp
    go_enter Tryz.func17, Tryz.ntmps17
    go_wp2
    go_ret
    exact ⟨rfl, hL⟩

set_option maxHeartbeats 4000000 in
theorem ask_what3 (W : Int) (A : Option Addr) (n c g cw : Nat) (x0 : Bs) (x y : Bs) (w : World) (hw : WB w g (x0 :: [x, y])) (h1 : x0 ≠ kProof) :
    Calls Tryz.prog 17 #[.agg #[.int .i64 W, .slice A n c], .slice (some ⟨g, 0, none⟩) 3 cw] w (AskP w (tWhat ++ [10])) := by
  have hL := lo_alloc (Below.refl w.heap.size w) (.cells #[.int .i64 W, .slice A n c] 29)
  have hw3 := hw.next hL
  have hx0 := hw3.get (k := 0) (x := x0) rfl
  have qProof : ((S x0).toList == [112, 114, 111, 111, 102]) = false := by rw [S_list, beq_eq_false_iff_ne]; exact h1
  clear h1
  go_enter Tryz.func17, Tryz.ntmps17
  go_wp2
  go_ret
  exact ⟨rfl, hL⟩

set_option maxHeartbeats 4000000 in
theorem ask_what4 (W : Int) (A : Option Addr) (n c g cw : Nat) (x0 : Bs) (x y z : Bs) (t : List Bs) (w : World) (hw : WB w g (x0 :: (x :: y :: z :: t))) :
    Calls Tryz.prog 17 #[.agg #[.int .i64 W, .slice A n c], .slice (some ⟨g, 0, none⟩) (t.length + 1 + 1 + 1 + 1) cw] w (AskP w (tWhat ++ [10])) := by
  have hL := lo_alloc (Below.refl w.heap.size w) (.cells #[.int .i64 W, .slice A n c] 29)
  have hw3 := hw.next hL
  have hx0 := hw3.get (k := 0) (x := x0) rfl
  obtain ⟨l, hl⟩ : ∃ l, l = t.length := ⟨_, rfl⟩
  rw [← hl]
  clear hl
  have g1 : (((l : Nat) : Int) + 1 + 1 + 1 + 1 == 1) = false := by rw [beq_eq_false_iff_ne]; omega
  have g2 : (((l : Nat) : Int) + 1 + 1 + 1 + 1 == 2) = false := by rw [beq_eq_false_iff_ne]; omega
  have g3 : (((l : Nat) : Int) + 1 + 1 + 1 + 1 == 3) = false := by rw [beq_eq_false_iff_ne]; omega
  by_cases hp : x0 = kProof
  · subst hp
    have qProof : ((S kProof).toList == [112, 114, 111, 111, 102]) = true := by rw [S_list]; rfl
    go_enter Tryz.func17, Tryz.ntmps17
    go_wp2
    go_ret
    exact ⟨rfl, hL⟩
  · have qProof : ((S x0).toList == [112, 114, 111, 111, 102]) = false := by rw [S_list, beq_eq_false_iff_ne]; exact hp
    clear hp
    go_enter Tryz.func17, Tryz.ntmps17
    go_wp2
    go_ret
    exact ⟨rfl, hL⟩

end Go.Proofs.YteabnljjogiflaaGreatDoor

-- Walks: a script is executed (the reference's way).
namespace Go.Proofs.YteabnljjogiflaaGreatDoor
open Go.RowKit
set_option maxRecDepth 100000

theorem askO_fst (s : Ig) (o : Option Bs) : (askO s o).1 = s := by cases o <;> rfl
theorem become_len (s : Ig) (o : Option Ig) : (become s o).2.length ≤ 1001 := by cases o <;> simp [become, tOk, tNo]
theorem askO_len (s : Ig) (o : Option Bs) (h : ∀ t, o = some t → t.length ≤ 1000) : (askO s o).2.length ≤ 1001 := by
  cases o with
  | none => simp [askO, tNo]
  | some t => have := h t rfl; simp [askO]; omega
theorem ite_len {c : Prop} [Decidable c] {a b : Ig × Bs} (h : a.2.length ≤ 1001) (k : b.2.length ≤ 1001) : (if c then a else b).2.length ≤ 1001 := by
  split
  · exact h
  · exact k
theorem stepS_len (s : Ig) (ws : List Bs) : (stepS s ws).2.length ≤ 1001 := by
  unfold stepS
  refine ite_len (become_len _ _) (ite_len (by simp [tOk]) (ite_len (become_len _ _) (ite_len (become_len _ _) (ite_len (become_len _ _) (ite_len (askO_len _ _ ?_) (ite_len (askO_len _ _ ?_) (ite_len (askO_len _ _ ?_) (ite_len (askO_len _ _ ?_) (ite_len (askO_len _ _ ?_) (by simp [tWhat]))))))))))
  · intro t ht
    cases hp : pOf (dgs (wd ws 1)) (dgs (wd ws 2)) with
    | none => rw [hp] at ht; cases ht
    | some q => rw [hp] at ht; cases ht; have := dec2_len q; omega
  · intro t ht
    split at ht
    · next hk =>
      cases ht
      have hb := okB_bd hk
      obtain ⟨m, hm⟩ : ∃ m : Nat, s.1 = (m : Int) := ⟨s.1.toNat, by omega⟩
      rw [hm] at hk ⊢
      have := textL_len hk
      rw [List.length_dropLast, Int.toNat_natCast]
      omega
    · cases ht
  · intro t ht
    split at ht
    · next hk =>
      cases ht
      have hb := okB_bd hk
      have h1 := decs_len (rsum s.2)
      have h2 := decs_len (csum s.1.toNat s.2)
      rw [rsum_len] at h1
      rw [csum_len] at h2
      simp [tRowsW, tColsW]
      omega
    · cases ht
  · intro t ht
    split at ht
    · cases ht
      split <;> simp [tYes, tSeveral]
    · cases ht
  · intro t ht
    split at ht
    · next hk =>
      cases ht
      rw [Bool.and_eq_true] at hk
      have hb := okB_bd hk.1
      have hd : (dgt (wd ws 1)).toNat < 8 := by have := hk.2; simp [dirB] at this; omega
      have h1 := decs_len (dirS (dgt (wd ws 1)).toNat s.1.toNat s.2)
      have h2 := dirS_len' (xs := s.2) (m := s.1.toNat) hd (by omega) (by omega)
      simp [kLines]
      omega
    · cases ht

/-- a line of words: one that changes the image, or one that asks -/
theorem line_any (W : Int) (A : Option Addr) (n c g cw : Nat) (xs : List Int) (ws : List Bs) (w : World) (hr : ImR w A n c xs) (hw : WB w g ws) (hne : ws ≠ []) (hl : ∀ x ∈ ws, x.length ≤ 1000) :
    Calls Tryz.prog 16 #[.agg #[.int .i64 W, .slice A n c], .slice (some ⟨g, 0, none⟩) ws.length cw] w (ChP w A (stepS (W, xs) ws)) ∨
    (Calls Tryz.prog 16 #[.agg #[.int .i64 W, .slice A n c], .slice (some ⟨g, 0, none⟩) ws.length cw] w (ChN w (W, xs) A n c) ∧ (stepS (W, xs) ws).1 = (W, xs) ∧
      ∀ w', ImR w' A n c xs → WB w' g ws → Calls Tryz.prog 17 #[.agg #[.int .i64 W, .slice A n c], .slice (some ⟨g, 0, none⟩) ws.length cw] w' (AskP w' (stepS (W, xs) ws).2)) := by
  match ws, hne with
  | x0 :: t, _ =>
  by_cases h1 : x0 = kRow ∧ t.length = 1
  · obtain ⟨rfl, ht⟩ := h1
    match t, ht with
    | [x], _ => exact .inl (change_Row W A n c g cw xs x w hr hw (hl x (by simp)))
  by_cases h2 : x0 = kClear ∧ t.length = 0
  · obtain ⟨rfl, ht⟩ := h2
    match t, ht with
    | [], _ => exact .inl (change_Clear W A n c g cw xs w hr hw)
  by_cases h3 : x0 = kBuild ∧ t.length = 2
  · obtain ⟨rfl, ht⟩ := h3
    match t, ht with
    | [x, y], _ => exact .inl (change_Build W A n c g cw xs x y w hr hw (hl x (by simp)) (hl y (by simp)))
  by_cases h4 : x0 = kSwitch ∧ t.length = 4
  · obtain ⟨rfl, ht⟩ := h4
    match t, ht with
    | [x, y, z, u], _ => exact .inl (change_Switch W A n c g cw xs x y z u w hr hw (hl x (by simp)) (hl y (by simp)) (hl z (by simp)) (hl u (by simp)))
  by_cases h5 : x0 = kNext ∧ t.length = 0
  · obtain ⟨rfl, ht⟩ := h5
    match t, ht with
    | [], _ => exact .inl (change_Next W A n c g cw xs w hr hw)
  have hnone := change_none W A n c g cw xs x0 t w hr hw (fun e h => h1 ⟨e, h⟩) (fun e h => h2 ⟨e, h⟩) (fun e h => h3 ⟨e, h⟩) (fun e h => h4 ⟨e, h⟩) (fun e h => h5 ⟨e, h⟩)
  refine .inr ⟨hnone, ?_⟩
  clear hnone
  by_cases h6 : x0 = kProof ∧ t.length = 2
  · obtain ⟨rfl, ht⟩ := h6
    match t, ht with
    | [x, y], _ => exact ⟨by rw [step_Proof, askO_fst], fun w' hr' hw' => ask_Proof W A n c g cw xs x y w' hr' hw' (hl x (by simp)) (hl y (by simp))⟩
  by_cases h7 : x0 = kShow ∧ t.length = 0
  · obtain ⟨rfl, ht⟩ := h7
    match t, ht with
    | [], _ =>
      refine ⟨by rw [step_Show, askO_fst], fun w' hr' hw' => ?_⟩
      cases hk : okB W xs with
      | false => exact ask_Show_no W A n c g cw xs w' hr' hw' hk
      | true => exact ask_Show_yes W A n c g cw xs w' hr' hw' hk
  by_cases h8 : x0 = kSums ∧ t.length = 0
  · obtain ⟨rfl, ht⟩ := h8
    match t, ht with
    | [], _ =>
      refine ⟨by rw [step_Sums, askO_fst], fun w' hr' hw' => ?_⟩
      cases hk : okB W xs with
      | false => exact ask_Sums_no W A n c g cw xs w' hr' hw' hk
      | true => exact ask_Sums_yes W A n c g cw xs w' hr' hw' hk
  by_cases h9 : x0 = kUnique ∧ t.length = 0
  · obtain ⟨rfl, ht⟩ := h9
    match t, ht with
    | [], _ =>
      refine ⟨by rw [step_Unique, askO_fst], fun w' hr' hw' => ?_⟩
      cases hk : okB W xs with
      | false => exact ask_Unique_no W A n c g cw xs w' hr' hw' hk
      | true => exact ask_Unique_yes W A n c g cw xs w' hr' hw' hk
  by_cases h10 : x0 = kLines ∧ t.length = 1
  · obtain ⟨rfl, ht⟩ := h10
    match t, ht with
    | [x], _ =>
      refine ⟨by rw [step_Lines, askO_fst], fun w' hr' hw' => ?_⟩
      cases hk : okB W xs with
      | false => exact ask_Lines_no W A n c g cw xs x w' hr' hw' hk
      | true => exact ask_Lines_yes W A n c g cw xs x w' hr' hw' (hl x (by simp)) hk
  have hwhat := step_what (W, xs) (x0 :: t) (by
    intro e he hx
    have hx' : x0 = e.1 := hx
    simp only [wantL, List.mem_cons, List.not_mem_nil, or_false] at he
    rw [List.length_cons]
    rcases he with rfl | rfl | rfl | rfl | rfl | rfl | rfl | rfl | rfl | rfl
    · exact fun h => h1 ⟨hx', by simp at h; omega⟩
    · exact fun h => h2 ⟨hx', by simp at h; omega⟩
    · exact fun h => h7 ⟨hx', by simp at h; omega⟩
    · exact fun h => h8 ⟨hx', by simp at h; omega⟩
    · exact fun h => h10 ⟨hx', by simp at h; omega⟩
    · exact fun h => h3 ⟨hx', by simp at h; omega⟩
    · exact fun h => h4 ⟨hx', by simp at h; omega⟩
    · exact fun h => h5 ⟨hx', by simp at h; omega⟩
    · exact fun h => h9 ⟨hx', by simp at h; omega⟩
    · exact fun h => h6 ⟨hx', by simp at h; omega⟩)
  rw [hwhat]
  refine ⟨rfl, fun w' _ hw' => ?_⟩
  match t with
  | [] => exact ask_what1 W A n c g cw x0 w' hw' (fun e => h7 ⟨e, rfl⟩) (fun e => h8 ⟨e, rfl⟩) (fun e => h9 ⟨e, rfl⟩)
  | [x] => exact ask_what2 W A n c g cw x0 x w' hw' (fun e => h10 ⟨e, rfl⟩)
  | [x, y] => exact ask_what3 W A n c g cw x0 x y w' hw' (fun e => h6 ⟨e, rfl⟩)
  | x :: y :: z :: t => exact ask_what4 W A n c g cw x0 x y z t w' hw'
end Go.Proofs.YteabnljjogiflaaGreatDoor

-- Walks: a script is executed, whole (the reference's way).
namespace Go.Proofs.YteabnljjogiflaaGreatDoor
open Go.RowKit
set_option maxRecDepth 100000

theorem sMax2 (a : Int) (w : World) : (Builtin.max_ #[3, 3] 3 #[.int .i64 0, .int .i64 a]).run Tryz.prog w = .ok (.int .i64 (max 0 a)) w := by
  simp [Builtin.max_, Builtin.max2, ← ite_max]
theorem ImR.far {w : World} {A : Option Addr} {n c : Nat} {xs : List Int} (h : ImR w A n c xs) {p : Addr} (hp : ∀ b off, A = some ⟨b, off, none⟩ → b ≠ p.block) (v : Value) : ImR (w.setCell p v) A n c xs := by
  refine ⟨⟨h.1.1, fun hn => ?_⟩, h.2⟩
  obtain ⟨b, off, e, hb, hc⟩ := h.1.2 hn
  refine ⟨b, off, e, by rw [World.size_setCell]; exact hb, fun k x hx => ?_⟩
  rw [World.cell?_setCell_far w p ⟨b, off + k, none⟩ v (fun e' => hp b off e e'.symm)]
  exact hc k x hx

set_option maxHeartbeats 4000000 in
theorem spec_Execute_long (t : Bs) (w : World) (h : 400 < t.length) :
    Calls Tryz.prog 10 #[.string (S t)] w fun e w' => e = .returned (.string (S (execT t))) ∧ Below w.heap.size w w' := by
  have hsz := S_size t
  have hT : execT t = tLong := by rw [execT, if_pos h]
  rw [hT]
  clear hT
  go_enter Tryz.func10, Tryz.ntmps10
  go_wp2
  go_ret
  exact ⟨rfl, Below.refl _ _⟩

/-- behind k bytes: d lines are done, u is the beginning of the next -/
def ExR (w wr : World) (t : Bs) (k : Nat) (d : List Bs) (u : Bs) (A : Option Addr) (n c : Nat) : Prop :=
  pcs 10 (t.take k) = d ++ [u] ∧ Blk wr w.heap.size 29 #[.int .i64 (runS d).1.1, .slice A n c] ∧ ImR wr A n c (runS d).1.2 ∧ (∀ b off, A = some ⟨b, off, none⟩ → w.heap.size < b) ∧ Below w.heap.size w wr ∧ (runS d).2.length ≤ d.length * 1001

set_option maxHeartbeats 8000000 in
theorem spec_Execute_short (t : Bs) (w : World) (h : t.length ≤ 400) :
    Calls Tryz.prog 10 #[.string (S t)] w fun e w' => e = .returned (.string (S (execT t))) ∧ Below w.heap.size w w' := by
  have hsz := S_size t
  have hgt : decide ((400 : Int) < ((t.length : Nat) : Int)) = false := by simp; omega
  have hT := Lib.hid (exec_at h)
  obtain ⟨T, hTT⟩ : ∃ T, Hid (execT t = T) := ⟨_, Lib.hid rfl⟩
  rw [hTT.out] at hT ⊢
  have hI0 : ExR w (w.alloc (.cells #[.int .i64 0, .slice none 0 0] 29)) t 0 [] [] none 0 0 :=
    ⟨rfl, Blk.new _ _ _, ⟨Rd.nil_, by omega, fun _ => ⟨rfl, rfl⟩⟩, (fun _ _ e => by cases e), lo_alloc (Below.refl _ _) _, by simp [runS]⟩
  have hI0' := Lib.hid hI0
  clear hI0
  go_enter Tryz.func10, Tryz.ntmps10
  go_wp2
  go_loopw [4, 5, 6] (fun o s i wr => ∃ (k : Nat) (d : List Bs) (u : Bs) (A : Option Addr) (n c : Nat), k ≤ t.length ∧ i = .int .i64 k ∧ s = .int .i64 ((k - u.length : Nat) : Int) ∧ o = .string (S (runS d).2) ∧ Hid (ExR w wr t k d u A n c)) (fun _ _ i _ => t.length - (intOf i).toNat)
  case atStart => exact ⟨0, [], [], none, 0, 0, Nat.zero_le _, rfl, rfl, rfl, hI0'⟩
  case round =>
    clear hI0'
    obtain ⟨k, d, u, A, n, c, hk, rfl, rfl, rfl, hI⟩ := hrel
    obtain ⟨hP, hB, hR, hA, hL, hlen⟩ := hI.out
    obtain ⟨hu1, hu2⟩ := tail_piece hk hP
    have hdl : d.length ≤ 401 := by
      have h1 := pcs_len 10 (t.take k)
      rw [hP, List.length_append, List.length_take] at h1
      omega
    have hul : u.length ≤ 400 := by omega
    have hsnoc := fun l => runS_snoc d l
    have hP' := Lib.hid hP
    obtain ⟨st, hst⟩ : ∃ st, Hid (runS d = st) := ⟨_, Lib.hid rfl⟩
    rw [hst.out] at hB hR hlen hsnoc ⊢
    obtain ⟨s, o⟩ := st
    obtain ⟨W, xs⟩ := s
    dsimp only at hB hR hlen ⊢
    clear hP hI
    by_cases hlt : k < t.length
    · have hi := fun w => idx_ok t k hlt w
      have hgt' := Lib.hid (show t.take (k + 1) = t.take k ++ [t[k]?.getD 0] by rw [take_snoc hlt, List.getElem?_eq_getElem hlt]; rfl)
      obtain ⟨s0, hs0⟩ : ∃ s0, s0 = k - u.length := ⟨_, rfl⟩
      have hsl : ∀ w, (Instr.slice 9 (.string (S t)) (some (.int .i64 ((s0 : Nat) : Int))) (some (.int .i64 (k : Int))) none).run Tryz.prog w = .ok (.string (S u)) w := fun w => by
        have := slc_ok t s0 k (by omega) (by omega) w
        rw [hs0, show k - (k - u.length) = u.length by omega, hu2] at this
        rw [hs0]
        exact this
      rw [← hs0]
      have hs0' := Lib.hid hs0
      have hsk : s0 ≤ k := by omega
      generalize t[k]?.getD 0 = x at hi hgt'
      have hcl := x.toNat_lt
      clear hu2 hs0
      by_cases h10 : x = 10
      · have g1 : (((x.toNat : Nat) : Int) != 10) = false := by subst h10; rfl
        have hN := Lib.hid (show pcs 10 (t.take (k + 1)) = (d ++ [u]) ++ [[]] by rw [hgt'.out, h10]; exact Pc.hit hP'.out)
        have hrun := Lib.hid (hsnoc u)
        clear h10 hsnoc
        go_wp2_with fail
        refine (l51Cut_c u _ (by omega)).mono ?_
        rintro e w4 ⟨R4, d4, rfl, hS4, hb4⟩
        have hwl : ∀ y ∈ pcs 32 u, y.length ≤ 1000 := fun y hy => by have := pcs_piece 32 u y hy; omega
        obtain ⟨g, rfl, hg, hW4⟩ := hS4.wb (pcs_ne 32 u)
        have hB4 := hB.next hb4
        have hR4 := hR.next hb4
        have hL4 := lo_trans hL hb4
        have hany := line_any W A n c g d4 xs (pcs 32 u) w4 hR4 hW4 (pcs_ne 32 u) hwl
        have hln := stepS_len (W, xs) (pcs 32 u)
        obtain ⟨P, hPe⟩ : ∃ P, Hid (stepS (W, xs) (pcs 32 u) = P) := ⟨_, Lib.hid rfl⟩
        have hrun2 := Lib.hid (show runS (d ++ [u]) = (P.1, o ++ P.2) by rw [hrun.out, ← hPe.out]; rfl)
        rw [hPe.out] at hany hln
        obtain ⟨⟨PW, Px⟩, Pt⟩ := P
        dsimp only at hln hany hrun2
        have hct : ∀ w, (Op.stringOp .add (S o) (S Pt)).run Tryz.prog w = .ok (.string (S (o ++ Pt))) w := fun w => cat_ok o Pt (by omega) w
        obtain ⟨ot, hot⟩ : ∃ ot, Hid (o ++ Pt = ot) := ⟨_, Lib.hid rfl⟩
        have hotl : ot.length ≤ (d ++ [u]).length * 1001 := by
          rw [← hot.out, List.length_append, List.length_append, List.length_singleton]; omega
        rw [hot.out] at hct hrun2
        have p0 := hB4.cell 0
        have p1 := hB4.cell 1
        have hz4 := hB4.lt
        clear hB hR hL hS4 hwl hrun hPe
        rcases hany with hch | ⟨hno, hfst, hask⟩
        · go_wp2_with fail
          refine hch.mono ?_
          rintro e w5 ⟨R, r, k', he, hr5, hb5, hRA⟩
          replace he : e = .returned (.tuple #[.agg #[.int .i64 PW, .slice R r k'], .string (S Pt), .bool true]) := he
          replace hr5 : ImR w5 R r k' Px := hr5
          subst he
          have hB5 := (hB4.next hb5).alloc (.cells #[.int .i64 PW, .slice R r k'] 29)
          have hD5 := Blk.new w5 29 #[.int .i64 PW, .slice R r k']
          have hr6 := hr5.next (lo_alloc (Below.refl w5.heap.size w5) (.cells #[.int .i64 PW, .slice R r k'] 29))
          have hL6 := lo_alloc (lo_trans hL4 hb5) (.cells #[.int .i64 PW, .slice R r k'] 29)
          have hz5 := hb5.size
          have hRp : ∀ b off, R = some ⟨b, off, none⟩ → w.heap.size < b := by
            intro b off e
            rcases hRA with rfl | h1
            · exact hA b off e
            · have := h1 b off e; omega
          have q0 := hB5.cell 0
          have q1 := hB5.cell 1
          have f0 := hB5.frozen 0
          have f1 := hB5.frozen 1
          have x0 := hD5.cell 0
          have x1 := hD5.cell 1
          have hF := (hB5.set_ 0 (.int .i64 PW)).set_ 1 (.slice R r k')
          have hr7 := (hr6.far (p := ⟨w.heap.size, 0, none⟩) (fun b off e => by have := hRp b off e; simp only; omega) (.int .i64 PW)).far (p := ⟨w.heap.size, 1, none⟩) (fun b off e => by have := hRp b off e; simp only; omega) (.slice R r k')
          have hL7 := lo_set (lo_set hL6 (p := ⟨w.heap.size, 0, none⟩) (Nat.le_refl _) (.int .i64 PW)) (p := ⟨w.heap.size, 1, none⟩) (Nat.le_refl _) (.slice R r k')
          have hX := Lib.hid (show ExR w (((w5.alloc (.cells #[.int .i64 PW, .slice R r k'] 29)).setCell ⟨w.heap.size, 0, none⟩ (.int .i64 PW)).setCell ⟨w.heap.size, 1, none⟩ (.slice R r k')) t (k + 1) (d ++ [u]) [] R r k' from
            ⟨hN.out, by rw [hrun2.out]; exact hF, by rw [hrun2.out]; exact hr7, hRp, hL7, by rw [hrun2.out]; exact hotl⟩)
          clear hch hb5 hRA p0 p1 hB4 hR4 hF hr7 hL7 hB5 hD5 hr6 hL6 hL4 hW4 hb4 hN
          go_wp2
          go_roundw
          case rel => exact ⟨k + 1, d ++ [u], [], R, r, k', by omega, by go_num, by go_num, by rw [hrun2.out], hX⟩
          case measure => simp [intOf]; omega
        · obtain ⟨rfl, rfl⟩ := Prod.mk.inj hfst
          clear hfst
          go_wp2_with fail
          refine hno.mono ?_
          rintro e w5 ⟨he, hb5⟩
          replace he : e = .returned (.tuple #[.agg #[.int .i64 PW, .slice A n c], .string (S []), .bool false]) := he
          subst he
          have hB6 := (hB4.next hb5).alloc (.cells #[.int .i64 PW, .slice A n c] 29)
          have hb6 := lo_alloc hb5 (.cells #[.int .i64 PW, .slice A n c] 29)
          have hR6 := hR4.next hb6
          have hW6 := hW4.next hb6
          have hL6 := lo_trans hL4 hb6
          clear p0 p1
          have p0 := hB6.cell 0
          have p1 := hB6.cell 1
          have hask6 := hask _ hR6 hW6
          clear hask hno hb5 hb6 hB4 hR4 hW4 hL4
          go_wp2_with fail
          refine hask6.mono ?_
          rintro e w7 ⟨rfl, hb7⟩
          have hX := Lib.hid (show ExR w w7 t (k + 1) (d ++ [u]) [] A n c from
            ⟨hN.out, by rw [hrun2.out]; exact hB6.next hb7, by rw [hrun2.out]; exact hR6.next hb7, hA, lo_trans hL6 hb7, by rw [hrun2.out]; exact hotl⟩)
          clear hask6 hb7 p0 p1 hB6 hR6 hW6 hL6 hN
          go_wp2
          go_roundw
          case rel => exact ⟨k + 1, d ++ [u], [], A, n, c, by omega, by go_num, by go_num, by rw [hrun2.out], hX⟩
          case measure => simp [intOf]; omega
      · have g1 : (((x.toNat : Nat) : Int) != 10) = true := by
          rw [bne_iff_ne]
          intro e
          exact h10 (UInt8.toNat_inj.1 (by show x.toNat = 10; omega))
        have hN := Lib.hid (show ExR w wr t (k + 1) d (u ++ [x]) A n c from ⟨by rw [hgt'.out]; exact Pc.miss h10 hP'.out, by rw [hst.out]; exact hB, by rw [hst.out]; exact hR, hA, hL, by rw [hst.out]; exact hlen⟩)
        have hs1 : s0 = k + 1 - (u ++ [x]).length := by rw [List.length_append, List.length_singleton, hs0'.out]; omega
        have hs1' := Lib.hid hs1
        clear h10 hsnoc hs1
        go_wp2
        go_roundw
        case rel => exact ⟨k + 1, d, u ++ [x], A, n, c, by omega, by go_num, by rw [← hs1'.out], by rw [hst.out], hN⟩
        case measure => simp [intOf]; omega
    · obtain rfl : k = t.length := by omega
      have hP9 := hP'.out
      rw [List.take_length] at hP9
      have hdl2 : linesOf t = d := by rw [linesOf, hP9, List.dropLast_concat]
      have hTe := hT.out
      rw [hdl2, hst.out] at hTe
      have hml := manyI_lt (W, xs)
      have hmx := manyV_max (W, xs)
      dsimp only at hTe hmx
      obtain ⟨mn, hmn⟩ : ∃ mn, Hid (manyI (W, xs) = mn) := ⟨_, Lib.hid rfl⟩
      have hTe2 : T = (o ++ tCells) ++ dec2 mn ++ [10] := by rw [hTe, cellsT, hmn.out]; simp
      rw [hmn.out] at hml hmx
      have hdn := dec2_len mn
      have hdec := fun w => l6Dec_c mn hml w
      obtain ⟨dm, hdm⟩ : ∃ dm, Hid (dec2 mn = dm) := ⟨_, Lib.hid rfl⟩
      rw [hdm.out] at hTe2 hdn hdec
      have e1 : ∀ w, (Op.stringOp .add (S o) ({ data := #[99, 101, 108, 108, 115, 32] } : ByteArray)).run Tryz.prog w = .ok (.string (S (o ++ tCells))) w := fun w => cat_ok o tCells (by simp [tCells]; omega) w
      obtain ⟨o2, ho2⟩ : ∃ o2, Hid (o ++ tCells = o2) := ⟨_, Lib.hid rfl⟩
      have ho2l : o2.length ≤ 1000000 := by rw [← ho2.out, List.length_append]; simp [tCells]; omega
      rw [ho2.out] at e1 hTe2
      have e2 : ∀ w, (Op.stringOp .add (S o2) (S dm)).run Tryz.prog w = .ok (.string (S (o2 ++ dm))) w := fun w => cat_ok o2 dm (by omega) w
      obtain ⟨o3, ho3⟩ : ∃ o3, Hid (o2 ++ dm = o3) := ⟨_, Lib.hid rfl⟩
      have ho3l : o3.length ≤ 2000000 := by rw [← ho3.out, List.length_append]; omega
      rw [ho3.out] at e2 hTe2
      have e3 : ∀ w, (Op.stringOp .add (S o3) ({ data := #[10] } : ByteArray)).run Tryz.prog w = .ok (.string (S T)) w := fun w => by
        rw [hTe2]; exact cat_ok o3 [10] (by simp; omega) w
      have hmx' := sMax2 (manyV W xs)
      rw [hmx] at hmx'
      have p0 := hB.cell 0
      have p1 := hB.cell 1
      have hmany := spec_ImageMany_w W A n c xs wr hR.1 (by have := hR.2.1; omega)
      generalize manyV W xs = mv at hmx' hmany
      clear hTe hTe2 hmx hP9 hdl2 hsnoc
      go_wp2_with fail
      refine hmany.mono ?_
      rintro e w1 ⟨rfl, hb1⟩
      go_wp2_with fail
      refine (hdec _).mono ?_
      rintro e w2 ⟨rfl, hb2⟩
      go_wp2
      go_ret
      exact ⟨rfl, lo_trans (lo_trans hL hb1) hb2⟩

theorem spec_Execute_c (t : Bs) (w : World) : Calls Tryz.prog 10 #[.string (S t)] w fun e w' => e = .returned (.string (S (execT t))) ∧ Below w.heap.size w w' := by
  rcases Nat.lt_or_ge 400 t.length with h | h
  · exact spec_Execute_long t w h
  · exact spec_Execute_short t w h
end Go.Proofs.YteabnljjogiflaaGreatDoor
