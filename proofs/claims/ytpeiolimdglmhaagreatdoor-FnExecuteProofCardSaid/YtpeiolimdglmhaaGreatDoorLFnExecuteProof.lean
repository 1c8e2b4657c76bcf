/- The walk of the law FnExecuteProof: it returns true for every slice of bytes, where the table of directions is as the program lays it. -/
import Derived.Test.YtpeiolimdglmhaaGreatDoorZ40
import Derived.Test.YtpeiolimdglmhaaGreatDoorDw
import Derived.Test.YtpeiolimdglmhaaGreatDoorZ10
namespace Go.Proofs.YtpeiolimdglmhaaGreatDoor
open Go.RowKit
set_option maxRecDepth 100000

set_option maxHeartbeats 8000000 in
theorem law_ExecuteProof (A : Option Addr) (n c : Nat) (w : World) (hr : RdB w A n) (hb : n ≤ maxLen ∧ n ≤ c) (hD : Dir w) :
    Calls Tryz.prog 8 #[.slice A n c] w fun e w' => e = .returned (.bool true) ∧ Below w.heap.size w w' := by
  obtain ⟨hl, hc⟩ := hb
  unfold maxLen at hl
  by_cases h : 1048576 < n
  · go_enter Tryz.func8, Tryz.ntmps8
    go_wp2
    go_ret
    exact ⟨rfl, Below.refl _ _⟩
  go_enter Tryz.func8, Tryz.ntmps8
  go_wp2_with fail
  refine (DrawSumsValid_c A n c _ hr (by omega) hc).mono ?_
  rintro e w1 ⟨R, a, c1, Q, b, c2, xs, ys, rfl, ha, hb, hac, hbc, hR, hQ, hL⟩
  go_wp2_with fail
  refine (SumsValid_c R Q a b c1 c2 xs ys _ hR.rd hQ.rd (by omega) (by omega)).mono ?_
  rintro e w2 ⟨rfl, rfl⟩
  go_wp2_with fail
  refine (spec_SumsValid_c R Q a b c1 c2 xs ys _ hR.rd hQ.rd (by omega) (by omega)).mono ?_
  rintro e w3 ⟨rfl, rfl⟩
  cases hs : sV xs ys with
  | false =>
    clear hs
    go_wp2
    go_ret
    exact ⟨rfl, hL⟩
  | true =>
    have hso := sV_out hs
    obtain ⟨h1, h2, h3, h4, h5, h6⟩ := hso
    have hx := Lib.hid (fun x hx => by have := h5 x hx; omega : ∀ x ∈ xs, 0 ≤ x ∧ x ≤ 9)
    have hy := Lib.hid (fun x hx => by have := h6 x hx; omega : ∀ x ∈ ys, 0 ≤ x ∧ x ≤ 9)
    have hln := proof_line hs
    have hdx := fun w hr => digitsOf_c R a c1 xs w hr (by omega) hx.out
    have hdy := fun w hr => digitsOf_c Q b c2 ys w hr (by omega) hy.out
    have hpf := fun w hr hq => impl_ProofOf_c R Q a b c1 c2 xs ys w hr hq (by omega) (by omega)
    have hx6 := digS_len xs
    have hy6 := digS_len ys
    have hpt : ∀ t : Nat, pOf xs ys = some t → t < 7 := fun t hp => by
      have := List.mem_of_find?_eq_some hp
      simpa using this
    generalize digS xs = DX at hdx hln hx6
    generalize digS ys = DY at hdy hln hy6
    have k1 : ∀ w, (Op.stringOp .add ({ data := #[112, 114, 111, 111, 102, 32] } : ByteArray) (S DX)).run Tryz.prog w = .ok (.string (S (kProof ++ [32] ++ DX))) w := fun w => cat_ok [112, 114, 111, 111, 102, 32] DX (by simp; omega) w
    have k2 : ∀ w, (Op.stringOp .add (S (kProof ++ [32] ++ DX)) ({ data := #[32] } : ByteArray)).run Tryz.prog w = .ok (.string (S (kProof ++ [32] ++ DX ++ [32]))) w := fun w => cat_ok (kProof ++ [32] ++ DX) [32] (by simp [kProof]; omega) w
    have k3 : ∀ w, (Op.stringOp .add (S (kProof ++ [32] ++ DX ++ [32])) (S DY)).run Tryz.prog w = .ok (.string (S (kProof ++ [32] ++ DX ++ [32] ++ DY))) w := fun w => cat_ok (kProof ++ [32] ++ DX ++ [32]) DY (by simp [kProof]; omega) w
    have k4 : ∀ w, (Op.stringOp .add (S (kProof ++ [32] ++ DX ++ [32] ++ DY)) ({ data := #[10] } : ByteArray)).run Tryz.prog w = .ok (.string (S (kProof ++ [32] ++ DX ++ [32] ++ DY ++ [10]))) w := fun w => cat_ok (kProof ++ [32] ++ DX ++ [32] ++ DY) [10] (by simp [kProof]; omega) w
    have hex := fun w hD => impl_Execute_c (kProof ++ [32] ++ DX ++ [32] ++ DY ++ [10]) w hD
    rw [hln] at hex
    generalize kProof ++ [32] ++ DX ++ [32] ++ DY ++ [10] = y4 at k4 hex
    generalize kProof ++ [32] ++ DX ++ [32] ++ DY = y3 at k3 k4
    generalize kProof ++ [32] ++ DX ++ [32] = y2 at k2 k3
    generalize kProof ++ [32] ++ DX = y1 at k1 k2
    clear hln h5 h6 hs hx6 hy6
    go_wp2_with fail
    refine (hpf _ hR.rd hQ.rd).mono ?_
    rintro e w4 ⟨rfl, hb4⟩
    have hR4 := hR.rd.next hb4
    have hQ4 := hQ.rd.next hb4
    have hL4 := lo_trans hL hb4
    clear hpf hb4
    cases hp : pOf xs ys with
    | none =>
      rw [hp] at hex
      have j1 : ∀ w, (Op.stringOp .add ({ data := #[110, 111, 10] } : ByteArray) ({ data := #[99, 101, 108, 108, 115, 32, 48, 10] } : ByteArray)).run Tryz.prog w = .ok (.string (S ([110, 111, 10] ++ [99, 101, 108, 108, 115, 32, 48, 10]))) w := fun w => cat_ok [110, 111, 10] [99, 101, 108, 108, 115, 32, 48, 10] (by simp) w
      dsimp only at hex
      generalize ([110, 111, 10] ++ [99, 101, 108, 108, 115, 32, 48, 10] : Bs) = z at j1 hex
      clear hp hpt
      rw [show pVal none = .tuple #[.int .i64 0, .bool false] from rfl]
      go_wp2_with fail
      refine (hdx _ hR4).mono ?_
      rintro e w5 ⟨rfl, hb5⟩
      have hQ5 := hQ4.next hb5
      have hL5 := lo_trans hL4 hb5
      clear hdx hb5
      go_wp2_with fail
      refine (hdy _ hQ5).mono ?_
      rintro e w6 ⟨rfl, hb6⟩
      have hL6 := lo_trans hL5 hb6
      clear hdy hb6
      go_wp2_with fail
      refine (hex _ (hD.next hL6)).mono ?_
      rintro e w7 ⟨rfl, hb7⟩
      have hL7 := lo_trans hL6 hb7
      clear hex hb7
      go_wp2
      go_ret
      exact ⟨rfl, hL7⟩
    | some t =>
      rw [hp] at hex
      have ht := hpt t hp
      have hdt := fun w (hr : Rd w (some ⟨w4.heap.size, 0, none⟩) 1 [(t : Int)]) => digitsOf_c (some ⟨w4.heap.size, 0, none⟩) 1 1 [(t : Int)] w hr (by omega) (fun x hx => by rw [List.mem_singleton] at hx; subst hx; omega)
      have hdl := digS_len [(t : Int)]
      rw [List.length_singleton] at hdl
      have hRt : Rd (w4.alloc (.cells #[.int .i64 (t : Int)] 3)) (some ⟨w4.heap.size, 0, none⟩) 1 [(t : Int)] := Rd.of_blk (cs := [(t : Int)]) (Blk.new w4 3 #[.int .i64 (t : Int)])
      have hL4a := lo_alloc hL4 (.cells #[.int .i64 (t : Int)] 3)
      dsimp only at hex
      generalize digS [(t : Int)] = D at hdt hdl hex
      have j0 : ∀ w, (Op.stringOp .add (S D) ({ data := #[10] } : ByteArray)).run Tryz.prog w = .ok (.string (S (D ++ [10]))) w := fun w => cat_ok D [10] (by simp; omega) w
      have j1 : ∀ w, (Op.stringOp .add (S (D ++ [10])) ({ data := #[99, 101, 108, 108, 115, 32, 48, 10] } : ByteArray)).run Tryz.prog w = .ok (.string (S (D ++ [10] ++ [99, 101, 108, 108, 115, 32, 48, 10]))) w := fun w => cat_ok (D ++ [10]) [99, 101, 108, 108, 115, 32, 48, 10] (by simp; omega) w
      generalize D ++ [10] ++ [99, 101, 108, 108, 115, 32, 48, 10] = z at j1 hex
      generalize D ++ [10] = y5 at j0 j1
      clear hp hpt hdl
      rw [show pVal (some t) = .tuple #[.int .i64 (t : Int), .bool true] from rfl]
      go_wp2_with fail
      refine (hdt _ hRt).mono ?_
      rintro e w4b ⟨rfl, hb4⟩
      have hR5 := (hR4.alloc (.cells #[.int .i64 (t : Int)] 3)).next hb4
      have hQ5 := (hQ4.alloc (.cells #[.int .i64 (t : Int)] 3)).next hb4
      have hL5 := lo_trans hL4a hb4
      clear hdt hb4 hR4 hQ4 hRt hL4a
      go_wp2_with fail
      refine (hdx _ hR5).mono ?_
      rintro e w5 ⟨rfl, hb5⟩
      have hQ6 := hQ5.next hb5
      have hL6 := lo_trans hL5 hb5
      clear hdx hb5
      go_wp2_with fail
      refine (hdy _ hQ6).mono ?_
      rintro e w6 ⟨rfl, hb6⟩
      have hL7 := lo_trans hL6 hb6
      clear hdy hb6
      go_wp2_with fail
      refine (hex _ (hD.next hL7)).mono ?_
      rintro e w7 ⟨rfl, hb7⟩
      have hL8 := lo_trans hL7 hb7
      clear hex hb7
      go_wp2
      go_ret
      exact ⟨rfl, hL8⟩
end Go.Proofs.YtpeiolimdglmhaaGreatDoor
