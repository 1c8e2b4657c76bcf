/- Plain facts and walks that the law's proof uses; each says its own conditions. -/
import Derived.Test.YtpeiolimdglmhaaGreatDoorZ05
import Derived.Test.YtpeiolimdglmhaaGreatDoorZ17
import Derived.Test.YtpeiolimdglmhaaGreatDoorZ10
-- Walks: strings.Split at a separator of one byte; the number of a digit or two in decimals; a suffix cut off.
namespace Go.Proofs.YtpeiolimdglmhaaGreatDoor
open Go.RowKit
set_option maxRecDepth 100000

theorem itoa_dec {n : Nat} (h : n < 100) : Lib.decDigits n = dec2 n := by
  unfold dec2
  split
  · next h1 => exact Lib.decDigits_one h1
  · next h1 => exact Lib.decDigits_two h1 h
theorem Itoa_c (n : Nat) (h : n < 100) (w : World) : Calls Tryz.prog 47 #[.int .i64 (n : Int)] w fun e w' => e = .returned (.string (S (dec2 n))) ∧ w' = w := by
  have := Tryz.strconv_Itoa_small n h w
  rw [itoa_dec h] at this
  exact this
theorem infoStr : (Tryz.prog.info? 9).map (fun i => (i.zero, i.size, i.bytes)) = some (some (.string ByteArray.empty), 1, 16) := by kernel_rfl
theorem TrimSuffix_c (l p : Bs) (w : World) (hl : l.length ≤ 1048576) : Calls Tryz.prog 84 #[.string (S l), .string (S p)] w fun e w' => e = .returned (.string (S (Lib.trimSuffix l p))) ∧ w' = w := by
  have := Tryz.strings_TrimSuffix (S l) (S p) w (by rw [S_size]; omega)
  exact this

/-- the strings of a list, as cells -/
def strs (ls : List Bs) : Array Value := (ls.map (fun l => Value.string (S l))).toArray
theorem strs_get (ls : List Bs) (k : Nat) : (strs ls)[k]? = ls[k]?.map (fun l => Value.string (S l)) := by simp [strs]
set_option maxHeartbeats 1000000 in
theorem Split_c (l : Bs) (c : UInt8) (w : World) (hl : l.length ≤ 1048576) : Calls Tryz.prog 44 #[.string (S l), .string (S [c])] w fun e w' =>
    e = .returned (.slice (some ⟨w.heap.size, 0, none⟩) (pcs c l).length (pcs c l).length) ∧ w' = w.alloc (.cells (strs (pcs c l)) 9) := by
  have hd : (S l).data.toList = l := by simp [S]
  have hle := Lib.countB_le (S [c]) (by simp [S_size]) (S l).size (S l) (Nat.le_refl _)
  have hlen := Lib.splitB_all (S [c]) (by simp [S_size]) 0 _ (S l) rfl
  have hcnt : (Lib.countB (S l) (S [c]) : Int) = (Lib.countByte (S l).data.toList c : Nat) := by
    show ((Lib.count (S l).data.toList [c] : Nat) : Int) = _
    rw [Lib.count_one]; rfl
  have k := Any.strings_genSplit_core Tryz.lays221 infoStr (S l) (S [c]) 0 (-1) (Lib.countB (S l) (S [c]) + 1) w (by rw [S_size]; omega) (by simp [S_size]) (Nat.zero_le _)
    (fun x cs _ => (Tryz.strings_Index_one x c _).mono fun e w' ⟨he, hw⟩ => ⟨by
      rw [he]
      show Ending.returned (.int .i64 (Lib.indexByte x.data.toList c)) = Ending.returned (.int .i64 (Lib.index x.data.toList [c]))
      rw [Lib.index_one], hw⟩)
    ((Tryz.strings_Count_one (S l) c w).mono fun e w' ⟨he, hw⟩ => ⟨by rw [he, hcnt], hw⟩)
    (by decide) (by decide) (by rw [if_pos (by decide)]; omega)
  rw [Nat.add_sub_cancel, hlen] at k
  have e2 : Lib.cellsOf (Lib.splitB (S [c]) 0 (Lib.countB (S l) (S [c])) (S l)) (Lib.countB (S l) (S [c]) + 1) = strs (pcs c l) := by
    rw [← hlen, Lib.cellsOf_full, ← splitB_pcs c l]
    simp only [strs, List.map_map]
    congr 1
  have e3 : Lib.countB (S l) (S [c]) + 1 = (pcs c l).length := by rw [← splitB_pcs c l, List.length_map]; exact hlen.symm
  rw [e2, e3] at k
  go_enter Tryz.func44, Tryz.ntmps44
  go_wp2_with fail
  refine k.mono ?_
  rintro e w1 ⟨rfl, rfl⟩
  go_wp2
  go_ret
  exact ⟨rfl, rfl⟩
end Go.Proofs.YtpeiolimdglmhaaGreatDoor

-- Walks: the words of a line (the reference's way).
namespace Go.Proofs.YtpeiolimdglmhaaGreatDoor
open Go.RowKit
set_option maxRecDepth 100000

/-- the slice at A with capacity c is a row of one's own, from block base on, and holds the words ws -/
def SBuf (w : World) (base : Nat) (A : Option Addr) (c : Nat) (ws : List Bs) : Prop := w.ownsRow base 9 1 (.slice A ws.length c) ws.length (ws.map (fun x => Value.string (S x)))
section
variable {w w' : World} {base : Nat} {A : Option Addr} {c : Nat} {ws : List Bs}
theorem SBuf.form (h : SBuf w base A c ws) : (A = none ∧ ws = []) ∨ ∃ g cs, A = some ⟨g, 0, none⟩ ∧ base ≤ g ∧ Blk w g 9 cs ∧ ∀ (k : Nat) (x : Bs), ws[k]? = some x → cs[k]? = some (.string (S x)) := by
  rcases h.2 with ⟨hv, hn⟩ | ⟨g, cap, cur, hv, hb, hh, hn, hm, hs, ht⟩
  · injection hv with h1 h2 h3
    exact .inl ⟨h1, List.eq_nil_of_length_eq_zero h2⟩
  · injection hv with h1 h2 h3
    refine .inr ⟨g, cur, h1, hb, hh, fun k x hx => ?_⟩
    have hk : k < ws.length := by
      rcases Nat.lt_or_ge k ws.length with h | h
      · exact h
      · rw [List.getElem?_eq_none h] at hx; cases hx
    have e : (cur.toList.take (ws.length * 1))[k]? = (ws.map (fun x => Value.string (S x)))[k]? := by rw [ht]
    rw [List.getElem?_take, if_pos (by omega), List.getElem?_map, hx] at e
    simpa using e
theorem SBuf.kept (h : SBuf w base A c ws) {row : Option Nat} (hg : w.grownBy w' row) (hne : ∀ g, A = some ⟨g, 0, none⟩ → row ≠ some g) : SBuf w' base A c ws := by
  refine World.ownsRow.kept h hg ?_
  rcases h.form with ⟨rfl, _⟩ | ⟨g, cs, rfl, _⟩
  · exact .inl rfl
  · exact .inr (fun e => hne g rfl e.symm)
theorem SBuf.next (h : SBuf w base A c ws) (hb : Below w.heap.size w w') : SBuf w' base A c ws := h.kept (grown_of_below hb none) (fun _ _ e => by cases e)
theorem SBuf.empty (w : World) {base : Nat} (hb : base ≤ w.heap.size) : SBuf (w.alloc (.cells #[] 9)) base (some ⟨w.heap.size, 0, none⟩) 0 [] :=
  ⟨rfl, .inr ⟨w.heap.size, 0, #[], rfl, hb, Blk.new _ _ _, Nat.le_refl _, Nat.zero_le _, rfl, rfl⟩⟩
end
theorem tail_piece {c : UInt8} {l : Bs} {k : Nat} {d : List Bs} {u : Bs} (hk : k ≤ l.length) (h : pcs c (l.take k) = d ++ [u]) : u.length ≤ k ∧ (l.drop (k - u.length)).take u.length = u := by
  obtain ⟨t, ht, _⟩ := pcs_sum h
  have hl := congrArg List.length ht
  rw [List.length_take, List.length_append] at hl
  refine ⟨by omega, ?_⟩
  have e : l = (t ++ u) ++ l.drop k := by rw [← ht, List.take_append_drop]
  have hk2 : k - u.length = t.length := by omega
  rw [hk2, e]
  simp
end Go.Proofs.YtpeiolimdglmhaaGreatDoor
