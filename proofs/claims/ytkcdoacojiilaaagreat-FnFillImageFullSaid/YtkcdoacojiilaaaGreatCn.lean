
/- Walks: a copy of a slice of integers. -/
import Derived.Test.YtkcdoacojiilaaaGreatKb
import Derived.Test.YtkcdoacojiilaaaGreatKd
namespace Go.Proofs.YtkcdoacojiilaaaGreat
open Go.RowKit

set_option maxHeartbeats 1000000 in
theorem Clone_c2 (A : Option Addr) (n c : Nat) (xs : List Int) (w : World) (hr : Rd w A n xs) (hn0 : 0 < n) (hn : n ≤ 1048576) :
    Calls Tryz.prog 23 #[.slice A n c] w fun e w' => ∃ g c', e = .returned (.slice (some ⟨g, 0, none⟩) n c') ∧ Below w.heap.size w w' ∧ Own w' w.heap.size (some ⟨g, 0, none⟩) n xs ∧ n ≤ c' ∧ c' ≤ maxLen := by
  obtain ⟨b, off, rfl, hb, hcc⟩ := hr.2 hn0
  have hnil := fun w' => Lib.run_eql_slice_nil (P := Tryz.prog) w' 23 3 (some ⟨b, off, none⟩) n c 0 0 Tryz.underlying23
  have hB0 : Buf (w.alloc (.cells #[] 3)) w.heap.size (some ⟨w.heap.size, 0, none⟩) 0 [] := Buf.lit w w.heap.size [] (Nat.le_refl _) (Nat.zero_le _)
  have hrd : Rd (w.alloc (.cells #[] 3)) (some ⟨b, off, none⟩) n xs := hr.alloc _
  go_enter Tryz.func23, Tryz.ntmps23
  go_wp2_with (at_builtin; refine (wpl_append rfl _ _ rfl w.heap.size _ 0 0 [] rfl rfl hB0 _ n c xs rfl hrd hn0 (by omega) (by simp) ?_); intro g c' w4 hB4 hg4 hat)
  go_ret
  have h1 := hB4.own
  simp only [List.nil_append, hr.1] at h1
  have hcap : n ≤ c' ∧ c' ≤ maxLen := by
    rcases hB4.2 with ⟨hv, _⟩ | ⟨g', cap, cur, hv, _, _, h3, h4, _⟩
    · cases hv
    · injection hv with _ _ h5
      subst h5
      simp only [List.nil_append, hr.1] at h3
      exact ⟨h3, h4⟩
  refine ⟨g, c', by simp, ?_, h1, hcap⟩
  exact lo_grown (lo_alloc (Below.refl w.heap.size w) (.cells #[] 3)) hg4 (fun g hg => rowA_ge hB0 g hg)

theorem Clone_c (A : Option Addr) (n c : Nat) (xs : List Int) (w : World) (hr : Rd w A n xs) (hn0 : 0 < n) (hn : n ≤ 1048576) :
    Calls Tryz.prog 23 #[.slice A n c] w fun e w' => ∃ g c', e = .returned (.slice (some ⟨g, 0, none⟩) n c') ∧ Below w.heap.size w w' ∧ Own w' w.heap.size (some ⟨g, 0, none⟩) n xs :=
  (Clone_c2 A n c xs w hr hn0 hn).mono fun _ _ ⟨g, c', h1, h2, h3, _⟩ => ⟨g, c', h1, h2, h3⟩
end Go.Proofs.YtkcdoacojiilaaaGreat
