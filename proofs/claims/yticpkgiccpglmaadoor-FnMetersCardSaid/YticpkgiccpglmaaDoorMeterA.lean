/-
  The contract of UsedBetween, of the program and of the reference.
-/
import Derived.Test.YticpkgiccpglmaaDoorInts
import Derived.Test.YticpkgiccpglmaaDoorMore
namespace Go.Proofs.YticpkgiccpglmaaDoor
open Go.RowKit

/-- what was used between two readings -/
def usedF (a b : Int) : Int := if inB a 0 99999 = true ∧ inB b 0 99999 = true then (if b < a then b - a + 100000 else b - a) else -1
theorem usedF_ok {a b : Int} (h1 : inB a 0 99999 = true) (h2 : inB b 0 99999 = true) : usedF a b = (if b < a then b - a + 100000 else b - a) := if_pos ⟨h1, h2⟩
theorem usedF_mod {a b : Int} (h1 : inB a 0 99999 = true) (h2 : inB b 0 99999 = true) : usedF a b = (b - a + 100000).tmod 100000 := by
  rw [usedF_ok h1 h2]
  have := inB_yes h1
  have := inB_yes h2
  rw [Int.tmod_eq_emod_of_nonneg (by omega)]
  split <;> omega
theorem usedF_no {a b : Int} (h : ¬ (inB a 0 99999 = true ∧ inB b 0 99999 = true)) : usedF a b = -1 := if_neg h
theorem usedF_bd (a b : Int) : -1 ≤ usedF a b ∧ usedF a b ≤ 99999 := by
  unfold usedF
  split
  · rename_i h
    have := inB_yes h.1
    have := inB_yes h.2
    split <;> omega
  · omega
theorem used_c (a b : Int) (w : World) : Calls Tryd.prog 12 #[.int .i64 a, .int .i64 b] w fun e w' => e = .returned (.int .i64 (usedF a b)) ∧ w = w' := by
  by_cases h1 : inB a 0 99999 = true
  · by_cases h2 : inB b 0 99999 = true
    · have H := usedF_mod h1 h2
      have H' := Lib.hid H
      clear H
      obtain ⟨a1, a2⟩ := inB_yes h1
      obtain ⟨b1, b2⟩ := inB_yes h2
      go_enter Tryd.func12, Tryd.ntmps12
      go_wp2_with (go_at_call 18; refine (within_c _ _ _ _).mono ?_; rintro e w' ⟨rfl, rfl⟩)
      go_ret
      refine ⟨ret_int ?_, rfl⟩
      rw [H'.out]
      try (rw [Int.tmod_eq_emod_of_nonneg (by omega)])
    · have H := Lib.hid (usedF_no (a := a) (b := b) (fun e => h2 e.2))
      go_enter Tryd.func12, Tryd.ntmps12
      go_wp2_with (go_at_call 18; refine (within_c _ _ _ _).mono ?_; rintro e w' ⟨rfl, rfl⟩)
      go_ret
      exact ⟨ret_int H.out.symm, rfl⟩
  · have H := Lib.hid (usedF_no (a := a) (b := b) (fun e => h1 e.1))
    go_enter Tryd.func12, Tryd.ntmps12
    go_wp2_with (go_at_call 18; refine (within_c _ _ _ _).mono ?_; rintro e w' ⟨rfl, rfl⟩)
    go_ret
    exact ⟨ret_int H.out.symm, rfl⟩
theorem l24Ok_c (n : Int) (w : World) : Calls Tryd.prog 16 #[.int .i64 n] w fun e w' => e = .returned (.bool (inB n 0 99999)) ∧ w = w' := by
  go_enter Tryd.func16, Tryd.ntmps16
  go_wp2_with (go_at_call 26; refine (l01In_c _ _ _ _).mono ?_; rintro e w' ⟨rfl, rfl⟩)
  go_ret
  exact ⟨rfl, rfl⟩
end Go.Proofs.YticpkgiccpglmaaDoor
