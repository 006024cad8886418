/-
  The contract of UsedBetween, of the program and of the reference.
-/
import Derived.Test.YticpkgiccpglmaaInts
import Derived.Test.YticpkgiccpglmaaMore
namespace Go.Proofs.Yticpkgiccpglmaa
open Go.RowKit

/-- what was used between two readings -/
def usedF (a b : Int) : Int := if inB a 0 99999 = true ∧ inB b 0 99999 = true then (if b < a then b - a + 100000 else b - a) else -1
theorem usedF_ok {a b : Int} (h1 : inB a 0 99999 = true) (h2 : inB b 0 99999 = true) : usedF a b = (if b < a then b - a + 100000 else b - a) := if_pos ⟨h1, h2⟩
theorem usedF_mod {a b : Int} (h1 : inB a 0 99999 = true) (h2 : inB b 0 99999 = true) : usedF a b = (b - a + 100000).tmod 100000 := by
  rw [usedF_ok h1 h2]
  have := inB_yes h1
  have := inB_yes h2
  rw [Int.tmod_eq_emod_of_nonneg (by omega)]
  split <;> omega
theorem usedF_no {a b : Int} (h : ¬ (inB a 0 99999 = true ∧ inB b 0 99999 = true)) : usedF a b = -1 := if_neg h
theorem usedF_bd (a b : Int) : -1 ≤ usedF a b ∧ usedF a b ≤ 99999 := by
  unfold usedF
  split
  · rename_i h
    have := inB_yes h.1
    have := inB_yes h.2
    split <;> omega
  · omega
theorem used_c (a b : Int) (w : World) : Calls Try.prog 10 #[.int .i64 a, .int .i64 b] w fun e w' => e = .returned (.int .i64 (usedF a b)) ∧ w = w' := by
  by_cases h1 : inB a 0 99999 = true
  · by_cases h2 : inB b 0 99999 = true
    · have H := usedF_mod h1 h2
      have H' := Lib.hid H
      clear H
      obtain ⟨a1, a2⟩ := inB_yes h1
      obtain ⟨b1, b2⟩ := inB_yes h2
      go_enter Try.func10, Try.ntmps10
      go_wp2_with (go_at_call 29; refine (within_c _ _ _ _).mono ?_; rintro e w' ⟨rfl, rfl⟩)
      go_ret
      refine ⟨ret_int ?_, rfl⟩
      rw [H'.out]
      try (rw [Int.tmod_eq_emod_of_nonneg (by omega)])
    · have H := Lib.hid (usedF_no (a := a) (b := b) (fun e => h2 e.2))
      go_enter Try.func10, Try.ntmps10
      go_wp2_with (go_at_call 29; refine (within_c _ _ _ _).mono ?_; rintro e w' ⟨rfl, rfl⟩)
      go_ret
      exact ⟨ret_int H.out.symm, rfl⟩
  · have H := Lib.hid (usedF_no (a := a) (b := b) (fun e => h1 e.1))
    go_enter Try.func10, Try.ntmps10
    go_wp2_with (go_at_call 29; refine (within_c _ _ _ _).mono ?_; rintro e w' ⟨rfl, rfl⟩)
    go_ret
    exact ⟨ret_int H.out.symm, rfl⟩
theorem l24Ok_c (n : Int) (w : World) : Calls Try.prog 28 #[.int .i64 n] w fun e w' => e = .returned (.bool (inB n 0 99999)) ∧ w = w' := by
  go_enter Try.func28, Try.ntmps28
  go_wp2_with (go_at_call 30; refine (l01In_c _ _ _ _).mono ?_; rintro e w' ⟨rfl, rfl⟩)
  go_ret
  exact ⟨rfl, rfl⟩
theorem sUsed_c (a b : Int) (w : World) : Calls Try.prog 9 #[.int .i64 a, .int .i64 b] w fun e w' => e = .returned (.int .i64 (usedF a b)) ∧ w = w' := by
  by_cases h1 : inB a 0 99999 = true
  · by_cases h2 : inB b 0 99999 = true
    · have H := Lib.hid (usedF_ok h1 h2)
      obtain ⟨a1, a2⟩ := inB_yes h1
      obtain ⟨b1, b2⟩ := inB_yes h2
      by_cases t : b < a
      · go_enter Try.func9, Try.ntmps9
        go_wp2_with (go_at_call 28; refine (l24Ok_c _ _).mono ?_; rintro e w' ⟨rfl, rfl⟩)
        go_ret
        exact ⟨ret_int (by rw [H.out, if_pos t]), rfl⟩
      · go_enter Try.func9, Try.ntmps9
        go_wp2_with (go_at_call 28; refine (l24Ok_c _ _).mono ?_; rintro e w' ⟨rfl, rfl⟩)
        go_ret
        exact ⟨ret_int (by rw [H.out, if_neg (by omega)]), rfl⟩
    · have H := Lib.hid (usedF_no (a := a) (b := b) (fun e => h2 e.2))
      go_enter Try.func9, Try.ntmps9
      go_wp2_with (go_at_call 28; refine (l24Ok_c _ _).mono ?_; rintro e w' ⟨rfl, rfl⟩)
      go_ret
      exact ⟨ret_int H.out.symm, rfl⟩
  · have H := Lib.hid (usedF_no (a := a) (b := b) (fun e => h1 e.1))
    go_enter Try.func9, Try.ntmps9
    go_wp2_with (go_at_call 28; refine (l24Ok_c _ _).mono ?_; rintro e w' ⟨rfl, rfl⟩)
    go_ret
    exact ⟨ret_int H.out.symm, rfl⟩
end Go.Proofs.Yticpkgiccpglmaa
