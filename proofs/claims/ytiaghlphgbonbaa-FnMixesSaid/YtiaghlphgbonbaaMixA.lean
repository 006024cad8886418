/-
  The contracts of the functions on mixed water: what each call answers, for all arguments; what was there stays as it was.
-/
import Derived.Test.YtiaghlphgbonbaaProg
import Derived.Test.YtiaghlphgbonbaaLib
namespace Go.Proofs.Ytiaghlphgbonbaa
open Go.RowKit

def mixB (a b : Int) : Bool := decide (0 ≤ a ∧ a ≤ 100000 ∧ 0 ≤ b ∧ b ≤ 100000000 ∧ (0 < a ∨ b = 0))
theorem mixB_yes {a b : Int} (h : mixB a b = true) : 0 ≤ a ∧ a ≤ 100000 ∧ 0 ≤ b ∧ b ≤ 100000000 ∧ (0 < a ∨ b = 0) := by simpa [mixB] using h

theorem within_c (n lo hi : Int) (w : World) : Calls Try.prog 31 #[.int .i64 n, .int .i64 lo, .int .i64 hi] w fun e w' => e = .returned (.bool (inB n lo hi)) ∧ w = w' := by
  go_enter Try.func31, Try.ntmps31
  go_wp2
  all_goals (go_ret; exact ⟨by simp [inB, *] <;> omega, rfl⟩)
theorem l01In_c (n lo hi : Int) (w : World) : Calls Try.prog 30 #[.int .i64 n, .int .i64 lo, .int .i64 hi] w fun e w' => e = .returned (.bool (inB n lo hi)) ∧ w = w' := by
  go_enter Try.func30, Try.ntmps30
  go_wp2
  all_goals (go_ret; exact ⟨by simp [inB, *] <;> omega, rfl⟩)

theorem mixOk_c (a b : Int) (w : World) : Calls Try.prog 13 #[.agg #[.int .i64 a, .int .i64 b]] w fun e w' => e = .returned (.bool (mixB a b)) ∧ w' = w.alloc (.cells #[.int .i64 a, .int .i64 b] 25) := by
  go_enter Try.func13, Try.ntmps13
  go_wp2_with (go_at_call 31; refine (within_c _ _ _ _).mono ?_; rintro e w' ⟨rfl, rfl⟩)
  all_goals (go_ret; go_tidy; refine ⟨ret_bool (bool_iff ?_), rfl⟩; simp only [inB, mixB, boolForms] at *; omega)
theorem sMixOk_c (a b : Int) (w : World) : Calls Try.prog 11 #[.agg #[.int .i64 a, .int .i64 b]] w fun e w' => e = .returned (.bool (mixB a b)) ∧ w' = w.alloc (.cells #[.int .i64 a, .int .i64 b] 25) := by
  go_enter Try.func11, Try.ntmps11
  go_wp2_with (go_at_call 30; refine (l01In_c _ _ _ _).mono ?_; rintro e w' ⟨rfl, rfl⟩)
  all_goals (go_ret; go_tidy; refine ⟨ret_bool (bool_iff ?_), rfl⟩; simp only [inB, mixB, boolForms] at *; omega)
theorem toMix_c (a b : Int) (w : World) : Calls Try.prog 12 #[.agg #[.int .i64 a, .int .i64 b]] w fun e w' => e = .returned (.agg #[.int .i64 a, .int .i64 b]) ∧ w' = ((w.alloc (.cells #[.int .i64 a, .int .i64 b] 23)).alloc (.cells #[.int .i64 a, .int .i64 b] 25)).alloc (.cells #[.int .i64 a, .int .i64 b] 25) := by
  go_enter Try.func12, Try.ntmps12
  go_wp2
  go_returns
  exact ⟨rfl, rfl⟩
theorem toMix_a (a b : Int) (w : World) : Calls Try.prog 12 #[.agg #[.int .i64 a, .int .i64 b]] w (Ans (.agg #[.int .i64 a, .int .i64 b]) w) :=
  (toMix_c a b w).mono fun _ _ ⟨he, hw⟩ => ⟨he, by subst hw; (repeat (first | exact Ext.refl _ | assumption | refine Ext.alloc ?_ _ | refine Ext.drew ?_ | refine Ext.drewN ?_ _ | refine Ext.setCell ?_ (by (try simp only [World.size_alloc, World.size_setCell, World.size_drew, World.heap_drewN]); omega) _ | refine Ext.step (by assumption) ?_))⟩
def eq2 (a b c d : Int) : Bool := decide (a = c ∧ b = d)
theorem eq2_self (a b : Int) : eq2 a b a b = true := by simp [eq2]
theorem eqMix_c (a b c d : Int) (w : World) : Calls Try.prog 22 #[.agg #[.int .i64 a, .int .i64 b], .agg #[.int .i64 c, .int .i64 d]] w fun e w' => e = .returned (.bool (eq2 a b c d)) ∧ w' = (w.alloc (.cells #[.int .i64 a, .int .i64 b] 25)).alloc (.cells #[.int .i64 c, .int .i64 d] 25) := by
  go_enter Try.func22, Try.ntmps22
  go_wp2
  all_goals (go_ret; go_tidy; refine ⟨ret_bool (bool_iff ?_), rfl⟩; simp only [eq2, boolForms] at *; omega)

def drinkB (a b m : Int) : Bool := decide (mixB a b = true ∧ 0 < a ∧ 0 ≤ m ∧ m ≤ 1000 ∧ b ≤ m * a)
theorem drink_room (a b m : Int) (h1 : mixB a b = true) (h2 : inB m 0 1000 = true) : 0 ≤ m * a ∧ m * a ≤ 100000000 := by
  have h1 := mixB_yes h1
  have h2 := inB_yes h2
  exact ⟨Int.mul_nonneg h2.1 h1.1, by have := Int.mul_le_mul h2.2 h1.2.1 h1.1 (by omega); omega⟩
theorem isDrinkable_c (a b m : Int) (w : World) : Calls Try.prog 15 #[.agg #[.int .i64 a, .int .i64 b], .int .i64 m] w (Ans (.bool (drinkB a b m)) w) := by
  have H := Lib.hid (drink_room a b m)
  by_cases h1 : mixB a b = true <;> by_cases h2 : inB m 0 1000 = true
  · have ⟨m1, m2⟩ := H.out h1 h2
    go_enter Try.func15, Try.ntmps15
    go_wp2_with (first | (go_at_call 31; refine (within_c _ _ _ _).mono ?_; rintro e w' ⟨rfl, rfl⟩) | (go_at_call 13; refine (mixOk_c _ _ _).mono ?_; rintro e w' ⟨rfl, rfl⟩))
    all_goals (go_ret; go_tidy; refine ⟨ret_bool (bool_iff ?_), by (repeat (first | exact Ext.refl _ | assumption | refine Ext.alloc ?_ _ | refine Ext.drew ?_ | refine Ext.drewN ?_ _ | refine Ext.setCell ?_ (by (try simp only [World.size_alloc, World.size_setCell, World.size_drew, World.heap_drewN]); omega) _ | refine Ext.step (by assumption) ?_))⟩; simp only [drinkB, inB, mixB, boolForms] at *; omega)
  all_goals
    go_enter Try.func15, Try.ntmps15
    go_wp2_with (first | (go_at_call 31; refine (within_c _ _ _ _).mono ?_; rintro e w' ⟨rfl, rfl⟩) | (go_at_call 13; refine (mixOk_c _ _ _).mono ?_; rintro e w' ⟨rfl, rfl⟩))
    all_goals (go_ret; go_tidy; refine ⟨ret_bool (bool_iff ?_), by (repeat (first | exact Ext.refl _ | assumption | refine Ext.alloc ?_ _ | refine Ext.drew ?_ | refine Ext.drewN ?_ _ | refine Ext.setCell ?_ (by (try simp only [World.size_alloc, World.size_setCell, World.size_drew, World.heap_drewN]); omega) _ | refine Ext.step (by assumption) ?_))⟩; simp only [drinkB, inB, mixB, boolForms] at *; omega)
end Go.Proofs.Ytiaghlphgbonbaa
