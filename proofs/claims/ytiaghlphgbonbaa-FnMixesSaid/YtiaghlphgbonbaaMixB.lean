/-
  More contracts of the functions on mixed water: what each call answers, for all arguments; what was there stays as it was.
-/
import Derived.Test.YtiaghlphgbonbaaMixA
namespace Go.Proofs.Ytiaghlphgbonbaa
open Go.RowKit

theorem sIsDrinkable_c (a b m : Int) (w : World) : Calls Try.prog 14 #[.agg #[.int .i64 a, .int .i64 b], .int .i64 m] w (Ans (.bool (drinkB a b m)) w) := by
  have H := Lib.hid (drink_room a b m)
  by_cases h1 : mixB a b = true <;> by_cases h2 : inB m 0 1000 = true
  · have ⟨m1, m2⟩ := H.out h1 h2
    go_enter Try.func14, Try.ntmps14
    go_wp2_with (first | (go_at_call 30; refine (l01In_c _ _ _ _).mono ?_; rintro e w' ⟨rfl, rfl⟩) | (go_at_call 11; refine (sMixOk_c _ _ _).mono ?_; rintro e w' ⟨rfl, rfl⟩))
    all_goals (go_ret; go_tidy; refine ⟨ret_bool (bool_iff ?_), by (repeat (first | exact Ext.refl _ | assumption | refine Ext.alloc ?_ _ | refine Ext.drew ?_ | refine Ext.drewN ?_ _ | refine Ext.setCell ?_ (by (try simp only [World.size_alloc, World.size_setCell, World.size_drew, World.heap_drewN]); omega) _ | refine Ext.step (by assumption) ?_))⟩; simp only [drinkB, inB, mixB, boolForms] at *; omega)
  all_goals
    go_enter Try.func14, Try.ntmps14
    go_wp2_with (first | (go_at_call 30; refine (l01In_c _ _ _ _).mono ?_; rintro e w' ⟨rfl, rfl⟩) | (go_at_call 11; refine (sMixOk_c _ _ _).mono ?_; rintro e w' ⟨rfl, rfl⟩))
    all_goals (go_ret; go_tidy; refine ⟨ret_bool (bool_iff ?_), by (repeat (first | exact Ext.refl _ | assumption | refine Ext.alloc ?_ _ | refine Ext.drew ?_ | refine Ext.drewN ?_ _ | refine Ext.setCell ?_ (by (try simp only [World.size_alloc, World.size_setCell, World.size_drew, World.heap_drewN]); omega) _ | refine Ext.step (by assumption) ?_))⟩; simp only [drinkB, inB, mixB, boolForms] at *; omega)

/-- how many grams are in l liters, rounded up -/
def gramsF (a b l : Int) : Int := if mixB a b = true ∧ a ≠ 0 ∧ 0 ≤ l ∧ l ≤ a then (b * l + a - 1) / a else -1
theorem grams_room (a b l : Int) (h1 : mixB a b = true) (h2 : inB l 0 a = true) : 0 ≤ b * l ∧ b * l ≤ 10000000000000 := by
  have h1 := mixB_yes h1
  have h2 := inB_yes h2
  exact ⟨Int.mul_nonneg h1.2.2.1 h2.1, by have := Int.mul_le_mul h1.2.2.2.1 (show l ≤ 100000 by omega) h2.1 (by omega); omega⟩

theorem grams_c (a b l : Int) (w : World) : Calls Try.prog 17 #[.agg #[.int .i64 a, .int .i64 b], .int .i64 l] w (Ans (.int .i64 (gramsF a b l)) w) := by
  by_cases h1 : mixB a b = true
  · by_cases h2 : a = 0
    · subst h2
      go_enter Try.func17, Try.ntmps17
      go_wp2_with (first | (go_at_call 31; refine (within_c _ _ _ _).mono ?_; rintro e w' ⟨rfl, rfl⟩) | (go_at_call 13; refine (mixOk_c _ _ _).mono ?_; rintro e w' ⟨rfl, rfl⟩))
      all_goals (go_ret; exact ⟨ret_int (by simp [gramsF]), by (repeat (first | exact Ext.refl _ | assumption | refine Ext.alloc ?_ _ | refine Ext.drew ?_ | refine Ext.drewN ?_ _ | refine Ext.setCell ?_ (by (try simp only [World.size_alloc, World.size_setCell, World.size_drew, World.heap_drewN]); omega) _ | refine Ext.step (by assumption) ?_))⟩)
    · by_cases h3 : inB l 0 a = true
      · have H := Lib.hid (grams_room a b l h1 h3)
        have H2 := Lib.hid (show gramsF a b l = (b * l + a - 1) / a from by rw [gramsF, if_pos ⟨h1, h2, inB_yes h3⟩])
        have m0 := mixB_yes h1
        have ⟨m1, m2⟩ := H.out
        go_enter Try.func17, Try.ntmps17
        go_wp2_with (first | (go_at_call 31; refine (within_c _ _ _ _).mono ?_; rintro e w' ⟨rfl, rfl⟩) | (go_at_call 13; refine (mixOk_c _ _ _).mono ?_; rintro e w' ⟨rfl, rfl⟩))
        all_goals (go_ret; exact ⟨ret_int H2.out.symm, by (repeat (first | exact Ext.refl _ | assumption | refine Ext.alloc ?_ _ | refine Ext.drew ?_ | refine Ext.drewN ?_ _ | refine Ext.setCell ?_ (by (try simp only [World.size_alloc, World.size_setCell, World.size_drew, World.heap_drewN]); omega) _ | refine Ext.step (by assumption) ?_))⟩)
      · have H2 := Lib.hid (show gramsF a b l = -1 from by rw [gramsF, if_neg (fun h => h3 (inB_mk h.2.2))])
        go_enter Try.func17, Try.ntmps17
        go_wp2_with (first | (go_at_call 31; refine (within_c _ _ _ _).mono ?_; rintro e w' ⟨rfl, rfl⟩) | (go_at_call 13; refine (mixOk_c _ _ _).mono ?_; rintro e w' ⟨rfl, rfl⟩))
        all_goals (go_ret; exact ⟨ret_int H2.out.symm, by (repeat (first | exact Ext.refl _ | assumption | refine Ext.alloc ?_ _ | refine Ext.drew ?_ | refine Ext.drewN ?_ _ | refine Ext.setCell ?_ (by (try simp only [World.size_alloc, World.size_setCell, World.size_drew, World.heap_drewN]); omega) _ | refine Ext.step (by assumption) ?_))⟩)
  · have H2 := Lib.hid (show gramsF a b l = -1 from by rw [gramsF, if_neg (fun h => h1 h.1)])
    go_enter Try.func17, Try.ntmps17
    go_wp2_with (first | (go_at_call 31; refine (within_c _ _ _ _).mono ?_; rintro e w' ⟨rfl, rfl⟩) | (go_at_call 13; refine (mixOk_c _ _ _).mono ?_; rintro e w' ⟨rfl, rfl⟩))
    all_goals (go_ret; exact ⟨ret_int H2.out.symm, by (repeat (first | exact Ext.refl _ | assumption | refine Ext.alloc ?_ _ | refine Ext.drew ?_ | refine Ext.drewN ?_ _ | refine Ext.setCell ?_ (by (try simp only [World.size_alloc, World.size_setCell, World.size_drew, World.heap_drewN]); omega) _ | refine Ext.step (by assumption) ?_))⟩)

theorem sGrams_c (a b l : Int) (w : World) : Calls Try.prog 16 #[.agg #[.int .i64 a, .int .i64 b], .int .i64 l] w (Ans (.int .i64 (gramsF a b l)) w) := by
  by_cases h1 : mixB a b = true
  · by_cases h2 : a = 0
    · subst h2
      go_enter Try.func16, Try.ntmps16
      go_wp2_with (first | (go_at_call 30; refine (l01In_c _ _ _ _).mono ?_; rintro e w' ⟨rfl, rfl⟩) | (go_at_call 11; refine (sMixOk_c _ _ _).mono ?_; rintro e w' ⟨rfl, rfl⟩))
      all_goals (go_ret; exact ⟨ret_int (by simp [gramsF]), by (repeat (first | exact Ext.refl _ | assumption | refine Ext.alloc ?_ _ | refine Ext.drew ?_ | refine Ext.drewN ?_ _ | refine Ext.setCell ?_ (by (try simp only [World.size_alloc, World.size_setCell, World.size_drew, World.heap_drewN]); omega) _ | refine Ext.step (by assumption) ?_))⟩)
    · by_cases h3 : inB l 0 a = true
      · have H := Lib.hid (grams_room a b l h1 h3)
        have H2 := Lib.hid (show gramsF a b l = (b * l + a - 1) / a from by rw [gramsF, if_pos ⟨h1, h2, inB_yes h3⟩])
        have m0 := mixB_yes h1
        have ⟨m1, m2⟩ := H.out
        go_enter Try.func16, Try.ntmps16
        go_wp2_with (first | (go_at_call 30; refine (l01In_c _ _ _ _).mono ?_; rintro e w' ⟨rfl, rfl⟩) | (go_at_call 11; refine (sMixOk_c _ _ _).mono ?_; rintro e w' ⟨rfl, rfl⟩))
        all_goals (go_ret; exact ⟨ret_int H2.out.symm, by (repeat (first | exact Ext.refl _ | assumption | refine Ext.alloc ?_ _ | refine Ext.drew ?_ | refine Ext.drewN ?_ _ | refine Ext.setCell ?_ (by (try simp only [World.size_alloc, World.size_setCell, World.size_drew, World.heap_drewN]); omega) _ | refine Ext.step (by assumption) ?_))⟩)
      · have H2 := Lib.hid (show gramsF a b l = -1 from by rw [gramsF, if_neg (fun h => h3 (inB_mk h.2.2))])
        go_enter Try.func16, Try.ntmps16
        go_wp2_with (first | (go_at_call 30; refine (l01In_c _ _ _ _).mono ?_; rintro e w' ⟨rfl, rfl⟩) | (go_at_call 11; refine (sMixOk_c _ _ _).mono ?_; rintro e w' ⟨rfl, rfl⟩))
        all_goals (go_ret; exact ⟨ret_int H2.out.symm, by (repeat (first | exact Ext.refl _ | assumption | refine Ext.alloc ?_ _ | refine Ext.drew ?_ | refine Ext.drewN ?_ _ | refine Ext.setCell ?_ (by (try simp only [World.size_alloc, World.size_setCell, World.size_drew, World.heap_drewN]); omega) _ | refine Ext.step (by assumption) ?_))⟩)
  · have H2 := Lib.hid (show gramsF a b l = -1 from by rw [gramsF, if_neg (fun h => h1 h.1)])
    go_enter Try.func16, Try.ntmps16
    go_wp2_with (first | (go_at_call 30; refine (l01In_c _ _ _ _).mono ?_; rintro e w' ⟨rfl, rfl⟩) | (go_at_call 11; refine (sMixOk_c _ _ _).mono ?_; rintro e w' ⟨rfl, rfl⟩))
    all_goals (go_ret; exact ⟨ret_int H2.out.symm, by (repeat (first | exact Ext.refl _ | assumption | refine Ext.alloc ?_ _ | refine Ext.drew ?_ | refine Ext.drewN ?_ _ | refine Ext.setCell ?_ (by (try simp only [World.size_alloc, World.size_setCell, World.size_drew, World.heap_drewN]); omega) _ | refine Ext.step (by assumption) ?_))⟩)


/-- how much fresh water is wanted -/
def freshF (a b m : Int) : Int := if mixB a b = true ∧ a ≠ 0 ∧ 1 ≤ m ∧ m ≤ 1000 then (if 100000 < a + max 0 ((b + m - 1) / m - a) then -1 else max 0 ((b + m - 1) / m - a)) else -1
theorem fresh_room (a b m : Int) (h1 : mixB a b = true) (h2 : inB m 1 1000 = true) : 0 ≤ (b + m - 1) / m ∧ (b + m - 1) / m ≤ 100001000 := by
  have h1 := mixB_yes h1
  have h2 := inB_yes h2
  refine ⟨Int.ediv_nonneg (by omega) (by omega), ?_⟩
  have := Int.ediv_le_self m (show 0 ≤ b + m - 1 by omega)
  omega

theorem fresh_c (a b m : Int) (w : World) : Calls Try.prog 19 #[.agg #[.int .i64 a, .int .i64 b], .int .i64 m] w (Ans (.int .i64 (freshF a b m)) w) := by
  by_cases h1 : mixB a b = true
  · by_cases h2 : a = 0
    · subst h2
      go_enter Try.func19, Try.ntmps19
      go_wp2_with (first | (go_at_call 31; refine (within_c _ _ _ _).mono ?_; rintro e w' ⟨rfl, rfl⟩) | (go_at_call 13; refine (mixOk_c _ _ _).mono ?_; rintro e w' ⟨rfl, rfl⟩))
      all_goals (go_ret; exact ⟨ret_int (by simp [freshF]), by (repeat (first | exact Ext.refl _ | assumption | refine Ext.alloc ?_ _ | refine Ext.drew ?_ | refine Ext.drewN ?_ _ | refine Ext.setCell ?_ (by (try simp only [World.size_alloc, World.size_setCell, World.size_drew, World.heap_drewN]); omega) _ | refine Ext.step (by assumption) ?_))⟩)
    · by_cases h3 : inB m 1 1000 = true
      · have H := Lib.hid (fresh_room a b m h1 h3)
        have H2 := Lib.hid (show freshF a b m = (if 100000 < a + max 0 ((b + m - 1) / m - a) then -1 else max 0 ((b + m - 1) / m - a)) from by rw [freshF, if_pos ⟨h1, h2, inB_yes h3⟩])
        have m0 := mixB_yes h1
        have m3 := inB_yes h3
        have ⟨m1, m2⟩ := H.out
        go_enter Try.func19, Try.ntmps19
        go_wp2_with (first | (go_at_call 31; refine (within_c _ _ _ _).mono ?_; rintro e w' ⟨rfl, rfl⟩) | (go_at_call 13; refine (mixOk_c _ _ _).mono ?_; rintro e w' ⟨rfl, rfl⟩))
        go_quiet (fail)
        go_wp2
        all_goals (go_ret; go_tidy; refine ⟨ret_int ?_, by (repeat (first | exact Ext.refl _ | assumption | refine Ext.alloc ?_ _ | refine Ext.drew ?_ | refine Ext.drewN ?_ _ | refine Ext.setCell ?_ (by (try simp only [World.size_alloc, World.size_setCell, World.size_drew, World.heap_drewN]); omega) _ | refine Ext.step (by assumption) ?_))⟩; rw [H2.out]; first | (rw [if_pos (by omega)]) | (rw [if_neg (by omega)]))
      · have H2 := Lib.hid (show freshF a b m = -1 from by rw [freshF, if_neg (fun h => h3 (inB_mk h.2.2))])
        go_enter Try.func19, Try.ntmps19
        go_wp2_with (first | (go_at_call 31; refine (within_c _ _ _ _).mono ?_; rintro e w' ⟨rfl, rfl⟩) | (go_at_call 13; refine (mixOk_c _ _ _).mono ?_; rintro e w' ⟨rfl, rfl⟩))
        all_goals (go_ret; exact ⟨ret_int H2.out.symm, by (repeat (first | exact Ext.refl _ | assumption | refine Ext.alloc ?_ _ | refine Ext.drew ?_ | refine Ext.drewN ?_ _ | refine Ext.setCell ?_ (by (try simp only [World.size_alloc, World.size_setCell, World.size_drew, World.heap_drewN]); omega) _ | refine Ext.step (by assumption) ?_))⟩)
  · have H2 := Lib.hid (show freshF a b m = -1 from by rw [freshF, if_neg (fun h => h1 h.1)])
    go_enter Try.func19, Try.ntmps19
    go_wp2_with (first | (go_at_call 31; refine (within_c _ _ _ _).mono ?_; rintro e w' ⟨rfl, rfl⟩) | (go_at_call 13; refine (mixOk_c _ _ _).mono ?_; rintro e w' ⟨rfl, rfl⟩))
    all_goals (go_ret; exact ⟨ret_int H2.out.symm, by (repeat (first | exact Ext.refl _ | assumption | refine Ext.alloc ?_ _ | refine Ext.drew ?_ | refine Ext.drewN ?_ _ | refine Ext.setCell ?_ (by (try simp only [World.size_alloc, World.size_setCell, World.size_drew, World.heap_drewN]); omega) _ | refine Ext.step (by assumption) ?_))⟩)

theorem sFresh_c (a b m : Int) (w : World) : Calls Try.prog 18 #[.agg #[.int .i64 a, .int .i64 b], .int .i64 m] w (Ans (.int .i64 (freshF a b m)) w) := by
  by_cases h1 : mixB a b = true
  · by_cases h2 : a = 0
    · subst h2
      go_enter Try.func18, Try.ntmps18
      go_wp2_with (first | (go_at_call 30; refine (l01In_c _ _ _ _).mono ?_; rintro e w' ⟨rfl, rfl⟩) | (go_at_call 11; refine (sMixOk_c _ _ _).mono ?_; rintro e w' ⟨rfl, rfl⟩))
      all_goals (go_ret; exact ⟨ret_int (by simp [freshF]), by (repeat (first | exact Ext.refl _ | assumption | refine Ext.alloc ?_ _ | refine Ext.drew ?_ | refine Ext.drewN ?_ _ | refine Ext.setCell ?_ (by (try simp only [World.size_alloc, World.size_setCell, World.size_drew, World.heap_drewN]); omega) _ | refine Ext.step (by assumption) ?_))⟩)
    · by_cases h3 : inB m 1 1000 = true
      · have H := Lib.hid (fresh_room a b m h1 h3)
        have H2 := Lib.hid (show freshF a b m = (if 100000 < a + max 0 ((b + m - 1) / m - a) then -1 else max 0 ((b + m - 1) / m - a)) from by rw [freshF, if_pos ⟨h1, h2, inB_yes h3⟩])
        have m0 := mixB_yes h1
        have m3 := inB_yes h3
        have ⟨m1, m2⟩ := H.out
        go_enter Try.func18, Try.ntmps18
        go_wp2_with (first | (go_at_call 30; refine (l01In_c _ _ _ _).mono ?_; rintro e w' ⟨rfl, rfl⟩) | (go_at_call 11; refine (sMixOk_c _ _ _).mono ?_; rintro e w' ⟨rfl, rfl⟩))
        go_quiet (fail)
        go_wp2
        all_goals (go_ret; go_tidy; refine ⟨ret_int ?_, by (repeat (first | exact Ext.refl _ | assumption | refine Ext.alloc ?_ _ | refine Ext.drew ?_ | refine Ext.drewN ?_ _ | refine Ext.setCell ?_ (by (try simp only [World.size_alloc, World.size_setCell, World.size_drew, World.heap_drewN]); omega) _ | refine Ext.step (by assumption) ?_))⟩; rw [H2.out]; first | (rw [if_pos (by omega)]) | (rw [if_neg (by omega)]))
      · have H2 := Lib.hid (show freshF a b m = -1 from by rw [freshF, if_neg (fun h => h3 (inB_mk h.2.2))])
        go_enter Try.func18, Try.ntmps18
        go_wp2_with (first | (go_at_call 30; refine (l01In_c _ _ _ _).mono ?_; rintro e w' ⟨rfl, rfl⟩) | (go_at_call 11; refine (sMixOk_c _ _ _).mono ?_; rintro e w' ⟨rfl, rfl⟩))
        all_goals (go_ret; exact ⟨ret_int H2.out.symm, by (repeat (first | exact Ext.refl _ | assumption | refine Ext.alloc ?_ _ | refine Ext.drew ?_ | refine Ext.drewN ?_ _ | refine Ext.setCell ?_ (by (try simp only [World.size_alloc, World.size_setCell, World.size_drew, World.heap_drewN]); omega) _ | refine Ext.step (by assumption) ?_))⟩)
  · have H2 := Lib.hid (show freshF a b m = -1 from by rw [freshF, if_neg (fun h => h1 h.1)])
    go_enter Try.func18, Try.ntmps18
    go_wp2_with (first | (go_at_call 30; refine (l01In_c _ _ _ _).mono ?_; rintro e w' ⟨rfl, rfl⟩) | (go_at_call 11; refine (sMixOk_c _ _ _).mono ?_; rintro e w' ⟨rfl, rfl⟩))
    all_goals (go_ret; exact ⟨ret_int H2.out.symm, by (repeat (first | exact Ext.refl _ | assumption | refine Ext.alloc ?_ _ | refine Ext.drew ?_ | refine Ext.drewN ?_ _ | refine Ext.setCell ?_ (by (try simp only [World.size_alloc, World.size_setCell, World.size_drew, World.heap_drewN]); omega) _ | refine Ext.step (by assumption) ?_))⟩)
end Go.Proofs.Ytiaghlphgbonbaa
