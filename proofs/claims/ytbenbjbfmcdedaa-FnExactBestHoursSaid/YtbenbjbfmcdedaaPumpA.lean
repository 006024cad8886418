/-
  The contracts of PumpOk, HoursFor and BetterPump, of the program and of the reference.
-/
import Derived.Test.YtbenbjbfmcdedaaInts
namespace Go.Proofs.Ytbenbjbfmcdedaa
open Go.RowKit

def pumpB (a b : Int) : Bool := decide (1 ≤ a ∧ a ≤ 10000 ∧ 1 ≤ b ∧ b ≤ 10000)
theorem pumpB_yes {a b : Int} (h : pumpB a b = true) : 1 ≤ a ∧ a ≤ 10000 ∧ 1 ≤ b ∧ b ≤ 10000 := by simpa [pumpB] using h
theorem pumpOk_c (a b : Int) (w : World) : Calls Try.prog 12 #[.agg #[.int .i64 a, .int .i64 b]] w fun e w' => e = .returned (.bool (pumpB a b)) ∧ w' = w.alloc (.cells #[.int .i64 a, .int .i64 b] 25) := by
  go_enter Try.func12, Try.ntmps12
  go_wp2_with (go_at_call 36; refine (within_c _ _ _ _).mono ?_; rintro e w' ⟨rfl, rfl⟩)
  all_goals (go_ret; go_tidy; refine ⟨ret_bool (bool_iff ?_), rfl⟩; simp only [inB, pumpB, boolForms] at *; omega)
theorem sPumpOk_c (a b : Int) (w : World) : Calls Try.prog 10 #[.agg #[.int .i64 a, .int .i64 b]] w fun e w' => e = .returned (.bool (pumpB a b)) ∧ w' = w.alloc (.cells #[.int .i64 a, .int .i64 b] 25) := by
  go_enter Try.func10, Try.ntmps10
  go_wp2_with (go_at_call 35; refine (l01In_c _ _ _ _).mono ?_; rintro e w' ⟨rfl, rfl⟩)
  all_goals (go_ret; go_tidy; refine ⟨ret_bool (bool_iff ?_), rfl⟩; simp only [inB, pumpB, boolForms] at *; omega)
theorem toPump_c (a b : Int) (w : World) : Calls Try.prog 11 #[.agg #[.int .i64 a, .int .i64 b]] w fun e w' => e = .returned (.agg #[.int .i64 a, .int .i64 b]) ∧ w' = ((w.alloc (.cells #[.int .i64 a, .int .i64 b] 23)).alloc (.cells #[.int .i64 a, .int .i64 b] 25)).alloc (.cells #[.int .i64 a, .int .i64 b] 25) := by
  go_enter Try.func11, Try.ntmps11
  go_wp2
  go_returns
  exact ⟨rfl, rfl⟩
theorem toPump_a (a b : Int) (w : World) : Calls Try.prog 11 #[.agg #[.int .i64 a, .int .i64 b]] w (Ans (.agg #[.int .i64 a, .int .i64 b]) w) :=
  (toPump_c a b w).mono fun _ _ ⟨he, hw⟩ => ⟨he, by subst hw; (repeat (first | exact Ext.refl _ | assumption | refine Ext.alloc ?_ _ | refine Ext.drew ?_ | refine Ext.drewN ?_ _ | refine Ext.setCell ?_ (by (try simp only [World.size_alloc, World.size_setCell, World.size_drew, World.heap_drewN]); omega) _ | refine Ext.step (by assumption) ?_))⟩
theorem l04Water_c (n : Int) (w : World) : Calls Try.prog 37 #[.int .i64 n] w fun e w' => e = .returned (.bool (inB n 0 1000000)) ∧ w = w' := by
  go_enter Try.func37, Try.ntmps37
  go_wp2_with (go_at_call 35; refine (l01In_c _ _ _ _).mono ?_; rintro e w' ⟨rfl, rfl⟩)
  go_ret
  exact ⟨rfl, rfl⟩

/-- how many hours a pump takes -/
def hoursF (a b n : Int) : Int := if pumpB a b = true ∧ inB n 0 1000000 = true then (n + a - 1) / a else -1
theorem hours_c (a b n : Int) (w : World) : Calls Try.prog 14 #[.agg #[.int .i64 a, .int .i64 b], .int .i64 n] w (Ans (.int .i64 (hoursF a b n)) w) := by
  by_cases h1 : pumpB a b = true
  · by_cases h2 : inB n 0 1000000 = true
    · have H := Lib.hid (show hoursF a b n = (n + a - 1) / a from by rw [hoursF, if_pos ⟨h1, h2⟩])
      have m0 := pumpB_yes h1
      have m1 := inB_yes h2
      go_enter Try.func14, Try.ntmps14
      go_wp2_with (first | (go_at_call 36; refine (within_c _ _ _ _).mono ?_; rintro e w' ⟨rfl, rfl⟩) | (go_at_call 12; refine (pumpOk_c _ _ _).mono ?_; rintro e w' ⟨rfl, rfl⟩))
      all_goals (go_ret; exact ⟨ret_int H.out.symm, by (repeat (first | exact Ext.refl _ | assumption | refine Ext.alloc ?_ _ | refine Ext.drew ?_ | refine Ext.drewN ?_ _ | refine Ext.setCell ?_ (by (try simp only [World.size_alloc, World.size_setCell, World.size_drew, World.heap_drewN]); omega) _ | refine Ext.step (by assumption) ?_))⟩)
    · have H := Lib.hid (show hoursF a b n = -1 from by rw [hoursF, if_neg (fun e => h2 e.2)])
      go_enter Try.func14, Try.ntmps14
      go_wp2_with (first | (go_at_call 36; refine (within_c _ _ _ _).mono ?_; rintro e w' ⟨rfl, rfl⟩) | (go_at_call 12; refine (pumpOk_c _ _ _).mono ?_; rintro e w' ⟨rfl, rfl⟩))
      all_goals (go_ret; exact ⟨ret_int H.out.symm, by (repeat (first | exact Ext.refl _ | assumption | refine Ext.alloc ?_ _ | refine Ext.drew ?_ | refine Ext.drewN ?_ _ | refine Ext.setCell ?_ (by (try simp only [World.size_alloc, World.size_setCell, World.size_drew, World.heap_drewN]); omega) _ | refine Ext.step (by assumption) ?_))⟩)
  · have H := Lib.hid (show hoursF a b n = -1 from by rw [hoursF, if_neg (fun e => h1 e.1)])
    go_enter Try.func14, Try.ntmps14
    go_wp2_with (first | (go_at_call 36; refine (within_c _ _ _ _).mono ?_; rintro e w' ⟨rfl, rfl⟩) | (go_at_call 12; refine (pumpOk_c _ _ _).mono ?_; rintro e w' ⟨rfl, rfl⟩))
    all_goals (go_ret; exact ⟨ret_int H.out.symm, by (repeat (first | exact Ext.refl _ | assumption | refine Ext.alloc ?_ _ | refine Ext.drew ?_ | refine Ext.drewN ?_ _ | refine Ext.setCell ?_ (by (try simp only [World.size_alloc, World.size_setCell, World.size_drew, World.heap_drewN]); omega) _ | refine Ext.step (by assumption) ?_))⟩)
theorem sHours_c (a b n : Int) (w : World) : Calls Try.prog 13 #[.agg #[.int .i64 a, .int .i64 b], .int .i64 n] w (Ans (.int .i64 (hoursF a b n)) w) := by
  by_cases h1 : pumpB a b = true
  · by_cases h2 : inB n 0 1000000 = true
    · have H := Lib.hid (show hoursF a b n = (n + a - 1) / a from by rw [hoursF, if_pos ⟨h1, h2⟩])
      have m0 := pumpB_yes h1
      have m1 := inB_yes h2
      go_enter Try.func13, Try.ntmps13
      go_wp2_with (first | (go_at_call 37; refine (l04Water_c _ _).mono ?_; rintro e w' ⟨rfl, rfl⟩) | (go_at_call 10; refine (sPumpOk_c _ _ _).mono ?_; rintro e w' ⟨rfl, rfl⟩))
      all_goals (go_ret; exact ⟨ret_int H.out.symm, by (repeat (first | exact Ext.refl _ | assumption | refine Ext.alloc ?_ _ | refine Ext.drew ?_ | refine Ext.drewN ?_ _ | refine Ext.setCell ?_ (by (try simp only [World.size_alloc, World.size_setCell, World.size_drew, World.heap_drewN]); omega) _ | refine Ext.step (by assumption) ?_))⟩)
    · have H := Lib.hid (show hoursF a b n = -1 from by rw [hoursF, if_neg (fun e => h2 e.2)])
      go_enter Try.func13, Try.ntmps13
      go_wp2_with (first | (go_at_call 37; refine (l04Water_c _ _).mono ?_; rintro e w' ⟨rfl, rfl⟩) | (go_at_call 10; refine (sPumpOk_c _ _ _).mono ?_; rintro e w' ⟨rfl, rfl⟩))
      all_goals (go_ret; exact ⟨ret_int H.out.symm, by (repeat (first | exact Ext.refl _ | assumption | refine Ext.alloc ?_ _ | refine Ext.drew ?_ | refine Ext.drewN ?_ _ | refine Ext.setCell ?_ (by (try simp only [World.size_alloc, World.size_setCell, World.size_drew, World.heap_drewN]); omega) _ | refine Ext.step (by assumption) ?_))⟩)
  · have H := Lib.hid (show hoursF a b n = -1 from by rw [hoursF, if_neg (fun e => h1 e.1)])
    go_enter Try.func13, Try.ntmps13
    go_wp2_with (first | (go_at_call 37; refine (l04Water_c _ _).mono ?_; rintro e w' ⟨rfl, rfl⟩) | (go_at_call 10; refine (sPumpOk_c _ _ _).mono ?_; rintro e w' ⟨rfl, rfl⟩))
    all_goals (go_ret; exact ⟨ret_int H.out.symm, by (repeat (first | exact Ext.refl _ | assumption | refine Ext.alloc ?_ _ | refine Ext.drew ?_ | refine Ext.drewN ?_ _ | refine Ext.setCell ?_ (by (try simp only [World.size_alloc, World.size_setCell, World.size_drew, World.heap_drewN]); omega) _ | refine Ext.step (by assumption) ?_))⟩)

def cmp3 (x y : Int) : Int := if x < y then -1 else if y < x then 1 else 0
theorem isNaN_c (x : Int) (w : World) : Calls Try.prog 51 #[.int .i64 x] w fun e w' => e = .returned (.bool false) ∧ w = w' := by
  go_enter Try.func51, Try.ntmps51
  go_wp2
  go_ret
  exact ⟨by simp, rfl⟩
theorem compare_c (x y : Int) (w : World) : Calls Try.prog 38 #[.int .i64 x, .int .i64 y] w fun e w' => e = .returned (.int .i64 (cmp3 x y)) ∧ w = w' := by
  by_cases h1 : x < y
  · go_enter Try.func38, Try.ntmps38
    go_wp2_with (go_at_call 51; refine (isNaN_c _ _).mono ?_; rintro e w' ⟨rfl, rfl⟩)
    go_ret
    exact ⟨ret_int (by rw [cmp3, if_pos h1]), rfl⟩
  · by_cases h2 : y < x
    · go_enter Try.func38, Try.ntmps38
      go_wp2_with (go_at_call 51; refine (isNaN_c _ _).mono ?_; rintro e w' ⟨rfl, rfl⟩)
      go_ret
      exact ⟨ret_int (by rw [cmp3, if_neg (by omega), if_pos h2]), rfl⟩
    · go_enter Try.func38, Try.ntmps38
      go_wp2_with (go_at_call 51; refine (isNaN_c _ _).mono ?_; rintro e w' ⟨rfl, rfl⟩)
      go_ret
      exact ⟨ret_int (by rw [cmp3, if_neg (by omega), if_neg (by omega)]), rfl⟩
/-- which pump is the better one -/
def betterF (a b c d : Int) : Int := if pumpB a b = true ∧ pumpB c d = true then cmp3 (c * b) (a * d) else 0
theorem better_room (a b c d : Int) (h1 : pumpB a b = true) (h2 : pumpB c d = true) : 0 ≤ c * b ∧ c * b ≤ 100000000 ∧ 0 ≤ a * d ∧ a * d ≤ 100000000 := by
  have h1 := pumpB_yes h1
  have h2 := pumpB_yes h2
  refine ⟨Int.mul_nonneg (by omega) (by omega), ?_, Int.mul_nonneg (by omega) (by omega), ?_⟩
  · have := Int.mul_le_mul h2.2.1 h1.2.2.2 (by omega) (by omega); omega
  · have := Int.mul_le_mul h1.2.1 h2.2.2.2 (by omega) (by omega); omega
theorem better_c (a b c d : Int) (w : World) : Calls Try.prog 16 #[.agg #[.int .i64 a, .int .i64 b], .agg #[.int .i64 c, .int .i64 d]] w (Ans (.int .i64 (betterF a b c d)) w) := by
  by_cases h1 : pumpB a b = true
  · by_cases h2 : pumpB c d = true
    · have H := Lib.hid (show betterF a b c d = cmp3 (c * b) (a * d) from by rw [betterF, if_pos ⟨h1, h2⟩])
      have ⟨m1, m2, m3, m4⟩ := better_room a b c d h1 h2
      go_enter Try.func16, Try.ntmps16
      go_wp2_with (first | (go_at_call 12; refine (pumpOk_c _ _ _).mono ?_; rintro e w' ⟨rfl, rfl⟩) | (go_at_call 38; refine (compare_c _ _ _).mono ?_; rintro e w' ⟨rfl, rfl⟩))
      all_goals (go_ret; exact ⟨ret_int H.out.symm, by (repeat (first | exact Ext.refl _ | assumption | refine Ext.alloc ?_ _ | refine Ext.drew ?_ | refine Ext.drewN ?_ _ | refine Ext.setCell ?_ (by (try simp only [World.size_alloc, World.size_setCell, World.size_drew, World.heap_drewN]); omega) _ | refine Ext.step (by assumption) ?_))⟩)
    · have H := Lib.hid (show betterF a b c d = 0 from by rw [betterF, if_neg (fun h => h2 h.2)])
      go_enter Try.func16, Try.ntmps16
      go_wp2_with (first | (go_at_call 12; refine (pumpOk_c _ _ _).mono ?_; rintro e w' ⟨rfl, rfl⟩) | (go_at_call 38; refine (compare_c _ _ _).mono ?_; rintro e w' ⟨rfl, rfl⟩))
      all_goals (go_ret; exact ⟨ret_int H.out.symm, by (repeat (first | exact Ext.refl _ | assumption | refine Ext.alloc ?_ _ | refine Ext.drew ?_ | refine Ext.drewN ?_ _ | refine Ext.setCell ?_ (by (try simp only [World.size_alloc, World.size_setCell, World.size_drew, World.heap_drewN]); omega) _ | refine Ext.step (by assumption) ?_))⟩)
  · have H := Lib.hid (show betterF a b c d = 0 from by rw [betterF, if_neg (fun h => h1 h.1)])
    go_enter Try.func16, Try.ntmps16
    go_wp2_with (first | (go_at_call 12; refine (pumpOk_c _ _ _).mono ?_; rintro e w' ⟨rfl, rfl⟩) | (go_at_call 38; refine (compare_c _ _ _).mono ?_; rintro e w' ⟨rfl, rfl⟩))
    all_goals (go_ret; exact ⟨ret_int H.out.symm, by (repeat (first | exact Ext.refl _ | assumption | refine Ext.alloc ?_ _ | refine Ext.drew ?_ | refine Ext.drewN ?_ _ | refine Ext.setCell ?_ (by (try simp only [World.size_alloc, World.size_setCell, World.size_drew, World.heap_drewN]); omega) _ | refine Ext.step (by assumption) ?_))⟩)
theorem sBetter_c (a b c d : Int) (w : World) : Calls Try.prog 15 #[.agg #[.int .i64 a, .int .i64 b], .agg #[.int .i64 c, .int .i64 d]] w (Ans (.int .i64 (betterF a b c d)) w) := by
  by_cases h1 : pumpB a b = true
  · by_cases h2 : pumpB c d = true
    · have H := Lib.hid (show betterF a b c d = cmp3 (c * b) (a * d) from by rw [betterF, if_pos ⟨h1, h2⟩])
      have ⟨m1, m2, m3, m4⟩ := better_room a b c d h1 h2
      go_enter Try.func15, Try.ntmps15
      go_wp2_with (go_at_call 10; refine (sPumpOk_c _ _ _).mono ?_; rintro e w' ⟨rfl, rfl⟩)
      all_goals (go_ret; go_tidy; refine ⟨ret_int ?_, by (repeat (first | exact Ext.refl _ | assumption | refine Ext.alloc ?_ _ | refine Ext.drew ?_ | refine Ext.drewN ?_ _ | refine Ext.setCell ?_ (by (try simp only [World.size_alloc, World.size_setCell, World.size_drew, World.heap_drewN]); omega) _ | refine Ext.step (by assumption) ?_))⟩; rw [H.out, cmp3]; first | rw [if_neg (by omega), if_pos (by omega)] | rw [if_pos (by omega)] | rw [if_neg (by omega), if_neg (by omega)])
    · have H := Lib.hid (show betterF a b c d = 0 from by rw [betterF, if_neg (fun h => h2 h.2)])
      go_enter Try.func15, Try.ntmps15
      go_wp2_with (go_at_call 10; refine (sPumpOk_c _ _ _).mono ?_; rintro e w' ⟨rfl, rfl⟩)
      all_goals (go_ret; exact ⟨ret_int H.out.symm, by (repeat (first | exact Ext.refl _ | assumption | refine Ext.alloc ?_ _ | refine Ext.drew ?_ | refine Ext.drewN ?_ _ | refine Ext.setCell ?_ (by (try simp only [World.size_alloc, World.size_setCell, World.size_drew, World.heap_drewN]); omega) _ | refine Ext.step (by assumption) ?_))⟩)
  · have H := Lib.hid (show betterF a b c d = 0 from by rw [betterF, if_neg (fun h => h1 h.1)])
    go_enter Try.func15, Try.ntmps15
    go_wp2_with (go_at_call 10; refine (sPumpOk_c _ _ _).mono ?_; rintro e w' ⟨rfl, rfl⟩)
    all_goals (go_ret; exact ⟨ret_int H.out.symm, by (repeat (first | exact Ext.refl _ | assumption | refine Ext.alloc ?_ _ | refine Ext.drew ?_ | refine Ext.drewN ?_ _ | refine Ext.setCell ?_ (by (try simp only [World.size_alloc, World.size_setCell, World.size_drew, World.heap_drewN]); omega) _ | refine Ext.step (by assumption) ?_))⟩)
end Go.Proofs.Ytbenbjbfmcdedaa
