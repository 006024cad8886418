/-
  The contracts of Saltier and of the comparison of two numbers: what each call answers, for all arguments.
-/
import Derived.Test.YtiaghlphgbonbaaMixC
namespace Go.Proofs.Ytiaghlphgbonbaa
open Go.RowKit

def cmp3 (x y : Int) : Int := if x < y then -1 else if y < x then 1 else 0
theorem isNaN_c (x : Int) (w : World) : Calls Try.prog 35 #[.int .i64 x] w fun e w' => e = .returned (.bool false) ∧ w = w' := by
  go_enter Try.func35, Try.ntmps35
  go_wp2
  go_ret
  exact ⟨by simp, rfl⟩
theorem compare_c (x y : Int) (w : World) : Calls Try.prog 32 #[.int .i64 x, .int .i64 y] w fun e w' => e = .returned (.int .i64 (cmp3 x y)) ∧ w = w' := by
  by_cases h1 : x < y
  · go_enter Try.func32, Try.ntmps32
    go_wp2_with (go_at_call 35; refine (isNaN_c _ _).mono ?_; rintro e w' ⟨rfl, rfl⟩)
    go_ret
    exact ⟨ret_int (by rw [cmp3, if_pos h1]), rfl⟩
  · by_cases h2 : y < x
    · go_enter Try.func32, Try.ntmps32
      go_wp2_with (go_at_call 35; refine (isNaN_c _ _).mono ?_; rintro e w' ⟨rfl, rfl⟩)
      go_ret
      exact ⟨ret_int (by rw [cmp3, if_neg (by omega), if_pos h2]), rfl⟩
    · go_enter Try.func32, Try.ntmps32
      go_wp2_with (go_at_call 35; refine (isNaN_c _ _).mono ?_; rintro e w' ⟨rfl, rfl⟩)
      go_ret
      exact ⟨ret_int (by rw [cmp3, if_neg (by omega), if_neg (by omega)]), rfl⟩

/-- which of two mixes is saltier -/
def saltF (a b c d : Int) : Int := if mixB a b = true ∧ mixB c d = true ∧ a ≠ 0 ∧ c ≠ 0 then cmp3 (b * c) (d * a) else 0
theorem salt_room (a b c d : Int) (h1 : mixB a b = true) (h2 : mixB c d = true) : 0 ≤ b * c ∧ b * c ≤ 10000000000000 ∧ 0 ≤ d * a ∧ d * a ≤ 10000000000000 := by
  have h1 := mixB_yes h1
  have h2 := mixB_yes h2
  refine ⟨Int.mul_nonneg h1.2.2.1 h2.1, ?_, Int.mul_nonneg h2.2.2.1 h1.1, ?_⟩
  · have := Int.mul_le_mul h1.2.2.2.1 h2.2.1 h2.1 (by omega); omega
  · have := Int.mul_le_mul h2.2.2.2.1 h1.2.1 h1.1 (by omega); omega
theorem saltier_c (a b c d : Int) (w : World) : Calls Try.prog 26 #[.agg #[.int .i64 a, .int .i64 b], .agg #[.int .i64 c, .int .i64 d]] w (Ans (.int .i64 (saltF a b c d)) w) := by
  by_cases h1 : mixB a b = true
  · by_cases h2 : mixB c d = true
    · by_cases h3 : a = 0
      · subst h3
        go_enter Try.func26, Try.ntmps26
        go_wp2_with (first | (go_at_call 13; refine (mixOk_c _ _ _).mono ?_; rintro e w' ⟨rfl, rfl⟩) | (go_at_call 32; refine (compare_c _ _ _).mono ?_; rintro e w' ⟨rfl, rfl⟩))
        all_goals (go_ret; exact ⟨ret_int (by simp [saltF]), by (repeat (first | exact Ext.refl _ | assumption | refine Ext.alloc ?_ _ | refine Ext.drew ?_ | refine Ext.drewN ?_ _ | refine Ext.setCell ?_ (by (try simp only [World.size_alloc, World.size_setCell, World.size_drew, World.heap_drewN]); omega) _ | refine Ext.step (by assumption) ?_))⟩)
      · by_cases h4 : c = 0
        · subst h4
          go_enter Try.func26, Try.ntmps26
          go_wp2_with (first | (go_at_call 13; refine (mixOk_c _ _ _).mono ?_; rintro e w' ⟨rfl, rfl⟩) | (go_at_call 32; refine (compare_c _ _ _).mono ?_; rintro e w' ⟨rfl, rfl⟩))
          all_goals (go_ret; exact ⟨ret_int (by simp [saltF]), by (repeat (first | exact Ext.refl _ | assumption | refine Ext.alloc ?_ _ | refine Ext.drew ?_ | refine Ext.drewN ?_ _ | refine Ext.setCell ?_ (by (try simp only [World.size_alloc, World.size_setCell, World.size_drew, World.heap_drewN]); omega) _ | refine Ext.step (by assumption) ?_))⟩)
        · have H := Lib.hid (show saltF a b c d = cmp3 (b * c) (d * a) from by rw [saltF, if_pos ⟨h1, h2, h3, h4⟩])
          have ⟨m1, m2, m3, m4⟩ := salt_room a b c d h1 h2
          have e3 : (a == 0) = false := by simpa using h3
          have e4 : (c == 0) = false := by simpa using h4
          go_enter Try.func26, Try.ntmps26
          go_wp2_with (first | (go_at_call 13; refine (mixOk_c _ _ _).mono ?_; rintro e w' ⟨rfl, rfl⟩) | (go_at_call 32; refine (compare_c _ _ _).mono ?_; rintro e w' ⟨rfl, rfl⟩))
          go_ret
          exact ⟨ret_int H.out.symm, by (repeat (first | exact Ext.refl _ | assumption | refine Ext.alloc ?_ _ | refine Ext.drew ?_ | refine Ext.drewN ?_ _ | refine Ext.setCell ?_ (by (try simp only [World.size_alloc, World.size_setCell, World.size_drew, World.heap_drewN]); omega) _ | refine Ext.step (by assumption) ?_))⟩
    · have H := Lib.hid (show saltF a b c d = 0 from by rw [saltF, if_neg (fun h => h2 h.2.1)])
      go_enter Try.func26, Try.ntmps26
      go_wp2_with (first | (go_at_call 13; refine (mixOk_c _ _ _).mono ?_; rintro e w' ⟨rfl, rfl⟩) | (go_at_call 32; refine (compare_c _ _ _).mono ?_; rintro e w' ⟨rfl, rfl⟩))
      all_goals (go_ret; exact ⟨ret_int H.out.symm, by (repeat (first | exact Ext.refl _ | assumption | refine Ext.alloc ?_ _ | refine Ext.drew ?_ | refine Ext.drewN ?_ _ | refine Ext.setCell ?_ (by (try simp only [World.size_alloc, World.size_setCell, World.size_drew, World.heap_drewN]); omega) _ | refine Ext.step (by assumption) ?_))⟩)
  · have H := Lib.hid (show saltF a b c d = 0 from by rw [saltF, if_neg (fun h => h1 h.1)])
    go_enter Try.func26, Try.ntmps26
    go_wp2_with (first | (go_at_call 13; refine (mixOk_c _ _ _).mono ?_; rintro e w' ⟨rfl, rfl⟩) | (go_at_call 32; refine (compare_c _ _ _).mono ?_; rintro e w' ⟨rfl, rfl⟩))
    all_goals (go_ret; exact ⟨ret_int H.out.symm, by (repeat (first | exact Ext.refl _ | assumption | refine Ext.alloc ?_ _ | refine Ext.drew ?_ | refine Ext.drewN ?_ _ | refine Ext.setCell ?_ (by (try simp only [World.size_alloc, World.size_setCell, World.size_drew, World.heap_drewN]); omega) _ | refine Ext.step (by assumption) ?_))⟩)
theorem sSaltier_c (a b c d : Int) (w : World) : Calls Try.prog 25 #[.agg #[.int .i64 a, .int .i64 b], .agg #[.int .i64 c, .int .i64 d]] w (Ans (.int .i64 (saltF a b c d)) w) := by
  by_cases h1 : mixB a b = true
  · by_cases h2 : mixB c d = true
    · by_cases h3 : a = 0
      · subst h3
        go_enter Try.func25, Try.ntmps25
        go_wp2_with (go_at_call 11; refine (sMixOk_c _ _ _).mono ?_; rintro e w' ⟨rfl, rfl⟩)
        all_goals (go_ret; exact ⟨ret_int (by simp [saltF]), by (repeat (first | exact Ext.refl _ | assumption | refine Ext.alloc ?_ _ | refine Ext.drew ?_ | refine Ext.drewN ?_ _ | refine Ext.setCell ?_ (by (try simp only [World.size_alloc, World.size_setCell, World.size_drew, World.heap_drewN]); omega) _ | refine Ext.step (by assumption) ?_))⟩)
      · by_cases h4 : c = 0
        · subst h4
          go_enter Try.func25, Try.ntmps25
          go_wp2_with (go_at_call 11; refine (sMixOk_c _ _ _).mono ?_; rintro e w' ⟨rfl, rfl⟩)
          all_goals (go_ret; exact ⟨ret_int (by simp [saltF]), by (repeat (first | exact Ext.refl _ | assumption | refine Ext.alloc ?_ _ | refine Ext.drew ?_ | refine Ext.drewN ?_ _ | refine Ext.setCell ?_ (by (try simp only [World.size_alloc, World.size_setCell, World.size_drew, World.heap_drewN]); omega) _ | refine Ext.step (by assumption) ?_))⟩)
        · have H := Lib.hid (show saltF a b c d = cmp3 (b * c) (d * a) from by rw [saltF, if_pos ⟨h1, h2, h3, h4⟩])
          have ⟨m1, m2, m3, m4⟩ := salt_room a b c d h1 h2
          have e3 : (a == 0) = false := by simpa using h3
          have e4 : (c == 0) = false := by simpa using h4
          go_enter Try.func25, Try.ntmps25
          go_wp2_with (go_at_call 11; refine (sMixOk_c _ _ _).mono ?_; rintro e w' ⟨rfl, rfl⟩)
          all_goals (go_ret; go_tidy; refine ⟨ret_int ?_, by (repeat (first | exact Ext.refl _ | assumption | refine Ext.alloc ?_ _ | refine Ext.drew ?_ | refine Ext.drewN ?_ _ | refine Ext.setCell ?_ (by (try simp only [World.size_alloc, World.size_setCell, World.size_drew, World.heap_drewN]); omega) _ | refine Ext.step (by assumption) ?_))⟩; rw [H.out, cmp3]; first | rw [if_neg (by omega), if_pos (by omega)] | rw [if_pos (by omega)] | rw [if_neg (by omega), if_neg (by omega)])
    · have H := Lib.hid (show saltF a b c d = 0 from by rw [saltF, if_neg (fun h => h2 h.2.1)])
      go_enter Try.func25, Try.ntmps25
      go_wp2_with (go_at_call 11; refine (sMixOk_c _ _ _).mono ?_; rintro e w' ⟨rfl, rfl⟩)
      all_goals (go_ret; exact ⟨ret_int H.out.symm, by (repeat (first | exact Ext.refl _ | assumption | refine Ext.alloc ?_ _ | refine Ext.drew ?_ | refine Ext.drewN ?_ _ | refine Ext.setCell ?_ (by (try simp only [World.size_alloc, World.size_setCell, World.size_drew, World.heap_drewN]); omega) _ | refine Ext.step (by assumption) ?_))⟩)
  · have H := Lib.hid (show saltF a b c d = 0 from by rw [saltF, if_neg (fun h => h1 h.1)])
    go_enter Try.func25, Try.ntmps25
    go_wp2_with (go_at_call 11; refine (sMixOk_c _ _ _).mono ?_; rintro e w' ⟨rfl, rfl⟩)
    all_goals (go_ret; exact ⟨ret_int H.out.symm, by (repeat (first | exact Ext.refl _ | assumption | refine Ext.alloc ?_ _ | refine Ext.drew ?_ | refine Ext.drewN ?_ _ | refine Ext.setCell ?_ (by (try simp only [World.size_alloc, World.size_setCell, World.size_drew, World.heap_drewN]); omega) _ | refine Ext.step (by assumption) ?_))⟩)
end Go.Proofs.Ytiaghlphgbonbaa
