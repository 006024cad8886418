/-
  Contracts of the functions that join and take mixes: what each call answers, for all arguments; what was there stays as it was.
-/
import Derived.Test.YtiaghlphgbonbaaMixB
namespace Go.Proofs.Ytiaghlphgbonbaa
open Go.RowKit

abbrev mixV (a b : Int) : Value := .agg #[.int .i64 a, .int .i64 b]
/-- two mixes joined -/
def joinV (a b c d : Int) : Value := if mixB a b = true ∧ mixB c d = true ∧ mixB (a + c) (b + d) = true then .tuple #[mixV (a + c) (b + d), .bool true] else .tuple #[mixV 0 0, .bool false]
/-- some of a mix taken -/
def takeV (a b l : Int) : Value := if mixB a b = true ∧ 1 ≤ l ∧ l ≤ a - 1 then .tuple #[mixV (a - l) (b - b * l / a), mixV l (b * l / a), .bool true] else .tuple #[mixV a b, mixV 0 0, .bool false]
theorem take_room (a b l : Int) (h1 : mixB a b = true) (h2 : inB l 1 (a - 1) = true) : 0 ≤ b * l ∧ b * l ≤ 10000000000000 ∧ 0 ≤ b * l / a ∧ b * l / a ≤ b := by
  have h1 := mixB_yes h1
  have h2 := inB_yes h2
  have m1 : 0 ≤ b * l := Int.mul_nonneg h1.2.2.1 (by omega)
  refine ⟨m1, by have := Int.mul_le_mul h1.2.2.2.1 (show l ≤ 100000 by omega) (by omega) (by omega); omega, Int.ediv_nonneg m1 h1.1, ?_⟩
  have : b * l ≤ b * a := Int.mul_le_mul_of_nonneg_left (by omega) h1.2.2.1
  have := Int.ediv_le_ediv (show 0 < a by omega) this
  rw [Int.mul_ediv_cancel _ (by omega)] at this
  exact this

theorem joinMix_c (a b c d : Int) (w : World) : Calls Try.prog 24 #[.agg #[.int .i64 a, .int .i64 b], .agg #[.int .i64 c, .int .i64 d]] w (Ans (joinV a b c d) w) := by
  by_cases h1 : mixB a b = true
  · by_cases h2 : mixB c d = true
    · have m0 := mixB_yes h1
      have m1 := mixB_yes h2
      by_cases h3 : mixB (a + c) (b + d) = true
      · have H := Lib.hid (show joinV a b c d = .tuple #[mixV (a + c) (b + d), .bool true] from by rw [joinV, if_pos ⟨h1, h2, h3⟩])
        go_enter Try.func24, Try.ntmps24
        go_wp2_with (first | (go_at_call 31; refine (within_c _ _ _ _).mono ?_; rintro e w' ⟨rfl, rfl⟩) | (go_at_call 13; refine (mixOk_c _ _ _).mono ?_; rintro e w' ⟨rfl, rfl⟩))
        refine bodyPost_ret (v := .tuple #[mixV (a + c) (b + d), .bool true]) (by simp [results, Try.results24, go_sem, *]) rfl ?_
        rw [H.out]; exact ⟨rfl, by (repeat (first | exact Ext.refl _ | assumption | refine Ext.alloc ?_ _ | refine Ext.drew ?_ | refine Ext.drewN ?_ _ | refine Ext.setCell ?_ (by (try simp only [World.size_alloc, World.size_setCell, World.size_drew, World.heap_drewN]); omega) _ | refine Ext.step (by assumption) ?_))⟩
      · have H := Lib.hid (show joinV a b c d = .tuple #[mixV 0 0, .bool false] from by rw [joinV, if_neg (fun h => h3 h.2.2)])
        go_enter Try.func24, Try.ntmps24
        go_wp2_with (first | (go_at_call 31; refine (within_c _ _ _ _).mono ?_; rintro e w' ⟨rfl, rfl⟩) | (go_at_call 13; refine (mixOk_c _ _ _).mono ?_; rintro e w' ⟨rfl, rfl⟩))
        refine bodyPost_ret (v := .tuple #[mixV 0 0, .bool false]) (by simp [results, Try.results24, go_sem, *]) rfl ?_
        rw [H.out]; exact ⟨rfl, by (repeat (first | exact Ext.refl _ | assumption | refine Ext.alloc ?_ _ | refine Ext.drew ?_ | refine Ext.drewN ?_ _ | refine Ext.setCell ?_ (by (try simp only [World.size_alloc, World.size_setCell, World.size_drew, World.heap_drewN]); omega) _ | refine Ext.step (by assumption) ?_))⟩
    · have H := Lib.hid (show joinV a b c d = .tuple #[mixV 0 0, .bool false] from by rw [joinV, if_neg (fun h => h2 h.2.1)])
      go_enter Try.func24, Try.ntmps24
      go_wp2_with (first | (go_at_call 31; refine (within_c _ _ _ _).mono ?_; rintro e w' ⟨rfl, rfl⟩) | (go_at_call 13; refine (mixOk_c _ _ _).mono ?_; rintro e w' ⟨rfl, rfl⟩))
      refine bodyPost_ret (v := .tuple #[mixV 0 0, .bool false]) (by simp [results, Try.results24, go_sem, *]) rfl ?_
      rw [H.out]; exact ⟨rfl, by (repeat (first | exact Ext.refl _ | assumption | refine Ext.alloc ?_ _ | refine Ext.drew ?_ | refine Ext.drewN ?_ _ | refine Ext.setCell ?_ (by (try simp only [World.size_alloc, World.size_setCell, World.size_drew, World.heap_drewN]); omega) _ | refine Ext.step (by assumption) ?_))⟩
  · have H := Lib.hid (show joinV a b c d = .tuple #[mixV 0 0, .bool false] from by rw [joinV, if_neg (fun h => h1 h.1)])
    go_enter Try.func24, Try.ntmps24
    go_wp2_with (first | (go_at_call 31; refine (within_c _ _ _ _).mono ?_; rintro e w' ⟨rfl, rfl⟩) | (go_at_call 13; refine (mixOk_c _ _ _).mono ?_; rintro e w' ⟨rfl, rfl⟩))
    refine bodyPost_ret (v := .tuple #[mixV 0 0, .bool false]) (by simp [results, Try.results24, go_sem, *]) rfl ?_
    rw [H.out]; exact ⟨rfl, by (repeat (first | exact Ext.refl _ | assumption | refine Ext.alloc ?_ _ | refine Ext.drew ?_ | refine Ext.drewN ?_ _ | refine Ext.setCell ?_ (by (try simp only [World.size_alloc, World.size_setCell, World.size_drew, World.heap_drewN]); omega) _ | refine Ext.step (by assumption) ?_))⟩

theorem sJoinMix_c (a b c d : Int) (w : World) : Calls Try.prog 23 #[.agg #[.int .i64 a, .int .i64 b], .agg #[.int .i64 c, .int .i64 d]] w (Ans (joinV a b c d) w) := by
  by_cases h1 : mixB a b = true
  · by_cases h2 : mixB c d = true
    · have m0 := mixB_yes h1
      have m1 := mixB_yes h2
      by_cases h3 : mixB (a + c) (b + d) = true
      · have H := Lib.hid (show joinV a b c d = .tuple #[mixV (a + c) (b + d), .bool true] from by rw [joinV, if_pos ⟨h1, h2, h3⟩])
        go_enter Try.func23, Try.ntmps23
        go_wp2_with (first | (go_at_call 30; refine (l01In_c _ _ _ _).mono ?_; rintro e w' ⟨rfl, rfl⟩) | (go_at_call 11; refine (sMixOk_c _ _ _).mono ?_; rintro e w' ⟨rfl, rfl⟩))
        refine bodyPost_ret (v := .tuple #[mixV (a + c) (b + d), .bool true]) (by simp [results, Try.results23, go_sem, *]) rfl ?_
        rw [H.out]; exact ⟨rfl, by (repeat (first | exact Ext.refl _ | assumption | refine Ext.alloc ?_ _ | refine Ext.drew ?_ | refine Ext.drewN ?_ _ | refine Ext.setCell ?_ (by (try simp only [World.size_alloc, World.size_setCell, World.size_drew, World.heap_drewN]); omega) _ | refine Ext.step (by assumption) ?_))⟩
      · have H := Lib.hid (show joinV a b c d = .tuple #[mixV 0 0, .bool false] from by rw [joinV, if_neg (fun h => h3 h.2.2)])
        go_enter Try.func23, Try.ntmps23
        go_wp2_with (first | (go_at_call 30; refine (l01In_c _ _ _ _).mono ?_; rintro e w' ⟨rfl, rfl⟩) | (go_at_call 11; refine (sMixOk_c _ _ _).mono ?_; rintro e w' ⟨rfl, rfl⟩))
        refine bodyPost_ret (v := .tuple #[mixV 0 0, .bool false]) (by simp [results, Try.results23, go_sem, *]) rfl ?_
        rw [H.out]; exact ⟨rfl, by (repeat (first | exact Ext.refl _ | assumption | refine Ext.alloc ?_ _ | refine Ext.drew ?_ | refine Ext.drewN ?_ _ | refine Ext.setCell ?_ (by (try simp only [World.size_alloc, World.size_setCell, World.size_drew, World.heap_drewN]); omega) _ | refine Ext.step (by assumption) ?_))⟩
    · have H := Lib.hid (show joinV a b c d = .tuple #[mixV 0 0, .bool false] from by rw [joinV, if_neg (fun h => h2 h.2.1)])
      go_enter Try.func23, Try.ntmps23
      go_wp2_with (first | (go_at_call 30; refine (l01In_c _ _ _ _).mono ?_; rintro e w' ⟨rfl, rfl⟩) | (go_at_call 11; refine (sMixOk_c _ _ _).mono ?_; rintro e w' ⟨rfl, rfl⟩))
      refine bodyPost_ret (v := .tuple #[mixV 0 0, .bool false]) (by simp [results, Try.results23, go_sem, *]) rfl ?_
      rw [H.out]; exact ⟨rfl, by (repeat (first | exact Ext.refl _ | assumption | refine Ext.alloc ?_ _ | refine Ext.drew ?_ | refine Ext.drewN ?_ _ | refine Ext.setCell ?_ (by (try simp only [World.size_alloc, World.size_setCell, World.size_drew, World.heap_drewN]); omega) _ | refine Ext.step (by assumption) ?_))⟩
  · have H := Lib.hid (show joinV a b c d = .tuple #[mixV 0 0, .bool false] from by rw [joinV, if_neg (fun h => h1 h.1)])
    go_enter Try.func23, Try.ntmps23
    go_wp2_with (first | (go_at_call 30; refine (l01In_c _ _ _ _).mono ?_; rintro e w' ⟨rfl, rfl⟩) | (go_at_call 11; refine (sMixOk_c _ _ _).mono ?_; rintro e w' ⟨rfl, rfl⟩))
    refine bodyPost_ret (v := .tuple #[mixV 0 0, .bool false]) (by simp [results, Try.results23, go_sem, *]) rfl ?_
    rw [H.out]; exact ⟨rfl, by (repeat (first | exact Ext.refl _ | assumption | refine Ext.alloc ?_ _ | refine Ext.drew ?_ | refine Ext.drewN ?_ _ | refine Ext.setCell ?_ (by (try simp only [World.size_alloc, World.size_setCell, World.size_drew, World.heap_drewN]); omega) _ | refine Ext.step (by assumption) ?_))⟩

theorem takeMix_c (a b l : Int) (w : World) : Calls Try.prog 21 #[.agg #[.int .i64 a, .int .i64 b], .int .i64 l] w (Ans (takeV a b l) w) := by
  by_cases h1 : mixB a b = true
  · have m0 := mixB_yes h1
    by_cases h3 : inB l 1 (a - 1) = true
    · have H := Lib.hid (show takeV a b l = .tuple #[mixV (a - l) (b - b * l / a), mixV l (b * l / a), .bool true] from by rw [takeV, if_pos ⟨h1, inB_yes h3⟩])
      have ⟨m1, m2, m3, m4⟩ := take_room a b l h1 h3
      have m5 := inB_yes h3
      go_enter Try.func21, Try.ntmps21
      go_wp2_with (first | (go_at_call 31; refine (within_c _ _ _ _).mono ?_; rintro e w' ⟨rfl, rfl⟩) | (go_at_call 13; refine (mixOk_c _ _ _).mono ?_; rintro e w' ⟨rfl, rfl⟩))
      go_region; all_goals go_wp2
      all_goals (refine bodyPost_ret (v := .tuple #[mixV (a - l) (b - b * l / a), mixV l (b * l / a), .bool true]) (by simp [results, Try.results21, go_sem, *]) rfl ?_; rw [H.out]; exact ⟨rfl, by (repeat (first | exact Ext.refl _ | assumption | refine Ext.alloc ?_ _ | refine Ext.drew ?_ | refine Ext.drewN ?_ _ | refine Ext.setCell ?_ (by (try simp only [World.size_alloc, World.size_setCell, World.size_drew, World.heap_drewN]); omega) _ | refine Ext.step (by assumption) ?_))⟩)
    · have H := Lib.hid (show takeV a b l = .tuple #[mixV a b, mixV 0 0, .bool false] from by rw [takeV, if_neg (fun h => h3 (inB_mk h.2))])
      go_enter Try.func21, Try.ntmps21
      go_wp2_with (first | (go_at_call 31; refine (within_c _ _ _ _).mono ?_; rintro e w' ⟨rfl, rfl⟩) | (go_at_call 13; refine (mixOk_c _ _ _).mono ?_; rintro e w' ⟨rfl, rfl⟩))
      all_goals (refine bodyPost_ret (v := .tuple #[mixV a b, mixV 0 0, .bool false]) (by simp [results, Try.results21, go_sem, *]) rfl ?_; rw [H.out]; exact ⟨rfl, by (repeat (first | exact Ext.refl _ | assumption | refine Ext.alloc ?_ _ | refine Ext.drew ?_ | refine Ext.drewN ?_ _ | refine Ext.setCell ?_ (by (try simp only [World.size_alloc, World.size_setCell, World.size_drew, World.heap_drewN]); omega) _ | refine Ext.step (by assumption) ?_))⟩)
  · have H := Lib.hid (show takeV a b l = .tuple #[mixV a b, mixV 0 0, .bool false] from by rw [takeV, if_neg (fun h => h1 h.1)])
    go_enter Try.func21, Try.ntmps21
    go_wp2_with (first | (go_at_call 31; refine (within_c _ _ _ _).mono ?_; rintro e w' ⟨rfl, rfl⟩) | (go_at_call 13; refine (mixOk_c _ _ _).mono ?_; rintro e w' ⟨rfl, rfl⟩))
    all_goals (refine bodyPost_ret (v := .tuple #[mixV a b, mixV 0 0, .bool false]) (by simp [results, Try.results21, go_sem, *]) rfl ?_; rw [H.out]; exact ⟨rfl, by (repeat (first | exact Ext.refl _ | assumption | refine Ext.alloc ?_ _ | refine Ext.drew ?_ | refine Ext.drewN ?_ _ | refine Ext.setCell ?_ (by (try simp only [World.size_alloc, World.size_setCell, World.size_drew, World.heap_drewN]); omega) _ | refine Ext.step (by assumption) ?_))⟩)

theorem sTakeMix_c (a b l : Int) (w : World) : Calls Try.prog 20 #[.agg #[.int .i64 a, .int .i64 b], .int .i64 l] w (Ans (takeV a b l) w) := by
  by_cases h1 : mixB a b = true
  · have m0 := mixB_yes h1
    by_cases h3 : inB l 1 (a - 1) = true
    · have H := Lib.hid (show takeV a b l = .tuple #[mixV (a - l) (b - b * l / a), mixV l (b * l / a), .bool true] from by rw [takeV, if_pos ⟨h1, inB_yes h3⟩])
      have ⟨m1, m2, m3, m4⟩ := take_room a b l h1 h3
      have m5 := inB_yes h3
      go_enter Try.func20, Try.ntmps20
      go_wp2_with (first | (go_at_call 30; refine (l01In_c _ _ _ _).mono ?_; rintro e w' ⟨rfl, rfl⟩) | (go_at_call 11; refine (sMixOk_c _ _ _).mono ?_; rintro e w' ⟨rfl, rfl⟩))
      skip
      all_goals (refine bodyPost_ret (v := .tuple #[mixV (a - l) (b - b * l / a), mixV l (b * l / a), .bool true]) (by simp [results, Try.results20, go_sem, *]) rfl ?_; rw [H.out]; exact ⟨rfl, by (repeat (first | exact Ext.refl _ | assumption | refine Ext.alloc ?_ _ | refine Ext.drew ?_ | refine Ext.drewN ?_ _ | refine Ext.setCell ?_ (by (try simp only [World.size_alloc, World.size_setCell, World.size_drew, World.heap_drewN]); omega) _ | refine Ext.step (by assumption) ?_))⟩)
    · have H := Lib.hid (show takeV a b l = .tuple #[mixV a b, mixV 0 0, .bool false] from by rw [takeV, if_neg (fun h => h3 (inB_mk h.2))])
      go_enter Try.func20, Try.ntmps20
      go_wp2_with (first | (go_at_call 30; refine (l01In_c _ _ _ _).mono ?_; rintro e w' ⟨rfl, rfl⟩) | (go_at_call 11; refine (sMixOk_c _ _ _).mono ?_; rintro e w' ⟨rfl, rfl⟩))
      all_goals (refine bodyPost_ret (v := .tuple #[mixV a b, mixV 0 0, .bool false]) (by simp [results, Try.results20, go_sem, *]) rfl ?_; rw [H.out]; exact ⟨rfl, by (repeat (first | exact Ext.refl _ | assumption | refine Ext.alloc ?_ _ | refine Ext.drew ?_ | refine Ext.drewN ?_ _ | refine Ext.setCell ?_ (by (try simp only [World.size_alloc, World.size_setCell, World.size_drew, World.heap_drewN]); omega) _ | refine Ext.step (by assumption) ?_))⟩)
  · have H := Lib.hid (show takeV a b l = .tuple #[mixV a b, mixV 0 0, .bool false] from by rw [takeV, if_neg (fun h => h1 h.1)])
    go_enter Try.func20, Try.ntmps20
    go_wp2_with (first | (go_at_call 30; refine (l01In_c _ _ _ _).mono ?_; rintro e w' ⟨rfl, rfl⟩) | (go_at_call 11; refine (sMixOk_c _ _ _).mono ?_; rintro e w' ⟨rfl, rfl⟩))
    all_goals (refine bodyPost_ret (v := .tuple #[mixV a b, mixV 0 0, .bool false]) (by simp [results, Try.results20, go_sem, *]) rfl ?_; rw [H.out]; exact ⟨rfl, by (repeat (first | exact Ext.refl _ | assumption | refine Ext.alloc ?_ _ | refine Ext.drew ?_ | refine Ext.drewN ?_ _ | refine Ext.setCell ?_ (by (try simp only [World.size_alloc, World.size_setCell, World.size_drew, World.heap_drewN]); omega) _ | refine Ext.step (by assumption) ?_))⟩)
end Go.Proofs.Ytiaghlphgbonbaa
