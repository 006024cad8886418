/-
  The contracts of the functions on a leaking tank: what each call answers, for all arguments; what was there stays as it was.
-/
import Derived.Test.YtdaokpfomoiboaaInts
namespace Go.Proofs.Ytdaokpfomoiboaa
open Go.RowKit

def tankB (r l h t : Int) : Bool := decide (1 ≤ r ∧ r ≤ 100000 ∧ 0 ≤ l ∧ l ≤ r ∧ 0 ≤ h ∧ h ≤ r ∧ 0 ≤ t ∧ t ≤ 1000)
theorem tankB_yes {r l h t : Int} (e : tankB r l h t = true) : 1 ≤ r ∧ r ≤ 100000 ∧ 0 ≤ l ∧ l ≤ r ∧ 0 ≤ h ∧ h ≤ r ∧ 0 ≤ t ∧ t ≤ 1000 := by simpa [tankB] using e
abbrev tankV (r l h t : Int) : Value := .agg #[.int .i64 r, .int .i64 l, .int .i64 h, .int .i64 t]
abbrev tankO (r l h t : Int) (ty : TypeId) : Obj := .cells #[.int .i64 r, .int .i64 l, .int .i64 h, .int .i64 t] ty

theorem tankOk_c (r l h t : Int) (w : World) : Calls Try.prog 11 #[tankV r l h t] w fun e w' => e = .returned (.bool (tankB r l h t)) ∧ w' = w.alloc (tankO r l h t 25) := by
  go_enter Try.func11, Try.ntmps11
  go_wp2_with (go_at_call 30; refine (within_c _ _ _ _).mono ?_; rintro e w' ⟨rfl, rfl⟩)
  all_goals (go_ret; go_tidy; refine ⟨ret_bool (bool_iff ?_), rfl⟩; simp only [inB, tankB, boolForms] at *; omega)
theorem sTankOk_c (r l h t : Int) (w : World) : Calls Try.prog 9 #[tankV r l h t] w fun e w' => e = .returned (.bool (tankB r l h t)) ∧ w' = w.alloc (tankO r l h t 25) := by
  go_enter Try.func9, Try.ntmps9
  go_wp2_with (go_at_call 29; refine (l01In_c _ _ _ _).mono ?_; rintro e w' ⟨rfl, rfl⟩)
  all_goals (go_ret; go_tidy; refine ⟨ret_bool (bool_iff ?_), rfl⟩; simp only [inB, tankB, boolForms] at *; omega)
theorem toTank_c (r l h t : Int) (w : World) : Calls Try.prog 10 #[tankV r l h t] w fun e w' => e = .returned (tankV r l h t) ∧ w' = ((w.alloc (tankO r l h t 23)).alloc (tankO r l h t 25)).alloc (tankO r l h t 25) := by
  go_enter Try.func10, Try.ntmps10
  go_wp2
  go_returns
  exact ⟨rfl, rfl⟩
def eq4 (a b c d a' b' c' d' : Int) : Bool := decide (a = a' ∧ b = b' ∧ c = c' ∧ d = d')
theorem eq4_self (a b c d : Int) : eq4 a b c d a b c d = true := by simp [eq4]
theorem eqTank_c (a b c d a' b' c' d' : Int) (w : World) : Calls Try.prog 14 #[tankV a b c d, tankV a' b' c' d'] w fun e w' => e = .returned (.bool (eq4 a b c d a' b' c' d')) ∧ w' = (w.alloc (tankO a b c d 25)).alloc (tankO a' b' c' d' 25) := by
  go_enter Try.func14, Try.ntmps14
  go_wp2
  all_goals (go_ret; go_tidy; refine ⟨ret_bool (bool_iff ?_), rfl⟩; simp only [eq4, boolForms] at *; omega)

/-- what is lost in an hour -/
def lostF (r l h t : Int) : Int := if tankB r l h t = true then min t (max 0 (l - h)) else -1
/-- the level behind an hour -/
def restF (r l h t : Int) : Int := if tankB r l h t = true then l - min t (max 0 (l - h)) else l
theorem leakHour_c (r l h t : Int) (w : World) : Calls Try.prog 13 #[tankV r l h t] w (Ans (.tuple #[tankV r (restF r l h t) h t, .int .i64 (lostF r l h t)]) w) := by
  by_cases h1 : tankB r l h t = true
  · have m0 := tankB_yes h1
    have H := Lib.hid (show lostF r l h t = min t (max 0 (l - h)) from by rw [lostF, if_pos h1])
    have H' := Lib.hid (show restF r l h t = l - min t (max 0 (l - h)) from by rw [restF, if_pos h1])
    go_enter Try.func13, Try.ntmps13
    go_wp2_with (go_at_call 11; refine (tankOk_c _ _ _ _ _).mono ?_; rintro e w' ⟨rfl, rfl⟩)
    refine bodyPost_ret (v := .tuple #[tankV r (l - min t (max 0 (l - h))) h t, .int .i64 (min t (max 0 (l - h)))]) (by simp [results, Try.results13, go_sem, *]) rfl ?_
    rw [H.out, H'.out]; exact ⟨rfl, by (repeat (first | exact Ext.refl _ | assumption | refine Ext.alloc ?_ _ | refine Ext.drew ?_ | refine Ext.drewN ?_ _ | refine Ext.setCell ?_ (by (try simp only [World.size_alloc, World.size_setCell, World.size_drew, World.heap_drewN]); omega) _ | refine Ext.step (by assumption) ?_))⟩
  · have H := Lib.hid (show lostF r l h t = -1 from by rw [lostF, if_neg h1])
    have H' := Lib.hid (show restF r l h t = l from by rw [restF, if_neg h1])
    go_enter Try.func13, Try.ntmps13
    go_wp2_with (go_at_call 11; refine (tankOk_c _ _ _ _ _).mono ?_; rintro e w' ⟨rfl, rfl⟩)
    refine bodyPost_ret (v := .tuple #[tankV r l h t, .int .i64 (-1)]) (by simp [results, Try.results13, go_sem, *]) rfl ?_
    rw [H.out, H'.out]; exact ⟨rfl, by (repeat (first | exact Ext.refl _ | assumption | refine Ext.alloc ?_ _ | refine Ext.drew ?_ | refine Ext.drewN ?_ _ | refine Ext.setCell ?_ (by (try simp only [World.size_alloc, World.size_setCell, World.size_drew, World.heap_drewN]); omega) _ | refine Ext.step (by assumption) ?_))⟩
theorem sLeakHour_c (r l h t : Int) (w : World) : Calls Try.prog 12 #[tankV r l h t] w (Ans (.tuple #[tankV r (restF r l h t) h t, .int .i64 (lostF r l h t)]) w) := by
  by_cases h1 : tankB r l h t = true
  · have m0 := tankB_yes h1
    have H := Lib.hid (show lostF r l h t = max 0 (min t (l - h)) from by rw [lostF, if_pos h1]; omega)
    have H' := Lib.hid (show restF r l h t = l - max 0 (min t (l - h)) from by rw [restF, if_pos h1]; omega)
    go_enter Try.func12, Try.ntmps12
    go_wp2_with (go_at_call 9; refine (sTankOk_c _ _ _ _ _).mono ?_; rintro e w' ⟨rfl, rfl⟩)
    refine bodyPost_ret (v := .tuple #[tankV r (l - max 0 (min t (l - h))) h t, .int .i64 (max 0 (min t (l - h)))]) (by simp [results, Try.results12, go_sem, *]) rfl ?_
    rw [H.out, H'.out]; exact ⟨rfl, by (repeat (first | exact Ext.refl _ | assumption | refine Ext.alloc ?_ _ | refine Ext.drew ?_ | refine Ext.drewN ?_ _ | refine Ext.setCell ?_ (by (try simp only [World.size_alloc, World.size_setCell, World.size_drew, World.heap_drewN]); omega) _ | refine Ext.step (by assumption) ?_))⟩
  · have H := Lib.hid (show lostF r l h t = -1 from by rw [lostF, if_neg h1])
    have H' := Lib.hid (show restF r l h t = l from by rw [restF, if_neg h1])
    go_enter Try.func12, Try.ntmps12
    go_wp2_with (go_at_call 9; refine (sTankOk_c _ _ _ _ _).mono ?_; rintro e w' ⟨rfl, rfl⟩)
    refine bodyPost_ret (v := .tuple #[tankV r l h t, .int .i64 (-1)]) (by simp [results, Try.results12, go_sem, *]) rfl ?_
    rw [H.out, H'.out]; exact ⟨rfl, by (repeat (first | exact Ext.refl _ | assumption | refine Ext.alloc ?_ _ | refine Ext.drew ?_ | refine Ext.drewN ?_ _ | refine Ext.setCell ?_ (by (try simp only [World.size_alloc, World.size_setCell, World.size_drew, World.heap_drewN]); omega) _ | refine Ext.step (by assumption) ?_))⟩

/-- the level behind n hours -/
def levelF (r l h t n : Int) : Int := if tankB r l h t = true ∧ 0 ≤ n ∧ n ≤ 10000 then l - min (t * n) (max 0 (l - h)) else -1
theorem level_room (r l h t n : Int) (h1 : tankB r l h t = true) (h2 : inB n 0 10000 = true) : 0 ≤ t * n ∧ t * n ≤ 10000000 := by
  have h1 := tankB_yes h1
  have h2 := inB_yes h2
  refine ⟨Int.mul_nonneg (by omega) h2.1, ?_⟩
  have := Int.mul_le_mul (show t ≤ 1000 by omega) h2.2 h2.1 (by omega)
  omega
theorem levelAfter_c (r l h t n : Int) (w : World) : Calls Try.prog 16 #[tankV r l h t, .int .i64 n] w (Ans (.int .i64 (levelF r l h t n)) w) := by
  by_cases h1 : tankB r l h t = true
  · by_cases h2 : inB n 0 10000 = true
    · have m0 := tankB_yes h1
      have ⟨m1, m2⟩ := level_room r l h t n h1 h2
      have H := Lib.hid (show levelF r l h t n = l - min (t * n) (max 0 (l - h)) from by rw [levelF, if_pos ⟨h1, inB_yes h2⟩])
      go_enter Try.func16, Try.ntmps16
      go_wp2_with (first | (go_at_call 30; refine (within_c _ _ _ _).mono ?_; rintro e w' ⟨rfl, rfl⟩) | (go_at_call 11; refine (tankOk_c _ _ _ _ _).mono ?_; rintro e w' ⟨rfl, rfl⟩))
      all_goals (go_ret; exact ⟨ret_int H.out.symm, by (repeat (first | exact Ext.refl _ | assumption | refine Ext.alloc ?_ _ | refine Ext.drew ?_ | refine Ext.drewN ?_ _ | refine Ext.setCell ?_ (by (try simp only [World.size_alloc, World.size_setCell, World.size_drew, World.heap_drewN]); omega) _ | refine Ext.step (by assumption) ?_))⟩)
    · have H := Lib.hid (show levelF r l h t n = -1 from by rw [levelF, if_neg (fun e => h2 (inB_mk e.2))])
      go_enter Try.func16, Try.ntmps16
      go_wp2_with (first | (go_at_call 30; refine (within_c _ _ _ _).mono ?_; rintro e w' ⟨rfl, rfl⟩) | (go_at_call 11; refine (tankOk_c _ _ _ _ _).mono ?_; rintro e w' ⟨rfl, rfl⟩))
      all_goals (go_ret; exact ⟨ret_int H.out.symm, by (repeat (first | exact Ext.refl _ | assumption | refine Ext.alloc ?_ _ | refine Ext.drew ?_ | refine Ext.drewN ?_ _ | refine Ext.setCell ?_ (by (try simp only [World.size_alloc, World.size_setCell, World.size_drew, World.heap_drewN]); omega) _ | refine Ext.step (by assumption) ?_))⟩)
  · have H := Lib.hid (show levelF r l h t n = -1 from by rw [levelF, if_neg (fun e => h1 e.1)])
    go_enter Try.func16, Try.ntmps16
    go_wp2_with (first | (go_at_call 30; refine (within_c _ _ _ _).mono ?_; rintro e w' ⟨rfl, rfl⟩) | (go_at_call 11; refine (tankOk_c _ _ _ _ _).mono ?_; rintro e w' ⟨rfl, rfl⟩))
    all_goals (go_ret; exact ⟨ret_int H.out.symm, by (repeat (first | exact Ext.refl _ | assumption | refine Ext.alloc ?_ _ | refine Ext.drew ?_ | refine Ext.drewN ?_ _ | refine Ext.setCell ?_ (by (try simp only [World.size_alloc, World.size_setCell, World.size_drew, World.heap_drewN]); omega) _ | refine Ext.step (by assumption) ?_))⟩)
theorem sLevelAfter_c (r l h t n : Int) (w : World) : Calls Try.prog 15 #[tankV r l h t, .int .i64 n] w (Ans (.int .i64 (levelF r l h t n)) w) := by
  by_cases h1 : tankB r l h t = true
  · by_cases h2 : inB n 0 10000 = true
    · have m0 := tankB_yes h1
      have ⟨m1', m2'⟩ := level_room r l h t n h1 h2
      have m1 : 0 ≤ n * t := by rw [Int.mul_comm]; exact m1'
      have m2 : n * t ≤ 10000000 := by rw [Int.mul_comm]; exact m2'
      have H := Lib.hid (show levelF r l h t n = (if l ≤ h then l else max h (l - n * t)) from by
        rw [levelF, if_pos ⟨h1, inB_yes h2⟩, Int.mul_comm t n]
        split <;> omega)
      clear m1' m2'
      go_enter Try.func15, Try.ntmps15
      go_wp2_with (first | (go_at_call 29; refine (l01In_c _ _ _ _).mono ?_; rintro e w' ⟨rfl, rfl⟩) | (go_at_call 9; refine (sTankOk_c _ _ _ _ _).mono ?_; rintro e w' ⟨rfl, rfl⟩))
      all_goals (go_ret; go_tidy; refine ⟨ret_int ?_, by (repeat (first | exact Ext.refl _ | assumption | refine Ext.alloc ?_ _ | refine Ext.drew ?_ | refine Ext.drewN ?_ _ | refine Ext.setCell ?_ (by (try simp only [World.size_alloc, World.size_setCell, World.size_drew, World.heap_drewN]); omega) _ | refine Ext.step (by assumption) ?_))⟩; rw [H.out]; first | rw [if_pos (by omega)] | rw [if_neg (by omega)])
    · have H := Lib.hid (show levelF r l h t n = -1 from by rw [levelF, if_neg (fun e => h2 (inB_mk e.2))])
      go_enter Try.func15, Try.ntmps15
      go_wp2_with (first | (go_at_call 29; refine (l01In_c _ _ _ _).mono ?_; rintro e w' ⟨rfl, rfl⟩) | (go_at_call 9; refine (sTankOk_c _ _ _ _ _).mono ?_; rintro e w' ⟨rfl, rfl⟩))
      all_goals (go_ret; exact ⟨ret_int H.out.symm, by (repeat (first | exact Ext.refl _ | assumption | refine Ext.alloc ?_ _ | refine Ext.drew ?_ | refine Ext.drewN ?_ _ | refine Ext.setCell ?_ (by (try simp only [World.size_alloc, World.size_setCell, World.size_drew, World.heap_drewN]); omega) _ | refine Ext.step (by assumption) ?_))⟩)
  · have H := Lib.hid (show levelF r l h t n = -1 from by rw [levelF, if_neg (fun e => h1 e.1)])
    go_enter Try.func15, Try.ntmps15
    go_wp2_with (first | (go_at_call 29; refine (l01In_c _ _ _ _).mono ?_; rintro e w' ⟨rfl, rfl⟩) | (go_at_call 9; refine (sTankOk_c _ _ _ _ _).mono ?_; rintro e w' ⟨rfl, rfl⟩))
    all_goals (go_ret; exact ⟨ret_int H.out.symm, by (repeat (first | exact Ext.refl _ | assumption | refine Ext.alloc ?_ _ | refine Ext.drew ?_ | refine Ext.drewN ?_ _ | refine Ext.setCell ?_ (by (try simp only [World.size_alloc, World.size_setCell, World.size_drew, World.heap_drewN]); omega) _ | refine Ext.step (by assumption) ?_))⟩)
end Go.Proofs.Ytdaokpfomoiboaa
