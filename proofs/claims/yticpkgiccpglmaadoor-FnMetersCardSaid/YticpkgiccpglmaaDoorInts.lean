/-
  The contracts of the small functions on slices of ints: a copy, a comparison, marks written and looked for, a range for all.
-/
import Derived.Test.YticpkgiccpglmaaDoorProg
import Derived.Test.YticpkgiccpglmaaDoorMem
namespace Go.Proofs.YticpkgiccpglmaaDoor
open Go.RowKit

theorem intInfo : (Tryd.prog.info? 3).map (fun i => (i.zero, i.size, i.bytes)) = some (some (.int .i64 0), 1, 8) := by kernel_rfl

theorem within_c (n lo hi : Int) (w : World) : Calls Tryd.prog 18 #[.int .i64 n, .int .i64 lo, .int .i64 hi] w fun e w' => e = .returned (.bool (inB n lo hi)) ∧ w = w' := by
  go_enter Tryd.func18, Tryd.ntmps18
  go_wp2
  all_goals (go_ret; exact ⟨by simp [inB, *] <;> omega, rfl⟩)
theorem l01In_c (n lo hi : Int) (w : World) : Calls Tryd.prog 26 #[.int .i64 n, .int .i64 lo, .int .i64 hi] w fun e w' => e = .returned (.bool (inB n lo hi)) ∧ w = w' := by
  go_enter Tryd.func26, Tryd.ntmps26
  go_wp2
  all_goals (go_ret; exact ⟨by simp [inB, *] <;> omega, rfl⟩)

/-- all of them lie from lo to hi -/
def allB (zs : List Int) (lo hi : Int) : Bool := zs.all fun z => inB z lo hi
theorem allB_no {zs : List Int} {lo hi : Int} {k : Nat} (hk : k < zs.length) (h : ¬ inB (nth zs k) lo hi = true) : allB zs lo hi = false := by
  rw [allB, List.all_eq_false]
  exact ⟨zs[k], List.getElem_mem hk, by simpa [nth, hk] using h⟩
theorem allB_yes {zs : List Int} {lo hi : Int} (h : ∀ j, j < zs.length → inB (nth zs j) lo hi = true) : allB zs lo hi = true := by
  rw [allB, List.all_eq_true]
  intro z hz
  obtain ⟨j, hj, rfl⟩ := List.getElem_of_mem hz
  simpa [nth, hj] using h j hj
theorem allB_at {zs : List Int} {lo hi : Int} (h : allB zs lo hi = true) {j : Nat} (hj : j < zs.length) : lo ≤ nth zs j ∧ nth zs j ≤ hi := by
  rw [allB, List.all_eq_true] at h
  have := inB_yes (h zs[j] (List.getElem_mem hj))
  simpa [nth, hj] using this
theorem allWithin_c (A : Option Addr) (n c : Nat) (zs : List Int) (lo hi : Int) (w : World) (h : Holds w 1 A n c (ints zs)) :
    Calls Tryd.prog 32 #[.slice A n c, .int .i64 lo, .int .i64 hi] w fun e w' => e = .returned (.bool (allB zs lo hi)) ∧ w = w' := by
  have hm : n ≤ 9223372036854775807 := by have := h.2.1; have := h.2.2.1; unfold maxLen at this; omega
  have HL := Lib.hid h.intlen
  go_enter Tryd.func32, Tryd.ntmps32
  go_wp2
  go_loop [11] (fun i => ∃ k : Nat, k ≤ n ∧ i = .int .i64 k ∧ Hid (∀ j, j < k → inB (nth zs j) lo hi = true)) (fun i => n - (intOf i).toNat)
  case atStart => exact ⟨0, Nat.zero_le _, rfl, fun j hj => by omega⟩
  case round =>
    obtain ⟨k, hk, rfl, hall⟩ := hrel
    by_cases hlt : k < n
    · obtain ⟨b, off, rfl, hb, hc⟩ := h.int (by omega)
      have hck := hc k hlt
      clear hc h
      by_cases ht : inB (nth zs k) lo hi = true
      · go_wp2_with (go_at_call 18; refine (within_c _ _ _ _).mono ?_; rintro e w' ⟨rfl, rfl⟩)
        go_round
        case rel => exact ⟨k + 1, by omega, by go_num, fun j hj => by
          rcases Nat.lt_succ_iff_lt_or_eq.1 hj with hj | rfl
          · exact hall.out j hj
          · exact ht⟩
        case measure => simp [intOf]; omega
      · go_wp2_with (go_at_call 18; refine (within_c _ _ _ _).mono ?_; rintro e w' ⟨rfl, rfl⟩)
        go_ret
        exact ⟨ret_bool (allB_no (by rw [HL.out]; exact hlt) ht).symm, rfl⟩
    · go_wp2
      go_ret
      exact ⟨ret_bool (allB_yes (fun j hj => hall.out j (by have := HL.out; omega))).symm, rfl⟩

end Go.Proofs.YticpkgiccpglmaaDoor
