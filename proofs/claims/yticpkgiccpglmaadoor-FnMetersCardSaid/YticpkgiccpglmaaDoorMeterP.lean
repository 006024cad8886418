/-
  Plain facts on drawn readings of a meter, for the law FnMeters. No program in sight. Conditions: those of drawn readings.
-/
import Derived.Test.YticpkgiccpglmaaDoorMeterD
namespace Go.Proofs.YticpkgiccpglmaaDoor
open Go.RowKit

/-- drawn readings -/
def DrawnR (zs : List Int) : Prop := (1 ≤ zs.length ∧ zs.length ≤ 9) ∧ ∀ i, i < zs.length → 0 ≤ nth zs i ∧ nth zs i ≤ 99999
theorem drawnR_ok {zs : List Int} (h : DrawnR zs) : medB zs = true := by
  rw [medB, inB_mk (by have := h.1; omega), allB_yes fun j hj => inB_mk (h.2 j hj)]; rfl
theorem use_is {zs : List Int} (h : DrawnR zs) (i : Nat) (hi : i + 1 < zs.length) : useN zs i = (if nth zs (i + 1) < nth zs i then nth zs (i + 1) - nth zs i + 100000 else nth zs (i + 1) - nth zs i) :=
  usedF_ok (inB_mk (h.2 i (by omega))) (inB_mk (h.2 (i + 1) hi))
theorem tele {zs : List Int} (h : DrawnR zs) : ∀ k, k + 1 ≤ zs.length → sumG (useN zs) k = nth zs k - nth zs 0 + 100000 * cntQ (overQ zs) k := by
  intro k
  induction k with
  | zero => intro _; simp [sumG, cntQ]
  | succ k ih =>
    intro hk
    rw [sumG, ih (by omega), use_is h k (by omega)]
    by_cases hlt : nth zs (k + 1) < nth zs k
    · rw [if_pos hlt, cntQ_yes (by simp [overQ, hlt])]; omega
    · rw [if_neg hlt, cntQ_no (by simp [overQ, hlt])]; omega
theorem all_law {zs : List Int} (h : DrawnR zs) : allF zs = sumG (useN zs) (zs.length - 1) ∧ allF zs = nth zs (zs.length - 1) - nth zs 0 + 100000 * turnF zs ∧ 0 ≤ allF zs ∧ 0 ≤ turnF zs ∧ turnF zs ≤ 9 := by
  have hm := drawnR_ok h
  have h1 := h.1
  have e : allF zs = sumG (useN zs) (zs.length - 1) := if_pos hm
  have e2 : turnF zs = cntQ (overQ zs) (zs.length - 1) := if_pos hm
  have hc := cntQ_bd (overQ zs) (zs.length - 1)
  refine ⟨e, ?_, ?_, by omega, by omega⟩
  · rw [e, e2]; exact tele h _ (by omega)
  · rw [e]; exact sumG_nonneg fun i hi => useN_nonneg hm (by omega)
theorem sum_small {zs : List Int} (k : Nat) (hk : k ≤ 9) : -1000000 ≤ sumG (useN zs) k ∧ sumG (useN zs) k ≤ 1000000 := by
  have : ∀ k : Nat, -(k : Int) ≤ sumG (useN zs) k ∧ sumG (useN zs) k ≤ k * 99999 := by
    intro k
    induction k with
    | zero => simp [sumG]
    | succ k ih => have := useN_bd zs k; rw [sumG]; push_cast; omega
  have := this k
  omega
theorem mem_filtSucc (q : Nat → Bool) (n : Nat) (x : Int) : x ∈ filtSucc q n ↔ ∃ i : Nat, i < n ∧ q i = true ∧ x = (i : Int) + 1 := by
  induction n with
  | zero => simp [filtSucc]
  | succ n ih =>
    cases h : q n
    · rw [filtSucc_no h, ih]
      constructor
      · rintro ⟨i, h1, h2, h3⟩; exact ⟨i, by omega, h2, h3⟩
      · rintro ⟨i, h1, h2, h3⟩
        refine ⟨i, ?_, h2, h3⟩
        rcases Nat.lt_succ_iff_lt_or_eq.1 h1 with h4 | rfl
        · exact h4
        · rw [h] at h2; cases h2
    · rw [filtSucc_yes h, List.mem_append, ih, List.mem_singleton]
      constructor
      · rintro (⟨i, h1, h2, h3⟩ | h3)
        · exact ⟨i, by omega, h2, h3⟩
        · exact ⟨n, by omega, h, h3⟩
      · rintro ⟨i, h1, h2, h3⟩
        rcases Nat.lt_succ_iff_lt_or_eq.1 h1 with h4 | rfl
        · exact .inl ⟨i, h4, h2, h3⟩
        · exact .inr h3
theorem uses_len {zs : List Int} (h : DrawnR zs) : (usesF zs).length = zs.length - 1 := by rw [usesF, if_pos (drawnR_ok h), usesL_len]
/-- the days of standing still are those on which nothing was used -/
theorem stand_has {zs : List Int} (h : DrawnR zs) (i : Nat) (hi : i + 1 < zs.length) : (useN zs i == 0) = true ↔ ((i : Int) + 1) ∈ standF zs := by
  have hl := uses_len h
  rw [standF, mem_filtSucc]
  constructor
  · intro e; exact ⟨i, by omega, by rw [stillQ, usesF_nth _ _ (by omega)]; exact e, rfl⟩
  · rintro ⟨j, h1, h2, h3⟩
    have : i = j := by omega
    subst this
    rw [stillQ, usesF_nth _ _ (by omega)] at h2; exact h2
/-- an outlier is one of the uses, and more than nothing was used -/
theorem out_law {zs : List Int} (h : DrawnR zs) : outF zs = -1 ∨ ∃ k : Nat, k + 1 < zs.length ∧ outF zs = (k : Int) + 1 ∧ useN zs k ≠ 0 := by
  have hl := uses_len h
  by_cases he : ∃ k, bigAt (usesF zs) k
  · obtain ⟨k, hk⟩ := he
    right
    refine ⟨k, by have := hk.1; omega, outU_yes hk, ?_⟩
    have h0 : 0 ≤ medF (usesF zs) := by
      have hb : ∀ i, i < (usesF zs).length → 0 ≤ nth (usesF zs) i ∧ nth (usesF zs) i ≤ 99999 := fun i hi => by
        rw [usesF_nth _ _ hi]
        exact ⟨useN_nonneg (drawnR_ok h) (by omega), (useN_bd zs i).2⟩
      exact (sortI_bd hb _ (by have := hk.1; omega)).1
    have := hk.2.1
    rw [usesF_nth _ _ hk.1] at this
    omega
  · left
    refine outU_no fun j hj hlt => ?_
    -- the first such
    have : ∀ m, (∃ j, j < m ∧ j < (usesF zs).length ∧ 3 * medF (usesF zs) < nth (usesF zs) j) → False := by
      intro m
      induction m with
      | zero => rintro ⟨j, h1, _⟩; omega
      | succ m ih =>
        rintro ⟨j, h1, h2, h3⟩
        by_cases hp : ∃ j, j < m ∧ j < (usesF zs).length ∧ 3 * medF (usesF zs) < nth (usesF zs) j
        · exact ih hp
        · have : j = m := by
            rcases Nat.lt_succ_iff_lt_or_eq.1 h1 with h4 | h4
            · exact absurd ⟨j, h4, h2, h3⟩ hp
            · exact h4
          subst this
          exact he ⟨j, h2, h3, fun i hi hlt => hp ⟨i, hi, by omega, hlt⟩⟩
    exact this _ ⟨j, Nat.lt_succ_self _, hj, hlt⟩
theorem same_uses : usesF [10, 20, 30, 40, 140, 150] = [10, 10, 10, 100, 10] := by decide
theorem four_uses : usesF [10, 20, 30, 40] = [10, 10, 10] := by decide
theorem same_out : outF [10, 20, 30, 40, 140, 150] = 4 := by
  rw [outF, same_uses]
  have hm : medF [10, 10, 10, 100, 10] = 10 := by
    rw [medF, ← sortI_eq (a := [10, 10, 10, 10, 100]) (by decide) (by decide)]; rfl
  refine outU_yes (k := 3) ⟨by decide, by rw [hm]; decide, fun j hj => ?_⟩
  rw [hm]
  have : j = 0 ∨ j = 1 ∨ j = 2 := by omega
  rcases this with rfl | rfl | rfl <;> decide
theorem four_out : outF [10, 20, 30, 40] = -1 := by
  rw [outF, four_uses]
  have hm : medF [10, 10, 10] = 10 := by
    rw [medF, ← sortI_eq (a := [10, 10, 10]) (by decide) (by decide)]; rfl
  refine outU_no fun j hj => ?_
  rw [hm]
  have : j = 0 ∨ j = 1 ∨ j = 2 := by simp at hj; omega
  rcases this with rfl | rfl | rfl <;> decide
end Go.Proofs.YticpkgiccpglmaaDoor
