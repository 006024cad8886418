/-
  Plain facts on drawn batches of water, for the law FnAges. No program in sight. Conditions: those of drawn batches.
-/
import Derived.Test.YtecifmpkjegodaaAgeD
import Derived.Test.YtecifmpkjegodaaAgeC
namespace Go.Proofs.Ytecifmpkjegodaa
open Go.RowKit

/-- drawn batches -/
def DrawnB (es : List Batch) : Prop := es.length ≤ 7 ∧ batP es ∧ ∀ i, i < es.length → day es i ≤ 28 ∧ lit es i ≤ 420
theorem drawnB_ok {es : List Batch} (h : DrawnB es) : batB es = true := batB_yes h.2.1
theorem sumL_congr {f g : Nat → Int} {n : Nat} (h : ∀ i, i < n → f i = g i) : sumL f n = sumL g n := by
  induction n with
  | zero => rfl
  | succ n ih => rw [sumL, sumL, ih fun i hi => h i (by omega), h n (by omega)]
theorem sumL_le {f g : Nat → Int} {n : Nat} (h : ∀ i, i < n → f i ≤ g i) : sumL f n ≤ sumL g n := by
  induction n with
  | zero => exact Int.le_refl _
  | succ n ih => have := ih fun i hi => h i (by omega); have := h n (by omega); simp only [sumL]; omega
theorem at_left (a b : List Batch) (i : Nat) (h : i < a.length) : Batch.at_ (a ++ b) i = Batch.at_ a i := by simp [Batch.at_, List.getElem?_append_left h]
theorem at_right (a : List Batch) (e : Batch) : Batch.at_ (a ++ [e]) a.length = e := by simp [Batch.at_]
theorem sum_snoc (F : Batch → Int) (a : List Batch) (e : Batch) : sumL (fun i => F (Batch.at_ (a ++ [e]) i)) (a.length + 1) = sumL (fun i => F (Batch.at_ a i)) a.length + F e := by
  rw [sumL, at_right, sumL_congr (g := fun i => F (Batch.at_ a i)) fun i hi => by rw [at_left _ _ _ hi]]
theorem liters_is {es : List Batch} (h : DrawnB es) : litersF es = sumL (lit es) es.length := if_pos (drawnB_ok h)
theorem liters_bd {es : List Batch} (h : DrawnB es) : 0 ≤ sumL (lit es) es.length ∧ sumL (lit es) es.length ≤ 3000 := by
  have := sumL_bd (f := lit es) (n := es.length) (b := 420) (fun i hi => ⟨by have := lit_bd (drawnB_ok h) i hi; omega, (h.2.2 i hi).2⟩) es.length (Nat.le_refl _)
  have := h.1
  omega
/-- what is left behind k batches -/
structure Left (es : List Batch) (w : Int) (k : Nat) : Prop where
  ok : batP (leftL es w k)
  lits : sumL (lit (leftL es w k)) (leftL es w k).length = sumL (lit es) k - (w - restF es w k)
  days : sumL (dayLit (leftL es w k)) (leftL es w k).length + daysF es w k = sumL (dayLit es) k
  last : ∀ i, i < (leftL es w k).length → 0 < k ∧ day (leftL es w k) i ≤ day es (k - 1)
theorem left_all {es : List Batch} (h : DrawnB es) {w : Int} (hw : 0 ≤ w) : ∀ k, k ≤ es.length → Left es w k := by
  intro k
  induction k with
  | zero => intro _; exact ⟨⟨by simp [leftL], fun i hi => by simp [leftL] at hi⟩, by simp [leftL, sumL, restF], by simp [leftL, sumL, daysF], fun i hi => by simp [leftL] at hi⟩
  | succ k ih =>
    intro hk
    have I := ih (by omega)
    have hr := restF_eq hw (drawnB_ok h) k (by omega)
    have hl := lit_bd (drawnB_ok h) k (by omega)
    have hB := h.2.1.2 k (by omega)
    have hmono : ∀ i, i < (leftL es w k).length → day (leftL es w k) i ≤ day es k := fun i hi => by
      have h1 := I.last i hi
      have h2 := hB.2.1 h1.1
      omega
    have em : min (restF es w k) (lit es k) * day es k + day es k * (lit es k - min (restF es w k) (lit es k)) = dayLit es k := by
      rw [dayLit, Int.mul_comm, ← Int.mul_add]
      congr 1
      omega
    by_cases hp : 0 < lit es k - min (restF es w k) (lit es k)
    · have hX : 1 ≤ lit es k - min (restF es w k) (lit es k) ∧ lit es k - min (restF es w k) (lit es k) ≤ 100000 := by omega
      have el : leftL es w (k + 1) = leftL es w k ++ [⟨day es k, lit es k - min (restF es w k) (lit es k)⟩] := by rw [leftL, if_pos hp]
      have hlen := leftL_len es w k
      have s1 : sumL (fun i => (Batch.at_ (leftL es w k ++ [⟨day es k, lit es k - min (restF es w k) (lit es k)⟩]) i).f1) ((leftL es w k).length + 1) = sumL (lit (leftL es w k)) (leftL es w k).length + (lit es k - min (restF es w k) (lit es k)) :=
        sum_snoc (fun b => b.f1) (leftL es w k) ⟨day es k, lit es k - min (restF es w k) (lit es k)⟩
      have s2 : sumL (fun i => (Batch.at_ (leftL es w k ++ [⟨day es k, lit es k - min (restF es w k) (lit es k)⟩]) i).f0 * (Batch.at_ (leftL es w k ++ [⟨day es k, lit es k - min (restF es w k) (lit es k)⟩]) i).f1) ((leftL es w k).length + 1) =
          sumL (dayLit (leftL es w k)) (leftL es w k).length + day es k * (lit es k - min (restF es w k) (lit es k)) :=
        sum_snoc (fun b => b.f0 * b.f1) (leftL es w k) ⟨day es k, lit es k - min (restF es w k) (lit es k)⟩
      have i1 := I.lits
      have i2 := I.days
      refine ⟨?_, ?_, ?_, ?_⟩
      · rw [el]
        refine ⟨by have := h.1; simp; omega, fun i hi => ?_⟩
        rw [List.length_append, List.length_singleton] at hi
        rcases Nat.lt_succ_iff_lt_or_eq.1 hi with h1 | h1
        · have b := I.ok.2 i h1
          refine ⟨?_, ?_, ?_⟩
          · unfold day; rw [at_left _ _ _ h1]; exact b.1
          · intro h0; unfold day; rw [at_left _ _ _ h1, at_left _ _ _ (by omega)]; exact b.2.1 h0
          · unfold lit; rw [at_left _ _ _ h1]; exact b.2.2
        · subst h1
          refine ⟨?_, ?_, ?_⟩
          · unfold day; rw [at_right]; exact hB.1
          · intro h0
            unfold day
            rw [at_right, at_left _ _ _ (by omega)]
            exact hmono _ (by omega)
          · unfold lit
            rw [at_right]
            exact inB_mk hX
      · rw [el, List.length_append, List.length_singleton]
        show sumL (fun i => (Batch.at_ (leftL es w k ++ [⟨day es k, lit es k - min (restF es w k) (lit es k)⟩]) i).f1) _ = _
        rw [s1, sumL, restF, i1]
        omega
      · rw [el, List.length_append, List.length_singleton]
        show sumL (fun i => (Batch.at_ (leftL es w k ++ [⟨day es k, lit es k - min (restF es w k) (lit es k)⟩]) i).f0 * (Batch.at_ (leftL es w k ++ [⟨day es k, lit es k - min (restF es w k) (lit es k)⟩]) i).f1) _ + _ = _
        rw [s2, daysF, sumL, ← em, ← i2]
        omega
      · rw [el]
        intro i hi
        rw [List.length_append, List.length_singleton] at hi
        refine ⟨Nat.succ_pos _, ?_⟩
        rw [Nat.add_sub_cancel]
        rcases Nat.lt_succ_iff_lt_or_eq.1 hi with h1 | h1
        · unfold day
          rw [at_left _ _ _ h1]
          exact hmono i h1
        · subst h1
          unfold day
          rw [at_right]
          exact Int.le_refl _
    · have el : leftL es w (k + 1) = leftL es w k := by rw [leftL, if_neg hp]
      have hm : min (restF es w k) (lit es k) = lit es k := by omega
      refine ⟨by rw [el]; exact I.ok, ?_, ?_, ?_⟩
      · rw [el, I.lits, sumL, restF, hm]; omega
      · rw [el, daysF, sumL, ← em, ← I.days, hm]
        rw [show lit es k - lit es k = 0 by omega, Int.mul_zero]; omega
      · rw [el]
        intro i hi
        exact ⟨Nat.succ_pos _, by rw [Nat.add_sub_cancel]; exact hmono i hi⟩
theorem first_day {es : List Batch} (h : DrawnB es) : ∀ k, k < es.length → day es 0 ≤ day es k := by
  intro k
  induction k with
  | zero => intro _; exact Int.le_refl _
  | succ k ih =>
    intro hk
    have := (h.2.1.2 (k + 1) hk).2.1 (Nat.succ_pos _)
    rw [Nat.add_sub_cancel] at this
    have := ih (by omega)
    omega
theorem days_ge {es : List Batch} (h : DrawnB es) {w : Int} (hw : 0 ≤ w) : ∀ k, k ≤ es.length → (w - restF es w k) * day es 0 ≤ daysF es w k := by
  intro k
  induction k with
  | zero => intro _; simp [restF, daysF]
  | succ k ih =>
    intro hk
    have h1 := ih (by omega)
    have h2 := first_day h k (by omega)
    have hr := restF_eq hw (drawnB_ok h) k (by omega)
    have hl := lit_bd (drawnB_ok h) k (by omega)
    have m0 : 0 ≤ min (restF es w k) (lit es k) := by omega
    have h3 := Int.mul_le_mul_of_nonneg_left h2 m0
    have e : (w - restF es w (k + 1)) * day es 0 = (w - restF es w k) * day es 0 + min (restF es w k) (lit es k) * day es 0 := by
      rw [← Int.add_mul, restF]
      congr 1
      omega
    rw [e, daysF]
    omega
/-- the day of the first batch, or 0 -/
def firstDay (es : List Batch) : Int := if 0 < es.length then day es 0 else 0
theorem firstDay_bd {es : List Batch} (h : DrawnB es) : 0 ≤ firstDay es ∧ firstDay es ≤ 28 := by
  unfold firstDay
  split
  · rename_i h0
    exact ⟨(day_bd (drawnB_ok h) 0 h0).1, (h.2.2 0 h0).1⟩
  · omega
/-- what drinking the oldest w liters answers -/
theorem drink_law {es : List Batch} (h : DrawnB es) {w : Int} (hw : 0 ≤ w) (hwn : w ≤ sumL (lit es) es.length) :
    ∃ X S, drinkF es w = (X, S, true) ∧ X.length ≤ 7 ∧ batB X = true ∧ litersF X = sumL (lit es) es.length - w ∧ 0 ≤ S ∧ S ≤ 700000000 ∧ sumL (dayLit X) X.length + S = sumL (dayLit es) es.length ∧ w * firstDay es ≤ S ∧
      (w < sumL (lit es) es.length → 0 < X.length) := by
  have hr := restF_eq hw (drawnB_ok h) es.length (Nat.le_refl _)
  have h0 : restF es w es.length = 0 := by omega
  have I := left_all h hw es.length (Nat.le_refl _)
  have hb := daysF_bd hw (drawnB_ok h) es.length (Nat.le_refl _)
  have hl := leftL_len es w es.length
  have h7 := h.1
  have hi := I.lits
  rw [h0, Int.sub_zero] at hi
  refine ⟨_, _, drinkF_yes ⟨drawnB_ok h, hw, h0⟩, by omega, batB_yes I.ok, ?_, hb.1, by omega, I.days, ?_, fun hlt => ?_⟩
  · rw [litersF, if_pos (batB_yes I.ok), hi]
  · have := days_ge h hw es.length (Nat.le_refl _)
    rw [h0, Int.sub_zero] at this
    unfold firstDay
    split
    · exact this
    · rw [Int.mul_zero]; exact hb.1
  · rcases Nat.eq_zero_or_pos (leftL es w es.length).length with e | e
    · rw [e] at hi
      simp only [sumL] at hi
      omega
    · exact e
theorem drink_over {es : List Batch} (h : DrawnB es) : drinkF es (sumL (lit es) es.length + 1) = (es, 0, false) := by
  have hb := liters_bd h
  have hr := restF_eq (l := sumL (lit es) es.length + 1) (by omega) (drawnB_ok h) es.length (Nat.le_refl _)
  exact drinkF_no fun c => by have := c.2.2; omega
theorem older_law {es : List Batch} (h : DrawnB es) (d : Int) : olderF es d ≤ sumL (lit es) es.length ∧ olderF es d ≤ olderF es (d + 1) ∧ 0 ≤ olderF es d := by
  have hb := drawnB_ok h
  have e : ∀ d, olderF es d = sumL (older es d) es.length := fun d => if_pos hb
  rw [e, e]
  refine ⟨sumL_le fun i hi => ?_, sumL_le fun i hi => ?_, ?_⟩
  · have := lit_bd hb i hi
    unfold older; split <;> omega
  · have := lit_bd hb i hi
    unfold older; split <;> split <;> omega
  · exact (sumL_bd (f := older es d) (n := es.length) (b := 100000) (older_bd hb d) es.length (Nat.le_refl _)).1
theorem average_law {es : List Batch} (h : DrawnB es) : (averageF es = -1 ↔ sumL (lit es) es.length = 0) ∧
    (sumL (lit es) es.length = 0 ∨ averageF es * sumL (lit es) es.length ≤ sumL (dayLit es) es.length ∧ sumL (dayLit es) es.length < (averageF es + 1) * sumL (lit es) es.length) ∧ -1 ≤ averageF es ∧ averageF es ≤ 700000000 := by
  have hb := drawnB_ok h
  have hd := sumL_bd (f := dayLit es) (n := es.length) (b := 100000000) (dayLit_bd hb) es.length (Nat.le_refl _)
  have h7 := h.1
  by_cases hn : 0 < es.length
  · have hs := sum_lit_pos hb hn
    have e : averageF es = sumL (dayLit es) es.length / sumL (lit es) es.length := if_pos ⟨hb, hn⟩
    have q0 := Int.ediv_nonneg hd.1 (show 0 ≤ sumL (lit es) es.length by omega)
    have q1 := Int.ediv_mul_le (sumL (dayLit es) es.length) (show sumL (lit es) es.length ≠ 0 by omega)
    have q2 := Int.lt_ediv_add_one_mul_self (sumL (dayLit es) es.length) (show 0 < sumL (lit es) es.length by omega)
    have q3 := Int.ediv_le_self (sumL (lit es) es.length) hd.1
    rw [e]
    exact ⟨⟨fun c => by omega, fun c => by omega⟩, .inr ⟨q1, q2⟩, by omega, by omega⟩
  · have e0 : es.length = 0 := by omega
    have e : averageF es = -1 := if_neg fun c => hn c.2
    rw [e, e0]
    exact ⟨⟨fun _ => rfl, fun _ => rfl⟩, .inl rfl, by omega, by omega⟩
/-- 5 liters of day 900 put behind -/
theorem put_law {es : List Batch} (h : DrawnB es) : ∃ Y, putF es 900 5 = (Y, true) ∧ Y.length ≤ 8 ∧ litersF Y = sumL (lit es) es.length + 5 ∧ olderF Y 900 = sumL (lit es) es.length := by
  have h7 := h.1
  have hY : putL es 900 5 = es ++ [⟨900, 5⟩] := putL_add rfl fun c => by
    have := (h.2.2 (es.length - 1) (by omega)).1
    have := c.2
    omega
  have hbY : batB (es ++ [⟨900, 5⟩]) = true := by
    refine batB_yes ⟨by simp; omega, fun i hi => ?_⟩
    rw [List.length_append, List.length_singleton] at hi
    rcases Nat.lt_succ_iff_lt_or_eq.1 hi with h1 | h1
    · have b := h.2.1.2 i h1
      refine ⟨?_, ?_, ?_⟩
      · unfold day; rw [at_left _ _ _ h1]; exact b.1
      · intro h0; unfold day; rw [at_left _ _ _ h1, at_left _ _ _ (by omega)]; exact b.2.1 h0
      · unfold lit; rw [at_left _ _ _ h1]; exact b.2.2
    · subst h1
      refine ⟨?_, ?_, ?_⟩
      · unfold day; rw [at_right]; rfl
      · intro h0
        unfold day
        rw [at_right, at_left _ _ _ (by omega)]
        have := (h.2.2 (es.length - 1) (by omega)).1
        unfold day at this
        simp only; omega
      · unfold lit; rw [at_right]; rfl
  refine ⟨es ++ [⟨900, 5⟩], by rw [putF_yes ⟨drawnB_ok h, rfl, by rw [hY]; exact hbY⟩, hY], by simp; omega, ?_, ?_⟩
  · rw [litersF, if_pos hbY, List.length_append, List.length_singleton]
    exact sum_snoc (fun b => b.f1) es ⟨900, 5⟩
  · rw [olderF, if_pos hbY, List.length_append, List.length_singleton]
    have := sum_snoc (fun b => if b.f0 < 900 then b.f1 else 0) es ⟨900, 5⟩
    have e2 : sumL (fun i => (if (Batch.at_ es i).f0 < 900 then (Batch.at_ es i).f1 else 0)) es.length = sumL (lit es) es.length := sumL_congr fun i hi => by
      have := (h.2.2 i hi).1
      unfold day at this
      rw [if_pos (by omega)]
    rw [e2] at this
    exact this.trans (by simp)
end Go.Proofs.Ytecifmpkjegodaa
