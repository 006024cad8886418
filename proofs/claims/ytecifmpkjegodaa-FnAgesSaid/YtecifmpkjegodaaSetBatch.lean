/-
  Lists of cells of Batch: an element set, appended, taken away. No program in sight. Conditions: none.
-/
import Derived.Test.YtecifmpkjegodaaElBatch
import Derived.Test.YtecifmpkjegodaaMore
namespace Go.Proofs.Ytecifmpkjegodaa
open Go.RowKit

theorem Batch.all_one (es : List Batch) : ∀ u ∈ Batch.all es, u.oneCell' = true := by
  intro u hu
  obtain ⟨e, _, he⟩ := List.mem_flatMap.1 hu
  simp only [Batch.cells, List.mem_cons, List.not_mem_nil, or_false] at he
  rcases he with rfl | rfl <;> rfl
theorem Batch.all_append (a b : List Batch) : Batch.all (a ++ b) = Batch.all a ++ Batch.all b := by simp [Batch.all]
theorem Batch.all_snoc (a : List Batch) (e : Batch) : Batch.all a ++ #[.int .i64 e.f0, .int .i64 e.f1].toList = Batch.all (a ++ [e]) := by rw [Batch.all_append]; simp [Batch.all, Batch.cells]
theorem Batch.all_cons (e : Batch) (a : List Batch) : Batch.all (e :: a) = Batch.cells e ++ Batch.all a := by simp [Batch.all]
theorem Batch.all_take (es : List Batch) : ∀ i, (Batch.all es).take (i * 2) = Batch.all (es.take i) := by
  induction es with
  | nil => intro i; simp [Batch.all]
  | cons e es ih =>
    intro i
    cases i with
    | zero => simp [Batch.all]
    | succ i =>
      rw [Batch.all_cons, List.take_succ_cons, Batch.all_cons, List.take_append, List.take_of_length_le (by simp [Batch.cells] <;> omega), show (i + 1) * 2 - (Batch.cells e).length = i * 2 from by simp [Batch.cells]; omega, ih]
theorem Batch.all_drop (es : List Batch) : ∀ i, (Batch.all es).drop (i * 2) = Batch.all (es.drop i) := by
  induction es with
  | nil => intro i; simp [Batch.all]
  | cons e es ih =>
    intro i
    cases i with
    | zero => simp
    | succ i =>
      rw [Batch.all_cons, List.drop_succ_cons, List.drop_append, List.drop_of_length_le (by simp [Batch.cells] <;> omega), show (i + 1) * 2 - (Batch.cells e).length = i * 2 from by simp [Batch.cells]; omega, ih, List.nil_append]
theorem Batch.at_set (es : List Batch) (i j : Nat) (e : Batch) (hi : i < es.length) : Batch.at_ (es.set i e) j = if i = j then e else Batch.at_ es j := by
  by_cases h : i = j
  · subst h
    simp [Batch.at_, hi]
  · simp [Batch.at_, h, List.getElem?_set_ne h]
theorem Batch.all_get0 (es : List Batch) (i : Nat) (h : i < es.length) : (Batch.all es)[i * 2]? = some (.int .i64 (Batch.at_ es i).f0) := by have := Batch.all_get es i 0 h (by omega); simpa [Batch.cells] using this
theorem Batch.all_get1 (es : List Batch) (i : Nat) (h : i < es.length) : (Batch.all es)[i * 2 + 1]? = some (.int .i64 (Batch.at_ es i).f1) := by have := Batch.all_get es i 1 h (by omega); simpa [Batch.cells] using this
theorem Batch.all_ext {xs : List Value} {es : List Batch} (hl : xs.length = es.length * 2) (h : ∀ i, i < es.length → xs[i * 2]? = some (.int .i64 (Batch.at_ es i).f0) ∧ xs[i * 2 + 1]? = some (.int .i64 (Batch.at_ es i).f1)) : xs = Batch.all es := by
  apply List.ext_getElem?
  intro q
  by_cases hq : q < es.length * 2
  · obtain ⟨i, r, hr, rfl⟩ : ∃ i r, r < 2 ∧ q = i * 2 + r := ⟨q / 2, q % 2, Nat.mod_lt _ (by omega), by omega⟩
    have hi : i < es.length := by omega
    rw [Batch.all_get es i r hi hr]
    match r, hr with
    | 0, _ => exact (h i hi).1
    | 1, _ => exact (h i hi).2
  · rw [List.getElem?_eq_none (by omega), List.getElem?_eq_none (by rw [Batch.all_len]; omega)]
theorem Batch.set0 (es : List Batch) (i : Nat) (h : i < es.length) (x : Int) : (Batch.all es).set (i * 2) (.int .i64 x) = Batch.all (es.set i ⟨x, (Batch.at_ es i).f1⟩) := by
  refine Batch.all_ext (by simp [Batch.all_len]) fun j hj => ?_
  have hj' : j < es.length := by simpa using hj
  rw [Batch.at_set es i j _ h]
  by_cases e : i = j
  · subst e
    rw [if_pos rfl]
    exact ⟨by rw [List.getElem?_set_self (by rw [Batch.all_len]; omega)], by rw [List.getElem?_set_ne (by omega), Batch.all_get1 es i h]⟩
  · rw [if_neg e]
    exact ⟨by rw [List.getElem?_set_ne (by omega), Batch.all_get0 es j hj'], by rw [List.getElem?_set_ne (by omega), Batch.all_get1 es j hj']⟩
theorem Batch.set1 (es : List Batch) (i : Nat) (h : i < es.length) (x : Int) : (Batch.all es).set (i * 2 + 1) (.int .i64 x) = Batch.all (es.set i ⟨(Batch.at_ es i).f0, x⟩) := by
  refine Batch.all_ext (by simp [Batch.all_len]) fun j hj => ?_
  have hj' : j < es.length := by simpa using hj
  rw [Batch.at_set es i j _ h]
  by_cases e : i = j
  · subst e
    rw [if_pos rfl]
    exact ⟨by rw [List.getElem?_set_ne (by omega), Batch.all_get0 es i h], by rw [List.getElem?_set_self (by rw [Batch.all_len]; omega)]⟩
  · rw [if_neg e]
    exact ⟨by rw [List.getElem?_set_ne (by omega), Batch.all_get0 es j hj'], by rw [List.getElem?_set_ne (by omega), Batch.all_get1 es j hj']⟩
end Go.Proofs.Ytecifmpkjegodaa
