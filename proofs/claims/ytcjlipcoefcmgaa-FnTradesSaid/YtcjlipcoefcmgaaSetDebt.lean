/-
  Lists of cells of Debt: an element set, appended, taken away. No program in sight. Conditions: none.
-/
import Derived.Test.YtcjlipcoefcmgaaElDebt
import Derived.Test.YtcjlipcoefcmgaaMore
namespace Go.Proofs.Ytcjlipcoefcmgaa
open Go.RowKit

theorem Debt.all_one (es : List Debt) : ∀ u ∈ Debt.all es, u.oneCell' = true := by
  intro u hu
  obtain ⟨e, _, he⟩ := List.mem_flatMap.1 hu
  simp only [Debt.cells, List.mem_cons, List.not_mem_nil, or_false] at he
  rcases he with rfl | rfl | rfl <;> rfl
theorem Debt.all_append (a b : List Debt) : Debt.all (a ++ b) = Debt.all a ++ Debt.all b := by simp [Debt.all]
theorem Debt.all_snoc (a : List Debt) (e : Debt) : Debt.all a ++ #[.int .i64 e.f0, .int .i64 e.f1, .int .i64 e.f2].toList = Debt.all (a ++ [e]) := by rw [Debt.all_append]; simp [Debt.all, Debt.cells]
theorem Debt.all_cons (e : Debt) (a : List Debt) : Debt.all (e :: a) = Debt.cells e ++ Debt.all a := by simp [Debt.all]
theorem Debt.all_take (es : List Debt) : ∀ i, (Debt.all es).take (i * 3) = Debt.all (es.take i) := by
  induction es with
  | nil => intro i; simp [Debt.all]
  | cons e es ih =>
    intro i
    cases i with
    | zero => simp [Debt.all]
    | succ i =>
      rw [Debt.all_cons, List.take_succ_cons, Debt.all_cons, List.take_append, List.take_of_length_le (by simp [Debt.cells] <;> omega), show (i + 1) * 3 - (Debt.cells e).length = i * 3 from by simp [Debt.cells]; omega, ih]
theorem Debt.all_drop (es : List Debt) : ∀ i, (Debt.all es).drop (i * 3) = Debt.all (es.drop i) := by
  induction es with
  | nil => intro i; simp [Debt.all]
  | cons e es ih =>
    intro i
    cases i with
    | zero => simp
    | succ i =>
      rw [Debt.all_cons, List.drop_succ_cons, List.drop_append, List.drop_of_length_le (by simp [Debt.cells] <;> omega), show (i + 1) * 3 - (Debt.cells e).length = i * 3 from by simp [Debt.cells]; omega, ih, List.nil_append]
theorem Debt.at_set (es : List Debt) (i j : Nat) (e : Debt) (hi : i < es.length) : Debt.at_ (es.set i e) j = if i = j then e else Debt.at_ es j := by
  by_cases h : i = j
  · subst h
    simp [Debt.at_, hi]
  · simp [Debt.at_, h, List.getElem?_set_ne h]
theorem Debt.all_get0 (es : List Debt) (i : Nat) (h : i < es.length) : (Debt.all es)[i * 3]? = some (.int .i64 (Debt.at_ es i).f0) := by have := Debt.all_get es i 0 h (by omega); simpa [Debt.cells] using this
theorem Debt.all_get1 (es : List Debt) (i : Nat) (h : i < es.length) : (Debt.all es)[i * 3 + 1]? = some (.int .i64 (Debt.at_ es i).f1) := by have := Debt.all_get es i 1 h (by omega); simpa [Debt.cells] using this
theorem Debt.all_get2 (es : List Debt) (i : Nat) (h : i < es.length) : (Debt.all es)[i * 3 + 2]? = some (.int .i64 (Debt.at_ es i).f2) := by have := Debt.all_get es i 2 h (by omega); simpa [Debt.cells] using this
theorem Debt.all_ext {xs : List Value} {es : List Debt} (hl : xs.length = es.length * 3) (h : ∀ i, i < es.length → xs[i * 3]? = some (.int .i64 (Debt.at_ es i).f0) ∧ xs[i * 3 + 1]? = some (.int .i64 (Debt.at_ es i).f1) ∧ xs[i * 3 + 2]? = some (.int .i64 (Debt.at_ es i).f2)) : xs = Debt.all es := by
  apply List.ext_getElem?
  intro q
  by_cases hq : q < es.length * 3
  · obtain ⟨i, r, hr, rfl⟩ : ∃ i r, r < 3 ∧ q = i * 3 + r := ⟨q / 3, q % 3, Nat.mod_lt _ (by omega), by omega⟩
    have hi : i < es.length := by omega
    rw [Debt.all_get es i r hi hr]
    match r, hr with
    | 0, _ => exact (h i hi).1
    | 1, _ => exact (h i hi).2.1
    | 2, _ => exact (h i hi).2.2
  · rw [List.getElem?_eq_none (by omega), List.getElem?_eq_none (by rw [Debt.all_len]; omega)]
theorem Debt.set0 (es : List Debt) (i : Nat) (h : i < es.length) (x : Int) : (Debt.all es).set (i * 3) (.int .i64 x) = Debt.all (es.set i ⟨x, (Debt.at_ es i).f1, (Debt.at_ es i).f2⟩) := by
  refine Debt.all_ext (by simp [Debt.all_len]) fun j hj => ?_
  have hj' : j < es.length := by simpa using hj
  rw [Debt.at_set es i j _ h]
  by_cases e : i = j
  · subst e
    rw [if_pos rfl]
    exact ⟨by rw [List.getElem?_set_self (by rw [Debt.all_len]; omega)], by rw [List.getElem?_set_ne (by omega), Debt.all_get1 es i h], by rw [List.getElem?_set_ne (by omega), Debt.all_get2 es i h]⟩
  · rw [if_neg e]
    exact ⟨by rw [List.getElem?_set_ne (by omega), Debt.all_get0 es j hj'], by rw [List.getElem?_set_ne (by omega), Debt.all_get1 es j hj'], by rw [List.getElem?_set_ne (by omega), Debt.all_get2 es j hj']⟩
theorem Debt.set1 (es : List Debt) (i : Nat) (h : i < es.length) (x : Int) : (Debt.all es).set (i * 3 + 1) (.int .i64 x) = Debt.all (es.set i ⟨(Debt.at_ es i).f0, x, (Debt.at_ es i).f2⟩) := by
  refine Debt.all_ext (by simp [Debt.all_len]) fun j hj => ?_
  have hj' : j < es.length := by simpa using hj
  rw [Debt.at_set es i j _ h]
  by_cases e : i = j
  · subst e
    rw [if_pos rfl]
    exact ⟨by rw [List.getElem?_set_ne (by omega), Debt.all_get0 es i h], by rw [List.getElem?_set_self (by rw [Debt.all_len]; omega)], by rw [List.getElem?_set_ne (by omega), Debt.all_get2 es i h]⟩
  · rw [if_neg e]
    exact ⟨by rw [List.getElem?_set_ne (by omega), Debt.all_get0 es j hj'], by rw [List.getElem?_set_ne (by omega), Debt.all_get1 es j hj'], by rw [List.getElem?_set_ne (by omega), Debt.all_get2 es j hj']⟩
theorem Debt.set2 (es : List Debt) (i : Nat) (h : i < es.length) (x : Int) : (Debt.all es).set (i * 3 + 2) (.int .i64 x) = Debt.all (es.set i ⟨(Debt.at_ es i).f0, (Debt.at_ es i).f1, x⟩) := by
  refine Debt.all_ext (by simp [Debt.all_len]) fun j hj => ?_
  have hj' : j < es.length := by simpa using hj
  rw [Debt.at_set es i j _ h]
  by_cases e : i = j
  · subst e
    rw [if_pos rfl]
    exact ⟨by rw [List.getElem?_set_ne (by omega), Debt.all_get0 es i h], by rw [List.getElem?_set_ne (by omega), Debt.all_get1 es i h], by rw [List.getElem?_set_self (by rw [Debt.all_len]; omega)]⟩
  · rw [if_neg e]
    exact ⟨by rw [List.getElem?_set_ne (by omega), Debt.all_get0 es j hj'], by rw [List.getElem?_set_ne (by omega), Debt.all_get1 es j hj'], by rw [List.getElem?_set_ne (by omega), Debt.all_get2 es j hj']⟩
end Go.Proofs.Ytcjlipcoefcmgaa
