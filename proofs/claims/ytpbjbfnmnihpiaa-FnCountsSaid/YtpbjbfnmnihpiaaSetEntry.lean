/-
  Lists of cells of Entry: an element set, appended, taken away. No program in sight. Conditions: none.
-/
import Derived.Test.YtpbjbfnmnihpiaaElEntry
import Derived.Test.YtpbjbfnmnihpiaaMore
namespace Go.Proofs.Ytpbjbfnmnihpiaa
open Go.RowKit

theorem Entry.all_one (es : List Entry) : ∀ u ∈ Entry.all es, u.oneCell' = true := by
  intro u hu
  obtain ⟨e, _, he⟩ := List.mem_flatMap.1 hu
  simp only [Entry.cells, List.mem_cons, List.not_mem_nil, or_false] at he
  rcases he with rfl | rfl | rfl <;> rfl
theorem Entry.all_append (a b : List Entry) : Entry.all (a ++ b) = Entry.all a ++ Entry.all b := by simp [Entry.all]
theorem Entry.all_snoc (a : List Entry) (e : Entry) : Entry.all a ++ #[.int .i64 e.f0, .int .i64 e.f1, .int .i64 e.f2].toList = Entry.all (a ++ [e]) := by rw [Entry.all_append]; simp [Entry.all, Entry.cells]
theorem Entry.all_cons (e : Entry) (a : List Entry) : Entry.all (e :: a) = Entry.cells e ++ Entry.all a := by simp [Entry.all]
theorem Entry.all_take (es : List Entry) : ∀ i, (Entry.all es).take (i * 3) = Entry.all (es.take i) := by
  induction es with
  | nil => intro i; simp [Entry.all]
  | cons e es ih =>
    intro i
    cases i with
    | zero => simp [Entry.all]
    | succ i =>
      rw [Entry.all_cons, List.take_succ_cons, Entry.all_cons, List.take_append, List.take_of_length_le (by simp [Entry.cells] <;> omega), show (i + 1) * 3 - (Entry.cells e).length = i * 3 from by simp [Entry.cells]; omega, ih]
theorem Entry.all_drop (es : List Entry) : ∀ i, (Entry.all es).drop (i * 3) = Entry.all (es.drop i) := by
  induction es with
  | nil => intro i; simp [Entry.all]
  | cons e es ih =>
    intro i
    cases i with
    | zero => simp
    | succ i =>
      rw [Entry.all_cons, List.drop_succ_cons, List.drop_append, List.drop_of_length_le (by simp [Entry.cells] <;> omega), show (i + 1) * 3 - (Entry.cells e).length = i * 3 from by simp [Entry.cells]; omega, ih, List.nil_append]
theorem Entry.at_set (es : List Entry) (i j : Nat) (e : Entry) (hi : i < es.length) : Entry.at_ (es.set i e) j = if i = j then e else Entry.at_ es j := by
  by_cases h : i = j
  · subst h
    simp [Entry.at_, hi]
  · simp [Entry.at_, h, List.getElem?_set_ne h]
theorem Entry.all_get0 (es : List Entry) (i : Nat) (h : i < es.length) : (Entry.all es)[i * 3]? = some (.int .i64 (Entry.at_ es i).f0) := by have := Entry.all_get es i 0 h (by omega); simpa [Entry.cells] using this
theorem Entry.all_get1 (es : List Entry) (i : Nat) (h : i < es.length) : (Entry.all es)[i * 3 + 1]? = some (.int .i64 (Entry.at_ es i).f1) := by have := Entry.all_get es i 1 h (by omega); simpa [Entry.cells] using this
theorem Entry.all_get2 (es : List Entry) (i : Nat) (h : i < es.length) : (Entry.all es)[i * 3 + 2]? = some (.int .i64 (Entry.at_ es i).f2) := by have := Entry.all_get es i 2 h (by omega); simpa [Entry.cells] using this
theorem Entry.all_ext {xs : List Value} {es : List Entry} (hl : xs.length = es.length * 3) (h : ∀ i, i < es.length → xs[i * 3]? = some (.int .i64 (Entry.at_ es i).f0) ∧ xs[i * 3 + 1]? = some (.int .i64 (Entry.at_ es i).f1) ∧ xs[i * 3 + 2]? = some (.int .i64 (Entry.at_ es i).f2)) : xs = Entry.all es := by
  apply List.ext_getElem?
  intro q
  by_cases hq : q < es.length * 3
  · obtain ⟨i, r, hr, rfl⟩ : ∃ i r, r < 3 ∧ q = i * 3 + r := ⟨q / 3, q % 3, Nat.mod_lt _ (by omega), by omega⟩
    have hi : i < es.length := by omega
    rw [Entry.all_get es i r hi hr]
    match r, hr with
    | 0, _ => exact (h i hi).1
    | 1, _ => exact (h i hi).2.1
    | 2, _ => exact (h i hi).2.2
  · rw [List.getElem?_eq_none (by omega), List.getElem?_eq_none (by rw [Entry.all_len]; omega)]
theorem Entry.set0 (es : List Entry) (i : Nat) (h : i < es.length) (x : Int) : (Entry.all es).set (i * 3) (.int .i64 x) = Entry.all (es.set i ⟨x, (Entry.at_ es i).f1, (Entry.at_ es i).f2⟩) := by
  refine Entry.all_ext (by simp [Entry.all_len]) fun j hj => ?_
  have hj' : j < es.length := by simpa using hj
  rw [Entry.at_set es i j _ h]
  by_cases e : i = j
  · subst e
    rw [if_pos rfl]
    exact ⟨by rw [List.getElem?_set_self (by rw [Entry.all_len]; omega)], by rw [List.getElem?_set_ne (by omega), Entry.all_get1 es i h], by rw [List.getElem?_set_ne (by omega), Entry.all_get2 es i h]⟩
  · rw [if_neg e]
    exact ⟨by rw [List.getElem?_set_ne (by omega), Entry.all_get0 es j hj'], by rw [List.getElem?_set_ne (by omega), Entry.all_get1 es j hj'], by rw [List.getElem?_set_ne (by omega), Entry.all_get2 es j hj']⟩
theorem Entry.set1 (es : List Entry) (i : Nat) (h : i < es.length) (x : Int) : (Entry.all es).set (i * 3 + 1) (.int .i64 x) = Entry.all (es.set i ⟨(Entry.at_ es i).f0, x, (Entry.at_ es i).f2⟩) := by
  refine Entry.all_ext (by simp [Entry.all_len]) fun j hj => ?_
  have hj' : j < es.length := by simpa using hj
  rw [Entry.at_set es i j _ h]
  by_cases e : i = j
  · subst e
    rw [if_pos rfl]
    exact ⟨by rw [List.getElem?_set_ne (by omega), Entry.all_get0 es i h], by rw [List.getElem?_set_self (by rw [Entry.all_len]; omega)], by rw [List.getElem?_set_ne (by omega), Entry.all_get2 es i h]⟩
  · rw [if_neg e]
    exact ⟨by rw [List.getElem?_set_ne (by omega), Entry.all_get0 es j hj'], by rw [List.getElem?_set_ne (by omega), Entry.all_get1 es j hj'], by rw [List.getElem?_set_ne (by omega), Entry.all_get2 es j hj']⟩
theorem Entry.set2 (es : List Entry) (i : Nat) (h : i < es.length) (x : Int) : (Entry.all es).set (i * 3 + 2) (.int .i64 x) = Entry.all (es.set i ⟨(Entry.at_ es i).f0, (Entry.at_ es i).f1, x⟩) := by
  refine Entry.all_ext (by simp [Entry.all_len]) fun j hj => ?_
  have hj' : j < es.length := by simpa using hj
  rw [Entry.at_set es i j _ h]
  by_cases e : i = j
  · subst e
    rw [if_pos rfl]
    exact ⟨by rw [List.getElem?_set_ne (by omega), Entry.all_get0 es i h], by rw [List.getElem?_set_ne (by omega), Entry.all_get1 es i h], by rw [List.getElem?_set_self (by rw [Entry.all_len]; omega)]⟩
  · rw [if_neg e]
    exact ⟨by rw [List.getElem?_set_ne (by omega), Entry.all_get0 es j hj'], by rw [List.getElem?_set_ne (by omega), Entry.all_get1 es j hj'], by rw [List.getElem?_set_ne (by omega), Entry.all_get2 es j hj']⟩
end Go.Proofs.Ytpbjbfnmnihpiaa
