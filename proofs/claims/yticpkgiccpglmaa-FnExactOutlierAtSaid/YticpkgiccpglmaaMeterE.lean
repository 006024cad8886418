/-
  The contract of OutlierAt of the reference: an insertion sort, written out.
-/
import Derived.Test.YticpkgiccpglmaaMeterD
namespace Go.Proofs.Yticpkgiccpglmaa
open Go.RowKit

/-- L is S (k elements) with a hole at 'at'; behind the hole all are above x -/
structure InsAt (S : List Int) (x : Int) (at_ : Nat) (L : List Int) : Prop where
  len : L.length = S.length + 1
  low : ∀ i, i < at_ → nth L i = nth S i
  high : ∀ i, at_ < i → i ≤ S.length → nth L i = nth S (i - 1)
  big : ∀ i, at_ ≤ i → i < S.length → x < nth S i
  le : at_ ≤ S.length
theorem nth_set (bs : List Int) (i j : Nat) (x : Int) (hi : i < bs.length) : nth (bs.set i x) j = if i = j then x else nth bs j := by
  by_cases h : i = j
  · subst h
    simp [nth, hi]
  · simp [nth, h, List.getElem?_set_ne h]
theorem nth_append (a b : List Int) (i : Nat) : nth (a ++ b) i = if i < a.length then nth a i else nth b (i - a.length) := by
  by_cases h : i < a.length
  · simp [nth, h, List.getElem?_append_left]
  · simp [nth, h, List.getElem?_append_right (Nat.le_of_not_lt h)]
theorem nth_take (a : List Int) (k i : Nat) (h : i < k) : nth (a.take k) i = nth a i := by simp [nth, List.getElem?_take, h]
theorem nth_drop (a : List Int) (k i : Nat) : nth (a.drop k) i = nth a (k + i) := by simp [nth, List.getElem?_drop]
theorem nth_cons (x : Int) (a : List Int) (i : Nat) : nth (x :: a) i = if i = 0 then x else nth a (i - 1) := by
  cases i with
  | zero => rfl
  | succ i => rfl
theorem InsAt.start (S : List Int) (x : Int) : InsAt S x S.length (S ++ [x]) :=
  ⟨by simp, fun i hi => by rw [nth_append, if_pos hi], fun i h1 h2 => by omega, fun i h1 h2 => by omega, Nat.le_refl _⟩
theorem InsAt.step {S : List Int} {x : Int} {a : Nat} {L : List Int} (h : InsAt S x a L) (ha : 0 < a) (hx : x < nth S (a - 1)) : InsAt S x (a - 1) (L.set a (nth L (a - 1))) := by
  have hl := h.len
  have hle := h.le
  refine ⟨by simp [hl], fun i hi => ?_, fun i h1 h2 => ?_, fun i h1 h2 => ?_, by omega⟩
  · rw [nth_set _ _ _ _ (by omega), if_neg (by omega)]
    exact h.low i (by omega)
  · rw [nth_set _ _ _ _ (by omega)]
    by_cases e : a = i
    · subst e
      rw [if_pos rfl]
      exact h.low (a - 1) (by omega)
    · rw [if_neg e]
      exact h.high i (by omega) h2
  · by_cases e : i = a - 1
    · subst e; exact hx
    · exact h.big i (by omega) h2
theorem InsAt.done {S : List Int} {x : Int} {a : Nat} {L : List Int} (h : InsAt S x a L) : L.set a x = S.take a ++ x :: S.drop a := by
  have hl := h.len
  have hle := h.le
  refine nth_ext (by simp [hl]; omega) fun j hj => ?_
  simp only [List.length_set] at hj
  rw [nth_set _ _ _ _ (by omega), nth_append]
  have ht : (S.take a).length = a := by simp; omega
  rw [ht]
  by_cases e : a = j
  · subst e
    rw [if_pos rfl, if_neg (by omega), nth_cons, if_pos (by omega)]
  · rw [if_neg e]
    by_cases e2 : j < a
    · rw [if_pos e2, nth_take _ _ _ e2]; exact h.low j e2
    · rw [if_neg e2, nth_cons, if_neg (by omega), nth_drop, h.high j (by omega) (by omega)]
      congr 1
      omega
theorem ins_perm (S : List Int) (x : Int) (a : Nat) : (S.take a ++ x :: S.drop a).Perm (S ++ [x]) := by
  have h1 : (S.take a ++ x :: S.drop a).Perm (x :: (S.take a ++ S.drop a)) := List.perm_middle
  rw [List.take_append_drop] at h1
  exact h1.trans (List.perm_append_singleton x S).symm
theorem ins_pair {S : List Int} {x : Int} {a : Nat} (hp : S.Pairwise (fun x y => x ≤ y)) (h1 : ∀ i, a ≤ i → i < S.length → x < nth S i) (h2 : a = 0 ∨ nth S (a - 1) ≤ x) (hle : a ≤ S.length) : (S.take a ++ x :: S.drop a).Pairwise (fun x y => x ≤ y) := by
  have hgt : ∀ z ∈ S.drop a, x < z := fun z hz => by
    obtain ⟨i, hi, rfl⟩ := List.getElem_of_mem hz
    simp only [List.length_drop] at hi
    have := h1 (a + i) (by omega) (by omega)
    simpa [nth, show a + i < S.length by omega] using this
  have hlt : ∀ z ∈ S.take a, z ≤ x := fun z hz => by
    obtain ⟨i, hi, rfl⟩ := List.getElem_of_mem hz
    simp only [List.length_take] at hi
    rcases h2 with h2 | h2
    · omega
    · have e1 : nth S (a - 1) = S[a - 1]'(by omega) := by simp [nth, show a - 1 < S.length by omega]
      rw [e1] at h2
      have : S[i]'(by omega) ≤ S[a - 1]'(by omega) := by
        rcases Nat.lt_or_ge i (a - 1) with q | q
        · exact List.pairwise_iff_getElem.1 hp i (a - 1) (by omega) (by omega) q
        · have : i = a - 1 := by omega
          subst this
          exact Int.le_refl _
      simp only [List.getElem_take]
      omega
  have hpt : (S.take a).Pairwise (fun x y => x ≤ y) := hp.sublist (List.take_sublist _ _)
  have hpd : (S.drop a).Pairwise (fun x y => x ≤ y) := hp.sublist (List.drop_sublist _ _)
  refine List.pairwise_append.2 ⟨hpt, List.pairwise_cons.2 ⟨fun z hz => by have := hgt z hz; omega, hpd⟩, fun y hy z hz => ?_⟩
  have q1 := hlt y hy
  rcases List.mem_cons.1 hz with rfl | hz
  · exact q1
  · have := hgt z hz; omega
theorem sort_take {u : List Int} {k a : Nat} (hk : k < u.length) (h1 : ∀ i, a ≤ i → i < (sortI (u.take k)).length → nth u k < nth (sortI (u.take k)) i) (h2 : a = 0 ∨ nth (sortI (u.take k)) (a - 1) ≤ nth u k) (hle : a ≤ (sortI (u.take k)).length) :
    (sortI (u.take k)).take a ++ nth u k :: (sortI (u.take k)).drop a = sortI (u.take (k + 1)) := by
  refine sortI_eq (ins_pair (sortI_pair _) h1 h2 hle) ((ins_perm _ _ _).trans ?_)
  have e : u.take (k + 1) = u.take k ++ [nth u k] := by
    rw [List.take_succ_eq_append_getElem hk]
    simp [nth, hk]
  rw [e]
  exact (List.mergeSort_perm _ _).append_right _
end Go.Proofs.Yticpkgiccpglmaa
