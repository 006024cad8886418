/-
  Plain facts on merging two sorted parts in place. No program in sight. Conditions: none.
-/
import Derived.Test.YtbenbjbfmcdedaaRot
namespace Go.Proofs.Ytbenbjbfmcdedaa
open Go.RowKit

/-- two sorted parts; the left part's places are all smaller -/
structure Mrg (key : Int → Int) (zs : List Int) (a m b : Nat) : Prop where
  left : ∀ p q, a ≤ p → p < q → q < m → lexB key (nth zs p) (nth zs q)
  right : ∀ p q, m ≤ p → p < q → q < b → lexB key (nth zs p) (nth zs q)
  apart : ∀ p q, a ≤ p → p < m → m ≤ q → q < b → nth zs p < nth zs q
/-- of a place of the left and one of the right part, the keys alone decide -/
theorem Mrg.cmp {key : Int → Int} {zs : List Int} {a m b p q : Nat} (h : Mrg key zs a m b) (hp : a ≤ p ∧ p < m) (hq : m ≤ q ∧ q < b) : (key (nth zs q) < key (nth zs p) → lexB key (nth zs q) (nth zs p)) ∧ (¬ key (nth zs q) < key (nth zs p) → lexB key (nth zs p) (nth zs q)) := by
  have := h.apart p q hp.1 hp.2 hq.1 hq.2
  unfold lexB
  constructor <;> intro h <;> omega
/-- a part of one cell, or an empty one, beside a sorted part -/
theorem Mrg.none_left {key : Int → Int} {zs : List Int} {a b : Nat} (h : Mrg key zs a a b) : Srt key zs zs a b := ⟨.refl _, fun _ _ => rfl, fun i h1 h2 => ⟨i, h1, h2, rfl⟩, fun p q h1 h2 h3 => h.right p q h1 h2 h3⟩
theorem Mrg.none_right {key : Int → Int} {zs : List Int} {a b : Nat} (h : Mrg key zs a b b) : Srt key zs zs a b := ⟨.refl _, fun _ _ => rfl, fun i h1 h2 => ⟨i, h1, h2, rfl⟩, fun p q h1 h2 h3 => h.left p q h1 h2 h3⟩
/-- where the halves part: s from the left, e from the right -/
structure Part (key : Int → Int) (zs : List Int) (a m b mid s e : Nat) : Prop where
  s1 : a ≤ s ∧ s ≤ m
  e1 : m ≤ e ∧ e ≤ b
  sum : s + e = mid + m
  hi : ∀ p q, s ≤ p → p < m → m ≤ q → q < e → lexB key (nth zs q) (nth zs p)
  lo : ∀ p q, a ≤ p → p < s → e ≤ q → q < b → lexB key (nth zs p) (nth zs q)
/-- behind the rotation: each half is two sorted parts, and the lower half is below the upper one -/
theorem Part.turned {key : Int → Int} {zs ds : List Int} {a m b mid s e : Nat} (h : Mrg key zs a m b) (k : Part key zs a m b mid s e) (hd : ∀ p, nth ds p = rotN zs s m e p) :
    Mrg key ds a s mid ∧ Mrg key ds mid e b ∧ ∀ p q, a ≤ p → p < mid → mid ≤ q → q < b → lexB key (nth ds p) (nth ds q) := by
  have s1 := k.s1
  have e1 := k.e1
  have sm := k.sum
  have d1 : ∀ p, p < s → nth ds p = nth zs p := fun p hp => by rw [hd, rotN, if_neg (by omega), if_neg (by omega)]
  have d2 : ∀ p, s ≤ p → p < mid → nth ds p = nth zs (p + (m - s)) := fun p h1 h2 => by rw [hd, rotN, if_pos (by omega)]
  have d3 : ∀ p, mid ≤ p → p < e → nth ds p = nth zs (p - (e - m)) := fun p h1 h2 => by rw [hd, rotN, if_neg (by omega), if_pos (by omega)]
  have d4 : ∀ p, e ≤ p → nth ds p = nth zs p := fun p hp => by rw [hd, rotN, if_neg (by omega), if_neg (by omega)]
  refine ⟨⟨fun p q h1 h2 h3 => ?_, fun p q h1 h2 h3 => ?_, fun p q h1 h2 h3 h4 => ?_⟩, ⟨fun p q h1 h2 h3 => ?_, fun p q h1 h2 h3 => ?_, fun p q h1 h2 h3 h4 => ?_⟩, fun p q h1 h2 h3 h4 => ?_⟩
  · rw [d1 p (by omega), d1 q h3]; exact h.left p q h1 h2 (by omega)
  · rw [d2 p h1 (by omega), d2 q (by omega) h3]; exact h.right _ _ (by omega) (by omega) (by omega)
  · rw [d1 p h2, d2 q h3 h4]; exact h.apart _ _ h1 (by omega) (by omega) (by omega)
  · rw [d3 p h1 (by omega), d3 q (by omega) h3]; exact h.left _ _ (by omega) (by omega) (by omega)
  · rw [d4 p h1, d4 q (by omega)]; exact h.right _ _ (by omega) h2 h3
  · rw [d3 p h1 h2, d4 q h3]; exact h.apart _ _ (by omega) (by omega) (by omega) h4
  · by_cases c1 : p < s
    · rw [d1 p c1]
      by_cases c2 : q < e
      · rw [d3 q h3 c2]; exact h.left _ _ h1 (by omega) (by omega)
      · rw [d4 q (by omega)]; exact k.lo p q h1 c1 (by omega) h4
    · rw [d2 p (by omega) h2]
      by_cases c2 : q < e
      · rw [d3 q h3 c2]; exact k.hi _ _ (by omega) (by omega) (by omega) (by omega)
      · rw [d4 q (by omega)]; exact h.right _ _ (by omega) (by omega) h4
/-- both halves sorted: the whole is -/
theorem Srt.join {key : Int → Int} {zs ds es fs : List Int} {a mid b : Nat} (ha : a ≤ mid) (hb : mid ≤ b) (hp : ds.Perm zs) (ho : ∀ i, i < a ∨ b ≤ i → nth ds i = nth zs i) (hsrc : ∀ i, a ≤ i → i < b → ∃ j, a ≤ j ∧ j < b ∧ nth ds i = nth zs j)
    (hlt : ∀ p q, a ≤ p → p < mid → mid ≤ q → q < b → lexB key (nth ds p) (nth ds q)) (h1 : Srt key ds es a mid) (h2 : Srt key es fs mid b) : Srt key zs fs a b := by
  have two : ∀ i, mid ≤ i → i < b → ∃ j, mid ≤ j ∧ j < b ∧ nth fs i = nth ds j := fun i h3 h4 => by
    obtain ⟨j, h5, h6, h7⟩ := h2.src i h3 h4
    exact ⟨j, h5, h6, by rw [h7, h1.out j (.inr h5)]⟩
  have one : ∀ i, a ≤ i → i < mid → nth fs i = nth es i := fun i h3 h4 => h2.out i (.inl h4)
  refine ⟨(h2.perm.trans h1.perm).trans hp, fun i hi => by rw [h2.out i (by omega), h1.out i (by omega), ho i hi], fun i h3 h4 => ?_, fun p q h3 h4 h5 => ?_⟩
  · by_cases c : i < mid
    · obtain ⟨j, h6, h7, h8⟩ := h1.src i h3 c
      obtain ⟨t, h9, h10, h11⟩ := hsrc j h6 (by omega)
      exact ⟨t, h9, h10, by rw [one i h3 c, h8, h11]⟩
    · obtain ⟨j, h6, h7, h8⟩ := two i (by omega) h4
      obtain ⟨t, h9, h10, h11⟩ := hsrc j (by omega) h7
      exact ⟨t, h9, h10, by rw [h8, h11]⟩
  · by_cases c1 : q < mid
    · rw [one p h3 (by omega), one q (by omega) c1]; exact h1.up p q h3 h4 c1
    · by_cases c2 : p < mid
      · obtain ⟨i, h6, h7, h8⟩ := h1.src p h3 c2
        obtain ⟨j, h9, h10, h11⟩ := two q (by omega) h5
        rw [one p h3 c2, h8, h11]
        exact hlt i j h6 h7 h9 h10
      · exact h2.up p q (by omega) h4 h5
end Go.Proofs.Ytbenbjbfmcdedaa
