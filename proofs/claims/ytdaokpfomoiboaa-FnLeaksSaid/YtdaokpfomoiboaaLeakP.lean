/-
  Plain facts on levels that fall by a rate down to a hole: the program's interval of holes is not empty just where the hole at the last level explains all. No program in sight.
-/
import Derived.Test.YtdaokpfomoiboaaLeakC
import Derived.Test.YtdaokpfomoiboaaMore
namespace Go.Proofs.Ytdaokpfomoiboaa
open Go.RowKit

/-- low and high of the hole, one step on -/
def lhStep (rate a b : Int) (p : Int × Int) : Int × Int :=
  if rate = 0 ∧ a = b then p
  else if b = a then (max p.1 a, p.2)
  else if b = a - rate then (p.1, min p.2 b)
  else if b < a ∧ a - rate < b then (max p.1 b, min p.2 b)
  else (p.2 + 1, p.2)
def lhN (zs : List Int) (rate : Int) : Nat → Int × Int
  | 0 => (0, 100000)
  | k + 1 => lhStep rate (nth zs k) (nth zs (k + 1)) (lhN zs rate k)
def holes (zs : List Int) (rate : Int) (k : Nat) (h : Int) : Prop := 0 ≤ h ∧ h ≤ 100000 ∧ ∀ i, i < k → stepE (nth zs i) (nth zs (i + 1)) rate h
theorem lhStep_iff {rate a b h : Int} {p : Int × Int} (hr : 0 ≤ rate) : ((lhStep rate a b p).1 ≤ h ∧ h ≤ (lhStep rate a b p).2) ↔ (p.1 ≤ h ∧ h ≤ p.2) ∧ stepE a b rate h := by
  obtain ⟨l, u⟩ := p
  unfold lhStep stepE
  repeat' split
  all_goals (simp only []; omega)
theorem lhStep_bd {rate a b : Int} {p : Int × Int} (ha : 0 ≤ a ∧ a ≤ 100000) (hb : 0 ≤ b ∧ b ≤ 100000) (h : (0 ≤ p.1 ∧ p.1 ≤ 100001) ∧ 0 ≤ p.2 ∧ p.2 ≤ 100000) :
    (0 ≤ (lhStep rate a b p).1 ∧ (lhStep rate a b p).1 ≤ 100001) ∧ 0 ≤ (lhStep rate a b p).2 ∧ (lhStep rate a b p).2 ≤ 100000 := by
  obtain ⟨l, u⟩ := p
  simp only at h
  unfold lhStep
  repeat' split
  all_goals (simp only []; omega)
theorem lhN_bd {zs : List Int} {rate : Int} (hz : allB zs 0 100000 = true) (k : Nat) (hk : k < zs.length) : (0 ≤ (lhN zs rate k).1 ∧ (lhN zs rate k).1 ≤ 100001) ∧ 0 ≤ (lhN zs rate k).2 ∧ (lhN zs rate k).2 ≤ 100000 := by
  induction k with
  | zero => exact by simp [lhN]
  | succ k ih => exact lhStep_bd (allB_at hz (by omega)) (allB_at hz hk) (ih (by omega))
theorem lhN_iff {zs : List Int} {rate : Int} (hr : 0 ≤ rate) (k : Nat) (h : Int) : ((lhN zs rate k).1 ≤ h ∧ h ≤ (lhN zs rate k).2) ↔ holes zs rate k h := by
  induction k with
  | zero => exact ⟨fun e => ⟨e.1, e.2, fun i hi => absurd hi (by omega)⟩, fun e => ⟨e.1, e.2.1⟩⟩
  | succ k ih =>
    rw [lhN, lhStep_iff hr, ih]
    constructor
    · rintro ⟨⟨h1, h2, h3⟩, h4⟩
      refine ⟨h1, h2, fun i hi => ?_⟩
      rcases Nat.lt_succ_iff_lt_or_eq.1 hi with hi | rfl
      · exact h3 i hi
      · exact h4
    · rintro ⟨h1, h2, h3⟩
      exact ⟨⟨h1, h2, fun i hi => h3 i (by omega)⟩, h3 k (by omega)⟩
theorem last_explains {zs : List Int} {rate h : Int} {n : Nat} (hn : zs.length = n) (hn1 : 1 ≤ n) (hr : 0 ≤ rate) (hs : explP zs rate h) : explP zs rate (nth zs (n - 1)) := by
  have hle : ∀ d i, i + d < n → nth zs (i + d) ≤ nth zs i := by
    intro d
    induction d with
    | zero => intro i _; exact Int.le_refl _
    | succ d ih =>
      intro i hi
      have h1 := ih i (by omega)
      have h2 := hs (i + d) (by omega)
      unfold stepE at h2
      rw [Nat.add_assoc] at h2
      omega
  have hge : ∀ d i, i + d < n → h ≤ nth zs i → h ≤ nth zs (i + d) := by
    intro d
    induction d with
    | zero => intro i _ h0; exact h0
    | succ d ih =>
      intro i hi h0
      have h1 := ih i (by omega) h0
      have h2 := hs (i + d) (by omega)
      unfold stepE at h2
      rw [Nat.add_assoc] at h2
      omega
  intro i hi
  have hi' : i + 1 < n := by omega
  have h1 := hs i hi
  have l1 := hle (n - 1 - i) i (by omega)
  have l2 := hle (n - 1 - (i + 1)) (i + 1) (by omega)
  rw [show i + (n - 1 - i) = n - 1 by omega] at l1
  rw [show i + 1 + (n - 1 - (i + 1)) = n - 1 by omega] at l2
  by_cases ha : nth zs i ≤ h
  · have := below_stays hs i ha hr (n - 1 - i) (by omega)
    rw [show i + (n - 1 - i) = n - 1 by omega] at this
    unfold stepE at h1 ⊢
    omega
  · have g1 := hge (n - 1 - i) i (by omega) (by omega)
    rw [show i + (n - 1 - i) = n - 1 by omega] at g1
    unfold stepE at h1 ⊢
    omega
theorem rate_iff {zs : List Int} {rate : Int} {n : Nat} (hn : zs.length = n) (hn1 : 1 ≤ n) (hr : 0 ≤ rate) (hz : allB zs 0 100000 = true) :
    decide ((lhN zs rate (n - 1)).1 ≤ (lhN zs rate (n - 1)).2) = explB zs rate (nth zs (n - 1)) := by
  by_cases h : explP zs rate (nth zs (n - 1))
  · rw [explB_yes h]
    have hl := allB_at hz (show n - 1 < zs.length by omega)
    have := (lhN_iff hr (n - 1) (nth zs (n - 1))).2 ⟨hl.1, hl.2, fun i hi => h i (by omega)⟩
    exact decide_eq_true (by omega)
  · rw [explB_no h]
    refine decide_eq_false fun e => h ?_
    have := (lhN_iff hr (n - 1) (lhN zs rate (n - 1)).1).1 ⟨Int.le_refl _, e⟩
    exact last_explains hn hn1 hr (fun i hi => this.2.2 i (by omega))
end Go.Proofs.Ytdaokpfomoiboaa
