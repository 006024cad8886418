/-
  Plain facts on gates and keys, for the law FnGates. No program in sight. Conditions: those of drawn gates.
-/
import Derived.Test.YtbbhchdpaocljaaGateC
import Derived.Test.YtbbhchdpaocljaaGateB
namespace Go.Proofs.Ytbbhchdpaocljaa
open Go.RowKit

/-- drawn gates -/
def DrawnG (es : List Gate) : Prop := (1 ≤ es.length ∧ es.length ≤ 7) ∧ ∀ i, i < es.length → 0 ≤ (Gate.at_ es i).f1 ∧ (Gate.at_ es i).f1 ≤ 3
theorem drawnG_ok {es : List Gate} (h : DrawnG es) : gatP es := ⟨by have := h.1; omega, fun i hi => inB_mk (by have := h.2 i hi; omega)⟩
theorem mem_filtIdx (q : Nat → Bool) (n : Nat) (x : Int) : x ∈ filtIdx q n ↔ ∃ i : Nat, i < n ∧ q i = true ∧ x = i := by
  induction n with
  | zero => simp [filtIdx]
  | succ n ih =>
    cases h : q n
    · rw [filtIdx_no h, ih]
      constructor
      · rintro ⟨i, h1, h2, h3⟩; exact ⟨i, by omega, h2, h3⟩
      · rintro ⟨i, h1, h2, h3⟩
        refine ⟨i, ?_, h2, h3⟩
        rcases Nat.lt_succ_iff_lt_or_eq.1 h1 with h4 | rfl
        · exact h4
        · rw [h] at h2; cases h2
    · rw [filtIdx_yes h, List.mem_append, ih, List.mem_singleton]
      constructor
      · rintro (⟨i, h1, h2, h3⟩ | h3)
        · exact ⟨i, by omega, h2, h3⟩
        · exact ⟨n, by omega, h, h3⟩
      · rintro ⟨i, h1, h2, h3⟩
        rcases Nat.lt_succ_iff_lt_or_eq.1 h1 with h4 | rfl
        · exact .inl ⟨i, h4, h2, h3⟩
        · exact .inr h3
theorem open_has {es : List Gate} (h : DrawnG es) (i : Nat) (hi : i < es.length) : (Gate.at_ es i).f0 = true ↔ (i : Int) ∈ openF es := by
  rw [openF, if_pos (gatB_yes (drawnG_ok h)), mem_filtIdx]
  constructor
  · intro e; exact ⟨i, hi, e, rfl⟩
  · rintro ⟨j, h1, h2, h3⟩
    have : i = j := by omega
    subst this; exact h2
theorem key_has {es : List Gate} (h : DrawnG es) (i : Nat) (hi : i < es.length) : (i : Int) ∈ keysF es (Gate.at_ es i).f1 := by
  rw [keysF, if_pos (gatB_yes (drawnG_ok h)), mem_filtIdx]
  exact ⟨i, hi, by simp [keyQ], rfl⟩
/-- how many keys the first q persons have -/
noncomputable def keySum (es : List Gate) : Nat → Int
  | 0 => 0
  | q + 1 => keySum es q + (keysF es (q : Int)).length
theorem keySum_bd (es : List Gate) (q : Nat) : 0 ≤ keySum es q ∧ keySum es q ≤ 16 * q := by
  induction q with
  | zero => simp [keySum]
  | succ q ih => have := keysF_len es q; rw [keySum]; omega
theorem filt_six (es : List Gate) (n : Nat) (h : ∀ i, i < n → 0 ≤ (Gate.at_ es i).f1 ∧ (Gate.at_ es i).f1 ≤ 3) :
    ((filtIdx (keyQ es 0) n).length : Int) + (filtIdx (keyQ es 1) n).length + (filtIdx (keyQ es 2) n).length + (filtIdx (keyQ es 3) n).length + (filtIdx (keyQ es 4) n).length + (filtIdx (keyQ es 5) n).length = n := by
  induction n with
  | zero => simp [filtIdx]
  | succ n ih =>
    have ih := ih fun i hi => h i (by omega)
    have step : ∀ p : Int, ((filtIdx (keyQ es p) (n + 1)).length : Int) = (filtIdx (keyQ es p) n).length + (if (Gate.at_ es n).f1 = p then 1 else 0) := by
      intro p
      by_cases e : (Gate.at_ es n).f1 = p
      · rw [filtIdx_yes (by simp [keyQ, e]), if_pos e]; simp
      · rw [filtIdx_no (by simp [keyQ, e]), if_neg e]; simp
    have hb := h n (by omega)
    rw [step, step, step, step, step, step]
    repeat' split
    all_goals omega
theorem keySum_all {es : List Gate} (h : DrawnG es) : keySum es 6 = es.length := by
  have hk : ∀ p, keysF es p = filtIdx (keyQ es p) es.length := fun p => by rw [keysF, if_pos (gatB_yes (drawnG_ok h))]
  have := filt_six es es.length h.2
  simp only [keySum, hk, Int.natCast_zero, Int.zero_add]
  exact this
/-- what the three changes of gate k by person p answer -/
structure Changed (es T : List Gate) (k : Nat) : Prop where
  len : T.length = es.length
  other : ∀ i, i < es.length → i ≠ k → Gate.at_ T i = Gate.at_ es i
theorem changed_same (es : List Gate) (k : Nat) : Changed es es k := ⟨rfl, fun _ _ _ => rfl⟩
theorem changed_set (es : List Gate) (k : Nat) (e : Gate) (hk : k < es.length) : Changed es (es.set k e) k :=
  ⟨by simp, fun i _ hne => by rw [Gate.at_set es k i e hk, if_neg (by omega)]⟩
theorem set_at (es : List Gate) (k : Nat) (e : Gate) (hk : k < es.length) : Gate.at_ (es.set k e) k = e := by rw [Gate.at_set es k k e hk, if_pos rfl]
theorem gat_set {es : List Gate} (h : DrawnG es) (k : Nat) (e : Gate) (hk : k < es.length) (he : 0 ≤ e.f1 ∧ e.f1 ≤ 999) : gatB (es.set k e) = true := by
  refine gatB_yes ⟨by have := h.1; simp; omega, fun i hi => ?_⟩
  rw [List.length_set] at hi
  rw [Gate.at_set es k i e hk]
  split
  · exact inB_mk he
  · exact (drawnG_ok h).2 i hi
theorem can_k {es : List Gate} (k : Nat) (hk : k < es.length) : inB (k : Int) 0 ((es.length : Int) - 1) = true := inB_mk (by omega)
theorem take_is {es : List Gate} (h : DrawnG es) (k : Nat) (p : Int) (hk : k < es.length) (hp : 1 ≤ p ∧ p ≤ 4) :
    ∃ T b, takeF es k p = (T, b) ∧ Changed es T k ∧ b = ((Gate.at_ es k).f1 == 0) ∧ (b = true → (Gate.at_ T k).f1 = p) ∧ gatB T = true := by
  have hp' : inB p 1 999 = true := inB_mk (by omega)
  cases e : ((Gate.at_ es k).f1 == 0)
  · exact ⟨es, false, chF_no (fun c => (by have := c.2.2.2; rw [Int.toNat_natCast] at this; exact absurd this (by simp [e]))), changed_same _ _, rfl, (fun c => by cases c), gatB_yes (drawnG_ok h)⟩
  · refine ⟨_, true, chF_yes ⟨gatB_yes (drawnG_ok h), can_k k hk, hp', by rw [Int.toNat_natCast]; exact e⟩, ?_, rfl, fun _ => ?_, ?_⟩ <;> rw [Int.toNat_natCast]
    · exact changed_set _ _ _ hk
    · rw [set_at _ _ _ hk]
    · exact gat_set h _ _ hk (by show 0 ≤ p ∧ p ≤ 999; omega)
theorem turn_is {es : List Gate} (h : DrawnG es) (k : Nat) (p : Int) (hk : k < es.length) (hp : 1 ≤ p ∧ p ≤ 4) :
    ∃ T b, turnF es k p = (T, b) ∧ Changed es T k ∧ b = ((Gate.at_ es k).f1 == p) ∧ (b = true → (Gate.at_ T k).f0 = !(Gate.at_ es k).f0) := by
  have hp' : inB p 1 999 = true := inB_mk (by omega)
  cases e : ((Gate.at_ es k).f1 == p)
  · exact ⟨es, false, chF_no (fun c => (by have := c.2.2.2; rw [Int.toNat_natCast] at this; exact absurd this (by simp [e]))), changed_same _ _, rfl, (fun c => by cases c)⟩
  · refine ⟨_, true, chF_yes ⟨gatB_yes (drawnG_ok h), can_k k hk, hp', by rw [Int.toNat_natCast]; exact e⟩, ?_, rfl, fun _ => ?_⟩ <;> rw [Int.toNat_natCast]
    · exact changed_set _ _ _ hk
    · rw [set_at _ _ _ hk]
theorem hang_is {es : List Gate} (h : DrawnG es) (k : Nat) (p : Int) (hk : k < es.length) (hp : 1 ≤ p ∧ p ≤ 4) :
    ∃ T b, hangF es k p = (T, b) ∧ Changed es T k ∧ b = ((Gate.at_ es k).f1 == p && !(Gate.at_ es k).f0) ∧ (b = true → (Gate.at_ T k).f1 = 0) := by
  have hp' : inB p 1 999 = true := inB_mk (by omega)
  cases e : ((Gate.at_ es k).f1 == p && !(Gate.at_ es k).f0)
  · exact ⟨es, false, chF_no (fun c => (by have := c.2.2.2; rw [Int.toNat_natCast] at this; exact absurd this (by simp [e]))), changed_same _ _, rfl, (fun c => by cases c)⟩
  · refine ⟨_, true, chF_yes ⟨gatB_yes (drawnG_ok h), can_k k hk, hp', by rw [Int.toNat_natCast]; exact e⟩, ?_, rfl, fun _ => ?_⟩ <;> rw [Int.toNat_natCast]
    · exact changed_set _ _ _ hk
    · rw [set_at _ _ _ hk]
end Go.Proofs.Ytbbhchdpaocljaa
