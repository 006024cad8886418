/-
  Plain facts on the levels of a drawn tank, for the law FnLeaks. No program in sight. Conditions: those of a drawn tank.
-/
import Derived.Test.YtdaokpfomoiboaaLeakD
namespace Go.Proofs.Ytdaokpfomoiboaa
open Go.RowKit

/-- a drawn tank -/
def Tnk (r l h t : Int) : Prop := 1 ≤ r ∧ r ≤ 250 ∧ 0 ≤ l ∧ l ≤ r ∧ 0 ≤ h ∧ h ≤ r ∧ 0 ≤ t ∧ t ≤ 29
theorem tnk_ok {r l h t : Int} (k : Tnk r l h t) : tankB r l h t = true := by unfold Tnk at k; simp only [tankB, decide_eq_true_eq]; omega
/-- the level after n hours -/
def lv (l h t n : Int) : Int := l - min (t * n) (max 0 (l - h))
theorem level_is {r l h t n : Int} (k : Tnk r l h t) (hn : 0 ≤ n ∧ n ≤ 10000) : levelF r l h t n = lv l h t n := by
  rw [levelF, if_pos ⟨tnk_ok k, hn⟩, lv]
theorem rest_is {r l h t : Int} (k : Tnk r l h t) : restF r l h t = lv l h t 1 := by
  rw [restF, if_pos (tnk_ok k), lv, Int.mul_one]
theorem lost_is {r l h t : Int} (k : Tnk r l h t) : lostF r l h t = l - lv l h t 1 := by
  rw [lostF, if_pos (tnk_ok k), lv, Int.mul_one]; omega
theorem lv_bd {r l h t n : Int} (k : Tnk r l h t) (hn : 0 ≤ n) : min l h ≤ lv l h t n ∧ lv l h t n ≤ l ∧ 0 ≤ lv l h t n ∧ lv l h t n ≤ 250 := by
  have h0 : 0 ≤ t * n := Int.mul_nonneg k.2.2.2.2.2.2.1 hn
  unfold Tnk at k
  unfold lv
  omega
theorem lv_zero (l h t : Int) : lv l h t 0 = l - min 0 (max 0 (l - h)) := by rw [lv, Int.mul_zero]
theorem lv_tank {r l h t : Int} (k : Tnk r l h t) : Tnk r (lv l h t 1) h t := by
  have := lv_bd k (show (0 : Int) ≤ 1 by omega)
  unfold Tnk at *
  omega
theorem lv_next {r l h t n : Int} (k : Tnk r l h t) (hn : 0 ≤ n) : lv (lv l h t 1) h t n = lv l h t (n + 1) := by
  have h0 : 0 ≤ t * n := Int.mul_nonneg k.2.2.2.2.2.2.1 hn
  unfold Tnk at k
  unfold lv
  rw [Int.mul_add, Int.mul_one]
  generalize t * n = p at *
  omega
/-- the levels of the hours 0 .. n - 1 -/
def lvs (l h t : Int) (n : Nat) : List Int := (List.range n).map fun i => lv l h t (i : Nat)
theorem lvs_len (l h t : Int) (n : Nat) : (lvs l h t n).length = n := by simp [lvs]
theorem lvs_nth (l h t : Int) (n i : Nat) (hi : i < n) : nth (lvs l h t n) i = lv l h t i := by simp [nth, lvs, hi]
theorem lvs_succ (l h t : Int) (n : Nat) : lvs l h t (n + 1) = lvs l h t n ++ [lv l h t n] := by simp [lvs, List.range_succ]
theorem lvs_all {r l h t : Int} (k : Tnk r l h t) (n : Nat) : allB (lvs l h t n) 0 100000 = true :=
  allB_yes fun j hj => by
    rw [lvs_len] at hj
    rw [lvs_nth _ _ _ _ _ hj]
    have := lv_bd k (show (0 : Int) ≤ (j : Int) by omega)
    exact inB_mk (by omega)
theorem lvs_explains {r l h t : Int} (k : Tnk r l h t) : explP (lvs l h t 100) t (nth (lvs l h t 100) 99) := by
  intro i hi
  rw [lvs_len] at hi
  rw [lvs_nth _ _ _ _ _ (by omega), lvs_nth _ _ _ _ _ (by omega), lvs_nth _ _ _ _ _ (by omega)]
  have h0 : 0 ≤ t * (i : Int) := Int.mul_nonneg k.2.2.2.2.2.2.1 (by omega)
  have h1 : t * ((i : Int) + 1) ≤ t * 99 := Int.mul_le_mul_of_nonneg_left (by omega) k.2.2.2.2.2.2.1
  have e1 : t * ((i : Int) + 1) = t * (i : Int) + t := by rw [Int.mul_add, Int.mul_one]
  have e2 : (((i + 1 : Nat) : Int)) = (i : Int) + 1 := by omega
  have e3 : (((99 : Nat) : Int)) = 99 := rfl
  unfold Tnk at k
  unfold stepE lv
  rw [e2, e3]
  rw [e1] at h1
  rw [e1]
  generalize t * (i : Int) = p at *
  generalize t * 99 = q at *
  omega
/-- the first rate is among the possible ones -/
theorem poss_first {r l h t : Int} (k : Tnk r l h t) : (0 : Int) ∈ possF (lvs l h t 100) [t, 1000] := by
  have hok : possOk (lvs l h t 100) [t, 1000] := by
    refine ⟨levB_mk 2 (lvs_len _ _ _ _) (by omega) (lvs_all k _), by simp, allB_yes fun j hj => ?_⟩
    have : j = 0 ∨ j = 1 := by simp at hj; omega
    unfold Tnk at k
    rcases this with rfl | rfl
    · exact inB_mk (show 0 ≤ t ∧ t ≤ 1000 by omega)
    · exact inB_mk (show (0 : Int) ≤ 1000 ∧ (1000 : Int) ≤ 1000 by omega)
  have hq : possQ (lvs l h t 100) [t, 1000] 0 = true := explB_yes (by rw [lvs_len]; exact lvs_explains k)
  rw [possF_yes hok]
  show (0 : Int) ∈ filtIdx _ 2
  rw [filtIdx, filtIdx_yes hq]
  split <;> simp [filtIdx]
/-- what is guessed from levels that end twice alike -/
theorem guess_full {r l h t : Int} (k : Tnk r l h t) (he : lv l h t 99 = lv l h t 98) : guessV (lvs l h t 100) = .tuple #[.int .i64 (lv l h t 99), .int .i64 (l - lv l h t 1), .bool true] := by
  have e0 : lv l h t 0 = l := by unfold Tnk at k; rw [lv_zero]; omega
  rw [guess_yes ⟨levB_mk 3 (lvs_len _ _ _ _) (by omega) (lvs_all k _), ?_, ?_⟩]
  · rw [lvs_len, lvs_nth _ _ _ _ _ (by omega), lvs_nth _ _ _ _ _ (by omega), lvs_nth _ _ _ _ _ (by omega)]
    show Value.tuple #[.int .i64 (lv l h t 99), .int .i64 (lv l h t 0 - lv l h t 1), .bool true] = _
    rw [e0]
  · rw [lvs_len, lvs_nth _ _ _ _ _ (by omega), lvs_nth _ _ _ _ _ (by omega)]
    exact he
  · intro i hi
    rw [lvs_len] at hi
    rw [lvs_len, lvs_nth _ _ _ _ _ (by omega), lvs_nth _ _ _ _ _ (by omega), lvs_nth _ _ _ _ _ (by omega), lvs_nth _ _ _ _ _ (by omega), lvs_nth _ _ _ _ _ (by omega)]
    have h0 : 0 ≤ t * (i : Int) := Int.mul_nonneg k.2.2.2.2.2.2.1 (by omega)
    have h1 : t * ((i : Int) + 1) ≤ t * 99 := Int.mul_le_mul_of_nonneg_left (by omega) k.2.2.2.2.2.2.1
    have e1 : t * ((i : Int) + 1) = t * (i : Int) + t := by rw [Int.mul_add, Int.mul_one]
    have e2 : (((i + 1 : Nat) : Int)) = (i : Int) + 1 := by omega
    show lv l h t ((i + 1 : Nat) : Int) = max (lv l h t (i : Int) - (lv l h t 0 - lv l h t 1)) (lv l h t 99)
    rw [e0, e2]
    unfold Tnk at k
    unfold lv at *
    rw [e1] at h1
    rw [e1]
    generalize t * (i : Int) = p at *
    omega
/-- two levels are too few -/
theorem guess_few (zs : List Int) (hl : zs.length = 2) : guessV zs = .tuple #[.int .i64 0, .int .i64 0, .bool false] :=
  guess_no fun h => by have := (levB_yes hl h.1).1; omega
theorem lv_last {r l h t : Int} (k : Tnk r l h t) (h1 : ¬ l ≤ h) : lv l h t 99 = max h (l - 99 * t) := by
  unfold Tnk at k
  unfold lv
  omega
/-- the first i elements of a slice -/
theorem Holds.pre {w : World} {k n c i : Nat} {A : Option Addr} {xs : List Value} (h : Holds w k A n c xs) (hi : i ≤ n) : Holds w k A i c (xs.take (i * k)) := by
  have hm : i * k ≤ n * k := Nat.mul_le_mul_right _ hi
  have hl : (xs.take (i * k)).length = i * k := by rw [List.length_take, h.1]; omega
  refine ⟨hl, by have := h.2.1; omega, h.2.2.1, fun hp => ?_⟩
  obtain ⟨b, off, hA, hb, hc⟩ := h.2.2.2 (by rw [h.1]; omega)
  refine ⟨b, off, hA, hb, fun j u hu => hc j u ?_⟩
  rw [List.getElem?_take] at hu
  split at hu
  · exact hu
  · cases hu
theorem ints_take (zs : List Int) (i : Nat) : (ints zs).take i = ints (zs.take i) := by simp [ints, List.map_take]
end Go.Proofs.Ytdaokpfomoiboaa
