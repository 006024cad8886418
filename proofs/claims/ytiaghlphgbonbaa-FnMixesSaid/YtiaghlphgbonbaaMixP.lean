/-
  Plain facts on two mixes and their sum, for the law FnMixes. No program in sight. Conditions: those of the drawn mixes.
-/
import Derived.Test.YtiaghlphgbonbaaMixD
namespace Go.Proofs.Ytiaghlphgbonbaa
open Go.RowKit

/-- two drawn mixes -/
def Two (a b x y : Int) : Prop := (1 ≤ a ∧ a ≤ 100 ∧ 0 ≤ b ∧ b ≤ 1743) ∧ (1 ≤ x ∧ x ≤ 100 ∧ 0 ≤ y ∧ y ≤ 1743)
theorem mixB_mk {a b : Int} (h : 0 ≤ a ∧ a ≤ 100000 ∧ 0 ≤ b ∧ b ≤ 100000000 ∧ (0 < a ∨ b = 0)) : mixB a b = true := by simpa [mixB] using h
theorem two_a {a b x y : Int} (h : Two a b x y) : mixB a b = true := by unfold Two at h; exact mixB_mk (by omega)
theorem two_b {a b x y : Int} (h : Two a b x y) : mixB x y = true := by unfold Two at h; exact mixB_mk (by omega)
theorem two_m {a b x y : Int} (h : Two a b x y) : mixB (a + x) (b + y) = true := by unfold Two at h; exact mixB_mk (by omega)
theorem two_join {a b x y : Int} (h : Two a b x y) : joinV a b x y = .tuple #[mixV (a + x) (b + y), .bool true] := by
  rw [joinV, if_pos ⟨two_a h, two_b h, two_m h⟩]
/-- who is saltier: the four comparisons of the law -/
theorem two_salt {a b x y : Int} (h : Two a b x y) :
    saltF (a + x) (b + y) a b = cmp3 (y * a) (b * x) ∧ saltF (a + x) (b + y) x y = cmp3 (b * x) (y * a) ∧ saltF a b x y = cmp3 (b * x) (y * a) ∧ saltF x y a b = cmp3 (y * a) (b * x) := by
  have h1 := two_a h
  have h2 := two_b h
  have h3 := two_m h
  unfold Two at h
  have e1 : (b + y) * a = b * a + y * a := Int.add_mul ..
  have e2 : b * (a + x) = b * a + b * x := Int.mul_add ..
  have e3 : (b + y) * x = b * x + y * x := Int.add_mul ..
  have e4 : y * (a + x) = y * a + y * x := Int.mul_add ..
  refine ⟨?_, ?_, ?_, ?_⟩
  · rw [saltF, if_pos ⟨h3, h1, by omega, by omega⟩, e1, e2]
    unfold cmp3; split <;> split <;> (try split) <;> (try split) <;> omega
  · rw [saltF, if_pos ⟨h3, h2, by omega, by omega⟩, e3, e4]
    unfold cmp3; split <;> split <;> (try split) <;> (try split) <;> omega
  · rw [saltF, if_pos ⟨h1, h2, by omega, by omega⟩]
  · rw [saltF, if_pos ⟨h2, h1, by omega, by omega⟩]
theorem two_three {a b x y : Int} (h : Two a b x y) : ∃ s t : Int, (s = 0 ∧ t = 0 ∨ s = 1 ∧ t = -1 ∨ s = -1 ∧ t = 1) ∧ saltF (a + x) (b + y) a b = s ∧ saltF (a + x) (b + y) x y = t ∧ saltF a b x y = t ∧ saltF x y a b = s := by
  obtain ⟨h1, h2, h3, h4⟩ := two_salt h
  refine ⟨cmp3 (y * a) (b * x), cmp3 (b * x) (y * a), ?_, h1, h2, h3, h4⟩
  unfold cmp3; split <;> split <;> (try split) <;> (try split) <;> omega
/-- what was taken is not saltier than the whole -/
theorem took_salt {a b x y n : Int} (h : Two a b x y) (hn : 1 ≤ n ∧ n < a + x) : takeV (a + x) (b + y) n = .tuple #[mixV (a + x - n) (b + y - (b + y) * n / (a + x)), mixV n ((b + y) * n / (a + x)), .bool true] ∧
    saltF n ((b + y) * n / (a + x)) (a + x) (b + y) ≤ 0 ∧ mixB (a + x - n) (b + y - (b + y) * n / (a + x)) = true ∧ 0 ≤ (b + y) * n / (a + x) ∧ (b + y) * n / (a + x) ≤ b + y := by
  have h3 := two_m h
  have ⟨m1, m2, m3, m4⟩ := take_room (a + x) (b + y) n h3 (inB_mk (by omega))
  unfold Two at h
  have hk : (b + y) * n / (a + x) * (a + x) ≤ (b + y) * n := Int.ediv_mul_le _ (by omega)
  refine ⟨by rw [takeV, if_pos ⟨h3, by omega, by omega⟩], ?_, mixB_mk (by omega), m3, m4⟩
  unfold saltF
  split
  · unfold cmp3; split <;> (try split) <;> omega
  · omega
theorem took_none {a b x y n : Int} (h : Two a b x y) (hn : a + x ≤ n) : takeV (a + x) (b + y) n = .tuple #[mixV (a + x) (b + y), mixV 0 0, .bool false] := by
  rw [takeV, if_neg (by omega)]
/-- grams, rounded up -/
theorem grams_law {a b x y n : Int} (h : Two a b x y) (hn : 1 ≤ n ∧ n ≤ a + x) : (b + y) * n ≤ gramsF (a + x) (b + y) n * (a + x) ∧ (gramsF (a + x) (b + y) n - 1) * (a + x) < (b + y) * n ∧ 0 ≤ gramsF (a + x) (b + y) n ∧ gramsF (a + x) (b + y) n ≤ 800000 := by
  have h3 := two_m h
  have ⟨m1, m2⟩ := grams_room (a + x) (b + y) n h3 (inB_mk (by omega))
  unfold Two at h
  rw [gramsF, if_pos ⟨h3, by omega, by omega, by omega⟩]
  have hs : (b + y) * n ≤ 3486 * 200 := Int.mul_le_mul (by omega) (by omega) (by omega) (by omega)
  have hW : 2 ≤ a + x ∧ a + x ≤ 200 := by omega
  generalize (b + y) * n = s at *
  generalize a + x = W at *
  have q1 := Int.mul_ediv_add_emod (s + W - 1) W
  have q2 := Int.emod_nonneg (s + W - 1) (b := W) (by omega)
  have q3 := Int.emod_lt_of_pos (s + W - 1) (show 0 < W by omega)
  have q4 : 0 ≤ (s + W - 1) / W := Int.ediv_nonneg (by omega) (by omega)
  have q5 : (s + W - 1) / W ≤ s + W - 1 := Int.ediv_le_self _ (by omega)
  rw [Int.mul_comm] at q1
  have q6 : ((s + W - 1) / W - 1) * W = (s + W - 1) / W * W - W := by rw [Int.sub_mul, Int.one_mul]
  refine ⟨by omega, by omega, q4, by omega⟩
/-- how much fresh water is wanted, and that it is enough and not too much -/
theorem fresh_law {a b x y m : Int} (h : Two a b x y) (hm : 1 ≤ m ∧ m ≤ 60) : 0 ≤ freshF (a + x) (b + y) m ∧ freshF (a + x) (b + y) m ≤ 4000 ∧
    (freshF (a + x) (b + y) m = 0 ↔ b + y ≤ m * (a + x)) ∧ b + y ≤ m * (a + x + freshF (a + x) (b + y) m) ∧ (0 < freshF (a + x) (b + y) m → m * (a + x + (freshF (a + x) (b + y) m - 1)) < b + y) := by
  have h3 := two_m h
  unfold Two at h
  have e := show freshF (a + x) (b + y) m = (if 100000 < a + x + max 0 ((b + y + m - 1) / m - (a + x)) then -1 else max 0 ((b + y + m - 1) / m - (a + x))) from by rw [freshF, if_pos ⟨h3, by omega, hm.1, by omega⟩]
  have hs : b + y ≤ 3486 := by omega
  have hs0 : 0 ≤ b + y := by omega
  have hW : 2 ≤ a + x ∧ a + x ≤ 200 := by omega
  rw [e]
  clear e h3 h
  generalize b + y = s at *
  generalize a + x = W at *
  have q1 := Int.mul_ediv_add_emod (s + m - 1) m
  have q2 := Int.emod_nonneg (s + m - 1) (b := m) (by omega)
  have q3 := Int.emod_lt_of_pos (s + m - 1) (show 0 < m by omega)
  have q4 : 0 ≤ (s + m - 1) / m := Int.ediv_nonneg (by omega) (by omega)
  have q5 : (s + m - 1) / m ≤ s + m - 1 := Int.ediv_le_self _ (by omega)
  generalize (s + m - 1) / m = q at *
  rw [if_neg (by omega)]
  by_cases hq : q ≤ W
  · have e0 : max 0 (q - W) = 0 := by omega
    rw [e0]
    have : m * q ≤ m * W := Int.mul_le_mul_of_nonneg_left hq (by omega)
    refine ⟨by omega, by omega, ⟨fun _ => by omega, fun _ => rfl⟩, by rw [Int.add_zero]; omega, by omega⟩
  · have e0 : max 0 (q - W) = q - W := by omega
    rw [e0]
    have e1 : W + (q - W) = q := by omega
    have e2 : W + (q - W - 1) = q - 1 := by omega
    rw [e1, e2]
    have : m * (W + 1) ≤ m * q := Int.mul_le_mul_of_nonneg_left (by omega) (by omega)
    have e3 : m * (W + 1) = m * W + m := by rw [Int.mul_add, Int.mul_one]
    have e4 : m * (q - 1) = m * q - m := by rw [Int.mul_sub, Int.mul_one]
    refine ⟨by omega, by omega, ⟨fun _ => by omega, fun _ => by omega⟩, by omega, fun _ => by omega⟩
theorem join_f {a b x y f : Int} (h : Two a b x y) (hf : 0 ≤ f ∧ f ≤ 4000) : joinV (a + x) (b + y) f 0 = .tuple #[mixV (a + x + f) (b + y), .bool true] := by
  have h3 := two_m h
  unfold Two at h
  rw [joinV, if_pos ⟨h3, mixB_mk (by omega), mixB_mk (by omega)⟩, Int.add_zero]
theorem join_no {a b x y f : Int} (hf : f < 0) : joinV (a + x) (b + y) f 0 = .tuple #[mixV 0 0, .bool false] := by
  rw [joinV, if_neg]
  intro c
  have := mixB_yes c.2.1
  omega
theorem drink_is {a b x y f m : Int} (h : Two a b x y) (hf : 0 ≤ f ∧ f ≤ 4000) (hm : 1 ≤ m ∧ m ≤ 60) : drinkB (a + x + f) (b + y) m = decide (b + y ≤ m * (a + x + f)) := by
  unfold Two at h
  rw [drinkB]
  refine decide_eq_decide.2 ⟨fun c => c.2.2.2.2, fun c => ⟨mixB_mk (by omega), by omega, by omega, by omega, c⟩⟩
theorem drink_now {a b x y m : Int} (h : Two a b x y) (hm : 1 ≤ m ∧ m ≤ 60) : drinkB (a + x) (b + y) m = decide (b + y ≤ m * (a + x)) := by
  have := drink_is (f := 0) h (by omega) hm
  rwa [Int.add_zero] at this
theorem prod_room {p q : Int} (hp : -1 ≤ p ∧ p ≤ 800000) (hq : 0 ≤ q ∧ q ≤ 4000) : -4000 ≤ p * q ∧ p * q ≤ 3200000000 := by
  have h1 : p * q ≤ 800000 * q := Int.mul_le_mul_of_nonneg_right hp.2 hq.1
  have h2 : -1 * q ≤ p * q := Int.mul_le_mul_of_nonneg_right hp.1 hq.1
  omega
end Go.Proofs.Ytiaghlphgbonbaa
