/-
  Plain facts on balances: they sum to zero; the rounds in which the poorest takes from the richest come to an end. No program in sight.
-/
import Derived.Test.YtcjlipcoefcmgaaTradeA
import Derived.Test.YtcjlipcoefcmgaaSetDebt
namespace Go.Proofs.Ytcjlipcoefcmgaa
open Go.RowKit

theorem sumG_congr {f g : Nat → Int} {n : Nat} (h : ∀ i, i < n → f i = g i) : sumG f n = sumG g n := by
  induction n with
  | zero => rfl
  | succ n ih => rw [sumG, sumG, ih (fun i hi => h i (by omega)), h n (by omega)]
theorem sumG_zero (n : Nat) : sumG (fun _ => 0) n = 0 := by
  induction n with
  | zero => rfl
  | succ n ih => rw [sumG, ih]; rfl
theorem sumG_add (f g : Nat → Int) (n : Nat) : sumG (fun i => f i + g i) n = sumG f n + sumG g n := by
  induction n with
  | zero => rfl
  | succ n ih => simp only [sumG, ih]; omega
theorem sumG_sub (f g : Nat → Int) (n : Nat) : sumG (fun i => f i - g i) n = sumG f n - sumG g n := by
  induction n with
  | zero => rfl
  | succ n ih => simp only [sumG, ih]; omega
theorem sumG_comm (f : Nat → Nat → Int) (m n : Nat) : sumG (fun a => sumG (fun i => f a i) n) m = sumG (fun i => sumG (fun a => f a i) m) n := by
  induction m with
  | zero => simp only [sumG]; rw [sumG_zero]
  | succ m ih => simp only [sumG, ih]; rw [← sumG_add]
theorem sumG_one (x v : Int) (m : Nat) : sumG (fun (a : Nat) => if x == (a : Int) + 1 then v else 0) m = if 1 ≤ x ∧ x ≤ m then v else 0 := by
  induction m with
  | zero => rw [sumG, if_neg (by omega)]
  | succ m ih =>
    rw [sumG, ih]
    by_cases h1 : 1 ≤ x ∧ x ≤ m
    · rw [if_pos h1, if_neg (by simp; omega), if_pos (by omega)]; omega
    · by_cases h2 : x = (m : Int) + 1
      · rw [if_neg h1, if_pos (by simp [h2]), if_pos (by omega)]; omega
      · rw [if_neg h1, if_neg (by simp; omega), if_neg (by omega)]; omega
theorem sumG_le {f g : Nat → Int} {n : Nat} (h : ∀ i, i < n → f i ≤ g i) : sumG f n ≤ sumG g n := by
  induction n with
  | zero => exact Int.le_refl _
  | succ n ih =>
    have := ih (fun i hi => h i (by omega))
    have := h n (by omega)
    simp only [sumG]
    omega
theorem sumG_lt {f g : Nat → Int} {n k : Nat} (h : ∀ i, i < n → f i ≤ g i) (hk : k < n) (hlt : f k < g k) : sumG f n < sumG g n := by
  induction n with
  | zero => omega
  | succ n ih =>
    have h2 := h n (by omega)
    simp only [sumG]
    by_cases e : k = n
    · subst e
      have := sumG_le (fun i hi => h i (by omega) : ∀ i, i < k → f i ≤ g i)
      omega
    · have := ih (fun i hi => h i (by omega)) (by omega)
      omega
/-- the balances of persons 0 .. 20 -/
noncomputable def balL (es : List Debt) : List Int := (List.range 21).map fun (a : Nat) => balF es (a : Int)
theorem balL_len (es : List Debt) : (balL es).length = 21 := by simp [balL]
theorem balL_nth (es : List Debt) (a : Nat) (h : a < 21) : nth (balL es) a = balF es (a : Int) := by simp [nth, balL, h]
theorem balF_bd (es : List Debt) (a : Int) : -300000 ≤ balF es a ∧ balF es a ≤ 300000 := by
  unfold balF
  split
  · rename_i h
    have hl := (debB_at h).1
    have := sumG_bd (b := 10000) (balI_bd h a) es.length (Nat.le_refl _)
    omega
  · omega
theorem bal_sum {es : List Debt} (h : debB es = true) : sumG (fun (a : Nat) => balF es ((a : Int) + 1)) 20 = 0 := by
  have e1 : sumG (fun (a : Nat) => balF es ((a : Int) + 1)) 20 = sumG (fun (a : Nat) => sumG (fun i => balAt ((a : Int) + 1) (Debt.at_ es i)) es.length) 20 :=
    sumG_congr fun a _ => by rw [balF, if_pos h]; rfl
  rw [e1, sumG_comm]
  have e2 : ∀ i, i < es.length → sumG (fun (a : Nat) => balAt ((a : Int) + 1) (Debt.at_ es i)) 20 = 0 := fun i hi => by
    obtain ⟨_, q1, q2, _⟩ := (debB_at h).2 i hi
    have := inB_yes q1
    have := inB_yes q2
    unfold balAt
    rw [sumG_sub (fun (a : Nat) => if (Debt.at_ es i).f1 == (a : Int) + 1 then (Debt.at_ es i).f2 else 0) (fun (a : Nat) => if (Debt.at_ es i).f0 == (a : Int) + 1 then (Debt.at_ es i).f2 else 0), sumG_one, sumG_one, if_pos (by omega), if_pos (by omega)]
    omega
  rw [sumG_congr e2, sumG_zero]
theorem bal_zero {es : List Debt} (h : debB es = true) : balF es 0 = 0 := by
  rw [balF, if_pos h, sumG_congr (g := fun _ => 0) (fun i hi => by
    obtain ⟨_, q1, q2, _⟩ := (debB_at h).2 i hi
    have := inB_yes q1
    have := inB_yes q2
    unfold balI balAt
    rw [if_neg (by simp; omega), if_neg (by simp; omega)]
    rfl), sumG_zero]

/-- the first of the poorest, of the richest, among 1 .. m -/
def miN (bs : List Int) : Nat → Nat
  | 0 => 1
  | m + 1 => if nth bs (m + 1) < nth bs (miN bs m) then m + 1 else miN bs m
def maN (bs : List Int) : Nat → Nat
  | 0 => 1
  | m + 1 => if nth bs (maN bs m) < nth bs (m + 1) then m + 1 else maN bs m
theorem miN_one (bs : List Int) : miN bs 1 = 1 := by simp [miN]
theorem maN_one (bs : List Int) : maN bs 1 = 1 := by simp [maN]
theorem miN_bd (bs : List Int) (m : Nat) (h : m ≤ 20) : 1 ≤ miN bs m ∧ miN bs m ≤ 20 := by
  induction m with
  | zero => simp [miN]
  | succ m ih => have := ih (by omega); rw [miN]; split <;> omega
theorem maN_bd (bs : List Int) (m : Nat) (h : m ≤ 20) : 1 ≤ maN bs m ∧ maN bs m ≤ 20 := by
  induction m with
  | zero => simp [maN]
  | succ m ih => have := ih (by omega); rw [maN]; split <;> omega
theorem miN_le (bs : List Int) (m : Nat) : ∀ i, 1 ≤ i → i ≤ m → nth bs (miN bs m) ≤ nth bs i := by
  induction m with
  | zero => intro i h1 h2; omega
  | succ m ih =>
    intro i h1 h2
    rw [miN]
    by_cases e : i = m + 1
    · subst e; split <;> omega
    · have := ih i h1 (by omega); split <;> omega
theorem maN_ge (bs : List Int) (m : Nat) : ∀ i, 1 ≤ i → i ≤ m → nth bs i ≤ nth bs (maN bs m) := by
  induction m with
  | zero => intro i h1 h2; omega
  | succ m ih =>
    intro i h1 h2
    rw [maN]
    by_cases e : i = m + 1
    · subst e; split <;> omega
    · have := ih i h1 (by omega); split <;> omega
def stN (bs : List Int) : Int := min (-(nth bs (miN bs 20))) (nth bs (maN bs 20))
def stB1 (bs : List Int) : List Int := bs.set (miN bs 20) (nth bs (miN bs 20) + stN bs)
def stB (bs : List Int) : List Int := (stB1 bs).set (maN bs 20) (nth (stB1 bs) (maN bs 20) - stN bs)
def stD (bs : List Int) : Debt := ⟨(miN bs 20 : Int), (maN bs 20 : Int), stN bs⟩
/-- what the rounds leave; f: a bound on their number -/
def stl : Nat → List Int → List Debt → List Debt
  | 0, _, _ => []
  | f + 1, bs, L => if stN bs = 0 then L else if 10000 < stN bs then [] else stl f (stB bs) (L ++ [stD bs])
/-- the balances are in order -/
def balOk (bs : List Int) : Prop := bs.length = 21 ∧ (∀ i, i < 21 → -300000 ≤ nth bs i ∧ nth bs i ≤ 300000) ∧ sumG (fun i => nth bs (i + 1)) 20 = 0
def nzI (bs : List Int) : Int := sumG (fun i => if nth bs (i + 1) = 0 then 0 else 1) 20
theorem nzI_bd (bs : List Int) : 0 ≤ nzI bs ∧ nzI bs ≤ 20 := by
  have h1 := sumG_le (f := fun _ => 0) (g := fun i => if nth bs (i + 1) = 0 then (0 : Int) else 1) (n := 20) (fun i _ => by (try simp only []); split <;> omega)
  have h2 := sumG_le (g := fun _ => 1) (f := fun i => if nth bs (i + 1) = 0 then (0 : Int) else 1) (n := 20) (fun i _ => by (try simp only []); split <;> omega)
  rw [sumG_zero] at h1
  have : sumG (fun _ => 1) 20 = 20 := by decide
  unfold nzI
  omega
theorem nth_set (bs : List Int) (i j : Nat) (x : Int) (hi : i < bs.length) : nth (bs.set i x) j = if i = j then x else nth bs j := by
  by_cases h : i = j
  · subst h
    simp [nth, hi]
  · simp [nth, h, List.getElem?_set_ne h]
theorem balOk_signs {bs : List Int} (h : balOk bs) : nth bs (miN bs 20) ≤ 0 ∧ 0 ≤ nth bs (maN bs 20) := by
  constructor
  · rcases Int.lt_or_le 0 (nth bs (miN bs 20)) with hp | hp
    · have := sumG_lt (f := fun _ => 0) (g := fun i => nth bs (i + 1)) (n := 20) (k := 0) (fun i hi => by have := miN_le bs 20 (i + 1) (by omega) (by omega); (try simp only []); omega) (by omega) (by have := miN_le bs 20 1 (by omega) (by omega); show 0 < nth bs 1; omega)
      rw [h.2.2, sumG_zero] at this
      omega
    · exact hp
  · rcases Int.lt_or_le (nth bs (maN bs 20)) 0 with hp | hp
    · have := sumG_lt (g := fun _ => 0) (f := fun i => nth bs (i + 1)) (n := 20) (k := 0) (fun i hi => by have := maN_ge bs 20 (i + 1) (by omega) (by omega); (try simp only []); omega) (by omega) (by have := maN_ge bs 20 1 (by omega) (by omega); show nth bs 1 < 0; omega)
      rw [h.2.2, sumG_zero] at this
      omega
    · exact hp
theorem stN_nonneg {bs : List Int} (h : balOk bs) : 0 ≤ stN bs ∧ stN bs ≤ 300000 := by
  have := balOk_signs h
  have := h.2.1 (maN bs 20) (by have := maN_bd bs 20 (by omega); omega)
  unfold stN
  omega
theorem stB_nth {bs : List Int} (h : balOk bs) (hn : stN bs ≠ 0) (j : Nat) : nth (stB bs) j = if maN bs 20 = j then nth bs j - stN bs else if miN bs 20 = j then nth bs j + stN bs else nth bs j := by
  have hs := balOk_signs h
  have hb := miN_bd bs 20 (by omega)
  have hc := maN_bd bs 20 (by omega)
  have hl := h.1
  have hne : miN bs 20 ≠ maN bs 20 := fun e => by
    rw [e] at hs
    apply hn
    unfold stN
    rw [e]
    omega
  rw [stB, nth_set _ _ _ _ (by simp [stB1]; omega), stB1, nth_set _ _ _ _ (by omega), nth_set _ _ _ _ (by omega)]
  by_cases e1 : maN bs 20 = j
  · subst e1
    rw [if_pos rfl, if_pos rfl, if_neg hne]
  · rw [if_neg e1, if_neg e1]
    by_cases e2 : miN bs 20 = j
    · subst e2; simp
    · rw [if_neg e2, if_neg e2]
theorem stB_ok {bs : List Int} (h : balOk bs) (hn : stN bs ≠ 0) : balOk (stB bs) ∧ nzI (stB bs) < nzI bs := by
  have hs := balOk_signs h
  have hb := miN_bd bs 20 (by omega)
  have hc := maN_bd bs 20 (by omega)
  have h0 := stN_nonneg h
  have hat := stB_nth h hn
  have hlo := h.2.1 (miN bs 20) (by omega)
  have hhi := h.2.1 (maN bs 20) (by omega)
  have hd : stN bs = min (-(nth bs (miN bs 20))) (nth bs (maN bs 20)) := rfl
  have hne : miN bs 20 ≠ maN bs 20 := fun e => by rw [e] at hs hd; omega
  refine ⟨⟨by simp [stB, stB1, h.1], fun i hi => ?_, ?_⟩, ?_⟩
  · have := h.2.1 i hi
    rw [hat]
    split
    · rename_i e; subst e; omega
    · split
      · rename_i e; subst e; omega
      · exact this
  · have e : sumG (fun i => nth (stB bs) (i + 1)) 20 = sumG (fun (i : Nat) => (nth bs (i + 1) + (if (miN bs 20 : Int) == (i : Int) + 1 then stN bs else 0)) - (if (maN bs 20 : Int) == (i : Int) + 1 then stN bs else 0)) 20 := by
      refine sumG_congr fun i _ => ?_
      rw [hat]
      by_cases e1 : maN bs 20 = i + 1
      · rw [if_pos e1, if_neg (by simp; omega), if_pos (by simp; omega)]; omega
      · by_cases e2 : miN bs 20 = i + 1
        · rw [if_neg e1, if_pos e2, if_pos (by simp; omega), if_neg (by simp; omega)]; omega
        · rw [if_neg e1, if_neg e2, if_neg (by simp; omega), if_neg (by simp; omega)]; omega
    rw [e, sumG_sub (fun (i : Nat) => nth bs (i + 1) + (if (miN bs 20 : Int) == (i : Int) + 1 then stN bs else 0)), sumG_add (fun (i : Nat) => nth bs (i + 1)), sumG_one, sumG_one, h.2.2, if_pos (by omega), if_pos (by omega)]
    omega
  · have hle : ∀ i, i < 20 → (if nth (stB bs) (i + 1) = 0 then (0 : Int) else 1) ≤ (if nth bs (i + 1) = 0 then 0 else 1) := fun i _ => by
      rw [hat]
      by_cases e1 : maN bs 20 = i + 1
      · rw [if_pos e1, if_neg (show ¬ nth bs (i + 1) = 0 by rw [← e1]; omega)]; split <;> omega
      · rw [if_neg e1]
        by_cases e2 : miN bs 20 = i + 1
        · rw [if_pos e2, if_neg (show ¬ nth bs (i + 1) = 0 by rw [← e2]; omega)]; split <;> omega
        · rw [if_neg e2]; omega
    rcases (show stN bs = -(nth bs (miN bs 20)) ∨ stN bs = nth bs (maN bs 20) by omega) with e | e
    · refine sumG_lt hle (k := miN bs 20 - 1) (by omega) ?_
      have e3 : nth (stB bs) (miN bs 20) = 0 := by rw [hat, if_neg (fun e => hne e.symm), if_pos rfl]; omega
      rw [show miN bs 20 - 1 + 1 = miN bs 20 by omega, e3, if_pos rfl, if_neg (by omega)]
      omega
    · refine sumG_lt hle (k := maN bs 20 - 1) (by omega) ?_
      have e3 : nth (stB bs) (maN bs 20) = 0 := by rw [hat, if_pos rfl]; omega
      rw [show maN bs 20 - 1 + 1 = maN bs 20 by omega, e3, if_pos rfl, if_neg (by omega)]
      omega
theorem balL_ok {es : List Debt} (h : debB es = true) : balOk (balL es) := by
  refine ⟨balL_len es, fun i hi => by rw [balL_nth es i hi]; exact balF_bd es _, ?_⟩
  rw [← bal_sum h]
  exact sumG_congr fun i hi => by rw [balL_nth es (i + 1) (by omega)]; rfl
/-- what Settled answers -/
noncomputable def settledF (es : List Debt) : List Debt := if debB es = true then stl 21 (balL es) [] else []
theorem stl_len : ∀ (f : Nat) (bs : List Int) (L : List Debt), (stl f bs L).length ≤ L.length + f
  | 0, _, _ => by simp [stl]
  | f + 1, bs, L => by
    rw [stl]
    split
    · omega
    · split
      · simp
      · have := stl_len f (stB bs) (L ++ [stD bs])
        simp at this
        omega
theorem settledF_len (es : List Debt) : (settledF es).length ≤ 21 := by
  unfold settledF
  split
  · have := stl_len 21 (balL es) []
    simpa using this
  · simp
end Go.Proofs.Ytcjlipcoefcmgaa
