/-
  Plain facts on the great case of symMerge: the search's end parts the row (part_of). No program in sight. Conditions: none.
-/
import Derived.Test.YtbenbjbfmcdedaaSymB
namespace Go.Proofs.Ytbenbjbfmcdedaa
open Go.RowKit

/-- the search's state: what was said of the last cell below i and of the cell j -/
def SCutM (key : Int → Int) (zs : List Int) (pp s0 r0 i j : Nat) : Prop := (i = s0 ∨ (s0 < i ∧ ¬ key (nth zs (pp - (i - 1))) < key (nth zs (i - 1)))) ∧ (j = r0 ∨ (j < r0 ∧ key (nth zs (pp - j)) < key (nth zs j)))
/-- where the search starts -/
structure SRoom (a m b mid s0 r0 : Nat) : Prop where
  half : 2 * mid ≤ a + b ∧ a + b ≤ 2 * mid + 1
  low : a ≤ s0 ∧ mid + m ≤ s0 + b ∧ s0 ≤ r0
  high : r0 ≤ m ∧ r0 ≤ mid
  ends : (s0 = a ∨ s0 + b = mid + m) ∧ (r0 = m ∨ r0 = mid)
theorem SRoom.above {a m b mid : Nat} (h : 2 * mid ≤ a + b ∧ a + b ≤ 2 * mid + 1) (hm : mid < m) (hb : m < b) (ha : a < m) : SRoom a m b mid (mid + m - b) mid := ⟨h, by omega, by omega, by omega⟩
theorem SRoom.below {a m b mid : Nat} (h : 2 * mid ≤ a + b ∧ a + b ≤ 2 * mid + 1) (hm : ¬ mid < m) (hb : m < b) (ha : a < m) : SRoom a m b mid a m := ⟨h, by omega, by omega, by omega⟩
theorem part_of {key : Int → Int} {zs : List Int} {a m b mid s0 r0 s : Nat} (h : Mrg key zs a m b) (k : SRoom a m b mid s0 r0) (c : SCutM key zs (mid + m - 1) s0 r0 s s) (hs : s0 ≤ s ∧ s ≤ r0) : Part key zs a m b mid s (mid + m - s) := by
  have k1 := k.half
  have k2 := k.low
  have k3 := k.high
  have k4 := k.ends
  refine ⟨by omega, by omega, by omega, fun p q h1 h2 h3 h4 => ?_, fun p q h1 h2 h3 h4 => ?_⟩
  · rcases c.2 with e | ⟨e1, e2⟩
    · omega
    · obtain ⟨y, hy⟩ : ∃ y, y = mid + m - 1 - s := ⟨_, rfl⟩
      rw [← hy] at e2
      have l1 : q = y ∨ lexB key (nth zs q) (nth zs y) := by
        by_cases e : q = y
        · exact .inl e
        · exact .inr (h.right q y h3 (by omega) (by omega))
      have l2 : s = p ∨ lexB key (nth zs s) (nth zs p) := by
        by_cases e : s = p
        · exact .inl e
        · exact .inr (h.left s p (by omega) (by omega) h2)
      have l3 : lexB key (nth zs y) (nth zs s) := .inl e2
      rcases l1 with e | l1 <;> rcases l2 with f | l2
      · rw [e, ← f]; exact l3
      · rw [e]; exact l3.trans l2
      · rw [← f]; exact l1.trans l3
      · exact (l1.trans l3).trans l2
  · rcases c.1 with e | ⟨e1, e2⟩
    · omega
    · obtain ⟨y, hy⟩ : ∃ y, y = mid + m - 1 - (s - 1) := ⟨_, rfl⟩
      obtain ⟨x, hx⟩ : ∃ x, x = s - 1 := ⟨_, rfl⟩
      rw [← hy, ← hx] at e2
      have l3 : lexB key (nth zs x) (nth zs y) := (h.cmp (p := x) (q := y) (by omega) (by omega)).2 e2
      have l1 : p = x ∨ lexB key (nth zs p) (nth zs x) := by
        by_cases e : p = x
        · exact .inl e
        · exact .inr (h.left p x h1 (by omega) (by omega))
      have l2 : y = q ∨ lexB key (nth zs y) (nth zs q) := by
        by_cases e : y = q
        · exact .inl e
        · exact .inr (h.right y q (by omega) (by omega) h4)
      rcases l1 with e | l1 <;> rcases l2 with f | l2
      · rw [e, ← f]; exact l3
      · rw [e]; exact l3.trans l2
      · rw [← f]; exact l1.trans l3
      · exact (l1.trans l3).trans l2
/-- nothing to turn -/
theorem rotN_none {zs : List Int} {s m e : Nat} (h : s = m ∨ e = m) (hs : s ≤ m) (he : m ≤ e) (p : Nat) : nth zs p = rotN zs s m e p := by
  unfold rotN
  split
  · exact nth_arg (by omega)
  · split
    · exact nth_arg (by omega)
    · rfl
theorem bd_perm {P : Int → Prop} {zs ds : List Int} {n : Nat} (hl : zs.length = n) (h : ds.Perm zs) (hN : ∀ i, i < n → P (nth zs i)) : ∀ i, i < n → P (nth ds i) := fun i hi => by
  have hd : i < ds.length := by rw [h.length_eq]; omega
  have e : nth ds i = ds[i] := by simp [nth, hd]
  obtain ⟨j, hj, he⟩ := List.getElem_of_mem (h.subset (List.getElem_mem hd))
  have e2 : nth zs j = zs[j] := by simp [nth, hj]
  rw [e, ← he, ← e2]
  exact hN j (by omega)
/-- the turned row holds what the row held between a and b -/
theorem rot_src {zs ds : List Int} {a b s m e : Nat} (hd : ∀ p, nth ds p = rotN zs s m e p) (h1 : a ≤ s) (h2 : s ≤ m) (h3 : m ≤ e) (h4 : e ≤ b) : ∀ i, a ≤ i → i < b → ∃ j, a ≤ j ∧ j < b ∧ nth ds i = nth zs j := fun i hi hj => by
  rw [hd i, rotN]
  split
  · exact ⟨_, by omega, by omega, rfl⟩
  · split
    · exact ⟨_, by omega, by omega, rfl⟩
    · exact ⟨i, hi, hj, rfl⟩
theorem rot_out {zs ds : List Int} {a b s m e : Nat} (hd : ∀ p, nth ds p = rotN zs s m e p) (h1 : a ≤ s) (h2 : s ≤ m) (h3 : m ≤ e) (h4 : e ≤ b) : ∀ i, i < a ∨ b ≤ i → nth ds i = nth zs i := fun i hi => by
  rw [hd i, rotN, if_neg (by omega), if_neg (by omega)]
/-- what stands outside the sorted part stays two sorted parts -/
theorem Mrg.out {key : Int → Int} {ds es : List Int} {a mid e b : Nat} (h : Mrg key ds mid e b) (k : Srt key ds es a mid) (he : mid ≤ e) : Mrg key es mid e b := by
  have o : ∀ i, mid ≤ i → nth es i = nth ds i := fun i hi => k.out i (.inr hi)
  refine ⟨fun p q h1 h2 h3 => ?_, fun p q h1 h2 h3 => ?_, fun p q h1 h2 h3 h4 => ?_⟩
  · rw [o p h1, o q (by omega)]; exact h.left p q h1 h2 h3
  · rw [o p (by omega), o q (by omega)]; exact h.right p q h1 h2 h3
  · rw [o p h1, o q (by omega)]; exact h.apart p q h1 h2 h3 h4
end Go.Proofs.Ytbenbjbfmcdedaa
