/-
  Plain facts on the stable sort by insertion: lists of places in the order by key and place. No program in sight. Conditions: none.
-/
import Derived.Test.YtbenbjbfmcdedaaInts
namespace Go.Proofs.Ytbenbjbfmcdedaa
open Go.RowKit

/-- by key, then by place -/
def lexB (key : Int → Int) (x y : Int) : Prop := key x < key y ∨ (key x = key y ∧ x < y)
theorem lexB.trans {key : Int → Int} {x y z : Int} (h : lexB key x y) (k : lexB key y z) : lexB key x z := by unfold lexB at *; omega
/-- ds' is ds, sorted between a and b -/
structure Srt (key : Int → Int) (ds ds' : List Int) (a b : Nat) : Prop where
  perm : ds'.Perm ds
  out : ∀ i, i < a ∨ b ≤ i → nth ds' i = nth ds i
  src : ∀ i, a ≤ i → i < b → ∃ j, a ≤ j ∧ j < b ∧ nth ds' i = nth ds j
  up : ∀ p q, a ≤ p → p < q → q < b → lexB key (nth ds' p) (nth ds' q)
theorem Srt.one (key : Int → Int) (ds : List Int) {a b : Nat} (h : b ≤ a + 1) : Srt key ds ds a b := ⟨.refl _, fun _ _ => rfl, fun i h1 h2 => ⟨i, h1, h2, rfl⟩, fun p q h1 h2 h3 => by omega⟩
theorem Srt.len {key : Int → Int} {ds ds' : List Int} {a b : Nat} (h : Srt key ds ds' a b) : ds'.length = ds.length := h.perm.length_eq
/-- two cells changed for each other -/
def swp (zs : List Int) (i j : Nat) : List Int := (zs.set i (nth zs j)).set j (nth zs i)
theorem swp_len (zs : List Int) (i j : Nat) : (swp zs i j).length = zs.length := by simp [swp]
theorem set_nth (zs : List Int) (i j : Nat) (x : Int) (h : i < zs.length) : nth (zs.set i x) j = if i = j then x else nth zs j := by
  by_cases e : i = j
  · subst e; simp [nth, h]
  · simp [nth, e, List.getElem?_set_ne e]
theorem swp_nth {zs : List Int} {i j : Nat} (hi : i < zs.length) (hj : j < zs.length) (p : Nat) : nth (swp zs i j) p = if j = p then nth zs i else if i = p then nth zs j else nth zs p := by
  rw [swp, set_nth _ _ _ _ (by simpa using hj), set_nth _ _ _ _ hi]
theorem swp_perm {zs : List Int} {i j : Nat} (hi : i < zs.length) (hj : j < zs.length) : (swp zs i j).Perm zs := by
  have e1 : nth zs i = zs[i] := by simp [nth, hi]
  have e2 : nth zs j = zs[j] := by simp [nth, hj]
  rw [swp, e1, e2]
  exact List.set_set_perm hi hj
/-- the inner loop: the element that came from i stands at j -/
structure Ins (key : Int → Int) (ys zs : List Int) (a i j : Nat) : Prop where
  perm : zs.Perm ys
  out : ∀ p, p < a ∨ i < p → nth zs p = nth ys p
  src : ∀ p, a ≤ p → p ≤ i → ∃ q, a ≤ q ∧ q ≤ i ∧ nth zs p = nth ys q
  up : ∀ p q, a ≤ p → p < q → q ≤ i → p ≠ j → q ≠ j → lexB key (nth zs p) (nth zs q)
  gt : ∀ q, j < q → q ≤ i → lexB key (nth zs j) (nth zs q)
  big : ∀ p, a ≤ p → p ≤ i → p ≠ j → nth zs p < nth zs j
theorem Ins.start {key : Int → Int} {ds ys : List Int} {a i : Nat} (h : Srt key ds ys a i) (hb : ∀ p, a ≤ p → p < i → nth ys p < nth ys i) : Ins key ys ys a i i :=
  ⟨.refl _, fun _ _ => rfl, fun p h1 h2 => ⟨p, h1, h2, rfl⟩, fun p q h1 h2 h3 h4 h5 => h.up p q h1 h2 (by omega), fun q h1 h2 => by omega, fun p h1 h2 h3 => hb p h1 (by omega)⟩
theorem Ins.step {key : Int → Int} {ys zs : List Int} {a i j : Nat} (h : Ins key ys zs a i j) (ha : a < j) (hj : j ≤ i) (hi : i < zs.length) (hk : key (nth zs j) < key (nth zs (j - 1))) : Ins key ys (swp zs j (j - 1)) a i (j - 1) := by
  have at_ := fun p => swp_nth (zs := zs) (i := j) (j := j - 1) (by omega) (by omega) p
  refine ⟨(swp_perm (by omega) (by omega)).trans h.perm, fun p hp => ?_, fun p h1 h2 => ?_, fun p q h1 h2 h3 h4 h5 => ?_, fun q h1 h2 => ?_, fun p h1 h2 h3 => ?_⟩
  · rw [at_, if_neg (by omega), if_neg (by omega)]; exact h.out p hp
  · rw [at_]
    split
    · exact h.src j (by omega) hj
    · split
      · exact h.src (j - 1) (by omega) (by omega)
      · exact h.src p h1 h2
  · have ep : nth (swp zs j (j - 1)) p = if j = p then nth zs (j - 1) else nth zs p := by rw [at_ p, if_neg (by omega)]
    have eq_ : nth (swp zs j (j - 1)) q = if j = q then nth zs (j - 1) else nth zs q := by rw [at_ q, if_neg (by omega)]
    rw [ep, eq_]
    by_cases e1 : j = p
    · rw [if_pos e1, if_neg (by omega)]
      exact h.up (j - 1) q (by omega) (by omega) h3 (by omega) (by omega)
    · rw [if_neg e1]
      by_cases e2 : j = q
      · rw [if_pos e2]
        exact h.up p (j - 1) h1 (by omega) (by omega) (by omega) (by omega)
      · rw [if_neg e2]
        exact h.up p q h1 h2 h3 (by omega) (by omega)
  · have e0 : nth (swp zs j (j - 1)) (j - 1) = nth zs j := by rw [at_ (j - 1), if_pos rfl]
    have eq_ : nth (swp zs j (j - 1)) q = if j = q then nth zs (j - 1) else nth zs q := by rw [at_ q, if_neg (by omega)]
    rw [e0, eq_]
    by_cases e : j = q
    · rw [if_pos e]; exact .inl hk
    · rw [if_neg e]; exact h.gt q (by omega) h2
  · have e0 : nth (swp zs j (j - 1)) (j - 1) = nth zs j := by rw [at_ (j - 1), if_pos rfl]
    have ep : nth (swp zs j (j - 1)) p = if j = p then nth zs (j - 1) else nth zs p := by rw [at_ p, if_neg (by omega)]
    rw [e0, ep]
    by_cases e : j = p
    · rw [if_pos e]; exact h.big (j - 1) (by omega) (by omega) (by omega)
    · rw [if_neg e]; exact h.big p h1 h2 (by omega)
theorem Ins.stop {key : Int → Int} {ys zs : List Int} {a i j : Nat} (h : Ins key ys zs a i j) (ha : a ≤ j) (hj : j ≤ i) (hk : j = a ∨ ¬ key (nth zs j) < key (nth zs (j - 1))) : Srt key ys zs a (i + 1) := by
  have lt : ∀ p, a ≤ p → p < j → lexB key (nth zs p) (nth zs j) := fun p h1 h2 => by
    rcases hk with e | e
    · omega
    · have hb := h.big (j - 1) (by omega) (by omega) (by omega)
      have h3 : lexB key (nth zs (j - 1)) (nth zs j) := by unfold lexB; omega
      by_cases e2 : p = j - 1
      · subst e2; exact h3
      · exact (h.up p (j - 1) h1 (by omega) (by omega) (by omega) (by omega)).trans h3
  refine ⟨h.perm, fun p hp => h.out p (by omega), fun p h1 h2 => ?_, fun p q h1 h2 h3 => ?_⟩
  · obtain ⟨q, h4, h5, h6⟩ := h.src p h1 (by omega)
    exact ⟨q, h4, by omega, h6⟩
  · by_cases e1 : p = j
    · subst e1; exact h.gt q h2 (by omega)
    · by_cases e2 : q = j
      · subst e2; exact lt p h1 h2
      · exact h.up p q h1 h2 (by omega) e1 e2
/-- one round more -/
theorem Srt.more {key : Int → Int} {ds ys zs : List Int} {a i : Nat} (h : Srt key ds ys a i) (k : Srt key ys zs a (i + 1)) : Srt key ds zs a (i + 1) := by
  refine ⟨k.perm.trans h.perm, fun p hp => by rw [k.out p hp, h.out p (by omega)], fun p h1 h2 => ?_, k.up⟩
  obtain ⟨q, h3, h4, h5⟩ := k.src p h1 h2
  by_cases e : q < i
  · obtain ⟨r, h6, h7, h8⟩ := h.src q h3 e
    exact ⟨r, h6, by omega, by rw [h5, h8]⟩
  · exact ⟨q, h3, h4, by rw [h5, h.out q (by omega)]⟩
theorem Srt.big {key : Int → Int} {ds ys : List Int} {a i b : Nat} (h : Srt key ds ys a i) (hi : i < b) (hup : ∀ p q, a ≤ p → p < q → q < b → nth ds p < nth ds q) : ∀ p, a ≤ p → p < i → nth ys p < nth ys i := fun p h1 h2 => by
  obtain ⟨q, h3, h4, h5⟩ := h.src p h1 h2
  rw [h5, h.out i (by omega)]
  exact hup q i h3 h4 hi
end Go.Proofs.Ytbenbjbfmcdedaa
