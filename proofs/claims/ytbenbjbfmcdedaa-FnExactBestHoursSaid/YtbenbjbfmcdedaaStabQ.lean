/-
  Plain law: the places of a list, sorted by value and place, are 'ord'; the first q of them in ascending order are the cheapest. No program in sight. Conditions: none.
-/
import Derived.Test.YtbenbjbfmcdedaaStab
import Derived.Test.YtbenbjbfmcdedaaPumpC
namespace Go.Proofs.Ytbenbjbfmcdedaa
open Go.RowKit

theorem order_unique {α : Type} {R : α → α → Prop} (hR : ∀ x y, R x y → R y x → x = y) : ∀ {a b : List α}, a.Pairwise R → b.Pairwise R → a.Perm b → a = b := by
  intro a
  induction a with
  | nil => intro b _ _ h; exact h.nil_eq
  | cons x a ih =>
    intro b ha hb h
    cases b with
    | nil => exact absurd h.symm.nil_eq (by simp)
    | cons y b =>
      have hx : ∀ z ∈ a, R x z := fun z hz => List.rel_of_pairwise_cons ha hz
      have hy : ∀ z ∈ b, R y z := fun z hz => List.rel_of_pairwise_cons hb hz
      have e : x = y := by
        have h1 : x ∈ y :: b := h.subset (by simp)
        have h2 : y ∈ x :: a := h.symm.subset (by simp)
        rcases List.mem_cons.1 h1 with h1 | h1
        · exact h1
        · rcases List.mem_cons.1 h2 with h2 | h2
          · exact h2.symm
          · exact hR _ _ (hx _ h2) (hy _ h1)
      subst e
      rw [ih (List.Pairwise.of_cons ha) (List.Pairwise.of_cons hb) (List.Perm.cons_inv h)]
/-- the key of a place -/
def keyOf (zs : List Int) (x : Int) : Int := nth zs x.toNat
theorem placesI_perm {a b : List Nat} (h : a.Perm b) : (placesI a).Perm (placesI b) := h.map _
theorem range_nth (n i : Nat) (h : i < n) : nth (placesI (List.range n)) i = (i : Int) := by
  rw [placesI_nth (by simpa using h)]; simp
theorem stable_law {zs ds' : List Int} (h : Srt (keyOf zs) (placesI (List.range zs.length)) ds' 0 zs.length) : ds' = placesI (ord zs) := by
  have hl : ds'.length = zs.length := by have := h.len; simp [placesI_len] at this; exact this
  refine order_unique (R := lexB (keyOf zs)) (fun x y h1 h2 => by unfold lexB at *; omega) ?_ ?_ ?_
  · refine List.pairwise_iff_getElem.2 fun i j hi hj hij => ?_
    have := h.up i j (Nat.zero_le _) hij (by omega)
    simpa [nth, hi, hj] using this
  · refine List.pairwise_iff_getElem.2 fun i j hi hj hij => ?_
    simp only [placesI_len] at hi hj
    have h1 := List.pairwise_iff_getElem.1 (ord_pair zs) i j hi hj hij
    have h2 : (ord zs)[i] ≠ (ord zs)[j] := (List.pairwise_iff_getElem.1 (ord_nodup zs)) i j hi hj hij
    rw [ahd_iff] at h1
    simp only [placesI, List.getElem_map, lexB, keyOf, Int.toNat_natCast]
    omega
  · exact h.perm.trans (placesI_perm (ord_perm zs).symm)
theorem take_sorted (zs : List Int) (q : Nat) : sortI ((placesI (ord zs)).take q) = placesI (cheapL zs q) := by
  symm
  refine sortI_eq ?_ ?_
  · refine List.pairwise_map.2 ((cheapL_pair zs q).imp fun h => by omega)
  · have := (cheapL_perm zs q).map (fun (k : Nat) => (k : Int))
    rw [List.map_take] at this
    exact this
end Go.Proofs.Ytbenbjbfmcdedaa
