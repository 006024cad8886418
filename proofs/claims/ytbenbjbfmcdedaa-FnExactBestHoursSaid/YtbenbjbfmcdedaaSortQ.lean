/-
  slices.Sort on a row of ints that the call owns: the row holds the sorted list. Conditions: none (sortAll_c). A sorted list with the same elements is that list.
-/
import Derived.Test.YtbenbjbfmcdedaaSortP
import Derived.Test.YtbenbjbfmcdedaaInts
import Derived.Test.YtbenbjbfmcdedaaMore
import Derived.Sort.OwnSortedInts
import Derived.Shelf.Slices.In.SortNone
namespace Go.Proofs.Ytbenbjbfmcdedaa
open Go.RowKit

def sortI (zs : List Int) : List Int := zs.mergeSort fun x y => decide (x ≤ y)
theorem sortI_len (zs : List Int) : (sortI zs).length = zs.length := by simp [sortI]
theorem sort_c (base : Nat) (A : Option Addr) (n c : Nat) (zs : List Int) (w : World) (h : Own w base 3 1 A n c (ints zs)) (hn : 0 < n) (hm : n < 1000000) :
    Calls Try.prog 41 #[.slice A n c] w fun e w' => e = .returned (.tuple #[]) ∧ Own w' base 3 1 A n c (ints (sortI zs)) ∧ w.grownBy w' (Value.slice A n c).ownBlock := by
  have hl : zs.length = n := by have := h.len; rw [ints_len] at this; omega
  subst hl
  rcases h.2 with ⟨_, h0⟩ | ⟨g, cap, cur, hv, hb, hg, h1, h2, h3, h4⟩
  · omega
  · injection hv with hv1 hv2 hv3
    subst hv1
    subst hv3
    have hlt : g < w.heap.size := (Array.getElem?_eq_some_iff.1 hg).1
    refine (Try.slices_Sort_int g 0 c zs w (Go.holds_of_blockI hg (by simpa [ints] using h4)) hlt (by omega)).mono ?_
    rintro e w' ⟨rfl, m, os, rfl⟩
    exact ⟨rfl, Go.ownsRow_sortedI (ts := sortI zs) (sortI_len zs) hb hg h1 h2 h3, Go.grownBy_sortedI _⟩
theorem sortI_pair (zs : List Int) : (sortI zs).Pairwise (fun x y => x ≤ y) := by
  have := List.pairwise_mergeSort (le := fun (x y : Int) => decide (x ≤ y)) (fun a b c h1 h2 => by simp at *; omega) (fun a b => by simp; omega) zs
  exact this.imp (fun h => by simpa using h)
theorem pair_unique : ∀ {a b : List Int}, a.Pairwise (fun x y => x ≤ y) → b.Pairwise (fun x y => x ≤ y) → a.Perm b → a = b := by
  intro a
  induction a with
  | nil => intro b _ _ h; exact h.nil_eq
  | cons x a ih =>
    intro b ha hb h
    cases b with
    | nil => exact absurd h.symm.nil_eq (by simp)
    | cons y b =>
      have hx : ∀ z ∈ a, x ≤ z := fun z hz => List.rel_of_pairwise_cons ha hz
      have hy : ∀ z ∈ b, y ≤ z := fun z hz => List.rel_of_pairwise_cons hb hz
      have e : x = y := by
        have h1 : x ∈ y :: b := h.subset (by simp)
        have h2 : y ∈ x :: a := h.symm.subset (by simp)
        rcases List.mem_cons.1 h1 with h1 | h1
        · exact h1
        · rcases List.mem_cons.1 h2 with h2 | h2
          · exact h2.symm
          · have := hx _ h2; have := hy _ h1; omega
      subst e
      rw [ih (List.Pairwise.of_cons ha) (List.Pairwise.of_cons hb) (List.Perm.cons_inv h)]
theorem sortI_eq {a zs : List Int} (ha : a.Pairwise (fun x y => x ≤ y)) (h : a.Perm zs) : a = sortI zs :=
  pair_unique ha (sortI_pair zs) (h.trans (List.mergeSort_perm zs _).symm)
theorem sort0_c (p : Option Addr) (c : Nat) (w : World) : Calls Try.prog 41 #[.slice p 0 c] w fun e w' => e = .returned (.tuple #[]) ∧ w' = w := Go.Proofs.Any.slices_Sort_int_none Try.lays189 p c w
theorem sortAll_c (base : Nat) (A : Option Addr) (n c : Nat) (zs : List Int) (w : World) (h : Own w base 3 1 A n c (ints zs)) (hm : n < 1000000) :
    Calls Try.prog 41 #[.slice A n c] w fun e w' => e = .returned (.tuple #[]) ∧ Own w' base 3 1 A n c (ints (sortI zs)) ∧ w.grownBy w' (Value.slice A n c).ownBlock := by
  rcases Nat.eq_zero_or_pos n with h0 | h0
  · subst h0
    have hz : zs = [] := List.eq_nil_of_length_eq_zero (by have := h.len; rw [ints_len] at this; omega)
    subst hz
    refine (sort0_c A c w).mono ?_
    rintro e w' ⟨rfl, rfl⟩
    exact ⟨rfl, by simpa [sortI] using h, World.grownBy.refl _ _⟩
  · exact sort_c base A n c zs w h h0 hm
end Go.Proofs.Ytbenbjbfmcdedaa
