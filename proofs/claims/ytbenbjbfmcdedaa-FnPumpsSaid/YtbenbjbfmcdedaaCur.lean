/-
  Words on the cursor of the draws, and the contracts of the small functions that draw: once in m, one of a list; and of 'has', which the laws use. Conditions: none.
-/
import Derived.Test.YtbenbjbfmcdedaaDraw3
import Derived.Test.YtbenbjbfmcdedaaInts
namespace Go.Proofs.Ytbenbjbfmcdedaa
open Go.RowKit

theorem cur_block' (B n c : Nat) : (Value.slice (some ⟨B, 0, none⟩) n c).ownBlock = some B := rfl
theorem Cur.ext {W w w' : World} {B : Nat} {A : Option Addr} {n c : Nat} (h : Cur W w B A n c) (x : Ext w w') : Cur W w' B A n c := by
  obtain ⟨i, hh, hi, ho, hx⟩ := h
  exact ⟨i, hh, hi, ho.ext x, hx.trans x⟩
theorem Cur.lt {W w : World} {B : Nat} {A : Option Addr} {n c : Nat} (h : Cur W w B A n c) : W.heap.size ≤ B ∧ B < w.heap.size := by
  obtain ⟨i, hh, hi, ho, hx⟩ := h
  exact Own.lt ho B rfl
theorem Cur.kept {W w w' : World} {B g : Nat} {A : Option Addr} {n c : Nat} (h : Cur W w B A n c) (hg : w.grownBy w' (some g)) (hne : B ≠ g) (hb : W.heap.size ≤ g) : Cur W w' B A n c := by
  obtain ⟨i, hh, hi, ho, hx⟩ := h
  refine ⟨i, hh, hi, ho.kept hg (.inr (by rw [cur_block']; simp [hne])), hx.grown hg (by simp; exact hb)⟩
theorem Cur.wider {V W w : World} {B : Nat} {A : Option Addr} {n c : Nat} (h : Cur W w B A n c) (x : Ext V W) : Cur V w B A n c := by
  obtain ⟨i, hh, hi, ho, hx⟩ := h
  exact ⟨i, hh, hi, ho.mono x.len, x.trans hx⟩
theorem Cur.set {W w : World} {B g j : Nat} {u : Value} {A : Option Addr} {n c : Nat} (h : Cur W w B A n c) (hne : B ≠ g) (hb : W.heap.size ≤ g) : Cur W (w.setCell ⟨g, j, none⟩ u) B A n c :=
  h.kept (grownBy_set (World.grownBy.refl _ _)) hne hb
theorem Cur.base {W w : World} {B : Nat} {A : Option Addr} {n c : Nat} (h : Cur W w B A n c) : Ext W w := by
  obtain ⟨i, hh, hi, ho, hx⟩ := h
  exact hx
theorem grownBy_new {a w : World} {row : Option Nat} {p : Addr} (h : a.grownBy w row) (hp : a.heap.size ≤ p.block) (u : Value) : a.grownBy (w.setCell p u) row :=
  ⟨h.os, h.tape, h.output, by simpa [World.setCell] using h.size, fun i hi hne => (Below.heap_setCell w p u i (fun e => by omega)).trans (h.block i hi hne)⟩
end Go.Proofs.Ytbenbjbfmcdedaa
