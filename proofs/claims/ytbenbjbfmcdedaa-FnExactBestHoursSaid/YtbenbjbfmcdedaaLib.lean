/-
  Small words that all texts of this seat share: 'Ext' (the world has grown, what was there is as it was), 'Ans' (what a call answers), 'inB' (a number lies in a range). Conditions: none. No program in sight.
-/
import Derived.WalkKit
import Derived.WalkSpells
import Derived.WalkLawsBesides
import Derived.BigQuiet
import Derived.Lib.Hide
import Derived.Handy
import Derived.Lib.MinMax
import Derived.Deep.RegionHeld3
import Derived.Deep.DrawnRows
namespace Go.Proofs.Ytbenbjbfmcdedaa
open Go.RowKit

/-- The world w' is w with more behind it: all that was there is as it was. -/
def Ext (w w' : World) : Prop := Below w.heap.size w w'
theorem Ext.refl (w : World) : Ext w w := Below.refl _ _
theorem Ext.trans {a b c : World} (h : Ext a b) (k : Ext b c) : Ext a c := Below.trans h (Below.mono k h.size)
theorem Ext.step {a b c : World} (k : Ext b c) (h : Ext a b) : Ext a c := h.trans k
theorem Ext.alloc {a w : World} (h : Ext a w) (o : Obj) : Ext a (w.alloc o) := Below.alloc h h.size o
theorem Ext.drew {a w : World} (h : Ext a w) : Ext a w.drew := Below.drew h
theorem Ext.drewN {a w : World} (h : Ext a w) (n : Nat) : Ext a (w.drewN n) := ⟨h.os, h.tape, h.output, h.size, h.block⟩
theorem Ext.setCell {a w : World} (h : Ext a w) {p : Addr} (hp : a.heap.size ≤ p.block) (u : Value) : Ext a (w.setCell p u) := Below.setCell h hp u
theorem Ext.grown {a w w' : World} {row : Option Nat} (h : Ext a w) (hg : w.grownBy w' row) (hr : ∀ k, row = some k → a.heap.size ≤ k) : Ext a w' := Below.grown h hg h.size hr
theorem Ext.len {a b : World} (h : Ext a b) : a.heap.size ≤ b.heap.size := h.size
theorem Ext.cell {W w1 : World} (h : Ext W w1) (p : Addr) (hp : (W.cell? p).isSome = true) : w1.cell? p = W.cell? p := by
  obtain ⟨v, hv⟩ := Option.isSome_iff_exists.1 hp
  exact Below.cell h (World.block_lt_of_cell? W p hv)
theorem Ext.got {W w1 : World} (h : Ext W w1) {p : Addr} {v : Value} (hp : W.cell? p = some v) : w1.cell? p = some v := by
  rw [h.cell p (by rw [hp]; rfl), hp]
theorem Ext.froz {W w1 : World} (h : Ext W w1) (p : Addr) (hp : (W.cell? p).isSome = true) : w1.frozen? p = W.frozen? p := by
  obtain ⟨v, hv⟩ := Option.isSome_iff_exists.1 hp
  exact Below.frozen h (World.block_lt_of_cell? W p hv)
/-- One block that was there reads as it did; and its number is below the heap's size, in the forms that the walk asks for. -/
theorem Ext.blk {W w1 : World} (h : Ext W w1) (b : Nat) (hb : b < W.heap.size) :
    ((∀ j, w1.cell? ⟨b, j, none⟩ = W.cell? ⟨b, j, none⟩) ∧ (∀ j, w1.frozen? ⟨b, j, none⟩ = W.frozen? ⟨b, j, none⟩)) ∧
      b < w1.heap.size ∧ b ≤ w1.heap.size ∧ b ≤ w1.heap.size + 1 ∧ b ≤ w1.heap.size + 1 + 1 ∧ b ≤ w1.heap.size + 1 + 1 + 1 ∧ b ≠ w1.heap.size ∧ w1.heap.size ≠ b := by
  have hl := h.len
  exact ⟨⟨fun j => Below.cell h (p := ⟨b, j, none⟩) hb, fun j => Below.frozen h (p := ⟨b, j, none⟩) hb⟩, by omega, by omega, by omega, by omega, by omega, by omega, by omega⟩
/-- All blocks that were there read as they did. -/
theorem Ext.near {W w1 : World} (h : Ext W w1) : (∀ b j, b < W.heap.size → w1.cell? ⟨b, j, none⟩ = W.cell? ⟨b, j, none⟩) ∧ (∀ b j, b < W.heap.size → w1.frozen? ⟨b, j, none⟩ = W.frozen? ⟨b, j, none⟩) :=
  ⟨fun b j hb => Below.cell h (p := ⟨b, j, none⟩) hb, fun b j hb => Below.frozen h (p := ⟨b, j, none⟩) hb⟩
/-- What the walk wants behind a call that leaves 'Ext'. -/
theorem Ext.facts {W w1 : World} (h : Ext W w1) : (∀ p, (W.cell? p).isSome = true → w1.cell? p = W.cell? p) ∧ (∀ p, (W.cell? p).isSome = true → w1.frozen? p = W.frozen? p) :=
  ⟨h.cell, h.froz⟩

/-- A call answers v, and leaves what was there. -/
def Ans (v : Value) (w : World) (e : Ending) (w' : World) : Prop := e = .returned v ∧ Ext w w'

theorem ret_int {k : IntKind} {a b : Int} (h : a = b) : Ending.returned (.int k a) = .returned (.int k b) := by rw [h]
theorem ret_bool {a b : Bool} (h : a = b) : Ending.returned (.bool a) = .returned (.bool b) := by rw [h]

theorem bool_iff {a b : Bool} (h : a = true ↔ b = true) : a = b := Bool.eq_iff_iff.2 h

/-- The forms in which the walk leaves tests, turned into statements on numbers (handed to simp as one). -/
theorem boolForms : (∀ (p : Prop) [Decidable p], (decide p = true) = p) ∧ (∀ (p : Prop) [Decidable p], (decide p = false) = ¬ p) ∧ ((false = true) = False) ∧ ((true = false) = False) ∧
    (∀ a b : Bool, ((a || b) = true) = (a = true ∨ b = true)) ∧ (∀ a b : Bool, ((a && b) = true) = (a = true ∧ b = true)) ∧ (∀ b : Bool, ((!b) = true) = (b = false)) ∧ (∀ b : Bool, ((!b) = false) = (b = true)) ∧
    (∀ b : Bool, (¬ (b = true)) = (b = false)) ∧ (∀ a b : Bool, ((a || b) = false) = (a = false ∧ b = false)) ∧ (∀ a b : Int, ((a == b) = true) = (a = b)) ∧ (∀ a b : Int, ((a != b) = true) = (a ≠ b)) ∧
    (∀ a b : Int, ((a == b) = false) = (a ≠ b)) ∧ (∀ a b : Int, ((a != b) = false) = (a = b)) ∧ (∀ p : Prop, (True ↔ p) = p) ∧ (∀ p : Prop, (False ↔ p) = ¬ p) ∧ (∀ p : Prop, (p ↔ True) = p) ∧ (∀ p : Prop, (p ↔ False) = ¬ p) := by
  refine ⟨by simp, by simp, by simp, by simp, by simp, by simp, by simp, by simp, by simp, by simp, by simp, by simp, by simp, by simp, by simp, by simp, by simp, by simp⟩

/-- n lies from lo to hi. -/
def inB (n lo hi : Int) : Bool := decide (lo ≤ n ∧ n ≤ hi)
theorem inB_yes {n lo hi : Int} (h : inB n lo hi = true) : lo ≤ n ∧ n ≤ hi := by simpa [inB] using h
theorem inB_mk {n lo hi : Int} (h : lo ≤ n ∧ n ≤ hi) : inB n lo hi = true := by simpa [inB] using h
theorem inB_no {n lo hi : Int} (h : inB n lo hi = false) : n < lo ∨ hi < n := by simp [inB] at h; omega
theorem inB_mkno {n lo hi : Int} (h : n < lo ∨ hi < n) : inB n lo hi = false := by simp [inB]; omega
theorem inB_not {n lo hi : Int} (h : ¬ inB n lo hi = true) : n < lo ∨ hi < n := inB_no (by simpa using h)

/-- The worlds behind w in which what was there is as it was: the class for a region that draws its order, reads, and calls functions that leave 'Ext'. -/
structure After (w : World) where
  now : World
  ext : Ext w now
instance (w : World) : Nonempty (After w) := ⟨⟨w, Ext.refl w⟩⟩
/-- A region that draws its order, whose operations read what was there and whose calls leave 'Ext': one walk in the text's order. -/
theorem wp_region_after {P : Program} {id : Nat} {Q : Exit → Act → World → Prop} {a : Act} {w : World} {l : List Oper} (W : World) (hW : Ext W w) (hm : P.follows .mixedOrders = true) (hB : Region.lexB .any l.toArray = true)
    (h : wpQuiet P l.toArray (fun w' => ∃ y : After W, w' = y.now) (fun a' => ∀ w', (∃ y : After W, w' = y.now) → Q .normal a' w') l a) : (Code.region id l.toArray true).wp P Q a w :=
  wp_region_quiet (C := fun w' => ∃ y : After W, w' = y.now) hm hB ⟨⟨_, hW.drewN 1⟩, rfl⟩ (by simpa using h)
/-- A callee's contract, met inside such a region. -/
theorem after_call {P : Program} {f : FuncId} {args : Array Value} {w : World} {v : Value} {y : After w} (h : Calls P f args y.now (Ans v y.now)) :
    Calls P f args y.now fun e w' => e = .returned v ∧ ∃ z : After w, w' = z.now :=
  h.mono fun _ w' ⟨he, hx⟩ => ⟨he, ⟨w', y.ext.trans hx⟩, rfl⟩
theorem after_same {P : Program} {f : FuncId} {args : Array Value} {w : World} {v : Value} {y : After w} (h : Calls P f args y.now fun e w' => e = .returned v ∧ y.now = w') :
    Calls P f args y.now fun e w' => e = .returned v ∧ ∃ z : After w, w' = z.now :=
  h.mono fun _ _ ⟨he, hx⟩ => ⟨he, y, hx.symm⟩
/-- What such a region knows of a cell. -/
theorem After.got {w : World} {p : Addr} {v : Value} (h : w.cell? p = some v) (y : After w) : y.now.cell? p = some v := y.ext.got h

end Go.Proofs.Ytbenbjbfmcdedaa
