/-
  The draw of a mix.
-/
import Derived.Test.YtiaghlphgbonbaaDraw3
namespace Go.Proofs.Ytiaghlphgbonbaa
open Go.RowKit

theorem cur_block' (B n c : Nat) : (Value.slice (some ⟨B, 0, none⟩) n c).ownBlock = some B := rfl
theorem Cur.ext {W w w' : World} {B : Nat} {A : Option Addr} {n c : Nat} (h : Cur W w B A n c) (x : Ext w w') : Cur W w' B A n c := by
  obtain ⟨i, hh, hi, ho, hx⟩ := h
  exact ⟨i, hh, hi, ho.ext x, hx.trans x⟩
theorem Cur.lt {W w : World} {B : Nat} {A : Option Addr} {n c : Nat} (h : Cur W w B A n c) : W.heap.size ≤ B ∧ B < w.heap.size := by
  obtain ⟨i, hh, hi, ho, hx⟩ := h
  exact Own.lt ho B rfl
theorem Cur.kept {W w w' : World} {B g : Nat} {A : Option Addr} {n c : Nat} (h : Cur W w B A n c) (hg : w.grownBy w' (some g)) (hne : B ≠ g) (hb : W.heap.size ≤ g) : Cur W w' B A n c := by
  obtain ⟨i, hh, hi, ho, hx⟩ := h
  refine ⟨i, hh, hi, ho.kept hg (.inr (by rw [cur_block']; simp [hne])), hx.grown hg (by simp; exact hb)⟩
theorem Cur.wider {V W w : World} {B : Nat} {A : Option Addr} {n c : Nat} (h : Cur W w B A n c) (x : Ext V W) : Cur V w B A n c := by
  obtain ⟨i, hh, hi, ho, hx⟩ := h
  exact ⟨i, hh, hi, ho.mono x.len, x.trans hx⟩
theorem Cur.set {W w : World} {B g j : Nat} {u : Value} {A : Option Addr} {n c : Nat} (h : Cur W w B A n c) (hne : B ≠ g) (hb : W.heap.size ≤ g) : Cur W (w.setCell ⟨g, j, none⟩ u) B A n c :=
  h.kept (grownBy_set (World.grownBy.refl _ _)) hne hb
theorem Cur.base {W w : World} {B : Nat} {A : Option Addr} {n c : Nat} (h : Cur W w B A n c) : Ext W w := by
  obtain ⟨i, hh, hi, ho, hx⟩ := h
  exact hx
theorem grownBy_new {a w : World} {row : Option Nat} {p : Addr} (h : a.grownBy w row) (hp : a.heap.size ≤ p.block) (u : Value) : a.grownBy (w.setCell p u) row :=
  ⟨h.os, h.tape, h.output, by simpa [World.setCell] using h.size, fun i hi hne => (Below.heap_setCell w p u i (fun e => by omega)).trans (h.block i hi hne)⟩
theorem l19Mix_c (W : World) (B : Nat) (A : Option Addr) (n c : Nat) (w : World) (hC : Code8 W A n c) (hc : Cur W w B A n c) :
    Calls Try.prog 34 #[.pointer (some ⟨B, 0, none⟩)] w fun e w' => ∃ a b : Int, e = .returned (.agg #[.int .i64 a, .int .i64 b]) ∧ 1 ≤ a ∧ a ≤ 100 ∧ 0 ≤ b ∧ b ≤ 1743 ∧ Cur W w' B A n c ∧ w.grownBy w' (some B) := by
  have hl := hc.lt
  go_enter Try.func34, Try.ntmps34
  go_wp2_with fail
  refine (below_c W B A n c 100 _ hC (hc.ext (by (repeat (first | exact Ext.refl _ | assumption | refine Ext.alloc ?_ _ | refine Ext.drew ?_ | refine Ext.drewN ?_ _ | refine Ext.setCell ?_ (by (try simp only [World.size_alloc, World.size_setCell, World.size_drew, World.heap_drewN]); omega) _ | refine Ext.step (by assumption) ?_)))) (by omega)).mono ?_; rintro e w1 ⟨x, rfl, ⟨x1, x2⟩, hc1, g1⟩
  go_wp2_with fail
  refine (below_c W B A n c 250 _ hC hc1 (by omega)).mono ?_; rintro e w2 ⟨y, rfl, ⟨y1, y2⟩, hc2, g2⟩
  have hb0 := Own.lit (w := w.alloc (.cells #[.int .i64 0, .int .i64 0] 25)) (base := w.heap.size) (e := 25) (k := 2) (n := 1) (cs := #[.int .i64 0, .int .i64 0]) (heap_alloc_new _ _) (by unfold maxLen; omega) (by simp)
  have nb : w.heap.size ≠ B := by omega
  have nb' : B ≠ w.heap.size := by omega
  have o2 := (hb0.kept g1 (.inr (by rw [cur_block']; simp [nb]))).kept g2 (.inr (by rw [cur_block']; simp [nb]))
  have u0 : w2.cell? ⟨w.heap.size, 0, none⟩ = some (.int .i64 0) := World.ownsRow.cellAt o2 0 (by omega)
  have u1 : w2.cell? ⟨w.heap.size, 1, none⟩ = some (.int .i64 0) := World.ownsRow.cellAt o2 1 (by omega)
  have f0 := World.ownsRow.frozenAt o2 0
  have f1 := World.ownsRow.frozenAt o2 1
  have gg : w.grownBy w2 (some B) := (((show Ext w (w.alloc (.cells #[.int .i64 0, .int .i64 0] 25)) from by (repeat (first | exact Ext.refl _ | assumption | refine Ext.alloc ?_ _ | refine Ext.drew ?_ | refine Ext.drewN ?_ _ | refine Ext.setCell ?_ (by (try simp only [World.size_alloc, World.size_setCell, World.size_drew, World.heap_drewN]); omega) _ | refine Ext.step (by assumption) ?_))).grownBy (some B)).trans g1).trans g2
  have hW := hl.1
  go_wp2
  refine bodyPost_ret (v := .agg #[.int .i64 (1 + x), .int .i64 (7 * y)]) (by simp [results, Try.results34, go_sem, *]) rfl ?_
  refine ⟨1 + x, 7 * y, rfl, by omega, by omega, by omega, by omega, ?_, grownBy_new (grownBy_new gg (Nat.le_refl _) _) (Nat.le_refl _) _⟩
  exact (hc2.kept (grownBy_set (g := w.heap.size) (World.grownBy.refl _ _)) nb' (by omega)).kept (grownBy_set (World.grownBy.refl _ _)) nb' (by omega)
end Go.Proofs.Ytiaghlphgbonbaa
