/-
  DrawMixes of the reference: two mixes with water.
-/
import Derived.Test.YtiaghlphgbonbaaMixDraw
import Derived.Deep.RegionWith
namespace Go.Proofs.Ytiaghlphgbonbaa
open Go.RowKit

set_option maxHeartbeats 1600000 in
theorem drawMixes_c (A : Option Addr) (n c : Nat) (w : World) (hC : Code8 w A n c) :
    Calls Try.prog 28 #[.slice A n c] w fun e w' => ∃ a b x y : Int, e = .returned (.tuple #[.agg #[.int .i64 a, .int .i64 b], .agg #[.int .i64 x, .int .i64 y]]) ∧ (1 ≤ a ∧ a ≤ 100 ∧ 0 ≤ b ∧ b ≤ 1743) ∧ (1 ≤ x ∧ x ≤ 100 ∧ 0 ≤ y ∧ y ≤ 1743) ∧ Ext w w' := by
  go_enter Try.func28, Try.ntmps28
  go_wp2_with fail
  refine (new_c A n c _ (hC.ext (by (repeat (first | exact Ext.refl _ | assumption | refine Ext.alloc ?_ _ | refine Ext.drew ?_ | refine Ext.drewN ?_ _ | refine Ext.setCell ?_ (by (try simp only [World.size_alloc, World.size_setCell, World.size_drew, World.heap_drewN]); omega) _ | refine Ext.step (by assumption) ?_))))).mono ?_; rintro e w1 ⟨B, rfl, hc0⟩
  have hlt := hc0.lt
  simp only [World.size_alloc] at hlt
  have ho1 := (Own.lit (w := w.alloc (.cells #[.int .i64 0, .int .i64 0] 25)) (base := w.heap.size) (e := 25) (k := 2) (n := 1) (cs := #[.int .i64 0, .int .i64 0]) (heap_alloc_new _ _) (by unfold maxLen; omega) (by simp)).ext (w' := w1) (Ext.trans (by (repeat (first | exact Ext.refl _ | assumption | refine Ext.alloc ?_ _ | refine Ext.drew ?_ | refine Ext.drewN ?_ _ | refine Ext.setCell ?_ (by (try simp only [World.size_alloc, World.size_setCell, World.size_drew, World.heap_drewN]); omega) _ | refine Ext.step (by assumption) ?_))) hc0.base)
  have ho2 := (Own.lit (w := (w.alloc (.cells #[.int .i64 0, .int .i64 0] 25)).alloc (.cells #[.int .i64 0, .int .i64 0] 25)) (base := w.heap.size + 1) (e := 25) (k := 2) (n := 1) (cs := #[.int .i64 0, .int .i64 0]) (heap_last (by simp)) (by unfold maxLen; omega) (by simp)).ext (w' := w1) hc0.base
  have hc1 : Cur w w1 B A n c := hc0.wider (by (repeat (first | exact Ext.refl _ | assumption | refine Ext.alloc ?_ _ | refine Ext.drew ?_ | refine Ext.drewN ?_ _ | refine Ext.setCell ?_ (by (try simp only [World.size_alloc, World.size_setCell, World.size_drew, World.heap_drewN]); omega) _ | refine Ext.step (by assumption) ?_)))
  clear hc0
  go_wp2_with fail
  refine (l19Mix_c w B A n c _ hC hc1).mono ?_; rintro e w2 ⟨a, b, rfl, a1, a2, b1, b2, hc2, g2⟩
  have hb3 := hc2.lt
  have hb4 : B ≠ w2.heap.size := by omega
  have hb5 : B ≠ w.heap.size := by omega
  have hb6 : B ≠ w.heap.size + 1 := by omega
  replace ho1 := ho1.kept g2 (.inr (by rw [cur_block']; simp; omega))
  replace ho2 := ho2.kept g2 (.inr (by rw [cur_block']; simp; omega))
  have ho3 := Own.lit (w := w2.alloc (.cells #[.int .i64 a, .int .i64 b] 25)) (base := w2.heap.size) (e := 25) (k := 2) (n := 1) (cs := #[.int .i64 a, .int .i64 b]) (heap_alloc_new _ _) (by unfold maxLen; omega) (by simp)
  have HC := Lib.hid hc2
  have H1 := Lib.hid ho1
  have H2 := Lib.hid ho2
  have H3 := Lib.hid ho3
  clear hc2 ho1 ho2 ho3
  go_wp2
  go_region_with ((go_at_call 34; refine (l19Mix_c w B A n c _ hC (HC.out.ext (by (repeat (first | exact Ext.refl _ | assumption | refine Ext.alloc ?_ _ | refine Ext.drew ?_ | refine Ext.drewN ?_ _ | refine Ext.setCell ?_ (by (try simp only [World.size_alloc, World.size_setCell, World.size_drew, World.heap_drewN]); omega) _ | refine Ext.step (by assumption) ?_))))).mono ?_; rintro e w3 ⟨x, y, rfl, x1, x2, y1, y2, hc3, g3⟩; have k1 := ((H1.out.ext (w' := _) (by (repeat (first | exact Ext.refl _ | assumption | refine Ext.alloc ?_ _ | refine Ext.drew ?_ | refine Ext.drewN ?_ _ | refine Ext.setCell ?_ (by (try simp only [World.size_alloc, World.size_setCell, World.size_drew, World.heap_drewN]); omega) _ | refine Ext.step (by assumption) ?_)))).kept g3 (.inr (by rw [cur_block']; simp; omega))); have k2 := ((H2.out.ext (w' := _) (by (repeat (first | exact Ext.refl _ | assumption | refine Ext.alloc ?_ _ | refine Ext.drew ?_ | refine Ext.drewN ?_ _ | refine Ext.setCell ?_ (by (try simp only [World.size_alloc, World.size_setCell, World.size_drew, World.heap_drewN]); omega) _ | refine Ext.step (by assumption) ?_)))).kept g3 (.inr (by rw [cur_block']; simp; omega))); have k3 := ((H3.out.ext (w' := _) (by (repeat (first | exact Ext.refl _ | assumption | refine Ext.alloc ?_ _ | refine Ext.drew ?_ | refine Ext.drewN ?_ _ | refine Ext.setCell ?_ (by (try simp only [World.size_alloc, World.size_setCell, World.size_drew, World.heap_drewN]); omega) _ | refine Ext.step (by assumption) ?_)))).kept g3 (.inr (by rw [cur_block']; simp; omega))); have u0 : w3.cell? ⟨w.heap.size, 0, none⟩ = some (.int .i64 0) := World.ownsRow.cellAt k1 0 (by omega); have u1 : w3.cell? ⟨w.heap.size, 1, none⟩ = some (.int .i64 0) := World.ownsRow.cellAt k1 1 (by omega); have v0 : w3.cell? ⟨w.heap.size + 1, 0, none⟩ = some (.int .i64 0) := World.ownsRow.cellAt k2 0 (by omega); have v1 : w3.cell? ⟨w.heap.size + 1, 1, none⟩ = some (.int .i64 0) := World.ownsRow.cellAt k2 1 (by omega); have t0 : w3.cell? ⟨w2.heap.size, 0, none⟩ = some (.int .i64 a) := World.ownsRow.cellAt k3 0 (by omega); have t1 : w3.cell? ⟨w2.heap.size, 1, none⟩ = some (.int .i64 b) := World.ownsRow.cellAt k3 1 (by omega); have f0 := World.ownsRow.frozenAt k1 0; have f1 := World.ownsRow.frozenAt k1 1; have f2 := World.ownsRow.frozenAt k2 0; have f3 := World.ownsRow.frozenAt k2 1; have hx3 := hc3.base; clear hc3 k1 k2 k3 g3))
  all_goals (go_wp2; refine bodyPost_ret (v := .tuple #[.agg #[.int .i64 a, .int .i64 b], .agg #[.int .i64 x, .int .i64 y]]) (by simp [results, Try.results28, go_sem, *]) rfl ?_; exact ⟨a, b, x, y, rfl, by omega, by omega, by (repeat (first | exact Ext.refl _ | assumption | refine Ext.alloc ?_ _ | refine Ext.drew ?_ | refine Ext.drewN ?_ _ | refine Ext.setCell ?_ (by (try simp only [World.size_alloc, World.size_setCell, World.size_drew, World.heap_drewN]); omega) _ | refine Ext.step (by assumption) ?_))⟩)
end Go.Proofs.Ytiaghlphgbonbaa
