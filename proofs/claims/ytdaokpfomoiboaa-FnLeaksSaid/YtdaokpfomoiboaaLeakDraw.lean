/-
  The draw of a tank.
-/
import Derived.Test.YtdaokpfomoiboaaCur
import Derived.Test.YtdaokpfomoiboaaLeakQ
namespace Go.Proofs.Ytdaokpfomoiboaa
open Go.RowKit

/-- what the draw of a tank leaves -/
def TankV (e : Ending) : Prop := ∃ r l h t : Int, e = .returned (tankV r l h t) ∧ Tnk r l h t
set_option maxHeartbeats 1600000 in
theorem l17Tank_c (W : World) (B : Nat) (A : Option Addr) (n c : Nat) (w : World) (hC : Code8 W A n c) (hc : Cur W w B A n c) :
    Calls Try.prog 34 #[.pointer (some ⟨B, 0, none⟩)] w fun e w' => TankV e ∧ Ext W w' := by
  have hl := hc.lt
  have ho := Own.lit (w := w.alloc (tankO 0 0 0 0 25)) (base := w.heap.size) (e := 25) (k := 4) (n := 1) (cs := #[.int .i64 0, .int .i64 0, .int .i64 0, .int .i64 0]) (heap_alloc_new _ _) (by unfold maxLen; omega) (by simp)
  have H0 := Lib.hid ho
  clear ho
  go_enter Try.func34, Try.ntmps34
  go_wp2_with fail
  refine (below_c W B A n c 250 _ hC (hc.ext (by (repeat (first | exact Ext.refl _ | assumption | refine Ext.alloc ?_ _ | refine Ext.drew ?_ | refine Ext.drewN ?_ _ | refine Ext.setCell ?_ (by (try simp only [World.size_alloc, World.size_setCell, World.size_drew, World.heap_drewN]); omega) _ | refine Ext.step (by assumption) ?_)))) (by omega)).mono ?_; rintro e w1 ⟨x, rfl, ⟨x1, x2⟩, hc1, g1⟩
  have k1 := Lib.hid (H0.out.kept g1 (.inr (by rw [cur_block']; simp; omega)))
  go_wp2_with fail
  refine (below_c W B A n c (1 + x + 1) _ hC hc1 (by omega)).mono ?_; rintro e w2 ⟨y, rfl, ⟨y1, y2⟩, hc2, g2⟩
  have k2 := Lib.hid (k1.out.kept g2 (.inr (by rw [cur_block']; simp; omega)))
  go_wp2_with fail
  refine (below_c W B A n c (1 + x + 1) _ hC hc2 (by omega)).mono ?_; rintro e w3 ⟨z, rfl, ⟨z1, z2⟩, hc3, g3⟩
  have k3 := Lib.hid (k2.out.kept g3 (.inr (by rw [cur_block']; simp; omega)))
  have hz : z.tdiv 2 = z / 2 := Int.tdiv_eq_ediv_of_nonneg z1
  go_wp2_with fail
  refine (below_c W B A n c 30 _ hC hc3 (by omega)).mono ?_; rintro e w4 ⟨t, rfl, ⟨t1, t2⟩, hc4, g4⟩
  have k4 := k3.out.kept g4 (.inr (by rw [cur_block']; simp; omega))
  have u0 : w4.cell? ⟨w.heap.size, 0, none⟩ = some (.int .i64 0) := World.ownsRow.cellAt k4 0 (by omega)
  have u1 : w4.cell? ⟨w.heap.size, 1, none⟩ = some (.int .i64 0) := World.ownsRow.cellAt k4 1 (by omega)
  have u2 : w4.cell? ⟨w.heap.size, 2, none⟩ = some (.int .i64 0) := World.ownsRow.cellAt k4 2 (by omega)
  have u3 : w4.cell? ⟨w.heap.size, 3, none⟩ = some (.int .i64 0) := World.ownsRow.cellAt k4 3 (by omega)
  have f0 := World.ownsRow.frozenAt k4 0
  have f1 := World.ownsRow.frozenAt k4 1
  have f2 := World.ownsRow.frozenAt k4 2
  have f3 := World.ownsRow.frozenAt k4 3
  have hx4 := hc4.base
  have hW := hl.1
  have hWw : W.heap.size ≤ w.heap.size := hc.base.len
  clear k4 hc4 g4 hc3 hc2 hc1 hc
  go_wp2
  refine bodyPost_ret (v := tankV (1 + x) y (z / 2) t) (by simp [results, Try.results34, go_sem, *]) rfl ?_
  exact ⟨⟨_, _, _, _, rfl, by unfold Tnk; omega⟩, by (repeat (first | exact Ext.refl _ | assumption | refine Ext.alloc ?_ _ | refine Ext.drew ?_ | refine Ext.drewN ?_ _ | refine Ext.setCell ?_ (by (try simp only [World.size_alloc, World.size_setCell, World.size_drew, World.heap_drewN]); omega) _ | refine Ext.step (by assumption) ?_))⟩
theorem drawTank_c (A : Option Addr) (n c : Nat) (w : World) (hC : Code8 w A n c) : Calls Try.prog 26 #[.slice A n c] w fun e w' => TankV e ∧ Ext w w' := by
  go_enter Try.func26, Try.ntmps26
  go_wp2_with fail
  refine (new_c A n c _ (hC.ext (by (repeat (first | exact Ext.refl _ | assumption | refine Ext.alloc ?_ _ | refine Ext.drew ?_ | refine Ext.drewN ?_ _ | refine Ext.setCell ?_ (by (try simp only [World.size_alloc, World.size_setCell, World.size_drew, World.heap_drewN]); omega) _ | refine Ext.step (by assumption) ?_))))).mono ?_; rintro e w1 ⟨B, rfl, hc0⟩
  have ho1 := (Own.lit (w := w.alloc (tankO 0 0 0 0 25)) (base := w.heap.size) (e := 25) (k := 4) (n := 1) (cs := #[.int .i64 0, .int .i64 0, .int .i64 0, .int .i64 0]) (heap_alloc_new _ _) (by unfold maxLen; omega) (by simp))
  have H0 := Lib.hid ho1
  clear ho1
  go_wp2_with fail
  refine (l17Tank_c _ B A n c _ (hC.ext (by (repeat (first | exact Ext.refl _ | assumption | refine Ext.alloc ?_ _ | refine Ext.drew ?_ | refine Ext.drewN ?_ _ | refine Ext.setCell ?_ (by (try simp only [World.size_alloc, World.size_setCell, World.size_drew, World.heap_drewN]); omega) _ | refine Ext.step (by assumption) ?_)))) hc0).mono ?_; rintro e w2 ⟨⟨r, l, h, t, rfl, hT⟩, x2⟩
  have k4 := H0.out.ext x2
  have u0 : w2.cell? ⟨w.heap.size, 0, none⟩ = some (.int .i64 0) := World.ownsRow.cellAt k4 0 (by omega)
  have u1 : w2.cell? ⟨w.heap.size, 1, none⟩ = some (.int .i64 0) := World.ownsRow.cellAt k4 1 (by omega)
  have u2 : w2.cell? ⟨w.heap.size, 2, none⟩ = some (.int .i64 0) := World.ownsRow.cellAt k4 2 (by omega)
  have u3 : w2.cell? ⟨w.heap.size, 3, none⟩ = some (.int .i64 0) := World.ownsRow.cellAt k4 3 (by omega)
  have f0 := World.ownsRow.frozenAt k4 0
  have f1 := World.ownsRow.frozenAt k4 1
  have f2 := World.ownsRow.frozenAt k4 2
  have f3 := World.ownsRow.frozenAt k4 3
  have x3 : Ext w w2 := Ext.trans (by (repeat (first | exact Ext.refl _ | assumption | refine Ext.alloc ?_ _ | refine Ext.drew ?_ | refine Ext.drewN ?_ _ | refine Ext.setCell ?_ (by (try simp only [World.size_alloc, World.size_setCell, World.size_drew, World.heap_drewN]); omega) _ | refine Ext.step (by assumption) ?_))) x2
  clear k4 hc0 x2
  go_wp2
  refine bodyPost_ret (v := tankV r l h t) (by simp [results, Try.results26, go_sem, *]) rfl ?_
  exact ⟨⟨r, l, h, t, rfl, hT⟩, by (repeat (first | exact Ext.refl _ | assumption | refine Ext.alloc ?_ _ | refine Ext.drew ?_ | refine Ext.drewN ?_ _ | refine Ext.setCell ?_ (by (try simp only [World.size_alloc, World.size_setCell, World.size_drew, World.heap_drewN]); omega) _ | refine Ext.step (by assumption) ?_))⟩
end Go.Proofs.Ytdaokpfomoiboaa
