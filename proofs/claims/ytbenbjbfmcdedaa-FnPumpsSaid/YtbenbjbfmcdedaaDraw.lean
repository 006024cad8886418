/-
  The draws of the reference: the cursor over the bytes of a draw, its next byte, a number below n.
-/
import Derived.Test.YtbenbjbfmcdedaaProg
import Derived.Test.YtbenbjbfmcdedaaMore
import Derived.BigQuiet
import Derived.Deep.DeepCutAuto
namespace Go.Proofs.Ytbenbjbfmcdedaa
open Go.RowKit

/-- The slice A n c holds bytes. -/
def Code8 (w : World) (A : Option Addr) (n c : Nat) : Prop := ∃ zs : List Int, Holds w 1 A n c (zs.map (Value.int .u8)) ∧ ∀ z ∈ zs, 0 ≤ z ∧ z ≤ 255
theorem Code8.ext {w w' : World} {A : Option Addr} {n c : Nat} (h : Code8 w A n c) (x : Ext w w') : Code8 w' A n c := by
  obtain ⟨zs, h1, h2⟩ := h
  exact ⟨zs, h1.ext x, h2⟩
theorem Code8.at_ {w : World} {A : Option Addr} {n c : Nat} (h : Code8 w A n c) (hn : 0 < n) : ∃ b off, A = some ⟨b, off, none⟩ ∧ b < w.heap.size ∧ ∀ i, i < n → ∃ z : Int, w.cell? ⟨b, off + i, none⟩ = some (.int .u8 z) ∧ 0 ≤ z ∧ z ≤ 255 := by
  obtain ⟨zs, h1, h2⟩ := h
  have hl : zs.length = n := by have := h1.1; simp at this; omega
  obtain ⟨b, off, hA, hb, hc⟩ := h1.2.2.2 (by simp; omega)
  exact ⟨b, off, hA, hb, fun i hi => ⟨zs[i]'(by omega), hc i _ (by simp [hl, hi]), h2 _ (List.getElem_mem _)⟩⟩
/-- A cursor of the call's own, in block B; W is the world where the call began. -/
def Cur (W w : World) (B : Nat) (A : Option Addr) (n c : Nat) : Prop :=
  ∃ (i : Nat) (h : Int), i ≤ n ∧ Own w W.heap.size 72 3 (some ⟨B, 0, none⟩) 1 1 [.slice A n c, .int .i64 i, .int .i64 h] ∧ Ext W w
theorem and255 (v : Int) : 0 ≤ bits .and .i64 v 255 ∧ bits .and .i64 v 255 ≤ 255 := by
  have hx : (BitVec.ofInt 64 v).toNat &&& 255 ≤ 255 := Nat.and_le_right
  have h2 : (BitVec.ofInt 64 (255 : Int)).toNat = 255 := by decide
  have e : bits .and .i64 v 255 = (((BitVec.ofInt 64 v).toNat &&& 255 : Nat) : Int) := by
    show IntKind.i64.wrap ((BitVec.ofInt 64 v &&& BitVec.ofInt 64 255).toNat : Int) = _
    rw [BitVec.toNat_and, h2]
    rw [IntKind.wrap_i64]
    omega
  rw [e]
  omega
set_option maxHeartbeats 1600000 in
theorem byte_c (W : World) (B : Nat) (A : Option Addr) (n c : Nat) (w : World) (hC : Code8 W A n c) (hc : Cur W w B A n c) :
    Calls Try.prog 69 #[.pointer (some ⟨B, 0, none⟩)] w fun e w' => ∃ x : Int, e = .returned (.int .i64 x) ∧ 0 ≤ x ∧ x ≤ 255 ∧ Cur W w' B A n c ∧ w.grownBy w' (some B) := by
  obtain ⟨i, hh, hi, ho, hx⟩ := hc
  have q0 : w.cell? ⟨B, 0, none⟩ = some (.slice A n c) := World.ownsRow.cellAt ho 0 (by omega)
  have q1 : w.cell? ⟨B, 1, none⟩ = some (.int .i64 i) := World.ownsRow.cellAt ho 1 (by omega)
  have q2 : w.cell? ⟨B, 2, none⟩ = some (.int .i64 hh) := World.ownsRow.cellAt ho 2 (by omega)
  have f1 := World.ownsRow.frozenAt ho 1
  have f2 := World.ownsRow.frozenAt ho 2
  have hm : n ≤ 9223372036854775807 := by obtain ⟨zs, h1, _⟩ := hC; have := h1.2.1; have := h1.2.2.1; unfold maxLen at this; omega
  have HO := Lib.hid ho
  clear ho
  by_cases hlt : i < n
  · obtain ⟨b, off, rfl, hb, hcc⟩ := hC.at_ (by omega)
    obtain ⟨z, hz', z1, z2⟩ := hcc i hlt
    have hB : W.heap.size ≤ B := (Own.lt HO.out B rfl).1
    have n1 : B ≠ b := by omega
    have n2 : b ≠ B := by omega
    clear hcc
    go_enter Try.func69, Try.ntmps69
    go_upto_region 2 with fail
    have hs := (World.ownsRow.stored HO.out 2 (.int .i64 (wrap64 (wrap64 (hh * 6364136223846793005) + 1442695040888963407)))).1
    have xs := hx.setCell (p := ⟨B, 2, none⟩) hB (.int .i64 (wrap64 (wrap64 (hh * 6364136223846793005) + 1442695040888963407)))
    have gs : w.grownBy (w.setCell ⟨B, 2, none⟩ (.int .i64 (wrap64 (wrap64 (hh * 6364136223846793005) + 1442695040888963407)))) (some B) := grownBy_set (World.grownBy.refl _ _)
    clear q0 q1 q2 f1 f2
    generalize hg : w.setCell ⟨B, 2, none⟩ (.int .i64 (wrap64 (wrap64 (hh * 6364136223846793005) + 1442695040888963407))) = w1 at *
    clear hg
    generalize wrap64 (wrap64 (hh * 6364136223846793005) + 1442695040888963407) = h2 at *
    have hs' : Own w1 W.heap.size 72 3 (some ⟨B, 0, none⟩) 1 1 [.slice (some ⟨b, off, none⟩) n c, .int .i64 i, .int .i64 h2] := hs
    have q0 : w1.cell? ⟨B, 0, none⟩ = some (.slice (some ⟨b, off, none⟩) n c) := World.ownsRow.cellAt hs' 0 (by omega)
    have q1 : w1.cell? ⟨B, 1, none⟩ = some (.int .i64 i) := World.ownsRow.cellAt hs' 1 (by omega)
    have q2 : w1.cell? ⟨B, 2, none⟩ = some (.int .i64 h2) := World.ownsRow.cellAt hs' 2 (by omega)
    have f1 := World.ownsRow.frozenAt hs' 1
    have hz := xs.got hz'
    clear hs HO
    have ⟨x1, x2⟩ := and255 (bits BinOp.xor IntKind.i64 (h2 / 8589934592) (h2 / 35184372088832))
    have ⟨y1, y2⟩ := and255 (bits BinOp.and IntKind.i64 (bits BinOp.xor IntKind.i64 (h2 / 8589934592) (h2 / 35184372088832)) 255 + z)
    have HS := Lib.hid hs'
    clear hs'
    go_wp2
    go_quiet (fail)
    go_wp2
    go_quiet (fail)
    go_wp2
    go_quiet (fail)
    go_wp2
    go_ret
    refine ⟨_, rfl, y1, y2, ⟨i + 1, h2, by omega, ?_, ?_⟩, ?_⟩
    · have := (World.ownsRow.stored (HS.out.ext (w' := _) (by (repeat (first | exact Ext.refl _ | assumption | refine Ext.alloc ?_ _ | refine Ext.drew ?_ | refine Ext.drewN ?_ _ | refine Ext.setCell ?_ (by (try simp only [World.size_alloc, World.size_setCell, World.size_drew, World.heap_drewN]); omega) _ | refine Ext.step (by assumption) ?_)))) 1 (.int .i64 ((i : Int) + 1))).1
      exact this
    · exact Ext.setCell (xs.trans (by (repeat (first | exact Ext.refl _ | assumption | refine Ext.alloc ?_ _ | refine Ext.drew ?_ | refine Ext.drewN ?_ _ | refine Ext.setCell ?_ (by (try simp only [World.size_alloc, World.size_setCell, World.size_drew, World.heap_drewN]); omega) _ | refine Ext.step (by assumption) ?_)))) hB _
    · exact grownBy_set (gs.trans ((show Ext w1 _ from by (repeat (first | exact Ext.refl _ | assumption | refine Ext.alloc ?_ _ | refine Ext.drew ?_ | refine Ext.drewN ?_ _ | refine Ext.setCell ?_ (by (try simp only [World.size_alloc, World.size_setCell, World.size_drew, World.heap_drewN]); omega) _ | refine Ext.step (by assumption) ?_))).grownBy (some B)))
  · have hB : W.heap.size ≤ B := (Own.lt HO.out B rfl).1
    go_enter Try.func69, Try.ntmps69
    go_upto_region 2 with fail
    have hs := (World.ownsRow.stored HO.out 2 (.int .i64 (wrap64 (wrap64 (hh * 6364136223846793005) + 1442695040888963407)))).1
    have xs := hx.setCell (p := ⟨B, 2, none⟩) hB (.int .i64 (wrap64 (wrap64 (hh * 6364136223846793005) + 1442695040888963407)))
    have gs : w.grownBy (w.setCell ⟨B, 2, none⟩ (.int .i64 (wrap64 (wrap64 (hh * 6364136223846793005) + 1442695040888963407)))) (some B) := grownBy_set (World.grownBy.refl _ _)
    clear q0 q1 q2 f1 f2
    generalize hg : w.setCell ⟨B, 2, none⟩ (.int .i64 (wrap64 (wrap64 (hh * 6364136223846793005) + 1442695040888963407))) = w1 at *
    clear hg
    generalize wrap64 (wrap64 (hh * 6364136223846793005) + 1442695040888963407) = h2 at *
    have hs' : Own w1 W.heap.size 72 3 (some ⟨B, 0, none⟩) 1 1 [.slice A n c, .int .i64 i, .int .i64 h2] := hs
    have q0 : w1.cell? ⟨B, 0, none⟩ = some (.slice A n c) := World.ownsRow.cellAt hs' 0 (by omega)
    have q1 : w1.cell? ⟨B, 1, none⟩ = some (.int .i64 i) := World.ownsRow.cellAt hs' 1 (by omega)
    have q2 : w1.cell? ⟨B, 2, none⟩ = some (.int .i64 h2) := World.ownsRow.cellAt hs' 2 (by omega)
    clear hs HO
    have ⟨x1, x2⟩ := and255 (bits BinOp.xor IntKind.i64 (h2 / 8589934592) (h2 / 35184372088832))
    have HS := Lib.hid hs'
    clear hs'
    go_wp2
    go_quiet (fail)
    go_wp2
    go_quiet (fail)
    go_wp2
    go_ret
    exact ⟨_, rfl, x1, x2, ⟨i, h2, hi, HS.out.ext (by (repeat (first | exact Ext.refl _ | assumption | refine Ext.alloc ?_ _ | refine Ext.drew ?_ | refine Ext.drewN ?_ _ | refine Ext.setCell ?_ (by (try simp only [World.size_alloc, World.size_setCell, World.size_drew, World.heap_drewN]); omega) _ | refine Ext.step (by assumption) ?_))), xs.trans (by (repeat (first | exact Ext.refl _ | assumption | refine Ext.alloc ?_ _ | refine Ext.drew ?_ | refine Ext.drewN ?_ _ | refine Ext.setCell ?_ (by (try simp only [World.size_alloc, World.size_setCell, World.size_drew, World.heap_drewN]); omega) _ | refine Ext.step (by assumption) ?_)))⟩, gs.trans ((show Ext w1 _ from by (repeat (first | exact Ext.refl _ | assumption | refine Ext.alloc ?_ _ | refine Ext.drew ?_ | refine Ext.drewN ?_ _ | refine Ext.setCell ?_ (by (try simp only [World.size_alloc, World.size_setCell, World.size_drew, World.heap_drewN]); omega) _ | refine Ext.step (by assumption) ?_))).grownBy (some B))⟩
end Go.Proofs.Ytbenbjbfmcdedaa
