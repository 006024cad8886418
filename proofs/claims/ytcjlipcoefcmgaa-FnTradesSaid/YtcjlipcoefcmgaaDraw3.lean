/-
  What the laws draw themselves: at (0 .. 255), big.
-/
import Derived.Test.YtcjlipcoefcmgaaDraw2
namespace Go.Proofs.Ytcjlipcoefcmgaa
open Go.RowKit

/-- The heap's size behind each of the walk's steps (handed to simp as one). -/
theorem sizes : (∀ (w : World) (o : Obj), (w.alloc o).heap.size = w.heap.size + 1) ∧ (∀ (w : World) (p : Addr) (u : Value), (w.setCell p u).heap.size = w.heap.size) ∧ (∀ w : World, w.drew.heap.size = w.heap.size) ∧ (∀ (w : World) (n : Nat), (w.drewN n).heap = w.heap) :=
  ⟨fun _ _ => by simp, fun _ _ _ => by simp, fun _ => by simp, fun _ _ => by simp [World.heap_drewN]⟩

theorem big_c (A : Option Addr) (n c : Nat) (w : World) : Calls Try.prog 23 #[.slice A n c] w fun e w' => e = .returned (.bool (decide (1048576 < (n : Int)))) ∧ w = w' := by
  go_enter Try.func23, Try.ntmps23
  go_wp2
  go_ret
  exact ⟨by simp, rfl⟩
end Go.Proofs.Ytcjlipcoefcmgaa
