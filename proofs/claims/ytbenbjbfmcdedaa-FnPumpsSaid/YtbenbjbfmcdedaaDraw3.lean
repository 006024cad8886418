/-
  What the laws draw themselves: at (0 .. 255), big.
-/
import Derived.Test.YtbenbjbfmcdedaaDraw2
namespace Go.Proofs.Ytbenbjbfmcdedaa
open Go.RowKit

/-- The heap's size behind each of the walk's steps (handed to simp as one). -/
theorem sizes : (∀ (w : World) (o : Obj), (w.alloc o).heap.size = w.heap.size + 1) ∧ (∀ (w : World) (p : Addr) (u : Value), (w.setCell p u).heap.size = w.heap.size) ∧ (∀ w : World, w.drew.heap.size = w.heap.size) ∧ (∀ (w : World) (n : Nat), (w.drewN n).heap = w.heap) :=
  ⟨fun _ _ => by simp, fun _ _ _ => by simp, fun _ => by simp, fun _ _ => by simp [World.heap_drewN]⟩

theorem big_c (A : Option Addr) (n c : Nat) (w : World) : Calls Try.prog 31 #[.slice A n c] w fun e w' => e = .returned (.bool (decide (1048576 < (n : Int)))) ∧ w = w' := by
  go_enter Try.func31, Try.ntmps31
  go_wp2
  go_ret
  exact ⟨by simp, rfl⟩
theorem at_c (A : Option Addr) (n c : Nat) (k : Nat) (w : World) (hC : Code8 w A n c) (hk : k ≤ 1000) : Calls Try.prog 33 #[.slice A n c, .int .i64 k] w fun e w' => ∃ x : Int, e = .returned (.int .i64 x) ∧ 0 ≤ x ∧ x ≤ 255 ∧ w = w' := by
  have hm : n ≤ 9223372036854775807 := by obtain ⟨zs, h1, _⟩ := hC; have := h1.2.1; have := h1.2.2.1; unfold maxLen at this; omega
  by_cases h0 : n = 0
  · subst h0
    go_enter Try.func33, Try.ntmps33
    go_wp2
    go_ret
    exact ⟨0, rfl, by omega, by omega, rfl⟩
  · have hz : ((n : Int) == 0) = false := by simp; omega
    obtain ⟨b, off, rfl, hb, hcc⟩ := hC.at_ (by omega)
    have t0 : Int.tmod ((k : Int) * 5 + 1) (n : Int) = (((k * 5 + 1) % n : Nat) : Int) := by rw [Int.tmod_eq_emod_of_nonneg (by omega)]; simp
    have t1 : (k * 5 + 1) % n < n := Nat.mod_lt _ (by omega)
    obtain ⟨z, hz', z1, z2⟩ := hcc _ t1
    clear hcc
    generalize (k * 5 + 1) % n = r at *
    go_enter Try.func33, Try.ntmps33
    go_wp2
    go_ret
    exact ⟨z, rfl, z1, z2, rfl⟩
/-- .. and it is the same in every later world. -/
theorem at_any {A : Option Addr} {n c : Nat} {w : World} (hC : Code8 w A n c) (k : Nat) (hk : k ≤ 1000) : ∃ x : Int, (0 ≤ x ∧ x ≤ 255) ∧ ∀ w1, Ext w w1 → Calls Try.prog 33 #[.slice A n c, .int .i64 k] w1 fun e w' => e = .returned (.int .i64 x) ∧ w1 = w' := by
  have hm : n ≤ 9223372036854775807 := by obtain ⟨zs, h1, _⟩ := hC; have := h1.2.1; have := h1.2.2.1; unfold maxLen at this; omega
  by_cases h0 : n = 0
  · subst h0
    refine ⟨0, by omega, fun w1 _ => ?_⟩
    go_enter Try.func33, Try.ntmps33
    go_wp2
    go_ret
    exact ⟨rfl, rfl⟩
  · have hz : ((n : Int) == 0) = false := by simp; omega
    obtain ⟨b, off, rfl, hb, hcc⟩ := hC.at_ (by omega)
    have t0 : Int.tmod ((k : Int) * 5 + 1) (n : Int) = (((k * 5 + 1) % n : Nat) : Int) := by rw [Int.tmod_eq_emod_of_nonneg (by omega)]; simp
    have t1 : (k * 5 + 1) % n < n := Nat.mod_lt _ (by omega)
    obtain ⟨z, hz', z1, z2⟩ := hcc _ t1
    clear hcc
    generalize (k * 5 + 1) % n = r at *
    refine ⟨z, by omega, fun w1 hx => ?_⟩
    replace hz' := hx.got hz'
    go_enter Try.func33, Try.ntmps33
    go_wp2
    go_ret
    exact ⟨rfl, rfl⟩
end Go.Proofs.Ytbenbjbfmcdedaa
