/-
  The draws of the reference: a number below n; one of n.
-/
import Derived.Test.YtbenbjbfmcdedaaDraw
namespace Go.Proofs.Ytbenbjbfmcdedaa
open Go.RowKit

/-- what a draw of a number leaves -/
def Drew (W w : World) (B : Nat) (A : Option Addr) (n c : Nat) (P : Int → Prop) (e : Ending) (w' : World) : Prop :=
  ∃ x : Int, e = .returned (.int .i64 x) ∧ P x ∧ Cur W w' B A n c ∧ w.grownBy w' (some B)
set_option maxHeartbeats 1600000 in
theorem below_c (W : World) (B : Nat) (A : Option Addr) (n c : Nat) (m : Int) (w : World) (hC : Code8 W A n c) (hc : Cur W w B A n c) (hm : 0 < m ∧ m ≤ 1000000000) :
    Calls Try.prog 55 #[.pointer (some ⟨B, 0, none⟩), .int .i64 m] w (Drew W w B A n c fun x => 0 ≤ x ∧ x < m) := by
  obtain ⟨hm1, hm2⟩ := hm
  by_cases h : m ≤ 256
  · go_enter Try.func55, Try.ntmps55
    go_wp2_with (go_at_call 69; refine (byte_c W B A n c _ hC hc).mono ?_; rintro e w1 ⟨x, rfl, x1, x2, hc1, g1⟩; have t0 : Int.tmod x m = x % m := Int.tmod_eq_emod_of_nonneg x1; have t1 := Int.emod_nonneg x (b := m) (by omega); have t2 := Int.emod_lt_of_pos x hm1)
    go_ret
    exact ⟨x % m, by simp [t0], ⟨t1, t2⟩, hc1, g1⟩
  · go_enter Try.func55, Try.ntmps55
    go_wp2_with fail
    refine (byte_c W B A n c _ hC hc).mono ?_; rintro e w1 ⟨x, rfl, x1, x2, hc1, g1⟩
    go_wp2_with fail
    refine (byte_c W B A n c _ hC hc1).mono ?_; rintro e w2 ⟨y, rfl, y1, y2, hc2, g2⟩
    go_wp2_with fail
    refine (byte_c W B A n c _ hC hc2).mono ?_; rintro e w3 ⟨z, rfl, z1, z2, hc3, g3⟩
    go_wp2_with fail
    refine (byte_c W B A n c _ hC hc3).mono ?_; rintro e w4 ⟨v, rfl, v1, v2, hc4, g4⟩
    have t0 : Int.tmod (x * 16777216 + y * 65536 + z * 256 + v) m = (x * 16777216 + y * 65536 + z * 256 + v) % m := Int.tmod_eq_emod_of_nonneg (by omega)
    have t1 := Int.emod_nonneg (x * 16777216 + y * 65536 + z * 256 + v) (b := m) (by omega)
    have t2 := Int.emod_lt_of_pos (x * 16777216 + y * 65536 + z * 256 + v) hm1
    go_wp2
    go_ret
    exact ⟨_, by simp [t0], ⟨t1, t2⟩, hc4, ((g1.trans g2).trans g3).trans g4⟩
set_option maxRecDepth 100000 in
set_option maxHeartbeats 1600000 in
theorem new_c (A : Option Addr) (n c : Nat) (w : World) (hC : Code8 w A n c) :
    Calls Try.prog 48 #[.slice A n c] w fun e w' => ∃ B, e = .returned (.pointer (some ⟨B, 0, none⟩)) ∧ Cur w w' B A n c := by
  have hm : n ≤ 9223372036854775807 := by obtain ⟨zs, h1, _⟩ := hC; have := h1.2.1; have := h1.2.2.1; unfold maxLen at this; omega
  go_enter Try.func48, Try.ntmps48
  go_wp2
  go_loop [3, 4] (fun v i => ∃ (k : Nat) (h : Int), k ≤ n ∧ i = .int .i64 k ∧ v = .int .i64 h) (fun _ i => n - (intOf i).toNat)
  case atStart => exact ⟨0, _, Nat.zero_le _, rfl, rfl⟩
  case round =>
    obtain ⟨k, h, hk, rfl, rfl⟩ := hrel
    by_cases hlt : k < n
    · obtain ⟨b, off, rfl, hb, hcc⟩ := hC.at_ (by omega)
      obtain ⟨z, hz, z1, z2⟩ := hcc k hlt
      clear hcc
      by_cases h4 : k < 4000
      · go_wp2
        go_round
        case rel => exact ⟨k + 1, _, by omega, by go_num, rfl⟩
        case measure => simp [intOf]; omega
      · go_wp2
        go_ret
        refine ⟨_, rfl, 0, h, Nat.zero_le _, ?_, by (repeat (first | exact Ext.refl _ | assumption | refine Ext.alloc ?_ _ | refine Ext.drew ?_ | refine Ext.drewN ?_ _ | refine Ext.setCell ?_ (by (try simp only [World.size_alloc, World.size_setCell, World.size_drew, World.heap_drewN]); omega) _ | refine Ext.step (by assumption) ?_))⟩; exact Own.lit (k := 3) (n := 1) (cs := #[.slice _ _ c, .int .i64 0, .int .i64 h]) (heap_alloc_new _ _) (by unfold maxLen; omega) (by simp)
    · obtain rfl : k = n := by omega
      go_wp2
      go_ret
      refine ⟨_, rfl, 0, h, Nat.zero_le _, ?_, by (repeat (first | exact Ext.refl _ | assumption | refine Ext.alloc ?_ _ | refine Ext.drew ?_ | refine Ext.drewN ?_ _ | refine Ext.setCell ?_ (by (try simp only [World.size_alloc, World.size_setCell, World.size_drew, World.heap_drewN]); omega) _ | refine Ext.step (by assumption) ?_))⟩; exact Own.lit (k := 3) (n := 1) (cs := #[.slice _ _ c, .int .i64 0, .int .i64 h]) (heap_alloc_new _ _) (by unfold maxLen; omega) (by simp)
end Go.Proofs.Ytbenbjbfmcdedaa
