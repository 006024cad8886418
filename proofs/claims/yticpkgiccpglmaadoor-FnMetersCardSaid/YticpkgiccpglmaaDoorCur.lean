/-
  Words on the cursor of the draws, and the contracts of the small functions that draw: once in m, one of a list; and of 'has', which the laws use. Conditions: none.
-/
import Derived.Test.YticpkgiccpglmaaDoorDraw3
import Derived.Test.YticpkgiccpglmaaDoorInts
namespace Go.Proofs.YticpkgiccpglmaaDoor
open Go.RowKit

theorem cur_block' (B n c : Nat) : (Value.slice (some ⟨B, 0, none⟩) n c).ownBlock = some B := rfl
theorem Cur.ext {W w w' : World} {B : Nat} {A : Option Addr} {n c : Nat} (h : Cur W w B A n c) (x : Ext w w') : Cur W w' B A n c := by
  obtain ⟨i, hh, hi, ho, hx⟩ := h
  exact ⟨i, hh, hi, ho.ext x, hx.trans x⟩
theorem Cur.lt {W w : World} {B : Nat} {A : Option Addr} {n c : Nat} (h : Cur W w B A n c) : W.heap.size ≤ B ∧ B < w.heap.size := by
  obtain ⟨i, hh, hi, ho, hx⟩ := h
  exact Own.lt ho B rfl
theorem Cur.kept {W w w' : World} {B g : Nat} {A : Option Addr} {n c : Nat} (h : Cur W w B A n c) (hg : w.grownBy w' (some g)) (hne : B ≠ g) (hb : W.heap.size ≤ g) : Cur W w' B A n c := by
  obtain ⟨i, hh, hi, ho, hx⟩ := h
  refine ⟨i, hh, hi, ho.kept hg (.inr (by rw [cur_block']; simp [hne])), hx.grown hg (by simp; exact hb)⟩
theorem Cur.wider {V W w : World} {B : Nat} {A : Option Addr} {n c : Nat} (h : Cur W w B A n c) (x : Ext V W) : Cur V w B A n c := by
  obtain ⟨i, hh, hi, ho, hx⟩ := h
  exact ⟨i, hh, hi, ho.mono x.len, x.trans hx⟩
theorem Cur.set {W w : World} {B g j : Nat} {u : Value} {A : Option Addr} {n c : Nat} (h : Cur W w B A n c) (hne : B ≠ g) (hb : W.heap.size ≤ g) : Cur W (w.setCell ⟨g, j, none⟩ u) B A n c :=
  h.kept (grownBy_set (World.grownBy.refl _ _)) hne hb
theorem Cur.base {W w : World} {B : Nat} {A : Option Addr} {n c : Nat} (h : Cur W w B A n c) : Ext W w := by
  obtain ⟨i, hh, hi, ho, hx⟩ := h
  exact hx
theorem grownBy_new {a w : World} {row : Option Nat} {p : Addr} (h : a.grownBy w row) (hp : a.heap.size ≤ p.block) (u : Value) : a.grownBy (w.setCell p u) row :=
  ⟨h.os, h.tape, h.output, by simpa [World.setCell] using h.size, fun i hi hne => (Below.heap_setCell w p u i (fun e => by omega)).trans (h.block i hi hne)⟩
theorem once_c (W : World) (B : Nat) (A : Option Addr) (n c : Nat) (m : Int) (w : World) (hC : Code8 W A n c) (hc : Cur W w B A n c) (hm : 0 < m ∧ m ≤ 1000000000) :
    Calls Tryd.prog 31 #[.pointer (some ⟨B, 0, none⟩), .int .i64 m] w fun e w' => ∃ b : Bool, e = .returned (.bool b) ∧ Cur W w' B A n c ∧ w.grownBy w' (some B) := by
  go_enter Tryd.func31, Tryd.ntmps31
  go_wp2_with (go_at_call 30; refine (below_c W B A n c m _ hC hc hm).mono ?_; rintro e w1 ⟨x, rfl, ⟨x1, x2⟩, hc1, g1⟩)
  go_ret
  exact ⟨_, rfl, hc1, g1⟩
/-- One of a list; the list lies in a block of its own. -/
theorem pick_c (W : World) (B : Nat) (A : Option Addr) (n c : Nat) (w : World) (hC : Code8 W A n c) (hc : Cur W w B A n c) (base g m d : Nat) (zs : List Int) (ho : Own w base 3 1 (some ⟨g, 0, none⟩) m d (ints zs)) (hg : g ≠ B) (hm : 0 < m ∧ m ≤ 1000) :
    Calls Tryd.prog 29 #[.pointer (some ⟨B, 0, none⟩), .slice (some ⟨g, 0, none⟩) m d] w fun e w' => ∃ x : Int, e = .returned (.int .i64 x) ∧ x ∈ zs ∧ Cur W w' B A n c ∧ w.grownBy w' (some B) := by
  have hl : zs.length = m := by have := ho.len; rw [ints_len] at this; omega
  go_enter Tryd.func29, Tryd.ntmps29
  go_wp2_with fail
  refine (below_c W B A n c m _ hC hc (by omega)).mono ?_; rintro e w1 ⟨x, rfl, ⟨x1, x2⟩, hc1, g1⟩
  obtain ⟨k, rfl⟩ : ∃ k : Nat, x = (k : Int) := ⟨x.toNat, by omega⟩
  have k1 := ho.kept g1 (.inr (by rw [cur_block']; simp; exact hg))
  have hk : k < m := by omega
  have q := (World.ownsRow.cellAt k1 k (by omega)).trans (ints_get zs k (by omega))
  have hmem : nth zs k ∈ zs := by
    have e : nth zs k = zs[k]'(by omega) := by simp [nth, show k < zs.length by omega]
    rw [e]; exact List.getElem_mem _
  clear k1 ho hl
  go_wp2
  go_ret
  exact ⟨_, rfl, hmem, hc1, g1⟩
theorem has_c (A : Option Addr) (n c : Nat) (zs : List Int) (x : Int) (w : World) (h : Holds w 1 A n c (ints zs)) (r : Bool) (hr : r = true ↔ x ∈ zs) :
    Calls Tryd.prog 13 #[.slice A n c, .int .i64 x] w fun e w' => e = .returned (.bool r) ∧ w = w' := by
  have hmx : n ≤ 9223372036854775807 := by have := h.2.1; have := h.2.2.1; unfold maxLen at this; omega
  have HL := Lib.hid h.intlen
  go_enter Tryd.func13, Tryd.ntmps13
  go_wp2
  go_loop [5] (fun i => ∃ k : Nat, k ≤ n ∧ i = .int .i64 k ∧ Hid (∀ j, j < k → nth zs j ≠ x)) (fun i => n - (intOf i).toNat)
  case atStart => exact ⟨0, Nat.zero_le _, rfl, fun j hj => by omega⟩
  case round =>
    obtain ⟨k, hk, rfl, hall⟩ := hrel
    by_cases hlt : k < n
    · obtain ⟨b, off, rfl, hb, hc⟩ := h.int (by omega)
      have hck := hc k hlt
      clear hc h
      cases t : (nth zs k == x)
      · go_wp2
        go_round
        case rel => exact ⟨k + 1, by omega, by go_num, fun j hj => by
          rcases Nat.lt_succ_iff_lt_or_eq.1 hj with hj | rfl
          · exact hall.out j hj
          · simpa using t⟩
        case measure => simp [intOf]; omega
      · have T := Lib.hid t
        go_wp2
        go_ret
        refine ⟨ret_bool ?_, rfl⟩
        symm
        rw [hr]
        have e : nth zs k = zs[k]'(by have := HL.out; omega) := by simp [nth, show k < zs.length by have := HL.out; omega]
        have := T.out
        rw [e] at this
        rw [← (beq_iff_eq.1 this)]
        exact List.getElem_mem _
    · obtain rfl : k = n := by omega
      go_wp2
      go_ret
      refine ⟨ret_bool ?_, rfl⟩
      symm
      rw [← Bool.not_eq_true, hr]
      intro hm
      obtain ⟨j, hj, e⟩ := List.getElem_of_mem hm
      exact hall.out j (by have := HL.out; omega) (by simp [nth, hj, e])
end Go.Proofs.YticpkgiccpglmaaDoor
