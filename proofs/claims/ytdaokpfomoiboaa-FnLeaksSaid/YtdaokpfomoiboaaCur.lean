/-
  Words on the cursor of the draws, and the contracts of the small functions that draw: once in m, one of a list; and of 'has', which the laws use. Conditions: none.
-/
import Derived.Test.YtdaokpfomoiboaaDraw3
import Derived.Test.YtdaokpfomoiboaaInts
namespace Go.Proofs.Ytdaokpfomoiboaa
open Go.RowKit

theorem cur_block' (B n c : Nat) : (Value.slice (some ⟨B, 0, none⟩) n c).ownBlock = some B := rfl
theorem Cur.ext {W w w' : World} {B : Nat} {A : Option Addr} {n c : Nat} (h : Cur W w B A n c) (x : Ext w w') : Cur W w' B A n c := by
  obtain ⟨i, hh, hi, ho, hx⟩ := h
  exact ⟨i, hh, hi, ho.ext x, hx.trans x⟩
theorem Cur.lt {W w : World} {B : Nat} {A : Option Addr} {n c : Nat} (h : Cur W w B A n c) : W.heap.size ≤ B ∧ B < w.heap.size := by
  obtain ⟨i, hh, hi, ho, hx⟩ := h
  exact Own.lt ho B rfl
theorem Cur.kept {W w w' : World} {B g : Nat} {A : Option Addr} {n c : Nat} (h : Cur W w B A n c) (hg : w.grownBy w' (some g)) (hne : B ≠ g) (hb : W.heap.size ≤ g) : Cur W w' B A n c := by
  obtain ⟨i, hh, hi, ho, hx⟩ := h
  refine ⟨i, hh, hi, ho.kept hg (.inr (by rw [cur_block']; simp [hne])), hx.grown hg (by simp; exact hb)⟩
theorem Cur.wider {V W w : World} {B : Nat} {A : Option Addr} {n c : Nat} (h : Cur W w B A n c) (x : Ext V W) : Cur V w B A n c := by
  obtain ⟨i, hh, hi, ho, hx⟩ := h
  exact ⟨i, hh, hi, ho.mono x.len, x.trans hx⟩
theorem Cur.set {W w : World} {B g j : Nat} {u : Value} {A : Option Addr} {n c : Nat} (h : Cur W w B A n c) (hne : B ≠ g) (hb : W.heap.size ≤ g) : Cur W (w.setCell ⟨g, j, none⟩ u) B A n c :=
  h.kept (grownBy_set (World.grownBy.refl _ _)) hne hb
theorem Cur.base {W w : World} {B : Nat} {A : Option Addr} {n c : Nat} (h : Cur W w B A n c) : Ext W w := by
  obtain ⟨i, hh, hi, ho, hx⟩ := h
  exact hx
theorem grownBy_new {a w : World} {row : Option Nat} {p : Addr} (h : a.grownBy w row) (hp : a.heap.size ≤ p.block) (u : Value) : a.grownBy (w.setCell p u) row :=
  ⟨h.os, h.tape, h.output, by simpa [World.setCell] using h.size, fun i hi hne => (Below.heap_setCell w p u i (fun e => by omega)).trans (h.block i hi hne)⟩
theorem has_c (A : Option Addr) (n c : Nat) (zs : List Int) (x : Int) (w : World) (h : Holds w 1 A n c (ints zs)) (r : Bool) (hr : r = true ↔ x ∈ zs) :
    Calls Try.prog 28 #[.slice A n c, .int .i64 x] w fun e w' => e = .returned (.bool r) ∧ w = w' := by
  have hmx : n ≤ 9223372036854775807 := by have := h.2.1; have := h.2.2.1; unfold maxLen at this; omega
  have HL := Lib.hid h.intlen
  go_enter Try.func28, Try.ntmps28
  go_wp2
  go_loop [5] (fun i => ∃ k : Nat, k ≤ n ∧ i = .int .i64 k ∧ Hid (∀ j, j < k → nth zs j ≠ x)) (fun i => n - (intOf i).toNat)
  case atStart => exact ⟨0, Nat.zero_le _, rfl, fun j hj => by omega⟩
  case round =>
    obtain ⟨k, hk, rfl, hall⟩ := hrel
    by_cases hlt : k < n
    · obtain ⟨b, off, rfl, hb, hc⟩ := h.int (by omega)
      have hck := hc k hlt
      clear hc h
      cases t : (nth zs k == x)
      · go_wp2
        go_round
        case rel => exact ⟨k + 1, by omega, by go_num, fun j hj => by
          rcases Nat.lt_succ_iff_lt_or_eq.1 hj with hj | rfl
          · exact hall.out j hj
          · simpa using t⟩
        case measure => simp [intOf]; omega
      · have T := Lib.hid t
        go_wp2
        go_ret
        refine ⟨ret_bool ?_, rfl⟩
        symm
        rw [hr]
        have e : nth zs k = zs[k]'(by have := HL.out; omega) := by simp [nth, show k < zs.length by have := HL.out; omega]
        have := T.out
        rw [e] at this
        rw [← (beq_iff_eq.1 this)]
        exact List.getElem_mem _
    · obtain rfl : k = n := by omega
      go_wp2
      go_ret
      refine ⟨ret_bool ?_, rfl⟩
      symm
      rw [← Bool.not_eq_true, hr]
      intro hm
      obtain ⟨j, hj, e⟩ := List.getElem_of_mem hm
      exact hall.out j (by have := HL.out; omega) (by simp [nth, hj, e])
end Go.Proofs.Ytdaokpfomoiboaa
