/-
  The draw of gates.
-/
import Derived.Test.YtbbhchdpaocljaaCur
import Derived.Test.YtbbhchdpaocljaaGateP
namespace Go.Proofs.Ytbbhchdpaocljaa
open Go.RowKit

theorem Gate.snoc (es : List Gate) (e : Gate) : Gate.all es ++ #[.bool e.f0, .int .i64 e.f1].toList = Gate.all (es ++ [e]) := by simp [Gate.all, Gate.cells]
theorem Gate.at_snoc (es : List Gate) (e : Gate) (i : Nat) : Gate.at_ (es ++ [e]) i = if i < es.length then Gate.at_ es i else if i = es.length then e else default := by
  unfold Gate.at_
  by_cases h : i < es.length
  · rw [if_pos h]; simp [List.getElem?_append_left h]
  · rw [if_neg h]
    by_cases h2 : i = es.length
    · subst h2; simp
    · rw [if_neg h2]; simp [List.getElem?_eq_none (l := es ++ [e]) (i := i) (by simp; omega)]
/-- k drawn gates -/
def Gs (es : List Gate) (k : Nat) : Prop := es.length = k ∧ ∀ i, i < k → 0 ≤ (Gate.at_ es i).f1 ∧ (Gate.at_ es i).f1 ≤ 3
theorem Gs.snoc {es : List Gate} {k : Nat} (h : Gs es k) (b : Bool) (x : Int) (hx : 0 ≤ x ∧ x ≤ 3) : Gs (es ++ [⟨b, x⟩]) (k + 1) := by
  refine ⟨by simp [h.1], fun i hi => ?_⟩
  rw [Gate.at_snoc]
  split
  · exact h.2 i (by have := h.1; omega)
  · rw [if_pos (by have := h.1; omega)]; exact hx
/-- what the draw of gates leaves -/
def GatesV (base : Nat) (e : Ending) (w' : World) : Prop := ∃ (es : List Gate) (A' : Option Addr) (c' : Nat), e = .returned (.slice A' es.length c') ∧ DrawnG es ∧ Own w' base 38 2 A' es.length c' (Gate.all es)
set_option maxRecDepth 100000 in
set_option maxHeartbeats 3200000 in
theorem l22Gates_c (W : World) (B : Nat) (A : Option Addr) (n c : Nat) (w : World) (hC : Code8 W A n c) (hc : Cur W w B A n c) :
    Calls Try.prog 46 #[.pointer (some ⟨B, 0, none⟩)] w fun e w' => GatesV W.heap.size e w' ∧ Ext W w' := by
  have hl := hc.lt
  have hWw : W.heap.size ≤ w.heap.size := hc.base.len
  have H0 := Lib.hid ((Own.lit (w := w.alloc (.cells #[] 38)) (base := w.heap.size) (e := 38) (k := 2) (n := 0) (cs := #[]) (heap_alloc_new _ _) (by omega) rfl).mono hWw)
  go_enter Try.func46, Try.ntmps46
  go_wp2_with fail
  refine (below_c W B A n c 7 _ hC (hc.ext (by (repeat (first | exact Ext.refl _ | assumption | refine Ext.alloc ?_ _ | refine Ext.drew ?_ | refine Ext.drewN ?_ _ | refine Ext.setCell ?_ (by (try simp only [World.size_alloc, World.size_setCell, World.size_drew, World.heap_drewN]); omega) _ | refine Ext.step (by assumption) ?_)))) (by omega)).mono ?_; rintro e w1 ⟨x, rfl, ⟨x1, x2⟩, hc1, g1⟩
  obtain ⟨j, rfl⟩ : ∃ j : Nat, x = (j : Int) := ⟨x.toNat, by omega⟩
  have hm7 : 1 ≤ j + 1 ∧ j + 1 ≤ 7 := by omega
  have H1 := Lib.hid (H0.out.kept g1 (.inr (by rw [cur_block']; simp; omega)))
  have hap : Apart (some ⟨w.heap.size, 0, none⟩) 0 0 (some ⟨B, 0, none⟩) 1 1 := .inr (by rw [cur_block', cur_block']; simp; omega)
  clear hc H0 g1
  go_wp2_with fail
  go_loopw [3, 5] (fun s i wr => ∃ (k : Nat) (A' : Option Addr) (c' : Nat) (es : List Gate), k ≤ j + 1 ∧ i = .int .i64 k ∧ s = .slice A' k c' ∧ Gs es k ∧ Own wr W.heap.size 38 2 A' k c' (Gate.all es) ∧ Cur W wr B A n c ∧ Apart A' k c' (some ⟨B, 0, none⟩) 1 1) (fun _ i _ => j + 1 - (intOf i).toNat)
  case atStart => exact ⟨0, _, 0, [], Nat.zero_le _, rfl, rfl, ⟨rfl, fun i hi => by omega⟩, H1.out, hc1, hap⟩
  case round =>
    clear H1 hap hc1
    obtain ⟨k, A', c', es, hk, rfl, rfl, hG, ho, hcw, hap⟩ := hrel
    by_cases hlt : k < j + 1
    · have HG := Lib.hid hG
      have HO := Lib.hid ho
      have HP := Lib.hid hap
      have hlw := hcw.lt
      clear hG ho hap
      have dk : decide ((k : Int) < 1 + (j : Int)) = true := decide_eq_true (by omega)
      have dk' : decide (k < 1 + j) = true := decide_eq_true (by omega)
      go_wp2_with fail
      refine (once_c W B A n c 3 _ hC (hcw.ext (by (repeat (first | exact Ext.refl _ | assumption | refine Ext.alloc ?_ _ | refine Ext.drew ?_ | refine Ext.drewN ?_ _ | refine Ext.setCell ?_ (by (try simp only [World.size_alloc, World.size_setCell, World.size_drew, World.heap_drewN]); omega) _ | refine Ext.step (by assumption) ?_)))) (by omega)).mono ?_; rintro e w2 ⟨b, rfl, hc2, g2⟩
      have nb : (Value.slice A' k c').ownBlock = none ∨ (Value.slice A' k c').ownBlock ≠ some B := by
        rcases HP.out with h | h
        · cases h
        · exact .inr fun e => h (by rw [cur_block', e])
      have NB := Lib.hid nb
      have O2 := Lib.hid (HO.out.kept g2 nb)
      have hl2 := hc2.lt
      clear nb HO
      go_wp2_with fail
      have hlit := Own.lit (w := w2.alloc (.cells #[.int .i64 0, .int .i64 0, .int .i64 1, .int .i64 2, .int .i64 3] 3)) (base := w2.heap.size) (e := 3) (k := 1) (n := 5) (cs := #[.int .i64 0, .int .i64 0, .int .i64 1, .int .i64 2, .int .i64 3]) (heap_alloc_new _ _) (by unfold maxLen; omega) (by simp)
      refine (pick_c W B A n c _ hC (hc2.ext (by (repeat (first | exact Ext.refl _ | assumption | refine Ext.alloc ?_ _ | refine Ext.drew ?_ | refine Ext.drewN ?_ _ | refine Ext.setCell ?_ (by (try simp only [World.size_alloc, World.size_setCell, World.size_drew, World.heap_drewN]); omega) _ | refine Ext.step (by assumption) ?_)))) w2.heap.size w2.heap.size 5 5 [0, 0, 1, 2, 3] hlit (by omega) (by omega)).mono ?_; rintro e w3 ⟨y, rfl, hy, hc3, g3⟩
      have O3 := Lib.hid ((O2.out.ext (w' := _) (by (repeat (first | exact Ext.refl _ | assumption | refine Ext.alloc ?_ _ | refine Ext.drew ?_ | refine Ext.drewN ?_ _ | refine Ext.setCell ?_ (by (try simp only [World.size_alloc, World.size_setCell, World.size_drew, World.heap_drewN]); omega) _ | refine Ext.step (by assumption) ?_)))).kept g3 NB.out)
      have hy3 : 0 ≤ y ∧ y ≤ 3 := by simp at hy; omega
      clear hlit hy O2 NB
      obtain ⟨ci, ch, hci, hco, hcx⟩ := hc3
      have HCO := Lib.hid hco
      clear hco
      go_wp2_with (at_builtin; refine wpList_push2 W (by (repeat (first | exact Ext.refl _ | assumption | refine Ext.alloc ?_ _ | refine Ext.drew ?_ | refine Ext.drewN ?_ _ | refine Ext.setCell ?_ (by (try simp only [World.size_alloc, World.size_setCell, World.size_drew, World.heap_drewN]); omega) _ | refine Ext.step (by assumption) ?_))) rfl _ _ _ rfl 38 (.agg #[.bool false, .int .i64 0]) 2 16 elInfo Try.underlying25 rfl (by omega) _ _ _ _ rfl (Own.ext O3.out (by (repeat (first | exact Ext.refl _ | assumption | refine Ext.alloc ?_ _ | refine Ext.drew ?_ | refine Ext.drewN ?_ _ | refine Ext.setCell ?_ (by (try simp only [World.size_alloc, World.size_setCell, World.size_drew, World.heap_drewN]); omega) _ | refine Ext.step (by assumption) ?_)))) _ _ _ _ _ _ _ (Own.ext HCO.out (by (repeat (first | exact Ext.refl _ | assumption | refine Ext.alloc ?_ _ | refine Ext.drew ?_ | refine Ext.drewN ?_ _ | refine Ext.setCell ?_ (by (try simp only [World.size_alloc, World.size_setCell, World.size_drew, World.heap_drewN]); omega) _ | refine Ext.step (by assumption) ?_)))) HP.out _ _ _ rfl (by exact heap_last (by first | rfl | simp)) rfl (by simp [Value.oneCell']) (by omega) (by omega) ?_; intro AP cP wP hoP hxP hoQ hapP)
      have HS := Lib.hid (Gate.snoc es ⟨b, y⟩)
      have HO := Lib.hid hoP
      have HQ := Lib.hid hoQ
      have HA := Lib.hid hapP
      clear hoP hoQ hapP
      go_wp2
      go_roundw
      case rel => exact ⟨k + 1, AP, cP, es ++ [⟨b, y⟩], by omega, by go_num, by rfl, HG.out.snoc b y hy3, by rw [← HS.out]; exact HO.out, ⟨ci, ch, hci, HQ.out, hxP⟩, HA.out⟩
      case measure => simp [intOf]; omega
    · obtain rfl : k = j + 1 := by omega
      have dk : decide (((j + 1 : Nat) : Int) < 1 + (j : Int)) = false := decide_eq_false (by omega)
      have dk' : decide ((j : Int) + 1 < 1 + (j : Int)) = false := decide_eq_false (by omega)
      have hx := hcw.base
      have HG := Lib.hid hG
      have HO := Lib.hid ho
      clear hG ho hap hcw
      go_wp2
      go_ret
      refine ⟨⟨es, A', c', ?_, ⟨?_, ?_⟩, ?_⟩, hx⟩
      · rw [HG.out.1]; rfl
      · rw [HG.out.1]; exact hm7
      · intro i hi; exact HG.out.2 i (by rw [HG.out.1] at hi; exact hi)
      · rw [HG.out.1]; exact HO.out
theorem drawGates_c (A : Option Addr) (n c : Nat) (w : World) (hC : Code8 w A n c) : Calls Try.prog 24 #[.slice A n c] w fun e w' => GatesV w.heap.size e w' ∧ Ext w w' := by
  go_enter Try.func24, Try.ntmps24
  go_wp2_with fail
  refine (new_c A n c _ (hC.ext (by (repeat (first | exact Ext.refl _ | assumption | refine Ext.alloc ?_ _ | refine Ext.drew ?_ | refine Ext.drewN ?_ _ | refine Ext.setCell ?_ (by (try simp only [World.size_alloc, World.size_setCell, World.size_drew, World.heap_drewN]); omega) _ | refine Ext.step (by assumption) ?_))))).mono ?_; rintro e w1 ⟨B, rfl, hc0⟩
  go_wp2_with fail
  refine (l22Gates_c _ B A n c _ (hC.ext (by (repeat (first | exact Ext.refl _ | assumption | refine Ext.alloc ?_ _ | refine Ext.drew ?_ | refine Ext.drewN ?_ _ | refine Ext.setCell ?_ (by (try simp only [World.size_alloc, World.size_setCell, World.size_drew, World.heap_drewN]); omega) _ | refine Ext.step (by assumption) ?_)))) hc0).mono ?_; rintro e w2 ⟨⟨es, A', c', rfl, hG, ho⟩, x2⟩
  have HO := Lib.hid ho
  have HG := Lib.hid hG
  clear ho hG
  go_wp2
  go_ret
  exact ⟨⟨es, A', c', rfl, HG.out, HO.out⟩, x2⟩
end Go.Proofs.Ytbbhchdpaocljaa
