/-
  The draw of readings of a meter.
-/
import Derived.Test.YticpkgiccpglmaaDoorCur
import Derived.Test.YticpkgiccpglmaaDoorMeterP
import Derived.IntWalk
namespace Go.Proofs.YticpkgiccpglmaaDoor
open Go.RowKit

/-- k drawn readings -/
def Rs (zs : List Int) (k : Nat) : Prop := zs.length = k ∧ ∀ i, i < k → 0 ≤ nth zs i ∧ nth zs i ≤ 99999
theorem nth_snoc (a : List Int) (x : Int) (i : Nat) : nth (a ++ [x]) i = if i < a.length then nth a i else if i = a.length then x else 0 := by
  unfold nth
  by_cases h : i < a.length
  · rw [if_pos h]; simp [List.getElem?_append_left h]
  · rw [if_neg h]
    by_cases h2 : i = a.length
    · subst h2; simp
    · rw [if_neg h2]; simp [List.getElem?_eq_none (l := a ++ [x]) (i := i) (by simp; omega)]
theorem Rs.snoc {zs : List Int} {k : Nat} (h : Rs zs k) (x : Int) (hx : 0 ≤ x ∧ x ≤ 99999) : Rs (zs ++ [x]) (k + 1) := by
  refine ⟨by simp [h.1], fun i hi => ?_⟩
  rw [nth_snoc]
  split
  · exact h.2 i (by have := h.1; omega)
  · rw [if_pos (by have := h.1; omega)]; exact hx
theorem Rs.drawn {zs : List Int} {k : Nat} (h : Rs zs k) (h1 : 1 ≤ k ∧ k ≤ 9) : DrawnR zs := ⟨by rw [h.1]; exact h1, fun i hi => by rw [h.1] at hi; exact h.2 i hi⟩
/-- what the draw of readings leaves -/
def ReadsV (base : Nat) (e : Ending) (w' : World) : Prop := ∃ (zs : List Int) (A' : Option Addr) (c' : Nat), e = .returned (.slice A' zs.length c') ∧ DrawnR zs ∧ Own w' base 3 1 A' zs.length c' (ints zs)
theorem rem_bd (x : Int) (hx : 0 ≤ x) : ∃ r, x.tmod 100000 = r ∧ 0 ≤ r ∧ r ≤ 99999 := ⟨_, Int.tmod_eq_emod_of_nonneg hx, by omega, by omega⟩
set_option maxRecDepth 100000 in
set_option maxHeartbeats 3200000 in
theorem l24List_c (W : World) (B : Nat) (A : Option Addr) (n c : Nat) (w : World) (hC : Code8 W A n c) (hc : Cur W w B A n c) :
    Calls Tryd.prog 20 #[.pointer (some ⟨B, 0, none⟩)] w fun e w' => ReadsV W.heap.size e w' ∧ Ext W w' := by
  have hl := hc.lt
  have hWw : W.heap.size ≤ w.heap.size := hc.base.len
  have H0 := Lib.hid ((Own.lit (w := w.alloc (.cells #[] 3)) (base := w.heap.size) (e := 3) (k := 1) (n := 0) (cs := #[]) (heap_alloc_new _ _) (by unfold maxLen; omega) rfl).mono hWw)
  have hlit := Own.lit (w := (w.alloc (.cells #[] 3)).alloc (.cells #[.int .i64 0, .int .i64 500, .int .i64 99900, .int .i64 99990] 3)) (base := w.heap.size + 1) (e := 3) (k := 1) (n := 4) (cs := #[.int .i64 0, .int .i64 500, .int .i64 99900, .int .i64 99990]) (by have := heap_alloc_new (w.alloc (.cells #[] 3)) (.cells #[.int .i64 0, .int .i64 500, .int .i64 99900, .int .i64 99990] 3); rwa [World.size_alloc] at this) (by unfold maxLen; omega) (by simp)
  go_enter Tryd.func20, Tryd.ntmps20
  go_wp2_with fail
  refine (pick_c W B A n c _ hC (hc.ext (by (repeat (first | exact Ext.refl _ | assumption | refine Ext.alloc ?_ _ | refine Ext.drew ?_ | refine Ext.drewN ?_ _ | refine Ext.setCell ?_ (by (try simp only [World.size_alloc, World.size_setCell, World.size_drew, World.heap_drewN]); omega) _ | refine Ext.step (by assumption) ?_)))) (w.heap.size + 1) (w.heap.size + 1) 4 4 [0, 500, 99900, 99990] hlit (by omega) (by omega)).mono ?_; rintro e w1 ⟨y, rfl, hy, hc1, g1⟩
  have hyb : 0 ≤ y ∧ y ≤ 99999 := by simp at hy; omega
  have H1 := Lib.hid ((H0.out.ext (w' := _) (by (repeat (first | exact Ext.refl _ | assumption | refine Ext.alloc ?_ _ | refine Ext.drew ?_ | refine Ext.drewN ?_ _ | refine Ext.setCell ?_ (by (try simp only [World.size_alloc, World.size_setCell, World.size_drew, World.heap_drewN]); omega) _ | refine Ext.step (by assumption) ?_)))).kept g1 (.inr (by rw [cur_block']; simp; omega)))
  clear hlit hc H0 hy g1
  go_wp2_with fail
  refine (below_c W B A n c 9 _ hC hc1 (by omega)).mono ?_; rintro e w2 ⟨x, rfl, ⟨x1, x2⟩, hc2, g2⟩
  obtain ⟨j, rfl⟩ : ∃ j : Nat, x = (j : Int) := ⟨x.toNat, by omega⟩
  have hm9 : 1 ≤ j + 1 ∧ j + 1 ≤ 9 := by omega
  have H2 := Lib.hid (H1.out.kept g2 (.inr (by rw [cur_block']; simp; omega)))
  have hap : Apart (some ⟨w.heap.size, 0, none⟩) 0 0 (some ⟨B, 0, none⟩) 1 1 := .inr (by rw [cur_block', cur_block']; simp; omega)
  clear hc1 H1 g2
  go_wp2_with fail
  go_loopw [3, 4, 6] (fun s a i wr => ∃ (k : Nat) (v : Int) (A' : Option Addr) (c' : Nat) (zs : List Int), k ≤ j + 1 ∧ i = .int .i64 k ∧ a = .int .i64 v ∧ (0 ≤ v ∧ v ≤ 99999) ∧ s = .slice A' k c' ∧ Rs zs k ∧ Own wr W.heap.size 3 1 A' k c' (ints zs) ∧ Cur W wr B A n c ∧ Apart A' k c' (some ⟨B, 0, none⟩) 1 1) (fun _ _ i _ => j + 1 - (intOf i).toNat)
  case atStart => exact ⟨0, y, _, 0, [], Nat.zero_le _, rfl, rfl, hyb, rfl, ⟨rfl, fun i hi => by omega⟩, H2.out, hc2, hap⟩
  case round =>
    clear H2 hap hc2
    obtain ⟨k, v, A', c', zs, hk, rfl, rfl, hv, rfl, hR, ho, hcw, hap⟩ := hrel
    have HR := Lib.hid hR
    have HO := Lib.hid ho
    have HP := Lib.hid hap
    have hlw := hcw.lt
    clear hR ho hap
    by_cases hlt : k < j + 1
    · have dk : decide ((k : Int) < 1 + (j : Int)) = true := decide_eq_true (by omega)
      have dk' : decide (k < 1 + j) = true := decide_eq_true (by omega)
      obtain ⟨ci, ch, hci, hco, hcx⟩ := hcw
      have HCO := Lib.hid hco
      clear hco
      go_wp2_with (at_builtin; refine wpList_push2 W (by (repeat (first | exact Ext.refl _ | assumption | refine Ext.alloc ?_ _ | refine Ext.drew ?_ | refine Ext.drewN ?_ _ | refine Ext.setCell ?_ (by (try simp only [World.size_alloc, World.size_setCell, World.size_drew, World.heap_drewN]); omega) _ | refine Ext.step (by assumption) ?_))) rfl _ _ _ rfl 3 (.int .i64 0) 1 8 intInfo Tryd.underlying26 rfl (by omega) _ _ _ _ rfl (Own.ext HO.out (by (repeat (first | exact Ext.refl _ | assumption | refine Ext.alloc ?_ _ | refine Ext.drew ?_ | refine Ext.drewN ?_ _ | refine Ext.setCell ?_ (by (try simp only [World.size_alloc, World.size_setCell, World.size_drew, World.heap_drewN]); omega) _ | refine Ext.step (by assumption) ?_)))) _ _ _ _ _ _ _ (Own.ext HCO.out (by (repeat (first | exact Ext.refl _ | assumption | refine Ext.alloc ?_ _ | refine Ext.drew ?_ | refine Ext.drewN ?_ _ | refine Ext.setCell ?_ (by (try simp only [World.size_alloc, World.size_setCell, World.size_drew, World.heap_drewN]); omega) _ | refine Ext.step (by assumption) ?_)))) HP.out _ _ _ rfl (by exact heap_last (by first | rfl | simp)) rfl (by simp [Value.oneCell']) (by omega) (by omega) ?_; intro A2 c2 w2 ho2 hx2 ho3 hap2)
      have HS := Lib.hid (ints_snoc zs v)
      have O2 := Lib.hid (show Own w2 W.heap.size 3 1 A2 (k + 1) c2 (ints (zs ++ [v])) from by rw [← ints_snoc]; exact ho2)
      have hcw : Cur W w2 B A n c := ⟨ci, ch, hci, ho3, hx2⟩
      have HA := Lib.hid hap2
      have nb : (Value.slice A2 (k + 1) c2).ownBlock = none ∨ (Value.slice A2 (k + 1) c2).ownBlock ≠ some B := by
        rcases hap2 with h | h
        · cases h
        · exact .inr fun e => h (by rw [cur_block', e])
      have NB := Lib.hid nb
      clear ho2 ho3 hap2 nb HCO HO HP
      go_wp2_with fail
      refine (below_c W B A n c 40 _ hC hcw (by omega)).mono ?_; rintro e w3 ⟨p, rfl, ⟨p1, p2⟩, hc3, g3⟩
      have O3 := Lib.hid (O2.out.kept g3 NB.out)
      clear hcw O2 g3
      go_wp2_with fail
      refine (once_c W B A n c 5 _ hC hc3 (by omega)).mono ?_; rintro e w4 ⟨b1, rfl, hc4, g4⟩
      have O4 := Lib.hid (O3.out.kept g4 NB.out)
      clear hc3 O3 g4
      obtain ⟨r1, m1, r1b⟩ := rem_bd (v + p) (by omega)
      obtain ⟨r2, m2, r2b⟩ := rem_bd v (by omega)
      have s1 : IntKind.i64.wrap (v + p) = v + p := IntWalk.i64_in _ (by omega)
      have s2 : IntKind.i64.wrap v = v := IntWalk.i64_in _ (by omega)
      cases b1
      all_goals
        go_wp2_with fail
        refine (once_c W B A n c 8 _ hC hc4 (by omega)).mono ?_; rintro e w5 ⟨b2, rfl, hc5, g5⟩
        have O5 := Lib.hid (O4.out.kept g5 NB.out)
        clear hc4 O4 g5
        cases b2
        · have HC5 := Lib.hid hc5
          clear hc5
          go_wp2_with fail
          go_roundw
          case rel => exact ⟨k + 1, _, A2, c2, zs ++ [v], by omega, by go_num, rfl, by first | exact r1b | exact r2b, rfl, HR.out.snoc v hv, O5.out, HC5.out, HA.out⟩
          case measure => simp [intOf]; omega
        · go_wp2_with fail
          refine (below_c W B A n c 200 _ hC hc5 (by omega)).mono ?_; rintro e w6 ⟨z, rfl, ⟨z1, z2⟩, hc6, g6⟩
          have O6 := Lib.hid (O5.out.kept g6 NB.out)
          have HC6 := Lib.hid hc6
          clear hc6 hc5 O5 g6
          obtain ⟨r3, m3, r3b⟩ := rem_bd (v + (200 + z)) (by omega)
          have s3 : IntKind.i64.wrap (v + (200 + z)) = v + (200 + z) := IntWalk.i64_in _ (by omega)
          go_wp2_with fail
          go_roundw
          case rel => exact ⟨k + 1, _, A2, c2, zs ++ [v], by omega, by go_num, rfl, r3b, rfl, HR.out.snoc v hv, O6.out, HC6.out, HA.out⟩
          case measure => simp [intOf]; omega
    · obtain rfl : k = j + 1 := by omega
      have dk : decide (((j + 1 : Nat) : Int) < 1 + (j : Int)) = false := decide_eq_false (by omega)
      have dk' : decide ((j : Int) + 1 < 1 + (j : Int)) = false := decide_eq_false (by omega)
      have hx := hcw.base
      clear hcw
      go_wp2
      go_ret
      refine ⟨⟨zs, A', c', ?_, HR.out.drawn hm9, ?_⟩, hx⟩
      · rw [HR.out.1]; rfl
      · rw [HR.out.1]; exact HO.out
theorem drawReadings_c (A : Option Addr) (n c : Nat) (w : World) (hC : Code8 w A n c) : Calls Tryd.prog 8 #[.slice A n c] w fun e w' => ReadsV w.heap.size e w' ∧ Ext w w' := by
  go_enter Tryd.func8, Tryd.ntmps8
  go_wp2_with fail
  refine (new_c A n c _ (hC.ext (by (repeat (first | exact Ext.refl _ | assumption | refine Ext.alloc ?_ _ | refine Ext.drew ?_ | refine Ext.drewN ?_ _ | refine Ext.setCell ?_ (by (try simp only [World.size_alloc, World.size_setCell, World.size_drew, World.heap_drewN]); omega) _ | refine Ext.step (by assumption) ?_))))).mono ?_; rintro e w1 ⟨B, rfl, hc0⟩
  go_wp2_with fail
  refine (l24List_c _ B A n c _ (hC.ext (by (repeat (first | exact Ext.refl _ | assumption | refine Ext.alloc ?_ _ | refine Ext.drew ?_ | refine Ext.drewN ?_ _ | refine Ext.setCell ?_ (by (try simp only [World.size_alloc, World.size_setCell, World.size_drew, World.heap_drewN]); omega) _ | refine Ext.step (by assumption) ?_)))) hc0).mono ?_; rintro e w2 ⟨⟨es, A', c', rfl, hG, ho⟩, x2⟩
  have HO := Lib.hid ho
  have HG := Lib.hid hG
  clear ho hG
  go_wp2
  go_ret
  exact ⟨⟨es, A', c', rfl, HG.out, HO.out⟩, x2⟩
end Go.Proofs.YticpkgiccpglmaaDoor
