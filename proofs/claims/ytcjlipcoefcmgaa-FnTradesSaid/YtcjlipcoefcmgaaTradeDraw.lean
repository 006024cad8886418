/-
  The draw of debts.
-/
import Derived.Test.YtcjlipcoefcmgaaCur
import Derived.Test.YtcjlipcoefcmgaaTradeQ
import Derived.Deep.RegionWith
import Derived.IntWalk
namespace Go.Proofs.Ytcjlipcoefcmgaa
open Go.RowKit

theorem Debt.at_snoc (es : List Debt) (e : Debt) (i : Nat) : Debt.at_ (es ++ [e]) i = if i < es.length then Debt.at_ es i else if i = es.length then e else default := by
  unfold Debt.at_
  by_cases h : i < es.length
  · rw [if_pos h]; simp [List.getElem?_append_left h]
  · rw [if_neg h]
    by_cases h2 : i = es.length
    · subst h2; simp
    · rw [if_neg h2]; simp [List.getElem?_eq_none (l := es ++ [e]) (i := i) (by simp; omega)]
def dFine (e : Debt) : Prop := e.f0 ≠ e.f1 ∧ (1 ≤ e.f0 ∧ e.f0 ≤ 5) ∧ (1 ≤ e.f1 ∧ e.f1 ≤ 5) ∧ 1 ≤ e.f2 ∧ e.f2 ≤ 60
/-- k drawn debts -/
def Ds (es : List Debt) (k : Nat) : Prop := es.length = k ∧ ∀ i, i < k → dFine (Debt.at_ es i)
theorem Ds.snoc {es : List Debt} {k : Nat} (h : Ds es k) (e : Debt) (he : dFine e) : Ds (es ++ [e]) (k + 1) := by
  refine ⟨by simp [h.1], fun i hi => ?_⟩
  rw [Debt.at_snoc]
  split
  · exact h.2 i (by have := h.1; omega)
  · rw [if_pos (by have := h.1; omega)]; exact he
theorem Ds.drawn {es : List Debt} {k : Nat} (h : Ds es k) (hk : k ≤ 8) : DrawnD es :=
  ⟨by rw [h.1]; exact hk, fun i hi => by rw [h.1] at hi; exact h.2 i hi⟩
/-- what the draw of debts leaves -/
def DebtsV (base : Nat) (e : Ending) (w' : World) : Prop := ∃ (es : List Debt) (A' : Option Addr) (c' : Nat), e = .returned (.slice A' es.length c') ∧ DrawnD es ∧ Own w' base 41 3 A' es.length c' (Debt.all es)
theorem other_of (p x : Int) (hp : 0 ≤ p ∧ p ≤ 4) (hx : 0 ≤ x ∧ x ≤ 3) : ∃ d : Int, (1 + p + x).tmod 5 = d ∧ (0 ≤ d ∧ d ≤ 4) ∧ d ≠ p := by
  refine ⟨_, Int.tmod_eq_emod_of_nonneg (by omega), by omega, by omega⟩
set_option maxRecDepth 100000 in
set_option maxHeartbeats 3200000 in
theorem l23List_c (W : World) (B : Nat) (A : Option Addr) (n c : Nat) (w : World) (hC : Code8 W A n c) (hc : Cur W w B A n c) :
    Calls Try.prog 34 #[.pointer (some ⟨B, 0, none⟩)] w fun e w' => DebtsV W.heap.size e w' ∧ Ext W w' := by
  have hl := hc.lt
  have hWw : W.heap.size ≤ w.heap.size := hc.base.len
  have H0 := Lib.hid ((Own.lit (w := w.alloc (.cells #[] 41)) (base := w.heap.size) (e := 41) (k := 3) (n := 0) (cs := #[]) (heap_alloc_new _ _) (by omega) rfl).mono hWw)
  go_enter Try.func34, Try.ntmps34
  go_wp2_with fail
  refine (below_c W B A n c 9 _ hC (hc.ext (by (repeat (first | exact Ext.refl _ | assumption | refine Ext.alloc ?_ _ | refine Ext.drew ?_ | refine Ext.drewN ?_ _ | refine Ext.setCell ?_ (by (try simp only [World.size_alloc, World.size_setCell, World.size_drew, World.heap_drewN]); omega) _ | refine Ext.step (by assumption) ?_)))) (by omega)).mono ?_; rintro e w1 ⟨x, rfl, ⟨x1, x2⟩, hc1, g1⟩
  obtain ⟨m, rfl⟩ : ∃ m : Nat, x = (m : Int) := ⟨x.toNat, by omega⟩
  have hm8 : m ≤ 8 := by omega
  have H1 := Lib.hid (H0.out.kept g1 (.inr (by rw [cur_block']; simp; omega)))
  have hap : Apart (some ⟨w.heap.size, 0, none⟩) 0 0 (some ⟨B, 0, none⟩) 1 1 := .inr (by rw [cur_block', cur_block']; simp; omega)
  clear hc H0 g1
  go_wp2_with fail
  go_loopw [3, 4] (fun s i wr => ∃ (k : Nat) (A' : Option Addr) (c' : Nat) (es : List Debt), k ≤ m ∧ i = .int .i64 ((m : Int) - k) ∧ s = .slice A' k c' ∧ Ds es k ∧ Own wr W.heap.size 41 3 A' k c' (Debt.all es) ∧ Cur W wr B A n c ∧ Apart A' k c' (some ⟨B, 0, none⟩) 1 1) (fun _ i _ => (intOf i).toNat)
  case atStart => exact ⟨0, _, 0, [], Nat.zero_le _, by simp, rfl, ⟨rfl, fun i hi => by omega⟩, H1.out, hc1, hap⟩
  case round =>
    clear H1 hap hc1
    obtain ⟨k, A', c', es, hk, rfl, rfl, hD, ho, hcw, hap⟩ := hrel
    have HD := Lib.hid hD
    have HO := Lib.hid ho
    have HP := Lib.hid hap
    have nb : (Value.slice A' k c').ownBlock = none ∨ (Value.slice A' k c').ownBlock ≠ some B := by
      rcases hap with h | h
      · cases h
      · exact .inr fun e => h (by rw [cur_block', e])
    have NB := Lib.hid nb
    clear hD ho hap nb
    by_cases hlt : k < m
    · have dk : decide (0 < (m : Int) - (k : Int)) = true := decide_eq_true (by omega)
      go_wp2_with fail
      refine (below_c W B A n c 5 _ hC hcw (by omega)).mono ?_; rintro e w2 ⟨p, rfl, ⟨p1, p2⟩, hc2, g2⟩
      have O2 := Lib.hid (HO.out.kept g2 NB.out)
      clear hcw HO g2
      go_wp2_with fail
      refine (below_c W B A n c 4 _ hC hc2 (by omega)).mono ?_; rintro e w3 ⟨q, rfl, ⟨q1, q2⟩, hc3, g3⟩
      have O3 := Lib.hid (O2.out.kept g3 NB.out)
      obtain ⟨d, hd1, hd2, hd3⟩ := other_of p q (by omega) (by omega)
      have hl3 := hc3.lt
      clear hc2 O2 g3
      go_wp2_with fail
      refine (below_c W B A n c 60 _ hC hc3 (by omega)).mono ?_; rintro e w4 ⟨z, rfl, ⟨z1, z2⟩, hc4, g4⟩
      have O4 := Lib.hid (O3.out.kept g4 NB.out)
      obtain ⟨ci, ch, hci, hco, hcx⟩ := hc4
      have HCO := Lib.hid hco
      clear hc3 O3 g4 hco
      go_wp2_with (at_builtin; refine wpList_push2 W (by (repeat (first | exact Ext.refl _ | assumption | refine Ext.alloc ?_ _ | refine Ext.drew ?_ | refine Ext.drewN ?_ _ | refine Ext.setCell ?_ (by (try simp only [World.size_alloc, World.size_setCell, World.size_drew, World.heap_drewN]); omega) _ | refine Ext.step (by assumption) ?_))) rfl _ _ _ rfl 41 (.agg #[.int .i64 0, .int .i64 0, .int .i64 0]) 3 24 elInfo Try.underlying25 rfl (by omega) _ _ _ _ rfl (Own.ext O4.out (by (repeat (first | exact Ext.refl _ | assumption | refine Ext.alloc ?_ _ | refine Ext.drew ?_ | refine Ext.drewN ?_ _ | refine Ext.setCell ?_ (by (try simp only [World.size_alloc, World.size_setCell, World.size_drew, World.heap_drewN]); omega) _ | refine Ext.step (by assumption) ?_)))) _ _ _ _ _ _ _ (Own.ext HCO.out (by (repeat (first | exact Ext.refl _ | assumption | refine Ext.alloc ?_ _ | refine Ext.drew ?_ | refine Ext.drewN ?_ _ | refine Ext.setCell ?_ (by (try simp only [World.size_alloc, World.size_setCell, World.size_drew, World.heap_drewN]); omega) _ | refine Ext.step (by assumption) ?_)))) HP.out _ _ _ rfl (by exact heap_last (by first | rfl | simp)) rfl (by simp [Value.oneCell']) (by omega) (by omega) ?_; intro AP cP wP hoP hxP hoQ hapP)
      have HS := Lib.hid (Debt.all_snoc es ⟨1 + p, 1 + d, 1 + z⟩)
      have HN := Lib.hid hoP
      have HQ := Lib.hid hoQ
      have HA := Lib.hid hapP
      clear hoP hoQ hapP
      go_wp2
      go_roundw
      case rel => exact ⟨k + 1, AP, cP, es ++ [⟨1 + p, 1 + d, 1 + z⟩], by omega, congrArg (Value.int .i64) (by push_cast; omega), by rfl, HD.out.snoc _ ⟨by simp only; omega, by simp only; omega, by simp only; omega, by simp only; omega, by simp only; omega⟩, by rw [← HS.out]; exact HN.out, ⟨ci, ch, hci, HQ.out, hxP⟩, HA.out⟩
      case measure => simp [intOf]; omega
    · obtain rfl : m = k := by omega
      have dk : decide (0 < (m : Int) - (m : Int)) = false := decide_eq_false (by omega)
      have hx := hcw.base
      clear hcw
      go_wp2
      go_ret
      refine ⟨⟨es, A', c', ?_, HD.out.drawn hm8, ?_⟩, hx⟩
      · rw [HD.out.1]; rfl
      · rw [HD.out.1]; exact HO.out
theorem drawDebts_c (A : Option Addr) (n c : Nat) (w : World) (hC : Code8 w A n c) : Calls Try.prog 24 #[.slice A n c] w fun e w' => DebtsV w.heap.size e w' ∧ Ext w w' := by
  go_enter Try.func24, Try.ntmps24
  go_wp2_with fail
  refine (new_c A n c _ (hC.ext (by (repeat (first | exact Ext.refl _ | assumption | refine Ext.alloc ?_ _ | refine Ext.drew ?_ | refine Ext.drewN ?_ _ | refine Ext.setCell ?_ (by (try simp only [World.size_alloc, World.size_setCell, World.size_drew, World.heap_drewN]); omega) _ | refine Ext.step (by assumption) ?_))))).mono ?_; rintro e w1 ⟨B, rfl, hc0⟩
  go_wp2_with fail
  refine (l23List_c _ B A n c _ (hC.ext (by (repeat (first | exact Ext.refl _ | assumption | refine Ext.alloc ?_ _ | refine Ext.drew ?_ | refine Ext.drewN ?_ _ | refine Ext.setCell ?_ (by (try simp only [World.size_alloc, World.size_setCell, World.size_drew, World.heap_drewN]); omega) _ | refine Ext.step (by assumption) ?_)))) hc0).mono ?_; rintro e w2 ⟨⟨es, A', c', rfl, hG, ho⟩, x2⟩
  have HO := Lib.hid ho
  have HG := Lib.hid hG
  clear ho hG
  go_wp2
  go_ret
  exact ⟨⟨es, A', c', rfl, HG.out, HO.out⟩, x2⟩
end Go.Proofs.Ytcjlipcoefcmgaa
