/-
  The draw of batches.
-/
import Derived.Test.YtecifmpkjegodaaCur
import Derived.Test.YtecifmpkjegodaaAgeP
import Derived.IntWalk
namespace Go.Proofs.Ytecifmpkjegodaa
open Go.RowKit

/-- batches that j rounds have put, up to day D -/
def Bs (es : List Batch) (D : Int) (j : Nat) : Prop := es.length ≤ j ∧ batP es ∧ ∀ i, i < es.length → day es i ≤ D ∧ lit es i ≤ 60 * (j : Int)
theorem Bs.put {es : List Batch} {D D' l : Int} {j : Nat} (h : Bs es D j) (hj : j ≤ 6) (hD : 0 ≤ D) (hd : D ≤ D' ∧ D' ≤ 28) (hl : 1 ≤ l ∧ l ≤ 60) : putF es D' l = (putL es D' l, true) ∧ Bs (putL es D' l) D' (j + 1) := by
  have hL : Bs (putL es D' l) D' (j + 1) := by
    by_cases hlast : 0 < es.length ∧ day es (es.length - 1) = D'
    · have e : putL es D' l = es.set (es.length - 1) ⟨day es (es.length - 1), lit es (es.length - 1) + l⟩ := putL_set rfl hlast.1 hlast.2
      have hat : ∀ i, Batch.at_ (es.set (es.length - 1) ⟨day es (es.length - 1), lit es (es.length - 1) + l⟩) i = if es.length - 1 = i then ⟨day es (es.length - 1), lit es (es.length - 1) + l⟩ else Batch.at_ es i := fun i => Batch.at_set es _ i _ (by have := hlast.1; omega)
      have hb := h.2.2 (es.length - 1) (by have := hlast.1; omega)
      have hbb := inB_yes (h.2.1.2 (es.length - 1) (by have := hlast.1; omega)).2.2
      have hday : ∀ i, day (es.set (es.length - 1) ⟨day es (es.length - 1), lit es (es.length - 1) + l⟩) i = day es i := fun i => by
        unfold day; rw [hat]; split
        · rename_i q; rw [← q]
        · rfl
      rw [e]
      refine ⟨by simp; have := h.1; omega, ⟨by simp; have := h.1; omega, fun i hi => ?_⟩, fun i hi => ?_⟩
      · rw [List.length_set] at hi
        have b := h.2.1.2 i hi
        refine ⟨by rw [hday]; exact b.1, by rw [hday, hday]; exact b.2.1, ?_⟩
        unfold lit
        rw [hat]
        split
        · have := hb.2
          exact inB_mk ⟨by show 1 ≤ lit es (es.length - 1) + l; omega, by show lit es (es.length - 1) + l ≤ 100000; omega⟩
        · exact b.2.2
      · rw [List.length_set] at hi
        have b := h.2.2 i hi
        refine ⟨by rw [hday]; omega, ?_⟩
        unfold lit
        rw [hat]
        split
        · have := hb.2
          show lit es (es.length - 1) + l ≤ _
          push_cast; omega
        · have := b.2
          show lit es i ≤ _
          push_cast; omega
    · have e : putL es D' l = es ++ [⟨D', l⟩] := putL_add rfl hlast
      rw [e]
      have hlen := h.1
      refine ⟨by simp; omega, ⟨by simp; omega, fun i hi => ?_⟩, fun i hi => ?_⟩
      · rw [List.length_append, List.length_singleton] at hi
        rcases Nat.lt_succ_iff_lt_or_eq.1 hi with h1 | h1
        · have b := h.2.1.2 i h1
          refine ⟨?_, ?_, ?_⟩
          · unfold day; rw [at_left _ _ _ h1]; exact b.1
          · intro h0; unfold day; rw [at_left _ _ _ h1, at_left _ _ _ (by omega)]; exact b.2.1 h0
          · unfold lit; rw [at_left _ _ _ h1]; exact b.2.2
        · subst h1
          refine ⟨?_, ?_, ?_⟩
          · unfold day; rw [at_right]; exact inB_mk ⟨by show 0 ≤ D'; omega, by show D' ≤ 1000; omega⟩
          · intro h0
            unfold day
            rw [at_right, at_left _ _ _ (by omega)]
            have := (h.2.2 (es.length - 1) (by omega)).1
            unfold day at this
            show _ ≤ D'
            omega
          · unfold lit; rw [at_right]; exact inB_mk ⟨by show 1 ≤ l; omega, by show l ≤ 100000; omega⟩
      · rw [List.length_append, List.length_singleton] at hi
        rcases Nat.lt_succ_iff_lt_or_eq.1 hi with h1 | h1
        · have b := h.2.2 i h1
          unfold day lit
          rw [at_left _ _ _ h1]
          unfold day lit at b
          push_cast; omega
        · subst h1
          unfold day lit
          rw [at_right]
          refine ⟨by show D' ≤ D'; omega, ?_⟩
          show l ≤ _
          push_cast; omega
  exact ⟨putF_yes ⟨batB_yes h.2.1, inB_mk (by omega), batB_yes hL.2.1⟩, hL⟩
theorem Bs.drawn {es : List Batch} {D : Int} {j : Nat} (h : Bs es D j) (hj : j ≤ 7) (hD : D ≤ 28) : DrawnB es :=
  ⟨by have := h.1; omega, h.2.1, fun i hi => by have := h.2.2 i hi; omega⟩
/-- what the draw of batches leaves -/
def BatchesV (base : Nat) (e : Ending) (w' : World) : Prop := ∃ (es : List Batch) (A' : Option Addr) (c' : Nat), e = .returned (.slice A' es.length c') ∧ DrawnB es ∧ Own w' base 42 2 A' es.length c' (Batch.all es)
set_option maxRecDepth 100000 in
set_option maxHeartbeats 3200000 in
theorem l20List_c (W : World) (B : Nat) (A : Option Addr) (n c : Nat) (w : World) (hC : Code8 W A n c) (hc : Cur W w B A n c) :
    Calls Try.prog 34 #[.pointer (some ⟨B, 0, none⟩)] w fun e w' => BatchesV W.heap.size e w' ∧ Ext W w' := by
  have hl := hc.lt
  have hWw : W.heap.size ≤ w.heap.size := hc.base.len
  have H0 := Lib.hid ((Own.lit (w := w.alloc (.cells #[] 42)) (base := w.heap.size) (e := 42) (k := 2) (n := 0) (cs := #[]) (heap_alloc_new _ _) (by omega) rfl).mono hWw)
  go_enter Try.func34, Try.ntmps34
  go_wp2_with fail
  refine (below_c W B A n c 8 _ hC (hc.ext (by (repeat (first | exact Ext.refl _ | assumption | refine Ext.alloc ?_ _ | refine Ext.drew ?_ | refine Ext.drewN ?_ _ | refine Ext.setCell ?_ (by (try simp only [World.size_alloc, World.size_setCell, World.size_drew, World.heap_drewN]); omega) _ | refine Ext.step (by assumption) ?_)))) (by omega)).mono ?_; rintro e w1 ⟨x, rfl, ⟨x1, x2⟩, hc1, g1⟩
  obtain ⟨m, rfl⟩ : ∃ m : Nat, x = (m : Int) := ⟨x.toNat, by omega⟩
  have hm7 : m ≤ 7 := by omega
  have H1 := Lib.hid (H0.out.kept g1 (.inr (by rw [cur_block']; simp; omega)))
  have hnb : (Value.slice (some ⟨w.heap.size, 0, none⟩) 0 0).ownBlock = none ∨ (Value.slice (some ⟨w.heap.size, 0, none⟩) 0 0).ownBlock ≠ some B := .inr (by rw [cur_block']; simp; omega)
  clear hc H0 g1
  go_wp2_with fail
  go_loopw [3, 4, 5] (fun s d i wr => ∃ (j : Nat) (D : Int) (A' : Option Addr) (c' : Nat) (es : List Batch), j ≤ m ∧ i = .int .i64 ((m : Int) - j) ∧ d = .int .i64 D ∧ (0 ≤ D ∧ D ≤ 4 * (j : Int)) ∧ s = .slice A' es.length c' ∧ Bs es D j ∧ Own wr W.heap.size 42 2 A' es.length c' (Batch.all es) ∧ Cur W wr B A n c ∧ ((Value.slice A' es.length c').ownBlock = none ∨ (Value.slice A' es.length c').ownBlock ≠ some B)) (fun _ _ i _ => (intOf i).toNat)
  case atStart => exact ⟨0, 0, _, 0, [], Nat.zero_le _, by simp, rfl, by omega, rfl, ⟨Nat.le_refl _, ⟨by simp, fun i hi => by simp at hi⟩, fun i hi => by simp at hi⟩, H1.out, hc1, hnb⟩
  case round =>
    clear H1 hnb hc1
    obtain ⟨j, D, A', c', es, hj, rfl, rfl, hD, rfl, hB, ho, hcw, hnb⟩ := hrel
    have HB := Lib.hid hB
    have HO := Lib.hid ho
    have NB := Lib.hid hnb
    have hl20 : es.length ≤ 1048576 := by have := hB.1; omega
    clear hB ho hnb
    by_cases hlt : j < m
    · have dk : decide (0 < (m : Int) - (j : Int)) = true := decide_eq_true (by omega)
      go_wp2_with fail
      refine (below_c W B A n c 5 _ hC hcw (by omega)).mono ?_; rintro e w2 ⟨p, rfl, ⟨p1, p2⟩, hc2, g2⟩
      have O2 := Lib.hid (HO.out.kept g2 NB.out)
      clear hcw HO g2
      go_wp2_with fail
      refine (below_c W B A n c 60 _ hC hc2 (by omega)).mono ?_; rintro e w3 ⟨q, rfl, ⟨q1, q2⟩, hc3, g3⟩
      have O3 := Lib.hid (O2.out.kept g3 NB.out)
      obtain ⟨hput, hB2⟩ := HB.out.put (by omega) hD.1 (D' := D + p) (l := 1 + q) (by omega) (by omega)
      have CP := sPut_c A' es.length c' es (D + p) (1 + q) w3 O3.out.holds hl20
      rw [hput] at CP
      have HCP := Lib.hid CP
      have HB2 := Lib.hid hB2
      have HC3 := Lib.hid hc3
      have hl3 := hc3.lt
      have hW3 : W.heap.size ≤ w3.heap.size := hc3.base.len
      clear hput CP hB2 hc2 O2 g3 hc3
      go_wp2_with fail
      refine HCP.out.mono ?_; rintro e w4 ⟨A4, c4, rfl, o4, x4⟩
      have O4 := Lib.hid (o4.mono hW3)
      have nb4 : (Value.slice A4 (putL es (D + p) (1 + q)).length c4).ownBlock = none ∨ (Value.slice A4 (putL es (D + p) (1 + q)).length c4).ownBlock ≠ some B := by
        cases hob : (Value.slice A4 (putL es (D + p) (1 + q)).length c4).ownBlock with
        | none => exact .inl rfl
        | some g => exact .inr fun e => by have := (o4.lt g hob).1; injection e with e; omega
      have NB4 := Lib.hid nb4
      clear o4 nb4
      go_wp2_with fail
      go_roundw
      case rel => exact ⟨j + 1, D + p, A4, c4, putL es (D + p) (1 + q), by omega, congrArg (Value.int .i64) (by push_cast; omega), rfl, by push_cast; omega, rfl, HB2.out, O4.out, HC3.out.ext x4, NB4.out⟩
      case measure => simp [intOf]; omega
    · obtain rfl : m = j := by omega
      have dk : decide (0 < (m : Int) - (m : Int)) = false := decide_eq_false (by omega)
      have hx := hcw.base
      clear hcw
      go_wp2
      go_ret
      exact ⟨⟨es, A', c', rfl, HB.out.drawn hm7 (by omega), HO.out⟩, hx⟩
theorem drawBatches_c (A : Option Addr) (n c : Nat) (w : World) (hC : Code8 w A n c) : Calls Try.prog 28 #[.slice A n c] w fun e w' => BatchesV w.heap.size e w' ∧ Ext w w' := by
  go_enter Try.func28, Try.ntmps28
  go_wp2_with fail
  refine (new_c A n c _ (hC.ext (by (repeat (first | exact Ext.refl _ | assumption | refine Ext.alloc ?_ _ | refine Ext.drew ?_ | refine Ext.drewN ?_ _ | refine Ext.setCell ?_ (by (try simp only [World.size_alloc, World.size_setCell, World.size_drew, World.heap_drewN]); omega) _ | refine Ext.step (by assumption) ?_))))).mono ?_; rintro e w1 ⟨B, rfl, hc0⟩
  go_wp2_with fail
  refine (l20List_c _ B A n c _ (hC.ext (by (repeat (first | exact Ext.refl _ | assumption | refine Ext.alloc ?_ _ | refine Ext.drew ?_ | refine Ext.drewN ?_ _ | refine Ext.setCell ?_ (by (try simp only [World.size_alloc, World.size_setCell, World.size_drew, World.heap_drewN]); omega) _ | refine Ext.step (by assumption) ?_)))) hc0).mono ?_; rintro e w2 ⟨⟨es, A', c', rfl, hG, ho⟩, x2⟩
  have HO := Lib.hid ho
  have HG := Lib.hid hG
  clear ho hG
  go_wp2
  go_ret
  exact ⟨⟨es, A', c', rfl, HG.out, HO.out⟩, x2⟩
end Go.Proofs.Ytecifmpkjegodaa
