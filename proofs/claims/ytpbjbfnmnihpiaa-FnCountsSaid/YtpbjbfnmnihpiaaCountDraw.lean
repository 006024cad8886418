/-
  The draw of entries of the water book.
-/
import Derived.Test.YtpbjbfnmnihpiaaCur
import Derived.Test.YtpbjbfnmnihpiaaCountP
import Derived.Deep.RegionWith
import Derived.IntWalk
namespace Go.Proofs.Ytpbjbfnmnihpiaa
open Go.RowKit

theorem Entry.at_snoc (es : List Entry) (e : Entry) (i : Nat) : Entry.at_ (es ++ [e]) i = if i < es.length then Entry.at_ es i else if i = es.length then e else default := by
  unfold Entry.at_
  by_cases h : i < es.length
  · rw [if_pos h]; simp [List.getElem?_append_left h]
  · rw [if_neg h]
    by_cases h2 : i = es.length
    · subst h2; simp
    · rw [if_neg h2]; simp [List.getElem?_eq_none (l := es ++ [e]) (i := i) (by simp; omega)]
def eFine (e : Entry) : Prop := (0 ≤ e.f0 ∧ e.f0 ≤ 59) ∧ (0 ≤ e.f1 ∧ e.f1 ≤ 39) ∧ 0 ≤ e.f2 ∧ e.f2 ≤ 1000
/-- k drawn entries -/
def Es (es : List Entry) (k : Nat) : Prop := es.length = k ∧ ∀ i, i < k → eFine (Entry.at_ es i)
theorem Es.snoc {es : List Entry} {k : Nat} (h : Es es k) (e : Entry) (he : eFine e) : Es (es ++ [e]) (k + 1) := by
  refine ⟨by simp [h.1], fun i hi => ?_⟩
  rw [Entry.at_snoc]
  split
  · exact h.2 i (by have := h.1; omega)
  · rw [if_pos (by have := h.1; omega)]; exact he
theorem Es.set {es : List Entry} {k i : Nat} (h : Es es k) (hi : i < k) (e : Entry) (he : eFine e) : Es (es.set i e) k := by
  refine ⟨by simp [h.1], fun j hj => ?_⟩
  rw [Entry.at_set es i j e (by rw [h.1]; exact hi)]
  split
  · exact he
  · exact h.2 j hj
theorem Es.drawn {es : List Entry} {k : Nat} (h : Es es k) (hk : k ≤ 8) {s : Int} (hs : 50 ≤ s ∧ s ≤ 149) : DrawnE es s :=
  ⟨by rw [h.1]; exact hk, hs, fun i hi => by rw [h.1] at hi; exact h.2 i hi⟩
/-- what the draw of entries leaves -/
def EntsV (base : Nat) (e : Ending) (w' : World) : Prop := ∃ (es : List Entry) (s : Int) (A' : Option Addr) (c' : Nat), e = .returned (.tuple #[.slice A' es.length c', .int .i64 s]) ∧ DrawnE es s ∧ Own w' base 32 3 A' es.length c' (Entry.all es)
set_option maxRecDepth 100000 in
set_option maxHeartbeats 6400000 in
theorem l18List_c (W : World) (B : Nat) (A : Option Addr) (n c : Nat) (w : World) (hC : Code8 W A n c) (hc : Cur W w B A n c) :
    Calls Try.prog 28 #[.pointer (some ⟨B, 0, none⟩)] w fun e w' => EntsV W.heap.size e w' ∧ Ext W w' := by
  have hl := hc.lt
  have hWw : W.heap.size ≤ w.heap.size := hc.base.len
  go_enter Try.func28, Try.ntmps28
  go_wp2_with fail
  refine (below_c W B A n c 100 _ hC hc (by omega)).mono ?_; rintro e w1 ⟨x, rfl, ⟨x1, x2⟩, hc1, g1⟩
  have hl1 := hc1.lt
  have hWw1 : W.heap.size ≤ w1.heap.size := hc1.base.len
  go_wp2_with fail
  have H0 := Lib.hid ((Own.lit (w := w1.alloc (.cells #[] 32)) (base := w1.heap.size) (e := 32) (k := 3) (n := 0) (cs := #[]) (heap_alloc_new _ _) (by omega) rfl).mono hWw1)
  refine (below_c W B A n c 9 _ hC (hc1.ext (by (repeat (first | exact Ext.refl _ | assumption | refine Ext.alloc ?_ _ | refine Ext.drew ?_ | refine Ext.drewN ?_ _ | refine Ext.setCell ?_ (by (try simp only [World.size_alloc, World.size_setCell, World.size_drew, World.heap_drewN]); omega) _ | refine Ext.step (by assumption) ?_)))) (by omega)).mono ?_; rintro e w2 ⟨y, rfl, ⟨y1, y2⟩, hc2, g2⟩
  obtain ⟨m, rfl⟩ : ∃ m : Nat, y = (m : Int) := ⟨y.toNat, by omega⟩
  have hm8 : m ≤ 8 := by omega
  have H1 := Lib.hid (H0.out.kept g2 (.inr (by rw [cur_block']; simp; omega)))
  have hap : Apart (some ⟨w1.heap.size, 0, none⟩) 0 0 (some ⟨B, 0, none⟩) 1 1 := .inr (by rw [cur_block', cur_block']; simp; omega)
  obtain ⟨s, hs⟩ : ∃ s, s = 50 + x := ⟨_, rfl⟩
  have hsb : 50 ≤ s ∧ s ≤ 149 := by omega
  have HS := Lib.hid hs
  clear hc H0 g1 g2 hc1 hs
  go_wp2_with fail
  go_loopw [5, 6, 8] (fun l s i wr => ∃ (k : Nat) (v : Int) (A' : Option Addr) (c' : Nat) (es : List Entry), k ≤ m ∧ i = .int .i64 k ∧ l = .int .i64 v ∧ (0 ≤ v ∧ v ≤ 149 + 39 * (k : Int)) ∧ s = .slice A' k c' ∧ Es es k ∧ Own wr W.heap.size 32 3 A' k c' (Entry.all es) ∧ Cur W wr B A n c ∧ Apart A' k c' (some ⟨B, 0, none⟩) 1 1) (fun _ _ i _ => m - (intOf i).toNat)
  case atStart => exact ⟨0, 50 + x, _, 0, [], Nat.zero_le _, rfl, rfl, by omega, rfl, ⟨rfl, fun i hi => by omega⟩, H1.out, hc2, hap⟩
  case round =>
    clear H1 hap hc2
    obtain ⟨k, v, A', c', es, hk, rfl, rfl, hv, rfl, hE, ho, hcw, hap⟩ := hrel
    have HE := Lib.hid hE
    have HO := Lib.hid ho
    have HP := Lib.hid hap
    have hlw := hcw.lt
    have nb : (Value.slice A' k c').ownBlock = none ∨ (Value.slice A' k c').ownBlock ≠ some B := by
      rcases hap with h | h
      · cases h
      · exact .inr fun e => h (by rw [cur_block', e])
    have NB := Lib.hid nb
    clear hE ho hap nb
    by_cases hlt : k < m
    · have dk : decide (k < m) = true := decide_eq_true hlt
      have dk' : decide ((k : Int) < (m : Int)) = true := decide_eq_true (by omega)
      go_wp2_with fail
      refine (below_c W B A n c 40 _ hC (hcw.ext (by (repeat (first | exact Ext.refl _ | assumption | refine Ext.alloc ?_ _ | refine Ext.drew ?_ | refine Ext.drewN ?_ _ | refine Ext.setCell ?_ (by (try simp only [World.size_alloc, World.size_setCell, World.size_drew, World.heap_drewN]); omega) _ | refine Ext.step (by assumption) ?_)))) (by omega)).mono ?_; rintro e w3 ⟨p, rfl, ⟨p1, p2⟩, hc3, g3⟩
      have O3 := Lib.hid ((HO.out.ext (w' := _) (by (repeat (first | exact Ext.refl _ | assumption | refine Ext.alloc ?_ _ | refine Ext.drew ?_ | refine Ext.drewN ?_ _ | refine Ext.setCell ?_ (by (try simp only [World.size_alloc, World.size_setCell, World.size_drew, World.heap_drewN]); omega) _ | refine Ext.step (by assumption) ?_)))).kept g3 NB.out)
      have hl3 := hc3.lt
      have HC3 := Lib.hid hc3
      have hb0 := Own.lit (w := w3.alloc (.cells #[.int .i64 p, .int .i64 0, .int .i64 0] 32)) (base := w3.heap.size) (e := 32) (k := 3) (n := 1) (cs := #[.int .i64 p, .int .i64 0, .int .i64 0]) (heap_alloc_new _ _) (by unfold maxLen; omega) (by simp)
      have HB0 := Lib.hid hb0
      have hsz : wr.heap.size ≤ w3.heap.size := g3.size
      have ne3 : (Value.slice A' k c').ownBlock = none ∨ (Value.slice A' k c').ownBlock ≠ some w3.heap.size := by
        cases hob : (Value.slice A' k c').ownBlock with
        | none => exact .inl rfl
        | some g => exact .inr fun e => by have := HO.out.lt g hob; injection e with e; omega
      have NE3 := Lib.hid ne3
      clear hc3 HO hb0 g3 ne3
      have s1 : IntKind.i64.wrap (v + p) = v + p := IntWalk.i64_in _ (by omega)
      go_wp2_with fail
      go_region_with ((go_at_call 36; refine (below_c W B A n c 40 _ hC (HC3.out.ext (by (repeat (first | exact Ext.refl _ | assumption | refine Ext.alloc ?_ _ | refine Ext.drew ?_ | refine Ext.drewN ?_ _ | refine Ext.setCell ?_ (by (try simp only [World.size_alloc, World.size_setCell, World.size_drew, World.heap_drewN]); omega) _ | refine Ext.step (by assumption) ?_)))) (by omega)).mono ?_; rintro e w4 ⟨q, rfl, ⟨q1, q2⟩, hc4, g4⟩; have k4 := (HB0.out.ext (w' := _) (by (repeat (first | exact Ext.refl _ | assumption | refine Ext.alloc ?_ _ | refine Ext.drew ?_ | refine Ext.drewN ?_ _ | refine Ext.setCell ?_ (by (try simp only [World.size_alloc, World.size_setCell, World.size_drew, World.heap_drewN]); omega) _ | refine Ext.step (by assumption) ?_)))).kept g4 (.inr (by rw [cur_block']; simp; omega)); have O4 := Lib.hid ((O3.out.ext (w' := _) (by (repeat (first | exact Ext.refl _ | assumption | refine Ext.alloc ?_ _ | refine Ext.drew ?_ | refine Ext.drewN ?_ _ | refine Ext.setCell ?_ (by (try simp only [World.size_alloc, World.size_setCell, World.size_drew, World.heap_drewN]); omega) _ | refine Ext.step (by assumption) ?_)))).kept g4 NB.out); have u0 : w4.cell? ⟨w3.heap.size, 0, none⟩ = some (.int .i64 p) := World.ownsRow.cellAt k4 0 (by omega); have u1 : w4.cell? ⟨w3.heap.size, 1, none⟩ = some (.int .i64 0) := World.ownsRow.cellAt k4 1 (by omega); have u2 : w4.cell? ⟨w3.heap.size, 2, none⟩ = some (.int .i64 0) := World.ownsRow.cellAt k4 2 (by omega); have f0 := World.ownsRow.frozenAt k4 0; have f1 := World.ownsRow.frozenAt k4 1; have f2 := World.ownsRow.frozenAt k4 2; have HC4 := Lib.hid hc4; have hl4 := hc4.lt; clear hc4 k4 g4))
      all_goals
        go_upto_region 12 with fail
        have O5 := Lib.hid ((O4.out.kept (grownBy_set (j := 1) (u := .int .i64 (min q (v + p))) (World.grownBy.refl _ _)) NE3.out).kept (grownBy_set (j := 2) (u := .int .i64 (v + p - min q (v + p))) (World.grownBy.refl _ _)) NE3.out)
        have C5 := Lib.hid ((HC4.out.set (g := w3.heap.size) (j := 1) (u := .int .i64 (min q (v + p))) (by omega) (by omega)).set (g := w3.heap.size) (j := 2) (u := .int .i64 (v + p - min q (v + p))) (by omega) (by omega))
        have t0 : ((w4.setCell ⟨w3.heap.size, 1, none⟩ (.int .i64 (min q (v + p)))).setCell ⟨w3.heap.size, 2, none⟩ (.int .i64 (v + p - min q (v + p)))).cell? ⟨w3.heap.size, 0, none⟩ = some (.int .i64 p) := by simp [go_sem, *]
        have t1 : ((w4.setCell ⟨w3.heap.size, 1, none⟩ (.int .i64 (min q (v + p)))).setCell ⟨w3.heap.size, 2, none⟩ (.int .i64 (v + p - min q (v + p)))).cell? ⟨w3.heap.size, 1, none⟩ = some (.int .i64 (min q (v + p))) := by simp [go_sem, *]
        have t2 : ((w4.setCell ⟨w3.heap.size, 1, none⟩ (.int .i64 (min q (v + p)))).setCell ⟨w3.heap.size, 2, none⟩ (.int .i64 (v + p - min q (v + p)))).cell? ⟨w3.heap.size, 2, none⟩ = some (.int .i64 (v + p - min q (v + p))) := by simp [go_sem, *]
        generalize ((w4.setCell ⟨w3.heap.size, 1, none⟩ (.int .i64 (min q (v + p)))).setCell ⟨w3.heap.size, 2, none⟩ (.int .i64 (v + p - min q (v + p)))) = v5 at *
        clear u0 u1 u2 f0 f1 f2 HC4 O4 hl4
        have hdb : 0 ≤ min q (v + p) ∧ min q (v + p) ≤ 39 ∧ min q (v + p) ≤ v + p := by omega
        have C5' := C5.out
        obtain ⟨ci, ch, hci, hco, hcx⟩ := C5'
        have HCO := Lib.hid hco
        clear hco C5
        go_wp2_with (at_builtin; refine wpList_push2 W (by (repeat (first | exact Ext.refl _ | assumption | refine Ext.alloc ?_ _ | refine Ext.drew ?_ | refine Ext.drewN ?_ _ | refine Ext.setCell ?_ (by (try simp only [World.size_alloc, World.size_setCell, World.size_drew, World.heap_drewN]); omega) _ | refine Ext.step (by assumption) ?_))) rfl _ _ _ rfl 32 (.agg #[.int .i64 0, .int .i64 0, .int .i64 0]) 3 24 elInfo Try.underlying24 rfl (by omega) _ _ _ _ rfl (Own.ext O5.out (by (repeat (first | exact Ext.refl _ | assumption | refine Ext.alloc ?_ _ | refine Ext.drew ?_ | refine Ext.drewN ?_ _ | refine Ext.setCell ?_ (by (try simp only [World.size_alloc, World.size_setCell, World.size_drew, World.heap_drewN]); omega) _ | refine Ext.step (by assumption) ?_)))) _ _ _ _ _ _ _ (Own.ext HCO.out (by (repeat (first | exact Ext.refl _ | assumption | refine Ext.alloc ?_ _ | refine Ext.drew ?_ | refine Ext.drewN ?_ _ | refine Ext.setCell ?_ (by (try simp only [World.size_alloc, World.size_setCell, World.size_drew, World.heap_drewN]); omega) _ | refine Ext.step (by assumption) ?_)))) HP.out _ _ _ rfl (by exact heap_last (by first | rfl | simp)) rfl (by simp [Value.oneCell']) (by omega) (by omega) ?_; intro AP cP wP hoP hxP hoQ hapP)
        have HSn := Lib.hid (Entry.all_snoc es ⟨p, min q (v + p), v + p - min q (v + p)⟩)
        have HOn := Lib.hid hoP
        have HQ := Lib.hid hoQ
        have HA := Lib.hid hapP
        clear hoP hoQ hapP
        go_wp2
        go_roundw
        case rel => exact ⟨k + 1, v + p - min q (v + p), AP, cP, es ++ [⟨p, min q (v + p), v + p - min q (v + p)⟩], by omega, by go_num, rfl, by omega, rfl, HE.out.snoc _ ⟨by simp only; omega, by simp only; omega, by simp only; omega⟩, by rw [← HSn.out]; exact HOn.out, ⟨ci, ch, hci, HQ.out, hxP⟩, HA.out⟩
        case measure => simp [intOf]; omega
    · obtain rfl : m = k := by omega
      have dk : decide (m < m) = false := decide_eq_false (by omega)
      go_wp2_with fail
      refine (below_c W B A n c 4 _ hC hcw (by omega)).mono ?_; rintro e w3 ⟨z, rfl, ⟨z1, z2⟩, hc3, g3⟩
      have O3 := Lib.hid (HO.out.kept g3 NB.out)
      have HC3 := Lib.hid hc3
      have hx3 := hc3.base
      clear hc3 g3
      have fin : ∀ (es' : List Entry) (wf : World), Es es' m → Own wf W.heap.size 32 3 A' m c' (Entry.all es') → EntsV W.heap.size (.returned (.tuple #[.slice A' m c', .int .i64 (50 + x)])) wf := fun es' wf h1 h2 =>
        ⟨es', 50 + x, A', c', by rw [h1.1], h1.drawn hm8 (by omega), by rw [h1.1]; exact h2⟩
      have FIN := Lib.hid fin
      clear fin
      by_cases z0 : z = 0
      · have z0b : (z == 0) = true := by simp [z0]
        have Z0 := Lib.hid z0
        clear z0
        by_cases hm0 : 0 < m
        · have dm : decide (0 < m) = true := decide_eq_true hm0
          obtain ⟨g, rfl, hg1, hg2⟩ := O3.out.form hm0
          have hgB : g ≠ B := by
            rcases HP.out with h | h
            · cases h
            · exact fun e => h (by rw [cur_block', cur_block', e])
          go_wp2_with fail
          refine (below_c W B A n c m _ hC HC3.out (by omega)).mono ?_; rintro e w4 ⟨i, rfl, ⟨i1, i2⟩, hc4, g4⟩
          obtain ⟨j, rfl⟩ : ∃ j : Nat, i = (j : Int) := ⟨i.toNat, by omega⟩
          have O4 := Lib.hid (O3.out.kept g4 NB.out)
          have HC4 := Lib.hid hc4
          clear hc4 g4
          go_wp2_with fail
          refine (below_c W B A n c 200 _ hC HC4.out (by omega)).mono ?_; rintro e w5 ⟨r, rfl, ⟨r1, r2⟩, hc5, g5⟩
          have o5 := O4.out.kept g5 NB.out
          have hx5 := hc5.base
          have hjm : j < m := by omega
          have hce := World.ownsRow.cellAt o5 (j * 3 + 2) (by omega)
          have hfr := World.ownsRow.frozenAt o5 (j * 3 + 2)
          have hst := (World.ownsRow.stored o5 (j * 3 + 2) (.int .i64 r)).1
          rw [Entry.set2 es j (by rw [HE.out.1]; exact hjm) r] at hst
          have hce2 := Entry.all_get2 es j (by rw [HE.out.1]; exact hjm)
          rw [hce2] at hce
          have HST := Lib.hid hst
          have HFE := Lib.hid (HE.out.2 j hjm)
          clear o5 hst hc5 g5 hce2
          go_wp2_with fail
          refine bodyPost_ret (v := .tuple #[.slice (some ⟨g, 0, none⟩) m c', .int .i64 (50 + x)]) (by simp [results, Try.results28, go_sem, *]) rfl ?_
          refine ⟨FIN.out _ _ (HE.out.set hjm _ ?_) HST.out, Ext.setCell hx5 hg1 _⟩
          have := HFE.out
          unfold eFine at *
          simp only
          omega
        · have dm : decide (0 < m) = false := decide_eq_false hm0
          go_wp2_with fail
          refine bodyPost_ret (v := .tuple #[.slice A' m c', .int .i64 (50 + x)]) (by simp [results, Try.results28, go_sem, *]) rfl ?_
          exact ⟨FIN.out _ _ HE.out O3.out, hx3⟩
      · have z0b : (z == 0) = false := by simp [z0]
        by_cases z9 : z = 1
        · have z1b : (z == 1) = true := by simp [z9]
          have Z1 := Lib.hid z9
          clear z9 z0
          by_cases hm0 : 0 < m
          · have dm : decide (0 < m) = true := decide_eq_true hm0
            obtain ⟨g, rfl, hg1, hg2⟩ := O3.out.form hm0
            have hgB : g ≠ B := by
              rcases HP.out with h | h
              · cases h
              · exact fun e => h (by rw [cur_block', cur_block', e])
            go_wp2_with fail
            refine (below_c W B A n c m _ hC HC3.out (by omega)).mono ?_; rintro e w4 ⟨i, rfl, ⟨i1, i2⟩, hc4, g4⟩
            obtain ⟨j, rfl⟩ : ∃ j : Nat, i = (j : Int) := ⟨i.toNat, by omega⟩
            have O4 := Lib.hid (O3.out.kept g4 NB.out)
            have HC4 := Lib.hid hc4
            clear hc4 g4
            go_wp2_with fail
            refine (below_c W B A n c 60 _ hC HC4.out (by omega)).mono ?_; rintro e w5 ⟨r, rfl, ⟨r1, r2⟩, hc5, g5⟩
            have o5 := O4.out.kept g5 NB.out
            have hx5 := hc5.base
            have hjm : j < m := by omega
            have hce := World.ownsRow.cellAt o5 (j * 3) (by omega)
            have hfr := World.ownsRow.frozenAt o5 (j * 3)
            have hst := (World.ownsRow.stored o5 (j * 3) (.int .i64 r)).1
            rw [Entry.set0 es j (by rw [HE.out.1]; exact hjm) r] at hst
            have hce2 := Entry.all_get0 es j (by rw [HE.out.1]; exact hjm)
            rw [hce2] at hce
            have HST := Lib.hid hst
            have HFE := Lib.hid (HE.out.2 j hjm)
            clear o5 hst hc5 g5 hce2
            go_wp2_with fail
            refine bodyPost_ret (v := .tuple #[.slice (some ⟨g, 0, none⟩) m c', .int .i64 (50 + x)]) (by simp [results, Try.results28, go_sem, *]) rfl ?_
            refine ⟨FIN.out _ _ (HE.out.set hjm _ ?_) HST.out, Ext.setCell hx5 hg1 _⟩
            have := HFE.out
            unfold eFine at *
            simp only
            omega
          · have dm : decide (0 < m) = false := decide_eq_false hm0
            go_wp2_with fail
            refine bodyPost_ret (v := .tuple #[.slice A' m c', .int .i64 (50 + x)]) (by simp [results, Try.results28, go_sem, *]) rfl ?_
            exact ⟨FIN.out _ _ HE.out O3.out, hx3⟩
        · have z1b : (z == 1) = false := by simp [z9]
          clear z9 z0
          go_wp2_with fail
          refine bodyPost_ret (v := .tuple #[.slice A' m c', .int .i64 (50 + x)]) (by simp [results, Try.results28, go_sem, *]) rfl ?_
          exact ⟨FIN.out _ _ HE.out O3.out, hx3⟩
theorem drawEntries_c (A : Option Addr) (n c : Nat) (w : World) (hC : Code8 w A n c) : Calls Try.prog 11 #[.slice A n c] w fun e w' => EntsV w.heap.size e w' ∧ Ext w w' := by
  go_enter Try.func11, Try.ntmps11
  go_wp2_with fail
  refine (new_c A n c _ (hC.ext (by (repeat (first | exact Ext.refl _ | assumption | refine Ext.alloc ?_ _ | refine Ext.drew ?_ | refine Ext.drewN ?_ _ | refine Ext.setCell ?_ (by (try simp only [World.size_alloc, World.size_setCell, World.size_drew, World.heap_drewN]); omega) _ | refine Ext.step (by assumption) ?_))))).mono ?_; rintro e w1 ⟨B, rfl, hc0⟩
  go_wp2_with fail
  refine (l18List_c _ B A n c _ (hC.ext (by (repeat (first | exact Ext.refl _ | assumption | refine Ext.alloc ?_ _ | refine Ext.drew ?_ | refine Ext.drewN ?_ _ | refine Ext.setCell ?_ (by (try simp only [World.size_alloc, World.size_setCell, World.size_drew, World.heap_drewN]); omega) _ | refine Ext.step (by assumption) ?_)))) hc0).mono ?_; rintro e w2 ⟨⟨es, s, A', c', rfl, hG, ho⟩, x2⟩
  have HO := Lib.hid ho
  have HG := Lib.hid hG
  clear ho hG
  go_wp2
  refine bodyPost_ret (v := .tuple #[.slice A' es.length c', .int .i64 s]) (by simp [results, Try.results11, go_sem, *]) rfl ?_
  exact ⟨⟨es, s, A', c', rfl, HG.out, HO.out⟩, x2⟩
end Go.Proofs.Ytpbjbfnmnihpiaa
