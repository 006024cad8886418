/-
  The draws of a pump and of prices.
-/
import Derived.Test.YtbenbjbfmcdedaaCur
import Derived.Test.YtbenbjbfmcdedaaBest
import Derived.Deep.RegionWith
import Derived.IntWalk
namespace Go.Proofs.Ytbenbjbfmcdedaa
open Go.RowKit

/-- k drawn prices -/
def Ps (zs : List Int) (k : Nat) : Prop := zs.length = k ∧ ∀ i, i < k → 0 ≤ nth zs i ∧ nth zs i ≤ 19
theorem nth_snoc (a : List Int) (x : Int) (i : Nat) : nth (a ++ [x]) i = if i < a.length then nth a i else if i = a.length then x else 0 := by
  unfold nth
  by_cases h : i < a.length
  · rw [if_pos h]; simp [List.getElem?_append_left h]
  · rw [if_neg h]
    by_cases h2 : i = a.length
    · subst h2; simp
    · rw [if_neg h2]; simp [List.getElem?_eq_none (l := a ++ [x]) (i := i) (by simp; omega)]
theorem Ps.snoc {zs : List Int} {k : Nat} (h : Ps zs k) (x : Int) (hx : 0 ≤ x ∧ x ≤ 19) : Ps (zs ++ [x]) (k + 1) := by
  refine ⟨by simp [h.1], fun i hi => ?_⟩
  rw [nth_snoc]
  split
  · exact h.2 i (by have := h.1; omega)
  · rw [if_pos (by have := h.1; omega)]; exact hx
/-- drawn prices -/
def DrawnP (zs : List Int) : Prop := (1 ≤ zs.length ∧ zs.length ≤ 12) ∧ ∀ i, i < zs.length → 0 ≤ nth zs i ∧ nth zs i ≤ 19
theorem Ps.drawn {zs : List Int} {k : Nat} (h : Ps zs k) (h1 : 1 ≤ k ∧ k ≤ 12) : DrawnP zs := ⟨by rw [h.1]; exact h1, fun i hi => by rw [h.1] at hi; exact h.2 i hi⟩
theorem ints_snoc (zs : List Int) (x : Int) : ints zs ++ [Value.int .i64 x] = ints (zs ++ [x]) := by simp [ints]
section
variable {P : Program}
/-- 'out = append(out, x)', and another row A1 that lies apart: it stays as it was, and apart. -/
theorem wpList_push3 {w : World} {ops : Array Oper} {rest : List Oper} {o : Oper} {a : Act} {Q : Exit → Act → World → Prop} (W : World) (hW : Ext W w) (hgd : o.guard = none) (s x : Operand) (t : TypeId)
    (ho : o.op = .call { callee := .builtin .append, args := #[s, x], argTypes := #[t, t] })
    (e : TypeId) (z : Value) (k bytes : Nat) (hinfo : (P.info? e).map (fun i => (i.zero, i.size, i.bytes)) = some (some z, k, bytes)) (ht : P.underlying t = some (.slice e))
    (hzs : z.cells.size = k) (hk : 0 < k) (A : Option Addr) (n c : Nat) (xs : List Value) (hs : a.eval s = .slice A n c) (hown : Own w W.heap.size e k A n c xs)
    (b1 : Nat) (e1 : TypeId) (k1 : Nat) (A1 : Option Addr) (n1 c1 : Nat) (xs1 : List Value) (hown1 : Own w b1 e1 k1 A1 n1 c1 xs1) (hap : Apart A n c A1 n1 c1)
    (B : Nat) (cs : Array Value) (ty : TypeId) (hx : a.eval x = .slice (some ⟨B, 0, none⟩) 1 1) (hB : w.heap[B]? = some (.cells cs ty (0, 0))) (hl : cs.size = k) (h1 : ∀ u ∈ cs.toList, u.oneCell' = true)
    (hn : (n + 1) * bytes ≤ 140737488355328) (hb0 : 0 < bytes)
    (h : ∀ A' c' w', Own w' W.heap.size e k A' (n + 1) c' (xs ++ cs.toList) → Ext W w' → Own w' b1 e1 k1 A1 n1 c1 xs1 → Apart A' (n + 1) c' A1 n1 c1 → w.grownBy w' (Value.slice A n c).ownBlock → (∀ g, (Value.slice A' (n + 1) c').ownBlock = some g → (Value.slice A n c).ownBlock = some g ∨ w.heap.size ≤ g) → wpList P ops Q rest (a.put o.dst (.slice A' (n + 1) c')) w') : wpList P ops Q (o :: rest) a w := by
  obtain ⟨i, hi, hz, hsz, hby⟩ := info_parts hinfo
  have hm : n + 1 ≤ maxLen := by
    have := Nat.le_mul_of_pos_right (n + 1) hb0
    unfold maxLen
    omega
  refine wpList_append_own_at w hgd s x t ho W.heap.size e i z k bytes ht hi hz hsz hby hzs hk (.slice A n c) n xs hs hown ⟨B, 0, none⟩ 1 1 cs.toList hx (by simpa using hl) (World.news_of_block hB) h1 hm hn hW.len ?_
  intro v' w' hown' hg _ hat
  obtain ⟨A', c', rfl, ho'⟩ := Own.of_row hown'
  refine h A' c' w' ho' (hW.grown hg fun g hgb => (hown.lt g hgb).1) (hown1.kept hg hap) ?_ hg ?_
  · rcases hap with h0 | h0
    · exact .inl h0
    · right
      rcases hat with h2 | h2
      · rw [h2]; exact h0
      · rw [h2]
        intro he
        have := (hown1.lt _ he).2
        omega
  · intro g hgb
    rcases hat with h2 | h2
    · exact .inl (by rw [← h2]; exact hgb)
    · rw [h2] at hgb
      injection hgb with e
      exact .inr (by omega)
end
theorem grown_row {w w3 w2 : World} {B : Nat} {r : Option Nat} (h : w.grownBy w3 (some B)) (k : w3.grownBy w2 r) (hr : ∀ g, r = some g → w.heap.size ≤ g) : w.grownBy w2 (some B) :=
  ⟨k.os.trans h.os, k.tape.trans h.tape, k.output.trans h.output, Nat.le_trans h.size k.size, fun i hi hb => (k.block i (Nat.lt_of_lt_of_le hi h.size) (fun e => by have := hr i e.symm; omega)).trans (h.block i hi hb)⟩
theorem l21Pump_c (W : World) (B : Nat) (A : Option Addr) (n c : Nat) (w : World) (hC : Code8 W A n c) (hc : Cur W w B A n c) :
    Calls Try.prog 49 #[.pointer (some ⟨B, 0, none⟩)] w fun e w' => ∃ a b : Int, e = .returned (.agg #[.int .i64 a, .int .i64 b]) ∧ (1 ≤ a ∧ a ≤ 40) ∧ (1 ≤ b ∧ b ≤ 60) ∧ Cur W w' B A n c ∧ w.grownBy w' (some B) := by
  have hl := hc.lt
  go_enter Try.func49, Try.ntmps49
  go_wp2_with fail
  refine (below_c W B A n c 40 _ hC (hc.ext (by (repeat (first | exact Ext.refl _ | assumption | refine Ext.alloc ?_ _ | refine Ext.drew ?_ | refine Ext.drewN ?_ _ | refine Ext.setCell ?_ (by (try simp only [World.size_alloc, World.size_setCell, World.size_drew, World.heap_drewN]); omega) _ | refine Ext.step (by assumption) ?_)))) (by omega)).mono ?_; rintro e w1 ⟨x, rfl, ⟨x1, x2⟩, hc1, g1⟩
  go_wp2_with fail
  refine (below_c W B A n c 60 _ hC hc1 (by omega)).mono ?_; rintro e w2 ⟨y, rfl, ⟨y1, y2⟩, hc2, g2⟩
  have hb0 := Own.lit (w := w.alloc (.cells #[.int .i64 0, .int .i64 0] 25)) (base := w.heap.size) (e := 25) (k := 2) (n := 1) (cs := #[.int .i64 0, .int .i64 0]) (heap_alloc_new _ _) (by unfold maxLen; omega) (by simp)
  have nb : w.heap.size ≠ B := by omega
  have nb' : B ≠ w.heap.size := by omega
  have o2 := (hb0.kept g1 (.inr (by rw [cur_block']; simp [nb]))).kept g2 (.inr (by rw [cur_block']; simp [nb]))
  have u0 : w2.cell? ⟨w.heap.size, 0, none⟩ = some (.int .i64 0) := World.ownsRow.cellAt o2 0 (by omega)
  have u1 : w2.cell? ⟨w.heap.size, 1, none⟩ = some (.int .i64 0) := World.ownsRow.cellAt o2 1 (by omega)
  have f0 := World.ownsRow.frozenAt o2 0
  have f1 := World.ownsRow.frozenAt o2 1
  have gg : w.grownBy w2 (some B) := (((show Ext w (w.alloc (.cells #[.int .i64 0, .int .i64 0] 25)) from by (repeat (first | exact Ext.refl _ | assumption | refine Ext.alloc ?_ _ | refine Ext.drew ?_ | refine Ext.drewN ?_ _ | refine Ext.setCell ?_ (by (try simp only [World.size_alloc, World.size_setCell, World.size_drew, World.heap_drewN]); omega) _ | refine Ext.step (by assumption) ?_))).grownBy (some B)).trans g1).trans g2
  have hW := hl.1
  go_wp2
  refine bodyPost_ret (v := .agg #[.int .i64 (1 + x), .int .i64 (1 + y)]) (by simp [results, Try.results49, go_sem, *]) rfl ?_
  refine ⟨1 + x, 1 + y, rfl, by omega, by omega, ?_, grownBy_new (grownBy_new gg (Nat.le_refl _) _) (Nat.le_refl _) _⟩
  exact (hc2.kept (grownBy_set (g := w.heap.size) (World.grownBy.refl _ _)) nb' (by omega)).kept (grownBy_set (World.grownBy.refl _ _)) nb' (by omega)
set_option maxRecDepth 100000 in
set_option maxHeartbeats 3200000 in
theorem l21Prices_c (W : World) (B : Nat) (A : Option Addr) (n c : Nat) (w : World) (hC : Code8 W A n c) (hc : Cur W w B A n c) :
    Calls Try.prog 50 #[.pointer (some ⟨B, 0, none⟩)] w fun e w' => ∃ (zs : List Int) (A' : Option Addr) (c' : Nat), e = .returned (.slice A' zs.length c') ∧ DrawnP zs ∧ Own w' W.heap.size 3 1 A' zs.length c' (ints zs) ∧ (∀ g, (Value.slice A' zs.length c').ownBlock = some g → w.heap.size ≤ g) ∧ Cur W w' B A n c ∧ w.grownBy w' (some B) := by
  have hl := hc.lt
  have hlW := hc.base.len
  have H0 := Lib.hid (Own.lit (w := w.alloc (.cells #[] 3)) (base := w.heap.size) (e := 3) (k := 1) (n := 0) (cs := #[]) (heap_alloc_new _ _) (by unfold maxLen; omega) rfl)
  have G0 := Lib.hid ((show Ext w (w.alloc (.cells #[] 3)) from by (repeat (first | exact Ext.refl _ | assumption | refine Ext.alloc ?_ _ | refine Ext.drew ?_ | refine Ext.drewN ?_ _ | refine Ext.setCell ?_ (by (try simp only [World.size_alloc, World.size_setCell, World.size_drew, World.heap_drewN]); omega) _ | refine Ext.step (by assumption) ?_))).grownBy (some B))
  go_enter Try.func50, Try.ntmps50
  go_wp2_with fail
  refine (below_c W B A n c 12 _ hC (hc.ext (by (repeat (first | exact Ext.refl _ | assumption | refine Ext.alloc ?_ _ | refine Ext.drew ?_ | refine Ext.drewN ?_ _ | refine Ext.setCell ?_ (by (try simp only [World.size_alloc, World.size_setCell, World.size_drew, World.heap_drewN]); omega) _ | refine Ext.step (by assumption) ?_)))) (by omega)).mono ?_; rintro e w1 ⟨x, rfl, ⟨x1, x2⟩, hc1, g1⟩
  obtain ⟨j, rfl⟩ : ∃ j : Nat, x = (j : Int) := ⟨x.toNat, by omega⟩
  have hm12 : 1 ≤ j + 1 ∧ j + 1 ≤ 12 := by omega
  have H1 := Lib.hid ((H0.out.kept g1 (.inr (by rw [cur_block']; simp; omega))).mono hlW)
  have H1B := Lib.hid (fun (g : Nat) (hg : (Value.slice (some ⟨w.heap.size, 0, none⟩) 0 0).ownBlock = some g) => show w.heap.size ≤ g from by have e : w.heap.size = g := Option.some.inj hg; omega)
  have G1 := Lib.hid (G0.out.trans g1)
  have hap : Apart (some ⟨w.heap.size, 0, none⟩) 0 0 (some ⟨B, 0, none⟩) 1 1 := .inr (by rw [cur_block', cur_block']; simp; omega)
  clear hc H0 g1 G0
  go_wp2_with fail
  go_loopw [3, 5] (fun s i wr => ∃ (k : Nat) (A' : Option Addr) (c' : Nat) (zs : List Int), k ≤ j + 1 ∧ i = .int .i64 k ∧ s = .slice A' k c' ∧ Ps zs k ∧ Own wr W.heap.size 3 1 A' k c' (ints zs) ∧ Hid (∀ g, (Value.slice A' k c').ownBlock = some g → w.heap.size ≤ g) ∧ Cur W wr B A n c ∧ Apart A' k c' (some ⟨B, 0, none⟩) 1 1 ∧ w.grownBy wr (some B)) (fun _ i _ => j + 1 - (intOf i).toNat)
  case atStart => exact ⟨0, _, 0, [], Nat.zero_le _, rfl, rfl, ⟨rfl, fun i hi => by omega⟩, H1.out, fun g hg => (H1B.out g hg), hc1, hap, G1.out⟩
  case round =>
    clear H1 hap hc1 G1 H1B
    obtain ⟨k, A', c', zs, hk, rfl, rfl, hR, ho, hbk, hcw, hap, hg⟩ := hrel
    have HR := Lib.hid hR
    have HO := Lib.hid ho
    have HP := Lib.hid hap
    have HG := Lib.hid hg
    have nb : (Value.slice A' k c').ownBlock = none ∨ (Value.slice A' k c').ownBlock ≠ some B := by
      rcases hap with h | h
      · cases h
      · exact .inr fun e => h (by rw [cur_block', e])
    have NB := Lib.hid nb
    clear hR ho hap nb hg
    by_cases hlt : k < j + 1
    · have dk : decide ((k : Int) < 1 + (j : Int)) = true := decide_eq_true (by omega)
      have dk' : decide (k < 1 + j) = true := decide_eq_true (by omega)
      go_wp2_with fail
      refine (below_c W B A n c 20 _ hC hcw (by omega)).mono ?_; rintro e w3 ⟨p, rfl, ⟨p1, p2⟩, hc3, g3⟩
      have O3 := Lib.hid (HO.out.kept g3 NB.out)
      have G3 := Lib.hid (HG.out.trans g3)
      obtain ⟨ci, ch, hci, hco, hcx⟩ := hc3
      have HCO := Lib.hid hco
      have HCX := Lib.hid hcx
      clear hco hcw HO HG g3 hcx
      have OW := O3
      have hcx := HCX.out
      go_wp2_with (at_builtin; refine wpList_push3 W (by (repeat (first | exact Ext.refl _ | assumption | refine Ext.alloc ?_ _ | refine Ext.drew ?_ | refine Ext.drewN ?_ _ | refine Ext.setCell ?_ (by (try simp only [World.size_alloc, World.size_setCell, World.size_drew, World.heap_drewN]); omega) _ | refine Ext.step (by assumption) ?_))) rfl _ _ _ rfl 3 (.int .i64 0) 1 8 intInfo Try.underlying32 rfl (by omega) _ _ _ _ rfl (Own.ext (OW.out) (by (repeat (first | exact Ext.refl _ | assumption | refine Ext.alloc ?_ _ | refine Ext.drew ?_ | refine Ext.drewN ?_ _ | refine Ext.setCell ?_ (by (try simp only [World.size_alloc, World.size_setCell, World.size_drew, World.heap_drewN]); omega) _ | refine Ext.step (by assumption) ?_)))) _ _ _ _ _ _ _ (Own.ext HCO.out (by (repeat (first | exact Ext.refl _ | assumption | refine Ext.alloc ?_ _ | refine Ext.drew ?_ | refine Ext.drewN ?_ _ | refine Ext.setCell ?_ (by (try simp only [World.size_alloc, World.size_setCell, World.size_drew, World.heap_drewN]); omega) _ | refine Ext.step (by assumption) ?_)))) HP.out _ _ _ rfl (by exact heap_last (by first | rfl | simp)) rfl (by simp [Value.oneCell']) (by omega) (by omega) ?_; intro A2 c2 w2 ho2 hx2 ho3 hap2 hg2 hat2)
      have HN := Lib.hid (show Own w2 W.heap.size 3 1 A2 (k + 1) c2 (ints (zs ++ [p])) from by rw [← ints_snoc]; exact ho2)
      have HQ := Lib.hid ho3
      have HA := Lib.hid hap2
      have HB2 : Hid (∀ g, (Value.slice A2 (k + 1) c2).ownBlock = some g → w.heap.size ≤ g) := fun g hg => by
        rcases hat2 g hg with q | q
        · exact hbk.out g q
        · have := G3.out.size; rw [World.size_alloc] at q; omega
      have G2 := Lib.hid (grown_row (G3.out.trans ((show Ext w3 (w3.alloc (.cells #[.int .i64 p] 3)) from by (repeat (first | exact Ext.refl _ | assumption | refine Ext.alloc ?_ _ | refine Ext.drew ?_ | refine Ext.drewN ?_ _ | refine Ext.setCell ?_ (by (try simp only [World.size_alloc, World.size_setCell, World.size_drew, World.heap_drewN]); omega) _ | refine Ext.step (by assumption) ?_))).grownBy (some B))) hg2 hbk.out)
      clear ho2 ho3 hap2 hg2 hat2
      go_wp2_with fail
      go_roundw
      case rel => exact ⟨k + 1, A2, c2, zs ++ [p], by omega, by go_num, rfl, HR.out.snoc p (by omega), HN.out, HB2, ⟨ci, ch, hci, HQ.out, hx2⟩, HA.out, G2.out⟩
      case measure => simp [intOf]; omega
    · obtain rfl : k = j + 1 := by omega
      have dk : decide (((j + 1 : Nat) : Int) < 1 + (j : Int)) = false := decide_eq_false (by omega)
      have dk' : decide ((j : Int) + 1 < 1 + (j : Int)) = false := decide_eq_false (by omega)
      have HCW := Lib.hid hcw
      clear hcw
      go_wp2
      go_ret
      refine ⟨zs, A', c', ?_, HR.out.drawn hm12, ?_, ?_, HCW.out, HG.out⟩
      · rw [HR.out.1]; rfl
      · rw [HR.out.1]; exact HO.out
      · rw [HR.out.1]; exact hbk.out
theorem drawPump_c (A : Option Addr) (n c : Nat) (w : World) (hC : Code8 w A n c) : Calls Try.prog 32 #[.slice A n c] w fun e w' => ∃ (a b : Int) (zs : List Int) (A' : Option Addr) (c' : Nat), e = .returned (.tuple #[.agg #[.int .i64 a, .int .i64 b], .slice A' zs.length c']) ∧ (1 ≤ a ∧ a ≤ 40) ∧ (1 ≤ b ∧ b ≤ 60) ∧ DrawnP zs ∧ Own w' w.heap.size 3 1 A' zs.length c' (ints zs) ∧ Ext w w' := by
  go_enter Try.func32, Try.ntmps32
  go_wp2_with fail
  refine (new_c A n c _ (hC.ext (by (repeat (first | exact Ext.refl _ | assumption | refine Ext.alloc ?_ _ | refine Ext.drew ?_ | refine Ext.drewN ?_ _ | refine Ext.setCell ?_ (by (try simp only [World.size_alloc, World.size_setCell, World.size_drew, World.heap_drewN]); omega) _ | refine Ext.step (by assumption) ?_))))).mono ?_; rintro e w1 ⟨B, rfl, hc0⟩
  have hlt := hc0.lt
  simp only [World.size_alloc] at hlt
  have ho1 := (Own.lit (w := w.alloc (.cells #[.int .i64 0, .int .i64 0] 25)) (base := w.heap.size) (e := 25) (k := 2) (n := 1) (cs := #[.int .i64 0, .int .i64 0]) (heap_alloc_new _ _) (by unfold maxLen; omega) (by simp)).ext (w' := w1) hc0.base
  have hc1 : Cur w w1 B A n c := hc0.wider (by (repeat (first | exact Ext.refl _ | assumption | refine Ext.alloc ?_ _ | refine Ext.drew ?_ | refine Ext.drewN ?_ _ | refine Ext.setCell ?_ (by (try simp only [World.size_alloc, World.size_setCell, World.size_drew, World.heap_drewN]); omega) _ | refine Ext.step (by assumption) ?_)))
  clear hc0
  go_wp2_with fail
  refine (l21Pump_c w B A n c _ hC hc1).mono ?_; rintro e w2 ⟨a, b, rfl, ha, hb, hc2, g2⟩
  have hb3 := hc2.lt
  have hb4 : B ≠ w2.heap.size := by omega
  have hb5 : B ≠ w.heap.size := by omega
  replace ho1 := ho1.kept g2 (.inr (by rw [cur_block']; simp; omega))
  have ho3 := Own.lit (w := w2.alloc (.cells #[.int .i64 a, .int .i64 b] 25)) (base := w2.heap.size) (e := 25) (k := 2) (n := 1) (cs := #[.int .i64 a, .int .i64 b]) (heap_alloc_new _ _) (by unfold maxLen; omega) (by simp)
  have HC := Lib.hid hc2
  have H1 := Lib.hid ho1
  have H3 := Lib.hid ho3
  clear hc2 ho1 ho3
  go_wp2
  go_region_with ((go_at_call 50; refine (l21Prices_c w B A n c _ hC (HC.out.ext (by (repeat (first | exact Ext.refl _ | assumption | refine Ext.alloc ?_ _ | refine Ext.drew ?_ | refine Ext.drewN ?_ _ | refine Ext.setCell ?_ (by (try simp only [World.size_alloc, World.size_setCell, World.size_drew, World.heap_drewN]); omega) _ | refine Ext.step (by assumption) ?_))))).mono ?_; rintro e w3 ⟨zs, A', c', rfl, hz, hoz, hbz, hc3, g3⟩; have k1 := ((H1.out.ext (w' := _) (by (repeat (first | exact Ext.refl _ | assumption | refine Ext.alloc ?_ _ | refine Ext.drew ?_ | refine Ext.drewN ?_ _ | refine Ext.setCell ?_ (by (try simp only [World.size_alloc, World.size_setCell, World.size_drew, World.heap_drewN]); omega) _ | refine Ext.step (by assumption) ?_)))).kept g3 (.inr (by rw [cur_block']; simp; omega))); have k3 := ((H3.out.ext (w' := _) (by (repeat (first | exact Ext.refl _ | assumption | refine Ext.alloc ?_ _ | refine Ext.drew ?_ | refine Ext.drewN ?_ _ | refine Ext.setCell ?_ (by (try simp only [World.size_alloc, World.size_setCell, World.size_drew, World.heap_drewN]); omega) _ | refine Ext.step (by assumption) ?_)))).kept g3 (.inr (by rw [cur_block']; simp; omega))); have u0 : w3.cell? ⟨w.heap.size, 0, none⟩ = some (.int .i64 0) := World.ownsRow.cellAt k1 0 (by omega); have u1 : w3.cell? ⟨w.heap.size, 1, none⟩ = some (.int .i64 0) := World.ownsRow.cellAt k1 1 (by omega); have t0 : w3.cell? ⟨w2.heap.size, 0, none⟩ = some (.int .i64 a) := World.ownsRow.cellAt k3 0 (by omega); have t1 : w3.cell? ⟨w2.heap.size, 1, none⟩ = some (.int .i64 b) := World.ownsRow.cellAt k3 1 (by omega); have f0 := World.ownsRow.frozenAt k1 0; have f1 := World.ownsRow.frozenAt k1 1; have HZ := Lib.hid hz; have HOZ := Lib.hid hoz; have HBZ := Lib.hid hbz; have x3 := hc3.base; have sz3 := g3.size; clear hz hoz hbz k1 k3 hc3 g3))
  all_goals (go_wp2; refine bodyPost_ret (v := .tuple #[.agg #[.int .i64 a, .int .i64 b], .slice A' zs.length c']) (by simp [results, Try.results32, go_sem, *]) rfl ?_; refine ⟨a, b, zs, A', c', rfl, ha, hb, HZ.out, ?_, by (repeat (first | exact Ext.refl _ | assumption | refine Ext.alloc ?_ _ | refine Ext.drew ?_ | refine Ext.drewN ?_ _ | refine Ext.setCell ?_ (by (try simp only [World.size_alloc, World.size_setCell, World.size_drew, World.heap_drewN]); omega) _ | refine Ext.step (by assumption) ?_))⟩)
  all_goals (refine Own.kept HOZ.out (grownBy_set (g := w.heap.size) (grownBy_set (World.grownBy.refl _ _))) ?_; cases hob : (Value.slice A' zs.length c').ownBlock with | none => exact .inl rfl | some g => exact .inr fun e => by (have := HBZ.out g hob; injection e with e; (try simp at this); omega))
end Go.Proofs.Ytbenbjbfmcdedaa
