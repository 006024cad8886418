/-
  The contract of Netted, of the program and of the reference.
-/
import Derived.Test.YtcjlipcoefcmgaaTradeA
import Derived.Test.YtcjlipcoefcmgaaSetDebt
namespace Go.Proofs.Ytcjlipcoefcmgaa
open Go.RowKit

/-- what the pair a, b adds -/
noncomputable def netItem (es : List Debt) (a b : Int) : List Debt := if 0 < owesF es a b then [⟨a, b, owesF es a b⟩] else if owesF es a b < 0 then [⟨b, a, -(owesF es a b)⟩] else []
/-- the pairs of a and a + 1, .. a + j -/
noncomputable def netRow (es : List Debt) (a : Int) : Nat → List Debt
  | 0 => []
  | j + 1 => netRow es a j ++ netItem es a (a + 1 + j)
/-- all pairs whose first is at most k -/
noncomputable def netAll (es : List Debt) : Nat → List Debt
  | 0 => []
  | k + 1 => netAll es k ++ netRow es ((k : Int) + 1) (19 - k)
noncomputable def netPart (es : List Debt) (k j : Nat) : List Debt := netAll es k ++ netRow es ((k : Int) + 1) j
theorem netPart_zero (es : List Debt) (k : Nat) : netPart es k 0 = netAll es k := by simp [netPart, netRow]
theorem netPart_full (es : List Debt) (k : Nat) : netPart es k (19 - k) = netAll es (k + 1) := rfl
theorem netItem_len (es : List Debt) (a b : Int) : (netItem es a b).length ≤ 1 := by
  unfold netItem
  split
  · simp
  · split <;> simp
theorem netRow_len (es : List Debt) (a : Int) (j : Nat) : (netRow es a j).length ≤ j := by
  induction j with
  | zero => simp [netRow]
  | succ j ih =>
    have := netItem_len es a (a + 1 + j)
    rw [netRow, List.length_append]
    omega
theorem netAll_len (es : List Debt) (k : Nat) : (netAll es k).length ≤ k * 20 := by
  induction k with
  | zero => simp [netAll]
  | succ k ih =>
    have := netRow_len es ((k : Int) + 1) (19 - k)
    rw [netAll, List.length_append]
    omega
theorem netPart_len (es : List Debt) (k j : Nat) (hk : k ≤ 20) (hj : j ≤ 20) : (netPart es k j).length ≤ 420 := by
  have := netAll_len es k
  have := netRow_len es ((k : Int) + 1) j
  rw [netPart, List.length_append]
  omega
theorem netPart_step (es : List Debt) (k j : Nat) : netPart es k (j + 1) = netPart es k j ++ netItem es ((k : Int) + 1) ((k : Int) + 2 + j) := by
  have e : (k : Int) + 1 + 1 + (j : Int) = (k : Int) + 2 + j := by omega
  rw [netPart, netPart, netRow, List.append_assoc, e]
theorem netItem_pos {es : List Debt} {a b : Int} (h : 0 < owesF es a b) : netItem es a b = [⟨a, b, owesF es a b⟩] := if_pos h
theorem netItem_neg {es : List Debt} {a b : Int} (h : owesF es a b < 0) : netItem es a b = [⟨b, a, -(owesF es a b)⟩] := by rw [netItem, if_neg (by omega), if_pos h]
theorem netItem_zero {es : List Debt} {a b : Int} (h : owesF es a b = 0) : netItem es a b = [] := by rw [netItem, if_neg (by omega), if_neg (by omega)]
def netGood (es : List Debt) (a b : Int) : Prop := -10000 ≤ owesF es a b ∧ owesF es a b ≤ 10000
def netAllGood (es : List Debt) : Prop := ∀ a b : Int, 1 ≤ a → a < b → b ≤ 20 → netGood es a b
open Classical in
/-- what Netted answers -/
noncomputable def nettedF (es : List Debt) : List Debt := if debB es = true ∧ netAllGood es then netAll es 20 else []
theorem nettedF_no {es : List Debt} (h : ¬ (debB es = true ∧ netAllGood es)) : nettedF es = [] := if_neg h
theorem nettedF_yes {es : List Debt} (h : debB es = true ∧ netAllGood es) : nettedF es = netAll es 20 := if_pos h
theorem nettedF_len (es : List Debt) : (nettedF es).length ≤ 400 := by
  unfold nettedF
  split
  · have := netAll_len es 20; omega
  · simp
theorem owesF_bd (es : List Debt) (a b : Int) : -300000 ≤ owesF es a b ∧ owesF es a b ≤ 300000 := by
  unfold owesF
  split
  · rename_i h
    have hl := (debB_at h).1
    have := sumG_bd (b := 10000) (owesI_bd h a b) es.length (Nat.le_refl _)
    omega
  · omega
theorem size_c (x : Int) (w : World) (hx : -1000000 ≤ x ∧ x ≤ 1000000) : Calls Try.prog 36 #[.int .i64 x] w fun e w' => e = .returned (.int .i64 (if x < 0 then -x else x)) ∧ w = w' := by
  by_cases h : x < 0
  · go_enter Try.func36, Try.ntmps36
    go_wp2
    go_ret
    exact ⟨rfl, rfl⟩
  · go_enter Try.func36, Try.ntmps36
    go_wp2
    go_ret
    exact ⟨rfl, rfl⟩
theorem good_step {es : List Debt} {k j : Nat} (h : ∀ i : Nat, i < j → netGood es ((k : Int) + 1) ((k : Int) + 2 + i)) (h1 : netGood es ((k : Int) + 1) ((k : Int) + 2 + j)) : ∀ i : Nat, i < j + 1 → netGood es ((k : Int) + 1) ((k : Int) + 2 + i) := fun i hi => by
  rcases Nat.lt_succ_iff_lt_or_eq.1 hi with hi | rfl
  · exact h i hi
  · exact h1
theorem good_row {es : List Debt} {k : Nat} (h : ∀ a b : Int, 1 ≤ a → a ≤ k → a < b → b ≤ 20 → netGood es a b) (h1 : ∀ i : Nat, i < 19 - k → netGood es ((k : Int) + 1) ((k : Int) + 2 + i)) : ∀ a b : Int, 1 ≤ a → a ≤ ((k + 1 : Nat) : Int) → a < b → b ≤ 20 → netGood es a b := fun a b h2 h3 h4 h5 => by
  by_cases e : a ≤ (k : Int)
  · exact h a b h2 e h4 h5
  · obtain rfl : a = (k : Int) + 1 := by omega
    have := h1 (b - (k + 2)).toNat (by omega)
    rwa [show (k : Int) + 2 + ((b - (k + 2)).toNat : Int) = b from by omega] at this
set_option maxHeartbeats 3200000 in
theorem netted_c (A : Option Addr) (n c : Nat) (es : List Debt) (w : World) (h : Holds w 3 A n c (Debt.all es)) :
    Calls Try.prog 25 #[.slice A n c] w (Fresh 41 3 (nettedF es).length (Debt.all (nettedF es)) w) := by
  by_cases h1 : debB es = true
  · go_enter Try.func25, Try.ntmps25
    go_wp2_with (go_at_call 13; refine (debtsOk_c _ _ _ es _ h).mono ?_; rintro e w1 ⟨rfl, hx⟩; have hl := hx.len; (try simp only [World.size_alloc, World.size_setCell, World.size_drew, World.heap_drewN] at hl))
    have hx0 := hx
    go_loopw [2, 3, 4] (fun _ v i wr => ∃ (k : Nat) (A' : Option Addr) (c' : Nat), k ≤ 20 ∧ i = .int .i64 ((k : Int) + 1) ∧ v = .slice A' (netAll es k).length c' ∧ Own wr w.heap.size 41 3 A' (netAll es k).length c' (Debt.all (netAll es k)) ∧ Hid (∀ a b : Int, 1 ≤ a → a ≤ k → a < b → b ≤ 20 → netGood es a b) ∧ Ext w wr) (fun _ _ i _ => 21 - (intOf i).toNat)
    case atStart => exact ⟨0, none, 0, by omega, rfl, rfl, Own.nil_ _ _ _ _, fun a b h1 h2 => absurd h2 (by omega), hx0⟩
    case round =>
      clear hx0
      obtain ⟨k, A', c', hk, rfl, rfl, ho, hg, hx⟩ := hrel
      by_cases hlt : k < 20
      · have hlen := netPart_len es k 0 (by omega) (by omega)
        rw [← netPart_zero] at ho
        have HO := Lib.hid ho
        clear ho
        have dk : decide ((k : Int) + 1 ≤ 20) = true := decide_eq_true (by omega)
        have hz : (netAll es k).length = (netPart es k 0).length := by rw [netPart_zero]
        go_wp2
        go_loopw [2, 3, 5] (fun _ v i wr2 => ∃ (j : Nat) (A' : Option Addr) (c' : Nat), j ≤ 19 - k ∧ i = .int .i64 ((k : Int) + 2 + j) ∧ v = .slice A' (netPart es k j).length c' ∧ Own wr2 w.heap.size 41 3 A' (netPart es k j).length c' (Debt.all (netPart es k j)) ∧ Hid (∀ i : Nat, i < j → netGood es ((k : Int) + 1) ((k : Int) + 2 + i)) ∧ Ext w wr2) (fun _ _ i _ => 21 - (intOf i).toNat)
        case atStart => exact ⟨0, A', c', by omega, by go_num, by first | rfl | rw [hz], HO.out, fun i hi => absurd hi (by omega), hx⟩
        case round =>
          clear HO hz
          obtain ⟨j, A', c', hj, rfl, rfl, ho, hgi, hx⟩ := hrel
          have hlen := netPart_len es k j (by omega) (by omega)
          by_cases hjl : j < 19 - k
          · have HST := Lib.hid (netPart_step es k j)
            go_wp2_with fail
            refine (owes_c _ _ _ es _ _ _ (h.ext hx)).mono ?_; rintro e w2 ⟨rfl, x2⟩
            obtain ⟨x, hxe⟩ : ∃ x, x = owesF es ((k : Int) + 1) ((k : Int) + 2 + j) := ⟨_, rfl⟩
            have hbd := owesF_bd es ((k : Int) + 1) ((k : Int) + 2 + j)
            rw [← hxe] at hbd ⊢
            have HX := Lib.hid hxe
            clear hxe
            have hx2' := hx.trans x2
            replace ho := ho.ext x2
            by_cases b1 : 10000 < x
            · have H := Lib.hid (show nettedF es = [] from nettedF_no (fun e => by have := e.2 ((k : Int) + 1) ((k : Int) + 2 + j) (by omega) (by omega) (by omega); have hq := this.2; rw [← HX.out] at hq; omega))
              go_wp2_with (go_at_call 36; refine (size_c _ _ (by omega)).mono ?_; rintro e w' ⟨rfl, rfl⟩)
              go_ret
              rw [H.out]
              exact Fresh.nil_ hx2'
            · by_cases b2 : x < -10000
              · have H := Lib.hid (show nettedF es = [] from nettedF_no (fun e => by have := e.2 ((k : Int) + 1) ((k : Int) + 2 + j) (by omega) (by omega) (by omega); have hq := this.1; rw [← HX.out] at hq; omega))
                go_wp2_with (go_at_call 36; refine (size_c _ _ (by omega)).mono ?_; rintro e w' ⟨rfl, rfl⟩)
                go_ret
                rw [H.out]
                exact Fresh.nil_ hx2'
              · have G := Lib.hid (good_step hgi.out (show netGood es ((k : Int) + 1) ((k : Int) + 2 + j) from ⟨by rw [← HX.out]; omega, by rw [← HX.out]; omega⟩))
                by_cases b3 : 0 < x
                · have e1 : netPart es k (j + 1) = netPart es k j ++ [⟨(k : Int) + 1, (k : Int) + 2 + j, x⟩] := by rw [HST.out, netItem_pos (by rw [← HX.out]; exact b3), ← HX.out]
                  have E1 := Lib.hid e1
                  have l1 : (netPart es k (j + 1)).length = (netPart es k j).length + 1 := by rw [e1]; simp
                  have L1 := Lib.hid l1
                  clear e1 l1
                  go_wp2_with (first | (at_builtin; refine wpList_push w (by (repeat (first | exact Ext.refl _ | assumption | refine Ext.alloc ?_ _ | refine Ext.drew ?_ | refine Ext.drewN ?_ _ | refine Ext.setCell ?_ (by (try simp only [World.size_alloc, World.size_setCell, World.size_drew, World.heap_drewN]); omega) _ | refine Ext.step (by assumption) ?_))) rfl _ _ _ rfl 41 (.agg #[.int .i64 0, .int .i64 0, .int .i64 0]) 3 24 elInfo Try.underlying25 rfl (by omega) _ _ _ _ rfl (Own.ext ho (by (repeat (first | exact Ext.refl _ | assumption | refine Ext.alloc ?_ _ | refine Ext.drew ?_ | refine Ext.drewN ?_ _ | refine Ext.setCell ?_ (by (try simp only [World.size_alloc, World.size_setCell, World.size_drew, World.heap_drewN]); omega) _ | refine Ext.step (by assumption) ?_)))) _ _ _ rfl (by exact heap_last (by first | rfl | simp)) rfl (by simp [Value.oneCell']) (by omega) (by omega) ?_; intro A2 c2 w2 ho2 hx2) | (go_at_call 36; refine (size_c _ _ (by omega)).mono ?_; rintro e w' ⟨rfl, rfl⟩))
                  have HO := Lib.hid ho2
                  clear ho2 ho
                  go_wp2
                  go_roundw
                  case rel => first | exact ⟨j + 1, A2, c2, by omega, by go_num, by rw [L1.out], by rw [L1.out, E1.out, ← Debt.all_snoc]; exact HO.out, G.out, hx2⟩ | exact ⟨_, _, _, ⟨j + 1, by omega, rfl, A2, c2, rfl, by rw [L1.out, E1.out, ← Debt.all_snoc]; exact HO.out, G.out⟩, rfl, by rw [L1.out], by go_num⟩
                  case measure => simp [intOf]; omega
                · by_cases b4 : x < 0
                  · have e1 : netPart es k (j + 1) = netPart es k j ++ [⟨(k : Int) + 2 + j, (k : Int) + 1, -x⟩] := by rw [HST.out, netItem_neg (by rw [← HX.out]; exact b4), ← HX.out]
                    have E1 := Lib.hid e1
                    have l1 : (netPart es k (j + 1)).length = (netPart es k j).length + 1 := by rw [e1]; simp
                    have L1 := Lib.hid l1
                    clear e1 l1
                    go_wp2_with (first | (at_builtin; refine wpList_push w (by (repeat (first | exact Ext.refl _ | assumption | refine Ext.alloc ?_ _ | refine Ext.drew ?_ | refine Ext.drewN ?_ _ | refine Ext.setCell ?_ (by (try simp only [World.size_alloc, World.size_setCell, World.size_drew, World.heap_drewN]); omega) _ | refine Ext.step (by assumption) ?_))) rfl _ _ _ rfl 41 (.agg #[.int .i64 0, .int .i64 0, .int .i64 0]) 3 24 elInfo Try.underlying25 rfl (by omega) _ _ _ _ rfl (Own.ext ho (by (repeat (first | exact Ext.refl _ | assumption | refine Ext.alloc ?_ _ | refine Ext.drew ?_ | refine Ext.drewN ?_ _ | refine Ext.setCell ?_ (by (try simp only [World.size_alloc, World.size_setCell, World.size_drew, World.heap_drewN]); omega) _ | refine Ext.step (by assumption) ?_)))) _ _ _ rfl (by exact heap_last (by first | rfl | simp)) rfl (by simp [Value.oneCell']) (by omega) (by omega) ?_; intro A2 c2 w2 ho2 hx2) | (go_at_call 36; refine (size_c _ _ (by omega)).mono ?_; rintro e w' ⟨rfl, rfl⟩))
                    have HO := Lib.hid ho2
                    clear ho2 ho
                    go_wp2
                    go_roundw
                    case rel => first | exact ⟨j + 1, A2, c2, by omega, by go_num, by rw [L1.out], by rw [L1.out, E1.out, ← Debt.all_snoc]; exact HO.out, G.out, hx2⟩ | exact ⟨_, _, _, ⟨j + 1, by omega, rfl, A2, c2, rfl, by rw [L1.out, E1.out, ← Debt.all_snoc]; exact HO.out, G.out⟩, rfl, by rw [L1.out], by go_num⟩
                    case measure => simp [intOf]; omega
                  · obtain rfl : x = 0 := by omega
                    have e1 : netPart es k (j + 1) = netPart es k j := by rw [HST.out, netItem_zero HX.out.symm, List.append_nil]
                    have E1 := Lib.hid e1
                    clear e1
                    go_wp2_with (go_at_call 36; refine (size_c _ _ (by omega)).mono ?_; rintro e w' ⟨rfl, rfl⟩)
                    go_roundw
                    case rel => first | exact ⟨j + 1, A', c', by omega, by go_num, by rw [E1.out], by rw [E1.out]; exact ho, G.out, hx2'⟩ | ((repeat apply Exists.intro); refine ⟨⟨j + 1, A', c', by omega, rfl, rfl, by rw [E1.out]; exact ho, G.out, hx2'⟩, ?_⟩; (try rw [E1.out]); repeat' (first | rfl | apply And.intro); all_goals go_num)
                    case measure => simp [intOf]; omega
          · obtain rfl : j = 19 - k := by omega
            rw [netPart_full] at ho
            have HO := Lib.hid ho
            have hz : (netPart es k (19 - k)).length = (netAll es (k + 1)).length := by rw [netPart_full]
            have GR := Lib.hid (good_row hg.out hgi.out)
            clear ho
            go_wp2
            go_roundw
            case rel => exact ⟨k + 1, A', c', by omega, by go_num, by first | rfl | rw [hz], HO.out, GR.out, hx⟩
            case measure => simp [intOf]; omega
      · obtain rfl : k = 20 := by omega
        have H := Lib.hid (nettedF_yes ⟨h1, fun a b h2 h3 h4 => hg.out a b h2 (by omega) h3 h4⟩)
        go_wp2
        go_ret
        rw [H.out]
        exact ⟨_, _, rfl, ho, hx⟩
  · have H := Lib.hid (show nettedF es = [] from nettedF_no (fun e => h1 e.1))
    go_enter Try.func25, Try.ntmps25
    go_wp2_with (go_at_call 13; refine (debtsOk_c _ _ _ es _ h).mono ?_; rintro e w1 ⟨rfl, hx⟩; have hl := hx.len; (try simp only [World.size_alloc, World.size_setCell, World.size_drew, World.heap_drewN] at hl))
    go_ret
    rw [H.out]
    exact Fresh.nil_ hx
set_option maxHeartbeats 3200000 in
theorem sNetted_c (A : Option Addr) (n c : Nat) (es : List Debt) (w : World) (h : Holds w 3 A n c (Debt.all es)) :
    Calls Try.prog 28 #[.slice A n c] w (Fresh 41 3 (nettedF es).length (Debt.all (nettedF es)) w) := by
  by_cases h1 : debB es = true
  · have hb0 := Own.lit (w := w.alloc (.cells #[] 41)) (base := w.heap.size) (e := 41) (k := 3) (n := 0) (cs := #[]) (heap_alloc_new _ _) (Nat.zero_le _) rfl
    go_enter Try.func28, Try.ntmps28
    go_wp2
    go_loopw [2, 3, 4] (fun _ v i wr => ∃ (k : Nat) (A' : Option Addr) (c' : Nat), k ≤ 20 ∧ i = .int .i64 ((k : Int) + 1) ∧ v = .slice A' (netAll es k).length c' ∧ Own wr w.heap.size 41 3 A' (netAll es k).length c' (Debt.all (netAll es k)) ∧ Hid (∀ a b : Int, 1 ≤ a → a ≤ k → a < b → b ≤ 20 → netGood es a b) ∧ Ext w wr) (fun _ _ i _ => 21 - (intOf i).toNat)
    case atStart => exact ⟨0, _, 0, by omega, rfl, rfl, hb0, fun a b h1 h2 => absurd h2 (by omega), by (repeat (first | exact Ext.refl _ | assumption | refine Ext.alloc ?_ _ | refine Ext.drew ?_ | refine Ext.drewN ?_ _ | refine Ext.setCell ?_ (by (try simp only [World.size_alloc, World.size_setCell, World.size_drew, World.heap_drewN]); omega) _ | refine Ext.step (by assumption) ?_))⟩
    case round =>
      clear hb0
      obtain ⟨k, A', c', hk, rfl, rfl, ho, hg, hx⟩ := hrel
      by_cases hlt : k < 20
      · have hlen := netPart_len es k 0 (by omega) (by omega)
        rw [← netPart_zero] at ho
        have HO := Lib.hid ho
        clear ho
        have dk : decide ((k : Int) + 1 ≤ 20) = true := decide_eq_true (by omega)
        have hz : (netAll es k).length = (netPart es k 0).length := by rw [netPart_zero]
        go_wp2_with fail
        refine (sDebtsOk_c _ _ _ es _ (h.ext hx)).mono ?_; rintro e w4 ⟨rfl, x4⟩
        go_wp2
        go_loopw [2, 3, 5] (fun _ v i wr2 => ∃ (j : Nat) (A' : Option Addr) (c' : Nat), j ≤ 19 - k ∧ i = .int .i64 ((k : Int) + 2 + j) ∧ v = .slice A' (netPart es k j).length c' ∧ Own wr2 w.heap.size 41 3 A' (netPart es k j).length c' (Debt.all (netPart es k j)) ∧ Hid (∀ i : Nat, i < j → netGood es ((k : Int) + 1) ((k : Int) + 2 + i)) ∧ Ext w wr2) (fun _ _ i _ => 21 - (intOf i).toNat)
        case atStart => exact ⟨0, A', c', by omega, by go_num, by first | rfl | rw [hz], HO.out.ext x4, fun i hi => absurd hi (by omega), hx.trans x4⟩
        case round =>
          clear HO hz
          obtain ⟨j, A', c', hj, rfl, rfl, ho, hgi, hx⟩ := hrel
          have hlen := netPart_len es k j (by omega) (by omega)
          by_cases hjl : j < 19 - k
          · have HST := Lib.hid (netPart_step es k j)
            go_wp2_with fail
            refine (sOwes_c _ _ _ es _ _ _ (h.ext hx)).mono ?_; rintro e w2 ⟨rfl, x2⟩
            obtain ⟨x, hxe⟩ : ∃ x, x = owesF es ((k : Int) + 1) ((k : Int) + 2 + j) := ⟨_, rfl⟩
            have hbd := owesF_bd es ((k : Int) + 1) ((k : Int) + 2 + j)
            rw [← hxe] at hbd ⊢
            have HX := Lib.hid hxe
            clear hxe
            have hx2' := hx.trans x2
            replace ho := ho.ext x2
            by_cases b1 : 10000 < x
            · have H := Lib.hid (show nettedF es = [] from nettedF_no (fun e => by have := e.2 ((k : Int) + 1) ((k : Int) + 2 + j) (by omega) (by omega) (by omega); have hq := this.2; rw [← HX.out] at hq; omega))
              go_wp2_with fail
              go_ret
              rw [H.out]
              exact ⟨_, _, rfl, Own.mono (Own.lit (cs := #[]) (heap_alloc_new _ _) (Nat.zero_le _) rfl) hx2'.len, hx2'.alloc _⟩
            · by_cases b2 : x < -10000
              · have H := Lib.hid (show nettedF es = [] from nettedF_no (fun e => by have := e.2 ((k : Int) + 1) ((k : Int) + 2 + j) (by omega) (by omega) (by omega); have hq := this.1; rw [← HX.out] at hq; omega))
                go_wp2_with fail
                go_ret
                rw [H.out]
                exact ⟨_, _, rfl, Own.mono (Own.lit (cs := #[]) (heap_alloc_new _ _) (Nat.zero_le _) rfl) hx2'.len, hx2'.alloc _⟩
              · have G := Lib.hid (good_step hgi.out (show netGood es ((k : Int) + 1) ((k : Int) + 2 + j) from ⟨by rw [← HX.out]; omega, by rw [← HX.out]; omega⟩))
                by_cases b3 : 0 < x
                · have e1 : netPart es k (j + 1) = netPart es k j ++ [⟨(k : Int) + 1, (k : Int) + 2 + j, x⟩] := by rw [HST.out, netItem_pos (by rw [← HX.out]; exact b3), ← HX.out]
                  have E1 := Lib.hid e1
                  have l1 : (netPart es k (j + 1)).length = (netPart es k j).length + 1 := by rw [e1]; simp
                  have L1 := Lib.hid l1
                  clear e1 l1
                  go_wp2_with (first | (at_builtin; refine wpList_push w (by (repeat (first | exact Ext.refl _ | assumption | refine Ext.alloc ?_ _ | refine Ext.drew ?_ | refine Ext.drewN ?_ _ | refine Ext.setCell ?_ (by (try simp only [World.size_alloc, World.size_setCell, World.size_drew, World.heap_drewN]); omega) _ | refine Ext.step (by assumption) ?_))) rfl _ _ _ rfl 41 (.agg #[.int .i64 0, .int .i64 0, .int .i64 0]) 3 24 elInfo Try.underlying25 rfl (by omega) _ _ _ _ rfl (Own.ext ho (by (repeat (first | exact Ext.refl _ | assumption | refine Ext.alloc ?_ _ | refine Ext.drew ?_ | refine Ext.drewN ?_ _ | refine Ext.setCell ?_ (by (try simp only [World.size_alloc, World.size_setCell, World.size_drew, World.heap_drewN]); omega) _ | refine Ext.step (by assumption) ?_)))) _ _ _ rfl (by exact heap_last (by first | rfl | simp)) rfl (by simp [Value.oneCell']) (by omega) (by omega) ?_; intro A2 c2 w2 ho2 hx2) | fail)
                  have HO := Lib.hid ho2
                  clear ho2 ho
                  go_wp2
                  go_roundw
                  case rel => first | exact ⟨j + 1, A2, c2, by omega, by go_num, by rw [L1.out], by rw [L1.out, E1.out, ← Debt.all_snoc]; exact HO.out, G.out, hx2⟩ | exact ⟨_, _, _, ⟨j + 1, by omega, rfl, A2, c2, rfl, by rw [L1.out, E1.out, ← Debt.all_snoc]; exact HO.out, G.out⟩, rfl, by rw [L1.out], by go_num⟩
                  case measure => simp [intOf]; omega
                · by_cases b4 : x < 0
                  · have e1 : netPart es k (j + 1) = netPart es k j ++ [⟨(k : Int) + 2 + j, (k : Int) + 1, -x⟩] := by rw [HST.out, netItem_neg (by rw [← HX.out]; exact b4), ← HX.out]
                    have E1 := Lib.hid e1
                    have l1 : (netPart es k (j + 1)).length = (netPart es k j).length + 1 := by rw [e1]; simp
                    have L1 := Lib.hid l1
                    clear e1 l1
                    go_wp2_with (first | (at_builtin; refine wpList_push w (by (repeat (first | exact Ext.refl _ | assumption | refine Ext.alloc ?_ _ | refine Ext.drew ?_ | refine Ext.drewN ?_ _ | refine Ext.setCell ?_ (by (try simp only [World.size_alloc, World.size_setCell, World.size_drew, World.heap_drewN]); omega) _ | refine Ext.step (by assumption) ?_))) rfl _ _ _ rfl 41 (.agg #[.int .i64 0, .int .i64 0, .int .i64 0]) 3 24 elInfo Try.underlying25 rfl (by omega) _ _ _ _ rfl (Own.ext ho (by (repeat (first | exact Ext.refl _ | assumption | refine Ext.alloc ?_ _ | refine Ext.drew ?_ | refine Ext.drewN ?_ _ | refine Ext.setCell ?_ (by (try simp only [World.size_alloc, World.size_setCell, World.size_drew, World.heap_drewN]); omega) _ | refine Ext.step (by assumption) ?_)))) _ _ _ rfl (by exact heap_last (by first | rfl | simp)) rfl (by simp [Value.oneCell']) (by omega) (by omega) ?_; intro A2 c2 w2 ho2 hx2) | fail)
                    have HO := Lib.hid ho2
                    clear ho2 ho
                    go_wp2
                    go_roundw
                    case rel => first | exact ⟨j + 1, A2, c2, by omega, by go_num, by rw [L1.out], by rw [L1.out, E1.out, ← Debt.all_snoc]; exact HO.out, G.out, hx2⟩ | exact ⟨_, _, _, ⟨j + 1, by omega, rfl, A2, c2, rfl, by rw [L1.out, E1.out, ← Debt.all_snoc]; exact HO.out, G.out⟩, rfl, by rw [L1.out], by go_num⟩
                    case measure => simp [intOf]; omega
                  · obtain rfl : x = 0 := by omega
                    have e1 : netPart es k (j + 1) = netPart es k j := by rw [HST.out, netItem_zero HX.out.symm, List.append_nil]
                    have E1 := Lib.hid e1
                    clear e1
                    go_wp2_with fail
                    go_roundw
                    case rel => first | exact ⟨j + 1, A', c', by omega, by go_num, by rw [E1.out], by rw [E1.out]; exact ho, G.out, hx2'⟩ | ((repeat apply Exists.intro); refine ⟨⟨j + 1, A', c', by omega, rfl, rfl, by rw [E1.out]; exact ho, G.out, hx2'⟩, ?_⟩; (try rw [E1.out]); repeat' (first | rfl | apply And.intro); all_goals go_num)
                    case measure => simp [intOf]; omega
          · obtain rfl : j = 19 - k := by omega
            rw [netPart_full] at ho
            have HO := Lib.hid ho
            have hz : (netPart es k (19 - k)).length = (netAll es (k + 1)).length := by rw [netPart_full]
            have GR := Lib.hid (good_row hg.out hgi.out)
            clear ho
            go_wp2
            go_roundw
            case rel => exact ⟨k + 1, A', c', by omega, by go_num, by first | rfl | rw [hz], HO.out, GR.out, hx⟩
            case measure => simp [intOf]; omega
      · obtain rfl : k = 20 := by omega
        have H := Lib.hid (nettedF_yes ⟨h1, fun a b h2 h3 h4 => hg.out a b h2 (by omega) h3 h4⟩)
        go_wp2
        go_ret
        rw [H.out]
        exact ⟨_, _, rfl, ho, hx⟩
  · have H := Lib.hid (show nettedF es = [] from nettedF_no (fun e => h1 e.1))
    have hb0 := Own.lit (w := w.alloc (.cells #[] 41)) (base := w.heap.size) (e := 41) (k := 3) (n := 0) (cs := #[]) (heap_alloc_new _ _) (Nat.zero_le _) rfl
    go_enter Try.func28, Try.ntmps28
    go_wp2
    go_loopw [2, 3, 4] (fun _ v i wr => i = .int .i64 1 ∧ v = .slice (some ⟨w.heap.size, 0, none⟩) 0 0 ∧ Own wr w.heap.size 41 3 (some ⟨w.heap.size, 0, none⟩) 0 0 [] ∧ Ext w wr) (fun _ _ i _ => 21 - (intOf i).toNat)
    case atStart => exact ⟨rfl, rfl, hb0, by (repeat (first | exact Ext.refl _ | assumption | refine Ext.alloc ?_ _ | refine Ext.drew ?_ | refine Ext.drewN ?_ _ | refine Ext.setCell ?_ (by (try simp only [World.size_alloc, World.size_setCell, World.size_drew, World.heap_drewN]); omega) _ | refine Ext.step (by assumption) ?_))⟩
    case round =>
      clear hb0
      obtain ⟨rfl, rfl, ho, hx⟩ := hrel
      go_wp2_with fail
      refine (sDebtsOk_c _ _ _ es _ (h.ext hx)).mono ?_; rintro e w1 ⟨rfl, x1⟩
      go_wp2
      go_ret
      rw [H.out]
      exact ⟨_, _, rfl, ho.ext x1, hx.trans x1⟩
end Go.Proofs.Ytcjlipcoefcmgaa
