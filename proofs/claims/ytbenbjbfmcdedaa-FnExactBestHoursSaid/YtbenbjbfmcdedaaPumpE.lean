/-
  The contracts of BestHours and CostFor of the reference.
-/
import Derived.Test.YtbenbjbfmcdedaaPumpD
namespace Go.Proofs.Ytbenbjbfmcdedaa
open Go.RowKit

theorem bestF_no {a b : Int} {zs : List Int} {m : Int} (h : ¬ costB a b zs m = true) : bestF a b zs m = [] := if_neg h
theorem bestF_yes {a b : Int} {zs : List Int} {m : Int} (h : costB a b zs m = true) : bestF a b zs m = placesI (cheapL zs (hoursN a b m)) := if_pos h
theorem bestF_len {a b : Int} {zs : List Int} {m : Int} (h : costB a b zs m = true) : (bestF a b zs m).length = hoursN a b m := by
  obtain ⟨g1, g2, g3, g4⟩ := costB_yes h
  rw [bestF_yes h, placesI_len, cheapL_len (by unfold hoursN; omega)]
set_option maxHeartbeats 3200000 in
theorem sBest_c (A : Option Addr) (n c : Nat) (zs : List Int) (a b m : Int) (w : World) (h : Holds w 1 A n c (ints zs)) (hn : n ≤ 1048576) :
    Calls Try.prog 21 #[.agg #[.int .i64 a, .int .i64 b], .slice A n c, .int .i64 m] w (Fresh 3 1 (bestF a b zs m).length (ints (bestF a b zs m)) w) := by
  have HL := Lib.hid h.intlen
  obtain ⟨f, hfe⟩ : ∃ f, f = hoursF a b m := ⟨_, rfl⟩
  have HF := Lib.hid hfe
  have hfr : f = -1 ∨ 0 ≤ f := by rw [hfe]; have := hoursF_cases a b m; omega
  clear hfe
  by_cases h1 : 0 ≤ f ∧ f ≤ (n : Int) ∧ n ≤ 48
  · obtain ⟨h1, h2, h3⟩ := h1
    obtain ⟨q, rfl⟩ : ∃ q : Nat, f = (q : Int) := ⟨f.toNat, by omega⟩
    have hqe : hoursN a b m = q := by rw [hoursN, ← HF.out]; omega
    have hqn : q ≤ n := by omega
    have HQ := Lib.hid hqe
    clear hqe
    have d1 : decide ((q : Int) < 0) = false := decide_eq_false (by omega)
    have d2 : decide (n < q) = false := decide_eq_false (by omega)
    have d3 : decide ((48 : Int) < (n : Int)) = false := decide_eq_false (by omega)
    have d4 : decide (48 < n) = false := decide_eq_false (by omega)
    have d5 : decide ((n : Int) < (q : Int)) = false := decide_eq_false (by omega)
    go_enter Try.func21, Try.ntmps21
    go_wp2_with ((go_at_call 13; refine (sHours_c _ _ _ _).mono ?_; rintro e w1 ⟨rfl, hx⟩; have hl := hx.len; (try simp only [World.size_alloc, World.size_setCell, World.size_drew, World.heap_drewN] at hl); obtain ⟨⟨hc, hf⟩, hb1, hb2, hb3, hb4, hb5, hb6, hb7⟩ := hx.blk w.heap.size (by (try simp only [World.size_alloc, World.size_setCell, World.size_drew, World.heap_drewN]); omega)); rw [← HF.out]; have x1 : Ext w w1 := (by (repeat (first | exact Ext.refl _ | assumption | refine Ext.alloc ?_ _ | refine Ext.drew ?_ | refine Ext.drewN ?_ _ | refine Ext.setCell ?_ (by (try simp only [World.size_alloc, World.size_setCell, World.size_drew, World.heap_drewN]); omega) _ | refine Ext.step (by assumption) ?_))))
    go_loop [6, 8] (fun _ i => ∃ k : Nat, k ≤ n ∧ i = .int .i64 k ∧ Hid (∀ j, j < k → inB (nth zs j) 0 1000 = true)) (fun _ i => n - (intOf i).toNat)
    case atStart => exact ⟨0, Nat.zero_le _, rfl, fun j hj => by omega⟩
    case round =>
      obtain ⟨k, hk, rfl, hall⟩ := hrel
      by_cases hlt : k < n
      · obtain ⟨bb, off, rfl, hb, hc'⟩ := (h.ext x1).int (by omega)
        have hck := hc' k hlt
        clear hc'
        by_cases ht : inB (nth zs k) 0 1000 = true
        · go_wp2_with (go_at_call 35; refine (l01In_c _ _ _ _).mono ?_; rintro e w' ⟨rfl, rfl⟩)
          go_round
          case rel => exact ⟨k + 1, by omega, by go_num, fun j hj => by
            rcases Nat.lt_succ_iff_lt_or_eq.1 hj with hj | rfl
            · exact hall.out j hj
            · exact ht⟩
          case measure => simp [intOf]; omega
        · have hz := Lib.hid (show bestF a b zs m = [] from bestF_no (fun e => by
            have := (costB_yes e).2.2.2
            rw [allB_no (by rw [HL.out]; exact hlt) ht] at this
            exact absurd this (by simp)))
          go_wp2_with (go_at_call 35; refine (l01In_c _ _ _ _).mono ?_; rintro e w' ⟨rfl, rfl⟩)
          go_ret
          rw [hz.out]
          exact ⟨_, 0, rfl, (Own.lit (heap_alloc_new _ _) (Nat.zero_le _) rfl).mono x1.len, by (repeat (first | exact Ext.refl _ | assumption | refine Ext.alloc ?_ _ | refine Ext.drew ?_ | refine Ext.drewN ?_ _ | refine Ext.setCell ?_ (by (try simp only [World.size_alloc, World.size_setCell, World.size_drew, World.heap_drewN]); omega) _ | refine Ext.step (by assumption) ?_))⟩
      · obtain rfl : k = n := by omega
        have hok : costB a b zs m = true := by
          rw [costB]
          exact decide_eq_true ⟨by rw [← HF.out]; omega, by rw [HL.out]; omega, by rw [← HF.out, HL.out]; omega, allB_yes (fun j hj => hall.out j (by rw [← HL.out]; exact hj))⟩
        have HE := Lib.hid (bestF_yes hok)
        have HEL := Lib.hid (bestF_len hok)
        clear hok
        go_wp2_with (go_at_call 43; refine (cheap_c _ _ _ zs q _ (h.ext x1) (by omega) hqn).mono ?_; rintro e w2 ⟨A2, c2, rfl, o2, x2⟩)
        go_ret
        rw [HEL.out, HE.out, HQ.out]
        exact ⟨A2, c2, rfl, o2.mono x1.len, x1.trans x2⟩
  · have hz := Lib.hid (show bestF a b zs m = [] from bestF_no (fun e => h1 (by
      obtain ⟨g1, g2, g3, g4⟩ := costB_yes e
      rw [← HF.out] at g1 g3
      rw [HL.out] at g2 g3
      exact ⟨g1, g3, g2⟩)))
    by_cases h2 : f < 0
    · clear h1
      go_enter Try.func21, Try.ntmps21
      go_wp2_with ((go_at_call 13; refine (sHours_c _ _ _ _).mono ?_; rintro e w1 ⟨rfl, hx⟩; have hl := hx.len; (try simp only [World.size_alloc, World.size_setCell, World.size_drew, World.heap_drewN] at hl); obtain ⟨⟨hc, hf⟩, hb1, hb2, hb3, hb4, hb5, hb6, hb7⟩ := hx.blk w.heap.size (by (try simp only [World.size_alloc, World.size_setCell, World.size_drew, World.heap_drewN]); omega)); rw [← HF.out]; have x1 : Ext w w1 := (by (repeat (first | exact Ext.refl _ | assumption | refine Ext.alloc ?_ _ | refine Ext.drew ?_ | refine Ext.drewN ?_ _ | refine Ext.setCell ?_ (by (try simp only [World.size_alloc, World.size_setCell, World.size_drew, World.heap_drewN]); omega) _ | refine Ext.step (by assumption) ?_))))
      go_ret
      rw [hz.out]
      exact ⟨_, 0, rfl, (Own.lit (heap_alloc_new _ _) (Nat.zero_le _) rfl).mono x1.len, by (repeat (first | exact Ext.refl _ | assumption | refine Ext.alloc ?_ _ | refine Ext.drew ?_ | refine Ext.drewN ?_ _ | refine Ext.setCell ?_ (by (try simp only [World.size_alloc, World.size_setCell, World.size_drew, World.heap_drewN]); omega) _ | refine Ext.step (by assumption) ?_))⟩
    · by_cases h3 : (n : Int) < f
      · clear h1
        go_enter Try.func21, Try.ntmps21
        go_wp2_with ((go_at_call 13; refine (sHours_c _ _ _ _).mono ?_; rintro e w1 ⟨rfl, hx⟩; have hl := hx.len; (try simp only [World.size_alloc, World.size_setCell, World.size_drew, World.heap_drewN] at hl); obtain ⟨⟨hc, hf⟩, hb1, hb2, hb3, hb4, hb5, hb6, hb7⟩ := hx.blk w.heap.size (by (try simp only [World.size_alloc, World.size_setCell, World.size_drew, World.heap_drewN]); omega)); rw [← HF.out]; have x1 : Ext w w1 := (by (repeat (first | exact Ext.refl _ | assumption | refine Ext.alloc ?_ _ | refine Ext.drew ?_ | refine Ext.drewN ?_ _ | refine Ext.setCell ?_ (by (try simp only [World.size_alloc, World.size_setCell, World.size_drew, World.heap_drewN]); omega) _ | refine Ext.step (by assumption) ?_))))
        go_ret
        rw [hz.out]
        exact ⟨_, 0, rfl, (Own.lit (heap_alloc_new _ _) (Nat.zero_le _) rfl).mono x1.len, by (repeat (first | exact Ext.refl _ | assumption | refine Ext.alloc ?_ _ | refine Ext.drew ?_ | refine Ext.drewN ?_ _ | refine Ext.setCell ?_ (by (try simp only [World.size_alloc, World.size_setCell, World.size_drew, World.heap_drewN]); omega) _ | refine Ext.step (by assumption) ?_))⟩
      · have h4 : ¬ n ≤ 48 := fun h4 => h1 ⟨by omega, by omega, h4⟩
        clear h1
        go_enter Try.func21, Try.ntmps21
        go_wp2_with ((go_at_call 13; refine (sHours_c _ _ _ _).mono ?_; rintro e w1 ⟨rfl, hx⟩; have hl := hx.len; (try simp only [World.size_alloc, World.size_setCell, World.size_drew, World.heap_drewN] at hl); obtain ⟨⟨hc, hf⟩, hb1, hb2, hb3, hb4, hb5, hb6, hb7⟩ := hx.blk w.heap.size (by (try simp only [World.size_alloc, World.size_setCell, World.size_drew, World.heap_drewN]); omega)); rw [← HF.out]; have x1 : Ext w w1 := (by (repeat (first | exact Ext.refl _ | assumption | refine Ext.alloc ?_ _ | refine Ext.drew ?_ | refine Ext.drewN ?_ _ | refine Ext.setCell ?_ (by (try simp only [World.size_alloc, World.size_setCell, World.size_drew, World.heap_drewN]); omega) _ | refine Ext.step (by assumption) ?_))))
        go_ret
        rw [hz.out]
        exact ⟨_, 0, rfl, (Own.lit (heap_alloc_new _ _) (Nat.zero_le _) rfl).mono x1.len, by (repeat (first | exact Ext.refl _ | assumption | refine Ext.alloc ?_ _ | refine Ext.drew ?_ | refine Ext.drewN ?_ _ | refine Ext.setCell ?_ (by (try simp only [World.size_alloc, World.size_setCell, World.size_drew, World.heap_drewN]); omega) _ | refine Ext.step (by assumption) ?_))⟩
end Go.Proofs.Ytbenbjbfmcdedaa
