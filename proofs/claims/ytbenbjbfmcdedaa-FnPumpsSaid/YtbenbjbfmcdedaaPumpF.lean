/-
  The contract of CostFor of the reference.
-/
import Derived.Test.YtbenbjbfmcdedaaPumpE
namespace Go.Proofs.Ytbenbjbfmcdedaa
open Go.RowKit

/-- the prices at the places chosen -/
def paid (zs : List Int) (q : Nat) : List Int := (cheapL zs q).map (nth zs)
theorem paid_len {zs : List Int} {q : Nat} (h : q ≤ zs.length) : (paid zs q).length = q := by simp [paid, cheapL_len h]
theorem paid_nth {zs : List Int} {q k : Nat} (h : k < (cheapL zs q).length) : nth (paid zs q) k = nth zs ((cheapL zs q)[k]) := by simp [paid, nth, h]
theorem paid_sum {zs : List Int} {q : Nat} (h : q ≤ zs.length) : sumL (paid zs q) q = sumL (sortI zs) q := by
  have := sumL_all (paid zs q)
  rw [paid_len h] at this
  rw [this]
  exact cheapL_sum zs q
theorem place_at {zs : List Int} {q k : Nat} (hq : q ≤ zs.length) (hk : k < q) : ∃ p : Nat, p < zs.length ∧ nth (placesI (cheapL zs q)) k = (p : Int) ∧ nth (paid zs q) k = nth zs p := by
  have hl : k < (cheapL zs q).length := by rw [cheapL_len hq]; exact hk
  exact ⟨(cheapL zs q)[k], cheapL_mem (List.getElem_mem hl), placesI_nth hl, paid_nth hl⟩
set_option maxHeartbeats 3200000 in
theorem sCost_c (A : Option Addr) (n c : Nat) (zs : List Int) (a b m : Int) (w : World) (h : Holds w 1 A n c (ints zs)) (hn : n ≤ 1048576) :
    Calls Try.prog 17 #[.agg #[.int .i64 a, .int .i64 b], .slice A n c, .int .i64 m] w (Ans (.int .i64 (costF a b zs m)) w) := by
  have HL := Lib.hid h.intlen
  obtain ⟨f, hfe⟩ : ∃ f, f = hoursF a b m := ⟨_, rfl⟩
  have HF := Lib.hid hfe
  have hfr : f = -1 ∨ 0 ≤ f := by rw [hfe]; have := hoursF_cases a b m; omega
  clear hfe
  by_cases hok : costB a b zs m = true
  · obtain ⟨g1, g2, g3, g4⟩ := costB_yes hok
    rw [← HF.out] at g1 g3
    rw [HL.out] at g2 g3
    obtain ⟨q, rfl⟩ : ∃ q : Nat, f = (q : Int) := ⟨f.toNat, by omega⟩
    have hqe : hoursN a b m = q := by rw [hoursN, ← HF.out]; omega
    have hqn : q ≤ n := by omega
    have H := Lib.hid (show costF a b zs m = sumL (sortI zs) q * b from by rw [costF_yes hok, hqe])
    have HB := Lib.hid (show bestF a b zs m = placesI (cheapL zs q) from by rw [bestF_yes hok, hqe])
    have HBL := Lib.hid (show (bestF a b zs m).length = q from by rw [bestF_len hok, hqe])
    have ⟨r1, r2, r3, r4⟩ := cost_room hok q (by rw [HL.out]; exact hqn)
    have PS := Lib.hid (paid_sum (zs := zs) (q := q) (by rw [HL.out]; exact hqn))
    have PL := Lib.hid (paid_len (zs := zs) (q := q) (by rw [HL.out]; exact hqn))
    have PA := Lib.hid (fun k (hk : k < q) => place_at (zs := zs) (q := q) (k := k) (by rw [HL.out]; exact hqn) hk)
    have PB := Lib.hid (show ∀ i, i < (paid zs q).length → 0 ≤ nth (paid zs q) i ∧ nth (paid zs q) i ≤ 1000 from fun i hi => by
      rw [PL.out] at hi
      obtain ⟨p, hp, _, e⟩ := PA.out i hi
      rw [e]
      exact allB_at g4 hp)
    rw [← PS.out] at r1 r2 r3 r4
    have G4 := Lib.hid (show ∀ j, j < n → inB (nth zs j) 0 1000 = true from fun j hj => by
      have := allB_at g4 (j := j) (by rw [HL.out]; exact hj)
      exact decide_eq_true this)
    clear hok hqe hfr g1 g4
    have d1 : decide ((q : Int) < 0) = false := decide_eq_false (by omega)
    have d3 : decide ((48 : Int) < (n : Int)) = false := decide_eq_false (by omega)
    have d4 : decide (48 < n) = false := decide_eq_false (by omega)
    have d5 : decide ((q : Int) < (q : Int)) = false := decide_eq_false (by omega)
    go_enter Try.func17, Try.ntmps17
    go_wp2_with (first | ((go_at_call 13; refine (sHours_c _ _ _ _).mono ?_; rintro e w1 ⟨rfl, hx⟩; have hl := hx.len; (try simp only [World.size_alloc, World.size_setCell, World.size_drew, World.heap_drewN] at hl); obtain ⟨⟨hc, hf⟩, hb1, hb2, hb3, hb4, hb5, hb6, hb7⟩ := hx.blk w.heap.size (by (try simp only [World.size_alloc, World.size_setCell, World.size_drew, World.heap_drewN]); omega)); rw [← HF.out]; have x1 : Ext w w1 := (by (repeat (first | exact Ext.refl _ | assumption | refine Ext.alloc ?_ _ | refine Ext.drew ?_ | refine Ext.drewN ?_ _ | refine Ext.setCell ?_ (by (try simp only [World.size_alloc, World.size_setCell, World.size_drew, World.heap_drewN]); omega) _ | refine Ext.step (by assumption) ?_)))) | (go_at_call 21; refine (sBest_c _ _ _ zs _ _ _ _ (h.ext x1) hn).mono ?_; rintro e w2 ⟨A2, c2, rfl, o2, x2⟩; rw [HBL.out, HB.out] at o2; rw [HBL.out]; have hc2 : w2.cell? ⟨w.heap.size, 1, none⟩ = some (.int .i64 b) := x2.got ((hc 1).trans (by simp [go_sem]))))
    have hh := h.ext (x1.trans x2)
    have HO := Lib.hid o2
    clear o2
    go_loop [6, 10] (fun _ i => ∃ k : Nat, k ≤ n ∧ i = .int .i64 k) (fun _ i => n - (intOf i).toNat)
    case atStart => exact ⟨0, Nat.zero_le _, rfl⟩
    case round =>
      obtain ⟨k, hk, rfl⟩ := hrel
      by_cases hlt : k < n
      · obtain ⟨bb, off, rfl, hb, hc'⟩ := hh.int (by omega)
        have hck := hc' k hlt
        clear hc'
        have ht := G4.out k hlt
        go_wp2_with (go_at_call 35; refine (l01In_c _ _ _ _).mono ?_; rintro e w' ⟨rfl, rfl⟩)
        go_round
        case rel => exact ⟨k + 1, by omega, by go_num⟩
        case measure => simp [intOf]; omega
      · obtain rfl : k = n := by omega
        go_wp2
        go_loop [9, 11] (fun v i => ∃ t : Nat, t ≤ q ∧ i = .int .i64 t ∧ v = .int .i64 (sumL (paid zs q) t)) (fun _ i => q - (intOf i).toNat)
        case atStart => exact ⟨0, Nat.zero_le _, rfl, by rw [sumL_zero]⟩
        case round =>
          obtain ⟨t, ht, rfl, rfl⟩ := hrel
          by_cases hlt2 : t < q
          · obtain ⟨bb, off, rfl, hb, hc'⟩ := hh.int (by omega)
            obtain ⟨b2, off2, rfl, hb2, hc2'⟩ := HO.out.holds.int (by omega)
            obtain ⟨p, hp, e1, e2⟩ := PA.out t hlt2
            rw [HL.out] at hp
            have q1 := hc2' t hlt2
            rw [e1] at q1
            have q2 := hc' p hp
            rw [← e2] at q2
            have s1 := PB.out t (by rw [PL.out]; exact hlt2)
            have s2 := sumL_bd PB.out t (by rw [PL.out]; exact ht)
            have HS := Lib.hid (sumL_succ (zs := paid zs q) (k := t) (by rw [PL.out]; exact hlt2))
            clear hc' hc2' e1 e2
            go_wp2
            go_round
            case rel => exact ⟨t + 1, by omega, by go_num, by rw [HS.out]⟩
            case measure => simp [intOf]; omega
          · obtain rfl : t = q := by omega
            go_wp2
            go_ret
            exact ⟨ret_int (by rw [H.out, PS.out]), x1.trans x2⟩
  · have H := Lib.hid (costF_no hok)
    have HB := Lib.hid (bestF_no hok)
    have HBL := Lib.hid (show (bestF a b zs m).length = 0 from by rw [bestF_no hok]; rfl)
    by_cases h1 : f < 0
    · clear hok
      go_enter Try.func17, Try.ntmps17
      go_wp2_with (first | ((go_at_call 13; refine (sHours_c _ _ _ _).mono ?_; rintro e w1 ⟨rfl, hx⟩; have hl := hx.len; (try simp only [World.size_alloc, World.size_setCell, World.size_drew, World.heap_drewN] at hl); obtain ⟨⟨hc, hf⟩, hb1, hb2, hb3, hb4, hb5, hb6, hb7⟩ := hx.blk w.heap.size (by (try simp only [World.size_alloc, World.size_setCell, World.size_drew, World.heap_drewN]); omega)); rw [← HF.out]; have x1 : Ext w w1 := (by (repeat (first | exact Ext.refl _ | assumption | refine Ext.alloc ?_ _ | refine Ext.drew ?_ | refine Ext.drewN ?_ _ | refine Ext.setCell ?_ (by (try simp only [World.size_alloc, World.size_setCell, World.size_drew, World.heap_drewN]); omega) _ | refine Ext.step (by assumption) ?_)))) | (go_at_call 21; refine (sBest_c _ _ _ zs _ _ _ _ (h.ext x1) hn).mono ?_; rintro e w2 ⟨A2, c2, rfl, o2, x2⟩; rw [HBL.out]))
      go_ret
      exact ⟨ret_int H.out.symm, x1.trans x2⟩
    · by_cases h2 : 0 < f
      · clear hok
        go_enter Try.func17, Try.ntmps17
        go_wp2_with (first | ((go_at_call 13; refine (sHours_c _ _ _ _).mono ?_; rintro e w1 ⟨rfl, hx⟩; have hl := hx.len; (try simp only [World.size_alloc, World.size_setCell, World.size_drew, World.heap_drewN] at hl); obtain ⟨⟨hc, hf⟩, hb1, hb2, hb3, hb4, hb5, hb6, hb7⟩ := hx.blk w.heap.size (by (try simp only [World.size_alloc, World.size_setCell, World.size_drew, World.heap_drewN]); omega)); rw [← HF.out]; have x1 : Ext w w1 := (by (repeat (first | exact Ext.refl _ | assumption | refine Ext.alloc ?_ _ | refine Ext.drew ?_ | refine Ext.drewN ?_ _ | refine Ext.setCell ?_ (by (try simp only [World.size_alloc, World.size_setCell, World.size_drew, World.heap_drewN]); omega) _ | refine Ext.step (by assumption) ?_)))) | (go_at_call 21; refine (sBest_c _ _ _ zs _ _ _ _ (h.ext x1) hn).mono ?_; rintro e w2 ⟨A2, c2, rfl, o2, x2⟩; rw [HBL.out]))
        go_ret
        exact ⟨ret_int H.out.symm, x1.trans x2⟩
      · obtain rfl : f = 0 := by omega
        by_cases h3 : n ≤ 48
        · have hall0 : allB zs 0 1000 = false := by
            cases h4 : allB zs 0 1000
            · rfl
            · exact absurd (show costB a b zs m = true from by
                rw [costB]
                exact decide_eq_true ⟨by rw [← HF.out]; omega, by rw [HL.out]; omega, by rw [← HF.out]; omega, h4⟩) hok
          have HA := Lib.hid hall0
          clear hok hall0 h1 h2
          have d3 : decide ((48 : Int) < (n : Int)) = false := decide_eq_false (by omega)
          have d4 : decide (48 < n) = false := decide_eq_false (by omega)
          go_enter Try.func17, Try.ntmps17
          go_wp2_with (first | ((go_at_call 13; refine (sHours_c _ _ _ _).mono ?_; rintro e w1 ⟨rfl, hx⟩; have hl := hx.len; (try simp only [World.size_alloc, World.size_setCell, World.size_drew, World.heap_drewN] at hl); obtain ⟨⟨hc, hf⟩, hb1, hb2, hb3, hb4, hb5, hb6, hb7⟩ := hx.blk w.heap.size (by (try simp only [World.size_alloc, World.size_setCell, World.size_drew, World.heap_drewN]); omega)); rw [← HF.out]; have x1 : Ext w w1 := (by (repeat (first | exact Ext.refl _ | assumption | refine Ext.alloc ?_ _ | refine Ext.drew ?_ | refine Ext.drewN ?_ _ | refine Ext.setCell ?_ (by (try simp only [World.size_alloc, World.size_setCell, World.size_drew, World.heap_drewN]); omega) _ | refine Ext.step (by assumption) ?_)))) | (go_at_call 21; refine (sBest_c _ _ _ zs _ _ _ _ (h.ext x1) hn).mono ?_; rintro e w2 ⟨A2, c2, rfl, o2, x2⟩; rw [HBL.out]))
          have hh := h.ext (x1.trans x2)
          go_loop [6, 10] (fun _ i => ∃ k : Nat, k ≤ n ∧ i = .int .i64 k ∧ Hid (∀ j, j < k → inB (nth zs j) 0 1000 = true)) (fun _ i => n - (intOf i).toNat)
          case atStart => exact ⟨0, Nat.zero_le _, rfl, fun j hj => by omega⟩
          case round =>
            obtain ⟨k, hk, rfl, hall⟩ := hrel
            by_cases hlt : k < n
            · obtain ⟨bb, off, rfl, hb, hc'⟩ := hh.int (by omega)
              have hck := hc' k hlt
              clear hc'
              by_cases ht : inB (nth zs k) 0 1000 = true
              · go_wp2_with (go_at_call 35; refine (l01In_c _ _ _ _).mono ?_; rintro e w' ⟨rfl, rfl⟩)
                go_round
                case rel => exact ⟨k + 1, by omega, by go_num, fun j hj => by
                  rcases Nat.lt_succ_iff_lt_or_eq.1 hj with hj | rfl
                  · exact hall.out j hj
                  · exact ht⟩
                case measure => simp [intOf]; omega
              · go_wp2_with (go_at_call 35; refine (l01In_c _ _ _ _).mono ?_; rintro e w' ⟨rfl, rfl⟩)
                go_ret
                exact ⟨ret_int H.out.symm, x1.trans x2⟩
            · obtain rfl : k = n := by omega
              have := allB_yes (zs := zs) (lo := 0) (hi := 1000) (fun j hj => hall.out j (by rw [← HL.out]; exact hj))
              rw [HA.out] at this
              exact absurd this (by simp)
        · clear hok
          go_enter Try.func17, Try.ntmps17
          go_wp2_with (first | ((go_at_call 13; refine (sHours_c _ _ _ _).mono ?_; rintro e w1 ⟨rfl, hx⟩; have hl := hx.len; (try simp only [World.size_alloc, World.size_setCell, World.size_drew, World.heap_drewN] at hl); obtain ⟨⟨hc, hf⟩, hb1, hb2, hb3, hb4, hb5, hb6, hb7⟩ := hx.blk w.heap.size (by (try simp only [World.size_alloc, World.size_setCell, World.size_drew, World.heap_drewN]); omega)); rw [← HF.out]; have x1 : Ext w w1 := (by (repeat (first | exact Ext.refl _ | assumption | refine Ext.alloc ?_ _ | refine Ext.drew ?_ | refine Ext.drewN ?_ _ | refine Ext.setCell ?_ (by (try simp only [World.size_alloc, World.size_setCell, World.size_drew, World.heap_drewN]); omega) _ | refine Ext.step (by assumption) ?_)))) | (go_at_call 21; refine (sBest_c _ _ _ zs _ _ _ _ (h.ext x1) hn).mono ?_; rintro e w2 ⟨A2, c2, rfl, o2, x2⟩; rw [HBL.out]))
          go_ret
          exact ⟨ret_int H.out.symm, x1.trans x2⟩
end Go.Proofs.Ytbenbjbfmcdedaa
