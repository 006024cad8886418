/-
  The contract of OutlierAt of the reference.
-/
import Derived.Test.YticpkgiccpglmaaMeterE
namespace Go.Proofs.Yticpkgiccpglmaa
open Go.RowKit

theorem ints_set (zs : List Int) (i : Nat) (x : Int) : (ints zs).set i (.int .i64 x) = ints (zs.set i x) := by simp [ints, List.map_set]
set_option maxRecDepth 100000 in
set_option maxHeartbeats 6400000 in
theorem sOut_c (A : Option Addr) (n c : Nat) (zs : List Int) (w : World) (h : Holds w 1 A n c (ints zs)) (hn : n ≤ 1048576) :
    Calls Try.prog 26 #[.slice A n c] w (Ans (.int .i64 (outF zs)) w) := by
  cases hok : medB zs
  · have H := Lib.hid (show outF zs = -1 from by rw [outF, usesF_no hok]; exact outU_no (fun j hj => by simp at hj))
    go_enter Try.func26, Try.ntmps26
    go_wp2_with (go_at_call 33; refine (sUses_c _ _ _ zs _ h hn).mono ?_; rintro e w1 ⟨L, ⟨A1, c1, rfl, o1, x1⟩, hL⟩; clear hL)
    go_ret
    exact ⟨ret_int H.out.symm, x1⟩
  · have Hok := Lib.hid hok
    obtain ⟨m, hm⟩ : ∃ m, m = (usesF zs).length := ⟨_, rfl⟩
    have Hm := Lib.hid hm
    have hl : m ≤ 59 := by rw [hm]; exact usesF_len zs
    by_cases h0 : m = 0
    · have H := Lib.hid (show outF zs = -1 from outU_no (fun j hj => absurd hj (by omega)))
      have hz : usesF zs = [] := List.eq_nil_of_length_eq_zero (by omega)
      clear hm h0
      go_enter Try.func26, Try.ntmps26
      go_wp2_with (go_at_call 33; refine (sUses_c _ _ _ zs _ h hn).mono ?_; rintro e w1 ⟨L, ⟨A1, c1, rfl, o1, x1⟩, hL⟩; obtain rfl := hL Hok.out; clear hL; rw [hz] at o1 ⊢)
      go_ret
      exact ⟨ret_int H.out.symm, x1⟩
    · have hbd := sortI_bd (u := usesF zs) (lo := -1) (hi := 99999) (fun i hi => by rw [usesF_nth zs i hi]; exact useN_bd zs i) (m / 2) (by omega)
      have hub := Lib.hid (show ∀ i, i < m → -1 ≤ nth (usesF zs) i ∧ nth (usesF zs) i ≤ 99999 from fun i hi => by rw [usesF_nth zs i (by omega)]; exact useN_bd zs i)
      have HMD := Lib.hid (show medF (usesF zs) = nth (sortI (usesF zs)) (m / 2) from by rw [medF, hm])
      have hpos : 0 < m := by omega
      have z1 : ((m : Int) == 0) = false := by simp; omega
      clear hm h0
      have d1 : (0 : Int) ≤ (m : Int) / 2 := by omega
      have d2 : (m : Int) / 2 < (m : Int) := by omega
      have d3 : ((m : Int) / 2).toNat = m / 2 := by omega
      have d4 : Int.tdiv (m : Int) 2 = (m : Int) / 2 := Int.tdiv_eq_ediv_of_nonneg (by omega)
      have d5 : m / 2 < m := by omega
      obtain ⟨md, hmd⟩ : ∃ x, x = nth (sortI (usesF zs)) (m / 2) := ⟨_, rfl⟩
      rw [← hmd] at hbd
      have HMD2 := Lib.hid hmd
      clear hmd
      go_enter Try.func26, Try.ntmps26
      go_wp2_with (go_at_call 33; refine (sUses_c _ _ _ zs _ h hn).mono ?_; rintro e w1 ⟨L, ⟨A1, c1, rfl, o1, x1⟩, hL⟩; obtain rfl := hL Hok.out; clear hL; rw [← Hm.out] at o1 ⊢)
      clear h
      have hb0 := Own.lit (w := w1.alloc (.cells #[] 3)) (base := w1.heap.size) (e := 3) (k := 1) (n := 0) (cs := #[]) (heap_alloc_new _ _) (Nat.zero_le _) rfl
      have hxa : Ext w1 (w1.alloc (.cells #[] 3)) := by (repeat (first | exact Ext.refl _ | assumption | refine Ext.alloc ?_ _ | refine Ext.drew ?_ | refine Ext.drewN ?_ _ | refine Ext.setCell ?_ (by (try simp only [World.size_alloc, World.size_setCell, World.size_drew, World.heap_drewN]); omega) _ | refine Ext.step (by assumption) ?_))
      have HO1 := Lib.hid o1
      clear o1
      go_loopw [5, 6] (fun v i wr => ∃ (k : Nat) (A' : Option Addr) (c' : Nat), k ≤ m ∧ i = .int .i64 k ∧ v = .slice A' k c' ∧ Own wr w1.heap.size 3 1 A' k c' (ints (sortI ((usesF zs).take k))) ∧ Ext w1 wr) (fun _ i _ => m - (intOf i).toNat)
      case atStart => exact ⟨0, _, 0, Nat.zero_le _, rfl, rfl, by rw [show ints (sortI ((usesF zs).take 0)) = [] from by simp [sortI, ints]]; exact hb0, hxa⟩
      case round =>
        clear hb0 hxa
        obtain ⟨k, A', c', hk, rfl, rfl, ho, hx⟩ := hrel
        by_cases hlt : k < m
        · have dk : decide ((k : Int) < (m : Int)) = true := decide_eq_true (by omega)
          have hxb := hub.out k hlt
          obtain ⟨S, hS⟩ : ∃ S, S = sortI ((usesF zs).take k) := ⟨_, rfl⟩
          rw [← hS] at ho
          have HSS := Lib.hid hS
          have hsl : S.length = k := by rw [hS, sortI_len, List.length_take, ← Hm.out]; omega
          have HSL := Lib.hid hsl
          clear hS hsl
          obtain ⟨bb, off, hA1, hb, hc⟩ := (HO1.out.ext hx).holds.int hpos
          subst hA1
          obtain ⟨x, hxx⟩ : ∃ x, x = nth (usesF zs) k := ⟨_, rfl⟩
          have q := hc k hlt
          rw [← hxx] at q hxb
          have HX := Lib.hid hxx
          clear hxx hc
          have j0 : (0 : Int) ≤ (k : Int) := by omega
          have j1 : (k : Int) < (m : Int) := by omega
          have QW1 := Lib.hid (show w1.cell? ⟨bb, off + k, none⟩ = some (.int .i64 x) from by
            obtain ⟨b', off', hA', _, hc'⟩ := HO1.out.holds.int hpos
            injection hA' with hA'
            injection hA' with e1 e2
            subst e1
            subst e2
            rw [HX.out]
            exact hc' k hlt)
          go_wp2_with (at_builtin; refine wpList_push w1 (by (repeat (first | exact Ext.refl _ | assumption | refine Ext.alloc ?_ _ | refine Ext.drew ?_ | refine Ext.drewN ?_ _ | refine Ext.setCell ?_ (by (try simp only [World.size_alloc, World.size_setCell, World.size_drew, World.heap_drewN]); omega) _ | refine Ext.step (by assumption) ?_))) rfl _ _ _ rfl 3 (.int .i64 0) 1 8 intInfo Try.underlying31 rfl (by omega) _ _ _ _ rfl (Own.ext ho (by (repeat (first | exact Ext.refl _ | assumption | refine Ext.alloc ?_ _ | refine Ext.drew ?_ | refine Ext.drewN ?_ _ | refine Ext.setCell ?_ (by (try simp only [World.size_alloc, World.size_setCell, World.size_drew, World.heap_drewN]); omega) _ | refine Ext.step (by assumption) ?_)))) _ _ _ rfl (by exact heap_last (by first | rfl | simp)) rfl (by simp [Value.oneCell']) (by omega) (by omega) ?_; intro A2 c2 w2 ho2 hx2)
          obtain ⟨g, hA2, hg1, hg2⟩ := ho2.form (by omega)
          subst hA2
          have HO2 := Lib.hid (show Own w2 w1.heap.size 3 1 (some ⟨g, 0, none⟩) (k + 1) c2 (ints (S ++ [x])) from by
            have : ints S ++ #[Value.int .i64 x].toList = ints (S ++ [x]) := ints_snoc S x
            rw [← this]; exact ho2)
          clear ho2 ho
          go_wp2
          go_loopw [7] (fun i wr3 => ∃ (a : Nat) (L : List Int), i = .int .i64 (a : Int) ∧ a ≤ k ∧ Hid (InsAt S x a L) ∧ Own wr3 w1.heap.size 3 1 (some ⟨g, 0, none⟩) (k + 1) c2 (ints L) ∧ Ext w1 wr3) (fun i _ => (intOf i).toNat)
          case atStart => exact ⟨k, S ++ [x], rfl, Nat.le_refl _, by have := InsAt.start S x; rw [HSL.out] at this; exact this, HO2.out, hx2⟩
          case round =>
            obtain ⟨a, L, rfl, ha, HI, ho3, hx3⟩ := hrel
            have hLl : L.length = k + 1 := by rw [HI.out.len, HSL.out]
            have HLL := Lib.hid hLl
            clear hLl
            have qu := hx3.got QW1.out
            have a0 : (0 : Int) ≤ (a : Int) := by omega
            have a1 : (a : Int) < (k : Int) + 1 := by omega
            have a2 : (a : Int) < ((k + 1 : Nat) : Int) := by omega
            have HO3 := Lib.hid ho3
            have ust := (World.ownsRow.cellAt ho3 a (by omega)).trans (ints_get L a (by rw [HLL.out]; omega))
            have fst_ := World.ownsRow.frozenAt ho3 a
            clear ho3
            by_cases az : 0 < a
            · have ul := (World.ownsRow.cellAt HO3.out (a - 1) (by omega)).trans (ints_get L (a - 1) (by rw [HLL.out]; omega))
              rw [HI.out.low (a - 1) (by omega)] at ul
              have pu := After.got (w := wr) qu
              have pl := After.got (w := wr) ul
              have b0 : (0 : Int) < (a : Int) := by omega
              have b1 : (0 : Int) ≤ (a : Int) - 1 := by omega
              have b2 : (a : Int) - 1 < (k : Int) + 1 := by omega
              have b3 : (a : Int) - 1 < ((k + 1 : Nat) : Int) := by omega
              cases t : decide (x < nth S (a - 1))
              · have T := Lib.hid (of_decide_eq_false t)
                have DN := Lib.hid (show ints (L.set a x) = ints (sortI ((usesF zs).take (k + 1))) from by
                  rw [HI.out.done, HX.out, HSS.out]
                  congr 1
                  exact sort_take (by rw [← Hm.out]; exact hlt) (by rw [← HSS.out, ← HX.out]; exact HI.out.big) (.inr (by rw [← HSS.out, ← HX.out]; have := T.out; omega)) (by rw [← HSS.out]; exact HI.out.le))
                go_wp2_with fail
                (refine wp_region_after wr (Ext.refl _) (by kernel_rfl) (by kernel_rfl) ?_; (repeat (go_big_quiet_step (fail))); refine wpQuiet_nil ?_; intro _ hw'; obtain ⟨y, hw''⟩ := hw'; subst hw'')
                have ho4 := HO3.out.ext y.ext
                have qu4 := y.ext.got qu
                have us4 := y.ext.got ust
                have fs4 := World.ownsRow.frozenAt ho4 a
                have hs := (World.ownsRow.stored ho4 a (.int .i64 x)).1
                rw [ints_set, DN.out] at hs
                have HS := Lib.hid hs
                have xs := (hx3.trans y.ext).setCell (p := ⟨g, a, none⟩) hg1 (.int .i64 x)
                clear hs ho4
                go_wp2
                go_roundw
                case rel => exact ⟨k + 1, _, _, by omega, by go_num, rfl, HS.out, xs⟩
                case measure => simp [intOf]; omega
              · have T := Lib.hid (of_decide_eq_true t)
                have ST := Lib.hid (HI.out.step az T.out)
                go_wp2_with fail
                (refine wp_region_after wr (Ext.refl _) (by kernel_rfl) (by kernel_rfl) ?_; (repeat (go_big_quiet_step (fail))); refine wpQuiet_nil ?_; intro _ hw'; obtain ⟨y, hw''⟩ := hw'; subst hw'')
                have ho4 := HO3.out.ext y.ext
                have ul4 := y.ext.got ul
                have us4 := y.ext.got ust
                have fs4 := World.ownsRow.frozenAt ho4 a
                have hs := (World.ownsRow.stored ho4 a (.int .i64 (nth S (a - 1)))).1
                rw [ints_set] at hs
                have HS := Lib.hid hs
                have HLO := Lib.hid (HI.out.low (a - 1) (by omega))
                have xs := (hx3.trans y.ext).setCell (p := ⟨g, a, none⟩) hg1 (.int .i64 (nth S (a - 1)))
                clear hs ho4
                go_wp2
                go_roundw
                case rel => exact ⟨a - 1, L.set a (nth S (a - 1)), by go_num, by omega, by have := ST.out; rw [HLO.out] at this; exact this, HS.out, xs⟩
                case measure => simp [intOf]; omega
            · obtain rfl : a = 0 := by omega
              have DN := Lib.hid (show ints (L.set 0 x) = ints (sortI ((usesF zs).take (k + 1))) from by
                rw [HI.out.done, HX.out, HSS.out]
                congr 1
                exact sort_take (by rw [← Hm.out]; exact hlt) (by rw [← HSS.out, ← HX.out]; exact HI.out.big) (.inl rfl) (Nat.zero_le _))
              go_wp2_with fail
              (refine wp_region_after wr (Ext.refl _) (by kernel_rfl) (by kernel_rfl) ?_; (repeat (go_big_quiet_step (fail))); refine wpQuiet_nil ?_; intro _ hw'; obtain ⟨y, hw''⟩ := hw'; subst hw'')
              have ho4 := HO3.out.ext y.ext
              have qu4 := y.ext.got qu
              have us4 := y.ext.got ust
              have fs4 := World.ownsRow.frozenAt ho4 0
              have hs := (World.ownsRow.stored ho4 0 (.int .i64 x)).1
              rw [ints_set, DN.out] at hs
              have HS := Lib.hid hs
              have xs := (hx3.trans y.ext).setCell (p := ⟨g, 0, none⟩) hg1 (.int .i64 x)
              clear hs ho4
              go_wp2
              go_roundw
              case rel => exact ⟨k + 1, _, _, by omega, by go_num, rfl, HS.out, xs⟩
              case measure => simp [intOf]; omega
        · obtain rfl : k = m := by omega
          have ho' : Own wr w1.heap.size 3 1 A' k c' (ints (sortI (usesF zs))) := by
            have e : (usesF zs).take k = usesF zs := List.take_of_length_le (by rw [← Hm.out]; omega)
            rw [e] at ho
            exact ho
          clear ho
          obtain ⟨g, hA2, hg1, hg2⟩ := ho'.form hpos
          subst hA2
          have qm := (World.ownsRow.cellAt ho' (k / 2) (by omega)).trans (ints_get (sortI (usesF zs)) (k / 2) (by rw [sortI_len, ← Hm.out]; omega))
          rw [← HMD2.out] at qm
          obtain ⟨bb, off, hA1, hb, hc⟩ := (HO1.out.ext hx).holds.int hpos
          subst hA1
          have HC := Lib.hid hc
          have HQM := Lib.hid qm
          clear hc ho' qm
          go_wp2
          go_loopw [8] (fun i wr4 => ∃ t : Nat, t ≤ k ∧ i = .int .i64 t ∧ Hid (∀ j, j < t → ¬ 3 * medF (usesF zs) < nth (usesF zs) j) ∧ Ext wr wr4) (fun i _ => k - (intOf i).toNat)
          case atStart => exact ⟨0, Nat.zero_le _, rfl, fun j hj => by omega, Ext.refl _⟩
          case round =>
            obtain ⟨t, ht, rfl, hall, hx4⟩ := hrel
            by_cases hlt : t < k
            · have pq := After.got (w := wr) (hx4.got (HC.out t hlt))
              have pm := After.got (w := wr) (hx4.got HQM.out)
              have qb2 := hub.out t hlt
              have j0 : (0 : Int) ≤ (t : Int) := by omega
              have j1 : (t : Int) < (k : Int) := by omega
              have hxy := x1.trans (hx.trans hx4)
              cases tt : decide (3 * md < nth (usesF zs) t)
              · have T := Lib.hid (of_decide_eq_false tt)
                go_wp2_with fail
                (refine wp_region_after wr (Ext.refl _) (by kernel_rfl) (by kernel_rfl) ?_; (repeat (go_big_quiet_step (fail))); refine wpQuiet_nil ?_; intro _ hw'; obtain ⟨y, hw''⟩ := hw'; subst hw'')
                go_wp2
                go_roundw
                case rel => exact ⟨t + 1, by omega, by go_num, (show ∀ j, j < t + 1 → ¬ 3 * medF (usesF zs) < nth (usesF zs) j from fun j hj => by
                  rcases Nat.lt_succ_iff_lt_or_eq.1 hj with hj | rfl
                  · have := hall.out j hj; omega
                  · rw [HMD.out, ← HMD2.out]; have := T.out; omega), hx4.trans y.ext⟩
                case measure => simp [intOf]; omega
              · have T := Lib.hid (of_decide_eq_true tt)
                have H := Lib.hid (show outF zs = (t : Int) + 1 from outU_yes ⟨by rw [← Hm.out]; exact hlt, by rw [HMD.out, ← HMD2.out]; exact T.out, fun j hj => by have := hall.out j hj; omega⟩)
                go_wp2_with fail
                (refine wp_region_after wr (Ext.refl _) (by kernel_rfl) (by kernel_rfl) ?_; (repeat (go_big_quiet_step (fail))); refine wpQuiet_nil ?_; intro _ hw'; obtain ⟨y, hw''⟩ := hw'; subst hw'')
                go_wp2
                go_ret
                exact ⟨ret_int H.out.symm, hxy.trans y.ext⟩
            · obtain rfl : t = k := by omega
              have H := Lib.hid (show outF zs = -1 from outU_no (fun j hj => by have := hall.out j (by rw [← Hm.out] at hj; exact hj); omega))
              go_wp2
              go_ret
              exact ⟨ret_int H.out.symm, x1.trans (hx.trans hx4)⟩
end Go.Proofs.Yticpkgiccpglmaa
