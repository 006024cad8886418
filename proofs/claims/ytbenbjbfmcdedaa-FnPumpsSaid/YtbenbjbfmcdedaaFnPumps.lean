/-
  The law FnPumps is proved: for every code the cheapest hours are enough, and no other hours cost less; the code reads as it did. Conditions: none.
-/
import Derived.Test.YtbenbjbfmcdedaaRow
import Derived.Test.YtbenbjbfmcdedaaPumpDraw
import Derived.Test.YtbenbjbfmcdedaaPumpsP
import Derived.Test.YtbenbjbfmcdedaaNeedI
import Derived.Deep.QuietTactic
import Derived.Deep.DeepCutAuto
import Derived.Deep.CutRange
import Derived.Deep.RegionWith
import Derived.IntWalk
namespace Go.Proofs.Ytbenbjbfmcdedaa
open Go.RowKit

theorem btoi_c (b : Bool) (r : Int) (w : World) (hr : r = if b then 1 else 0) : Calls Try.prog 34 #[.bool b] w fun e w' => e = .returned (.int .i64 r) ∧ w = w' := by
  subst hr
  cases b
  · go_enter Try.func34, Try.ntmps34
    go_wp2
    go_ret
    exact ⟨rfl, rfl⟩
  · go_enter Try.func34, Try.ntmps34
    go_wp2
    go_ret
    exact ⟨rfl, rfl⟩
set_option maxRecDepth 100000 in
set_option maxHeartbeats 6400000 in
theorem lawPumps (A : Option Addr) (n c : Nat) (w : World) (hC : Code8 w A n c) : Calls Try.prog 9 #[.slice A n c] w (Ans (.bool true) w) := by
  have hm : n ≤ 9223372036854775807 := by obtain ⟨zs, h1, _⟩ := hC; have := h1.2.1; have := h1.2.2.1; unfold maxLen at this; omega
  by_cases hbig : 1048576 < (n : Int)
  · have hd := decide_eq_true hbig
    go_enter Try.func9, Try.ntmps9
    go_wp2_with fail
    refine (big_c _ _ _ _).mono ?_; rintro e w0 ⟨rfl, rfl⟩
    go_wp2
    go_ret
    exact ⟨rfl, Ext.refl _⟩
  · have hd := decide_eq_false hbig
    obtain ⟨v, hv, Cv⟩ := at_any hC 0 (by omega)
    obtain ⟨u, hu, Cu⟩ := at_any hC 1 (by omega)
    have CV := Lib.hid Cv
    have CU := Lib.hid Cu
    clear Cv Cu
    go_enter Try.func9, Try.ntmps9
    go_wp2_with fail
    refine (big_c _ _ _ _).mono ?_; rintro e w0 ⟨rfl, rfl⟩
    go_wp2_with fail
    refine (drawPump_c _ _ _ _ hC).mono ?_; rintro e w1 ⟨a, b, zs, A1, c1, rfl, ha, hb, hz, o1, x1⟩
    obtain ⟨m, hmE⟩ : ∃ m, m = zs.length := ⟨_, rfl⟩
    have hm12 : 1 ≤ m ∧ m ≤ 12 := by rw [hmE]; exact hz.1
    have H1 := Lib.hid (show Holds w1 1 A1 m c1 (ints zs) from by rw [hmE]; exact o1.holds)
    have HE := Lib.hid hmE
    have HZ := Lib.hid hz
    have X1 := Lib.hid x1
    rw [← hmE]
    clear o1 hz x1 hmE
    go_wp2_with fail
    have XP := Lib.hid (show Ext w1 (w1.alloc (.cells #[.int .i64 a, .int .i64 b] 25)) from by (repeat (first | exact Ext.refl _ | assumption | refine Ext.alloc ?_ _ | refine Ext.drew ?_ | refine Ext.drewN ?_ _ | refine Ext.setCell ?_ (by (try simp only [sizes]); omega) _ | refine Ext.step (by assumption) ?_)))
    have p0 : (w1.alloc (.cells #[.int .i64 a, .int .i64 b] 25)).cell? ⟨w1.heap.size, 0, none⟩ = some (.int .i64 a) := by simp [go_sem]
    have p1 : (w1.alloc (.cells #[.int .i64 a, .int .i64 b] 25)).cell? ⟨w1.heap.size, 1, none⟩ = some (.int .i64 b) := by simp [go_sem]
    generalize w1.alloc (.cells #[.int .i64 a, .int .i64 b] 25) = w2 at *
    generalize w1.heap.size = P at *
    have H2 := Lib.hid (H1.out.ext XP.out)
    have X2 := Lib.hid (X1.out.trans XP.out)
    clear H1 XP X1
    have hpb : pumpB a b = true := by simp only [pumpB, decide_eq_true_eq]; omega
    have hin : inB v 0 1000000 = true := inB_mk (by omega)
    have hq0 : hoursF a b v = (v + a - 1) / a := if_pos ⟨hpb, hin⟩
    obtain ⟨q', hqE⟩ : ∃ q', q' = hoursF a b v := ⟨_, rfl⟩
    have d1 := Int.ediv_mul_le (v + a - 1) (show a ≠ 0 by omega)
    have d2 := Int.lt_ediv_add_one_mul_self (v + a - 1) (show 0 < a by omega)
    have d3 := Int.ediv_nonneg (show 0 ≤ v + a - 1 by omega) (show 0 ≤ a by omega)
    have d4 := Int.ediv_le_self a (show 0 ≤ v + a - 1 by omega)
    rw [← hq0, ← hqE] at d1 d2 d3 d4
    obtain ⟨q, rfl⟩ : ∃ q : Nat, q' = (q : Int) := ⟨q'.toNat, by omega⟩
    have hqN : hoursN a b v = q := by rw [hoursN, ← hqE]; omega
    have dd : ((q : Int) + 1) * a = (q : Int) * a + a := by rw [Int.add_mul, Int.one_mul]
    have de : ((q : Int) - 1) * a = (q : Int) * a - a := by rw [Int.sub_mul, Int.one_mul]
    obtain ⟨qa, hqa⟩ : ∃ qa, qa = (q : Int) * a := ⟨_, rfl⟩
    rw [← hqa] at d1 dd de
    rw [dd] at d2
    have t1 : IntKind.i64.wrap ((q : Int) * a) = qa := by rw [← hqa]; exact IntWalk.i64_in _ (by omega)
    have t2 : IntKind.i64.wrap ((q : Int) - 1) = (q : Int) - 1 := IntWalk.i64_in _ (by omega)
    have t3 : IntKind.i64.wrap (((q : Int) - 1) * a) = qa - a := by rw [de]; exact IntWalk.i64_in _ (by omega)
    have f1 := decide_eq_false (show ¬ qa < v by omega)
    have f2 := decide_eq_false (show ¬ max v 1 ≤ qa - a by omega)
    have f0 := decide_eq_false (show ¬ (q : Int) < 0 by omega)
    have hall : allB zs 0 1000 = true := allB_yes fun j hj => inB_mk (by have := HZ.out.2 j hj; omega)
    have hcb : costB a b zs v = decide (q ≤ m) := by
      rw [Bool.eq_iff_iff]
      simp only [costB, decide_eq_true_eq, ← hqE, ← HE.out]
      constructor
      · intro h; omega
      · intro h; exact ⟨by omega, by omega, by omega, hall⟩
    have CH := fun w => hours_c a b v w
    rw [← hqE] at CH
    have CC := fun w h => cost_c A1 m c1 zs a b v w h
    have CB := fun w h => best_c A1 m c1 zs a b v w h (by omega)
    obtain ⟨C, hCE⟩ : ∃ C, C = costF a b zs v := ⟨_, rfl⟩
    obtain ⟨h, hhE⟩ : ∃ h, h = bestF a b zs v := ⟨_, rfl⟩
    rw [← hCE] at CC
    rw [← hhE] at CB
    have HCC := Lib.hid CC
    have HCH := Lib.hid CH
    have HCB := Lib.hid CB
    have HCE := Lib.hid hCE
    have HHE := Lib.hid hhE
    have HQN := Lib.hid hqN
    have HCOB := Lib.hid hcb
    have hqb : q ≤ 300 := by omega
    clear CH CC CB hCE hhE hqN hcb hqE hq0 d1 d2 d3 d4 dd de hall hin hqa
    go_wp2_with fail
    refine (CV.out _ X2.out).mono ?_; rintro e w' ⟨rfl, rfl⟩
    go_wp2_with fail
    refine (HCH.out _).mono ?_; rintro e w3 ⟨rfl, x3⟩
    have p0' := x3.got p0
    have p1' := x3.got p1
    go_wp2_with fail
    refine (HCC.out _ (H2.out.ext x3)).mono ?_; rintro e w4 ⟨rfl, x4⟩
    have p0'' := x4.got p0'
    have p1'' := x4.got p1'
    go_wp2_with fail
    refine (HCB.out _ (H2.out.ext (x3.trans x4))).mono ?_; rintro e w5 ⟨A5, c5, rfl, o5, x5⟩
    have q0 := x5.got p0''
    have q1 := x5.got p1''
    have X25 := Lib.hid ((x3.trans x4).trans x5)
    have O5 := Lib.hid o5.holds
    clear p0 p1 p0' p1' p0'' p1'' x3 x4 x5 o5 HCC HCB
    obtain ⟨bc, hbc⟩ : ∃ bc, bc = decide (q ≤ m) := ⟨_, rfl⟩
    have hC0 : decide (0 ≤ C) = bc := by
      rw [hbc, Bool.eq_iff_iff, decide_eq_true_eq, decide_eq_true_eq, HCE.out]
      by_cases hk : q ≤ m
      · have hcb : costB a b zs v = true := by rw [HCOB.out]; exact decide_eq_true hk
        have := (cost_room hcb q (by rw [← HE.out]; exact hk)).2.2.1
        rw [costF_yes hcb, HQN.out]
        exact ⟨fun _ => hk, fun _ => this⟩
      · have hcb : ¬ costB a b zs v = true := by rw [HCOB.out, decide_eq_false hk]; simp
        rw [costF_no hcb]
        omega
    have hbq : decide (q ≤ m) = bc := hbc.symm
    have hbq2 : decide ((q : Int) ≤ (m : Int)) = bc := by rw [hbc]; simp
    have bb : (bc != bc) = false := by cases bc <;> rfl
    have HBC := Lib.hid hbc
    clear hbc
    obtain ⟨hl, hhL⟩ : ∃ hl, hl = h.length := ⟨_, rfl⟩
    rw [← hhL] at O5 ⊢
    have HHL := Lib.hid hhL
    clear hhL
    go_upto_if 68 with fail
    go_cut [9, 10, 11, 12] from 67 to 147 (fun _ _ _ _ wx => Ext w5 wx)
    case first =>
      cases bc
      · go_wp2_with fail
        go_meet
        exact Ext.refl _
      · have hqm : q ≤ m := of_decide_eq_true hbq
        have hcb : costB a b zs v = true := by rw [HCOB.out]; exact hbq
        have hql : q ≤ zs.length := by rw [← HE.out]; exact hqm
        have hh : h = placesI (cheapL zs q) := by rw [HHE.out, bestF_yes hcb, HQN.out]
        have hhl : h.length = q := by rw [hh, placesI_len, cheapL_len hql]
        have HH := Lib.hid hh
        obtain ⟨S, hS⟩ : ∃ S, S = sumL (sortI zs) q := ⟨_, rfl⟩
        have room := cost_room hcb q hql
        have hCS : C = S * b := by rw [HCE.out, costF_yes hcb, HQN.out, hS]
        have HS := Lib.hid hS
        have hpsum := Lib.hid ((paid_sum hql).trans hS.symm)
        rw [← hS] at room
        obtain ⟨r1, r2, r3, r4⟩ := room
        have HCS := Lib.hid hCS
        obtain rfl : q = hl := by rw [HHL.out]; exact hhl.symm
        have HX := Lib.hid (H2.out.ext X25.out)
        have hqq : ((q : Int) != (q : Int)) = false := by simp
        clear hh hhl hS hcb hql hCS
        go_wp2_with fail
        go_loopw [2, 9, 10] (fun r s i wr => ∃ k : Nat, k ≤ q ∧ r = .bool false ∧ i = .int .i64 k ∧ s = .int .i64 (sumL (paid zs q) k) ∧ Ext w5 wr) (fun _ _ i _ => q - (intOf i).toNat)
        case atStart => exact ⟨0, Nat.zero_le _, rfl, rfl, rfl, Ext.refl _⟩
        case round =>
          obtain ⟨k, hk, rfl, rfl, rfl, hx⟩ := hrel
          have hql : q ≤ zs.length := by rw [← HE.out]; exact hqm
          have hpb2 : ∀ i, i < (paid zs q).length → 0 ≤ nth (paid zs q) i ∧ nth (paid zs q) i ≤ 1000 := fun i hi => by
            rw [paid_len hql] at hi
            obtain ⟨p, hp, _, hp2⟩ := place_at hql hi
            rw [hp2]; have := HZ.out.2 p hp; omega
          have sb := sumL_bd hpb2 k (by rw [paid_len hql]; exact hk)
          clear hpb2
          by_cases hlt : k < q
          · have dk : decide (k < q) = true := decide_eq_true hlt
            obtain ⟨p, hp, hp1, hp2⟩ := place_at hql hlt
            have SS := Lib.hid (show sumL (paid zs q) (k + 1) = sumL (paid zs q) k + nth zs p from by rw [sumL_succ (by rw [paid_len hql]; exact hlt), hp2])
            have zb := HZ.out.2 p hp
            obtain ⟨b5, off5, hA5, hb5, hc5⟩ := O5.out.int (by omega)
            obtain ⟨b1, off1, hA1, hb1, hc1⟩ := HX.out.int (by omega)
            subst hA5
            subst hA1
            have e5 := hc5 k hlt
            rw [HH.out, hp1] at e5
            have e1 := hc1 p (by rw [HE.out]; exact hp)
            have hpm : p < m := by rw [HE.out]; exact hp
            have E5 := After.got (hx.got e5)
            have F5 := hx.got e5
            have F1 := hx.got e1
            have prev : k = 0 ∨ ∃ p0 : Nat, (0 < k) ∧ p0 < p ∧ nth h (k - 1) = (p0 : Int) := by
              rcases Nat.eq_zero_or_pos k with h0 | h0
              · exact .inl h0
              · right
                have hkl : k < (cheapL zs q).length := by rw [cheapL_len hql]; exact hlt
                have hlt2 := (List.pairwise_iff_getElem.1 (cheapL_pair zs q)) (k - 1) k (by omega) hkl (by omega)
                rw [placesI_nth hkl] at hp1
                refine ⟨(cheapL zs q)[k - 1]'(by omega), h0, by omega, by rw [HH.out, placesI_nth (by omega)]⟩
            have PREV := Lib.hid prev
            have g0 := decide_eq_false (show ¬ (p : Int) < 0 by omega)
            have g1 := decide_eq_false (show ¬ m ≤ p by omega)
            have g1' := decide_eq_false (show ¬ (m : Int) ≤ (p : Int) by omega)
            have k0 : (0 : Int) ≤ (k : Int) := by omega
            have k1 : (k : Int) < (q : Int) := by omega
            have j0 : (0 : Int) ≤ (p : Int) := by omega
            have j1 : (p : Int) < (m : Int) := by omega
            generalize sumL (paid zs q) k = sm at *
            generalize nth zs p = zp at *
            have s1 : IntKind.i64.wrap (sm + zp) = sm + zp := IntWalk.i64_in _ (by omega)
            have HC5 := Lib.hid hc5
            clear hc5 hc1 e5 e1 prev hp1 hp2
            rcases PREV.out with h0 | ⟨p0, h0, hp0, hn0⟩
            · subst h0
              clear E5
              rw [Nat.add_zero] at F5
              have E5 := After.got F5
              have z0 : decide ((0 : Int) < ((0 : Nat) : Int)) = false := by decide
              have z1 : decide (0 < 0) = false := by decide
              go_wp2_with fail
              (refine wp_region_after wr (Ext.refl _) (by kernel_rfl) (by kernel_rfl) ?_; (repeat (go_big_quiet_step (fail))); refine wpQuiet_nil ?_; intro _ hw'; obtain ⟨y, hw''⟩ := hw'; subst hw'')
              have G5 := y.ext.got F5
              have G1 := y.ext.got F1
              go_wp2_with fail
              go_roundw
              case rel => exact ⟨1, by omega, rfl, by go_num, by rw [SS.out], hx.trans y.ext⟩
              case measure => simp [intOf]; omega
            · have z1 : decide (0 < k) = true := decide_eq_true h0
              have e6 := HC5.out (k - 1) (by omega)
              rw [hn0] at e6
              have E6 := After.got (hx.got e6)
              have km : (0 : Int) ≤ (k : Int) - 1 := by omega
              have km2 : (k : Int) - 1 < (q : Int) := by omega
              have kpos : (0 : Int) < (k : Int) := by omega
              have kw : IntKind.i64.wrap ((k : Int) - 1) = (k : Int) - 1 := IntWalk.i64_in _ (by omega)
              have kt : ((k : Int) - 1).toNat = k - 1 := by omega
              have kn1 : (1 : Int) ≤ (k : Int) := by omega
              have kn2 : (k : Int) ≤ (q : Int) := by omega
              have kn3 : (k : Int) < (q : Int) + 1 := by omega
              have g2 := decide_eq_false (show ¬ p ≤ p0 by omega)
              have g2' := decide_eq_false (show ¬ (p : Int) ≤ (p0 : Int) by omega)
              clear e6 hn0
              go_wp2_with fail
              (refine wp_region_after wr (Ext.refl _) (by kernel_rfl) (by kernel_rfl) ?_; (repeat (go_big_quiet_step (fail))); refine wpQuiet_nil ?_; intro _ hw'; obtain ⟨y, hw''⟩ := hw'; subst hw'')
              have G5 := y.ext.got F5
              have G1 := y.ext.got F1
              go_wp2_with fail
              go_roundw
              case rel => exact ⟨k + 1, by omega, rfl, by go_num, by rw [SS.out], hx.trans y.ext⟩
              case measure => simp [intOf]; omega
          · obtain rfl : k = q := by omega
            have dk : decide (k < k) = false := decide_eq_false (by omega)
            rw [hpsum.out]
            go_wp2_with fail
            have OTH := Lib.hid (other_least (zs := zs) (u := u.toNat) (q := k) hql (by rw [← HE.out]; omega))
            have kbd := fun j => sumK_bd (f := fun i => nth zs ((i + u.toNat) % zs.length)) (b := 19) (fun i => HZ.out.2 _ (Nat.mod_lt _ (by rw [← HE.out]; omega))) j
            have KBD := Lib.hid kbd
            rw [← HE.out] at OTH KBD
            clear kbd
            obtain ⟨un, rfl⟩ : ∃ un : Nat, u = (un : Int) := ⟨u.toNat, by omega⟩
            rw [Int.toNat_natCast] at OTH KBD
            have hx0 := hx
            clear sb hql hx
            go_wp2_with fail
            go_loopw [11, 12] (fun s i wr => ∃ j : Nat, j ≤ k ∧ i = .int .i64 j ∧ s = .int .i64 (sumK (fun i => nth zs ((i + un) % m)) j) ∧ Ext w5 wr) (fun _ i _ => k - (intOf i).toNat)
            case atStart => exact ⟨0, Nat.zero_le _, rfl, rfl, hx0⟩
            case round =>
              obtain ⟨j, hj, rfl, rfl, hx⟩ := hrel
              have sb := KBD.out j
              by_cases hlt : j < k
              · have dj : decide (j < k) = true := decide_eq_true hlt
                obtain ⟨p, hpE⟩ : ∃ p, p = (j + un) % m := ⟨_, rfl⟩
                have hpm : p < m := by rw [hpE]; exact Nat.mod_lt _ (by omega)
                obtain ⟨b1, off1, hA1, hb1, hc1⟩ := HX.out.int (by omega)
                subst hA1
                have e1 := hc1 p hpm
                have F1 := hx.got e1
                have zb := HZ.out.2 p (by rw [← HE.out]; exact hpm)
                have SS := Lib.hid (show sumK (fun i => nth zs ((i + un) % m)) (j + 1) = sumK (fun i => nth zs ((i + un) % m)) j + nth zs p from by rw [hpE]; rfl)
                have tm : ((j : Int) + (un : Int)).tmod (m : Int) = (p : Int) := by rw [hpE, Int.tmod_eq_emod_of_nonneg (by omega)]; simp
                have ws : IntKind.i64.wrap ((j : Int) + (un : Int)) = (j : Int) + (un : Int) := IntWalk.i64_in _ (by omega)
                have m0 : ((m : Int) == 0) = false := by simp; omega
                generalize sumK (fun i => nth zs ((i + un) % m)) j = sm at *
                generalize nth zs p = zp at *
                have s1 : IntKind.i64.wrap (sm + zp) = sm + zp := IntWalk.i64_in _ (by omega)
                have j0 : (0 : Int) ≤ (p : Int) := by omega
                have j1 : (p : Int) < (m : Int) := by omega
                clear hpE hc1 e1
                go_wp2_with fail
                refine (CU.out _ (X2.out.trans (X25.out.trans hx))).mono ?_; rintro e w' ⟨rfl, rfl⟩
                go_wp2_with fail
                go_roundw
                case rel => exact ⟨j + 1, by omega, by go_num, by rw [SS.out], hx⟩
                case measure => simp [intOf]; omega
              · obtain rfl : j = k := by omega
                have dj : decide (j < j) = false := decide_eq_false (by omega)
                have e0 := OTH.out
                rw [← HS.out] at e0
                generalize sumK (fun i => nth zs ((i + un) % m)) j = ot at *
                have hob : ot * b ≤ 285 * b := Int.mul_le_mul_of_nonneg_right (by omega) (by omega)
                have hob2 : S * b ≤ ot * b := Int.mul_le_mul_of_nonneg_right e0 (by omega)
                obtain ⟨ob, hobE⟩ : ∃ ob, ob = ot * b := ⟨_, rfl⟩
                rw [← hobE] at hob hob2
                have hCS := HCS.out
                obtain ⟨Sb, hSb⟩ : ∃ Sb, Sb = S * b := ⟨_, rfl⟩
                rw [← hSb] at r3 r4 hob2 hCS
                have t5 : IntKind.i64.wrap (S * b) = C := by rw [← hSb, hCS]; exact IntWalk.i64_in _ (by omega)
                have t6 : IntKind.i64.wrap (ot * b) = ob := by rw [← hobE]; exact IntWalk.i64_in _ (by omega)
                have cc : (C != C) = false := by simp
                have ob2 := decide_eq_false (show ¬ ob < C by omega)
                have q1' := hx.got q1
                clear hob hob2 hobE hSb hCS
                go_wp2_with fail
                go_meet
                exact hx
    case rest =>
      have hx := hcut
      have xw := X2.out.trans (X25.out.trans hx)
      have H25 := Lib.hid (H2.out.ext (X25.out.trans hx))
      have r0 := hx.got q0
      have r1 := hx.got q1
      have TL := three_law ha hb (v := v) (by omega)
      have TOK := three_ok ha hb (v := v) (by omega)
      have HTL := Lib.hid TL
      have s1 : IntKind.i64.wrap (a + 1) = a + 1 := IntWalk.i64_in _ (by omega)
      have r2 := (Ext.alloc (Ext.refl _) (.cells #[.int .i64 (a + 1), .int .i64 b] 25)).got r0
      have r3 := (Ext.alloc (Ext.refl _) (.cells #[.int .i64 (a + 1), .int .i64 b] 25)).got r1
      clear TL TOK hx hcut
      go_wp2_with fail
      have XT := Lib.hid (show Ext wc ((wc.alloc (.cells #[.int .i64 (a + 1), .int .i64 b] 25)).alloc (.cells #[.int .i64 a, .int .i64 b, .int .i64 (a + 1), .int .i64 b, .int .i64 a, .int .i64 b] 25)) from by (repeat (first | exact Ext.refl _ | assumption | refine Ext.alloc ?_ _ | refine Ext.drew ?_ | refine Ext.drewN ?_ _ | refine Ext.setCell ?_ (by (try simp only [sizes]); omega) _ | refine Ext.step (by assumption) ?_)))
      have v0 : ((wc.alloc (.cells #[.int .i64 (a + 1), .int .i64 b] 25)).alloc (.cells #[.int .i64 a, .int .i64 b, .int .i64 (a + 1), .int .i64 b, .int .i64 a, .int .i64 b] 25)).cell? ⟨P, 0, none⟩ = some (.int .i64 a) := XT.out.got r0
      have v1 : ((wc.alloc (.cells #[.int .i64 (a + 1), .int .i64 b] 25)).alloc (.cells #[.int .i64 a, .int .i64 b, .int .i64 (a + 1), .int .i64 b, .int .i64 a, .int .i64 b] 25)).cell? ⟨P, 1, none⟩ = some (.int .i64 b) := XT.out.got r1
      have v2 : ((wc.alloc (.cells #[.int .i64 (a + 1), .int .i64 b] 25)).alloc (.cells #[.int .i64 a, .int .i64 b, .int .i64 (a + 1), .int .i64 b, .int .i64 a, .int .i64 b] 25)).cell? ⟨wc.heap.size, 0, none⟩ = some (.int .i64 (a + 1)) := by simp [go_sem]
      have v3 : ((wc.alloc (.cells #[.int .i64 (a + 1), .int .i64 b] 25)).alloc (.cells #[.int .i64 a, .int .i64 b, .int .i64 (a + 1), .int .i64 b, .int .i64 a, .int .i64 b] 25)).cell? ⟨wc.heap.size, 1, none⟩ = some (.int .i64 b) := by simp [go_sem]
      have O3 := Own.lit (w := (wc.alloc (.cells #[.int .i64 (a + 1), .int .i64 b] 25)).alloc (.cells #[.int .i64 a, .int .i64 b, .int .i64 (a + 1), .int .i64 b, .int .i64 a, .int .i64 b] 25)) (base := wc.heap.size + 1) (e := 25) (k := 2) (n := 3) (cs := #[.int .i64 a, .int .i64 b, .int .i64 (a + 1), .int .i64 b, .int .i64 a, .int .i64 b]) (heap_last (by simp)) (by unfold maxLen; omega) (by simp)
      have H3 := Lib.hid (show Holds ((wc.alloc (.cells #[.int .i64 (a + 1), .int .i64 b] 25)).alloc (.cells #[.int .i64 a, .int .i64 b, .int .i64 (a + 1), .int .i64 b, .int .i64 a, .int .i64 b] 25)) 2 (some ⟨wc.heap.size + 1, 0, none⟩) 3 3 (Pump.all (three a b)) from O3.holds)
      generalize (wc.alloc (.cells #[.int .i64 (a + 1), .int .i64 b] 25)).alloc (.cells #[.int .i64 a, .int .i64 b, .int .i64 (a + 1), .int .i64 b, .int .i64 a, .int .i64 b] 25) = wT at *
      generalize wc.heap.size = Q at *
      obtain ⟨L, hL⟩ : ∃ L, L = neededF (three a b) v 3 := ⟨_, rfl⟩
      obtain ⟨mm, hmm⟩ : ∃ mm, mm = L.length := ⟨_, rfl⟩
      have hfin : mm ≤ 3 ∧ (∀ k, k < mm → ∃ p : Nat, p < 3 ∧ nth L k = (p : Int)) ∧ ((v ≤ 3 * (3 * a + 1) ∧ v ≤ sumK (fun k => 3 * (a + if nth L k = 1 then 1 else 0)) mm) ∨ (¬ v ≤ 3 * (3 * a + 1) ∧ mm = 0)) := by
        rcases HTL.out with ⟨h1, h2⟩ | ⟨m', h1, h2, h3, h4⟩
        · have hz : mm = 0 := by rw [hmm, hL, h2]; rfl
          subst hz
          exact ⟨by omega, fun k hk => by omega, .inr ⟨by omega, rfl⟩⟩
        · have hcl : (cheapL (negL (three a b)) m').length = m' := cheapL_len (by rw [negL_len]; exact h1)
          have hz : mm = m' := by rw [hmm, hL, h4, placesI_len, hcl]
          subst hz
          refine ⟨h1, fun k hk => ?_, .inl ⟨h2, ?_⟩⟩
          · rw [hL, h4, placesI_nth (by omega)]
            have := cheapL_mem (zs := negL (three a b)) (n := mm) (List.getElem_mem (show k < (cheapL (negL (three a b)) mm).length by omega))
            rw [negL_len] at this
            exact ⟨_, this, rfl⟩
          · rw [hL, h4, three_lift h1]; exact h3
      obtain ⟨hm3, hpl, hcan⟩ := hfin
      have CN := fun w h => needed_c (some ⟨Q + 1, 0, none⟩) 3 3 (three a b) v 3 w h (by omega)
      rw [← hL, ← hmm] at CN
      have HCN := Lib.hid CN
      have HPL := Lib.hid hpl
      have HCAN := Lib.hid hcan
      have HMM := Lib.hid hmm
      clear hL hmm hpl hcan CN O3 r0 r1 r2 r3 HTL
      refine (HCN.out _ H3.out).mono ?_; rintro e w6 ⟨A6, c6, rfl, o6, x6⟩
      have O6 := Lib.hid o6.holds
      have z0 := x6.got v0
      have z1 := x6.got v1
      have z2 := x6.got v2
      have z3 := x6.got v3
      have X06 := Lib.hid ((xw.trans XT.out).trans x6)
      clear o6 x6 v0 v1 v2 v3 HCN xw
      go_wp2_with fail
      go_loopw [15, 16] (fun s i wr => ∃ k : Nat, k ≤ mm ∧ i = .int .i64 k ∧ s = .int .i64 (sumK (fun k => 3 * (a + if nth L k = 1 then 1 else 0)) k) ∧ Ext w6 wr) (fun _ i _ => mm - (intOf i).toNat)
      case atStart => exact ⟨0, Nat.zero_le _, rfl, rfl, Ext.refl _⟩
      case round =>
        obtain ⟨k, hk, rfl, rfl, hx⟩ := hrel
        have sb := sumK_bd (f := fun k => 3 * (a + if nth L k = 1 then 1 else 0)) (b := 123) (fun k => by (try simp only []); split <;> omega) k
        by_cases hlt : k < mm
        · have dk : decide (k < mm) = true := decide_eq_true hlt
          obtain ⟨p, hp, hpE⟩ := HPL.out k hlt
          obtain ⟨b6, off6, hA6, hb6, hc6⟩ := O6.out.int (by omega)
          subst hA6
          have e6 := hc6 k hlt
          rw [hpE] at e6
          have F6 := hx.got e6
          have F0 := hx.got z0
          obtain ⟨r, hr⟩ : ∃ r : Int, r = if (p : Int) = 1 then 1 else 0 := ⟨_, rfl⟩
          have hrb : 0 ≤ r ∧ r ≤ 1 := by rw [hr]; split <;> omega
          have SS := Lib.hid (show sumK (fun k => 3 * (a + if nth L k = 1 then 1 else 0)) (k + 1) = sumK (fun k => 3 * (a + if nth L k = 1 then 1 else 0)) k + 3 * (a + r) from by rw [sumK, hpE, hr])
          have hbt : r = if ((p : Int) == 1) then 1 else 0 := by rw [hr]; by_cases h : (p : Int) = 1 <;> simp [h]
          have HBT := Lib.hid hbt
          generalize sumK (fun k => 3 * (a + if nth L k = 1 then 1 else 0)) k = sm at *
          have g0 := decide_eq_false (show ¬ (p : Int) < 0 by omega)
          have g1 := decide_eq_false (show ¬ 2 < p by omega)
          have g1' := decide_eq_false (show ¬ (2 : Int) < (p : Int) by omega)
          have t1 : IntKind.i64.wrap (a + r) = a + r := IntWalk.i64_in _ (by omega)
          have t2 : IntKind.i64.wrap (3 * (a + r)) = 3 * (a + r) := IntWalk.i64_in _ (by omega)
          have t3 : IntKind.i64.wrap (sm + 3 * (a + r)) = sm + 3 * (a + r) := IntWalk.i64_in _ (by omega)
          have k0 : (0 : Int) ≤ (k : Int) := by omega
          have k1 : (k : Int) < (mm : Int) := by omega
          clear hr hbt e6 hc6 hpE
          go_wp2_with fail
          go_region_held3 (fun w' => w'.cell? ⟨b6, off6 + k, none⟩ = some (.int .i64 (p : Int)) ∧ w'.cell? ⟨P, 0, none⟩ = some (.int .i64 a)) (first | go_keep | exact ⟨F6, F0⟩ | (refine ⟨?_, ?_⟩ <;> assumption)) ((go_at_call 34; refine (btoi_c _ r _ HBT.out).mono ?_; rintro e w' ⟨rfl, rfl⟩))
          all_goals
            go_wp2_with fail
            go_roundw
            case rel => exact ⟨k + 1, by omega, by go_num, by rw [SS.out], by (repeat (first | exact Ext.refl _ | assumption | refine Ext.alloc ?_ _ | refine Ext.drew ?_ | refine Ext.drewN ?_ _ | refine Ext.setCell ?_ (by (try simp only [sizes]); omega) _ | refine Ext.step (by assumption) ?_))⟩
            case measure => simp [intOf]; omega
        · obtain rfl : k = mm := by omega
          have dk : decide (k < k) = false := decide_eq_false (by omega)
          have F0 := hx.got z0
          have F1 := hx.got z1
          have F2 := hx.got z2
          have F3 := hx.got z3
          have hb1 : betterF (a + 1) b a b = -1 := by
            have k1 : pumpB (a + 1) b = true := by simp only [pumpB, decide_eq_true_eq]; omega
            rw [betterF, if_pos ⟨k1, hpb⟩, cmp3, Int.add_mul, Int.one_mul, if_pos (by omega)]
          have hb2 : betterF a b a b = 0 := by rw [betterF, if_pos ⟨hpb, hpb⟩, cmp3, if_neg (by omega), if_neg (by omega)]
          have hpq : pumpB (a + 1) b = true := by simp only [pumpB, decide_eq_true_eq]; omega
          have CB1 := fun w => better_c (a + 1) b a b w
          have CB2 := fun w => better_c a b a b w
          have CPQ := fun w => pumpOk_c (a + 1) b w
          rw [hb1] at CB1
          rw [hb2] at CB2
          rw [hpq] at CPQ
          have HB1 := Lib.hid CB1
          have HB2 := Lib.hid CB2
          have HPQ := Lib.hid CPQ
          have t1 : IntKind.i64.wrap (3 * a) = 3 * a := IntWalk.i64_in _ (by omega)
          have t2 : IntKind.i64.wrap (3 * a + 1) = 3 * a + 1 := IntWalk.i64_in _ (by omega)
          obtain ⟨cn, hcn⟩ : ∃ cn, cn = 3 * (3 * a + 1) := ⟨_, rfl⟩
          have t3 : IntKind.i64.wrap (3 * (3 * a + 1)) = cn := by rw [hcn]; exact IntWalk.i64_in _ (by omega)
          have hcan := HCAN.out
          rw [← hcn] at hcan
          generalize sumK (fun k => 3 * (a + if nth L k = 1 then 1 else 0)) k = sm at *
          have HCA2 := Lib.hid hcan
          have XW := Lib.hid (X06.out.trans hx)
          clear hcn hcan CB1 CB2 CPQ hb1 hb2 hpq hx z0 z1 z2 z3 sb
          rcases HCA2.out with ⟨h1, h2⟩ | ⟨h1, h2⟩
          · have e1 := decide_eq_true h1
            have e2 := decide_eq_true h2
            go_upto_region 37 with fail
            go_step
            try simp only [List.append_eq, List.cons_append, List.nil_append]
            go_wp2_with fail
            refine (HB1.out _).mono ?_; rintro e w7 ⟨rfl, x7⟩
            have F0 := x7.got F0
            have F1 := x7.got F1
            have F2 := x7.got F2
            have F3 := x7.got F3
            go_wp2_with fail
            refine (HB2.out _).mono ?_; rintro e w8 ⟨rfl, x8⟩
            have F2 := x8.got F2
            have F3 := x8.got F3
            have XE := Lib.hid ((XW.out.trans x7).trans x8)
            clear x7 x8
            go_wp2_with fail
            refine (HPQ.out _).mono ?_; rintro e w9 ⟨rfl, rfl⟩
            go_wp2_with fail
            go_ret
            exact ⟨rfl, XE.out.trans (by (repeat (first | exact Ext.refl _ | assumption | refine Ext.alloc ?_ _ | refine Ext.drew ?_ | refine Ext.drewN ?_ _ | refine Ext.setCell ?_ (by (try simp only [sizes]); omega) _ | refine Ext.step (by assumption) ?_)))⟩
          · have e1 := decide_eq_false (show ¬ v ≤ cn by omega)
            subst h2
            go_upto_region 37 with fail
            go_step
            try simp only [List.append_eq, List.cons_append, List.nil_append]
            go_wp2_with fail
            refine (HB1.out _).mono ?_; rintro e w7 ⟨rfl, x7⟩
            have F0 := x7.got F0
            have F1 := x7.got F1
            have F2 := x7.got F2
            have F3 := x7.got F3
            go_wp2_with fail
            refine (HB2.out _).mono ?_; rintro e w8 ⟨rfl, x8⟩
            have F2 := x8.got F2
            have F3 := x8.got F3
            have XE := Lib.hid ((XW.out.trans x7).trans x8)
            clear x7 x8
            go_wp2_with fail
            refine (HPQ.out _).mono ?_; rintro e w9 ⟨rfl, rfl⟩
            go_wp2_with fail
            go_ret
            exact ⟨rfl, XE.out.trans (by (repeat (first | exact Ext.refl _ | assumption | refine Ext.alloc ?_ _ | refine Ext.drew ?_ | refine Ext.drewN ?_ _ | refine Ext.setCell ?_ (by (try simp only [sizes]); omega) _ | refine Ext.step (by assumption) ?_)))⟩
theorem lawPumpsZ (A : Option Addr) (n c : Nat) (zs : List Int) (w : World) (h : Holds w 1 A n c (zs.map (Value.int .u8)) ∧ ∀ z ∈ zs, 0 ≤ z ∧ z ≤ 255) : Calls Try.prog 9 #[.slice A n c] w (Ans (.bool true) w) :=
  lawPumps A n c w ⟨zs, h⟩

namespace fnPumps
open Go.ChangeShapes Go.WideShapes Go.ChangeAt Go.RowKit Go.Joins
set_option linter.unusedVariables false
set_option maxRecDepth 100000 in
theorem lifted (os : Os) (started : os.Started) (H : Type) (enc : TypeId × Value → H) :
    ReturnsInHanded {} Try.checked os 9 .any (Rows.fnPumpsSpec.pre6 enc Try.prog Try.f9 Rows.fnPumpsRow.domain false) (Rows.fnPumpsSpec.post enc Try.prog Try.f9 false true false false) := by
  refine returnsInHanded_of_change (C := Try.checked) own started (by kernel_rfl) Try.func9
    (ChangeSpec.witness6 (enc := enc) (C := Try.checked) false ⟨#[], #[.slice none 0 0], []⟩ 8 (by kernel_rfl) (by kernel_rfl) (by kernel_rfl) (by kernel_rfl)) ?_
  intro W base args ds gs before hval0 hW hcnd _
  have hval : ∀ (j : Nat) t v, Try.f9.params[j]? = some t → args[j]? = some v → Value.okWide Try.prog W .any base t v := hval0
  have hW' := hW
  obtain ⟨p, q, hA0, hV, rfl, hfz, hnd⟩ := hW
  have hA : DataW.TrodAll enc Try.prog W 0 (fun _ => true) true Try.f9.params.toList args.toList ds p := hA0
  rw [Try.params9] at hA hval
  obtain ⟨v0, vs0, d0, ds0, p0, q0, hargs, rfl, rfl, h0, r0⟩ := trodAll_cons hA
  obtain ⟨rfl, rfl, rfl⟩ := trodAll_nil r0
  obtain rfl : args = #[v0] := by cases args; simp_all
  obtain ⟨rfl, rfl⟩ := trodVars_none hV
  have k0 := h0
  have lt0 : ∀ x ∈ p0, x.block < W.heap.size := by obtain ⟨m, hm⟩ := k0; exact DataW.trod_lt m _ _ _ hm
  obtain ⟨a0, n0, c0, rfl⟩ := okWide_slice Try.underlying47 (hval 0 47 v0 rfl rfl)
  obtain ⟨z0, s0⟩ := bytes_in Try.underlying47 Try.underlying5 (by kernel_rfl) h0
  clear hA0 hval0
  refine (lawPumpsZ a0 n0 c0 z0 W s0).mono fun e W' ⟨he, bel⟩ => ?_
  subst he
  exact ⟨_, rfl, _, _, _, [], _, [], hW', trodAll_mk1 (shut_bool Try.underlying4 _), (trodAll_cons_mk (Below.trod laidOut (by kernel_rfl) (of_decide_eq_true (by kernel_rfl)) k0 bel lt0) trodAll_mk0), rfl, bel.frame _, fun h => by cases h⟩

theorem over : Rows.fnPumpsRow.holds Try.pinned (OpenSpec.ofChange Rows.fnPumpsSpec) :=
  OpenClaim.holds_of_wide 9 Try.f9 rfl rfl rfl rfl rfl rfl rfl ⟨rfl, rfl, rfl, rfl, rfl⟩ rfl rfl rfl rfl rfl (by kernel_rfl) Try.func9 (by kernel_rfl)
    (of_decide_eq_true (by kernel_rfl)) (by unfold Func.isWrapper; first | (rw [if_pos (by decide +kernel)]; kernel_rfl) | (rw [if_neg (by decide +kernel)]; exact ⟨rfl, rfl⟩))
    (fun os started H enc _ => lifted os started H enc)
theorem proved : Rows.FnPumpsSaid := over
end fnPumps

end Go.Proofs.Ytbenbjbfmcdedaa
