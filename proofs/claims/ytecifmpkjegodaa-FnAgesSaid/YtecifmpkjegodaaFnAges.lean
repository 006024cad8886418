/-
  The law FnAges is proved: for every code the oldest water is drunk first, and what is left is never older; the code reads as it did. Conditions: none.
-/
import Derived.Test.YtecifmpkjegodaaRow
import Derived.Test.YtecifmpkjegodaaAgeDraw
import Derived.Deep.QuietTactic
import Derived.Deep.DeepCutAuto
import Derived.Deep.CutRange
import Derived.Deep.CutBlock
import Derived.Deep.RegionWith
namespace Go.Proofs.Ytecifmpkjegodaa
open Go.RowKit

theorem dayLit_small {es : List Batch} (h : batB es = true) (hn : es.length ≤ 40) (k : Nat) (hk : k < es.length) : (0 ≤ day es k ∧ day es k ≤ 1000) ∧ (1 ≤ lit es k ∧ lit es k ≤ 100000) ∧ (0 ≤ day es k * lit es k ∧ day es k * lit es k ≤ 100000000) ∧ (0 ≤ sumL (dayLit es) k ∧ sumL (dayLit es) k ≤ 4000000000) := by
  have h1 := sumL_bd (f := dayLit es) (n := es.length) (b := 100000000) (dayLit_bd h) k (by omega)
  exact ⟨day_bd h k hk, lit_bd h k hk, dayLit_bd h k hk, h1.1, by omega⟩
theorem mul_small {p q : Int} (hp : -1 ≤ p ∧ p ≤ 700000000) (hq : 0 ≤ q ∧ q ≤ 3000) : -3000 ≤ p * q ∧ p * q ≤ 2100000000000 := by
  have h1 : p * q ≤ 700000000 * q := Int.mul_le_mul_of_nonneg_right hp.2 hq.1
  have h2 : -1 * q ≤ p * q := Int.mul_le_mul_of_nonneg_right hp.1 hq.1
  omega
set_option maxRecDepth 100000 in
set_option maxHeartbeats 6400000 in
theorem lawAges (A : Option Addr) (n c : Nat) (w : World) (hC : Code8 w A n c) : Calls Try.prog 9 #[.slice A n c] w (Ans (.bool true) w) := by
  have hm : n ≤ 9223372036854775807 := by obtain ⟨zs, h1, _⟩ := hC; have := h1.2.1; have := h1.2.2.1; unfold maxLen at this; omega
  by_cases hbig : 1048576 < (n : Int)
  · have hd := decide_eq_true hbig
    go_enter Try.func9, Try.ntmps9
    go_wp2_with fail
    refine (big_c _ _ _ _).mono ?_; rintro e w0 ⟨rfl, rfl⟩
    go_wp2
    go_ret
    exact ⟨rfl, Ext.refl _⟩
  · have hd := decide_eq_false hbig
    obtain ⟨v, hv, Cv⟩ := at_any hC 0 (by omega)
    obtain ⟨u, hu, Cu⟩ := at_any hC 1 (by omega)
    have CV := Lib.hid Cv
    have CU := Lib.hid Cu
    clear Cv Cu
    obtain ⟨d, hdE⟩ : ∃ d, d = u % 40 := ⟨_, rfl⟩
    have hdb : 0 ≤ d ∧ d ≤ 39 := by omega
    have um : u.tmod 40 = d := by rw [hdE]; exact Int.tmod_eq_emod_of_nonneg hu.1
    clear hdE hu
    go_enter Try.func9, Try.ntmps9
    go_wp2_with fail
    refine (big_c _ _ _ _).mono ?_; rintro e w0 ⟨rfl, rfl⟩
    go_wp2_with fail
    refine (drawBatches_c _ _ _ _ hC).mono ?_; rintro e w1 ⟨⟨es, A1, c1, rfl, hG, o1⟩, x1⟩
    obtain ⟨m, hmE⟩ : ∃ m, m = es.length := ⟨_, rfl⟩
    have hm7 : m ≤ 7 := by rw [hmE]; exact hG.1
    have hn7 : m ≤ 1048576 := by omega
    obtain ⟨L, hL⟩ : ∃ L, L = sumL (lit es) es.length := ⟨_, rfl⟩
    have Lb : 0 ≤ L ∧ L ≤ 3000 := by rw [hL]; exact liters_bd hG
    have eL : litersF es = L := by rw [hL]; exact liters_is hG
    have q0 := Int.emod_nonneg v (b := L + 1) (by omega)
    have q1 := Int.emod_lt_of_pos v (b := L + 1) (by omega)
    have tm : v.tmod (L + 1) = v % (L + 1) := Int.tmod_eq_emod_of_nonneg hv.1
    have hL0 : ((L + 1) == 0) = false := by simp; omega
    obtain ⟨q, hq⟩ : ∃ q, q = v % (L + 1) := ⟨_, rfl⟩
    rw [← hq] at q0 q1 tm
    obtain ⟨X, S, d1, d2, d3, d4, d5, d6, d7, d8, d9⟩ := drink_law hG q0 (by rw [← hL]; omega)
    rw [← hL] at d4 d9
    have o1' : Own w1 w.heap.size 42 2 A1 m c1 (Batch.all es) := by rw [hmE]; exact o1
    have C1 := fun w (h : Holds w 2 A1 m c1 (Batch.all es)) => eL ▸ sLitersIn_c A1 m c1 es w h
    have C2 := fun w (h : Holds w 2 A1 m c1 (Batch.all es)) => eL ▸ litersIn_c A1 m c1 es w h
    have C3 := fun w (h : Holds w 2 A1 m c1 (Batch.all es)) => drink_c A1 m c1 es q w h hn7 (by omega)
    rw [d1] at C3
    have C4 := fun w (h : Holds w 2 A1 m c1 (Batch.all es)) => drink_c A1 m c1 es (L + 1) w h hn7 (by omega)
    have dov := drink_over hG
    rw [← hL] at dov
    rw [dov] at C4
    have HC1 := Lib.hid C1
    have HC2 := Lib.hid C2
    have HC3 := Lib.hid C3
    have HC4 := Lib.hid C4
    have HG := Lib.hid hG
    have HE := Lib.hid hmE
    have HL := Lib.hid hL
    have H1 := Lib.hid o1'.holds
    have X1 := Lib.hid x1
    have D3 := Lib.hid d3
    have D4 := Lib.hid d4
    have D7 := Lib.hid d7
    have D8 := Lib.hid d8
    have D9 := Lib.hid d9
    rw [← hmE]
    clear C1 C2 C3 C4 dov eL hq d1 d3 d4 d7 d8 d9 o1 o1' hG hmE hL x1
    go_wp2_with fail
    refine (HC1.out _ H1.out).mono ?_; rintro e w2 ⟨rfl, x2⟩
    go_wp2_with fail
    refine (CV.out _ (X1.out.trans x2)).mono ?_; rintro e w' ⟨rfl, rfl⟩
    go_wp2_with fail
    refine (HC3.out _ (H1.out.ext x2)).mono ?_; rintro e w3 ⟨A3, c3, rfl, o3, x3⟩
    have x13 := x2.trans x3
    have X13 := Lib.hid x13
    have O3 := Lib.hid o3
    have sb : IntKind.i64.wrap (L - q) = L - q := IntWalk.i64_in _ (by omega)
    clear o3 x2 x3
    go_wp2_with fail
    refine (HC2.out _ (H1.out.ext x13)).mono ?_; rintro e w4 ⟨rfl, x4⟩
    have CX := litersIn_c A3 X.length c3 X
    rw [D4.out] at CX
    have HCX := Lib.hid CX
    have CB := batchesOk_c A3 X.length c3 X
    rw [D3.out] at CB
    have HCB := Lib.hid CB
    have x14 := x13.trans x4
    clear CX CB
    go_wp2_with fail
    refine (HCX.out _ (O3.out.holds.ext x4)).mono ?_; rintro e w5 ⟨rfl, x5⟩
    go_wp2_with fail
    refine (HCB.out _ (O3.out.holds.ext (x4.trans x5))).mono ?_; rintro e w6 ⟨rfl, x6⟩
    have x16 := (x14.trans x5).trans x6
    have x36 := (x4.trans x5).trans x6
    clear x14 x13 x4 x5 x6
    go_wp2_with fail
    go_loopw [10, 11] (fun a i wr => ∃ k : Nat, k ≤ m ∧ i = .int .i64 k ∧ a = .int .i64 (sumL (dayLit es) k) ∧ Ext w3 wr) (fun _ i _ => m - (intOf i).toNat)
    case atStart => exact ⟨0, Nat.zero_le _, rfl, rfl, x36⟩
    case round =>
      obtain ⟨k, hk, rfl, rfl, hx⟩ := hrel
      by_cases hlt : k < m
      · have dk : decide (k < m) = true := decide_eq_true hlt
        have hkE : k < es.length := by rw [← HE.out]; exact hlt
        have ⟨b1, b2, b3, b4⟩ := dayLit_small (drawnB_ok HG.out) (by have := HG.out.1; omega) k hkE
        have j0 : (0 : Int) ≤ (k : Int) := by omega
        have j1 : (k : Int) < (m : Int) := by omega
        obtain ⟨b, off, hA, hb, hc⟩ := Batch.where_ (H1.out.ext (X13.out.trans hx)) (by omega)
        subst hA
        obtain ⟨d0, d1⟩ := hc k hlt
        have OI := Lib.hid (show sumL (dayLit es) (k + 1) = sumL (dayLit es) k + (Batch.at_ es k).f0 * (Batch.at_ es k).f1 from rfl)
        change 0 ≤ (Batch.at_ es k).f0 * (Batch.at_ es k).f1 ∧ (Batch.at_ es k).f0 * (Batch.at_ es k).f1 ≤ 100000000 at b3
        clear b1 b2 hc
        generalize (Batch.at_ es k).f0 = da at *
        generalize (Batch.at_ es k).f1 = li at *
        generalize sumL (dayLit es) k = sm at *
        have E0 := After.got d0
        have E1 := After.got d1
        clear d0 d1
        go_wp2_with fail
        have s1 : IntKind.i64.wrap (da * li) = da * li := IntWalk.i64_in _ (by omega)
        have s2 : IntKind.i64.wrap (sm + da * li) = sm + da * li := IntWalk.i64_in _ (by omega)
        (refine wp_region_after wr (Ext.refl _) (by kernel_rfl) (by kernel_rfl) ?_; (repeat (go_big_quiet_step (fail))); refine wpQuiet_nil ?_; intro _ hw'; obtain ⟨y, hw''⟩ := hw'; subst hw'')
        clear s1 s2
        go_wp2_with fail
        go_roundw
        case rel => exact ⟨k + 1, by omega, by go_num, congrArg (Value.int .i64) OI.out.symm, hx.trans y.ext⟩
        case measure => simp [intOf]; omega
      · obtain rfl : m = k := by omega
        have hx3 := hx
        clear hk hlt
        go_wp2_with fail
        go_loopw [12, 13] (fun a i wr => ∃ k : Nat, k ≤ X.length ∧ i = .int .i64 k ∧ a = .int .i64 (sumL (dayLit X) k) ∧ Ext w3 wr) (fun _ i _ => X.length - (intOf i).toNat)
        case atStart => exact ⟨0, Nat.zero_le _, rfl, rfl, hx3⟩
        case round =>
          obtain ⟨k, hk, rfl, rfl, hx⟩ := hrel
          by_cases hlt : k < X.length
          · have dk : decide (k < X.length) = true := decide_eq_true hlt
            have hkE : k < X.length := hlt
            have ⟨b1, b2, b3, b4⟩ := dayLit_small D3.out (by omega) k hkE
            have j0 : (0 : Int) ≤ (k : Int) := by omega
            have j1 : (k : Int) < (X.length : Int) := by omega
            obtain ⟨b, off, hA, hb, hc⟩ := Batch.where_ (O3.out.holds.ext hx) (by omega)
            subst hA
            obtain ⟨d0, d1⟩ := hc k hlt
            have OI := Lib.hid (show sumL (dayLit X) (k + 1) = sumL (dayLit X) k + (Batch.at_ X k).f0 * (Batch.at_ X k).f1 from rfl)
            change 0 ≤ (Batch.at_ X k).f0 * (Batch.at_ X k).f1 ∧ (Batch.at_ X k).f0 * (Batch.at_ X k).f1 ≤ 100000000 at b3
            clear b1 b2 hc
            generalize (Batch.at_ X k).f0 = da at *
            generalize (Batch.at_ X k).f1 = li at *
            generalize sumL (dayLit X) k = sm at *
            have E0 := After.got d0
            have E1 := After.got d1
            clear d0 d1
            go_wp2_with fail
            have s1 : IntKind.i64.wrap (da * li) = da * li := IntWalk.i64_in _ (by omega)
            have s2 : IntKind.i64.wrap (sm + da * li) = sm + da * li := IntWalk.i64_in _ (by omega)
            (refine wp_region_after wr (Ext.refl _) (by kernel_rfl) (by kernel_rfl) ?_; (repeat (go_big_quiet_step (fail))); refine wpQuiet_nil ?_; intro _ hw'; obtain ⟨y, hw''⟩ := hw'; subst hw'')
            clear s1 s2
            go_wp2_with fail
            go_roundw
            case rel => exact ⟨k + 1, by omega, by go_num, congrArg (Value.int .i64) OI.out.symm, hx.trans y.ext⟩
            case measure => simp [intOf]; omega
          · have hkX : k = X.length := by omega
            subst hkX
            have hmE := HE.out
            obtain ⟨F, hF⟩ : ∃ F, F = firstDay es := ⟨_, rfl⟩
            have hFb : 0 ≤ F ∧ F ≤ 28 := by rw [hF]; exact firstDay_bd HG.out
            have h8 : q * F ≤ S := by rw [hF]; exact D8.out
            obtain ⟨R, hR⟩ : ∃ R, R = sumL (dayLit X) X.length := ⟨_, rfl⟩
            obtain ⟨T, hT⟩ : ∃ T, T = sumL (dayLit es) m := ⟨_, rfl⟩
            have hRb : 0 ≤ R ∧ R ≤ 700000000 := by
              have := sumL_bd (f := dayLit X) (n := X.length) (b := 100000000) (dayLit_bd D3.out) X.length (Nat.le_refl _)
              rw [hR]; omega
            have h7 : R + S = T := by rw [hR, hT, hmE]; exact D7.out
            obtain ⟨a1, a2, a3, a4⟩ := average_law HG.out
            rw [← HL.out, ← hmE, ← hT] at a2
            rw [← HL.out] at a1
            have CA := averageDay_c A1 m c1 es
            obtain ⟨Y, y1, y2, y3, y4⟩ := put_law HG.out
            have CP := put_c A1 m c1 es 900 5
            rw [y1] at CP
            rw [← HL.out] at y3 y4
            obtain ⟨o1, o2, o3⟩ := older_law HG.out (d)
            have o2b := (older_law HG.out (d + 1)).1
            rw [← HL.out] at o1 o2b
            have CO1 := olderThan_c A1 m c1 es (d)
            have CO2 := olderThan_c A1 m c1 es (d + 1)
            generalize averageF es = av at *
            generalize olderF es (d) = ol at *
            generalize olderF es (d + 1) = ol2 at *
            have HCA := Lib.hid CA
            have HCP := Lib.hid CP
            have HCO1 := Lib.hid CO1
            have HCO2 := Lib.hid CO2
            have FD := Lib.hid hF
            have HY3 := Lib.hid y3
            have HY4 := Lib.hid y4
            have ⟨m1, m2⟩ := mul_small (p := q) (q := F) (by omega) (by omega)
            have ⟨m3, m4⟩ := mul_small (p := av) (q := L) (by omega) (by omega)
            have m5 : (av + 1) * L = av * L + L := by rw [Int.add_mul, Int.one_mul]
            have ⟨m6, m7⟩ : -3000 ≤ (av + 1) * L ∧ (av + 1) * L ≤ 2100000003000 := by rw [m5]; omega
            have M5 := Lib.hid m5
            rw [← hR, ← hT]
            clear hF hR hT hmE CA CP CO1 CO2 y1 y3 y4 m5 hk hlt
            have X3r := Lib.hid hx
            go_upto_if 104 with fail
            go_cut [9] from 104 to 108 (fun s9 wx => s9 = .int .i64 F ∧ wr = wx)
            case first =>
              by_cases h0 : 0 < m
              · have b2 : decide (0 < m) = true := decide_eq_true h0
                obtain ⟨b, off, hA, hb, hc⟩ := Batch.where_ (H1.out.ext (X13.out.trans hx)) (by omega)
                subst hA
                obtain ⟨d0, -⟩ := hc 0 h0
                have EE := Lib.hid (show F = (Batch.at_ es 0).f0 from by rw [FD.out, firstDay, ← HE.out, if_pos h0])
                rw [Nat.zero_mul, Nat.add_zero] at d0
                clear hc
                go_wp2_with fail
                go_meet
                exact ⟨by rw [EE.out], rfl⟩
              · have b2 : decide (0 < m) = false := decide_eq_false h0
                have EE := Lib.hid (show F = 0 from by rw [FD.out, firstDay, ← HE.out, if_neg h0])
                go_wp2_with fail
                go_meet
                exact ⟨by rw [EE.out], rfl⟩
            case rest =>
            obtain ⟨rfl, rfl⟩ := hcut
            have XR := X13.out.trans hx
            go_wp2_with fail
            refine (CU.out _ (X1.out.trans XR)).mono ?_; rintro e w' ⟨rfl, rfl⟩
            go_wp2_with fail
            refine (HCA.out _ (H1.out.ext XR)).mono ?_; rintro e w7 ⟨rfl, x7⟩
            go_wp2_with fail
            refine (HCP.out _ (H1.out.ext (XR.trans x7)) hn7).mono ?_; rintro e w8 ⟨A8, c8, rfl, o8, x8⟩
            have O8 := Lib.hid o8
            clear o8
            go_wp2_with fail
            refine (HC4.out _ (H1.out.ext ((XR.trans x7).trans x8))).mono ?_; rintro e w9 ⟨A9, c9, rfl, o9, x9⟩
            have x19 := ((XR.trans x7).trans x8).trans x9
            clear o9
            have CY := litersIn_c A8 Y.length c8 Y
            rw [HY3.out] at CY
            have HCY := Lib.hid CY
            have CZ := olderThan_c A8 Y.length c8 Y 900
            rw [HY4.out] at CZ
            have HCZ := Lib.hid CZ
            clear CY CZ
            obtain ⟨P, hP⟩ : ∃ P, P = av * L := ⟨_, rfl⟩
            have k1 : IntKind.i64.wrap (av * L) = P := by rw [hP]; exact IntWalk.i64_in _ (by omega)
            obtain ⟨av1, hav⟩ : ∃ a, a = av + 1 := ⟨_, rfl⟩
            have k2 : IntKind.i64.wrap (av + 1) = av1 := by rw [hav]; exact IntWalk.i64_in _ (by omega)
            obtain ⟨Q, hQ⟩ : ∃ Q, Q = av1 * L := ⟨_, rfl⟩
            have k3 : IntKind.i64.wrap (av1 * L) = Q := by rw [hQ, hav]; exact IntWalk.i64_in _ (by omega)
            have k4 : IntKind.i64.wrap (S + R) = T := (IntWalk.i64_in _ (by omega)).trans (by omega)
            obtain ⟨U, hU⟩ : ∃ U, U = q * F := ⟨_, rfl⟩
            have k5 : IntKind.i64.wrap (q * F) = U := by rw [hU]; exact IntWalk.i64_in _ (by omega)
            have k6 : IntKind.i64.wrap (d + 1) = d + 1 := IntWalk.i64_in _ (by omega)
            have k7 : IntKind.i64.wrap (L + 5) = L + 5 := IntWalk.i64_in _ (by omega)
            have e1 : (T == T) = true := by simp
            have e2 : decide (U ≤ S) = true := by rw [hU]; exact decide_eq_true h8
            have e3 := decide_eq_true o1
            have e4 := decide_eq_true o2
            have e5 : (L == L) = true := by simp
            have e6 : (L + 5 == L + 5) = true := by simp
            have FIN : ((av == -1) = true ∧ (L == 0) = true ∧ (L == q) = true) ∨ ((av == -1) = false ∧ (L == 0) = false ∧ decide (P ≤ T) = true ∧ decide (T < Q) = true ∧ ((L == q) = true ∨ (L == q) = false ∧ decide (0 < X.length) = true)) := by
              by_cases hz : L = 0
              · exact .inl ⟨by simp [a1.2 hz], by simp [hz], by simp; omega⟩
              · obtain ⟨z1, z2⟩ := a2.resolve_left hz
                refine .inr ⟨by simp; exact fun c => hz (a1.1 c), by simp [hz], by rw [hP]; exact decide_eq_true z1, by rw [hQ, hav]; exact decide_eq_true z2, ?_⟩
                by_cases hq : L = q
                · exact .inl (by simp [hq])
                · exact .inr ⟨by simp [hq], decide_eq_true (D9.out (by omega))⟩
            have F2 := Lib.hid FIN
            have xw1 := X1.out
            clear FIN a1 a2 h7 h8 o1 o2 o3 hP hav hQ hU M5 m1 m2 m3 m4 m6 m7 x7 x8 XR hx x16 x36 hx3 a3 a4 hRb hFb Lb q0 q1 D8 D9 D4 D3 HE HG HL FD HY3 HY4
            have x89 := x9
            go_upto_region 26 with fail
            go_step
            simp only [List.append_eq, List.cons_append, List.nil_append]
            rcases F2.out with ⟨z1, z2, z3⟩ | ⟨z1, z2, z3, z4, ⟨z5⟩ | ⟨z5, z6⟩⟩
            · clear F2 k1 k2 k3
              have y2 : L = 0 := by simpa using z2
              have y1 : av = -1 := by simpa using z1
              have y3 : q = 0 := by rw [y2] at z3; exact (beq_iff_eq.1 z3).symm
              clear z1 z2 z3
              subst y2 y1 y3
              go_wp2_with fail
              refine (HCO1.out _ (H1.out.ext (by (repeat (first | exact Ext.refl _ | assumption | refine Ext.alloc ?_ _ | refine Ext.drew ?_ | refine Ext.drewN ?_ _ | refine Ext.setCell ?_ (by (try simp only [sizes]); omega) _ | refine Ext.step (by assumption) ?_))))).mono ?_; rintro e wz ⟨rfl, xz⟩
              go_wp2_with fail
              refine (HCO1.out _ (H1.out.ext (by (repeat (first | exact Ext.refl _ | assumption | refine Ext.alloc ?_ _ | refine Ext.drew ?_ | refine Ext.drewN ?_ _ | refine Ext.setCell ?_ (by (try simp only [sizes]); omega) _ | refine Ext.step (by assumption) ?_))))).mono ?_; rintro e wy ⟨rfl, xy⟩
              go_wp2_with fail
              refine (HCO2.out _ (H1.out.ext (by (repeat (first | exact Ext.refl _ | assumption | refine Ext.alloc ?_ _ | refine Ext.drew ?_ | refine Ext.drewN ?_ _ | refine Ext.setCell ?_ (by (try simp only [sizes]); omega) _ | refine Ext.step (by assumption) ?_))))).mono ?_; rintro e wx ⟨rfl, xx⟩
              go_wp2_with fail
              refine (HCY.out _ (O8.out.holds.ext (by (repeat (first | exact Ext.refl _ | assumption | refine Ext.alloc ?_ _ | refine Ext.drew ?_ | refine Ext.drewN ?_ _ | refine Ext.setCell ?_ (by (try simp only [sizes]); omega) _ | refine Ext.step (by assumption) ?_))))).mono ?_; rintro e wu ⟨rfl, xu⟩
              go_wp2_with fail
              refine (HCZ.out _ (O8.out.holds.ext (by (repeat (first | exact Ext.refl _ | assumption | refine Ext.alloc ?_ _ | refine Ext.drew ?_ | refine Ext.drewN ?_ _ | refine Ext.setCell ?_ (by (try simp only [sizes]); omega) _ | refine Ext.step (by assumption) ?_))))).mono ?_; rintro e wv ⟨rfl, xv⟩
              go_wp2_with fail
              go_ret
              exact ⟨rfl, xw1.trans (by (repeat (first | exact Ext.refl _ | assumption | refine Ext.alloc ?_ _ | refine Ext.drew ?_ | refine Ext.drewN ?_ _ | refine Ext.setCell ?_ (by (try simp only [sizes]); omega) _ | refine Ext.step (by assumption) ?_)))⟩
            · clear F2
              go_wp2_with fail
              refine (HCO1.out _ (H1.out.ext (by (repeat (first | exact Ext.refl _ | assumption | refine Ext.alloc ?_ _ | refine Ext.drew ?_ | refine Ext.drewN ?_ _ | refine Ext.setCell ?_ (by (try simp only [sizes]); omega) _ | refine Ext.step (by assumption) ?_))))).mono ?_; rintro e wz ⟨rfl, xz⟩
              go_wp2_with fail
              refine (HCO1.out _ (H1.out.ext (by (repeat (first | exact Ext.refl _ | assumption | refine Ext.alloc ?_ _ | refine Ext.drew ?_ | refine Ext.drewN ?_ _ | refine Ext.setCell ?_ (by (try simp only [sizes]); omega) _ | refine Ext.step (by assumption) ?_))))).mono ?_; rintro e wy ⟨rfl, xy⟩
              go_wp2_with fail
              refine (HCO2.out _ (H1.out.ext (by (repeat (first | exact Ext.refl _ | assumption | refine Ext.alloc ?_ _ | refine Ext.drew ?_ | refine Ext.drewN ?_ _ | refine Ext.setCell ?_ (by (try simp only [sizes]); omega) _ | refine Ext.step (by assumption) ?_))))).mono ?_; rintro e wx ⟨rfl, xx⟩
              go_wp2_with fail
              refine (HCY.out _ (O8.out.holds.ext (by (repeat (first | exact Ext.refl _ | assumption | refine Ext.alloc ?_ _ | refine Ext.drew ?_ | refine Ext.drewN ?_ _ | refine Ext.setCell ?_ (by (try simp only [sizes]); omega) _ | refine Ext.step (by assumption) ?_))))).mono ?_; rintro e wu ⟨rfl, xu⟩
              go_wp2_with fail
              refine (HCZ.out _ (O8.out.holds.ext (by (repeat (first | exact Ext.refl _ | assumption | refine Ext.alloc ?_ _ | refine Ext.drew ?_ | refine Ext.drewN ?_ _ | refine Ext.setCell ?_ (by (try simp only [sizes]); omega) _ | refine Ext.step (by assumption) ?_))))).mono ?_; rintro e wv ⟨rfl, xv⟩
              go_wp2_with fail
              go_ret
              exact ⟨rfl, xw1.trans (by (repeat (first | exact Ext.refl _ | assumption | refine Ext.alloc ?_ _ | refine Ext.drew ?_ | refine Ext.drewN ?_ _ | refine Ext.setCell ?_ (by (try simp only [sizes]); omega) _ | refine Ext.step (by assumption) ?_)))⟩
            · clear F2
              go_wp2_with fail
              refine (HCO1.out _ (H1.out.ext (by (repeat (first | exact Ext.refl _ | assumption | refine Ext.alloc ?_ _ | refine Ext.drew ?_ | refine Ext.drewN ?_ _ | refine Ext.setCell ?_ (by (try simp only [sizes]); omega) _ | refine Ext.step (by assumption) ?_))))).mono ?_; rintro e wz ⟨rfl, xz⟩
              go_wp2_with fail
              refine (HCO1.out _ (H1.out.ext (by (repeat (first | exact Ext.refl _ | assumption | refine Ext.alloc ?_ _ | refine Ext.drew ?_ | refine Ext.drewN ?_ _ | refine Ext.setCell ?_ (by (try simp only [sizes]); omega) _ | refine Ext.step (by assumption) ?_))))).mono ?_; rintro e wy ⟨rfl, xy⟩
              go_wp2_with fail
              refine (HCO2.out _ (H1.out.ext (by (repeat (first | exact Ext.refl _ | assumption | refine Ext.alloc ?_ _ | refine Ext.drew ?_ | refine Ext.drewN ?_ _ | refine Ext.setCell ?_ (by (try simp only [sizes]); omega) _ | refine Ext.step (by assumption) ?_))))).mono ?_; rintro e wx ⟨rfl, xx⟩
              go_wp2_with fail
              refine (HCY.out _ (O8.out.holds.ext (by (repeat (first | exact Ext.refl _ | assumption | refine Ext.alloc ?_ _ | refine Ext.drew ?_ | refine Ext.drewN ?_ _ | refine Ext.setCell ?_ (by (try simp only [sizes]); omega) _ | refine Ext.step (by assumption) ?_))))).mono ?_; rintro e wu ⟨rfl, xu⟩
              go_wp2_with fail
              refine (HCZ.out _ (O8.out.holds.ext (by (repeat (first | exact Ext.refl _ | assumption | refine Ext.alloc ?_ _ | refine Ext.drew ?_ | refine Ext.drewN ?_ _ | refine Ext.setCell ?_ (by (try simp only [sizes]); omega) _ | refine Ext.step (by assumption) ?_))))).mono ?_; rintro e wv ⟨rfl, xv⟩
              go_wp2_with fail
              go_ret
              exact ⟨rfl, xw1.trans (by (repeat (first | exact Ext.refl _ | assumption | refine Ext.alloc ?_ _ | refine Ext.drew ?_ | refine Ext.drewN ?_ _ | refine Ext.setCell ?_ (by (try simp only [sizes]); omega) _ | refine Ext.step (by assumption) ?_)))⟩
theorem lawAgesZ (A : Option Addr) (n c : Nat) (zs : List Int) (w : World) (h : Holds w 1 A n c (zs.map (Value.int .u8)) ∧ ∀ z ∈ zs, 0 ≤ z ∧ z ≤ 255) : Calls Try.prog 9 #[.slice A n c] w (Ans (.bool true) w) :=
  lawAges A n c w ⟨zs, h⟩

namespace fnAges
open Go.ChangeShapes Go.WideShapes Go.ChangeAt Go.RowKit Go.Joins
set_option linter.unusedVariables false
set_option maxRecDepth 100000 in
theorem lifted (os : Os) (started : os.Started) (H : Type) (enc : TypeId × Value → H) :
    ReturnsInHanded {} Try.checked os 9 .any (Rows.fnAgesSpec.pre6 enc Try.prog Try.f9 Rows.fnAgesRow.domain false) (Rows.fnAgesSpec.post enc Try.prog Try.f9 false true false false) := by
  refine returnsInHanded_of_change (C := Try.checked) own started (by kernel_rfl) Try.func9
    (ChangeSpec.witness6 (enc := enc) (C := Try.checked) false ⟨#[], #[.slice none 0 0], []⟩ 8 (by kernel_rfl) (by kernel_rfl) (by kernel_rfl) (by kernel_rfl)) ?_
  intro W base args ds gs before hval0 hW hcnd _
  have hval : ∀ (j : Nat) t v, Try.f9.params[j]? = some t → args[j]? = some v → Value.okWide Try.prog W .any base t v := hval0
  have hW' := hW
  obtain ⟨p, q, hA0, hV, rfl, hfz, hnd⟩ := hW
  have hA : DataW.TrodAll enc Try.prog W 0 (fun _ => true) true Try.f9.params.toList args.toList ds p := hA0
  rw [Try.params9] at hA hval
  obtain ⟨v0, vs0, d0, ds0, p0, q0, hargs, rfl, rfl, h0, r0⟩ := trodAll_cons hA
  obtain ⟨rfl, rfl, rfl⟩ := trodAll_nil r0
  obtain rfl : args = #[v0] := by cases args; simp_all
  obtain ⟨rfl, rfl⟩ := trodVars_none hV
  have k0 := h0
  have lt0 : ∀ x ∈ p0, x.block < W.heap.size := by obtain ⟨m, hm⟩ := k0; exact DataW.trod_lt m _ _ _ hm
  obtain ⟨a0, n0, c0, rfl⟩ := okWide_slice Try.underlying37 (hval 0 37 v0 rfl rfl)
  obtain ⟨z0, s0⟩ := bytes_in Try.underlying37 Try.underlying5 (by kernel_rfl) h0
  clear hA0 hval0
  refine (lawAgesZ a0 n0 c0 z0 W s0).mono fun e W' ⟨he, bel⟩ => ?_
  subst he
  exact ⟨_, rfl, _, _, _, [], _, [], hW', trodAll_mk1 (shut_bool Try.underlying4 _), (trodAll_cons_mk (Below.trod laidOut (by kernel_rfl) (of_decide_eq_true (by kernel_rfl)) k0 bel lt0) trodAll_mk0), rfl, bel.frame _, fun h => by cases h⟩

theorem over : Rows.fnAgesRow.holds Try.pinned (OpenSpec.ofChange Rows.fnAgesSpec) :=
  OpenClaim.holds_of_wide 9 Try.f9 rfl rfl rfl rfl rfl rfl rfl ⟨rfl, rfl, rfl, rfl, rfl⟩ rfl rfl rfl rfl rfl (by kernel_rfl) Try.func9 (by kernel_rfl)
    (of_decide_eq_true (by kernel_rfl)) (by unfold Func.isWrapper; first | (rw [if_pos (by decide +kernel)]; kernel_rfl) | (rw [if_neg (by decide +kernel)]; exact ⟨rfl, rfl⟩))
    (fun os started H enc _ => lifted os started H enc)
theorem proved : Rows.FnAgesSaid := over
end fnAges

end Go.Proofs.Ytecifmpkjegodaa
