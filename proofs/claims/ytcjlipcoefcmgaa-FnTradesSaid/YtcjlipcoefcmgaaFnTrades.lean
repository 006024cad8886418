/-
  The law FnTrades is proved: for every code balances are zero together, and stay as they are when debts are netted or settled; the code reads as it did. Conditions: none.
-/
import Derived.Test.YtcjlipcoefcmgaaRow
import Derived.Test.YtcjlipcoefcmgaaTradeDraw
import Derived.Deep.QuietTactic
import Derived.Deep.DeepCutAuto
import Derived.Deep.RegionWith
import Derived.IntWalk
namespace Go.Proofs.Ytcjlipcoefcmgaa
open Go.RowKit

theorem btoi_c (b : Bool) (r : Int) (w : World) (hr : r = if b then 1 else 0) : Calls Try.prog 27 #[.bool b] w fun e w' => e = .returned (.int .i64 r) ∧ w = w' := by
  subst hr
  cases b
  · go_enter Try.func27, Try.ntmps27
    go_wp2
    go_ret
    exact ⟨rfl, rfl⟩
  · go_enter Try.func27, Try.ntmps27
    go_wp2
    go_ret
    exact ⟨rfl, rfl⟩
theorem debtors_step (es : List Debt) (k : Nat) : debtorsN es (k + 1) = debtorsN es k + (if balF es ((k : Int) + 1) = 0 then 0 else 1) := rfl
theorem bals_step (es : List Debt) (k : Nat) : balsN es (k + 1) = balsN es k + balF es ((k : Int) + 1) := rfl
set_option maxRecDepth 100000 in
set_option maxHeartbeats 6400000 in
theorem lawTrades (A : Option Addr) (n c : Nat) (w : World) (hC : Code8 w A n c) : Calls Try.prog 7 #[.slice A n c] w (Ans (.bool true) w) := by
  have hm : n ≤ 9223372036854775807 := by obtain ⟨zs, h1, _⟩ := hC; have := h1.2.1; have := h1.2.2.1; unfold maxLen at this; omega
  by_cases hbig : 1048576 < (n : Int)
  · have hd := decide_eq_true hbig
    go_enter Try.func7, Try.ntmps7
    go_wp2_with fail
    refine (big_c _ _ _ _).mono ?_; rintro e w0 ⟨rfl, rfl⟩
    go_wp2
    go_ret
    exact ⟨rfl, Ext.refl _⟩
  · have hd := decide_eq_false hbig
    go_enter Try.func7, Try.ntmps7
    go_wp2_with fail
    refine (big_c _ _ _ _).mono ?_; rintro e w0 ⟨rfl, rfl⟩
    go_wp2_with fail
    refine (drawDebts_c _ _ _ _ hC).mono ?_; rintro e w1 ⟨⟨es, A1, c1, rfl, hG, o1⟩, x1⟩
    obtain ⟨m, hmE⟩ : ∃ m, m = es.length := ⟨_, rfl⟩
    have hm8 : m ≤ 8 := by rw [hmE]; exact hG.1
    have hn8 : m ≤ 1048576 := by omega
    have o1' : Own w1 w.heap.size 41 3 A1 m c1 (Debt.all es) := by rw [hmE]; exact o1
    have C1 := fun w (h : Holds w 3 A1 m c1 (Debt.all es)) => netted_c A1 m c1 es w h
    have C2 := fun w (h : Holds w 3 A1 m c1 (Debt.all es)) => settled_c A1 m c1 es w h
    obtain ⟨N, hN⟩ : ∃ N, N = nettedF es := ⟨_, rfl⟩
    obtain ⟨S, hS⟩ : ∃ S, S = settledF es := ⟨_, rfl⟩
    obtain ⟨nn, hnn⟩ : ∃ nn, nn = N.length := ⟨_, rfl⟩
    obtain ⟨ns, hns⟩ : ∃ ns, ns = S.length := ⟨_, rfl⟩
    have hnm : nn ≤ m := by rw [hnn, hmE, hN, net_is hG]; exact net_len hG
    have hns21 : ns ≤ 21 := by rw [hns, hS]; exact settledF_len es
    rw [← hN, ← hnn] at C1
    rw [← hS, ← hns] at C2
    obtain ⟨s1, s2, s3⟩ := settled_law hG
    rw [← hS] at s1 s2 s3
    rw [← hns] at s3
    have n1 := net_ok hG
    have n2 := net_same hG
    rw [← hN] at n1 n2
    have HC1 := Lib.hid C1
    have HC2 := Lib.hid C2
    have HG := Lib.hid hG
    have HE := Lib.hid hmE
    have HN := Lib.hid hN
    have HNN := Lib.hid hnn
    have S1 := Lib.hid s1
    have S2 := Lib.hid s2
    have S3 := Lib.hid s3
    have N1 := Lib.hid n1
    have N2 := Lib.hid n2
    have H1 := Lib.hid o1'.holds
    have X1 := Lib.hid x1
    rw [← hmE]
    clear C1 C2 s1 s2 s3 n1 n2 o1 o1' hG hmE hN hS hnn hns x1
    go_wp2_with fail
    refine (HC1.out _ H1.out).mono ?_; rintro e w2 ⟨A2, c2, rfl, o2, x2⟩
    have O2 := Lib.hid o2.holds
    clear o2
    go_wp2_with fail
    refine (HC2.out _ (H1.out.ext x2)).mono ?_; rintro e w3 ⟨A3, c3, rfl, o3, x3⟩
    have O3 := Lib.hid o3.holds
    have X13 := Lib.hid (x2.trans x3)
    have X23 := Lib.hid x3
    clear o3 x2 x3 HC1 HC2
    go_wp2_with fail
    go_loopw [6, 7, 8] (fun s d i wr => ∃ k : Nat, k ≤ 20 ∧ i = .int .i64 ((k : Int) + 1) ∧ s = .int .i64 (balsN es k) ∧ d = .int .i64 (debtorsN es k) ∧ Ext w3 wr) (fun _ _ i _ => 21 - (intOf i).toNat)
    case atStart => exact ⟨0, by omega, rfl, rfl, rfl, Ext.refl _⟩
    case round =>
      obtain ⟨k, hk, rfl, rfl, rfl, hx⟩ := hrel
      have b1 := debtorsN_bd es k
      have b2 := balsN_bd HG.out k
      by_cases hlt : k < 20
      · have dk : decide ((k : Int) + 1 ≤ 20) = true := decide_eq_true (by omega)
        have b3 := bal_small HG.out ((k : Int) + 1)
        have E1 := Lib.hid (bals_step es k)
        have E2 := Lib.hid (debtors_step es k)
        have CN := fun w h => balanceOf_c A2 nn c2 N ((k : Int) + 1) w h
        have CS := fun w h => balanceOf_c A3 ns c3 S ((k : Int) + 1) w h
        have CL := fun w h => balanceOf_c A1 m c1 es ((k : Int) + 1) w h
        rw [N2.out] at CN
        rw [show balF S ((k : Int) + 1) = balF es ((k : Int) + 1) from by have := S2.out (k + 1) (by omega) (by omega); rw [Int.natCast_add] at this; exact this] at CS
        have HCN := Lib.hid CN
        have HCS := Lib.hid CS
        have HCL := Lib.hid CL
        clear CN CS CL
        generalize balsN es k = sb at *
        generalize debtorsN es k = db at *
        generalize balF es ((k : Int) + 1) = v at *
        have hbt : ((if v = 0 then 0 else 1) : Int) = if (v != 0) then 1 else 0 := by by_cases h : v = 0 <;> simp [h]
        obtain ⟨r, hr⟩ : ∃ r : Int, r = if v = 0 then 0 else 1 := ⟨_, rfl⟩
        have hrb : 0 ≤ r ∧ r ≤ 1 := by rw [hr]; split <;> omega
        rw [← hr] at E2
        have HB := Lib.hid (hr.trans hbt)
        clear hr hbt
        have t1 : IntKind.i64.wrap (sb + v) = sb + v := IntWalk.i64_in _ (by omega)
        have t2 : IntKind.i64.wrap (db + r) = db + r := IntWalk.i64_in _ (by omega)
        have t3 : (v != v) = false := by simp
        have t4 : IntKind.i64.wrap ((k : Int) + 1 + 1) = (k : Int) + 1 + 1 := IntWalk.i64_in _ (by omega)
        go_wp2_with fail
        refine (HCL.out _ (H1.out.ext (X13.out.trans hx))).mono ?_; rintro e w4 ⟨rfl, x4⟩
        go_wp2_with fail
        refine (btoi_c _ r _ HB.out).mono ?_; rintro e w' ⟨rfl, rfl⟩
        go_wp2_with fail
        refine (HCN.out _ (O2.out.ext ((X23.out.trans hx).trans x4))).mono ?_; rintro e w5 ⟨rfl, x5⟩
        go_wp2_with fail
        refine (HCS.out _ (O3.out.ext ((hx.trans x4).trans x5))).mono ?_; rintro e w6 ⟨rfl, x6⟩
        go_wp2_with fail
        go_roundw
        case rel => exact ⟨k + 1, by omega, congrArg (Value.int .i64) (by push_cast; omega), by rw [E1.out], by rw [E2.out], ((hx.trans x4).trans x5).trans x6⟩
        case measure => simp [intOf]; omega
      · obtain rfl : k = 20 := by omega
        have dk : decide (((20 : Nat) : Int) + 1 ≤ 20) = false := by decide
        have b4 := balsN_all HG.out
        obtain ⟨D, hD⟩ : ∃ D, D = debtorsN es 20 := ⟨_, rfl⟩
        rw [b4]
        rw [← hD] at S3 b1 ⊢
        clear b4 b2 hD S2 N2
        go_wp2_with fail
        go_loopw [2, 10] (fun _ i wr => ∃ k : Nat, k ≤ nn ∧ i = .int .i64 k ∧ Ext w3 wr) (fun _ i _ => nn - (intOf i).toNat)
        case atStart => exact ⟨0, by omega, rfl, hx⟩
        case round =>
          clear hx
          obtain ⟨k, hk, rfl, hx⟩ := hrel
          by_cases hlt : k < nn
          · have dk : decide (k < nn) = true := decide_eq_true hlt
            have hkN : k < N.length := by rw [← HNN.out]; exact hlt
            have k0 : (0 : Int) ≤ (k : Int) := by omega
            have k1 : (k : Int) < (nn : Int) := by omega
            obtain ⟨b, off, hA, hb, hc⟩ := Debt.where_ (O2.out.ext X23.out) (by omega)
            subst hA
            have HC := Lib.hid hc
            have HK := Lib.hid hkN
            clear hc hkN
            go_wp2_with fail
            go_loopw [2, 11] (fun _ i wq => ∃ j : Nat, j ≤ k ∧ i = .int .i64 j ∧ Ext w3 wq) (fun _ i _ => k - (intOf i).toNat)
            case atStart => exact ⟨0, by omega, rfl, hx⟩
            case round =>
              clear hx
              obtain ⟨j, hj, rfl, hxq⟩ := hrel
              by_cases hlj : j < k
              · have dj : decide (j < k) = true := decide_eq_true hlj
                have j0 : (0 : Int) ≤ (j : Int) := by omega
                have j1 : (j : Int) < (nn : Int) := by omega
                obtain ⟨d0, d1, d2⟩ := HC.out k hlt
                obtain ⟨e0, e1, e2⟩ := HC.out j (by omega)
                have ap := net_apart es hlj (by have := HK.out; rw [HN.out, net_is HG.out] at this; exact this)
                rw [← net_is HG.out, ← HN.out] at ap
                generalize (Debt.at_ N k).f0 = x0 at *
                generalize (Debt.at_ N k).f1 = x1 at *
                generalize (Debt.at_ N j).f0 = y0 at *
                generalize (Debt.at_ N j).f1 = y1 at *
                have D0 := After.got (hxq.got d0)
                have D1 := After.got (hxq.got d1)
                have E0 := After.got (hxq.got e0)
                have E1 := After.got (hxq.got e1)
                clear d0 d1 d2 e0 e1 e2
                have AP1 : (y0 == x0) = false ∨ (y0 == x0) = true ∧ (y1 == x1) = false := by
                  by_cases h : y0 = x0
                  · exact .inr ⟨by simp [h], by simp; exact fun h2 => ap.1 ⟨h, h2⟩⟩
                  · exact .inl (by simp [h])
                have AP2 : (y0 == x1) = false ∨ (y0 == x1) = true ∧ (y1 == x0) = false := by
                  by_cases h : y0 = x1
                  · exact .inr ⟨by simp [h], by simp; exact fun h2 => ap.2 ⟨h, h2⟩⟩
                  · exact .inl (by simp [h])
                clear ap
                go_upto_region 22 with fail
                refine wp_region_after wr (Ext.refl _) (by kernel_rfl) (by kernel_rfl) ?_
                rcases AP1 with a1 | ⟨a1, a2⟩ <;> rcases AP2 with a3 | ⟨a3, a4⟩
                all_goals
                  ((repeat (go_big_quiet_step (fail))); refine wpQuiet_nil ?_; intro _ hw'; obtain ⟨y, hw''⟩ := hw'; subst hw'')
                  go_wp2_with fail
                  go_roundw
                  case rel => exact ⟨j + 1, by omega, by go_num, hxq.trans y.ext⟩
                  case measure => simp [intOf]; omega
              · obtain rfl : k = j := by omega
                have dj : decide (k < k) = false := decide_eq_false (by omega)
                go_wp2_with fail
                obtain ⟨d0, d1, d2⟩ := HC.out k hlt
                have kN := HK.out
                rw [HN.out, net_is HG.out] at kN
                obtain ⟨f1, f2, -, f4, f5⟩ := net_owes HG.out kN
                rw [← net_is HG.out, ← HN.out] at f1 f2 f4 f5
                have CO1 := fun w h => owes_c A1 m c1 es (Debt.at_ N k).f0 (Debt.at_ N k).f1 w h
                have CO2 := fun w h => owes_c A1 m c1 es (Debt.at_ N k).f1 (Debt.at_ N k).f0 w h
                rw [f1] at CO1
                rw [f2] at CO2
                have HO1 := Lib.hid CO1
                have HO2 := Lib.hid CO2
                have HX := Lib.hid (H1.out.ext (X13.out.trans hxq))
                have e0 := hxq.got d0
                have e1 := hxq.got d1
                have e2 := hxq.got d2
                clear f1 f2 CO1 CO2 d0 d1 d2 kN HC
                generalize (Debt.at_ N k).f0 = x0 at *
                generalize (Debt.at_ N k).f1 = x1 at *
                generalize (Debt.at_ N k).f2 = x2 at *
                have t1 : IntKind.i64.wrap (-x2) = -x2 := IntWalk.i64_in _ (by omega)
                have t2 : (x2 != x2) = false := by simp
                have t3 : (-x2 != -x2) = false := by simp
                go_wp2_with fail
                go_region_held3 (fun w' => w'.cell? ⟨b, off + k * 3, none⟩ = some (.int .i64 x0) ∧ w'.cell? ⟨b, off + k * 3 + 1, none⟩ = some (.int .i64 x1) ∧ w'.cell? ⟨b, off + k * 3 + 2, none⟩ = some (.int .i64 x2)) (first | go_keep | (refine ⟨?_, ?_, ?_⟩ <;> assumption)) ((go_at_call 18; (with_reducible first | refine (HO1.out _ ?_).mono ?_ | refine (HO2.out _ ?_).mono ?_); (exact HX.out.ext (by (repeat (first | exact Ext.refl _ | assumption | refine Ext.alloc ?_ _ | refine Ext.drew ?_ | refine Ext.drewN ?_ _ | refine Ext.setCell ?_ (by (try simp only [sizes]); omega) _ | refine Ext.step (by assumption) ?_)))); rintro e w9 ⟨rfl, x9⟩; have xx9 := Ext.trans (a := wr) (by (repeat (first | exact Ext.refl _ | assumption | refine Ext.alloc ?_ _ | refine Ext.drew ?_ | refine Ext.drewN ?_ _ | refine Ext.setCell ?_ (by (try simp only [sizes]); omega) _ | refine Ext.step (by assumption) ?_))) x9; have e3 := xx9.got e0; have e4 := xx9.got e1; have e5 := xx9.got e2))
                all_goals
                  go_wp2_with fail
                  go_roundw
                  case rel => first | exact ⟨k + 1, by omega, by go_num, hxq.trans xx9⟩ | ((repeat apply Exists.intro); refine ⟨⟨k + 1, by omega, rfl, hxq.trans xx9⟩, ?_⟩; repeat' (first | rfl | apply And.intro); all_goals go_num)
                  case measure => simp [intOf]; omega
          · obtain rfl : nn = k := by omega
            have dk : decide (nn < nn) = false := decide_eq_false (by omega)
            have f1 := decide_eq_true hnm
            have f2 := decide_eq_true S3.out
            have t1 : IntKind.i64.wrap (D - 1) = D - 1 := IntWalk.i64_in _ (by omega)
            have CON := fun w h => debtsOk_c A2 nn c2 N w h
            rw [N1.out] at CON
            have COS := fun w h => debtsOk_c A3 ns c3 S w h
            rw [S1.out] at COS
            have HCON := Lib.hid CON
            have HCOS := Lib.hid COS
            clear CON COS
            by_cases h0 : 0 < m
            · have d0 : decide (0 < m) = true := decide_eq_true h0
              obtain ⟨p1, p2, p3⟩ := pay_law HG.out (by rw [← HE.out]; exact h0)
              have CP1 := fun w h => pay_c A1 m c1 es 0 (Debt.at_ es 0).f2 w h hn8
              have CP2 := fun w h => pay_c A1 m c1 es 0 ((Debt.at_ es 0).f2 + 1) w h hn8
              rw [p1] at CP1
              rw [p2] at CP2
              obtain ⟨b, off, hA, hb, hc⟩ := Debt.where_ (H1.out.ext (X13.out.trans hx)) h0
              subst hA
              obtain ⟨e0, e1, e2⟩ := hc 0 h0
              rw [Nat.zero_mul, Nat.add_zero] at e1 e2
              have bl := bal_small HG.out (Debt.at_ es 0).f1
              have hl0 := HG.out.2 0 (by rw [← HE.out]; exact h0)
              have CBL := fun w h => balanceOf_c (some ⟨b, off, none⟩) m c1 es (Debt.at_ es 0).f1 w h
              obtain ⟨P, hP⟩ : ∃ P, P = es.drop 1 := ⟨_, rfl⟩
              have hnp : P.length = m - 1 := by rw [hP, HE.out]; simp
              rw [← hP] at CP1 p3
              simp only [hnp] at CP1
              have HP3 := Lib.hid p3
              obtain ⟨bv, hbv⟩ : ∃ bv, bv = balF es (Debt.at_ es 0).f1 := ⟨_, rfl⟩
              rw [← hbv] at CBL bl HP3
              have HCP1 := Lib.hid CP1
              have HCP2 := Lib.hid CP2
              have HCBL := Lib.hid CBL
              clear e0 hc p1 p2 p3 CP1 CP2 CBL hnp hP hbv
              generalize (Debt.at_ es 0).f1 = x1 at *
              generalize (Debt.at_ es 0).f2 = x2 at *
              have t2 : IntKind.i64.wrap (x2 + 1) = x2 + 1 := IntWalk.i64_in _ (by omega)
              have t3 : IntKind.i64.wrap ((m : Int) - 1) = ((m - 1 : Nat) : Int) := (IntWalk.i64_in _ (by omega)).trans (by omega)
              have t4 : IntKind.i64.wrap (bv - x2) = bv - x2 := IntWalk.i64_in _ (by omega)
              have t5 : (bv - x2 != bv - x2) = false := by simp
              have t6 : (((m - 1 : Nat) : Int) != ((m - 1 : Nat) : Int)) = false := by simp
              go_wp2_with fail
              refine (HCP1.out _ (H1.out.ext (X13.out.trans hx))).mono ?_; rintro e w4 ⟨A4, c4, rfl, o4, x4⟩
              have O4 := Lib.hid o4.holds
              have e1 := x4.got e1
              have e2 := x4.got e2
              clear o4
              go_wp2_with fail
              refine (HCP2.out _ (H1.out.ext ((X13.out.trans hx).trans x4))).mono ?_; rintro e w5 ⟨A5, c5, rfl, o5, x5⟩
              have e1 := x5.got e1
              have e2 := x5.got e2
              have CBP := fun w h => balanceOf_c A4 (m - 1) c4 P x1 w h
              rw [HP3.out] at CBP
              have HCBP := Lib.hid CBP
              have HX := Lib.hid (H1.out.ext (((X13.out.trans hx).trans x4).trans x5))
              have O5 := Lib.hid (O4.out.ext x5)
              clear o5 CBP
              go_wp2_with fail
              go_region_held3 (fun w' => w'.cell? ⟨b, off + 1, none⟩ = some (.int .i64 x1) ∧ w'.cell? ⟨b, off + 2, none⟩ = some (.int .i64 x2)) (first | go_keep | (refine ⟨?_, ?_⟩ <;> assumption)) ((go_at_call 16; (with_reducible first | refine (HCBL.out _ ?_).mono ?_ | refine (HCBP.out _ ?_).mono ?_); (first | exact HX.out.ext (by (repeat (first | exact Ext.refl _ | assumption | refine Ext.alloc ?_ _ | refine Ext.drew ?_ | refine Ext.drewN ?_ _ | refine Ext.setCell ?_ (by (try simp only [sizes]); omega) _ | refine Ext.step (by assumption) ?_))) | exact O5.out.ext (by (repeat (first | exact Ext.refl _ | assumption | refine Ext.alloc ?_ _ | refine Ext.drew ?_ | refine Ext.drewN ?_ _ | refine Ext.setCell ?_ (by (try simp only [sizes]); omega) _ | refine Ext.step (by assumption) ?_)))); rintro e w9 ⟨rfl, x9⟩; have xx9 := Ext.trans (a := w5) (by (repeat (first | exact Ext.refl _ | assumption | refine Ext.alloc ?_ _ | refine Ext.drew ?_ | refine Ext.drewN ?_ _ | refine Ext.setCell ?_ (by (try simp only [sizes]); omega) _ | refine Ext.step (by assumption) ?_))) x9; have e3 := xx9.got e1; have e4 := xx9.got e2))
              all_goals
                go_wp2_with fail
                refine (HCON.out _ (O2.out.ext ((X23.out.trans hx).trans ((x4.trans x5).trans xx9)))).mono ?_; rintro e w10 ⟨rfl, x10⟩
                go_wp2_with fail
                refine (HCOS.out _ (O3.out.ext ((hx.trans ((x4.trans x5).trans xx9)).trans x10))).mono ?_; rintro e w11 ⟨rfl, x11⟩
                go_wp2
                go_ret
                exact ⟨rfl, (X1.out.trans X13.out).trans (((hx.trans ((x4.trans x5).trans xx9)).trans x10).trans x11)⟩
            · have d0 : decide (0 < m) = false := decide_eq_false h0
              go_wp2_with fail
              refine (HCON.out _ (O2.out.ext (X23.out.trans hx))).mono ?_; rintro e w10 ⟨rfl, x10⟩
              go_wp2_with fail
              refine (HCOS.out _ (O3.out.ext (hx.trans x10))).mono ?_; rintro e w11 ⟨rfl, x11⟩
              go_wp2
              go_ret
              exact ⟨rfl, (X1.out.trans X13.out).trans ((hx.trans x10).trans x11)⟩
theorem lawTradesZ (A : Option Addr) (n c : Nat) (zs : List Int) (w : World) (h : Holds w 1 A n c (zs.map (Value.int .u8)) ∧ ∀ z ∈ zs, 0 ≤ z ∧ z ≤ 255) : Calls Try.prog 7 #[.slice A n c] w (Ans (.bool true) w) :=
  lawTrades A n c w ⟨zs, h⟩

namespace fnTrades
open Go.ChangeShapes Go.WideShapes Go.ChangeAt Go.RowKit Go.Joins
set_option linter.unusedVariables false
set_option maxRecDepth 100000 in
theorem lifted (os : Os) (started : os.Started) (H : Type) (enc : TypeId × Value → H) :
    ReturnsInHanded {} Try.checked os 7 .any (Rows.fnTradesSpec.pre6 enc Try.prog Try.f7 Rows.fnTradesRow.domain false) (Rows.fnTradesSpec.post enc Try.prog Try.f7 false true false false) := by
  refine returnsInHanded_of_change (C := Try.checked) own started (by kernel_rfl) Try.func7
    (ChangeSpec.witness6 (enc := enc) (C := Try.checked) false ⟨#[], #[.slice none 0 0], []⟩ 8 (by kernel_rfl) (by kernel_rfl) (by kernel_rfl) (by kernel_rfl)) ?_
  intro W base args ds gs before hval0 hW hcnd _
  have hval : ∀ (j : Nat) t v, Try.f7.params[j]? = some t → args[j]? = some v → Value.okWide Try.prog W .any base t v := hval0
  have hW' := hW
  obtain ⟨p, q, hA0, hV, rfl, hfz, hnd⟩ := hW
  have hA : DataW.TrodAll enc Try.prog W 0 (fun _ => true) true Try.f7.params.toList args.toList ds p := hA0
  rw [Try.params7] at hA hval
  obtain ⟨v0, vs0, d0, ds0, p0, q0, hargs, rfl, rfl, h0, r0⟩ := trodAll_cons hA
  obtain ⟨rfl, rfl, rfl⟩ := trodAll_nil r0
  obtain rfl : args = #[v0] := by cases args; simp_all
  obtain ⟨rfl, rfl⟩ := trodVars_none hV
  have k0 := h0
  have lt0 : ∀ x ∈ p0, x.block < W.heap.size := by obtain ⟨m, hm⟩ := k0; exact DataW.trod_lt m _ _ _ hm
  obtain ⟨a0, n0, c0, rfl⟩ := okWide_slice Try.underlying35 (hval 0 35 v0 rfl rfl)
  obtain ⟨z0, s0⟩ := bytes_in Try.underlying35 Try.underlying5 (by kernel_rfl) h0
  clear hA0 hval0
  refine (lawTradesZ a0 n0 c0 z0 W s0).mono fun e W' ⟨he, bel⟩ => ?_
  subst he
  exact ⟨_, rfl, _, _, _, [], _, [], hW', trodAll_mk1 (shut_bool Try.underlying4 _), (trodAll_cons_mk (Below.trod laidOut (by kernel_rfl) (of_decide_eq_true (by kernel_rfl)) k0 bel lt0) trodAll_mk0), rfl, bel.frame _, fun h => by cases h⟩

theorem over : Rows.fnTradesRow.holds Try.pinned (OpenSpec.ofChange Rows.fnTradesSpec) :=
  OpenClaim.holds_of_wide 7 Try.f7 rfl rfl rfl rfl rfl rfl rfl ⟨rfl, rfl, rfl, rfl, rfl⟩ rfl rfl rfl rfl rfl (by kernel_rfl) Try.func7 (by kernel_rfl)
    (of_decide_eq_true (by kernel_rfl)) (by unfold Func.isWrapper; first | (rw [if_pos (by decide +kernel)]; kernel_rfl) | (rw [if_neg (by decide +kernel)]; exact ⟨rfl, rfl⟩))
    (fun os started H enc _ => lifted os started H enc)
theorem proved : Rows.FnTradesSaid := over
end fnTrades

end Go.Proofs.Ytcjlipcoefcmgaa
