/-
  The law FnMeters is proved: for every code what a meter counts adds up, also if it turns over; the code reads as it did. Conditions: the listed library tables lie as their text lays them (the card ties them).
-/
import Derived.Test.YticpkgiccpglmaaDoorLaid
import Derived.Test.YticpkgiccpglmaaDoorMeterDraw
import Derived.Test.YticpkgiccpglmaaDoorCards
import Derived.Test.YticpkgiccpglmaaDoorTie
import Derived.SevenTiedAt
import Derived.Deep.QuietTactic
import Derived.Deep.DeepCutAuto
import Derived.Deep.RegionWith
import Derived.Deep.CutRange
import Derived.IntWalk
namespace Go.Proofs.YticpkgiccpglmaaDoor
open Go.RowKit

theorem holds_take {w : World} {A : Option Addr} {n c i : Nat} {zs : List Int} (h : Holds w 1 A n c (ints zs)) (hi : i ≤ n) : Holds w 1 A i c (ints (zs.take i)) := by
  have hl := h.intlen
  refine ⟨by rw [ints_len, List.length_take]; omega, by have := h.2.1; omega, h.2.2.1, fun hp => ?_⟩
  rw [ints_len, List.length_take] at hp
  obtain ⟨b, off, hA, hb, hc⟩ := h.int (by omega)
  exact ⟨b, off, hA, hb, fun j u hu => by
    have hj : j < i := by
      have := (List.getElem?_eq_some_iff.1 hu).1
      rw [ints_len, List.length_take] at this; omega
    rw [hc j (by omega)]
    rw [ints_get (zs.take i) j (by rw [List.length_take]; omega)] at hu
    rw [← hu]
    simp [nth, List.getElem?_take, hj]⟩
set_option maxRecDepth 100000 in
set_option maxHeartbeats 6400000 in
theorem lawMeters (A : Option Addr) (n c : Nat) (w : World) (hC : Code8 w A n c) (hT : Tab w) : Calls Tryd.prog 4 #[.slice A n c] w (Ans (.bool true) w) := by
  have hm : n ≤ 9223372036854775807 := by obtain ⟨zs, h1, _⟩ := hC; have := h1.2.1; have := h1.2.2.1; unfold maxLen at this; omega
  by_cases hbig : 1048576 < (n : Int)
  · have hd := decide_eq_true hbig
    go_enter Tryd.func4, Tryd.ntmps4
    go_wp2_with fail
    refine (big_c _ _ _ _).mono ?_; rintro e w0 ⟨rfl, rfl⟩
    go_wp2
    go_ret
    exact ⟨rfl, Ext.refl _⟩
  · have hd := decide_eq_false hbig
    obtain ⟨v, hv, Cv⟩ := at_any hC 0 (by omega)
    have CV := Lib.hid Cv
    have HT := Lib.hid hT
    clear Cv hT
    go_enter Tryd.func4, Tryd.ntmps4
    go_wp2_with fail
    refine (big_c _ _ _ _).mono ?_; rintro e w0 ⟨rfl, rfl⟩
    go_wp2_with fail
    refine (drawReadings_c _ _ _ _ hC).mono ?_; rintro e w1 ⟨⟨zs, A1, c1, rfl, hG, o1⟩, x1⟩
    obtain ⟨m, hmE⟩ : ∃ m, m = zs.length := ⟨_, rfl⟩
    obtain ⟨q, hq⟩ : ∃ q, q = m - 1 := ⟨_, rfl⟩
    have hm9 : 1 ≤ m ∧ m ≤ 9 := by rw [hmE]; exact hG.1
    have o1' : Own w1 w.heap.size 3 1 A1 m c1 (ints zs) := by rw [hmE]; exact o1
    obtain ⟨a1, a2, a3, a4, a5⟩ := all_law hG
    rw [← hmE, ← hq] at a1 a2
    obtain ⟨N, hN⟩ : ∃ N, N = allF zs := ⟨_, rfl⟩
    obtain ⟨T, hTT⟩ : ∃ T, T = turnF zs := ⟨_, rfl⟩
    have C1 := fun w h => used_all_c A1 m c1 zs w h
    have C2 := fun w h => turned_c A1 m c1 zs w h (by omega)
    rw [← hN] at a1 a2 a3 C1
    rw [← hTT] at a2 a4 a5 C2
    have HC1 := Lib.hid C1
    have HC2 := Lib.hid C2
    have HG := Lib.hid hG
    have HE := Lib.hid hmE
    have HQ := Lib.hid hq
    have A1L := Lib.hid a1
    have H1 := Lib.hid o1'.holds
    have X1 := Lib.hid x1
    obtain ⟨b, off, hA, hb, hc⟩ := o1'.holds.int (by omega)
    subst hA
    have HC := Lib.hid hc
    have hz0 := hG.2 0 (by rw [← hmE]; omega)
    have hzq := hG.2 q (by rw [← hmE]; omega)
    have w0 := hc 0 (by omega)
    have wq := hc q (by omega)
    rw [Nat.add_zero] at w0
    rw [← hmE]
    clear C1 C2 o1 o1' hG hmE hN hTT x1 a1 hc
    generalize hy0 : nth zs 0 = y0 at *
    generalize hyq : nth zs q = yq at *
    have e1 := decide_eq_false (show ¬ N < 0 by omega)
    have e2 := decide_eq_false (show ¬ T < 0 by omega)
    have t0 : IntKind.i64.wrap ((m : Int) - 1) = (q : Int) := (IntWalk.i64_in _ (by omega)).trans (by omega)
    have j0 : (0 : Int) ≤ (q : Int) := by omega
    have j1 : (q : Int) < (m : Int) := by omega
    have mpos : (0 : Int) < (m : Int) := by omega
    have t1 : IntKind.i64.wrap (yq - y0) = yq - y0 := IntWalk.i64_in _ (by omega)
    have t2 : IntKind.i64.wrap (100000 * T) = 100000 * T := IntWalk.i64_in _ (by omega)
    have t3 : IntKind.i64.wrap (yq - y0 + 100000 * T) = N := (IntWalk.i64_in _ (by omega)).trans (by omega)
    have t4 : (N != N) = false := by simp
    clear hq a2 hy0 hyq
    go_wp2_with fail
    refine (HC1.out _ H1.out).mono ?_; rintro e w2 ⟨rfl, x2⟩
    go_wp2_with fail
    refine (HC2.out _ (H1.out.ext x2)).mono ?_; rintro e w3 ⟨rfl, x3⟩
    go_wp2_with fail
    refine (stand_c _ _ _ zs _ (H1.out.ext (x2.trans x3))).mono ?_; rintro e w4 ⟨A4, c4, rfl, o4, x4⟩
    have O4 := Lib.hid o4.holds
    have X14 := Lib.hid ((x2.trans x3).trans x4)
    clear o4 x2 x3 x4 HC1 HC2
    have W0 := After.got (X14.out.got w0)
    have WQ := After.got (X14.out.got wq)
    clear w0 wq
    go_wp2_with fail
    (refine wp_region_after w4 (Ext.refl _) (by kernel_rfl) (by kernel_rfl) ?_; (repeat (go_big_quiet_step (fail))); refine wpQuiet_nil ?_; intro _ hw'; obtain ⟨y, hw''⟩ := hw'; subst hw'')
    clear t1 t2 t3 t4 W0 WQ
    have X := X14.out.trans y.ext
    have HY := Lib.hid y.ext
    go_wp2_with fail
    go_loopw [7, 8] (fun s i wr => ∃ k : Nat, (1 ≤ k ∧ k ≤ m) ∧ i = .int .i64 (k : Int) ∧ s = .int .i64 (sumG (useN zs) (k - 1)) ∧ Ext w4 wr) (fun _ i _ => m - (intOf i).toNat)
    case atStart => exact ⟨1, by omega, rfl, rfl, HY.out⟩
    case round =>
      clear HY X
      obtain ⟨k, ⟨hk1, hk⟩, rfl, rfl, hx⟩ := hrel
      have sb := sum_small (zs := zs) (k - 1) (by omega)
      by_cases hlt : k < m
      · have dk : decide (k < m) = true := decide_eq_true hlt
        have hkz : k < zs.length := by rw [← HE.out]; exact hlt
        have q0 := (X14.out.trans hx).got (HC.out (k - 1) (by omega))
        have q1 := (X14.out.trans hx).got (HC.out k hlt)
        have hu0 : usedF (nth zs (k - 1)) (nth zs k) = useN zs (k - 1) := by unfold useN; rw [show k - 1 + 1 = k by omega]
        have hub := useN_bd zs (k - 1)
        have hun := useN_nonneg (drawnR_ok HG.out) (i := k - 1) (by omega)
        have hst := stand_has HG.out (k - 1) (by omega)
        rw [show ((k - 1 : Nat) : Int) + 1 = (k : Int) by omega] at hst
        have CU := fun w => used_c (nth zs (k - 1)) (nth zs k) w
        rw [hu0] at CU
        have HCU := Lib.hid CU
        have OI := Lib.hid (show sumG (useN zs) (k + 1 - 1) = sumG (useN zs) (k - 1) + useN zs (k - 1) from by rw [show k + 1 - 1 = (k - 1) + 1 by omega]; rfl)
        clear hu0 CU
        generalize nth zs (k - 1) = ya at *
        generalize nth zs k = yb at *
        generalize useN zs (k - 1) = u at *
        generalize sumG (useN zs) (k - 1) = sm at *
        obtain ⟨bz, hbz⟩ : ∃ bz, bz = (u == 0) := ⟨_, rfl⟩
        have HST := Lib.hid (show bz = true ↔ (k : Int) ∈ standF zs from by rw [hbz]; exact hst)
        have hbz2 := hbz.symm
        have bb : (bz != bz) = false := by cases bz <;> rfl
        have u0 := decide_eq_false (show ¬ u < 0 by omega)
        have t1 : IntKind.i64.wrap (sm + u) = sm + u := IntWalk.i64_in _ (by omega)
        have k0 : (0 : Int) ≤ (k : Int) := by omega
        have k1 : (k : Int) < (m : Int) := by omega
        have km : (0 : Int) ≤ (k : Int) - 1 := by omega
        have km2 : (k : Int) - 1 < (m : Int) := by omega
        have kpos : (0 : Int) < (k : Int) := by omega
        have kw : IntKind.i64.wrap ((k : Int) - 1) = (k : Int) - 1 := IntWalk.i64_in _ (by omega)
        have kt : ((k : Int) - 1).toNat = k - 1 := by omega
        have kn1 : (1 : Int) ≤ (k : Int) := by omega
        have kn2 : (k : Int) ≤ (m : Int) := by omega
        have kn3 : (k : Int) < (m : Int) + 1 := by omega
        clear hbz hst hkz
        go_wp2_with fail
        go_region_held3 (fun w' => w'.cell? ⟨b, off + (k - 1), none⟩ = some (.int .i64 ya) ∧ w'.cell? ⟨b, off + k, none⟩ = some (.int .i64 yb)) (first | go_keep | exact ⟨q0, q1⟩ | (refine ⟨?_, ?_⟩ <;> assumption)) ((go_at_call 12; refine (HCU.out _).mono ?_; rintro e w' ⟨rfl, rfl⟩))
        all_goals
          have hx2 : Ext w4 wr.drew := hx.drew
          go_wp2_with fail
          refine (has_c A4 _ c4 (standF zs) (k : Int) _ (O4.out.ext hx2) bz HST.out).mono ?_; rintro e w' ⟨rfl, rfl⟩
          go_wp2_with fail
          go_roundw
          case rel => exact ⟨k + 1, by omega, by go_num, by rw [OI.out], hx2⟩
          case measure => simp [intOf]; omega
      · obtain rfl : k = m := by omega
        have dk : decide (k < k) = false := decide_eq_false (by omega)
        have hsum : sumG (useN zs) (k - 1) = N := by rw [A1L.out, HQ.out]
        rw [hsum]
        have ol := out_law HG.out
        have CO := fun w h => out_c (some ⟨b, off, none⟩) k c1 zs w h
        generalize outF zs = o at *
        have HCO := Lib.hid CO
        clear hsum CO sb
        go_wp2_with fail
        refine (HCO.out _ (H1.out.ext (X14.out.trans hx))).mono ?_; rintro e w5 ⟨rfl, x5⟩
        have X5 := Lib.hid (hx.trans x5)
        have X15 := Lib.hid ((X14.out.trans hx).trans x5)
        clear hx x5
        obtain ⟨V, rfl⟩ : ∃ V : Nat, v = (V : Int) := ⟨v.toNat, by omega⟩
        obtain ⟨dd, hdd⟩ : ∃ dd, dd = V % 10 := ⟨_, rfl⟩
        have hd9 : dd ≤ 9 := by omega
        have hRF : readF (V : Int) = ⟨#[UInt8.ofNat (48 + V / 10 ^ 4 % 10), UInt8.ofNat (48 + V / 10 ^ 3 % 10), UInt8.ofNat (48 + V / 10 ^ 2 % 10), UInt8.ofNat (48 + V / 10 ^ 1 % 10), UInt8.ofNat (48 + dd)]⟩ := by
          rw [readF, if_pos (inB_mk (by omega)), hdd]
          simp [SD]
        have CR := fun w ht => read_c (V : Int) w ht
        rw [hRF] at CR
        generalize UInt8.ofNat (48 + V / 10 ^ 4 % 10) = g4 at *
        generalize UInt8.ofNat (48 + V / 10 ^ 3 % 10) = g3 at *
        generalize UInt8.ofNat (48 + V / 10 ^ 2 % 10) = g2 at *
        generalize UInt8.ofNat (48 + V / 10 ^ 1 % 10) = g1 at *
        have hg0 : (UInt8.ofNat (48 + dd)).toNat = 48 + dd := by simp; omega
        generalize UInt8.ofNat (48 + dd) = g0 at *
        have HCR := Lib.hid CR
        have v1 : (V : Int).tmod 10 = (dd : Int) := by rw [hdd, Int.tmod_eq_emod_of_nonneg (by omega)]; simp
        have v2 : IntKind.u8.wrap (dd : Int) = (dd : Int) := u8_in _ (by omega)
        have v3 : IntKind.u8.wrap (((((⟨#[g4, g3, g2, g1, g0]⟩ : ByteArray)[4]'(by show 4 < 5; omega)).toNat : Nat) : Int) - 48) = (dd : Int) := by
          show IntKind.u8.wrap ((g0.toNat : Int) - 48) = _
          rw [hg0]
          exact (u8_in _ (by omega)).trans (by omega)
        have v4 : ((dd : Int) == (dd : Int)) = true := by simp
        clear hg0
        clear CR hRF hdd
        go_upto_region 18 with fail
        go_cut [101] from 77 to 101 (fun s101 wx => s101 = .bool false ∧ Ext w5 wx)
        case first =>
          rcases ol with ol | ⟨p, hp, hok, hu0⟩
          · subst ol
            go_wp2_with fail
            (refine wp_region_after w5 (Ext.refl _) (by kernel_rfl) (by kernel_rfl) ?_; (repeat (go_big_quiet_step (fail))); refine wpQuiet_nil ?_; intro _ hw'; obtain ⟨y2, hw''⟩ := hw'; subst hw'')
            go_wp2_with fail
            go_meet
            exact ⟨rfl, y2.ext⟩
          · obtain ⟨r, hr⟩ : ∃ r, r = p + 1 := ⟨_, rfl⟩
            have hrm : 1 ≤ r ∧ r < k := by have := HE.out; omega
            have hoE : o = (r : Int) := by rw [hok, hr]; push_cast; rfl
            subst hoE
            have q0 := X15.out.got (HC.out (r - 1) (by omega))
            have q1 := X15.out.got (HC.out r (by omega))
            have hu : usedF (nth zs (r - 1)) (nth zs r) = useN zs p := by unfold useN; rw [hr, Nat.add_sub_cancel]
            have CU := fun w => used_c (nth zs (r - 1)) (nth zs r) w
            rw [hu] at CU
            have HCU := Lib.hid CU
            have u0 : (useN zs p == 0) = false := by simpa using hu0
            clear hu CU hok hr hp hu0
            generalize useN zs p = u at *
            generalize nth zs (r - 1) = ya at *
            generalize nth zs r = yb at *
            have d1 : decide (0 ≤ (r : Int)) = true := decide_eq_true (by omega)
            have d2 : decide ((r : Int) < 1) = false := decide_eq_false (by omega)
            have d3 : decide (k ≤ r) = false := decide_eq_false (by omega)
            have d3' : decide ((k : Int) ≤ (r : Int)) = false := decide_eq_false (by omega)
            have k0 : (0 : Int) ≤ (r : Int) := by omega
            have k1 : (r : Int) < (k : Int) := by omega
            have km : (0 : Int) ≤ (r : Int) - 1 := by omega
            have km2 : (r : Int) - 1 < (k : Int) := by omega
            have kpos : (0 : Int) < (r : Int) := by omega
            have kw : IntKind.i64.wrap ((r : Int) - 1) = (r : Int) - 1 := IntWalk.i64_in _ (by omega)
            have kt : ((r : Int) - 1).toNat = r - 1 := by omega
            have kn1 : (1 : Int) ≤ (r : Int) := by omega
            have kn2 : (r : Int) ≤ (k : Int) := by omega
            have kn3 : (r : Int) < (k : Int) + 1 := by omega
            go_wp2_with fail
            go_region_held3 (fun w' => w'.cell? ⟨b, off + (r - 1), none⟩ = some (.int .i64 ya) ∧ w'.cell? ⟨b, off + r, none⟩ = some (.int .i64 yb)) (first | go_keep | exact ⟨q0, q1⟩ | (refine ⟨?_, ?_⟩ <;> assumption)) ((go_at_call 12; refine (HCU.out _).mono ?_; rintro e w' ⟨rfl, rfl⟩))
            all_goals
              go_wp2_with fail
              go_meet
              exact ⟨rfl, by (repeat (first | exact Ext.refl _ | assumption | refine Ext.alloc ?_ _ | refine Ext.drew ?_ | refine Ext.drewN ?_ _ | refine Ext.setCell ?_ (by (try simp only [sizes]); omega) _ | refine Ext.step (by assumption) ?_))⟩
        case rest =>
          obtain ⟨rfl, hx6⟩ := hcut
          have XW := Lib.hid ((X1.out.trans X15.out).trans hx6)
          go_wp2_with fail
          refine (CV.out _ XW.out).mono ?_; rintro e w' ⟨rfl, rfl⟩
          go_wp2_with fail
          refine (HCR.out _ (HT.out.ext XW.out)).mono ?_; rintro e w7 ⟨rfl, x7⟩
          have lit0 : [(10 : Int), 20, 30, 40, 140, 150].map (Value.int .i64) = [.int .i64 10, .int .i64 20, .int .i64 30, .int .i64 40, .int .i64 140, .int .i64 150] := rfl
          have lit := (Own.lit (w := w7.alloc (.cells #[.int .i64 10, .int .i64 20, .int .i64 30, .int .i64 40, .int .i64 140, .int .i64 150] 3)) (base := w7.heap.size) (e := 3) (k := 1) (n := 6) (cs := #[.int .i64 10, .int .i64 20, .int .i64 30, .int .i64 40, .int .i64 140, .int .i64 150]) (heap_alloc_new _ _) (by unfold maxLen; omega) (by simp)).holds
          have LH := Lib.hid (show Holds (w7.alloc (.cells #[.int .i64 10, .int .i64 20, .int .i64 30, .int .i64 40, .int .i64 140, .int .i64 150] 3)) 1 (some ⟨w7.heap.size, 0, none⟩) 6 6 (ints [10, 20, 30, 40, 140, 150]) from lit)
          have CS := fun w h => out_c (some ⟨w7.heap.size, 0, none⟩) 6 6 [10, 20, 30, 40, 140, 150] w h
          have CF := fun w h => out_c (some ⟨w7.heap.size, 0, none⟩) 4 6 [10, 20, 30, 40] w h
          rw [same_out] at CS
          rw [four_out] at CF
          have CN := fun w => used_c 99990 5 w
          rw [show usedF 99990 5 = 15 by decide] at CN
          have HCS := Lib.hid CS
          have HCF := Lib.hid CF
          have HCN := Lib.hid CN
          have LF := Lib.hid (show Holds (w7.alloc (.cells #[.int .i64 10, .int .i64 20, .int .i64 30, .int .i64 40, .int .i64 140, .int .i64 150] 3)) 1 (some ⟨w7.heap.size, 0, none⟩) 4 6 (ints [10, 20, 30, 40]) from holds_take (i := 4) LH.out (by omega))
          have n1 : (N == N) = true := by simp
          clear lit lit0 CS CF CN
          have x8 : Ext w7 (w7.alloc (.cells #[.int .i64 10, .int .i64 20, .int .i64 30, .int .i64 40, .int .i64 140, .int .i64 150] 3)) := (Ext.refl _).alloc _
          go_wp2_with fail
          generalize w7.alloc (.cells #[.int .i64 10, .int .i64 20, .int .i64 30, .int .i64 40, .int .i64 140, .int .i64 150] 3) = w8 at *
          have XW8 := Lib.hid ((XW.out.trans x7).trans x8)
          have hx9 : Ext w8 w8 := Ext.refl _
          go_region_held3 (fun w' => Ext w8 w') (first | go_keep | assumption | ((repeat (first | exact Ext.refl _ | assumption | refine Ext.alloc ?_ _ | refine Ext.drew ?_ | refine Ext.drewN ?_ _ | refine Ext.setCell ?_ (by (try simp only [sizes]); omega) _ | refine Ext.step (by assumption) ?_)); done)) (first | (go_at_call 15; refine (CV.out _ (XW8.out.trans (by (repeat (first | exact Ext.refl _ | assumption | refine Ext.alloc ?_ _ | refine Ext.drew ?_ | refine Ext.drewN ?_ _ | refine Ext.setCell ?_ (by (try simp only [sizes]); omega) _ | refine Ext.step (by assumption) ?_))))).mono ?_; rintro e w' ⟨rfl, rfl⟩) | (go_at_call 12; refine (HCN.out _).mono ?_; rintro e w' ⟨rfl, rfl⟩) | (go_at_call 14; (with_reducible first | refine (HCS.out _ ?_).mono ?_ | refine (HCF.out _ ?_).mono ?_); (first | exact LH.out.ext (by (repeat (first | exact Ext.refl _ | assumption | refine Ext.alloc ?_ _ | refine Ext.drew ?_ | refine Ext.drewN ?_ _ | refine Ext.setCell ?_ (by (try simp only [sizes]); omega) _ | refine Ext.step (by assumption) ?_))) | exact LF.out.ext (by (repeat (first | exact Ext.refl _ | assumption | refine Ext.alloc ?_ _ | refine Ext.drew ?_ | refine Ext.drewN ?_ _ | refine Ext.setCell ?_ (by (try simp only [sizes]); omega) _ | refine Ext.step (by assumption) ?_)))); rintro e w9 ⟨rfl, x9⟩; have xx9 := Ext.trans (a := w8) (by (repeat (first | exact Ext.refl _ | assumption | refine Ext.alloc ?_ _ | refine Ext.drew ?_ | refine Ext.drewN ?_ _ | refine Ext.setCell ?_ (by (try simp only [sizes]); omega) _ | refine Ext.step (by assumption) ?_))) x9))
          all_goals
            go_wp2_with fail
            go_ret
            exact ⟨rfl, XW8.out.trans (by (repeat (first | exact Ext.refl _ | assumption | refine Ext.alloc ?_ _ | refine Ext.drew ?_ | refine Ext.drewN ?_ _ | refine Ext.setCell ?_ (by (try simp only [sizes]); omega) _ | refine Ext.step (by assumption) ?_)))⟩
theorem lawMetersZ (A : Option Addr) (n c : Nat) (zs : List Int) (w : World) (h : Holds w 1 A n c (zs.map (Value.int .u8)) ∧ ∀ z ∈ zs, 0 ≤ z ∧ z ≤ 255) (hT : Tab w) : Calls Tryd.prog 4 #[.slice A n c] w (Ans (.bool true) w) :=
  lawMeters A n c w ⟨zs, h⟩ hT

namespace fnMeters
open Go.ChangeShapes Go.WideShapes Go.ChangeAt Go.RowKit Go.Joins
set_option linter.unusedVariables false
set_option maxRecDepth 100000 in
theorem lifted (os : Os) (started : os.Started) (H : Type) (enc : TypeId × Value → H) :
    ReturnsInHanded {} Tryd.checked os 4 .any (fun w args => (Rows.fnMetersSpec.pre enc Tryd.prog Tryd.f4 [] false w args ∧ laidMetH Tryd.prog Rows.fnMetersRow.laid w) ∧ sizedMet enc Tryd.prog Tryd.f4 (OpenSpec.ofChange Rows.fnMetersSpec) false w args)
      (Rows.fnMetersSpec.post enc Tryd.prog Tryd.f4 false true false false) := by
  refine returnsInHanded_of_change_and (C := Tryd.checked) (X := fun w _ => laidMetH Tryd.prog Rows.fnMetersRow.laid w) (fun _ _ _ hh h => h.of_heap hh) own started (by kernel_rfl) Tryd.func4
    (ChangeSpec.witness_shaped (enc := enc) (C := Tryd.checked) (os := os) (X := fun w _ => laidMetH Tryd.prog Rows.fnMetersRow.laid w) false (World.doorLaid Tryd.prog 24 os) #[.slice none 0 0] 8 rfl (World.shaped_of_RefB (by kernel_rfl) (by kernel_rfl)) (by kernel_rfl) (by kernel_rfl) (by kernel_rfl) (door_met os _)) ?_
  intro W base args ds gs before hval0 hW _ _ hL _
  have hT := tab_of_laid hL
  have hval : ∀ (j : Nat) t v, Tryd.f4.params[j]? = some t → args[j]? = some v → Value.okWide Tryd.prog W .any base t v := hval0
  have hW' := hW
  obtain ⟨p, q, hA0, hV, rfl, hfz, hnd⟩ := hW
  have hA : DataW.TrodAll enc Tryd.prog W 0 (fun _ => true) true Tryd.f4.params.toList args.toList ds p := hA0
  rw [Tryd.params4] at hA hval
  obtain ⟨v0, vs0, d0, ds0, p0, q0, hargs, rfl, rfl, h0, r0⟩ := trodAll_cons hA
  obtain ⟨rfl, rfl, rfl⟩ := trodAll_nil r0
  obtain rfl : args = #[v0] := by cases args; simp_all
  obtain ⟨rfl, rfl⟩ := trodVars_none hV
  have k0 := h0
  have lt0 : ∀ x ∈ p0, x.block < W.heap.size := by obtain ⟨m, hm⟩ := k0; exact DataW.trod_lt m _ _ _ hm
  obtain ⟨a0, n0, c0, rfl⟩ := okWide_slice Tryd.underlying24 (hval 0 24 v0 rfl rfl)
  obtain ⟨z0, s0⟩ := bytes_in Tryd.underlying24 Tryd.underlying5 (by kernel_rfl) h0
  clear hA0 hval0
  refine (lawMetersZ a0 n0 c0 z0 W s0 hT).mono fun e W' ⟨he, bel⟩ => ?_
  subst he
  exact ⟨_, rfl, _, _, _, [], _, [], hW', trodAll_mk1 (shut_bool Tryd.underlying4 _), (trodAll_cons_mk (Below.trod laidOut (by kernel_rfl) (of_decide_eq_true (by kernel_rfl)) k0 bel lt0) trodAll_mk0), rfl, bel.frame _, fun h => by cases h⟩

theorem over : Rows.fnMetersRow.holds Tryd.pinned (OpenSpec.ofChange Rows.fnMetersSpec) :=
  OpenClaim.holds_of_wide 4 Tryd.f4 rfl rfl rfl rfl rfl rfl rfl ⟨rfl, rfl, rfl, rfl, rfl⟩ rfl rfl rfl rfl rfl (by kernel_rfl) Tryd.func4 (by kernel_rfl)
    (of_decide_eq_true (by kernel_rfl)) (by unfold Func.isWrapper; first | (rw [if_pos (by decide +kernel)]; kernel_rfl) | (rw [if_neg (by decide +kernel)]; exact ⟨rfl, rfl⟩))
    (fun os started H enc _ => lifted os started H enc)
theorem bare : Rows.FnMetersSaid := over
theorem proved : Rows.FnMetersCardSaid :=
  Claim7.holds_tied_plain_at .later [] [.data, .data, .data] true Rows.fnMetersCard.stood.harness false
    bare (fun _ h => by cases h) (by kernel_rfl) (fun _ h => by cases h) fnMeters_row_tie rfl ⟨rfl, rfl⟩ (by kernel_rfl) rfl
    (fun f fn hf hfn => by
      obtain rfl : f = 4 := Option.some.inj ((show Tryd.prog.funcNamed "loop.example/g03307/laws.FnMeters" = some 4 by kernel_rfl).symm.trans hf) |>.symm
      obtain rfl : fn = Tryd.f4 := (Option.some.inj (Tryd.func4.symm.trans hfn)).symm
      exact ⟨by kernel_rfl, fun j t ht => by
        rw [Tryd.params4] at ht
        have hm : t ∈ [24] := by simpa using Array.mem_of_getElem? ht
        have hall : ([24].all fun u => !Tryd.prog.wantsStandIn u) = true := by kernel_rfl
        exact (show Tryd.prog.wantsStandIn t = false by simpa using List.all_eq_true.1 hall t hm)⟩)
    (by kernel_rfl)
end fnMeters

end Go.Proofs.YticpkgiccpglmaaDoor
