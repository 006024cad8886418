/-
  The law FnCounts is proved: for every code one wrong level is found, and gaps add up to what is missing; the code reads as it did. Conditions: none.
-/
import Derived.Test.YtpbjbfnmnihpiaaRow
import Derived.Test.YtpbjbfnmnihpiaaCountDraw
import Derived.Deep.QuietTactic
import Derived.Deep.DeepCutAuto
import Derived.Deep.CutRange
import Derived.Deep.CutBlock
namespace Go.Proofs.Ytpbjbfnmnihpiaa
open Go.RowKit

/-- what the first gap says of gap k, in the tests' own forms -/
theorem first_tests (es : List Entry) (s : Int) (k : Nat) (hk : k < es.length) :
    (decide (firstF es s < 0) = true ∧ gapF es s (k : Int) = 0 ∧ (firstF es s == (k : Int)) = false ∧ decide ((k : Int) < firstF es s) = false) ∨
    (decide (firstF es s < 0) = false ∧ (gapF es s (k : Int) == 0) = false ∧ (firstF es s == (k : Int)) = true ∧ decide ((k : Int) < firstF es s) = false) ∨
    (decide (firstF es s < 0) = false ∧ gapF es s (k : Int) = 0 ∧ (firstF es s == (k : Int)) = false ∧ decide ((k : Int) < firstF es s) = true) ∨
    (decide (firstF es s < 0) = false ∧ (firstF es s == (k : Int)) = false ∧ decide ((k : Int) < firstF es s) = false) := by
  obtain ⟨h1, h2, h3⟩ := first_says es s k hk
  rcases Int.lt_or_le (firstF es s) 0 with q | q
  · exact .inl ⟨decide_eq_true q, h1 q, by simp; omega, decide_eq_false (by omega)⟩
  · rcases Int.lt_trichotomy (firstF es s) (k : Int) with p | p | p
    · exact .inr (.inr (.inr ⟨decide_eq_false (by omega), by simp; omega, decide_eq_false (by omega)⟩))
    · exact .inr (.inl ⟨decide_eq_false (by omega), by simpa using h2 p, by simp [p], decide_eq_false (by omega)⟩)
    · exact .inr (.inr (.inl ⟨decide_eq_false (by omega), h3 p, by simp; omega, decide_eq_true p⟩))
theorem mis_says (es : List Entry) (s : Int) : ∃ mk ml mo, misV es s = .tuple #[.int .i64 mk, .int .i64 ml, .bool mo] ∧ (mo = true → ∃ k : Nat, k < es.length ∧ firstF es s = k ∧ mk = k ∧ inB ml 0 100000 = true ∧ firstF (levSet es k ml) s = -1) := by
  by_cases h : misOk es s = true
  · obtain ⟨k, h1, h2, h3, h4, h5⟩ := mis_found h
    exact ⟨_, _, _, h3, fun _ => ⟨k, h1, h2, rfl, h4, h5⟩⟩
  · exact ⟨_, _, _, mis_none h, fun c => by cases c⟩
set_option maxRecDepth 100000 in
set_option maxHeartbeats 6400000 in
theorem lawCounts (A : Option Addr) (n c : Nat) (w : World) (hC : Code8 w A n c) : Calls Try.prog 3 #[.slice A n c] w (Ans (.bool true) w) := by
  have hm : n ≤ 9223372036854775807 := by obtain ⟨zs, h1, _⟩ := hC; have := h1.2.1; have := h1.2.2.1; unfold maxLen at this; omega
  by_cases hbig : 1048576 < (n : Int)
  · have hd := decide_eq_true hbig
    go_enter Try.func3, Try.ntmps3
    go_wp2_with fail
    refine (big_c _ _ _ _).mono ?_; rintro e w0 ⟨rfl, rfl⟩
    go_wp2
    go_ret
    exact ⟨rfl, Ext.refl _⟩
  · have hd := decide_eq_false hbig
    obtain ⟨v, hv, Cv⟩ := at_any hC 0 (by omega)
    have CV := Lib.hid Cv
    clear Cv
    go_enter Try.func3, Try.ntmps3
    go_wp2_with fail
    refine (big_c _ _ _ _).mono ?_; rintro e w0 ⟨rfl, rfl⟩
    go_wp2_with fail
    refine (drawEntries_c _ _ _ _ hC).mono ?_; rintro e w1 ⟨⟨es, s, A1, c1, rfl, hG, o1⟩, x1⟩
    obtain ⟨m, hmE⟩ : ∃ m, m = es.length := ⟨_, rfl⟩
    have hm8 : m ≤ 8 := by rw [hmE]; exact hG.1
    have hsb := hG.2.1
    rw [← hmE]
    rw [← hmE] at o1
    have HG := Lib.hid hG
    have HE := Lib.hid hmE
    have H1 := Lib.hid o1.holds
    have X1 := Lib.hid x1
    clear hG hmE o1 x1
    have hn7 : m ≤ 1048576 := by omega
    go_wp2_with fail
    refine (firstGap_c _ _ _ es s _ H1.out).mono ?_; rintro e w2 ⟨rfl, x2⟩
    go_wp2_with fail
    refine (totalGap_c _ _ _ es s _ (H1.out.ext x2) hn7).mono ?_; rintro e w3 ⟨rfl, x3⟩
    have x13 := x2.trans x3
    clear x2 x3
    go_wp2_with fail
    go_loopw [8, 9] (fun a i wr => ∃ k : Nat, k ≤ m ∧ i = .int .i64 k ∧ a = .int .i64 (sumG (gapI es s) k) ∧ Ext w1 wr) (fun _ i _ => m - (intOf i).toNat)
    case atStart => exact ⟨0, Nat.zero_le _, rfl, rfl, x13⟩
    case round =>
      obtain ⟨k, hk, rfl, rfl, hx⟩ := hrel
      by_cases hlt : k < m
      · have dk : decide (k < m) = true := decide_eq_true hlt
        have hkl : k < es.length := by have := HE.out; omega
        have SB := sumG_bd (gapI_bd es s) k
        have gb := gapF_bd es s (k : Int)
        have SS := Lib.hid (show sumG (gapI es s) (k + 1) = sumG (gapI es s) k + gapF es s (k : Int) from rfl)
        have FT := first_tests es s k hkl
        have GC := Lib.hid (gapAt_c A1 m c1 es s (k : Int) wr (H1.out.ext hx))
        generalize firstF es s = g at *
        generalize gapF es s (k : Int) = gp at *
        have hs1 : -2400000 ≤ sumG (gapI es s) k ∧ sumG (gapI es s) k ≤ 2400000 := by omega
        go_upto_region 11 with fail
        rcases FT with ⟨q1, rfl, q3, q4⟩ | ⟨q1, q2, q3, q4⟩ | ⟨q1, rfl, q3, q4⟩ | ⟨q1, q3, q4⟩
        all_goals
          go_wp2_with fail
          refine GC.out.mono ?_; rintro e w4 ⟨rfl, x4⟩
          go_wp2_with fail
          go_roundw
          case rel => exact ⟨k + 1, by omega, by go_num, congrArg (Value.int .i64) (by have := SS.out; omega), hx.trans x4⟩
          case measure => simp [intOf]; omega
      · obtain rfl : m = k := by omega
        have LS := largest_says es s
        have hT : sumG (gapI es s) m = totalF es s := by rw [totalF, ← HE.out]
        rw [hT]
        have MT := mis_c A1 m c1 es s
        have hxw := hx
        clear hT
        go_wp2_with fail
        refine (largestGap_c _ _ _ es s _ (H1.out.ext hx) hn7).mono ?_; rintro e w5 ⟨rfl, x5⟩
        have hx5 := hx.trans x5
        have TE := Lib.hid (total_is HG.out)
        have TB := sumG_bd (gapI_bd es s) es.length
        have tb : -2400000 ≤ totalF es s ∧ totalF es s ≤ 2400000 := by
          have := HE.out
          unfold totalF
          omega
        obtain ⟨mk, ml, mo, hmv, hms⟩ := mis_says es s
        rw [hmv] at MT
        have HMT := Lib.hid MT
        have HMS := Lib.hid hms
        clear MT hms hmv
        have WO := Lib.hid (fun (hg : firstF es s < 0) i hi => wrong_one (i := i) HG.out hg hi)
        clear TB
        -- the largest gap: two ways meet behind region 16
        go_upto_region 16 with fail
        go_cut [95] from 81 to 95 (fun s95 wx => s95 = .bool false ∧ w5 = wx)
        case first =>
          have hmE := HE.out
          rcases LS with ⟨e1, e2⟩ | ⟨g, b, e1, e2, e3, e4, -⟩
          · have d1 : decide (0 ≤ firstF es s) = false := decide_eq_false (by omega)
            have d2 : decide (0 ≤ largestF es s) = false := decide_eq_false (by omega)
            have d3 : decide ((m : Int) ≤ largestF es s) = false := decide_eq_false (by omega)
            clear e1 e2 hmE
            go_wp2_with fail
            go_meet
            exact ⟨rfl, rfl⟩
          · have d1 : decide (0 ≤ firstF es s) = true := decide_eq_true (by omega)
            have d2 : decide (0 ≤ largestF es s) = true := decide_eq_true (by omega)
            have d3 : decide ((m : Int) ≤ largestF es s) = false := decide_eq_false (by omega)
            clear e1 e3 hmE
            go_wp2_with fail
            go_meet
            exact ⟨rfl, rfl⟩
        case rest =>
          obtain ⟨rfl, rfl⟩ := hcut
          go_upto_block 2 with fail
          go_cut [12] from 96 to 121 (fun s12 wx => Ext w1 wx)
          case first =>
            rcases LS with ⟨e1, e2⟩ | ⟨g, b, e1, e2, e3, e4, hmax⟩
            · have d2 : decide (0 ≤ largestF es s) = false := decide_eq_false (by omega)
              clear e1 e2
              go_wp2_with fail
              go_loopw [12] (fun i wr => i = .int .i64 0 ∧ Ext w1 wr) (fun i _ => 1)
              case atStart => exact ⟨rfl, hx5⟩
              case round =>
                obtain ⟨rfl, hx⟩ := hrel
                by_cases h0 : 0 < m
                · have dm : decide (0 < m) = true := decide_eq_true h0
                  go_wp2_with fail
                  go_meet
                  exact hx
                · have dm : decide (0 < m) = false := decide_eq_false h0
                  go_wp2_with fail
                  go_meet
                  exact hx
            · have d2 : decide (0 ≤ largestF es s) = true := decide_eq_true (by omega)
              have HB := Lib.hid e3
              have HM := Lib.hid hmax
              clear e1 e3 hmax
              go_wp2_with fail
              go_loopw [12] (fun i wr => ∃ k : Nat, k ≤ m ∧ i = .int .i64 k ∧ Ext w1 wr) (fun i _ => m - (intOf i).toNat)
              case atStart => exact ⟨0, Nat.zero_le _, rfl, hx5⟩
              case round =>
                obtain ⟨k, hk, rfl, hx⟩ := hrel
                by_cases hlt : k < m
                · have dk : decide (k < m) = true := decide_eq_true hlt
                  have g1 := gapF_bd es s (k : Int)
                  have g2 := gapF_bd es s (largestF es s)
                  have hle : absI (gapF es s (k : Int)) ≤ absI (gapF es s (largestF es s)) := by
                    rw [HB.out]; exact HM.out k (by have := HE.out; omega)
                  rw [← abs_max, ← abs_max] at hle
                  have dm : decide (max (gapF es s (largestF es s)) (-(gapF es s (largestF es s))) < max (gapF es s (k : Int)) (-(gapF es s (k : Int)))) = false := decide_eq_false (by omega)
                  have GC := Lib.hid (fun w => gapAt_c A1 m c1 es s (k : Int) w)
                  have GD := Lib.hid (fun w => gapAt_c A1 m c1 es s (largestF es s) w)
                  generalize gapF es s (k : Int) = gx at *
                  generalize gapF es s (largestF es s) = gy at *
                  clear hle
                  go_wp2_with fail
                  refine (GC.out _ (H1.out.ext hx)).mono ?_; rintro e w6 ⟨rfl, x6⟩
                  go_wp2_with fail
                  refine (GD.out _ (H1.out.ext (hx.trans x6))).mono ?_; rintro e w7 ⟨rfl, x7⟩
                  go_wp2_with fail
                  go_roundw
                  case rel => exact ⟨k + 1, by omega, by go_num, (hx.trans x6).trans x7⟩
                  case measure => simp [intOf]; omega
                · obtain rfl : m = k := by omega
                  have dk : decide (m < m) = false := decide_eq_false (by omega)
                  go_wp2_with fail
                  go_meet
                  exact hx
          case rest =>
            have hx := hcut
            clear LS hx5
            go_wp2_with fail
            refine (HMT.out _ (H1.out.ext hx) hn7).mono ?_; rintro e w6 ⟨rfl, x6⟩
            have hx6 := hx.trans x6
            go_upto_if 129 with fail
            go_cut [18] from 130 to 153 (fun s18 wx => Ext w1 wx)
            case first =>
              cases mo
              · go_wp2_with fail
                go_meet
                exact hx6
              · obtain ⟨k, k1, k2, rfl, k4, k5⟩ := HMS.out rfl
                have hkm : k < m := by have := HE.out; omega
                have HF := Lib.hid k5
                have H4 := Lib.hid k4
                have H2 := Lib.hid k2
                have b1 : decide (m ≤ k) = false := decide_eq_false (by omega)
                have b2 : ((k : Int) != firstF es s) = false := by simp [k2]
                have j0 : (0 : Int) ≤ (k : Int) := by omega
                have j1 : (k : Int) < (m : Int) := by omega
                clear k1 k2 k4 k5
                have hW6 : w1.heap.size ≤ w6.heap.size := hx6.len
                go_wp2_with (at_builtin; refine wpList_cat w6 (by (repeat (first | exact Ext.refl _ | assumption | refine Ext.alloc ?_ _ | refine Ext.drew ?_ | refine Ext.drewN ?_ _ | refine Ext.setCell ?_ (by (try simp only [sizes]); omega) _ | refine Ext.step (by assumption) ?_))) rfl _ _ _ rfl 32 (.agg #[.int .i64 0, .int .i64 0, .int .i64 0]) 3 24 elInfo Try.underlying24 rfl (by omega) (some ⟨w6.heap.size, 0, none⟩) 0 0 [] rfl (Own.lit (cs := #[]) (heap_alloc_new _ _) (by omega) rfl) _ _ _ _ rfl (H1.out.ext (hx6.trans (by (repeat (first | exact Ext.refl _ | assumption | refine Ext.alloc ?_ _ | refine Ext.drew ?_ | refine Ext.drewN ?_ _ | refine Ext.setCell ?_ (by (try simp only [sizes]); omega) _ | refine Ext.step (by assumption) ?_))))) (Entry.all_one es) (by omega) (by omega) ?_; intro A2 c2 w2' ho2 hx2; simp only [Nat.zero_add, List.nil_append] at ho2; obtain ⟨g, hA2, hg1, hg2⟩ := ho2.form (by omega); subst hA2; have hu2 := (World.ownsRow.cellAt ho2 (k * 3 + 2) (by omega)).trans (Entry.all_get2 es k (by rw [← HE.out]; exact hkm)); have hf2 := World.ownsRow.frozenAt ho2 (k * 3 + 2))
                have hs := (World.ownsRow.stored ho2 (k * 3 + 2) (.int .i64 ml)).1
                rw [Entry.set2 es k (by rw [← HE.out]; exact hkm)] at hs
                have HW := Lib.hid (show Own _ w6.heap.size 32 3 _ _ _ (Entry.all (levSet es k ml)) from hs)
                have xo := Ext.setCell hx2 (p := ⟨g, k * 3 + 2, none⟩) hg1 (.int .i64 ml)
                have FG := firstGap_c _ _ _ (levSet es k ml) s _ HW.out.holds
                rw [HF.out] at FG
                have HFG := Lib.hid FG
                clear hs ho2 FG
                refine HFG.out.mono ?_; rintro e w9 ⟨rfl, x9⟩
                go_wp2_with fail
                go_meet
                exact (hx6.trans xo).trans x9
            case rest =>
              have hx7 := hcut
              clear HMT HMS hx6 hcut hx x6
              obtain ⟨tst, htst⟩ : ∃ tst : Bool, tst = decide (firstF es s < 0 ∧ 0 < m) := ⟨_, rfl⟩
              have HTS := Lib.hid htst
              clear htst
              go_upto_region 33 with fail
              go_cut [159] from 154 to 159 (fun s159 wx => s159 = .bool tst ∧ wc = wx)
              case first =>
                rcases Int.lt_or_le (firstF es s) 0 with hneg | hpos
                · have b1 := decide_eq_true hneg
                  by_cases h0 : 0 < m
                  · have b2 : decide (0 < m) = true := decide_eq_true h0
                    have HT := Lib.hid (HTS.out.trans (decide_eq_true (show firstF es s < 0 ∧ 0 < m from ⟨hneg, h0⟩)))
                    clear hneg
                    go_wp2_with fail
                    go_meet
                    exact ⟨by rw [HT.out], rfl⟩
                  · have b2 : decide (0 < m) = false := decide_eq_false h0
                    have HT := Lib.hid (HTS.out.trans (decide_eq_false (show ¬ (firstF es s < 0 ∧ 0 < m) from fun c => h0 c.2)))
                    clear hneg
                    go_wp2_with fail
                    go_meet
                    exact ⟨by rw [HT.out], rfl⟩
                · have b1 : decide (firstF es s < 0) = false := decide_eq_false (by omega)
                  have HT := Lib.hid (HTS.out.trans (decide_eq_false (show ¬ (firstF es s < 0 ∧ 0 < m) from fun c => by omega)))
                  clear hpos
                  go_wp2_with fail
                  go_meet
                  exact ⟨by rw [HT.out], rfl⟩
              case rest =>
              obtain ⟨rfl, rfl⟩ := hcut
              go_upto_if 159 with fail
              go_cut [19] from 160 to 199 (fun s19 wx => Ext w1 wx)
              case first =>
                cases tst
                · go_wp2_with fail
                  go_meet
                  exact hx7
                · obtain ⟨hneg, h0⟩ := of_decide_eq_true HTS.out.symm
                  obtain ⟨vn, rfl⟩ : ∃ vn : Nat, v = (vn : Int) := ⟨v.toNat, by omega⟩
                  obtain ⟨k, hk⟩ : ∃ k, k = vn % m := ⟨_, rfl⟩
                  have hkm : k < m := by rw [hk]; exact Nat.mod_lt _ h0
                  have vm : (vn : Int).tmod (m : Int) = (k : Int) := by rw [hk, Int.tmod_eq_emod_of_nonneg (by omega)]; simp
                  have hm0 : ((m : Int) == 0) = false := by simp; omega
                  have hkE : k < es.length := by rw [← HE.out]; exact hkm
                  have hfine := HG.out.2.2 k hkE
                  have WOK := WO.out hneg k hkE
                  have HNEG := Lib.hid hneg
                  have j0 : (0 : Int) ≤ (k : Int) := by omega
                  have j1 : (k : Int) < (m : Int) := by omega
                  obtain ⟨b, off, rfl, hb, hc⟩ := Entry.where_ (H1.out.ext hx7) (by omega)
                  obtain ⟨-, -, d2⟩ := hc k hkm
                  have D2 := Lib.hid d2
                  clear hk hneg hc d2
                  go_wp2_with (first | (at_builtin; refine wpList_cat wc (by (repeat (first | exact Ext.refl _ | assumption | refine Ext.alloc ?_ _ | refine Ext.drew ?_ | refine Ext.drewN ?_ _ | refine Ext.setCell ?_ (by (try simp only [sizes]); omega) _ | refine Ext.step (by assumption) ?_))) rfl _ _ _ rfl 32 (.agg #[.int .i64 0, .int .i64 0, .int .i64 0]) 3 24 elInfo Try.underlying24 rfl (by omega) (some ⟨wc.heap.size, 0, none⟩) 0 0 [] rfl (Own.lit (cs := #[]) (heap_alloc_new _ _) (by omega) rfl) _ _ _ _ rfl (H1.out.ext (hx7.trans (by (repeat (first | exact Ext.refl _ | assumption | refine Ext.alloc ?_ _ | refine Ext.drew ?_ | refine Ext.drewN ?_ _ | refine Ext.setCell ?_ (by (try simp only [sizes]); omega) _ | refine Ext.step (by assumption) ?_))))) (Entry.all_one es) (by omega) (by omega) ?_; intro A2 c2 w2' ho2 hx2; simp only [Nat.zero_add, List.nil_append] at ho2; obtain ⟨g, hA2, hg1, hg2⟩ := ho2.form (by omega); subst hA2; have hu2 := (World.ownsRow.cellAt ho2 (k * 3 + 2) (by omega)).trans (Entry.all_get2 es k (by rw [← HE.out]; exact hkm)); have hf2 := World.ownsRow.frozenAt ho2 (k * 3 + 2); have e2 := hx2.got D2.out) | (go_at_call 17; refine (CV.out _ ((X1.out.trans hx7).trans hx2)).mono ?_; rintro e w' ⟨rfl, rfl⟩))
                  have hs := (World.ownsRow.stored ho2 (k * 3 + 2) (.int .i64 ((Entry.at_ es k).f2 + 7))).1
                  rw [Entry.set2 es k (by rw [← HE.out]; exact hkm)] at hs
                  have HW := Lib.hid (show Own _ wc.heap.size 32 3 _ _ _ (Entry.all (levSet es k ((Entry.at_ es k).f2 + 7))) from hs)
                  have xo := Ext.setCell hx2 (p := ⟨g, k * 3 + 2, none⟩) hg1 (.int .i64 ((Entry.at_ es k).f2 + 7))
                  have MT := mis_c _ _ _ (levSet es k ((Entry.at_ es k).f2 + 7)) s _ HW.out.holds hn7
                  rw [WOK] at MT
                  have HMT := Lib.hid MT
                  clear hs ho2 MT WOK e2
                  refine HMT.out.mono ?_; rintro e w9 ⟨rfl, x9⟩
                  have e9 := (xo.trans x9).got D2.out
                  have hx9 := (hx7.trans xo).trans x9
                  go_wp2_with fail
                  go_meet
                  exact hx9
              case rest =>
              have hx8 := hcut
              clear hcut hx7 WO HTS
              go_upto_if 202 with fail
              go_cut [24] from 203 to 208 (fun s24 wx => s24 = .int .i64 (endE es s) ∧ Ext w1 wx)
              case first =>
                by_cases h0 : 0 < m
                · have b2 : decide (0 < m) = true := decide_eq_true h0
                  have i0 : (0 : Int) ≤ (m : Int) - 1 := by omega
                  have i1 : (m : Int) - 1 < (m : Int) := by omega
                  obtain ⟨b, off, rfl, hb, hc⟩ := Entry.where_ (H1.out.ext hx8) (by omega)
                  obtain ⟨-, -, d2⟩ := hc (m - 1) (by omega)
                  have EE := Lib.hid (show endE es s = (Entry.at_ es (m - 1)).f2 from by rw [endE, ← HE.out, if_pos h0])
                  clear hc
                  go_wp2_with fail
                  go_meet
                  exact ⟨by rw [EE.out], hx8⟩
                · have b2 : decide (0 < m) = false := decide_eq_false h0
                  have EE := Lib.hid (show endE es s = s from by rw [endE, ← HE.out, if_neg h0])
                  go_wp2_with fail
                  go_meet
                  exact ⟨by rw [EE.out], hx8⟩
              case rest =>
              obtain ⟨rfl, hx9⟩ := hcut
              have eb : 0 ≤ endE es s ∧ endE es s ≤ 1000 := by
                unfold endE
                split
                · exact (HG.out.2.2 _ (by omega)).2.2
                · omega
              go_wp2_with fail
              go_loopw [25, 26] (fun a i wr => ∃ k : Nat, k ≤ m ∧ i = .int .i64 k ∧ a = .int .i64 (endE es s - s + outIn es k) ∧ Ext w1 wr) (fun _ i _ => m - (intOf i).toNat)
              case atStart => exact ⟨0, Nat.zero_le _, rfl, by simp [outIn], hx9⟩
              case round =>
                obtain ⟨k, hk, rfl, rfl, hx⟩ := hrel
                by_cases hlt : k < m
                · have dk : decide (k < m) = true := decide_eq_true hlt
                  have hkE : k < es.length := by rw [← HE.out]; exact hlt
                  have ob := outIn_bd HG.out k (by omega)
                  have hfine := HG.out.2.2 k hkE
                  have j0 : (0 : Int) ≤ (k : Int) := by omega
                  have j1 : (k : Int) < (m : Int) := by omega
                  obtain ⟨b, off, rfl, hb, hc⟩ := Entry.where_ (H1.out.ext hx) (by omega)
                  obtain ⟨d0, d1, d2⟩ := hc k hlt
                  have E0 := After.got d0
                  have E1 := After.got d1
                  have OI := Lib.hid (show outIn es (k + 1) = outIn es k - (Entry.at_ es k).f0 + (Entry.at_ es k).f1 from rfl)
                  clear hc d0 d1 d2
                  go_wp2_with fail
                  have s1 : IntKind.i64.wrap (endE es s - s + outIn es k - (Entry.at_ es k).f0) = endE es s - s + outIn es k - (Entry.at_ es k).f0 := IntWalk.i64_in _ (by omega)
                  have s2 : IntKind.i64.wrap (endE es s - s + outIn es k - (Entry.at_ es k).f0 + (Entry.at_ es k).f1) = endE es s - s + outIn es k - (Entry.at_ es k).f0 + (Entry.at_ es k).f1 := IntWalk.i64_in _ (by omega)
                  (refine wp_region_after wr (Ext.refl _) (by kernel_rfl) (by kernel_rfl) ?_; (repeat (go_big_quiet_step (fail))); refine wpQuiet_nil ?_; intro _ hw'; obtain ⟨y, hw''⟩ := hw'; subst hw'')
                  clear s1 s2
                  go_wp2_with fail
                  go_roundw
                  case rel => exact ⟨k + 1, by omega, by go_num, congrArg (Value.int .i64) (by have := OI.out; omega), hx.trans y.ext⟩
                  case measure => simp [intOf]; omega
                · obtain rfl : m = k := by omega
                  have hT : endE es s - s + outIn es m = totalF es s := by rw [TE.out, ← HE.out]
                  have CE := entriesOk_c A1 m c1 es wr (H1.out.ext hx)
                  rw [entB_yes (drawnE_good HG.out).1] at CE
                  have HCE := Lib.hid CE
                  rw [hT]
                  clear hT CE
                  go_wp2_with fail
                  refine HCE.out.mono ?_; rintro e w12 ⟨rfl, x12⟩
                  go_wp2
                  go_ret
                  exact ⟨rfl, (X1.out.trans hx).trans x12⟩
theorem lawCountsZ (A : Option Addr) (n c : Nat) (zs : List Int) (w : World) (h : Holds w 1 A n c (zs.map (Value.int .u8)) ∧ ∀ z ∈ zs, 0 ≤ z ∧ z ≤ 255) : Calls Try.prog 3 #[.slice A n c] w (Ans (.bool true) w) :=
  lawCounts A n c w ⟨zs, h⟩

namespace fnCounts
open Go.ChangeShapes Go.WideShapes Go.ChangeAt Go.RowKit Go.Joins
set_option linter.unusedVariables false
set_option maxRecDepth 100000 in
theorem lifted (os : Os) (started : os.Started) (H : Type) (enc : TypeId × Value → H) :
    ReturnsInHanded {} Try.checked os 3 .any (Rows.fnCountsSpec.pre6 enc Try.prog Try.f3 Rows.fnCountsRow.domain false) (Rows.fnCountsSpec.post enc Try.prog Try.f3 false true false false) := by
  refine returnsInHanded_of_change (C := Try.checked) own started (by kernel_rfl) Try.func3
    (ChangeSpec.witness6 (enc := enc) (C := Try.checked) false ⟨#[], #[.slice none 0 0], []⟩ 8 (by kernel_rfl) (by kernel_rfl) (by kernel_rfl) (by kernel_rfl)) ?_
  intro W base args ds gs before hval0 hW hcnd _
  have hval : ∀ (j : Nat) t v, Try.f3.params[j]? = some t → args[j]? = some v → Value.okWide Try.prog W .any base t v := hval0
  have hW' := hW
  obtain ⟨p, q, hA0, hV, rfl, hfz, hnd⟩ := hW
  have hA : DataW.TrodAll enc Try.prog W 0 (fun _ => true) true Try.f3.params.toList args.toList ds p := hA0
  rw [Try.params3] at hA hval
  obtain ⟨v0, vs0, d0, ds0, p0, q0, hargs, rfl, rfl, h0, r0⟩ := trodAll_cons hA
  obtain ⟨rfl, rfl, rfl⟩ := trodAll_nil r0
  obtain rfl : args = #[v0] := by cases args; simp_all
  obtain ⟨rfl, rfl⟩ := trodVars_none hV
  have k0 := h0
  have lt0 : ∀ x ∈ p0, x.block < W.heap.size := by obtain ⟨m, hm⟩ := k0; exact DataW.trod_lt m _ _ _ hm
  obtain ⟨a0, n0, c0, rfl⟩ := okWide_slice Try.underlying22 (hval 0 22 v0 rfl rfl)
  obtain ⟨z0, s0⟩ := bytes_in Try.underlying22 Try.underlying5 (by kernel_rfl) h0
  clear hA0 hval0
  refine (lawCountsZ a0 n0 c0 z0 W s0).mono fun e W' ⟨he, bel⟩ => ?_
  subst he
  exact ⟨_, rfl, _, _, _, [], _, [], hW', trodAll_mk1 (shut_bool Try.underlying4 _), (trodAll_cons_mk (Below.trod laidOut (by kernel_rfl) (of_decide_eq_true (by kernel_rfl)) k0 bel lt0) trodAll_mk0), rfl, bel.frame _, fun h => by cases h⟩

theorem over : Rows.fnCountsRow.holds Try.pinned (OpenSpec.ofChange Rows.fnCountsSpec) :=
  OpenClaim.holds_of_wide 3 Try.f3 rfl rfl rfl rfl rfl rfl rfl ⟨rfl, rfl, rfl, rfl, rfl⟩ rfl rfl rfl rfl rfl (by kernel_rfl) Try.func3 (by kernel_rfl)
    (of_decide_eq_true (by kernel_rfl)) (by unfold Func.isWrapper; first | (rw [if_pos (by decide +kernel)]; kernel_rfl) | (rw [if_neg (by decide +kernel)]; exact ⟨rfl, rfl⟩))
    (fun os started H enc _ => lifted os started H enc)
theorem proved : Rows.FnCountsSaid := over
end fnCounts

end Go.Proofs.Ytpbjbfnmnihpiaa
