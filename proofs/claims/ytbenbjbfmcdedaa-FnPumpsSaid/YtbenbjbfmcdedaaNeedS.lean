/-
  The contract of PumpsNeeded of the reference.
-/
import Derived.Test.YtbenbjbfmcdedaaNeed
import Derived.Deep.DeepCutAuto
import Derived.IntWalk
namespace Go.Proofs.Ytbenbjbfmcdedaa
open Go.RowKit

theorem negL_snoc {es : List Pump} {k : Nat} (h : k < es.length) : ints ((negL es).take k) ++ [Value.int .i64 (-(Pump.at_ es k).f0)] = ints ((negL es).take (k + 1)) := by
  rw [List.take_succ_eq_append_getElem (by rw [negL_len]; exact h)]
  have : (negL es)[k]'(by rw [negL_len]; exact h) = -(Pump.at_ es k).f0 := by
    have := negL_nth es k h
    simpa [nth, show k < (negL es).length by rw [negL_len]; exact h] using this
  rw [this]
  simp [ints]
set_option maxRecDepth 100000 in
set_option maxHeartbeats 3200000 in
theorem sNeeded_c (A : Option Addr) (n c : Nat) (es : List Pump) (wt hr : Int) (w : World) (h : Holds w 2 A n c (Pump.all es)) (hn : n ≤ 1048576) :
    Calls Try.prog 26 #[.slice A n c, .int .i64 wt, .int .i64 hr] w (Fresh 3 1 (neededF es wt hr).length (ints (neededF es wt hr)) w) := by
  have HL := Lib.hid (Pump.len h)
  have O0 := Lib.hid (Own.lit (w := w.alloc (.cells #[] 3)) (base := w.heap.size) (e := 3) (k := 1) (n := 0) (cs := #[]) (heap_alloc_new _ _) (by unfold maxLen; omega) rfl)
  have NO := Lib.hid (fun (hne : neededF es wt hr = []) (w' : World) (x : Ext (w.alloc (.cells #[] 3)) w') => show Fresh 3 1 (neededF es wt hr).length (ints (neededF es wt hr)) w (.returned (.slice (some ⟨w.heap.size, 0, none⟩) 0 0)) w' from by
    rw [hne]
    exact ⟨_, _, rfl, O0.out.ext x, Ext.trans (by (repeat (first | exact Ext.refl _ | assumption | refine Ext.alloc ?_ _ | refine Ext.drew ?_ | refine Ext.drewN ?_ _ | refine Ext.setCell ?_ (by (try simp only [World.size_alloc, World.size_setCell, World.size_drew, World.heap_drewN]); omega) _ | refine Ext.step (by assumption) ?_))) x⟩)
  by_cases h1 : n ≤ 10
  rotate_left
  · have d1 : decide ((10 : Int) < (n : Int)) = true := decide_eq_true (by omega)
    have hne := neededF_no (es := es) (w := wt) (h := hr) (fun k => by have := (pumpsB_at k).1; have := HL.out; omega)
    have HN := Lib.hid hne
    clear hne
    go_enter Try.func26, Try.ntmps26
    go_wp2_with fail
    go_ret
    exact NO.out HN.out _ (Ext.refl _)
  have d1 : decide ((10 : Int) < (n : Int)) = false := decide_eq_false (by omega)
  cases h2 : inB wt 0 1000000
  · have hne := neededF_no (es := es) (w := wt) (h := hr) (fun k => by have := (pumpsB_at k).2.1; rw [h2] at this; cases this)
    have HN := Lib.hid hne
    clear hne
    go_enter Try.func26, Try.ntmps26
    go_wp2_with (first | (go_at_call 37; refine (l04Water_c _ _).mono ?_; rintro e w' ⟨rfl, rfl⟩) | (go_at_call 35; refine (l01In_c _ _ _ _).mono ?_; rintro e w' ⟨rfl, rfl⟩))
    go_ret
    exact NO.out HN.out _ (Ext.refl _)
  cases h3 : inB hr 1 48
  · have hne := neededF_no (es := es) (w := wt) (h := hr) (fun k => by have := (pumpsB_at k).2.2.1; rw [h3] at this; cases this)
    have HN := Lib.hid hne
    clear hne
    go_enter Try.func26, Try.ntmps26
    go_wp2_with (first | (go_at_call 37; refine (l04Water_c _ _).mono ?_; rintro e w' ⟨rfl, rfl⟩) | (go_at_call 35; refine (l01In_c _ _ _ _).mono ?_; rintro e w' ⟨rfl, rfl⟩))
    go_ret
    exact NO.out HN.out _ (Ext.refl _)
  have OM := Lib.hid (show Own ((w.alloc (.cells #[] 3)).alloc (.cells #[] 3)) (w.alloc (.cells #[] 3)).heap.size 3 1 (some ⟨w.heap.size + 1, 0, none⟩) 0 0 (ints ((negL es).take 0)) from (Own.lit (w := (w.alloc (.cells #[] 3)).alloc (.cells #[] 3)) (base := w.heap.size + 1) (e := 3) (k := 1) (n := 0) (cs := #[]) (by have := heap_alloc_new (w.alloc (.cells #[] 3)) (.cells #[] 3); rwa [World.size_alloc] at this) (by unfold maxLen; omega) rfl).mono (by rw [World.size_alloc]; omega))
  have xO : Ext w (w.alloc (.cells #[] 3)) := by (repeat (first | exact Ext.refl _ | assumption | refine Ext.alloc ?_ _ | refine Ext.drew ?_ | refine Ext.drewN ?_ _ | refine Ext.setCell ?_ (by (try simp only [World.size_alloc, World.size_setCell, World.size_drew, World.heap_drewN]); omega) _ | refine Ext.step (by assumption) ?_))
  go_enter Try.func26, Try.ntmps26
  go_wp2_with (first | (go_at_call 37; refine (l04Water_c _ _).mono ?_; rintro e w' ⟨rfl, rfl⟩) | (go_at_call 35; refine (l01In_c _ _ _ _).mono ?_; rintro e w' ⟨rfl, rfl⟩))
  generalize w.alloc (.cells #[] 3) = wO at *
  go_loopw [8, 9] (fun s i wr => ∃ (k : Nat) (A' : Option Addr) (c' : Nat), k ≤ n ∧ i = .int .i64 k ∧ s = .slice A' k c' ∧ Own wr wO.heap.size 3 1 A' k c' (ints ((negL es).take k)) ∧ Hid (∀ j, j < k → pumpB (Pump.at_ es j).f0 (Pump.at_ es j).f1 = true) ∧ Ext wO wr) (fun _ i _ => n - (intOf i).toNat)
  case atStart => exact ⟨0, _, 0, Nat.zero_le _, rfl, rfl, OM.out, fun j hj => by omega, by (repeat (first | exact Ext.refl _ | assumption | refine Ext.alloc ?_ _ | refine Ext.drew ?_ | refine Ext.drewN ?_ _ | refine Ext.setCell ?_ (by (try simp only [World.size_alloc, World.size_setCell, World.size_drew, World.heap_drewN]); omega) _ | refine Ext.step (by assumption) ?_))⟩
  case round =>
    clear OM
    obtain ⟨k, A', c', hk, rfl, rfl, ho, hall, hx⟩ := hrel
    have hxw : Ext w wr := xO.trans hx
    by_cases hlt : k < n
    · have dk : decide (k < n) = true := decide_eq_true hlt
      have dk' : decide ((k : Int) < (n : Int)) = true := decide_eq_true (by omega)
      obtain ⟨b, off, rfl, hb, hc⟩ := Pump.where_ h (by omega)
      obtain ⟨c0, c1⟩ := hc k hlt
      have e0 := hxw.got c0
      have e1 := hxw.got c1
      have SN := Lib.hid (negL_snoc (es := es) (k := k) (by rw [HL.out]; exact hlt))
      have j0 : (0 : Int) ≤ (k : Int) := by omega
      have j1 : (k : Int) < (n : Int) := by omega
      have HO := Lib.hid ho
      clear hc c0 c1 ho
      cases t : pumpB (Pump.at_ es k).f0 (Pump.at_ es k).f1
      · have hne := neededF_no (es := es) (w := wt) (h := hr) (fun q => by have := (pumpsB_at q).2.2.2 k (by rw [HL.out]; exact hlt); rw [t] at this; cases this)
        have HN := Lib.hid hne
        clear hne
        go_wp2_with (go_at_call 10; refine (sPumpOk_c _ _ _).mono ?_; rintro e w' ⟨rfl, rfl⟩)
        go_ret
        exact NO.out HN.out _ (by (repeat (first | exact Ext.refl _ | assumption | refine Ext.alloc ?_ _ | refine Ext.drew ?_ | refine Ext.drewN ?_ _ | refine Ext.setCell ?_ (by (try simp only [World.size_alloc, World.size_setCell, World.size_drew, World.heap_drewN]); omega) _ | refine Ext.step (by assumption) ?_)))
      · have HALL : Hid (∀ j, j < k + 1 → pumpB (Pump.at_ es j).f0 (Pump.at_ es j).f1 = true) := fun j hj => by
          rcases Nat.lt_succ_iff_lt_or_eq.1 hj with q | rfl
          · exact hall.out j q
          · exact t
        have fb := pumpB_yes t
        generalize (Pump.at_ es k).f0 = u at *
        generalize (Pump.at_ es k).f1 = v at *
        have t1 : IntKind.i64.wrap (-u) = -u := IntWalk.i64_in _ (by omega)
        have f0 : (wr.alloc (.cells #[.int .i64 u, .int .i64 v] 25)).cell? ⟨b, off + k * 2, none⟩ = some (.int .i64 u) := (Ext.alloc (Ext.refl _) _).got e0
        go_wp2_with (first | (go_at_call 10; refine (sPumpOk_c _ _ _).mono ?_; rintro e w' ⟨rfl, rfl⟩) | (at_builtin; refine wpList_push wO (by (repeat (first | exact Ext.refl _ | assumption | refine Ext.alloc ?_ _ | refine Ext.drew ?_ | refine Ext.drewN ?_ _ | refine Ext.setCell ?_ (by (try simp only [World.size_alloc, World.size_setCell, World.size_drew, World.heap_drewN]); omega) _ | refine Ext.step (by assumption) ?_))) rfl _ _ _ rfl 3 (.int .i64 0) 1 8 intInfo Try.underlying32 rfl (by omega) _ _ _ _ rfl (Own.ext HO.out (by (repeat (first | exact Ext.refl _ | assumption | refine Ext.alloc ?_ _ | refine Ext.drew ?_ | refine Ext.drewN ?_ _ | refine Ext.setCell ?_ (by (try simp only [World.size_alloc, World.size_setCell, World.size_drew, World.heap_drewN]); omega) _ | refine Ext.step (by assumption) ?_)))) _ _ _ rfl (by exact heap_last (by first | rfl | simp)) rfl (by simp [Value.oneCell']) (by omega) (by omega) ?_; intro A2 c2 w2 ho2 hx2))
        have HO2 := Lib.hid (show Own w2 wO.heap.size 3 1 A2 (k + 1) c2 (ints ((negL es).take (k + 1))) from by rw [← SN.out]; exact ho2)
        clear ho2 HO
        go_wp2_with fail
        go_roundw
        case rel => exact ⟨k + 1, A2, c2, by omega, by go_num, rfl, HO2.out, HALL, hx2⟩
        case measure => simp [intOf]; omega
    · obtain rfl : k = n := by omega
      have dk : decide (k < k) = false := decide_eq_false (by omega)
      have hgood : pumpsB es wt hr = true := by
        simp only [pumpsB, decide_eq_true_eq]
        exact ⟨by have := HL.out; omega, h2, h3, fun i hi => hall.out i (by rw [← HL.out]; exact hi)⟩
      have HG := Lib.hid hgood
      rw [List.take_of_length_le (by rw [negL_len, HL.out]; exact Nat.le_refl _)] at ho
      have HM := Lib.hid ho.holds
      have hhr := inB_yes h3
      have hwt := inB_yes h2
      obtain ⟨W2, hW2⟩ : ∃ W2, W2 = wr := ⟨_, rfl⟩
      rw [← hW2] at HM
      have X2 := Lib.hid (show Ext wO W2 from by rw [hW2]; exact hx)
      have xs : Ext W2 wr := by rw [hW2]; exact Ext.refl _
      clear ho hall hgood hx hxw hW2
      go_wp2_with fail
      go_loopw [6, 10] (fun _ i wr => ∃ q : Nat, q ≤ k + 1 ∧ i = .int .i64 q ∧ Hid (∀ j, j < q → cum es hr j < wt) ∧ Ext W2 wr) (fun _ i _ => k + 1 - (intOf i).toNat)
      case atStart => exact ⟨0, by omega, rfl, fun j hj => by omega, xs⟩
      case round =>
        clear xs
        obtain ⟨q, hq, rfl, hc, hx⟩ := hrel
        by_cases hlt : q ≤ k
        · have dq : decide (q ≤ k) = true := decide_eq_true hlt
          have dq' : decide ((q : Int) ≤ (k : Int)) = true := decide_eq_true (by omega)
          go_wp2_with fail
          refine (cheap_c A' k c' (negL es) q _ (HM.out.ext hx) (by omega) hlt).mono ?_; rintro e w3 ⟨A3, c3, rfl, o3, x3⟩
          have O3 := Lib.hid (o3.mono ((xO.trans X2.out).trans hx).len)
          have X3 := Lib.hid (hx.trans x3)
          clear o3 x3 hx
          obtain ⟨ps, hps⟩ : ∃ ps, ps = cheapL (negL es) q := ⟨_, rfl⟩
          have hql : q ≤ es.length := by rw [HL.out]; exact hlt
          have hpl : ps.length = q := by rw [hps]; exact cheapL_len (by rw [negL_len]; exact hql)
          have hpm : ∀ i, i < q → ps.getD i 0 < k := fun i hi => by
            have e : ps.getD i 0 = ps[i]'(by omega) := by simp [show i < ps.length by omega]
            rw [e, ← HL.out, ← negL_len]
            exact cheapL_mem (n := q) (by rw [← hps]; exact List.getElem_mem _)
          have hsum : sumK (fun i => (Pump.at_ es (ps.getD i 0)).f0 * hr) q = cum es hr q := by
            have e1 := sum_take (fun p => (Pump.at_ es p).f0 * hr) ps q (by omega)
            rw [List.take_of_length_le (by omega)] at e1
            rw [← cum_cheap es hr q hql, ← hps, e1]
          have HPL := Lib.hid hpl
          have HPM := Lib.hid hpm
          have HSUM := Lib.hid hsum
          have hsb : ∀ j, j ≤ q → 0 ≤ sumK (fun i => (Pump.at_ es (ps.getD i 0)).f0 * hr) j ∧ sumK (fun i => (Pump.at_ es (ps.getD i 0)).f0 * hr) j ≤ 480000 * (j : Int) := by
            intro j
            induction j with
            | zero => intro _; simp [sumK]
            | succ j ih =>
              intro hj
              have h1 := ih (by omega)
              have h2 := mul_bd (h := hr) (by have := pumpB_yes ((pumpsB_at HG.out).2.2.2 (ps.getD j 0) (by rw [HL.out]; exact HPM.out j (by omega))); exact ⟨this.1, this.2.1⟩) hhr
              rw [sumK]
              push_cast
              omega
          have HSB := Lib.hid hsb
          have HPS := Lib.hid hps
          rw [← hps] at O3
          clear hps hpl hpm hsum hsb hql
          go_wp2_with fail
          go_loopw [12, 13] (fun s i wr => ∃ j : Nat, j ≤ q ∧ i = .int .i64 j ∧ s = .int .i64 (sumK (fun i => (Pump.at_ es (ps.getD i 0)).f0 * hr) j) ∧ wr = w3) (fun _ i _ => q - (intOf i).toNat)
          case atStart => exact ⟨0, Nat.zero_le _, rfl, rfl, rfl⟩
          case round =>
            obtain ⟨j, hj, rfl, rfl, rfl⟩ := hrel
            have sb := HSB.out j hj
            by_cases hlj : j < q
            · have dj : decide (j < q) = true := decide_eq_true hlj
              obtain ⟨b3, off3, hA3, hb3, hc3⟩ := O3.out.holds.int (by omega)
              subst hA3
              have q3 := hc3 j hlj
              have hp := HPM.out j hlj
              have e3 : nth (placesI ps) j = ((ps.getD j 0 : Nat) : Int) := by
                have hjl : j < ps.length := by rw [HPL.out]; exact hlj
                rw [placesI_nth hjl]; simp [hjl]
              rw [e3] at q3
              have SS := Lib.hid (show sumK (fun i => (Pump.at_ es (ps.getD i 0)).f0 * hr) (j + 1) = sumK (fun i => (Pump.at_ es (ps.getD i 0)).f0 * hr) j + (Pump.at_ es (ps.getD j 0)).f0 * hr from rfl)
              obtain ⟨p, hpE⟩ : ∃ p, p = ps.getD j 0 := ⟨_, rfl⟩
              rw [← hpE] at q3 hp SS
              obtain ⟨b, off, rfl, hb, hcc⟩ := Pump.where_ h (by omega)
              have c0 := ((xO.trans X2.out).trans X3.out).got (hcc p hp).1
              have fb := pumpB_yes ((pumpsB_at HG.out).2.2.2 p (by rw [HL.out]; exact hp))
              have mb := mul_bd (x := (Pump.at_ es p).f0) (h := hr) ⟨fb.1, fb.2.1⟩ hhr
              clear hcc hc3 e3 fb
              generalize (Pump.at_ es p).f0 = u at *
              obtain ⟨uh, huh⟩ : ∃ uh, uh = u * hr := ⟨_, rfl⟩
              rw [← huh] at mb SS
              have t1 : IntKind.i64.wrap (u * hr) = uh := by rw [huh]; exact IntWalk.i64_in _ (by omega)
              generalize sumK (fun i => (Pump.at_ es (ps.getD i 0)).f0 * hr) j = sm at *
              have t2 : IntKind.i64.wrap (sm + uh) = sm + uh := IntWalk.i64_in _ (by omega)
              have j0 : (0 : Int) ≤ (j : Int) := by omega
              have j1 : (j : Int) < (q : Int) := by omega
              have p0 : (0 : Int) ≤ (p : Int) := by omega
              have p1 : (p : Int) < (k : Int) := by omega
              clear huh hpE
              go_wp2_with fail
              go_roundw
              case rel => exact ⟨j + 1, by omega, by go_num, by rw [SS.out], by first | rfl | trivial⟩
              case measure => simp [intOf]; omega
            · obtain rfl : j = q := by omega
              have dj : decide (j < j) = false := decide_eq_false (by omega)
              rw [HSUM.out] at sb ⊢
              by_cases hw : wt ≤ cum es hr j
              · have dw : decide (wt ≤ cum es hr j) = true := decide_eq_true hw
                have HF := Lib.hid (show neededF es wt hr = placesI ps from by rw [neededF_yes HG.out ⟨by rw [HL.out]; exact hlt, hw, hc.out⟩, HPS.out])
                have XF := Lib.hid ((xO.trans X2.out).trans X3.out)
                go_wp2_with fail
                go_ret
                rw [HF.out, placesI_len, HPL.out]
                exact ⟨_, _, rfl, O3.out, XF.out⟩
              · have dw : decide (wt ≤ cum es hr j) = false := decide_eq_false hw
                have HC2 : Hid (∀ i, i < j + 1 → cum es hr i < wt) := fun i hi => by
                  rcases Nat.lt_succ_iff_lt_or_eq.1 hi with e | rfl
                  · exact hc.out i e
                  · omega
                go_wp2_with fail
                go_roundw
                case rel => first | exact ⟨j + 1, by omega, by go_num, HC2, X3.out⟩ | ((repeat apply Exists.intro); refine ⟨⟨j + 1, by omega, rfl, HC2, X3.out⟩, ?_⟩; repeat' (first | rfl | apply And.intro); all_goals go_num)
                case measure => simp [intOf]; omega
        · obtain rfl : q = k + 1 := by omega
          have dq : decide (k + 1 ≤ k) = false := decide_eq_false (by omega)
          have dq' : decide ((k : Int) + 1 ≤ (k : Int)) = false := decide_eq_false (by omega)
          have HF := Lib.hid (neededF_few (es := es) (w := wt) (h := hr) (fun j hj => hc.out j (by rw [HL.out] at hj; omega)))
          have XF := Lib.hid (X2.out.trans hx)
          clear hx
          go_wp2_with fail
          go_ret
          exact NO.out HF.out _ XF.out
end Go.Proofs.Ytbenbjbfmcdedaa
