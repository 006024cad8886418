/-
  The contract of PumpsNeeded of the program.
-/
import Derived.Test.YtbenbjbfmcdedaaNeedS
import Derived.Test.YtbenbjbfmcdedaaStable
import Derived.Test.YtbenbjbfmcdedaaPumpE
namespace Go.Proofs.Ytbenbjbfmcdedaa
open Go.RowKit

theorem need_cmp (B : Nat) (A : Option Addr) (n c : Nat) (es : List Pump) (x y : Int) (w : World) (hB : w.cell? ⟨B, 0, none⟩ = some (.slice A n c)) (h : Holds w 2 A n c (Pump.all es)) (hn : n ≤ 1000) (hb : ∀ i, i < n → 1 ≤ (Pump.at_ es i).f0 ∧ (Pump.at_ es i).f0 ≤ 10000) (hx : 0 ≤ x ∧ x < n) (hy : 0 ≤ y ∧ y < n) :
    Calls Try.prog 46 (#[.int .i64 x, .int .i64 y] ++ #[.pointer (some ⟨B, 0, none⟩)]) w fun e w' => e = .returned (.int .i64 (keyOf (negL es) x - keyOf (negL es) y)) ∧ Ext w w' := by
  show Calls Try.prog 46 #[.int .i64 x, .int .i64 y, .pointer (some ⟨B, 0, none⟩)] w _
  obtain ⟨i, rfl⟩ : ∃ i : Nat, x = (i : Int) := ⟨x.toNat, by omega⟩
  obtain ⟨j, rfl⟩ : ∃ j : Nat, y = (j : Int) := ⟨y.toNat, by omega⟩
  have hl := Pump.len h
  obtain ⟨b, off, rfl, hbk, hc⟩ := Pump.where_ h (by omega)
  have b1 := hb i (by omega)
  have b2 := hb j (by omega)
  have HK := Lib.hid (show keyOf (negL es) (i : Int) - keyOf (negL es) (j : Int) = (Pump.at_ es j).f0 - (Pump.at_ es i).f0 from by
    unfold keyOf
    rw [Int.toNat_natCast, Int.toNat_natCast, negL_nth es i (by omega), negL_nth es j (by omega)]; omega)
  have E0 := After.got hB
  have E1 := After.got (hc i (by omega)).1
  have E2 := After.got (hc j (by omega)).1
  clear hB h hc hb hl
  generalize (Pump.at_ es i).f0 = u at *
  generalize (Pump.at_ es j).f0 = v at *
  have t1 : IntKind.i64.wrap (v - u) = v - u := IntWalk.i64_in _ (by omega)
  have i0 : (0 : Int) ≤ (i : Int) := by omega
  have i1 : (i : Int) < (n : Int) := by omega
  have j0 : (0 : Int) ≤ (j : Int) := by omega
  have j1 : (j : Int) < (n : Int) := by omega
  go_enter Try.func46, Try.ntmps46
  go_wp2_with fail
  (refine wp_region_after w (Ext.refl _) (by kernel_rfl) (by kernel_rfl) ?_; (repeat (go_big_quiet_step (fail))); refine wpQuiet_nil ?_; intro _ hw'; obtain ⟨z, hw''⟩ := hw'; subst hw'')
  go_wp2_with fail
  go_ret
  exact ⟨by rw [HK.out]; rfl, z.ext⟩
set_option maxRecDepth 100000 in
set_option maxHeartbeats 3200000 in
theorem needed_c (A : Option Addr) (n c : Nat) (es : List Pump) (wt hr : Int) (w : World) (h : Holds w 2 A n c (Pump.all es)) (hn : n ≤ 1048576) :
    Calls Try.prog 28 #[.slice A n c, .int .i64 wt, .int .i64 hr] w (Fresh 3 1 (neededF es wt hr).length (ints (neededF es wt hr)) w) := by
  have HL := Lib.hid (Pump.len h)
  have NO := Lib.hid (fun (hne : neededF es wt hr = []) (w' : World) (x : Ext w w') => show Fresh 3 1 (neededF es wt hr).length (ints (neededF es wt hr)) w (.returned (.slice none 0 0)) w' from by
    rw [hne]
    exact ⟨none, 0, rfl, Own.nil_ _ _ _ _, x⟩)
  by_cases h1 : n ≤ 10
  rotate_left
  · have d1 : decide ((10 : Int) < (n : Int)) = true := decide_eq_true (by omega)
    have hne := neededF_no (es := es) (w := wt) (h := hr) (fun k => by have := (pumpsB_at k).1; have := HL.out; omega)
    have HN := Lib.hid hne
    clear hne
    go_enter Try.func28, Try.ntmps28
    go_wp2_with fail
    go_ret
    exact NO.out HN.out _ (by (repeat (first | exact Ext.refl _ | assumption | refine Ext.alloc ?_ _ | refine Ext.drew ?_ | refine Ext.drewN ?_ _ | refine Ext.setCell ?_ (by (try simp only [World.size_alloc, World.size_setCell, World.size_drew, World.heap_drewN]); omega) _ | refine Ext.step (by assumption) ?_)))
  have d1 : decide ((10 : Int) < (n : Int)) = false := decide_eq_false (by omega)
  cases h2 : inB wt 0 1000000
  · have hne := neededF_no (es := es) (w := wt) (h := hr) (fun k => by have := (pumpsB_at k).2.1; rw [h2] at this; cases this)
    have HN := Lib.hid hne
    clear hne
    go_enter Try.func28, Try.ntmps28
    go_wp2_with (go_at_call 36; refine (within_c _ _ _ _).mono ?_; rintro e w' ⟨rfl, rfl⟩)
    go_ret
    exact NO.out HN.out _ (by (repeat (first | exact Ext.refl _ | assumption | refine Ext.alloc ?_ _ | refine Ext.drew ?_ | refine Ext.drewN ?_ _ | refine Ext.setCell ?_ (by (try simp only [World.size_alloc, World.size_setCell, World.size_drew, World.heap_drewN]); omega) _ | refine Ext.step (by assumption) ?_)))
  cases h3 : inB hr 1 48
  · have hne := neededF_no (es := es) (w := wt) (h := hr) (fun k => by have := (pumpsB_at k).2.2.1; rw [h3] at this; cases this)
    have HN := Lib.hid hne
    clear hne
    go_enter Try.func28, Try.ntmps28
    go_wp2_with (go_at_call 36; refine (within_c _ _ _ _).mono ?_; rintro e w' ⟨rfl, rfl⟩)
    go_ret
    exact NO.out HN.out _ (by (repeat (first | exact Ext.refl _ | assumption | refine Ext.alloc ?_ _ | refine Ext.drew ?_ | refine Ext.drewN ?_ _ | refine Ext.setCell ?_ (by (try simp only [World.size_alloc, World.size_setCell, World.size_drew, World.heap_drewN]); omega) _ | refine Ext.step (by assumption) ?_)))
  have xE : Ext w (w.alloc (.cells #[.slice A n c] 42)) := by (repeat (first | exact Ext.refl _ | assumption | refine Ext.alloc ?_ _ | refine Ext.drew ?_ | refine Ext.drewN ?_ _ | refine Ext.setCell ?_ (by (try simp only [World.size_alloc, World.size_setCell, World.size_drew, World.heap_drewN]); omega) _ | refine Ext.step (by assumption) ?_))
  have eB : (w.alloc (.cells #[.slice A n c] 42)).cell? ⟨w.heap.size, 0, none⟩ = some (.slice A n c) := by simp [go_sem]
  have hsz : (w.alloc (.cells #[.slice A n c] 42)).heap.size = w.heap.size + 1 := by simp
  go_enter Try.func28, Try.ntmps28
  go_wp2_with (go_at_call 36; refine (within_c _ _ _ _).mono ?_; rintro e w' ⟨rfl, rfl⟩)
  generalize w.alloc (.cells #[.slice A n c] 42) = wE at *
  have HH := Lib.hid (h.ext xE)
  clear h
  go_loopw [7, 28] (fun s i wr => ∃ (k : Nat) (A' : Option Addr) (c' : Nat), k ≤ n ∧ i = .int .i64 k ∧ s = .slice A' k c' ∧ Own wr wE.heap.size 3 1 A' k c' (ints (placesI (List.range k))) ∧ Hid (∀ j, j < k → pumpB (Pump.at_ es j).f0 (Pump.at_ es j).f1 = true) ∧ Ext wE wr) (fun _ i _ => n - (intOf i).toNat)
  case atStart => exact ⟨0, none, 0, Nat.zero_le _, rfl, rfl, Own.nil_ _ _ _ _, fun j hj => by omega, Ext.refl _⟩
  case round =>
    obtain ⟨k, A', c', hk, rfl, rfl, ho, hall, hx⟩ := hrel
    by_cases hlt : k < n
    · have dk : decide (k < n) = true := decide_eq_true hlt
      have dk' : decide ((k : Int) < (n : Int)) = true := decide_eq_true (by omega)
      obtain ⟨b, off, rfl, hb, hc⟩ := Pump.where_ HH.out (by omega)
      obtain ⟨c0, c1⟩ := hc k hlt
      have e0 := hx.got c0
      have e1 := hx.got c1
      have SN := Lib.hid (placesI_snoc (List.range k) k)
      have j0 : (0 : Int) ≤ (k : Int) := by omega
      have j1 : (k : Int) < (n : Int) := by omega
      have HO := Lib.hid ho
      clear hc c0 c1 ho
      cases t : pumpB (Pump.at_ es k).f0 (Pump.at_ es k).f1
      · have hne := neededF_no (es := es) (w := wt) (h := hr) (fun q => by have := (pumpsB_at q).2.2.2 k (by rw [HL.out]; exact hlt); rw [t] at this; cases this)
        have HN := Lib.hid hne
        clear hne
        go_wp2_with (go_at_call 12; refine (pumpOk_c _ _ _).mono ?_; rintro e w' ⟨rfl, rfl⟩)
        go_ret
        exact NO.out HN.out _ (Ext.trans xE (by (repeat (first | exact Ext.refl _ | assumption | refine Ext.alloc ?_ _ | refine Ext.drew ?_ | refine Ext.drewN ?_ _ | refine Ext.setCell ?_ (by (try simp only [World.size_alloc, World.size_setCell, World.size_drew, World.heap_drewN]); omega) _ | refine Ext.step (by assumption) ?_))))
      · have HALL : Hid (∀ j, j < k + 1 → pumpB (Pump.at_ es j).f0 (Pump.at_ es j).f1 = true) := fun j hj => by
          rcases Nat.lt_succ_iff_lt_or_eq.1 hj with q | rfl
          · exact hall.out j q
          · exact t
        generalize (Pump.at_ es k).f0 = u at *
        generalize (Pump.at_ es k).f1 = v at *
        go_wp2_with (first | (go_at_call 12; refine (pumpOk_c _ _ _).mono ?_; rintro e w' ⟨rfl, rfl⟩) | (at_builtin; refine wpList_push wE (by (repeat (first | exact Ext.refl _ | assumption | refine Ext.alloc ?_ _ | refine Ext.drew ?_ | refine Ext.drewN ?_ _ | refine Ext.setCell ?_ (by (try simp only [World.size_alloc, World.size_setCell, World.size_drew, World.heap_drewN]); omega) _ | refine Ext.step (by assumption) ?_))) rfl _ _ _ rfl 3 (.int .i64 0) 1 8 intInfo Try.underlying32 rfl (by omega) _ _ _ _ rfl (Own.ext HO.out (by (repeat (first | exact Ext.refl _ | assumption | refine Ext.alloc ?_ _ | refine Ext.drew ?_ | refine Ext.drewN ?_ _ | refine Ext.setCell ?_ (by (try simp only [World.size_alloc, World.size_setCell, World.size_drew, World.heap_drewN]); omega) _ | refine Ext.step (by assumption) ?_)))) _ _ _ rfl (by exact heap_last (by first | rfl | simp)) rfl (by simp [Value.oneCell']) (by omega) (by omega) ?_; intro A2 c2 w2 ho2 hx2))
        have HO2 := Lib.hid (show Own w2 wE.heap.size 3 1 A2 (k + 1) c2 (ints (placesI (List.range (k + 1)))) from by rw [List.range_succ, ← SN.out]; exact ho2)
        clear ho2 HO
        go_wp2_with fail
        go_roundw
        case rel => exact ⟨k + 1, A2, c2, by omega, by go_num, rfl, HO2.out, HALL, hx2⟩
        case measure => simp [intOf]; omega
    · obtain rfl : k = n := by omega
      have dk : decide (k < k) = false := decide_eq_false (by omega)
      have hgood : pumpsB es wt hr = true := by
        simp only [pumpsB, decide_eq_true_eq]
        exact ⟨by have := HL.out; omega, h2, h3, fun i hi => hall.out i (by rw [← HL.out]; exact hi)⟩
      have HG := Lib.hid hgood
      have hhr := inB_yes h3
      have hwt := inB_yes h2
      have HB : Hid (∀ i, i < k → 1 ≤ (Pump.at_ es i).f0 ∧ (Pump.at_ es i).f0 ≤ 10000) := fun i hi => by
        have := pumpB_yes (hall.out i hi); omega
      have CM : CmpOk 46 #[.pointer (some ⟨w.heap.size, 0, none⟩)] (keyOf (negL es)) k wr (Value.slice A' k c').ownBlock := by
        intro w' hg x y hx0 hy0
        have xg : Ext wE w' := hx.grown hg (fun g hgb => (ho.lt g hgb).1)
        exact need_cmp _ A k c es x y w' (xg.got eB) (HH.out.ext xg) (by omega) HB.out hx0 hy0
      have CS := stable_c wE.heap.size A' k c' 46 k _ (keyOf (negL es)) (placesI (List.range k)) wr (enters_of Try.func46 (by kernel_rfl) rfl) ho (by omega) CM (fun i hi => by rw [range_nth k i hi]; omega) (fun p r h1 h2 => by rw [range_nth k p (by omega), range_nth k r h2]; omega)
      have HCS := Lib.hid CS
      have XG := Lib.hid (fun w' (hg : wr.grownBy w' (Value.slice A' k c').ownBlock) => hx.grown hg (fun g hgb => (ho.lt g hgb).1))
      clear ho CM CS hall hgood hx
      go_wp2_with fail
      refine HCS.out.mono ?_; rintro e w3 ⟨rfl, ds', hs1, o3, g3⟩
      have X3 := Lib.hid (XG.out w3 g3)
      have hds : ds' = placesI (ord (negL es)) := stable_law (by rw [negL_len, HL.out]; exact hs1)
      subst hds
      have O3 := Lib.hid o3.holds
      clear hs1 o3 g3 HCS XG
      go_wp2_with fail
      have CB := Lib.hid (cum_bd HG.out)
      have ordl : (ints (placesI (ord (negL es)))).length = k := by rw [ints_len, placesI_len, ord_len, negL_len, HL.out]
      have HOL := Lib.hid ordl
      clear ordl
      go_loopw [1, 10, 46] (fun v s i wr => ∃ (t : Nat) (A4 : Option Addr) (c4 : Nat), t ≤ k ∧ i = .int .i64 t ∧ v = .int .i64 (wt - cum es hr t) ∧ s = .slice A4 t c4 ∧ Own wr w3.heap.size 3 1 A4 t c4 (ints ((placesI (ord (negL es))).take t)) ∧ Hid (∀ j, j < t → cum es hr j < wt) ∧ Ext w3 wr) (fun _ _ i _ => k - (intOf i).toNat)
      case atStart => exact ⟨0, none, 0, Nat.zero_le _, rfl, by simp [cum, sumK], rfl, Own.nil_ _ _ _ _, fun j hj => by omega, Ext.refl _⟩
      case round =>
        obtain ⟨t, A4, c4, ht, rfl, rfl, rfl, ho, hc, hx⟩ := hrel
        have HO := Lib.hid ho
        have cb := CB.out t (by rw [HL.out]; exact ht)
        clear ho
        by_cases hw : wt ≤ cum es hr t
        · have dw : decide (wt - cum es hr t ≤ 0) = true := decide_eq_true (by omega)
          have dw2 : decide (0 < wt - cum es hr t) = false := decide_eq_false (by omega)
          by_cases hlt : t < k
          · have dk : decide (t < k) = true := decide_eq_true hlt
            have dk' : decide ((t : Int) < (k : Int)) = true := decide_eq_true (by omega)
            obtain ⟨b3, off3, hA3, hb3, hc3⟩ := O3.out.int (by omega)
            subst hA3
            have q3 := hx.got (hc3 t hlt)
            have j0 : (0 : Int) ≤ (t : Int) := by omega
            have j1 : (t : Int) < (k : Int) := by omega
            clear hc3
            have HF := Lib.hid (show neededF es wt hr = sortI ((placesI (ord (negL es))).take t) from by rw [neededF_yes HG.out ⟨by rw [HL.out]; omega, by omega, hc.out⟩, take_sorted])
            have hlen : (neededF es wt hr).length = t := by rw [HF.out, sortI_len, List.length_take, placesI_len, ord_len, negL_len, HL.out]; omega
            have HLEN := Lib.hid hlen
            clear hlen
            go_wp2_with fail
            refine (sortAll_c _ _ _ _ _ _ HO.out (by omega)).mono ?_; rintro e w6 ⟨rfl, o6, g6⟩
            have x6 : Ext w3 w6 := Own.ext_grown hx HO.out (Nat.le_refl _) g6
            have hle : w.heap.size ≤ w3.heap.size := (xE.trans X3.out).len
            have O6 := Lib.hid (o6.mono hle)
            have XF := Lib.hid ((xE.trans X3.out).trans x6)
            clear o6 g6 HO
            go_wp2_with fail
            go_ret
            rw [HLEN.out, HF.out]
            exact ⟨A4, c4, rfl, O6.out, XF.out⟩
          · obtain rfl : t = k := by omega
            have dk : decide (t < t) = false := decide_eq_false (by omega)
            have HF := Lib.hid (show neededF es wt hr = sortI ((placesI (ord (negL es))).take t) from by rw [neededF_yes HG.out ⟨by rw [HL.out]; omega, by omega, hc.out⟩, take_sorted])
            have hlen : (neededF es wt hr).length = t := by rw [HF.out, sortI_len, List.length_take, placesI_len, ord_len, negL_len, HL.out]; omega
            have HLEN := Lib.hid hlen
            clear hlen
            go_wp2_with fail
            refine (sortAll_c _ _ _ _ _ _ HO.out (by omega)).mono ?_; rintro e w6 ⟨rfl, o6, g6⟩
            have x6 : Ext w3 w6 := Own.ext_grown hx HO.out (Nat.le_refl _) g6
            have hle : w.heap.size ≤ w3.heap.size := (xE.trans X3.out).len
            have O6 := Lib.hid (o6.mono hle)
            have XF := Lib.hid ((xE.trans X3.out).trans x6)
            clear o6 g6 HO
            go_wp2_with fail
            go_ret
            rw [HLEN.out, HF.out]
            exact ⟨A4, c4, rfl, O6.out, XF.out⟩
        · have dw : decide (wt - cum es hr t ≤ 0) = false := decide_eq_false (by omega)
          have dw2 : decide (0 < wt - cum es hr t) = true := decide_eq_true (by omega)
          have HC2 : Hid (∀ i, i < t + 1 → cum es hr i < wt) := fun i hi => by
            rcases Nat.lt_succ_iff_lt_or_eq.1 hi with e | rfl
            · exact hc.out i e
            · omega
          by_cases hlt : t < k
          · have dk : decide (t < k) = true := decide_eq_true hlt
            have dk' : decide ((t : Int) < (k : Int)) = true := decide_eq_true (by omega)
            obtain ⟨b3, off3, hA3, hb3, hc3⟩ := O3.out.int (by omega)
            subst hA3
            have q3 := hx.got (hc3 t hlt)
            have hzl : t < (negL es).length := by rw [negL_len, HL.out]; exact hlt
            have ep : nth (placesI (ord (negL es))) t = ((od (negL es) t : Nat) : Int) := by
              rw [placesI_nth (by rw [ord_len]; exact hzl), od_eq hzl]
            rw [ep] at q3
            have hp : od (negL es) t < k := by have := od_lt hzl; rw [negL_len, HL.out] at this; exact this
            have OT := Lib.hid (show ints ((placesI (ord (negL es))).take t) ++ [Value.int .i64 ((od (negL es) t : Nat) : Int)] = ints ((placesI (ord (negL es))).take (t + 1)) from by
              have e1 : (placesI (ord (negL es))).take (t + 1) = placesI ((ord (negL es)).take (t + 1)) := by simp [placesI, List.map_take]
              have e2 : (placesI (ord (negL es))).take t = placesI ((ord (negL es)).take t) := by simp [placesI, List.map_take]
              rw [e1, e2, od_take hzl, ← placesI_snoc])
            have CSU := Lib.hid (cum_succ es hr t)
            have fb := HB.out (od (negL es) t) hp
            have mb := mul_bd fb hhr
            obtain ⟨b, off, rfl, hb, hcc⟩ := Pump.where_ HH.out (by omega)
            have c0 := X3.out.got (hcc _ hp).1
            have eB1 := X3.out.got eB
            clear hcc hc3 ep
            unfold lits at CSU
            generalize (Pump.at_ es (od (negL es) t)).f0 = u at *
            generalize od (negL es) t = p at *
            obtain ⟨uh, huh⟩ : ∃ uh, uh = u * hr := ⟨_, rfl⟩
            rw [← huh] at mb CSU
            have t1 : IntKind.i64.wrap (u * hr) = uh := by rw [huh]; exact IntWalk.i64_in _ (by omega)
            generalize cum es hr t = cu at *
            have t2 : IntKind.i64.wrap (wt - cu - uh) = wt - cu - uh := IntWalk.i64_in _ (by omega)
            have j0 : (0 : Int) ≤ (t : Int) := by omega
            have j1 : (t : Int) < (k : Int) := by omega
            have p0 : (0 : Int) ≤ (p : Int) := by omega
            have p1 : (p : Int) < (k : Int) := by omega
            clear huh
            go_wp2_with ((at_builtin; refine wpList_push w3 (by (repeat (first | exact Ext.refl _ | assumption | refine Ext.alloc ?_ _ | refine Ext.drew ?_ | refine Ext.drewN ?_ _ | refine Ext.setCell ?_ (by (try simp only [World.size_alloc, World.size_setCell, World.size_drew, World.heap_drewN]); omega) _ | refine Ext.step (by assumption) ?_))) rfl _ _ _ rfl 3 (.int .i64 0) 1 8 intInfo Try.underlying32 rfl (by omega) _ _ _ _ rfl (Own.ext HO.out (by (repeat (first | exact Ext.refl _ | assumption | refine Ext.alloc ?_ _ | refine Ext.drew ?_ | refine Ext.drewN ?_ _ | refine Ext.setCell ?_ (by (try simp only [World.size_alloc, World.size_setCell, World.size_drew, World.heap_drewN]); omega) _ | refine Ext.step (by assumption) ?_)))) _ _ _ rfl (by exact heap_last (by first | rfl | simp)) rfl (by simp [Value.oneCell']) (by omega) (by omega) ?_; intro A2 c2 w2 ho2 hx2); have c5 := hx2.got c0; have eB2 := hx2.got eB1)
            have HO2 := Lib.hid (show Own w2 w3.heap.size 3 1 A2 (t + 1) c2 (ints ((placesI (ord (negL es))).take (t + 1))) from by rw [← OT.out]; exact ho2)
            clear ho2 HO
            go_wp2_with fail
            go_roundw
            case rel => exact ⟨t + 1, A2, c2, by omega, by go_num, by rw [CSU.out, Int.sub_sub], rfl, HO2.out, HC2, hx2⟩
            case measure => simp [intOf]; omega
          · obtain rfl : t = k := by omega
            have dk : decide (t < t) = false := decide_eq_false (by omega)
            have HF := Lib.hid (neededF_few (es := es) (w := wt) (h := hr) (fun j hj => HC2.out j (by rw [HL.out] at hj; omega)))
            have XF := Lib.hid ((xE.trans X3.out).trans hx)
            clear hx
            go_wp2_with fail
            go_ret
            exact NO.out HF.out _ XF.out
end Go.Proofs.Ytbenbjbfmcdedaa
