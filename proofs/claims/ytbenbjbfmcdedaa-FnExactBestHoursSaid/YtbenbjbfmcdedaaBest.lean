/-
  The contract of BestHours of the program. Conditions: none.
-/
import Derived.Test.YtbenbjbfmcdedaaStabQ
import Derived.Test.YtbenbjbfmcdedaaStable
import Derived.Test.YtbenbjbfmcdedaaPumpE
namespace Go.Proofs.Ytbenbjbfmcdedaa
open Go.RowKit

theorem best_cmp (B : Nat) (A : Option Addr) (n c : Nat) (zs : List Int) (x y : Int) (w : World) (hB : w.cell? ⟨B, 0, none⟩ = some (.slice A n c)) (h : Holds w 1 A n c (ints zs)) (hn : n ≤ 1000) (hb : ∀ i, i < n → 0 ≤ nth zs i ∧ nth zs i ≤ 1000) (hx : 0 ≤ x ∧ x < n) (hy : 0 ≤ y ∧ y < n) :
    Calls Try.prog 45 (#[.int .i64 x, .int .i64 y] ++ #[.pointer (some ⟨B, 0, none⟩)]) w fun e w' => e = .returned (.int .i64 (keyOf zs x - keyOf zs y)) ∧ Ext w w' := by
  show Calls Try.prog 45 #[.int .i64 x, .int .i64 y, .pointer (some ⟨B, 0, none⟩)] w _
  obtain ⟨i, rfl⟩ : ∃ i : Nat, x = (i : Int) := ⟨x.toNat, by omega⟩
  obtain ⟨j, rfl⟩ : ∃ j : Nat, y = (j : Int) := ⟨y.toNat, by omega⟩
  obtain ⟨b, off, rfl, hbk, hc⟩ := h.int (by omega)
  have b1 := hb i (by omega)
  have b2 := hb j (by omega)
  have HK := Lib.hid (show keyOf zs (i : Int) - keyOf zs (j : Int) = nth zs i - nth zs j from rfl)
  have E0 := After.got hB
  have E1 := After.got (hc i (by omega))
  have E2 := After.got (hc j (by omega))
  clear hB h hc hb
  generalize nth zs i = u at *
  generalize nth zs j = v at *
  have t1 : IntKind.i64.wrap (u - v) = u - v := IntWalk.i64_in _ (by omega)
  have i0 : (0 : Int) ≤ (i : Int) := by omega
  have i1 : (i : Int) < (n : Int) := by omega
  have j0 : (0 : Int) ≤ (j : Int) := by omega
  have j1 : (j : Int) < (n : Int) := by omega
  go_enter Try.func45, Try.ntmps45
  go_wp2_with fail
  (refine wp_region_after w (Ext.refl _) (by kernel_rfl) (by kernel_rfl) ?_; (repeat (go_big_quiet_step (fail))); refine wpQuiet_nil ?_; intro _ hw'; obtain ⟨z, hw''⟩ := hw'; subst hw'')
  go_wp2_with fail
  go_ret
  exact ⟨by rw [HK.out]; rfl, z.ext⟩
set_option maxRecDepth 100000 in
set_option maxHeartbeats 3200000 in
theorem best_c (A : Option Addr) (n c : Nat) (zs : List Int) (a b m : Int) (w : World) (h : Holds w 1 A n c (ints zs)) :
    Calls Try.prog 22 #[.agg #[.int .i64 a, .int .i64 b], .slice A n c, .int .i64 m] w (Fresh 3 1 (bestF a b zs m).length (ints (bestF a b zs m)) w) := by
  have HL := Lib.hid h.intlen
  have HH := Lib.hid h
  by_cases hok : costB a b zs m = true
  · obtain ⟨g1, g2, g3, g4⟩ := costB_yes hok
    obtain ⟨f, hfe⟩ : ∃ f, f = hoursF a b m := ⟨_, rfl⟩
    have HF := Lib.hid hfe
    rw [← hfe] at g1 g3
    obtain ⟨q, rfl⟩ : ∃ q : Nat, f = (q : Int) := ⟨f.toNat, by omega⟩
    have hqe : hoursN a b m = q := by rw [hoursN, ← HF.out]; omega
    have hqn : q ≤ n := by rw [HL.out] at g3; omega
    have H := Lib.hid (show bestF a b zs m = placesI (cheapL zs q) from by rw [bestF_yes hok, hqe])
    have hlen : (bestF a b zs m).length = q := by rw [bestF_len hok, hqe]
    have hc0 : 0 ≤ costF a b zs m := by
      have := (cost_room hok q (by rw [HL.out]; exact hqn)).2.2.1
      rw [costF_yes hok, hqe]; exact this
    obtain ⟨C, hC⟩ : ∃ C, C = costF a b zs m := ⟨_, rfl⟩
    have CC := fun w h => cost_c A n c zs a b m w h
    rw [← hC] at hc0 CC
    have HCC := Lib.hid CC
    have d0 := decide_eq_false (show ¬ C < 0 by omega)
    have HB := Lib.hid (show ∀ i, i < n → 0 ≤ nth zs i ∧ nth zs i ≤ 1000 from fun i hi => allB_at g4 (by rw [HL.out]; exact hi))
    have CH := fun w => hours_c a b m w
    rw [← hfe] at CH
    have HCH := Lib.hid CH
    rw [hlen]
    obtain ⟨i0, hi, hz0, hz1, hz2⟩ := info_parts intInfo
    have hs : n ≤ 48 := by rw [HL.out] at g2; exact g2
    have hnm : n ≤ 1000 := by omega
    clear hok g1 g2 g3 g4 hfe hqe hlen hC CC CH h
    go_enter Try.func22, Try.ntmps22
    go_wp2_with fail
    have xE : Ext w ((w.alloc (.cells #[.int .i64 a, .int .i64 b] 25)).alloc (.cells #[.slice A n c] 32)) := by (repeat (first | exact Ext.refl _ | assumption | refine Ext.alloc ?_ _ | refine Ext.drew ?_ | refine Ext.drewN ?_ _ | refine Ext.setCell ?_ (by (try simp only [World.size_alloc, World.size_setCell, World.size_drew, World.heap_drewN]); omega) _ | refine Ext.step (by assumption) ?_))
    have e0 : ((w.alloc (.cells #[.int .i64 a, .int .i64 b] 25)).alloc (.cells #[.slice A n c] 32)).cell? ⟨w.heap.size, 0, none⟩ = some (.int .i64 a) := by simp [go_sem]
    have e1 : ((w.alloc (.cells #[.int .i64 a, .int .i64 b] 25)).alloc (.cells #[.slice A n c] 32)).cell? ⟨w.heap.size, 1, none⟩ = some (.int .i64 b) := by simp [go_sem]
    have e2 : ((w.alloc (.cells #[.int .i64 a, .int .i64 b] 25)).alloc (.cells #[.slice A n c] 32)).cell? ⟨w.heap.size + 1, 0, none⟩ = some (.slice A n c) := by simp [go_sem]
    have hsz : ((w.alloc (.cells #[.int .i64 a, .int .i64 b] 25)).alloc (.cells #[.slice A n c] 32)).heap.size = w.heap.size + 2 := by simp
    generalize (w.alloc (.cells #[.int .i64 a, .int .i64 b] 25)).alloc (.cells #[.slice A n c] 32) = wE at *
    have HE := Lib.hid (HH.out.ext xE)
    refine (HCC.out _ HE.out).mono ?_; rintro e w1 ⟨rfl, x1⟩
    have p2 := x1.got e2
    have hl1 : wE.heap.size ≤ w1.heap.size := x1.len
    go_wp2_with (at_make; refine wpList_make_full _ rfl _ _ _ rfl w1.heap.size 3 i0 (.int .i64 0) 1 Try.underlying32 hi hz0 hz1 _ _ _ _ n rfl rfl rfl rfl (by rw [hz2]; omega) (by unfold maxLen; omega) (Nat.le_refl _) ?_; intro w2 hown hgrow)
    have hPl : (ints (placesI (List.range n))).length = n := by rw [ints_len, placesI_len, List.length_range]
    have HPl := Lib.hid hPl
    have hm1 : Own w2 w1.heap.size 3 1 (some ⟨w1.heap.size, 0, none⟩) n n (part (.int .i64 0) (ints (placesI (List.range n))) n 0) := by
      rw [part_zero, ← toList_madeCells_one]
      rw [Nat.mul_one] at hown
      exact hown
    have hx2 : Ext w1 w2 := (Ext.refl _).grown hgrow (by simp)
    clear hown hgrow hPl
    go_loopw [20] (fun i wr => ∃ k : Nat, k ≤ n ∧ i = .int .i64 k ∧ Own wr w1.heap.size 3 1 (some ⟨w1.heap.size, 0, none⟩) n n (part (.int .i64 0) (ints (placesI (List.range n))) n k) ∧ Ext w1 wr) (fun i _ => n - (intOf i).toNat)
    case atStart => exact ⟨0, Nat.zero_le _, rfl, hm1, hx2⟩
    case round =>
      clear hm1 hx2
      obtain ⟨k, hk, rfl, hown, hx⟩ := hrel
      have HO := Lib.hid hown
      clear hown
      by_cases hlt : k < n
      · have dk : decide (k < n) = true := decide_eq_true hlt
        have j0 : (0 : Int) ≤ (k : Int) := by omega
        have j1 : (k : Int) < (n : Int) := by omega
        obtain ⟨u, hu⟩ : ∃ u, wr.cell? ⟨w1.heap.size, k, none⟩ = some u := by
          rw [World.ownsRow.cellAt HO.out k (by omega)]
          exact ⟨_, List.getElem?_eq_getElem (by rw [part_len _ _ _ _ HPl.out (by omega)]; exact hlt)⟩
        have hfz := World.ownsRow.frozenAt HO.out k
        have hset := (World.ownsRow.stored HO.out k (.int .i64 (k : Int))).1
        rw [part_set _ _ _ _ _ HPl.out hlt (by rw [ints_get _ _ (by rw [placesI_len, List.length_range]; exact hlt), range_nth n k hlt])] at hset
        have HS := Lib.hid hset
        have x4 := hx.setCell (p := ⟨w1.heap.size, k, none⟩) (Nat.le_refl _) (.int .i64 (k : Int))
        clear hset HO
        go_wp2_with fail
        go_roundw
        case rel => exact ⟨k + 1, by omega, by go_num, HS.out, x4⟩
        case measure => simp [intOf]; omega
      · obtain rfl : k = n := by omega
        have dk : decide (k < k) = false := decide_eq_false (by omega)
        have ho := HO.out
        rw [part_all _ _ _ HPl.out] at ho
        have xw := x1.trans hx
        have CM : CmpOk 45 #[.pointer (some ⟨w.heap.size + 1, 0, none⟩)] (keyOf zs) k wr (Value.slice (some ⟨w1.heap.size, 0, none⟩) k k).ownBlock := by
          intro w' hg x y hx0 hy0
          have xg : Ext wE w' := xw.grown hg (fun g hgb => by have e : w1.heap.size = g := Option.some.inj hgb; omega)
          exact best_cmp _ A k c zs x y w' (xg.got e2) (HE.out.ext xg) hnm HB.out hx0 hy0
        have CS := stable_c w1.heap.size (some ⟨w1.heap.size, 0, none⟩) k k 45 k _ (keyOf zs) (placesI (List.range k)) wr (enters_of Try.func45 (by kernel_rfl) rfl) ho hs CM (fun i hi => by rw [range_nth k i hi]; omega) (fun p r h1 h2 => by rw [range_nth k p (by omega), range_nth k r h2]; omega)
        have HCS := Lib.hid CS
        have q0 := xw.got e0
        have q1 := xw.got e1
        have q2 := xw.got e2
        clear ho CM CS HO
        go_wp2_with fail
        refine HCS.out.mono ?_; rintro e w3 ⟨rfl, ds', hs1, o3, g3⟩
        have x3 : Ext wE w3 := xw.grown g3 (fun g hgb => by have e : w1.heap.size = g := Option.some.inj hgb; omega)
        have hds : ds' = placesI (ord zs) := stable_law (by rw [HL.out]; exact hs1)
        subst hds
        have HPre := Lib.hid (Holds.pre o3.holds hqn)
        have ro := o3.len
        have r0 := x3.got e0
        have r1 := x3.got e1
        have X3 := Lib.hid x3
        clear q0 q1 q2 hs1 o3 g3 HCS hx xw x1 p2 x3 e0 e1 e2
        have k0 : (0 : Int) ≤ (q : Int) := by omega
        have k1 : (q : Int) ≤ (k : Int) := by omega
        go_wp2_with fail
        refine (HCH.out _).mono ?_; rintro e w4 ⟨rfl, x4⟩
        go_wp2_with fail
        refine (copyInts_c _ _ _ _ _ (HPre.out.ext x4) (by omega)).mono ?_; rintro e w5 ⟨A5, c5, rfl, o5, x5⟩
        go_wp2_with fail
        refine (sortAll_c _ _ _ _ _ _ o5 (by omega)).mono ?_; rintro e w6 ⟨rfl, o6, g6⟩
        have x6 : Ext w4 w6 := Own.ext_grown x5 o5 (Nat.le_refl _) g6
        have hle : w.heap.size ≤ w4.heap.size := (xE.trans (X3.out.trans x4)).len
        have O6 := Lib.hid ((show Own w6 w.heap.size 3 1 A5 q c5 (ints (bestF a b zs m)) from by rw [H.out, ← take_sorted]; exact o6.mono hle))
        have XF := Lib.hid ((xE.trans (X3.out.trans x4)).trans x6)
        clear o5 o6 g6
        go_wp2_with fail
        go_ret
        exact ⟨A5, c5, rfl, O6.out, XF.out⟩
  · have hF := bestF_no hok
    have hC := costF_no hok
    have CC := fun w h => cost_c A n c zs a b m w h
    rw [hC] at CC
    have HCC := Lib.hid CC
    have HN := Lib.hid hF
    clear hF hC CC h
    go_enter Try.func22, Try.ntmps22
    go_wp2_with fail
    refine (HCC.out _ (HH.out.ext (by (repeat (first | exact Ext.refl _ | assumption | refine Ext.alloc ?_ _ | refine Ext.drew ?_ | refine Ext.drewN ?_ _ | refine Ext.setCell ?_ (by (try simp only [World.size_alloc, World.size_setCell, World.size_drew, World.heap_drewN]); omega) _ | refine Ext.step (by assumption) ?_))))).mono ?_; rintro e w1 ⟨rfl, x1⟩
    go_wp2_with fail
    go_ret
    rw [HN.out]
    exact ⟨none, 0, rfl, Own.nil_ _ _ _ _, (Ext.trans (by (repeat (first | exact Ext.refl _ | assumption | refine Ext.alloc ?_ _ | refine Ext.drew ?_ | refine Ext.drewN ?_ _ | refine Ext.setCell ?_ (by (try simp only [World.size_alloc, World.size_setCell, World.size_drew, World.heap_drewN]); omega) _ | refine Ext.step (by assumption) ?_))) x1)⟩
end Go.Proofs.Ytbenbjbfmcdedaa
