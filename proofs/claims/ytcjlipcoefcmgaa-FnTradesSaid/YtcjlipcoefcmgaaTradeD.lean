/-
  The contract of Settled, of the program and of the reference.
-/
import Derived.Test.YtcjlipcoefcmgaaTradeP
import Derived.Test.YtcjlipcoefcmgaaTail
namespace Go.Proofs.Ytcjlipcoefcmgaa
open Go.RowKit

open Classical in
/-- how many of the persons 1 .. 20 have a balance that is not zero, as block g holds it -/
noncomputable def nzW (g : Nat) (w : World) : Nat := (sumG (fun i => if w.cell? ⟨g, i + 1, none⟩ = some (.int .i64 0) then 0 else 1) 20).toNat
theorem nzW_eq {w : World} {base g n c : Nat} {e : TypeId} {bs : List Int} (h : Own w base e 1 (some ⟨g, 0, none⟩) n c (ints bs)) (hn : n = 21) (hb : bs.length = 21) : nzW g w = (nzI bs).toNat := by
  unfold nzW nzI
  rw [sumG_congr (g := fun i => if nth bs (i + 1) = 0 then 0 else 1) (fun i hi => ?_)]
  have q := (World.ownsRow.cellAt h (i + 1) (by omega)).trans (ints_get bs (i + 1) (by omega))
  rw [q]
  by_cases e : nth bs (i + 1) = 0
  · rw [if_pos e, e, if_pos rfl]
  · rw [if_neg e, if_neg (by intro hh; apply e; injection hh with hh; injection hh)]
theorem ints_set (zs : List Int) (i : Nat) (x : Int) : (ints zs).set i (.int .i64 x) = ints (zs.set i x) := by simp [ints, List.map_set]
theorem stl_unfold {f : Nat} {bs : List Int} {L : List Debt} (hf : 0 < f) : stl f bs L = if stN bs = 0 then L else if 10000 < stN bs then [] else stl (f - 1) (stB bs) (L ++ [stD bs]) := by
  obtain ⟨m, rfl⟩ : ∃ m, f = m + 1 := ⟨f - 1, by omega⟩
  rfl
theorem balL_take (es : List Debt) (k : Nat) (hk : k < 21) : (ints (balL es))[k]? = some (.int .i64 (balF es (k : Int))) := by
  rw [ints_get _ _ (by rw [balL_len]; exact hk), balL_nth es k hk]
theorem Own.set_far {w : World} {base k n c base1 k1 n1 c1 g j : Nat} {e e1 : TypeId} {A : Option Addr} {xs ys : List Value} {u : Value} (h : Own w base e k A n c xs) (h1 : Own w base1 e1 k1 (some ⟨g, 0, none⟩) n1 c1 ys) (hap : Apart A n c (some ⟨g, 0, none⟩) n1 c1) :
    Own (w.setCell ⟨g, j, none⟩ u) base e k A n c xs := by
  refine h.kept (grownBy_set (World.grownBy.refl w (some g))) ?_
  rcases hap with h0 | h0
  · cases h0
  · exact .inr (fun e => h0 e.symm)
theorem settled_step {bs : List Int} {L : List Debt} {es : List Debt} {f : Nat} (h : balOk bs ∧ nzI bs < f ∧ stl f bs L = settledF es ∧ (L.length : Int) + nzI bs ≤ 20) (hn : stN bs ≠ 0) (hs : stN bs ≤ 10000) :
    balOk (stB bs) ∧ nzI (stB bs) < ((f - 1 : Nat) : Int) ∧ stl (f - 1) (stB bs) (L ++ [stD bs]) = settledF es ∧ ((L ++ [stD bs]).length : Int) + nzI (stB bs) ≤ 20 := by
  obtain ⟨b1, b2, b3, b4⟩ := h
  obtain ⟨c1, c2⟩ := stB_ok b1 hn
  have := nzI_bd bs
  have := nzI_bd (stB bs)
  refine ⟨c1, by omega, ?_, by simp; omega⟩
  rw [stl_unfold (by omega), if_neg hn, if_neg (by omega)] at b3
  exact b3
theorem settled_zero {bs : List Int} {L : List Debt} {es : List Debt} {f : Nat} (h : balOk bs ∧ nzI bs < f ∧ stl f bs L = settledF es ∧ (L.length : Int) + nzI bs ≤ 20) (hn : stN bs = 0) : settledF es = L := by
  have := nzI_bd bs
  have b3 := h.2.2.1
  rw [stl_unfold (by omega), if_pos hn] at b3
  exact b3.symm
theorem settled_big {bs : List Int} {L : List Debt} {es : List Debt} {f : Nat} (h : balOk bs ∧ nzI bs < f ∧ stl f bs L = settledF es ∧ (L.length : Int) + nzI bs ≤ 20) (hn : 10000 < stN bs) : settledF es = [] := by
  have := nzI_bd bs
  have b3 := h.2.2.1
  rw [stl_unfold (by omega), if_neg (by omega), if_pos hn] at b3
  exact b3.symm
theorem stB_eq {bs : List Int} (h : balOk bs) (hn : stN bs ≠ 0) : miN bs 20 ≠ maN bs 20 ∧ (bs.set (miN bs 20) (nth bs (miN bs 20) + stN bs)).set (maN bs 20) (nth bs (maN bs 20) - stN bs) = stB bs := by
  have hs := balOk_signs h
  have hb := miN_bd bs 20 (by omega)
  have hl := h.1
  have hne : miN bs 20 ≠ maN bs 20 := fun e => by
    rw [e] at hs
    apply hn
    unfold stN
    rw [e]
    omega
  refine ⟨hne, ?_⟩
  rw [stB, stB1, nth_set _ _ _ _ (by omega), if_neg hne]
set_option maxRecDepth 100000 in
set_option maxHeartbeats 12800000 in
theorem settled_c (A : Option Addr) (n c : Nat) (es : List Debt) (w : World) (h : Holds w 3 A n c (Debt.all es)) :
    Calls Try.prog 26 #[.slice A n c] w (Fresh 41 3 (settledF es).length (Debt.all (settledF es)) w) := by
  by_cases h1 : debB es = true
  · have HF := Lib.hid (show settledF es = stl 21 (balL es) [] from if_pos h1)
    have HB0 := Lib.hid (bal_zero h1)
    have HOK := Lib.hid (balL_ok h1)
    have HH := Lib.hid h
    obtain ⟨i0, hi, hz0, hz1, hz2⟩ := info_parts intInfo
    go_enter Try.func26, Try.ntmps26
    go_wp2_with fail
    refine (debtsOk_c _ _ _ es _ (h)).mono ?_; rintro e w1 ⟨rfl, x1⟩
    clear h
    go_wp2_with (at_make; refine wpList_make_full _ rfl _ _ _ rfl w1.heap.size 3 i0 (.int .i64 0) 1 Try.underlying50 hi hz0 hz1 _ _ _ _ 21 rfl rfl rfl rfl (by rw [hz2]; omega) (by unfold maxLen; omega) (Nat.le_refl _) ?_; intro w2 hown hgrow)
    have hm1 : Own w2 w1.heap.size 3 1 (some ⟨w1.heap.size, 0, none⟩) 21 21 (part (.int .i64 0) (ints (balL es)) 21 0) := by
      rw [part_zero, ← toList_madeCells_one]
      exact hown
    have hx2 : Ext w1 w2 := (Ext.refl _).grown hgrow (by simp)
    clear hown hgrow
    go_loopw [16] (fun i wr => ∃ k : Nat, k ≤ 21 ∧ i = .int .i64 k ∧ Own wr w1.heap.size 3 1 (some ⟨w1.heap.size, 0, none⟩) 21 21 (part (.int .i64 0) (ints (balL es)) 21 k) ∧ Ext w1 wr) (fun i _ => 21 - (intOf i).toNat)
    case atStart => exact ⟨0, Nat.zero_le _, rfl, hm1, hx2⟩
    case round =>
      clear hm1 hx2
      obtain ⟨k, hk, rfl, hown, hx⟩ := hrel
      by_cases hlt : k < 21
      · have j0 : (0 : Int) ≤ (k : Int) := by omega
        have j1 : (k : Int) < 21 := by omega
        have HO := Lib.hid hown
        clear hown
        go_wp2_with fail
        refine (balanceOf_c _ _ _ es _ _ (HH.out.ext (x1.trans hx))).mono ?_; rintro e w3 ⟨rfl, x3⟩
        have ho3 := Own.ext HO.out x3
        obtain ⟨u, hu⟩ : ∃ u, w3.cell? ⟨w1.heap.size, k, none⟩ = some u := by
          rw [World.ownsRow.cellAt ho3 k (by omega)]
          exact ⟨_, List.getElem?_eq_getElem (by rw [part_len _ _ _ _ (by rw [ints_len, balL_len]) (by omega)]; exact hlt)⟩
        have hfz := World.ownsRow.frozenAt ho3 k
        have hset := (World.ownsRow.stored ho3 k (.int .i64 (balF es (k : Int)))).1
        rw [part_set _ _ _ _ _ (by rw [ints_len, balL_len]) hlt (balL_take es k hlt)] at hset
        have HS := Lib.hid hset
        have x4 := (hx.trans x3).setCell (p := ⟨w1.heap.size, k, none⟩) (Nat.le_refl _) (.int .i64 (balF es (k : Int)))
        clear hset ho3
        go_wp2
        go_roundw
        case rel => exact ⟨k + 1, by omega, by go_num, HS.out, x4⟩
        case measure => simp [intOf]; omega
      · obtain rfl : k = 21 := by omega
        rw [part_all _ _ _ (by rw [ints_len, balL_len])] at hown
        have xw := x1.trans hx
        have HO1 := Lib.hid hown
        clear hown
        go_wp2
        go_loopw [2, 5] (fun _ o wr => ∃ (f : Nat) (bs : List Int) (L : List Debt) (A' : Option Addr) (c' : Nat), o = .slice A' L.length c' ∧ Own wr w1.heap.size 3 1 (some ⟨w1.heap.size, 0, none⟩) 21 21 (ints bs) ∧ Own wr w.heap.size 41 3 A' L.length c' (Debt.all L) ∧ Apart A' L.length c' (some ⟨w1.heap.size, 0, none⟩) 21 21 ∧ Ext w wr ∧ Hid (balOk bs ∧ nzI bs < f ∧ stl f bs L = settledF es ∧ (L.length : Int) + nzI bs ≤ 20)) (fun _ _ wr => nzW w1.heap.size wr)
        case atStart => exact ⟨21, balL es, [], none, 0, rfl, HO1.out, Own.nil_ _ _ _ _, .inr (by simp [Value.ownBlock]), xw, HOK.out, by have := nzI_bd (balL es); omega, HF.out.symm, by have := nzI_bd (balL es); simp; omega⟩
        case round =>
          have hw1 : w.heap.size ≤ w1.heap.size := x1.len
          clear xw
          obtain ⟨f, bs, L, A', c', rfl, hob, hol, hap, hx, HI⟩ := hrel
          have hlen : L.length ≤ 20 := by have := HI.out.2.2.2; have := nzI_bd bs; omega
          have hbl : bs.length = 21 := HI.out.1.1
          have hgl := (hob.lt _ rfl).2
          have HBL := Lib.hid hbl
          have HOB := Lib.hid hob
          have HOL := Lib.hid hol
          have HAP := Lib.hid hap
          clear hob hol hap hbl
          go_wp2
          go_loopw [6, 7, 8] (fun p r a wr3 => ∃ m : Nat, 1 ≤ m ∧ m ≤ 20 ∧ a = .int .i64 ((m : Int) + 1) ∧ p = .int .i64 ((miN bs m : Nat) : Int) ∧ r = .int .i64 ((maN bs m : Nat) : Int) ∧ Ext wr wr3) (fun _ _ a _ => 21 - (intOf a).toNat)
          case atStart => exact ⟨1, by omega, by omega, by first | rfl | go_num, by simp [miN], by simp [maN], Ext.refl _⟩
          case round =>
            obtain ⟨m, hm0, hm, rfl, rfl, rfl, hx3⟩ := hrel
            have hmi := miN_bd bs m hm
            have hma := maN_bd bs m hm
            have ob3 := HOB.out.ext hx3
            have qp := (World.ownsRow.cellAt ob3 (miN bs m) (by omega)).trans (ints_get bs (miN bs m) (by rw [HBL.out]; omega))
            have qr := (World.ownsRow.cellAt ob3 (maN bs m) (by omega)).trans (ints_get bs (maN bs m) (by rw [HBL.out]; omega))
            have k1 : (0 : Int) ≤ (miN bs m : Int) := by omega
            have k2 : (miN bs m : Int) < 21 := by omega
            have k3 : (0 : Int) ≤ (maN bs m : Int) := by omega
            have k4 : (maN bs m : Int) < 21 := by omega
            have pp := After.got (w := wr) qp
            have pr := After.got (w := wr) qr
            by_cases hlt : m < 20
            · have qa := (World.ownsRow.cellAt ob3 (m + 1) (by omega)).trans (ints_get bs (m + 1) (by rw [HBL.out]; omega))
              have pa := After.got (w := wr) qa
              have k5 : (0 : Int) ≤ (m : Int) + 1 := by omega
              have k6 : (m : Int) + 1 < 21 := by omega
              have k7 : ((m : Int) + 1).toNat = m + 1 := by omega
              clear ob3
              cases t1 : decide (nth bs (m + 1) < nth bs (miN bs m)) <;> cases t2 : decide (nth bs (maN bs m) < nth bs (m + 1))
              · have E1 := Lib.hid (show miN bs (m + 1) = miN bs m from if_neg (of_decide_eq_false t1))
                have E2 := Lib.hid (show maN bs (m + 1) = maN bs m from if_neg (of_decide_eq_false t2))
                go_wp2_with fail
                (refine wp_region_after wr (Ext.refl _) (by kernel_rfl) (by kernel_rfl) ?_; (repeat (go_big_quiet_step (fail))); refine wpQuiet_nil ?_; intro _ hw'; obtain ⟨y, hw''⟩ := hw'; subst hw'')
                have pa2 := After.got (w := y.now) (y.ext.got qa)
                have pr2 := After.got (w := y.now) (y.ext.got qr)
                go_wp2_with fail
                (refine wp_region_after y.now (Ext.refl _) (by kernel_rfl) (by kernel_rfl) ?_; (repeat (go_big_quiet_step (fail))); refine wpQuiet_nil ?_; intro _ hw'; obtain ⟨z, hw''⟩ := hw'; subst hw'')
                go_wp2
                go_roundw
                case rel => exact ⟨m + 1, by omega, by omega, by go_num, by first | (rw [E1.out]; done) | (rw [E1.out]; go_num), by first | (rw [E2.out]; done) | (rw [E2.out]; go_num), (hx3.trans y.ext).trans z.ext⟩
                case measure => simp [intOf]; omega
              · have E1 := Lib.hid (show miN bs (m + 1) = miN bs m from if_neg (of_decide_eq_false t1))
                have E2 := Lib.hid (show maN bs (m + 1) = m + 1 from if_pos (of_decide_eq_true t2))
                go_wp2_with fail
                (refine wp_region_after wr (Ext.refl _) (by kernel_rfl) (by kernel_rfl) ?_; (repeat (go_big_quiet_step (fail))); refine wpQuiet_nil ?_; intro _ hw'; obtain ⟨y, hw''⟩ := hw'; subst hw'')
                have pa2 := After.got (w := y.now) (y.ext.got qa)
                have pr2 := After.got (w := y.now) (y.ext.got qr)
                go_wp2_with fail
                (refine wp_region_after y.now (Ext.refl _) (by kernel_rfl) (by kernel_rfl) ?_; (repeat (go_big_quiet_step (fail))); refine wpQuiet_nil ?_; intro _ hw'; obtain ⟨z, hw''⟩ := hw'; subst hw'')
                go_wp2
                go_roundw
                case rel => exact ⟨m + 1, by omega, by omega, by go_num, by first | (rw [E1.out]; done) | (rw [E1.out]; go_num), by first | (rw [E2.out]; done) | (rw [E2.out]; go_num), (hx3.trans y.ext).trans z.ext⟩
                case measure => simp [intOf]; omega
              · have E1 := Lib.hid (show miN bs (m + 1) = m + 1 from if_pos (of_decide_eq_true t1))
                have E2 := Lib.hid (show maN bs (m + 1) = maN bs m from if_neg (of_decide_eq_false t2))
                go_wp2_with fail
                (refine wp_region_after wr (Ext.refl _) (by kernel_rfl) (by kernel_rfl) ?_; (repeat (go_big_quiet_step (fail))); refine wpQuiet_nil ?_; intro _ hw'; obtain ⟨y, hw''⟩ := hw'; subst hw'')
                have pa2 := After.got (w := y.now) (y.ext.got qa)
                have pr2 := After.got (w := y.now) (y.ext.got qr)
                go_wp2_with fail
                (refine wp_region_after y.now (Ext.refl _) (by kernel_rfl) (by kernel_rfl) ?_; (repeat (go_big_quiet_step (fail))); refine wpQuiet_nil ?_; intro _ hw'; obtain ⟨z, hw''⟩ := hw'; subst hw'')
                go_wp2
                go_roundw
                case rel => exact ⟨m + 1, by omega, by omega, by go_num, by first | (rw [E1.out]; done) | (rw [E1.out]; go_num), by first | (rw [E2.out]; done) | (rw [E2.out]; go_num), (hx3.trans y.ext).trans z.ext⟩
                case measure => simp [intOf]; omega
              · have E1 := Lib.hid (show miN bs (m + 1) = m + 1 from if_pos (of_decide_eq_true t1))
                have E2 := Lib.hid (show maN bs (m + 1) = m + 1 from if_pos (of_decide_eq_true t2))
                go_wp2_with fail
                (refine wp_region_after wr (Ext.refl _) (by kernel_rfl) (by kernel_rfl) ?_; (repeat (go_big_quiet_step (fail))); refine wpQuiet_nil ?_; intro _ hw'; obtain ⟨y, hw''⟩ := hw'; subst hw'')
                have pa2 := After.got (w := y.now) (y.ext.got qa)
                have pr2 := After.got (w := y.now) (y.ext.got qr)
                go_wp2_with fail
                (refine wp_region_after y.now (Ext.refl _) (by kernel_rfl) (by kernel_rfl) ?_; (repeat (go_big_quiet_step (fail))); refine wpQuiet_nil ?_; intro _ hw'; obtain ⟨z, hw''⟩ := hw'; subst hw'')
                go_wp2
                go_roundw
                case rel => exact ⟨m + 1, by omega, by omega, by go_num, by first | (rw [E1.out]; done) | (rw [E1.out]; go_num), by first | (rw [E2.out]; done) | (rw [E2.out]; go_num), (hx3.trans y.ext).trans z.ext⟩
                case measure => simp [intOf]; omega
            · obtain rfl : m = 20 := by omega
              have v1 := HI.out.1.2.1 (miN bs 20) (by omega)
              have v2 := HI.out.1.2.1 (maN bs 20) (by omega)
              obtain ⟨x, hxx⟩ : ∃ x, stN bs = x := ⟨_, rfl⟩
              have hst : min (-(nth bs (miN bs 20))) (nth bs (maN bs 20)) = x := hxx
              have hx0 := stN_nonneg HI.out.1
              rw [hxx] at hx0
              have HX := Lib.hid hxx
              clear hxx
              have HOB3 := Lib.hid ob3
              clear ob3
              go_wp2_with fail
              (refine wp_region_after wr (Ext.refl _) (by kernel_rfl) (by kernel_rfl) ?_; (repeat (go_big_quiet_step (fail))); refine wpQuiet_nil ?_; intro _ hw'; obtain ⟨y, hw''⟩ := hw'; subst hw'')
              have HY := Lib.hid (hx3.trans y.ext)
              have xy := hx.trans (hx3.trans y.ext)
              by_cases z : x = 0
              · have H := Lib.hid (settled_zero HI.out (by rw [HX.out]; exact z))
                have z' : (x == 0) = true := by simp [z]
                clear z
                go_wp2
                go_ret
                rw [H.out]
                exact ⟨_, _, rfl, HOL.out.ext HY.out, xy⟩
              · have z' : (x == 0) = false := by simpa using z
                have Z := Lib.hid z
                clear z
                by_cases big : 10000 < x
                · have H := Lib.hid (settled_big HI.out (by rw [HX.out]; exact big))
                  go_wp2
                  go_ret
                  rw [H.out]
                  exact Fresh.nil_ xy
                · obtain ⟨hne, hSB⟩ := stB_eq HI.out.1 (by rw [HX.out]; exact Z.out)
                  have hne' := Ne.symm hne
                  have HSB := hSB
                  clear hSB
                  have HST := Lib.hid (settled_step HI.out (by rw [HX.out]; exact Z.out) (by rw [HX.out]; omega))
                  have hol2 := HOL.out.ext HY.out
                  have hob2 := HOB.out.ext HY.out
                  have MZ := Lib.hid (nzW_eq HOB.out rfl HBL.out)
                  rw [HX.out] at HSB
                  have hmi := miN_bd bs 20 (by omega)
                  have hma := maN_bd bs 20 (by omega)
                  go_wp2_with ((at_builtin; refine wpList_push2 w (by (repeat (first | exact Ext.refl _ | assumption | refine Ext.alloc ?_ _ | refine Ext.drew ?_ | refine Ext.drewN ?_ _ | refine Ext.setCell ?_ (by (try simp only [World.size_alloc, World.size_setCell, World.size_drew, World.heap_drewN]); omega) _ | refine Ext.step (by assumption) ?_))) rfl _ _ _ rfl 41 (.agg #[.int .i64 0, .int .i64 0, .int .i64 0]) 3 24 elInfo Try.underlying25 rfl (by omega) _ _ _ _ rfl (Own.ext hol2 (by (repeat (first | exact Ext.refl _ | assumption | refine Ext.alloc ?_ _ | refine Ext.drew ?_ | refine Ext.drewN ?_ _ | refine Ext.setCell ?_ (by (try simp only [World.size_alloc, World.size_setCell, World.size_drew, World.heap_drewN]); omega) _ | refine Ext.step (by assumption) ?_)))) _ _ _ _ _ _ _ (Own.ext hob2 (by (repeat (first | exact Ext.refl _ | assumption | refine Ext.alloc ?_ _ | refine Ext.drew ?_ | refine Ext.drewN ?_ _ | refine Ext.setCell ?_ (by (try simp only [World.size_alloc, World.size_setCell, World.size_drew, World.heap_drewN]); omega) _ | refine Ext.step (by assumption) ?_)))) HAP.out _ _ _ rfl (by exact heap_last (by first | rfl | simp)) rfl (by simp [Value.oneCell']) (by omega) (by omega) ?_; intro AP cP wP hoP hxP hoQ hapP); have up := (World.ownsRow.cellAt hoQ (miN bs 20) (by omega)).trans (ints_get bs (miN bs 20) (by rw [HBL.out]; omega)); have ur := (World.ownsRow.cellAt hoQ (maN bs 20) (by omega)).trans (ints_get bs (maN bs 20) (by rw [HBL.out]; omega)); have fp := World.ownsRow.frozenAt hoQ (miN bs 20); have fr := World.ownsRow.frozenAt hoQ (maN bs 20))
                  have s1 := (World.ownsRow.stored hoQ (miN bs 20) (.int .i64 (nth bs (miN bs 20) + x))).1
                  have o1 := Own.set_far (j := miN bs 20) (u := .int .i64 (nth bs (miN bs 20) + x)) hoP hoQ hapP
                  have s2 := (World.ownsRow.stored s1 (maN bs 20) (.int .i64 (nth bs (maN bs 20) - x))).1
                  have o2 := Own.set_far (j := maN bs 20) (u := .int .i64 (nth bs (maN bs 20) - x)) o1 (show Own _ w1.heap.size 3 1 (some ⟨w1.heap.size, 0, none⟩) 21 21 _ from s1) hapP
                  rw [ints_set, ints_set, HSB] at s2
                  have ED := Lib.hid (show Debt.all L ++ #[.int .i64 (miN bs 20 : Int), .int .i64 (maN bs 20 : Int), .int .i64 x].toList = Debt.all (L ++ [stD bs]) from by rw [← HX.out]; exact Debt.all_snoc L (stD bs))
                  have LL := Lib.hid (show (L ++ [stD bs]).length = L.length + 1 from by simp)
                  have e3 := (hxP.setCell (p := ⟨w1.heap.size, miN bs 20, none⟩) hw1 (.int .i64 (nth bs (miN bs 20) + x))).setCell (p := ⟨w1.heap.size, maN bs 20, none⟩) hw1 (.int .i64 (nth bs (maN bs 20) - x))
                  have S2 := Lib.hid s2
                  have O2 := Lib.hid o2
                  have AP2 := Lib.hid hapP
                  clear s1 o1 s2 o2 hoP hoQ hapP hol2 hob2
                  go_wp2
                  go_roundw
                  case rel => exact ⟨f - 1, stB bs, L ++ [stD bs], AP, cP, by rw [LL.out]; exact ⟨rfl, rfl, rfl⟩, S2.out, by rw [LL.out, ← ED.out]; exact O2.out, by rw [LL.out]; exact AP2.out, HST.out⟩
                  case measure =>
                    rw [MZ.out, nzW_eq S2.out rfl (by rw [← HSB]; simp [HBL.out])]
                    have q1 := (stB_ok HI.out.1 (by rw [HX.out]; exact Z.out)).2
                    have q2 := nzI_bd (stB bs)
                    omega
  · have H := Lib.hid (show settledF es = [] from if_neg h1)
    go_enter Try.func26, Try.ntmps26
    go_wp2_with fail
    refine (debtsOk_c _ _ _ es _ (h)).mono ?_; rintro e w1 ⟨rfl, x1⟩
    go_wp2
    go_ret
    rw [H.out]
    exact Fresh.nil_ x1
set_option maxRecDepth 100000 in
set_option maxHeartbeats 12800000 in
theorem sSettled_c (A : Option Addr) (n c : Nat) (es : List Debt) (w : World) (h : Holds w 3 A n c (Debt.all es)) :
    Calls Try.prog 29 #[.slice A n c] w (Fresh 41 3 (settledF es).length (Debt.all (settledF es)) w) := by
  have hxa : Ext w (w.alloc (.cells #[] 41)) := by (repeat (first | exact Ext.refl _ | assumption | refine Ext.alloc ?_ _ | refine Ext.drew ?_ | refine Ext.drewN ?_ _ | refine Ext.setCell ?_ (by (try simp only [World.size_alloc, World.size_setCell, World.size_drew, World.heap_drewN]); omega) _ | refine Ext.step (by assumption) ?_))
  have hb0 := Own.lit (w := w.alloc (.cells #[] 41)) (base := w.heap.size) (e := 41) (k := 3) (n := 0) (cs := #[]) (heap_alloc_new _ _) (Nat.zero_le _) rfl
  by_cases h1 : debB es = true
  · have HF := Lib.hid (show settledF es = stl 21 (balL es) [] from if_pos h1)
    have HB0 := Lib.hid (bal_zero h1)
    have HOK := Lib.hid (balL_ok h1)
    have HH := Lib.hid h
    obtain ⟨i0, hi, hz0, hz1, hz2⟩ := info_parts intInfo
    go_enter Try.func29, Try.ntmps29
    go_wp2_with fail
    refine (sDebtsOk_c _ _ _ es _ (h.ext hxa)).mono ?_; rintro e w1 ⟨rfl, x1⟩
    clear h
    go_wp2_with (at_make; refine wpList_make_full _ rfl _ _ _ rfl w1.heap.size 3 i0 (.int .i64 0) 1 Try.underlying50 hi hz0 hz1 _ _ _ _ 21 rfl rfl rfl rfl (by rw [hz2]; omega) (by unfold maxLen; omega) (Nat.le_refl _) ?_; intro w2 hown hgrow)
    have hm1 : Own w2 w1.heap.size 3 1 (some ⟨w1.heap.size, 0, none⟩) 21 21 (part (.int .i64 0) (ints (balL es)) 21 0) := by
      rw [part_zero, ← toList_madeCells_one]
      exact hown
    have hx2 : Ext w1 w2 := (Ext.refl _).grown hgrow (by simp)
    clear hown hgrow
    go_loopw [5] (fun i wr => ∃ k : Nat, (1 ≤ k ∧ k ≤ 21) ∧ i = .int .i64 k ∧ Own wr w1.heap.size 3 1 (some ⟨w1.heap.size, 0, none⟩) 21 21 (part (.int .i64 0) (ints (balL es)) 21 k) ∧ Ext w1 wr) (fun i _ => 21 - (intOf i).toNat)
    case atStart => exact ⟨1, by omega, rfl, by
      have q := hm1
      have e0 : part (.int .i64 0) (ints (balL es)) 21 1 = part (.int .i64 0) (ints (balL es)) 21 0 := by
        rw [← part_set (.int .i64 0) (.int .i64 0) (ints (balL es)) 21 0 (by rw [ints_len, balL_len]) (by omega) (by rw [balL_take es 0 (by omega)]; exact congrArg some (congrArg _ HB0.out)), part_zero]
        rfl
      rw [e0]
      exact q, hx2⟩
    case round =>
      clear hm1 hx2
      obtain ⟨k, ⟨hk1, hk⟩, rfl, hown, hx⟩ := hrel
      by_cases hlt : k < 21
      · have j0 : (0 : Int) ≤ (k : Int) := by omega
        have j1 : (k : Int) < 21 := by omega
        have HO := Lib.hid hown
        clear hown
        go_wp2_with fail
        refine (sBalanceOf_c _ _ _ es _ _ (HH.out.ext ((hxa.trans x1).trans hx))).mono ?_; rintro e w3 ⟨rfl, x3⟩
        have ho3 := Own.ext HO.out x3
        obtain ⟨u, hu⟩ : ∃ u, w3.cell? ⟨w1.heap.size, k, none⟩ = some u := by
          rw [World.ownsRow.cellAt ho3 k (by omega)]
          exact ⟨_, List.getElem?_eq_getElem (by rw [part_len _ _ _ _ (by rw [ints_len, balL_len]) (by omega)]; exact hlt)⟩
        have hfz := World.ownsRow.frozenAt ho3 k
        have hset := (World.ownsRow.stored ho3 k (.int .i64 (balF es (k : Int)))).1
        rw [part_set _ _ _ _ _ (by rw [ints_len, balL_len]) hlt (balL_take es k hlt)] at hset
        have HS := Lib.hid hset
        have x4 := (hx.trans x3).setCell (p := ⟨w1.heap.size, k, none⟩) (Nat.le_refl _) (.int .i64 (balF es (k : Int)))
        clear hset ho3
        go_wp2
        go_roundw
        case rel => exact ⟨k + 1, by omega, by go_num, HS.out, x4⟩
        case measure => simp [intOf]; omega
      · obtain rfl : k = 21 := by omega
        rw [part_all _ _ _ (by rw [ints_len, balL_len])] at hown
        have xw := (hxa.trans x1).trans hx
        have HB1 := Lib.hid ((hb0.ext x1).ext hx)
        have HAP0 := Lib.hid (show Apart (some ⟨w.heap.size, 0, none⟩) 0 0 (some ⟨w1.heap.size, 0, none⟩) 21 21 from .inr (by have := x1.len; simp only [World.size_alloc] at this; simp [Value.ownBlock]; omega))
        have HO1 := Lib.hid hown
        clear hown
        go_wp2
        go_loopw [2, 3] (fun _ o wr => ∃ (f : Nat) (bs : List Int) (L : List Debt) (A' : Option Addr) (c' : Nat), o = .slice A' L.length c' ∧ Own wr w1.heap.size 3 1 (some ⟨w1.heap.size, 0, none⟩) 21 21 (ints bs) ∧ Own wr w.heap.size 41 3 A' L.length c' (Debt.all L) ∧ Apart A' L.length c' (some ⟨w1.heap.size, 0, none⟩) 21 21 ∧ Ext w wr ∧ Hid (balOk bs ∧ nzI bs < f ∧ stl f bs L = settledF es ∧ (L.length : Int) + nzI bs ≤ 20)) (fun _ _ wr => nzW w1.heap.size wr)
        case atStart => exact ⟨21, balL es, [], _, 0, rfl, HO1.out, HB1.out, HAP0.out, xw, HOK.out, by have := nzI_bd (balL es); omega, HF.out.symm, by have := nzI_bd (balL es); simp; omega⟩
        case round =>
          have hw1 : w.heap.size ≤ w1.heap.size := (hxa.trans x1).len
          clear xw
          obtain ⟨f, bs, L, A', c', rfl, hob, hol, hap, hx, HI⟩ := hrel
          have hlen : L.length ≤ 20 := by have := HI.out.2.2.2; have := nzI_bd bs; omega
          have hbl : bs.length = 21 := HI.out.1.1
          have hgl := (hob.lt _ rfl).2
          have HBL := Lib.hid hbl
          have HOB := Lib.hid hob
          have HOL := Lib.hid hol
          have HAP := Lib.hid hap
          clear hob hol hap hbl
          go_wp2
          go_loopw [6, 7, 8] (fun p r a wr3 => ∃ m : Nat, 0 ≤ m ∧ m ≤ 20 ∧ a = .int .i64 ((m : Int) + 1) ∧ p = .int .i64 ((miN bs m : Nat) : Int) ∧ r = .int .i64 ((maN bs m : Nat) : Int) ∧ Ext wr wr3) (fun _ _ a _ => 21 - (intOf a).toNat)
          case atStart => exact ⟨0, by omega, by omega, by first | rfl | go_num, by simp [miN], by simp [maN], Ext.refl _⟩
          case round =>
            obtain ⟨m, hm0, hm, rfl, rfl, rfl, hx3⟩ := hrel
            have hmi := miN_bd bs m hm
            have hma := maN_bd bs m hm
            have ob3 := HOB.out.ext hx3
            have qp := (World.ownsRow.cellAt ob3 (miN bs m) (by omega)).trans (ints_get bs (miN bs m) (by rw [HBL.out]; omega))
            have qr := (World.ownsRow.cellAt ob3 (maN bs m) (by omega)).trans (ints_get bs (maN bs m) (by rw [HBL.out]; omega))
            have k1 : (0 : Int) ≤ (miN bs m : Int) := by omega
            have k2 : (miN bs m : Int) < 21 := by omega
            have k3 : (0 : Int) ≤ (maN bs m : Int) := by omega
            have k4 : (maN bs m : Int) < 21 := by omega
            have pp := After.got (w := wr) qp
            have pr := After.got (w := wr) qr
            by_cases hlt : m < 20
            · have qa := (World.ownsRow.cellAt ob3 (m + 1) (by omega)).trans (ints_get bs (m + 1) (by rw [HBL.out]; omega))
              have pa := After.got (w := wr) qa
              have k5 : (0 : Int) ≤ (m : Int) + 1 := by omega
              have k6 : (m : Int) + 1 < 21 := by omega
              have k7 : ((m : Int) + 1).toNat = m + 1 := by omega
              clear ob3
              cases t1 : decide (nth bs (m + 1) < nth bs (miN bs m)) <;> cases t2 : decide (nth bs (maN bs m) < nth bs (m + 1))
              · have E1 := Lib.hid (show miN bs (m + 1) = miN bs m from if_neg (of_decide_eq_false t1))
                have E2 := Lib.hid (show maN bs (m + 1) = maN bs m from if_neg (of_decide_eq_false t2))
                go_wp2_with fail
                (refine wp_region_after wr (Ext.refl _) (by kernel_rfl) (by kernel_rfl) ?_; (repeat (go_big_quiet_step (fail))); refine wpQuiet_nil ?_; intro _ hw'; obtain ⟨y, hw''⟩ := hw'; subst hw'')
                have pa2 := After.got (w := y.now) (y.ext.got qa)
                have pr2 := After.got (w := y.now) (y.ext.got qr)
                go_wp2_with fail
                (refine wp_region_after y.now (Ext.refl _) (by kernel_rfl) (by kernel_rfl) ?_; (repeat (go_big_quiet_step (fail))); refine wpQuiet_nil ?_; intro _ hw'; obtain ⟨z, hw''⟩ := hw'; subst hw'')
                go_wp2
                go_roundw
                case rel => exact ⟨m + 1, by omega, by omega, by go_num, by first | (rw [E1.out]; done) | (rw [E1.out]; go_num), by first | (rw [E2.out]; done) | (rw [E2.out]; go_num), (hx3.trans y.ext).trans z.ext⟩
                case measure => simp [intOf]; omega
              · have E1 := Lib.hid (show miN bs (m + 1) = miN bs m from if_neg (of_decide_eq_false t1))
                have E2 := Lib.hid (show maN bs (m + 1) = m + 1 from if_pos (of_decide_eq_true t2))
                go_wp2_with fail
                (refine wp_region_after wr (Ext.refl _) (by kernel_rfl) (by kernel_rfl) ?_; (repeat (go_big_quiet_step (fail))); refine wpQuiet_nil ?_; intro _ hw'; obtain ⟨y, hw''⟩ := hw'; subst hw'')
                have pa2 := After.got (w := y.now) (y.ext.got qa)
                have pr2 := After.got (w := y.now) (y.ext.got qr)
                go_wp2_with fail
                (refine wp_region_after y.now (Ext.refl _) (by kernel_rfl) (by kernel_rfl) ?_; (repeat (go_big_quiet_step (fail))); refine wpQuiet_nil ?_; intro _ hw'; obtain ⟨z, hw''⟩ := hw'; subst hw'')
                go_wp2
                go_roundw
                case rel => exact ⟨m + 1, by omega, by omega, by go_num, by first | (rw [E1.out]; done) | (rw [E1.out]; go_num), by first | (rw [E2.out]; done) | (rw [E2.out]; go_num), (hx3.trans y.ext).trans z.ext⟩
                case measure => simp [intOf]; omega
              · have E1 := Lib.hid (show miN bs (m + 1) = m + 1 from if_pos (of_decide_eq_true t1))
                have E2 := Lib.hid (show maN bs (m + 1) = maN bs m from if_neg (of_decide_eq_false t2))
                go_wp2_with fail
                (refine wp_region_after wr (Ext.refl _) (by kernel_rfl) (by kernel_rfl) ?_; (repeat (go_big_quiet_step (fail))); refine wpQuiet_nil ?_; intro _ hw'; obtain ⟨y, hw''⟩ := hw'; subst hw'')
                have pa2 := After.got (w := y.now) (y.ext.got qa)
                have pr2 := After.got (w := y.now) (y.ext.got qr)
                go_wp2_with fail
                (refine wp_region_after y.now (Ext.refl _) (by kernel_rfl) (by kernel_rfl) ?_; (repeat (go_big_quiet_step (fail))); refine wpQuiet_nil ?_; intro _ hw'; obtain ⟨z, hw''⟩ := hw'; subst hw'')
                go_wp2
                go_roundw
                case rel => exact ⟨m + 1, by omega, by omega, by go_num, by first | (rw [E1.out]; done) | (rw [E1.out]; go_num), by first | (rw [E2.out]; done) | (rw [E2.out]; go_num), (hx3.trans y.ext).trans z.ext⟩
                case measure => simp [intOf]; omega
              · have E1 := Lib.hid (show miN bs (m + 1) = m + 1 from if_pos (of_decide_eq_true t1))
                have E2 := Lib.hid (show maN bs (m + 1) = m + 1 from if_pos (of_decide_eq_true t2))
                go_wp2_with fail
                (refine wp_region_after wr (Ext.refl _) (by kernel_rfl) (by kernel_rfl) ?_; (repeat (go_big_quiet_step (fail))); refine wpQuiet_nil ?_; intro _ hw'; obtain ⟨y, hw''⟩ := hw'; subst hw'')
                have pa2 := After.got (w := y.now) (y.ext.got qa)
                have pr2 := After.got (w := y.now) (y.ext.got qr)
                go_wp2_with fail
                (refine wp_region_after y.now (Ext.refl _) (by kernel_rfl) (by kernel_rfl) ?_; (repeat (go_big_quiet_step (fail))); refine wpQuiet_nil ?_; intro _ hw'; obtain ⟨z, hw''⟩ := hw'; subst hw'')
                go_wp2
                go_roundw
                case rel => exact ⟨m + 1, by omega, by omega, by go_num, by first | (rw [E1.out]; done) | (rw [E1.out]; go_num), by first | (rw [E2.out]; done) | (rw [E2.out]; go_num), (hx3.trans y.ext).trans z.ext⟩
                case measure => simp [intOf]; omega
            · obtain rfl : m = 20 := by omega
              have v1 := HI.out.1.2.1 (miN bs 20) (by omega)
              have v2 := HI.out.1.2.1 (maN bs 20) (by omega)
              obtain ⟨x, hxx⟩ : ∃ x, stN bs = x := ⟨_, rfl⟩
              have hst : min (-(nth bs (miN bs 20))) (nth bs (maN bs 20)) = x := hxx
              have hx0 := stN_nonneg HI.out.1
              rw [hxx] at hx0
              have HX := Lib.hid hxx
              clear hxx
              have HOB3 := Lib.hid ob3
              clear ob3
              go_wp2_with fail
              (refine wp_region_after wr (Ext.refl _) (by kernel_rfl) (by kernel_rfl) ?_; (repeat (go_big_quiet_step (fail))); refine wpQuiet_nil ?_; intro _ hw'; obtain ⟨y, hw''⟩ := hw'; subst hw'')
              have HY := Lib.hid (hx3.trans y.ext)
              have xy := hx.trans (hx3.trans y.ext)
              by_cases z : x = 0
              · have H := Lib.hid (settled_zero HI.out (by rw [HX.out]; exact z))
                have z' : (x == 0) = true := by simp [z]
                clear z
                go_wp2
                go_ret
                rw [H.out]
                exact ⟨_, _, rfl, HOL.out.ext HY.out, xy⟩
              · have z' : (x == 0) = false := by simpa using z
                have Z := Lib.hid z
                clear z
                by_cases big : 10000 < x
                · have H := Lib.hid (settled_big HI.out (by rw [HX.out]; exact big))
                  go_wp2
                  go_ret
                  rw [H.out]
                  exact ⟨_, _, rfl, Own.mono (Own.lit (cs := #[]) (heap_last (by first | rfl | simp)) (Nat.zero_le _) rfl) xy.len, xy.alloc _⟩
                · obtain ⟨hne, hSB⟩ := stB_eq HI.out.1 (by rw [HX.out]; exact Z.out)
                  have hne' := Ne.symm hne
                  have HSB := hSB
                  clear hSB
                  have HST := Lib.hid (settled_step HI.out (by rw [HX.out]; exact Z.out) (by rw [HX.out]; omega))
                  have hol2 := HOL.out.ext HY.out
                  have hob2 := HOB.out.ext HY.out
                  have MZ := Lib.hid (nzW_eq HOB.out rfl HBL.out)
                  rw [HX.out] at HSB
                  have hmi := miN_bd bs 20 (by omega)
                  have hma := maN_bd bs 20 (by omega)
                  go_wp2_with ((at_builtin; refine wpList_push2 w (by (repeat (first | exact Ext.refl _ | assumption | refine Ext.alloc ?_ _ | refine Ext.drew ?_ | refine Ext.drewN ?_ _ | refine Ext.setCell ?_ (by (try simp only [World.size_alloc, World.size_setCell, World.size_drew, World.heap_drewN]); omega) _ | refine Ext.step (by assumption) ?_))) rfl _ _ _ rfl 41 (.agg #[.int .i64 0, .int .i64 0, .int .i64 0]) 3 24 elInfo Try.underlying25 rfl (by omega) _ _ _ _ rfl (Own.ext hol2 (by (repeat (first | exact Ext.refl _ | assumption | refine Ext.alloc ?_ _ | refine Ext.drew ?_ | refine Ext.drewN ?_ _ | refine Ext.setCell ?_ (by (try simp only [World.size_alloc, World.size_setCell, World.size_drew, World.heap_drewN]); omega) _ | refine Ext.step (by assumption) ?_)))) _ _ _ _ _ _ _ (Own.ext hob2 (by (repeat (first | exact Ext.refl _ | assumption | refine Ext.alloc ?_ _ | refine Ext.drew ?_ | refine Ext.drewN ?_ _ | refine Ext.setCell ?_ (by (try simp only [World.size_alloc, World.size_setCell, World.size_drew, World.heap_drewN]); omega) _ | refine Ext.step (by assumption) ?_)))) HAP.out _ _ _ rfl (by exact heap_last (by first | rfl | simp)) rfl (by simp [Value.oneCell']) (by omega) (by omega) ?_; intro AP cP wP hoP hxP hoQ hapP); have up := (World.ownsRow.cellAt hoQ (miN bs 20) (by omega)).trans (ints_get bs (miN bs 20) (by rw [HBL.out]; omega)); have ur := (World.ownsRow.cellAt hoQ (maN bs 20) (by omega)).trans (ints_get bs (maN bs 20) (by rw [HBL.out]; omega)); have fp := World.ownsRow.frozenAt hoQ (miN bs 20); have fr := World.ownsRow.frozenAt hoQ (maN bs 20))
                  have s1 := (World.ownsRow.stored hoQ (miN bs 20) (.int .i64 (nth bs (miN bs 20) + x))).1
                  have o1 := Own.set_far (j := miN bs 20) (u := .int .i64 (nth bs (miN bs 20) + x)) hoP hoQ hapP
                  have s2 := (World.ownsRow.stored s1 (maN bs 20) (.int .i64 (nth bs (maN bs 20) - x))).1
                  have o2 := Own.set_far (j := maN bs 20) (u := .int .i64 (nth bs (maN bs 20) - x)) o1 (show Own _ w1.heap.size 3 1 (some ⟨w1.heap.size, 0, none⟩) 21 21 _ from s1) hapP
                  rw [ints_set, ints_set, HSB] at s2
                  have ED := Lib.hid (show Debt.all L ++ #[.int .i64 (miN bs 20 : Int), .int .i64 (maN bs 20 : Int), .int .i64 x].toList = Debt.all (L ++ [stD bs]) from by rw [← HX.out]; exact Debt.all_snoc L (stD bs))
                  have LL := Lib.hid (show (L ++ [stD bs]).length = L.length + 1 from by simp)
                  have e3 := (hxP.setCell (p := ⟨w1.heap.size, miN bs 20, none⟩) hw1 (.int .i64 (nth bs (miN bs 20) + x))).setCell (p := ⟨w1.heap.size, maN bs 20, none⟩) hw1 (.int .i64 (nth bs (maN bs 20) - x))
                  have S2 := Lib.hid s2
                  have O2 := Lib.hid o2
                  have AP2 := Lib.hid hapP
                  clear s1 o1 s2 o2 hoP hoQ hapP hol2 hob2
                  go_wp2
                  go_roundw
                  case rel => exact ⟨f - 1, stB bs, L ++ [stD bs], AP, cP, by rw [LL.out]; exact ⟨rfl, rfl, rfl⟩, S2.out, by rw [LL.out, ← ED.out]; exact O2.out, by rw [LL.out]; exact AP2.out, HST.out⟩
                  case measure =>
                    rw [MZ.out, nzW_eq S2.out rfl (by rw [← HSB]; simp [HBL.out])]
                    have q1 := (stB_ok HI.out.1 (by rw [HX.out]; exact Z.out)).2
                    have q2 := nzI_bd (stB bs)
                    omega
  · have H := Lib.hid (show settledF es = [] from if_neg h1)
    go_enter Try.func29, Try.ntmps29
    go_wp2_with fail
    refine (sDebtsOk_c _ _ _ es _ (h.ext hxa)).mono ?_; rintro e w1 ⟨rfl, x1⟩
    go_wp2
    go_ret
    rw [H.out]
    exact ⟨_, _, rfl, hb0.ext x1, hxa.trans x1⟩
end Go.Proofs.Ytcjlipcoefcmgaa
