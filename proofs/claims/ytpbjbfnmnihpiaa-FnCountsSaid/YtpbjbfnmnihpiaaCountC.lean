/-
  The contract of OneMistake, of the program and of the reference.
-/
import Derived.Test.YtpbjbfnmnihpiaaCountB
import Derived.Test.YtpbjbfnmnihpiaaSetEntry
import Derived.Test.YtpbjbfnmnihpiaaTail
namespace Go.Proofs.Ytpbjbfnmnihpiaa
open Go.RowKit

/-- the entries, the k-th level set -/
def levSet (es : List Entry) (k : Nat) (x : Int) : List Entry := es.set k ⟨(Entry.at_ es k).f0, (Entry.at_ es k).f1, x⟩
noncomputable def misLev (es : List Entry) (s : Int) (k : Nat) : Int := (Entry.at_ es k).f2 - gapF es s (k : Int)
def misP (es : List Entry) (s : Int) (k : Nat) : Prop := firstF es s = (k : Int) ∧ inB (misLev es s k) 0 100000 = true ∧ firstF (levSet es k (misLev es s k)) s < 0
open Classical in
noncomputable def misOk (es : List Entry) (s : Int) : Bool := decide (misP es s (firstF es s).toNat)
noncomputable def misK (es : List Entry) (s : Int) : Int := if misOk es s = true then firstF es s else 0
noncomputable def misL (es : List Entry) (s : Int) : Int := if misOk es s = true then misLev es s (firstF es s).toNat else 0
noncomputable def misV (es : List Entry) (s : Int) : Value := .tuple #[.int .i64 (misK es s), .int .i64 (misL es s), .bool (misOk es s)]
theorem misV_no {es : List Entry} {s : Int} (h : ¬ misP es s (firstF es s).toNat) : misV es s = .tuple #[.int .i64 0, .int .i64 0, .bool false] := by
  have hg : misOk es s = false := by simp only [misOk, decide_eq_false_iff_not]; exact h
  simp [misV, misK, misL, hg]
theorem misV_yes {es : List Entry} {s : Int} {k : Nat} (h : misP es s k) : misV es s = .tuple #[.int .i64 (k : Int), .int .i64 (misLev es s k), .bool true] := by
  have hk : (firstF es s).toNat = k := by rw [h.1]; omega
  have hg : misOk es s = true := by simp only [misOk, decide_eq_true_eq]; rw [hk]; exact h
  simp [misV, misK, misL, hg, hk, h.1]
theorem misV_no' {es : List Entry} {s : Int} {k : Nat} (hk : firstF es s = (k : Int)) (h : ¬ misP es s k) : misV es s = .tuple #[.int .i64 0, .int .i64 0, .bool false] := misV_no (by rw [hk]; simpa using h)
set_option maxHeartbeats 3200000 in
theorem mis_c (A : Option Addr) (n c : Nat) (es : List Entry) (s : Int) (w : World) (h : Holds w 3 A n c (Entry.all es)) (hn : n ≤ 1048576) :
    Calls Try.prog 16 #[.slice A n c, .int .i64 s] w (Ans (misV es s) w) := by
  have HL := Lib.hid (Entry.len h)
  rcases firstNZ_range (gapI es s) es.length with ⟨h0, -⟩ | ⟨j, hj, hjf, hne, -⟩
  · have hF : firstF es s = -1 := h0
    have H := Lib.hid (misV_no (es := es) (s := s) (fun e => by have := e.1; rw [hF] at this; omega))
    clear h0
    go_enter Try.func16, Try.ntmps16
    go_wp2_with fail
    refine (firstGap_c _ _ _ es s _ h).mono ?_; rintro e w1 ⟨rfl, x1⟩
    go_wp2
    go_ret3
    exact ⟨by rw [H.out]; rfl, x1⟩
  · have hF : firstF es s = (j : Int) := hjf
    have hE : entB es = true := by
      rcases Bool.eq_false_or_eq_true (entB es) with q | q
      · exact q
      · exact absurd (show gapI es s j = 0 from if_neg (by simp [q])) hne
    clear hjf hne
    rw [HL.out] at hj
    have hlv := (entAt_yes ((entB_at hE).2 j (by rw [HL.out]; exact hj))).2.2
    have hgp := gapF_bd es s (j : Int)
    obtain ⟨b, off, hA, hb, hc⟩ := Entry.where_ h (by omega)
    subst hA
    obtain ⟨-, -, d2⟩ := hc j hj
    have D2 := Lib.hid d2
    have HS := Lib.hid h
    have j0 : (0 : Int) ≤ (j : Int) := by omega
    have j1 : (j : Int) < (n : Int) := by omega
    clear hc d2
    by_cases t : inB ((Entry.at_ es j).f2 - gapF es s (j : Int)) 0 100000 = true
    · by_cases t2 : firstF (levSet es j ((Entry.at_ es j).f2 - gapF es s (j : Int))) s < 0
      · have H := Lib.hid (misV_yes (es := es) (s := s) (k := j) ⟨hF, t, t2⟩)
        go_enter Try.func16, Try.ntmps16
        go_wp2_with fail
        refine (firstGap_c _ _ _ es s _ h).mono ?_; rintro e w1 ⟨rfl, x1⟩
        have p2 := After.got (w := w1) (x1.got D2.out)
        go_wp2_with fail
        (refine wp_region_after w1 (Ext.refl _) (by kernel_rfl) (by kernel_rfl) ?_; (repeat (go_big_quiet_step ((go_at_call 14; exact after_call (gapAt_c _ _ _ es s _ _ (HS.out.ext (x1.trans (After.ext _)))))))); refine wpQuiet_nil ?_; intro _ hw'; obtain ⟨y, hw''⟩ := hw'; subst hw'')
        have xy := x1.trans y.ext
        go_wp2_with (at_builtin; refine wpList_cat y.now (Ext.refl _) rfl _ _ _ rfl 32 (.agg #[.int .i64 0, .int .i64 0, .int .i64 0]) 3 24 elInfo Try.underlying24 rfl (by omega) none 0 0 [] rfl (Own.nil_ _ _ _ _) _ _ _ _ rfl (HS.out.ext xy) (Entry.all_one es) (by omega) (by omega) ?_; intro A2 c2 w2 ho2 hx2; simp only [Nat.zero_add, List.nil_append] at ho2; obtain ⟨g, hA2, hg1, hg2⟩ := ho2.form (by omega); subst hA2; have hu2 := (World.ownsRow.cellAt ho2 (j * 3 + 2) (by omega)).trans (Entry.all_get2 es j (by rw [HL.out]; exact hj)); have hf2 := World.ownsRow.frozenAt ho2 (j * 3 + 2))
        have hs := (World.ownsRow.stored ho2 (j * 3 + 2) (.int .i64 (misLev es s j))).1
        rw [Entry.set2 es j (by rw [HL.out]; exact hj)] at hs
        have HW := Lib.hid (show Own _ y.now.heap.size 32 3 _ _ _ (Entry.all (levSet es j (misLev es s j))) from hs)
        clear hs ho2
        have xo := Ext.setCell hx2 (p := ⟨g, j * 3 + 2, none⟩) hg1 (.int .i64 (misLev es s j))
        unfold misLev at HW xo
        go_wp2_with (first | (go_at_call 30; refine (within_c _ _ _ _).mono ?_; rintro e w' ⟨rfl, rfl⟩) | (go_at_call 12; refine (firstGap_c _ _ _ _ s _ HW.out.holds).mono ?_; rintro e w9 ⟨rfl, hx9⟩))
        skip
        go_ret3
        exact ⟨by rw [H.out]; rfl, (xy.trans xo).trans hx9⟩
      · have H := Lib.hid (misV_no' (es := es) (s := s) (k := j) hF (fun e => t2 e.2.2))
        go_enter Try.func16, Try.ntmps16
        go_wp2_with fail
        refine (firstGap_c _ _ _ es s _ h).mono ?_; rintro e w1 ⟨rfl, x1⟩
        have p2 := After.got (w := w1) (x1.got D2.out)
        go_wp2_with fail
        (refine wp_region_after w1 (Ext.refl _) (by kernel_rfl) (by kernel_rfl) ?_; (repeat (go_big_quiet_step ((go_at_call 14; exact after_call (gapAt_c _ _ _ es s _ _ (HS.out.ext (x1.trans (After.ext _)))))))); refine wpQuiet_nil ?_; intro _ hw'; obtain ⟨y, hw''⟩ := hw'; subst hw'')
        have xy := x1.trans y.ext
        go_wp2_with (at_builtin; refine wpList_cat y.now (Ext.refl _) rfl _ _ _ rfl 32 (.agg #[.int .i64 0, .int .i64 0, .int .i64 0]) 3 24 elInfo Try.underlying24 rfl (by omega) none 0 0 [] rfl (Own.nil_ _ _ _ _) _ _ _ _ rfl (HS.out.ext xy) (Entry.all_one es) (by omega) (by omega) ?_; intro A2 c2 w2 ho2 hx2; simp only [Nat.zero_add, List.nil_append] at ho2; obtain ⟨g, hA2, hg1, hg2⟩ := ho2.form (by omega); subst hA2; have hu2 := (World.ownsRow.cellAt ho2 (j * 3 + 2) (by omega)).trans (Entry.all_get2 es j (by rw [HL.out]; exact hj)); have hf2 := World.ownsRow.frozenAt ho2 (j * 3 + 2))
        have hs := (World.ownsRow.stored ho2 (j * 3 + 2) (.int .i64 (misLev es s j))).1
        rw [Entry.set2 es j (by rw [HL.out]; exact hj)] at hs
        have HW := Lib.hid (show Own _ y.now.heap.size 32 3 _ _ _ (Entry.all (levSet es j (misLev es s j))) from hs)
        clear hs ho2
        have xo := Ext.setCell hx2 (p := ⟨g, j * 3 + 2, none⟩) hg1 (.int .i64 (misLev es s j))
        unfold misLev at HW xo
        go_wp2_with (first | (go_at_call 30; refine (within_c _ _ _ _).mono ?_; rintro e w' ⟨rfl, rfl⟩) | (go_at_call 12; refine (firstGap_c _ _ _ _ s _ HW.out.holds).mono ?_; rintro e w9 ⟨rfl, hx9⟩))
        go_ret3
        exact ⟨by rw [H.out]; rfl, (xy.trans xo).trans hx9⟩
    · have H := Lib.hid (misV_no' (es := es) (s := s) (k := j) hF (fun e => t e.2.1))
      go_enter Try.func16, Try.ntmps16
      go_wp2_with fail
      refine (firstGap_c _ _ _ es s _ h).mono ?_; rintro e w1 ⟨rfl, x1⟩
      have p2 := After.got (w := w1) (x1.got D2.out)
      go_wp2_with fail
      (refine wp_region_after w1 (Ext.refl _) (by kernel_rfl) (by kernel_rfl) ?_; (repeat (go_big_quiet_step ((go_at_call 14; exact after_call (gapAt_c _ _ _ es s _ _ (HS.out.ext (x1.trans (After.ext _)))))))); refine wpQuiet_nil ?_; intro _ hw'; obtain ⟨y, hw''⟩ := hw'; subst hw'')
      have xy := x1.trans y.ext
      go_wp2_with (at_builtin; refine wpList_cat y.now (Ext.refl _) rfl _ _ _ rfl 32 (.agg #[.int .i64 0, .int .i64 0, .int .i64 0]) 3 24 elInfo Try.underlying24 rfl (by omega) none 0 0 [] rfl (Own.nil_ _ _ _ _) _ _ _ _ rfl (HS.out.ext xy) (Entry.all_one es) (by omega) (by omega) ?_; intro A2 c2 w2 ho2 hx2; simp only [Nat.zero_add, List.nil_append] at ho2; obtain ⟨g, hA2, hg1, hg2⟩ := ho2.form (by omega); subst hA2; have hu2 := (World.ownsRow.cellAt ho2 (j * 3 + 2) (by omega)).trans (Entry.all_get2 es j (by rw [HL.out]; exact hj)); have hf2 := World.ownsRow.frozenAt ho2 (j * 3 + 2))
      have hs := (World.ownsRow.stored ho2 (j * 3 + 2) (.int .i64 (misLev es s j))).1
      rw [Entry.set2 es j (by rw [HL.out]; exact hj)] at hs
      have HW := Lib.hid (show Own _ y.now.heap.size 32 3 _ _ _ (Entry.all (levSet es j (misLev es s j))) from hs)
      clear hs ho2
      have xo := Ext.setCell hx2 (p := ⟨g, j * 3 + 2, none⟩) hg1 (.int .i64 (misLev es s j))
      unfold misLev at HW xo
      go_wp2_with (first | (go_at_call 30; refine (within_c _ _ _ _).mono ?_; rintro e w' ⟨rfl, rfl⟩) | (go_at_call 12; refine (firstGap_c _ _ _ _ s _ HW.out.holds).mono ?_; rintro e w9 ⟨rfl, hx9⟩))
      go_ret3
      exact ⟨by rw [H.out]; rfl, (xy.trans xo)⟩
set_option maxHeartbeats 3200000 in
theorem sMis_c (A : Option Addr) (n c : Nat) (es : List Entry) (s : Int) (w : World) (h : Holds w 3 A n c (Entry.all es)) (hn : n ≤ 1048576) :
    Calls Try.prog 26 #[.slice A n c, .int .i64 s] w (Ans (misV es s) w) := by
  have HL := Lib.hid (Entry.len h)
  rcases firstNZ_range (gapI es s) es.length with ⟨h0, -⟩ | ⟨j, hj, hjf, hne, -⟩
  · have hF : firstF es s = -1 := h0
    have H := Lib.hid (misV_no (es := es) (s := s) (fun e => by have := e.1; rw [hF] at this; omega))
    clear h0
    go_enter Try.func26, Try.ntmps26
    go_wp2_with fail
    refine (sFirstGap_c _ _ _ es s _ h).mono ?_; rintro e w1 ⟨rfl, x1⟩
    go_wp2
    go_ret3
    exact ⟨by rw [H.out]; rfl, x1⟩
  · have hF : firstF es s = (j : Int) := hjf
    have hE : entB es = true := by
      rcases Bool.eq_false_or_eq_true (entB es) with q | q
      · exact q
      · exact absurd (show gapI es s j = 0 from if_neg (by simp [q])) hne
    clear hjf hne
    rw [HL.out] at hj
    have hlv := (entAt_yes ((entB_at hE).2 j (by rw [HL.out]; exact hj))).2.2
    have hgp := gapF_bd es s (j : Int)
    obtain ⟨b, off, hA, hb, hc⟩ := Entry.where_ h (by omega)
    subst hA
    obtain ⟨-, -, d2⟩ := hc j hj
    have D2 := Lib.hid d2
    have HS := Lib.hid h
    have j0 : (0 : Int) ≤ (j : Int) := by omega
    have j1 : (j : Int) < (n : Int) := by omega
    clear hc d2
    by_cases t : inB ((Entry.at_ es j).f2 - gapF es s (j : Int)) 0 100000 = true
    · by_cases t2 : firstF (levSet es j ((Entry.at_ es j).f2 - gapF es s (j : Int))) s < 0
      · have H := Lib.hid (misV_yes (es := es) (s := s) (k := j) ⟨hF, t, t2⟩)
        go_enter Try.func26, Try.ntmps26
        go_wp2_with fail
        refine (sFirstGap_c _ _ _ es s _ h).mono ?_; rintro e w1 ⟨rfl, x1⟩
        go_wp2_with (at_builtin; refine wpList_cat w1 ((Ext.refl _).alloc _) rfl _ _ _ rfl 32 (.agg #[.int .i64 0, .int .i64 0, .int .i64 0]) 3 24 elInfo Try.underlying24 rfl (by omega) (some ⟨w1.heap.size, 0, none⟩) 0 0 [] rfl (Own.lit (cs := #[]) (heap_alloc_new _ _) (Nat.zero_le _) rfl) _ _ _ _ rfl (HS.out.ext (x1.trans ((Ext.refl _).alloc _))) (Entry.all_one es) (by omega) (by omega) ?_; intro A2 c2 w2 ho2 hx2; simp only [Nat.zero_add, List.nil_append] at ho2)
        obtain ⟨g, hA2, hg1, hg2⟩ := ho2.form (by omega); subst hA2
        have p2 := After.got (w := w2) ((x1.trans hx2).got D2.out)
        go_wp2_with fail
        (refine wp_region_after_tail 14 _ (Ext.refl _) (by kernel_rfl) (by kernel_rfl) ?_; simp only [List.take_succ_cons, List.take_zero, List.drop_succ_cons, List.drop_zero]; (repeat (go_big_quiet_step ((go_at_call 23; exact after_call (sGapAt_c _ _ _ es s _ _ (HS.out.ext ((x1.trans hx2).trans (After.ext _)))))))); refine wpQuiet_nil ?_; intro _ hw'; obtain ⟨y, hw''⟩ := hw'; subst hw'')
        have xy := (x1.trans hx2).trans y.ext
        have ho3 := ho2.ext y.ext
        have hu2 := (World.ownsRow.cellAt ho3 (j * 3 + 2) (by omega)).trans (Entry.all_get2 es j (by rw [HL.out]; exact hj))
        have hf2 := World.ownsRow.frozenAt ho3 (j * 3 + 2)
        have hs := (World.ownsRow.stored ho3 (j * 3 + 2) (.int .i64 (misLev es s j))).1
        rw [Entry.set2 es j (by rw [HL.out]; exact hj)] at hs
        have HW := Lib.hid (show Own _ w1.heap.size 32 3 _ _ _ (Entry.all (levSet es j (misLev es s j))) from hs)
        clear hs ho2 ho3
        have xo := Ext.setCell (hx2.trans y.ext) (p := ⟨g, j * 3 + 2, none⟩) hg1 (.int .i64 (misLev es s j))
        unfold misLev at HW xo
        go_wp2_with (first | (go_at_call 33; refine (l01In_c _ _ _ _).mono ?_; rintro e w' ⟨rfl, rfl⟩) | (go_at_call 25; refine (sFirstGap_c _ _ _ _ s _ HW.out.holds).mono ?_; rintro e w9 ⟨rfl, hx9⟩))
        have hq : w9.cell? ⟨g, j * 3 + 2, none⟩ = some (.int .i64 ((Entry.at_ es j).f2 - gapF es s (j : Int))) := by
          have q1 := (World.ownsRow.cellAt (HW.out.ext hx9) (j * 3 + 2) (by omega)).trans (Entry.all_get2 _ j (by simp [levSet, HL.out]; exact hj))
          rw [levSet, Entry.at_set es j j _ (by rw [HL.out]; exact hj), if_pos rfl] at q1
          exact q1
        have p3 := After.got (w := w9) hq
        (refine wp_region_after w9 (Ext.refl _) (by kernel_rfl) (by kernel_rfl) ?_; (repeat (go_big_quiet_step (fail))); refine wpQuiet_nil ?_; intro _ hw'; obtain ⟨z, hw''⟩ := hw'; subst hw'')
        go_wp2
        go_ret3
        exact ⟨by rw [H.out]; rfl, ((x1.trans xo).trans hx9).trans z.ext⟩
      · have H := Lib.hid (misV_no' (es := es) (s := s) (k := j) hF (fun e => t2 e.2.2))
        go_enter Try.func26, Try.ntmps26
        go_wp2_with fail
        refine (sFirstGap_c _ _ _ es s _ h).mono ?_; rintro e w1 ⟨rfl, x1⟩
        go_wp2_with (at_builtin; refine wpList_cat w1 ((Ext.refl _).alloc _) rfl _ _ _ rfl 32 (.agg #[.int .i64 0, .int .i64 0, .int .i64 0]) 3 24 elInfo Try.underlying24 rfl (by omega) (some ⟨w1.heap.size, 0, none⟩) 0 0 [] rfl (Own.lit (cs := #[]) (heap_alloc_new _ _) (Nat.zero_le _) rfl) _ _ _ _ rfl (HS.out.ext (x1.trans ((Ext.refl _).alloc _))) (Entry.all_one es) (by omega) (by omega) ?_; intro A2 c2 w2 ho2 hx2; simp only [Nat.zero_add, List.nil_append] at ho2)
        obtain ⟨g, hA2, hg1, hg2⟩ := ho2.form (by omega); subst hA2
        have p2 := After.got (w := w2) ((x1.trans hx2).got D2.out)
        go_wp2_with fail
        (refine wp_region_after_tail 14 _ (Ext.refl _) (by kernel_rfl) (by kernel_rfl) ?_; simp only [List.take_succ_cons, List.take_zero, List.drop_succ_cons, List.drop_zero]; (repeat (go_big_quiet_step ((go_at_call 23; exact after_call (sGapAt_c _ _ _ es s _ _ (HS.out.ext ((x1.trans hx2).trans (After.ext _)))))))); refine wpQuiet_nil ?_; intro _ hw'; obtain ⟨y, hw''⟩ := hw'; subst hw'')
        have xy := (x1.trans hx2).trans y.ext
        have ho3 := ho2.ext y.ext
        have hu2 := (World.ownsRow.cellAt ho3 (j * 3 + 2) (by omega)).trans (Entry.all_get2 es j (by rw [HL.out]; exact hj))
        have hf2 := World.ownsRow.frozenAt ho3 (j * 3 + 2)
        have hs := (World.ownsRow.stored ho3 (j * 3 + 2) (.int .i64 (misLev es s j))).1
        rw [Entry.set2 es j (by rw [HL.out]; exact hj)] at hs
        have HW := Lib.hid (show Own _ w1.heap.size 32 3 _ _ _ (Entry.all (levSet es j (misLev es s j))) from hs)
        clear hs ho2 ho3
        have xo := Ext.setCell (hx2.trans y.ext) (p := ⟨g, j * 3 + 2, none⟩) hg1 (.int .i64 (misLev es s j))
        unfold misLev at HW xo
        go_wp2_with (first | (go_at_call 33; refine (l01In_c _ _ _ _).mono ?_; rintro e w' ⟨rfl, rfl⟩) | (go_at_call 25; refine (sFirstGap_c _ _ _ _ s _ HW.out.holds).mono ?_; rintro e w9 ⟨rfl, hx9⟩))
        go_ret3
        exact ⟨by rw [H.out]; rfl, (x1.trans xo).trans hx9⟩
    · have H := Lib.hid (misV_no' (es := es) (s := s) (k := j) hF (fun e => t e.2.1))
      go_enter Try.func26, Try.ntmps26
      go_wp2_with fail
      refine (sFirstGap_c _ _ _ es s _ h).mono ?_; rintro e w1 ⟨rfl, x1⟩
      go_wp2_with (at_builtin; refine wpList_cat w1 ((Ext.refl _).alloc _) rfl _ _ _ rfl 32 (.agg #[.int .i64 0, .int .i64 0, .int .i64 0]) 3 24 elInfo Try.underlying24 rfl (by omega) (some ⟨w1.heap.size, 0, none⟩) 0 0 [] rfl (Own.lit (cs := #[]) (heap_alloc_new _ _) (Nat.zero_le _) rfl) _ _ _ _ rfl (HS.out.ext (x1.trans ((Ext.refl _).alloc _))) (Entry.all_one es) (by omega) (by omega) ?_; intro A2 c2 w2 ho2 hx2; simp only [Nat.zero_add, List.nil_append] at ho2)
      obtain ⟨g, hA2, hg1, hg2⟩ := ho2.form (by omega); subst hA2
      have p2 := After.got (w := w2) ((x1.trans hx2).got D2.out)
      go_wp2_with fail
      (refine wp_region_after_tail 14 _ (Ext.refl _) (by kernel_rfl) (by kernel_rfl) ?_; simp only [List.take_succ_cons, List.take_zero, List.drop_succ_cons, List.drop_zero]; (repeat (go_big_quiet_step ((go_at_call 23; exact after_call (sGapAt_c _ _ _ es s _ _ (HS.out.ext ((x1.trans hx2).trans (After.ext _)))))))); refine wpQuiet_nil ?_; intro _ hw'; obtain ⟨y, hw''⟩ := hw'; subst hw'')
      have xy := (x1.trans hx2).trans y.ext
      have ho3 := ho2.ext y.ext
      have hu2 := (World.ownsRow.cellAt ho3 (j * 3 + 2) (by omega)).trans (Entry.all_get2 es j (by rw [HL.out]; exact hj))
      have hf2 := World.ownsRow.frozenAt ho3 (j * 3 + 2)
      have hs := (World.ownsRow.stored ho3 (j * 3 + 2) (.int .i64 (misLev es s j))).1
      rw [Entry.set2 es j (by rw [HL.out]; exact hj)] at hs
      have HW := Lib.hid (show Own _ w1.heap.size 32 3 _ _ _ (Entry.all (levSet es j (misLev es s j))) from hs)
      clear hs ho2 ho3
      have xo := Ext.setCell (hx2.trans y.ext) (p := ⟨g, j * 3 + 2, none⟩) hg1 (.int .i64 (misLev es s j))
      unfold misLev at HW xo
      go_wp2_with (first | (go_at_call 33; refine (l01In_c _ _ _ _).mono ?_; rintro e w' ⟨rfl, rfl⟩) | (go_at_call 25; refine (sFirstGap_c _ _ _ _ s _ HW.out.holds).mono ?_; rintro e w9 ⟨rfl, hx9⟩))
      go_ret3
      exact ⟨by rw [H.out]; rfl, (x1.trans xo)⟩
theorem mis_t (A : Option Addr) (n c : Nat) (es : List Entry) (s : Int) (w : World) (h : Holds w 3 A n c (Entry.all es)) (hn : n ≤ 1048576) :
    Calls Try.prog 16 #[.slice A n c, .int .i64 s] w (Ans (.tuple #[.int .i64 (misK es s), .int .i64 (misL es s), .bool (misOk es s)]) w) := mis_c A n c es s w h hn
theorem sMis_t (A : Option Addr) (n c : Nat) (es : List Entry) (s : Int) (w : World) (h : Holds w 3 A n c (Entry.all es)) (hn : n ≤ 1048576) :
    Calls Try.prog 26 #[.slice A n c, .int .i64 s] w (Ans (.tuple #[.int .i64 (misK es s), .int .i64 (misL es s), .bool (misOk es s)]) w) := sMis_c A n c es s w h hn
end Go.Proofs.Ytpbjbfnmnihpiaa
