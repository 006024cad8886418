/-
  The contract of PayBack, of the program and of the reference.
-/
import Derived.Test.YtcjlipcoefcmgaaTradeA
import Derived.Test.YtcjlipcoefcmgaaSetDebt
import Derived.Test.YtcjlipcoefcmgaaTail
namespace Go.Proofs.Ytcjlipcoefcmgaa
open Go.RowKit

theorem owns_take {w : World} {base : Nat} {e : TypeId} {k g n c i : Nat} {xs : List Value} (h : Own w base e k (some ⟨g, 0, none⟩) n c xs) (hi : i ≤ n) : Own w base e k (some ⟨g, 0, none⟩) i c (xs.take (i * k)) := by
  have hl := h.len
  have him : i * k ≤ n * k := Nat.mul_le_mul_right k hi
  refine ⟨by simp; omega, .inr ?_⟩
  rcases h.2 with ⟨h0, _⟩ | ⟨g', cap, cur, hv, hb, hg, h1, h2, h3, h4⟩
  · cases h0
  · injection hv with hv1 hv2 hv3
    injection hv1 with hv1
    injection hv1 with hv1
    subst hv1
    subst hv3
    exact ⟨g, c, cur, rfl, hb, hg, by omega, h2, h3, by rw [← h4, List.take_take, Nat.min_eq_left him]⟩
/-- debt k without the liters that are paid back -/
noncomputable def payL (es : List Debt) (k : Nat) (l : Int) : List Debt := if (Debt.at_ es k).f2 - l = 0 then es.take k ++ es.drop (k + 1) else es.set k ⟨(Debt.at_ es k).f0, (Debt.at_ es k).f1, (Debt.at_ es k).f2 - l⟩
def payOk (es : List Debt) (k l : Int) : Prop := debB es = true ∧ inB k 0 ((es.length : Int) - 1) = true ∧ inB l 1 (Debt.at_ es k.toNat).f2 = true
open Classical in
/-- what PayBack answers -/
noncomputable def payF (es : List Debt) (k l : Int) : List Debt × Bool := if payOk es k l then (payL es k.toNat l, true) else (es, false)
theorem payF_no {es : List Debt} {k l : Int} (h : ¬ payOk es k l) : payF es k l = (es, false) := if_neg h
theorem payF_yes {es : List Debt} {k l : Int} (h : payOk es k l) : payF es k l = (payL es k.toNat l, true) := if_pos h
theorem payL_len (es : List Debt) (k : Nat) (l : Int) : (payL es k l).length ≤ es.length := by
  unfold payL
  split
  · simp; omega
  · simp
theorem payF_len (es : List Debt) (k l : Int) : (payF es k l).1.length ≤ es.length := by
  unfold payF
  split
  · exact payL_len _ _ _
  · exact Nat.le_refl _
set_option maxHeartbeats 1600000 in
theorem pay_c (A : Option Addr) (n c : Nat) (es : List Debt) (k l : Int) (w : World) (h : Holds w 3 A n c (Debt.all es)) (hn : n ≤ 1048576) :
    Calls Try.prog 20 #[.slice A n c, .int .i64 k, .int .i64 l] w (FreshT 41 3 (payF es k l).1.length (Debt.all (payF es k l).1) [.bool (payF es k l).2] w) := by
  have HL := Lib.hid (Debt.len h)
  by_cases h1 : debB es = true
  · by_cases h2 : inB k 0 ((n : Int) - 1) = true
    · obtain ⟨k0, k1⟩ := inB_yes h2
      obtain ⟨j, rfl⟩ := Int.eq_ofNat_of_zero_le k0
      have hj : j < n := by omega
      have HC := Lib.hid (show (n : Int) ≤ (c : Int) by have := h.2.1; omega)
      obtain ⟨b, off, hA, hb, hc⟩ := Debt.where_ h (by omega)
      subst hA
      obtain ⟨d0, d1, d2⟩ := hc j hj
      have D2 := Lib.hid d2
      have JK := Lib.hid (show ((j : Int)).toNat = j by omega)
      have kk : (j : Int) < (n : Int) := by omega
      clear hc d0 d1 d2
      by_cases h3 : inB l 1 (Debt.at_ es j).f2 = true
      · have P := Lib.hid (show payOk es (j : Int) l from ⟨h1, by rw [HL.out]; exact h2, by rw [JK.out]; exact h3⟩)
        obtain ⟨l0, l1⟩ := inB_yes h3
        obtain ⟨q0, q1⟩ := deb_bd h1 (show j < es.length by rw [HL.out]; exact hj)
        by_cases z : (Debt.at_ es j).f2 - l = 0
        · have H := Lib.hid (show payF es (j : Int) l = (es.take j ++ es.drop (j + 1), true) from by rw [payF_yes P.out, JK.out, payL, if_pos z])
          have z' : ((Debt.at_ es j).f2 - l == 0) = true := by simpa using z
          have Z := Lib.hid z
          clear z
          go_enter Try.func20, Try.ntmps20
          go_wp2_with (first | (at_builtin; refine wpList_cat w (Ext.refl _) rfl _ _ _ rfl 41 (.agg #[.int .i64 0, .int .i64 0, .int .i64 0]) 3 24 elInfo Try.underlying25 rfl (by omega) none 0 0 [] rfl (Own.nil_ _ _ _ _) _ _ _ _ rfl h (Debt.all_one es) (by omega) (by omega) ?_; intro A2 c2 w2 ho2 hx2; simp only [Nat.zero_add, List.nil_append] at ho2; skip) | (go_at_call 13; refine (debtsOk_c _ _ _ es _ (h.ext hx2)).mono ?_; rintro e w3 ⟨rfl, hx3⟩; have ho3 := ho2.ext hx3; have e2 := (hx2.trans hx3).got D2.out; obtain ⟨g, hA2, hg1, hg2⟩ := ho3.form (by omega); subst hA2; have HO := Lib.hid ho3; have hu2 := (World.ownsRow.cellAt HO.out (j * 3 + 2) (by omega)).trans (Debt.all_get2 es j (by rw [HL.out]; exact hj)); have hf2 := World.ownsRow.frozenAt HO.out (j * 3 + 2); have hne : g ≠ b := (by intro e; subst e; omega); have hne' := Ne.symm hne; clear ho3 ho2) | (go_at_call 32; refine (within_c _ _ _ _).mono ?_; rintro e w' ⟨rfl, rfl⟩))
          have hcap := HO.out.cap
          have HM := Lib.hid hcap.2
          obtain ⟨hcap, _⟩ := hcap
          have kc1 : (j : Int) ≤ (c2 : Int) := by omega
          have kc2 : (j : Int) + 1 ≤ (n : Int) := by omega
          have kc3 : (0 : Int) ≤ (j : Int) := by omega
          have kc4 : (0 : Int) ≤ (j : Int) + 1 := by omega
          have kc5 : (n : Int) ≤ (c2 : Int) := by omega
          have kc6 : ((j : Int) + 1).toNat = j + 1 := by omega
          have kc7 := HC.out
          (refine wp_region_after_tail 7 _ (Ext.refl _) (by kernel_rfl) (by kernel_rfl) ?_; simp only [List.take_succ_cons, List.take_zero, List.drop_succ_cons, List.drop_zero]; (repeat (go_big_quiet_step (fail))); refine wpQuiet_nil ?_; intro _ hw'; obtain ⟨y, hw''⟩ := hw'; subst hw'')
          have hs := (World.ownsRow.stored HO.out (j * 3 + 2) (.int .i64 ((Debt.at_ es j).f2 - l))).1
          rw [Debt.set2 es j (by rw [HL.out]; exact hj)] at hs
          have HSY := Lib.hid (Own.ext (show Own _ w.heap.size 41 3 _ _ _ _ from hs) y.ext)
          have HT := Lib.hid (show Own y.now w.heap.size 41 3 (some ⟨g, 0, none⟩) j c2 (Debt.all (es.take j)) from by
            have q := owns_take HSY.out (i := j) (by omega)
            rw [Debt.all_take, List.take_set_of_le (Nat.le_refl j)] at q
            exact q)
          have HD := Lib.hid (show Debt.all (es.drop (j + 1)) = (Debt.all (es.set j ⟨(Debt.at_ es j).f0, (Debt.at_ es j).f1, (Debt.at_ es j).f2 - l⟩)).drop ((j + 1) * 3) from by rw [Debt.all_drop, List.drop_set_of_lt (by omega)])
          have HSRC := Lib.hid (show Holds y.now 3 (some ⟨g, 0, none⟩) n c2 (Debt.all (es.set j ⟨(Debt.at_ es j).f0, (Debt.at_ es j).f1, (Debt.at_ es j).f2 - l⟩)) from (Own.holds HSY.out))
          clear hs
          obtain ⟨i0, hi, hz0, hz1, hz2⟩ := info_parts elInfo
          have LEN := Lib.hid (show (es.take j ++ es.drop (j + 1)).length = j + (n - (j + 1)) from by rw [List.length_append, List.length_take, List.length_drop, HL.out]; omega)
          at_builtin
          refine wpList_append_fits_any _ rfl _ _ _ rfl w.heap.size 41 i0 3 Try.underlying25 hi hz1 g j c2 (Debt.all (es.take j)) rfl HT.out _ (n - (j + 1)) _ (Debt.all (es.drop (j + 1))) rfl (by rw [Debt.all_len, List.length_drop, HL.out]) (by intro hh; split at hh <;> cases hh) (by rw [HD.out]; exact Holds.cut HSRC.out (by omega) (by intro hh; first | rfl | simp [hh])) (Debt.all_one _) (by omega) ?_
          intro w5 ho5 hg5
          have HO5 := Lib.hid ho5
          have XX := ((((hx2.trans hx3).setCell (p := ⟨g, j * 3 + 2, none⟩) hg1 (.int .i64 ((Debt.at_ es j).f2 - l))).trans y.ext).grown hg5 (fun q hq => by cases hq; exact hg1))
          clear ho5
          go_wp2
          all_goals
            go_ret2
            first
            | exact ⟨some ⟨g, 0, none⟩, c2, by rw [H.out]; simp only [LEN.out]; rfl, by rw [H.out]; simp only [LEN.out, Debt.all_append]; exact HO5.out, XX⟩
            | exact ⟨some ⟨g, 0, none⟩, j + 1, by rw [H.out]; simp only [LEN.out]; rfl, by rw [H.out]; simp only [LEN.out, Debt.all_append]; exact HO5.out, XX⟩
            | exact ⟨some ⟨g, 0, none⟩, j + 1, by rw [H.out]; simp only [LEN.out]; rfl, by rw [H.out]; simp only [LEN.out, Debt.all_append]; have q := HO5.out; rw [(by assumption : c2 = j + 1)] at q; exact q, XX⟩
        · have H := Lib.hid (show payF es (j : Int) l = (es.set j ⟨(Debt.at_ es j).f0, (Debt.at_ es j).f1, (Debt.at_ es j).f2 - l⟩, true) from by rw [payF_yes P.out, JK.out, payL, if_neg z])
          have z' : ((Debt.at_ es j).f2 - l == 0) = false := by simpa using z
          go_enter Try.func20, Try.ntmps20
          go_wp2_with (first | (at_builtin; refine wpList_cat w (Ext.refl _) rfl _ _ _ rfl 41 (.agg #[.int .i64 0, .int .i64 0, .int .i64 0]) 3 24 elInfo Try.underlying25 rfl (by omega) none 0 0 [] rfl (Own.nil_ _ _ _ _) _ _ _ _ rfl h (Debt.all_one es) (by omega) (by omega) ?_; intro A2 c2 w2 ho2 hx2; simp only [Nat.zero_add, List.nil_append] at ho2; skip) | (go_at_call 13; refine (debtsOk_c _ _ _ es _ (h.ext hx2)).mono ?_; rintro e w3 ⟨rfl, hx3⟩; have ho3 := ho2.ext hx3; have e2 := (hx2.trans hx3).got D2.out; obtain ⟨g, hA2, hg1, hg2⟩ := ho3.form (by omega); subst hA2; have HO := Lib.hid ho3; have hu2 := (World.ownsRow.cellAt HO.out (j * 3 + 2) (by omega)).trans (Debt.all_get2 es j (by rw [HL.out]; exact hj)); have hf2 := World.ownsRow.frozenAt HO.out (j * 3 + 2); have hne : g ≠ b := (by intro e; subst e; omega); have hne' := Ne.symm hne; clear ho3 ho2) | (go_at_call 32; refine (within_c _ _ _ _).mono ?_; rintro e w' ⟨rfl, rfl⟩))
          go_ret2
          have hs := (World.ownsRow.stored HO.out (j * 3 + 2) (.int .i64 ((Debt.at_ es j).f2 - l))).1
          rw [Debt.set2 es j (by rw [HL.out]; exact hj)] at hs
          refine ⟨some ⟨g, 0, none⟩, c2, ?_, ?_, ?_⟩
          · rw [H.out]; simp only [List.length_set, HL.out]; rfl
          · rw [H.out]; simp only [List.length_set, HL.out]; exact hs
          · exact (hx2.trans hx3).setCell hg1 _
      · have H := Lib.hid (show payF es (j : Int) l = (es, false) from payF_no (fun e => h3 (by have := e.2.2; rw [JK.out] at this; exact this)))
        go_enter Try.func20, Try.ntmps20
        go_wp2_with (first | (at_builtin; refine wpList_cat w (Ext.refl _) rfl _ _ _ rfl 41 (.agg #[.int .i64 0, .int .i64 0, .int .i64 0]) 3 24 elInfo Try.underlying25 rfl (by omega) none 0 0 [] rfl (Own.nil_ _ _ _ _) _ _ _ _ rfl h (Debt.all_one es) (by omega) (by omega) ?_; intro A2 c2 w2 ho2 hx2; simp only [Nat.zero_add, List.nil_append] at ho2; skip) | (go_at_call 13; refine (debtsOk_c _ _ _ es _ (h.ext hx2)).mono ?_; rintro e w3 ⟨rfl, hx3⟩; have ho3 := ho2.ext hx3; have e2 := (hx2.trans hx3).got D2.out) | (go_at_call 32; refine (within_c _ _ _ _).mono ?_; rintro e w' ⟨rfl, rfl⟩))
        go_ret2
        refine ⟨A2, c2, ?_, ?_, hx2.trans hx3⟩
        · rw [H.out, HL.out]; rfl
        · rw [H.out, HL.out]; exact ho3
    · have H := Lib.hid (show payF es k l = (es, false) from payF_no (fun e => h2 (by rw [← HL.out]; exact e.2.1)))
      go_enter Try.func20, Try.ntmps20
      go_wp2_with (first | (at_builtin; refine wpList_cat w (Ext.refl _) rfl _ _ _ rfl 41 (.agg #[.int .i64 0, .int .i64 0, .int .i64 0]) 3 24 elInfo Try.underlying25 rfl (by omega) none 0 0 [] rfl (Own.nil_ _ _ _ _) _ _ _ _ rfl h (Debt.all_one es) (by omega) (by omega) ?_; intro A2 c2 w2 ho2 hx2; simp only [Nat.zero_add, List.nil_append] at ho2; skip) | (go_at_call 13; refine (debtsOk_c _ _ _ es _ (h.ext hx2)).mono ?_; rintro e w3 ⟨rfl, hx3⟩; have ho3 := ho2.ext hx3; skip) | (go_at_call 32; refine (within_c _ _ _ _).mono ?_; rintro e w' ⟨rfl, rfl⟩))
      go_ret2
      refine ⟨A2, c2, ?_, ?_, hx2.trans hx3⟩
      · rw [H.out, HL.out]; rfl
      · rw [H.out, HL.out]; exact ho3
  · have H := Lib.hid (show payF es k l = (es, false) from payF_no (fun e => h1 e.1))
    go_enter Try.func20, Try.ntmps20
    go_wp2_with (first | (at_builtin; refine wpList_cat w (Ext.refl _) rfl _ _ _ rfl 41 (.agg #[.int .i64 0, .int .i64 0, .int .i64 0]) 3 24 elInfo Try.underlying25 rfl (by omega) none 0 0 [] rfl (Own.nil_ _ _ _ _) _ _ _ _ rfl h (Debt.all_one es) (by omega) (by omega) ?_; intro A2 c2 w2 ho2 hx2; simp only [Nat.zero_add, List.nil_append] at ho2; skip) | (go_at_call 13; refine (debtsOk_c _ _ _ es _ (h.ext hx2)).mono ?_; rintro e w3 ⟨rfl, hx3⟩; have ho3 := ho2.ext hx3; skip) | (go_at_call 32; refine (within_c _ _ _ _).mono ?_; rintro e w' ⟨rfl, rfl⟩))
    go_ret2
    refine ⟨A2, c2, ?_, ?_, hx2.trans hx3⟩
    · rw [H.out, HL.out]; rfl
    · rw [H.out, HL.out]; exact ho3
set_option maxHeartbeats 1600000 in
theorem sPay_c (A : Option Addr) (n c : Nat) (es : List Debt) (k l : Int) (w : World) (h : Holds w 3 A n c (Debt.all es)) (hn : n ≤ 1048576) :
    Calls Try.prog 19 #[.slice A n c, .int .i64 k, .int .i64 l] w (FreshT 41 3 (payF es k l).1.length (Debt.all (payF es k l).1) [.bool (payF es k l).2] w) := by
  have HL := Lib.hid (Debt.len h)
  by_cases h1 : debB es = true
  · by_cases h2 : inB k 0 ((n : Int) - 1) = true
    · obtain ⟨k0, k1⟩ := inB_yes h2
      obtain ⟨j, rfl⟩ := Int.eq_ofNat_of_zero_le k0
      have hj : j < n := by omega
      have HC := Lib.hid (show (n : Int) ≤ (c : Int) by have := h.2.1; omega)
      obtain ⟨b, off, hA, hb, hc⟩ := Debt.where_ h (by omega)
      subst hA
      obtain ⟨d0, d1, d2⟩ := hc j hj
      have D2 := Lib.hid d2
      have JK := Lib.hid (show ((j : Int)).toNat = j by omega)
      have kk : (j : Int) < (n : Int) := by omega
      clear hc d0 d1 d2
      by_cases h3 : inB l 1 (Debt.at_ es j).f2 = true
      · have P := Lib.hid (show payOk es (j : Int) l from ⟨h1, by rw [HL.out]; exact h2, by rw [JK.out]; exact h3⟩)
        obtain ⟨l0, l1⟩ := inB_yes h3
        obtain ⟨q0, q1⟩ := deb_bd h1 (show j < es.length by rw [HL.out]; exact hj)
        by_cases z : (Debt.at_ es j).f2 - l = 0
        · have H := Lib.hid (show payF es (j : Int) l = (es.take j ++ es.drop (j + 1), true) from by rw [payF_yes P.out, JK.out, payL, if_pos z])
          have z' : ((Debt.at_ es j).f2 - l == 0) = true := by simpa using z
          have Z := Lib.hid z
          clear z
          go_enter Try.func19, Try.ntmps19
          go_wp2_with (first | (at_builtin; refine wpList_cat w ((Ext.refl _).alloc _) rfl _ _ _ rfl 41 (.agg #[.int .i64 0, .int .i64 0, .int .i64 0]) 3 24 elInfo Try.underlying25 rfl (by omega) (some ⟨w.heap.size, 0, none⟩) 0 0 [] rfl (Own.lit (cs := #[]) (heap_alloc_new _ _) (Nat.zero_le _) rfl) _ _ _ _ rfl (h.ext ((Ext.refl _).alloc _)) (Debt.all_one es) (by omega) (by omega) ?_; intro A2 c2 w2 ho2 hx2; simp only [Nat.zero_add, List.nil_append] at ho2; skip) | (go_at_call 11; refine (sDebtsOk_c _ _ _ es _ (h.ext hx2)).mono ?_; rintro e w3 ⟨rfl, hx3⟩; have ho3 := ho2.ext hx3; have e2 := (hx2.trans hx3).got D2.out; obtain ⟨g, hA2, hg1, hg2⟩ := ho3.form (by omega); subst hA2; have HO := Lib.hid ho3; have hu2 := (World.ownsRow.cellAt HO.out (j * 3 + 2) (by omega)).trans (Debt.all_get2 es j (by rw [HL.out]; exact hj)); have hf2 := World.ownsRow.frozenAt HO.out (j * 3 + 2); have hne : g ≠ b := (by intro e; subst e; omega); have hne' := Ne.symm hne; clear ho3 ho2) | (go_at_call 30; refine (l01In_c _ _ _ _).mono ?_; rintro e w' ⟨rfl, rfl⟩))
          have hcap := HO.out.cap
          have HM := Lib.hid hcap.2
          obtain ⟨hcap, _⟩ := hcap
          have kc1 : (j : Int) ≤ (c2 : Int) := by omega
          have kc2 : (j : Int) + 1 ≤ (n : Int) := by omega
          have kc3 : (0 : Int) ≤ (j : Int) := by omega
          have kc4 : (0 : Int) ≤ (j : Int) + 1 := by omega
          have kc5 : (n : Int) ≤ (c2 : Int) := by omega
          have kc6 : ((j : Int) + 1).toNat = j + 1 := by omega
          have kc7 := HC.out
          (refine wp_region_after_tail 7 _ (Ext.refl _) (by kernel_rfl) (by kernel_rfl) ?_; simp only [List.take_succ_cons, List.take_zero, List.drop_succ_cons, List.drop_zero]; (repeat (go_big_quiet_step (fail))); refine wpQuiet_nil ?_; intro _ hw'; obtain ⟨y, hw''⟩ := hw'; subst hw'')
          have hs := (World.ownsRow.stored HO.out (j * 3 + 2) (.int .i64 ((Debt.at_ es j).f2 - l))).1
          rw [Debt.set2 es j (by rw [HL.out]; exact hj)] at hs
          have HSY := Lib.hid (Own.ext (show Own _ w.heap.size 41 3 _ _ _ _ from hs) y.ext)
          have HT := Lib.hid (show Own y.now w.heap.size 41 3 (some ⟨g, 0, none⟩) j c2 (Debt.all (es.take j)) from by
            have q := owns_take HSY.out (i := j) (by omega)
            rw [Debt.all_take, List.take_set_of_le (Nat.le_refl j)] at q
            exact q)
          have HD := Lib.hid (show Debt.all (es.drop (j + 1)) = (Debt.all es).drop ((j + 1) * 3) from by rw [Debt.all_drop])
          have HSRC := Lib.hid (h.ext (((hx2.trans hx3).setCell hg1 _).trans y.ext))
          clear hs
          obtain ⟨i0, hi, hz0, hz1, hz2⟩ := info_parts elInfo
          have LEN := Lib.hid (show (es.take j ++ es.drop (j + 1)).length = j + (n - (j + 1)) from by rw [List.length_append, List.length_take, List.length_drop, HL.out]; omega)
          at_builtin
          refine wpList_append_fits_any _ rfl _ _ _ rfl w.heap.size 41 i0 3 Try.underlying25 hi hz1 g j c2 (Debt.all (es.take j)) rfl HT.out _ (n - (j + 1)) _ (Debt.all (es.drop (j + 1))) rfl (by rw [Debt.all_len, List.length_drop, HL.out]) (by intro hh; split at hh <;> cases hh) (by rw [HD.out]; exact Holds.cut HSRC.out (by omega) (by intro hh; first | rfl | simp [hh])) (Debt.all_one _) (by omega) ?_
          intro w5 ho5 hg5
          have HO5 := Lib.hid ho5
          have XX := ((((hx2.trans hx3).setCell (p := ⟨g, j * 3 + 2, none⟩) hg1 (.int .i64 ((Debt.at_ es j).f2 - l))).trans y.ext).grown hg5 (fun q hq => by cases hq; exact hg1))
          clear ho5
          go_wp2
          all_goals
            go_ret2
            first
            | exact ⟨some ⟨g, 0, none⟩, c2, by rw [H.out]; simp only [LEN.out]; rfl, by rw [H.out]; simp only [LEN.out, Debt.all_append]; exact HO5.out, XX⟩
            | exact ⟨some ⟨g, 0, none⟩, j + 1, by rw [H.out]; simp only [LEN.out]; rfl, by rw [H.out]; simp only [LEN.out, Debt.all_append]; exact HO5.out, XX⟩
            | exact ⟨some ⟨g, 0, none⟩, j + 1, by rw [H.out]; simp only [LEN.out]; rfl, by rw [H.out]; simp only [LEN.out, Debt.all_append]; have q := HO5.out; rw [(by assumption : c2 = j + 1)] at q; exact q, XX⟩
        · have H := Lib.hid (show payF es (j : Int) l = (es.set j ⟨(Debt.at_ es j).f0, (Debt.at_ es j).f1, (Debt.at_ es j).f2 - l⟩, true) from by rw [payF_yes P.out, JK.out, payL, if_neg z])
          have z' : ((Debt.at_ es j).f2 - l == 0) = false := by simpa using z
          go_enter Try.func19, Try.ntmps19
          go_wp2_with (first | (at_builtin; refine wpList_cat w ((Ext.refl _).alloc _) rfl _ _ _ rfl 41 (.agg #[.int .i64 0, .int .i64 0, .int .i64 0]) 3 24 elInfo Try.underlying25 rfl (by omega) (some ⟨w.heap.size, 0, none⟩) 0 0 [] rfl (Own.lit (cs := #[]) (heap_alloc_new _ _) (Nat.zero_le _) rfl) _ _ _ _ rfl (h.ext ((Ext.refl _).alloc _)) (Debt.all_one es) (by omega) (by omega) ?_; intro A2 c2 w2 ho2 hx2; simp only [Nat.zero_add, List.nil_append] at ho2; skip) | (go_at_call 11; refine (sDebtsOk_c _ _ _ es _ (h.ext hx2)).mono ?_; rintro e w3 ⟨rfl, hx3⟩; have ho3 := ho2.ext hx3; have e2 := (hx2.trans hx3).got D2.out; obtain ⟨g, hA2, hg1, hg2⟩ := ho3.form (by omega); subst hA2; have HO := Lib.hid ho3; have hu2 := (World.ownsRow.cellAt HO.out (j * 3 + 2) (by omega)).trans (Debt.all_get2 es j (by rw [HL.out]; exact hj)); have hf2 := World.ownsRow.frozenAt HO.out (j * 3 + 2); have hne : g ≠ b := (by intro e; subst e; omega); have hne' := Ne.symm hne; clear ho3 ho2) | (go_at_call 30; refine (l01In_c _ _ _ _).mono ?_; rintro e w' ⟨rfl, rfl⟩))
          go_ret2
          have hs := (World.ownsRow.stored HO.out (j * 3 + 2) (.int .i64 ((Debt.at_ es j).f2 - l))).1
          rw [Debt.set2 es j (by rw [HL.out]; exact hj)] at hs
          refine ⟨some ⟨g, 0, none⟩, c2, ?_, ?_, ?_⟩
          · rw [H.out]; simp only [List.length_set, HL.out]; rfl
          · rw [H.out]; simp only [List.length_set, HL.out]; exact hs
          · exact (hx2.trans hx3).setCell hg1 _
      · have H := Lib.hid (show payF es (j : Int) l = (es, false) from payF_no (fun e => h3 (by have := e.2.2; rw [JK.out] at this; exact this)))
        go_enter Try.func19, Try.ntmps19
        go_wp2_with (first | (at_builtin; refine wpList_cat w ((Ext.refl _).alloc _) rfl _ _ _ rfl 41 (.agg #[.int .i64 0, .int .i64 0, .int .i64 0]) 3 24 elInfo Try.underlying25 rfl (by omega) (some ⟨w.heap.size, 0, none⟩) 0 0 [] rfl (Own.lit (cs := #[]) (heap_alloc_new _ _) (Nat.zero_le _) rfl) _ _ _ _ rfl (h.ext ((Ext.refl _).alloc _)) (Debt.all_one es) (by omega) (by omega) ?_; intro A2 c2 w2 ho2 hx2; simp only [Nat.zero_add, List.nil_append] at ho2; skip) | (go_at_call 11; refine (sDebtsOk_c _ _ _ es _ (h.ext hx2)).mono ?_; rintro e w3 ⟨rfl, hx3⟩; have ho3 := ho2.ext hx3; have e2 := (hx2.trans hx3).got D2.out) | (go_at_call 30; refine (l01In_c _ _ _ _).mono ?_; rintro e w' ⟨rfl, rfl⟩))
        go_ret2
        refine ⟨A2, c2, ?_, ?_, hx2.trans hx3⟩
        · rw [H.out, HL.out]; rfl
        · rw [H.out, HL.out]; exact ho3
    · have H := Lib.hid (show payF es k l = (es, false) from payF_no (fun e => h2 (by rw [← HL.out]; exact e.2.1)))
      go_enter Try.func19, Try.ntmps19
      go_wp2_with (first | (at_builtin; refine wpList_cat w ((Ext.refl _).alloc _) rfl _ _ _ rfl 41 (.agg #[.int .i64 0, .int .i64 0, .int .i64 0]) 3 24 elInfo Try.underlying25 rfl (by omega) (some ⟨w.heap.size, 0, none⟩) 0 0 [] rfl (Own.lit (cs := #[]) (heap_alloc_new _ _) (Nat.zero_le _) rfl) _ _ _ _ rfl (h.ext ((Ext.refl _).alloc _)) (Debt.all_one es) (by omega) (by omega) ?_; intro A2 c2 w2 ho2 hx2; simp only [Nat.zero_add, List.nil_append] at ho2; skip) | (go_at_call 11; refine (sDebtsOk_c _ _ _ es _ (h.ext hx2)).mono ?_; rintro e w3 ⟨rfl, hx3⟩; have ho3 := ho2.ext hx3; skip) | (go_at_call 30; refine (l01In_c _ _ _ _).mono ?_; rintro e w' ⟨rfl, rfl⟩))
      go_ret2
      refine ⟨A2, c2, ?_, ?_, hx2.trans hx3⟩
      · rw [H.out, HL.out]; rfl
      · rw [H.out, HL.out]; exact ho3
  · have H := Lib.hid (show payF es k l = (es, false) from payF_no (fun e => h1 e.1))
    go_enter Try.func19, Try.ntmps19
    go_wp2_with (first | (at_builtin; refine wpList_cat w ((Ext.refl _).alloc _) rfl _ _ _ rfl 41 (.agg #[.int .i64 0, .int .i64 0, .int .i64 0]) 3 24 elInfo Try.underlying25 rfl (by omega) (some ⟨w.heap.size, 0, none⟩) 0 0 [] rfl (Own.lit (cs := #[]) (heap_alloc_new _ _) (Nat.zero_le _) rfl) _ _ _ _ rfl (h.ext ((Ext.refl _).alloc _)) (Debt.all_one es) (by omega) (by omega) ?_; intro A2 c2 w2 ho2 hx2; simp only [Nat.zero_add, List.nil_append] at ho2; skip) | (go_at_call 11; refine (sDebtsOk_c _ _ _ es _ (h.ext hx2)).mono ?_; rintro e w3 ⟨rfl, hx3⟩; have ho3 := ho2.ext hx3; skip) | (go_at_call 30; refine (l01In_c _ _ _ _).mono ?_; rintro e w' ⟨rfl, rfl⟩))
    go_ret2
    refine ⟨A2, c2, ?_, ?_, hx2.trans hx3⟩
    · rw [H.out, HL.out]; rfl
    · rw [H.out, HL.out]; exact ho3
end Go.Proofs.Ytcjlipcoefcmgaa
