/-
  The law FnExactBestHours is proved: for all arguments the program's BestHours returns what the reference's returns; the arguments read as they did, and what is answered lies in memory of its own. Conditions: none.
-/
import Derived.Test.YtbenbjbfmcdedaaRow
import Derived.Test.YtbenbjbfmcdedaaBest
namespace Go.Proofs.Ytbenbjbfmcdedaa
open Go.RowKit

set_option maxHeartbeats 3200000 in
theorem lawBestHours (a b : Int) (A : Option Addr) (n c : Nat) (zs : List Int) (m : Int) (w : World) (_ : -9223372036854775808 ≤ a ∧ a ≤ 9223372036854775807) (_ : -9223372036854775808 ≤ b ∧ b ≤ 9223372036854775807) (h : Holds w 1 A n c (ints zs) ∧ ∀ z ∈ zs, -9223372036854775808 ≤ z ∧ z ≤ 9223372036854775807) (_ : -9223372036854775808 ≤ m ∧ m ≤ 9223372036854775807) :
    Calls Try.prog 7 #[.agg #[.int .i64 a, .int .i64 b], .slice A n c, .int .i64 m] w (Ans (.bool true) w) := by
  obtain ⟨h, hbd⟩ := h
  have hmx : n ≤ 9223372036854775807 := by have := h.2.1; have := h.2.2.1; unfold maxLen at this; omega
  by_cases hbig : n ≤ 1048576
  · skip
    have hR : (bestF a b zs m).length ≤ 200000000 := by
      by_cases hok : costB a b zs m = true
      · have g := costB_yes hok; rw [bestF_len hok]; unfold hoursN; omega
      · rw [bestF_no hok]; exact Nat.zero_le _
    go_enter Try.func7, Try.ntmps7
    go_wp2_with fail
    have x0 : Ext w (w.alloc (.cells #[.int .i64 a, .int .i64 b] 23)) := by (repeat (first | exact Ext.refl _ | assumption | refine Ext.alloc ?_ _ | refine Ext.drew ?_ | refine Ext.drewN ?_ _ | refine Ext.setCell ?_ (by (try simp only [World.size_alloc, World.size_setCell, World.size_drew, World.heap_drewN]); omega) _ | refine Ext.step (by assumption) ?_))
    have b0 : (w.alloc (.cells #[.int .i64 a, .int .i64 b] 23)).cell? ⟨w.heap.size, 0, none⟩ = some (.int .i64 a) := by simp [go_sem]
    have b1 : (w.alloc (.cells #[.int .i64 a, .int .i64 b] 23)).cell? ⟨w.heap.size, 1, none⟩ = some (.int .i64 b) := by simp [go_sem]
    generalize w.alloc (.cells #[.int .i64 a, .int .i64 b] 23) = wE at *
    refine (toPump_a _ _ _).mono ?_; rintro e w1 ⟨rfl, x1⟩
    have X1 : Ext wE w1 := x1
    go_wp2_with fail
    refine (toIntS_c _ _ _ zs _ (h.ext (x0.trans X1)) hbig).mono ?_; rintro e w2 ⟨B2, d2, rfl, o2, x2⟩
    have X2 : Ext wE w2 := X1.trans x2
    go_wp2_with fail
    refine (sBest_c _ _ _ zs a b m _ o2.holds hbig).mono ?_; rintro e w3 ⟨B3, d3, rfl, o3, x3⟩
    have X3 : Ext wE w3 := X2.trans x3
    go_wp2_with fail
    refine (toIntS_c _ _ _ zs _ (h.ext (x0.trans X3)) hbig).mono ?_; rintro e w4 ⟨B4, d4, rfl, o4, x4⟩
    have X4 : Ext wE w4 := X3.trans x4
    have p4 := X4.got b0
    have q4 := X4.got b1
    go_wp2_with fail
    refine (toPump_a _ _ _).mono ?_; rintro e w5 ⟨rfl, x5⟩
    clear p4 q4
    have X5 : Ext wE w5 := X4.trans x5
    go_wp2_with fail
    refine (best_c _ _ _ zs a b m _ (o4.ext x5).holds).mono ?_; rintro e w6 ⟨B6, d6, rfl, o6, x6⟩
    have X6 : Ext wE w6 := X5.trans x6
    go_wp2_with fail
    refine (eqIntS_c _ _ _ _ _ _ (bestF a b zs m) (bestF a b zs m) _ (o6.holds) ((o3.ext (((x4).trans x5).trans x6)).holds)).mono ?_; rintro e w7 ⟨rfl, x7⟩
    have X7 : Ext wE w7 := X6.trans x7
    go_wp2_with fail
    refine (toIntS_c _ _ _ zs _ (h.ext (x0.trans X7)) hbig).mono ?_; rintro e w8 ⟨B8, d8, rfl, o8, x8⟩
    have X8 : Ext wE w8 := X7.trans x8
    go_wp2_with fail
    refine (eqIntS_c _ _ _ _ _ _ zs zs _ ((o4.ext ((((x5).trans x6).trans x7).trans x8)).holds) (o8.holds)).mono ?_; rintro e w9 ⟨rfl, x9⟩
    have X9 : Ext wE w9 := X8.trans x9
    have b_w0 := o3
    have b_g0 := o6
    have b_x0 := o4
    go_wp2_with fail
    refine (markIntS_c w3.heap.size _ _ _ _ (1) _ (o4.ext (((((x5).trans x6).trans x7).trans x8).trans x9)) (by omega) (by omega)).mono ?_; rintro e w10 ⟨rfl, o10, g10⟩
    have X10 : Ext wE w10 := Own.ext_grown X9 (o4.ext (((((x5).trans x6).trans x7).trans x8).trans x9)) (X3.len) g10
    have o10_w0 := ((o3.ext ((((((x4).trans x5).trans x6).trans x7).trans x8).trans x9))).kept g10 (Own.ne_lt b_w0 b_x0 (Ext.len (Ext.refl _)))
    have o10_g0 := ((o6.ext (((x7).trans x8).trans x9))).kept g10 (Own.ne_gt b_g0 b_x0 (Ext.len x5))
    go_wp2_with fail
    refine (eqIntS_c _ _ _ _ _ _ (bestF a b zs m) (bestF a b zs m) _ (o10_g0.holds) (o10_w0.holds)).mono ?_; rintro e w11 ⟨rfl, x11⟩
    have X11 : Ext wE w11 := X10.trans x11
    go_wp2_with fail
    refine (markIntS_c w5.heap.size _ _ _ _ (1) _ (o10_g0.ext x11) (by omega) (by omega)).mono ?_; rintro e w12 ⟨rfl, o12, g12⟩
    have X12 : Ext wE w12 := Own.ext_grown X11 (o10_g0.ext x11) (X5.len) g12
    have o12_w0 := ((o10_w0.ext x11)).kept g12 (Own.ne_lt b_w0 b_g0 (Ext.len ((x4).trans x5)))
    go_wp2_with fail
    refine (heldIntS_c _ _ _ 1 _ o12.holds (by omega) (by omega)).mono ?_; rintro e w13 ⟨rfl, rfl⟩
    have p12 := X12.got b0
    have q12 := X12.got b1
    go_wp2_with fail
    refine (toPump_a _ _ _).mono ?_; rintro e w13 ⟨rfl, x13⟩
    clear p12 q12
    have X13 : Ext wE w13 := X12.trans x13
    go_wp2_with fail
    refine (toIntS_c _ _ _ zs _ (h.ext (x0.trans X13)) hbig).mono ?_; rintro e w14 ⟨B14, d14, rfl, o14, x14⟩
    have X14 : Ext wE w14 := X13.trans x14
    go_wp2_with fail
    refine (best_c _ _ _ zs a b m _ o14.holds).mono ?_; rintro e w15 ⟨B15, d15, rfl, o15, x15⟩
    have X15 : Ext wE w15 := X14.trans x15
    go_wp2_with fail
    refine (eqIntS_c _ _ _ _ _ _ (bestF a b zs m) (bestF a b zs m) _ (o15.holds) ((o12_w0.ext (((x13).trans x14).trans x15)).holds)).mono ?_; rintro e w16 ⟨rfl, x16⟩
    have X16 : Ext wE w16 := X15.trans x16
    go_wp2_with fail
    refine (heldIntS_c _ _ _ 1 _ (o12.ext ((((x13).trans x14).trans x15).trans x16)).holds (by omega) (by omega)).mono ?_; rintro e w17 ⟨rfl, rfl⟩
    go_wp2
    go_ret
    exact ⟨rfl, x0.trans X16⟩
  · go_enter Try.func7, Try.ntmps7
    go_wp2
    go_ret
    exact ⟨rfl, by (repeat (first | exact Ext.refl _ | assumption | refine Ext.alloc ?_ _ | refine Ext.drew ?_ | refine Ext.drewN ?_ _ | refine Ext.setCell ?_ (by (try simp only [World.size_alloc, World.size_setCell, World.size_drew, World.heap_drewN]); omega) _ | refine Ext.step (by assumption) ?_))⟩

namespace fnExactBestHours
open Go.ChangeShapes Go.WideShapes Go.ChangeAt Go.RowKit Go.Joins
set_option linter.unusedVariables false
set_option maxRecDepth 100000 in
theorem lifted (os : Os) (started : os.Started) (H : Type) (enc : TypeId × Value → H) :
    ReturnsInHanded {} Try.checked os 7 .any (Rows.fnExactBestHoursSpec.pre6 enc Try.prog Try.f7 Rows.fnExactBestHoursRow.domain false) (Rows.fnExactBestHoursSpec.post enc Try.prog Try.f7 false true false false) := by
  refine returnsInHanded_of_change (C := Try.checked) own started (by kernel_rfl) Try.func7
    (ChangeSpec.witness6 (enc := enc) (C := Try.checked) false ⟨#[], #[.agg #[.int .i64 0, .int .i64 0], .slice none 0 0, .int .i64 0], []⟩ 8 (by kernel_rfl) (by kernel_rfl) (by kernel_rfl) (by kernel_rfl)) ?_
  intro W base args ds gs before hval0 hW hcnd _
  have hval : ∀ (j : Nat) t v, Try.f7.params[j]? = some t → args[j]? = some v → Value.okWide Try.prog W .any base t v := hval0
  have hW' := hW
  obtain ⟨p, q, hA0, hV, rfl, hfz, hnd⟩ := hW
  have hA : DataW.TrodAll enc Try.prog W 0 (fun _ => true) true Try.f7.params.toList args.toList ds p := hA0
  rw [Try.params7] at hA hval
  obtain ⟨v0, vs0, d0, ds0, p0, q0, hargs, rfl, rfl, h0, r0⟩ := trodAll_cons hA
  obtain ⟨v1, vs1, d1, ds1, p1, q1, rfl, rfl, rfl, h1, r1⟩ := trodAll_cons r0
  obtain ⟨v2, vs2, d2, ds2, p2, q2, rfl, rfl, rfl, h2, r2⟩ := trodAll_cons r1
  obtain ⟨rfl, rfl, rfl⟩ := trodAll_nil r2
  obtain rfl : args = #[v0, v1, v2] := by cases args; simp_all
  obtain ⟨rfl, rfl⟩ := trodVars_none hV
  have k0 := h0
  have lt0 : ∀ x ∈ p0, x.block < W.heap.size := by obtain ⟨m, hm⟩ := k0; exact DataW.trod_lt m _ _ _ hm
  obtain ⟨c0_0, c0_1, y0_0, y0_1, m0, rfl, _, _, hy0_0, hy0_1⟩ := open_agg2 Try.underlying23 (by kernel_rfl) (by kernel_rfl) (hval 0 23 v0 rfl rfl) h0
  obtain ⟨a0_0, e0_0, _, w0_0⟩ := DataW.trod_int Try.underlying3 hy0_0
  simp only [List.cons.injEq, and_true] at e0_0
  subst e0_0
  obtain ⟨a0_1, e0_1, _, w0_1⟩ := DataW.trod_int Try.underlying3 hy0_1
  simp only [List.cons.injEq, and_true] at e0_1
  subst e0_1
  have k1 := h1
  have lt1 : ∀ x ∈ p1, x.block < W.heap.size := by obtain ⟨m, hm⟩ := k1; exact DataW.trod_lt m _ _ _ hm
  obtain ⟨a1, n1, c1, rfl⟩ := okWide_slice Try.underlying32 (hval 1 32 v1 rfl rfl)
  obtain ⟨z1, s1⟩ := ints_in Try.underlying32 Try.underlying3 (by kernel_rfl) h1
  have k2 := h2
  have lt2 : ∀ x ∈ p2, x.block < W.heap.size := by obtain ⟨m, hm⟩ := k2; exact DataW.trod_lt m _ _ _ hm
  obtain ⟨a2, rfl, _, _, w2⟩ := open_int Try.underlying3 (hval 2 3 v2 rfl rfl) h2
  clear hA0 hval0
  refine (lawBestHours a0_0 a0_1 a1 n1 c1 z1 a2 W (bounds_i64 w0_0) (bounds_i64 w0_1) s1 (bounds_i64 w2)).mono fun e W' ⟨he, bel⟩ => ?_
  subst he
  exact ⟨_, rfl, _, _, _, [], _, [], hW', trodAll_mk1 (shut_bool Try.underlying4 _), (trodAll_cons_mk (Below.trod laidOut (by kernel_rfl) (of_decide_eq_true (by kernel_rfl)) k0 bel lt0) (trodAll_cons_mk (Below.trod laidOut (by kernel_rfl) (of_decide_eq_true (by kernel_rfl)) k1 bel lt1) (trodAll_cons_mk (Below.trod laidOut (by kernel_rfl) (of_decide_eq_true (by kernel_rfl)) k2 bel lt2) trodAll_mk0))), rfl, bel.frame _, fun h => by cases h⟩

theorem over : Rows.fnExactBestHoursRow.holds Try.pinned (OpenSpec.ofChange Rows.fnExactBestHoursSpec) :=
  OpenClaim.holds_of_wide 7 Try.f7 rfl rfl rfl rfl rfl rfl rfl ⟨rfl, rfl, rfl, rfl, rfl⟩ rfl rfl rfl rfl rfl (by kernel_rfl) Try.func7 (by kernel_rfl)
    (of_decide_eq_true (by kernel_rfl)) (by unfold Func.isWrapper; first | (rw [if_pos (by decide +kernel)]; kernel_rfl) | (rw [if_neg (by decide +kernel)]; exact ⟨rfl, rfl⟩))
    (fun os started H enc _ => lifted os started H enc)
theorem proved : Rows.FnExactBestHoursSaid := over
end fnExactBestHours

end Go.Proofs.Ytbenbjbfmcdedaa
