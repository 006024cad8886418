/-
  The law FnExactPumpsNeeded is proved: for all arguments the program's PumpsNeeded returns what the reference's returns; the arguments read as they did, and what is answered lies in memory of its own. Conditions: none.
-/
import Derived.Test.YtbenbjbfmcdedaaInPump
import Derived.Test.YtbenbjbfmcdedaaNeedI
namespace Go.Proofs.Ytbenbjbfmcdedaa
open Go.RowKit

theorem lawPumpsNeeded (A : Option Addr) (n c : Nat) (es : List Pump) (m : Int) (k : Int) (w : World) (h : Holds w 2 A n c (Pump.all es) ∧ ∀ e ∈ es, -9223372036854775808 ≤ e.f0 ∧ e.f0 ≤ 9223372036854775807 ∧ -9223372036854775808 ≤ e.f1 ∧ e.f1 ≤ 9223372036854775807) (him : -9223372036854775808 ≤ m ∧ m ≤ 9223372036854775807) (hik : -9223372036854775808 ≤ k ∧ k ≤ 9223372036854775807) :
    Calls Try.prog 8 #[.slice A n c, .int .i64 m, .int .i64 k] w (Ans (.bool true) w) := by
  obtain ⟨h, hb⟩ := h
  have hmx : n ≤ 9223372036854775807 := by have := h.2.1; have := h.2.2.1; unfold maxLen at this; omega
  by_cases hbig : n ≤ 1048576
  · skip
    have hR : (neededF es m k).length ≤ 200000000 := by have := neededF_len es m k; omega
    go_enter Try.func8, Try.ntmps8
    go_wp2_with fail
    refine (sz_c _ _ _ _ hmx _ rfl).mono ?_; rintro e w0 ⟨rfl, rfl⟩; rw [if_pos hbig]
    have X0 : Ext w w := Ext.refl _
    go_wp2_with fail
    refine (toS_c _ _ _ es _ (h.ext X0) hbig).mono ?_; rintro e w1 ⟨B1, d1, rfl, o1, x1⟩
    have X1 : Ext w w1 := X0.trans x1
    go_wp2_with fail
    refine (sNeeded_c _ _ _ es m k _ (o1.holds) hbig).mono ?_; rintro e w2 ⟨B2, d2, rfl, o2, x2⟩
    have X2 : Ext w w2 := X1.trans x2
    go_wp2_with fail
    refine (toS_c _ _ _ es _ (h.ext X2) hbig).mono ?_; rintro e w3 ⟨B3, d3, rfl, o3, x3⟩
    have X3 : Ext w w3 := X2.trans x3
    go_wp2_with fail
    refine (needed_c _ _ _ es m k _ (o3.holds) hbig).mono ?_; rintro e w4 ⟨B4, d4, rfl, o4, x4⟩
    have X4 : Ext w w4 := X3.trans x4
    go_wp2_with fail
    refine (eqIntS_c _ _ _ _ _ _ (neededF es m k) (neededF es m k) _ (o4.holds) ((o2.ext ((x3).trans x4)).holds)).mono ?_; rintro e w5 ⟨rfl, x5⟩
    have X5 : Ext w w5 := X4.trans x5
    go_wp2_with fail
    refine (toS_c _ _ _ es _ (h.ext X5) hbig).mono ?_; rintro e w6 ⟨B6, d6, rfl, o6, x6⟩
    have X6 : Ext w w6 := X5.trans x6
    go_wp2_with fail
    refine (eqS_c _ _ _ _ _ _ es _ ((o3.ext (((x4).trans x5).trans x6)).holds) (o6.holds)).mono ?_; rintro e w7 ⟨rfl, x7⟩
    have X7 : Ext w w7 := X6.trans x7
    have b_w0 := o2
    have b_g0 := o4
    have b_x0 := o3
    go_wp2_with fail
    refine (markS_c w2.heap.size _ _ _ _ (1) _ (o3.ext ((((x4).trans x5).trans x6).trans x7)) (by omega) (by omega)).mono ?_; rintro e w8 ⟨rfl, o8, g8⟩
    have x8 : Ext w w8 := Own.ext_grown X7 (o3.ext ((((x4).trans x5).trans x6).trans x7)) (X2.len) g8
    have X8 : Ext w w8 := x8
    have o8_w0 := ((o2.ext (((((x3).trans x4).trans x5).trans x6).trans x7))).kept g8 (Own.ne_lt b_w0 b_x0 (Ext.len (Ext.refl _)))
    have o8_g0 := ((o4.ext (((x5).trans x6).trans x7))).kept g8 (Own.ne_gt b_g0 b_x0 (Ext.len (Ext.refl _)))
    go_wp2_with fail
    refine (eqIntS_c _ _ _ _ _ _ (neededF es m k) (neededF es m k) _ (o8_g0.holds) (o8_w0.holds)).mono ?_; rintro e w9 ⟨rfl, x9⟩
    have X9 : Ext w w9 := X8.trans x9
    go_wp2_with fail
    refine (markIntS_c w3.heap.size _ _ _ _ (1) _ (o8_g0.ext x9) (by omega) (by omega)).mono ?_; rintro e w10 ⟨rfl, o10, g10⟩
    have x10 : Ext w w10 := Own.ext_grown X9 (o8_g0.ext x9) (X3.len) g10
    have X10 : Ext w w10 := x10
    have o10_w0 := ((o8_w0.ext x9)).kept g10 (Own.ne_lt b_w0 b_g0 (Ext.len x3))
    go_wp2_with fail
    refine (heldIntS_c _ _ _ 1 _ o10.holds (by omega) (by omega)).mono ?_; rintro e w11 ⟨rfl, rfl⟩
    go_wp2_with fail
    refine (toS_c _ _ _ es _ (h.ext X10) hbig).mono ?_; rintro e w11 ⟨B11, d11, rfl, o11, x11⟩
    have X11 : Ext w w11 := X10.trans x11
    go_wp2_with fail
    refine (needed_c _ _ _ es m k _ (o11.holds) hbig).mono ?_; rintro e w12 ⟨B12, d12, rfl, o12, x12⟩
    have X12 : Ext w w12 := X11.trans x12
    go_wp2_with fail
    refine (eqIntS_c _ _ _ _ _ _ (neededF es m k) (neededF es m k) _ (o12.holds) ((o10_w0.ext ((x11).trans x12)).holds)).mono ?_; rintro e w13 ⟨rfl, x13⟩
    have X13 : Ext w w13 := X12.trans x13
    go_wp2_with fail
    refine (heldIntS_c _ _ _ 1 _ (o10.ext (((x11).trans x12).trans x13)).holds (by omega) (by omega)).mono ?_; rintro e w14 ⟨rfl, rfl⟩
    go_wp2
    go_ret
    exact ⟨rfl, X13⟩
  · go_enter Try.func8, Try.ntmps8
    go_wp2_with fail
    refine (sz_c _ _ _ _ hmx _ rfl).mono ?_; rintro e w0 ⟨rfl, rfl⟩; rw [if_neg hbig]
    go_wp2
    go_ret
    exact ⟨rfl, Ext.refl _⟩

namespace fnExactPumpsNeeded
open Go.ChangeShapes Go.WideShapes Go.ChangeAt Go.RowKit Go.Joins
set_option linter.unusedVariables false
set_option maxRecDepth 100000 in
theorem lifted (os : Os) (started : os.Started) (H : Type) (enc : TypeId × Value → H) :
    ReturnsInHanded {} Try.checked os 8 .any (Rows.fnExactPumpsNeededSpec.pre6 enc Try.prog Try.f8 Rows.fnExactPumpsNeededRow.domain false) (Rows.fnExactPumpsNeededSpec.post enc Try.prog Try.f8 false true false false) := by
  refine returnsInHanded_of_change (C := Try.checked) own started (by kernel_rfl) Try.func8
    (ChangeSpec.witness6 (enc := enc) (C := Try.checked) false ⟨#[], #[.slice none 0 0, .int .i64 0, .int .i64 0], []⟩ 8 (by kernel_rfl) (by kernel_rfl) (by kernel_rfl) (by kernel_rfl)) ?_
  intro W base args ds gs before hval0 hW hcnd _
  have hval : ∀ (j : Nat) t v, Try.f8.params[j]? = some t → args[j]? = some v → Value.okWide Try.prog W .any base t v := hval0
  have hW' := hW
  obtain ⟨p, q, hA0, hV, rfl, hfz, hnd⟩ := hW
  have hA : DataW.TrodAll enc Try.prog W 0 (fun _ => true) true Try.f8.params.toList args.toList ds p := hA0
  rw [Try.params8] at hA hval
  obtain ⟨v0, vs0, d0, ds0, p0, q0, hargs, rfl, rfl, h0, r0⟩ := trodAll_cons hA
  obtain ⟨v1, vs1, d1, ds1, p1, q1, rfl, rfl, rfl, h1, r1⟩ := trodAll_cons r0
  obtain ⟨v2, vs2, d2, ds2, p2, q2, rfl, rfl, rfl, h2, r2⟩ := trodAll_cons r1
  obtain ⟨rfl, rfl, rfl⟩ := trodAll_nil r2
  obtain rfl : args = #[v0, v1, v2] := by cases args; simp_all
  obtain ⟨rfl, rfl⟩ := trodVars_none hV
  have k0 := h0
  have lt0 : ∀ x ∈ p0, x.block < W.heap.size := by obtain ⟨m, hm⟩ := k0; exact DataW.trod_lt m _ _ _ hm
  obtain ⟨a0, n0, c0, rfl⟩ := okWide_slice Try.underlying39 (hval 0 39 v0 rfl rfl)
  obtain ⟨z0, s0⟩ := Pump_in Try.underlying39 Try.underlying23 (by kernel_rfl) (by kernel_rfl) Try.underlying3 ⟨rfl, rfl⟩ h0
  have k1 := h1
  have lt1 : ∀ x ∈ p1, x.block < W.heap.size := by obtain ⟨m, hm⟩ := k1; exact DataW.trod_lt m _ _ _ hm
  obtain ⟨a1, rfl, _, _, w1⟩ := open_int Try.underlying3 (hval 1 3 v1 rfl rfl) h1
  have k2 := h2
  have lt2 : ∀ x ∈ p2, x.block < W.heap.size := by obtain ⟨m, hm⟩ := k2; exact DataW.trod_lt m _ _ _ hm
  obtain ⟨a2, rfl, _, _, w2⟩ := open_int Try.underlying3 (hval 2 3 v2 rfl rfl) h2
  clear hA0 hval0
  refine (lawPumpsNeeded a0 n0 c0 z0 a1 a2 W s0 (bounds_i64 w1) (bounds_i64 w2)).mono fun e W' ⟨he, bel⟩ => ?_
  subst he
  exact ⟨_, rfl, _, _, _, [], _, [], hW', trodAll_mk1 (shut_bool Try.underlying4 _), (trodAll_cons_mk (Below.trod laidOut (by kernel_rfl) (of_decide_eq_true (by kernel_rfl)) k0 bel lt0) (trodAll_cons_mk (Below.trod laidOut (by kernel_rfl) (of_decide_eq_true (by kernel_rfl)) k1 bel lt1) (trodAll_cons_mk (Below.trod laidOut (by kernel_rfl) (of_decide_eq_true (by kernel_rfl)) k2 bel lt2) trodAll_mk0))), rfl, bel.frame _, fun h => by cases h⟩

theorem over : Rows.fnExactPumpsNeededRow.holds Try.pinned (OpenSpec.ofChange Rows.fnExactPumpsNeededSpec) :=
  OpenClaim.holds_of_wide 8 Try.f8 rfl rfl rfl rfl rfl rfl rfl ⟨rfl, rfl, rfl, rfl, rfl⟩ rfl rfl rfl rfl rfl (by kernel_rfl) Try.func8 (by kernel_rfl)
    (of_decide_eq_true (by kernel_rfl)) (by unfold Func.isWrapper; first | (rw [if_pos (by decide +kernel)]; kernel_rfl) | (rw [if_neg (by decide +kernel)]; exact ⟨rfl, rfl⟩))
    (fun os started H enc _ => lifted os started H enc)
theorem proved : Rows.FnExactPumpsNeededSaid := over
end fnExactPumpsNeeded

end Go.Proofs.Ytbenbjbfmcdedaa
