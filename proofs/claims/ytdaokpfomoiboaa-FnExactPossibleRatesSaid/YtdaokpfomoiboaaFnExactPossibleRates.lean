/-
  The law FnExactPossibleRates is proved: for all arguments the program's PossibleRates returns what the reference's returns; the arguments read as they did, and what is answered lies in memory of its own. Conditions: none.
-/
import Derived.Test.YtdaokpfomoiboaaRow
import Derived.Test.YtdaokpfomoiboaaLeakD
namespace Go.Proofs.Ytdaokpfomoiboaa
open Go.RowKit

theorem lawPossibleRates (A0 : Option Addr) (n0 c0 : Nat) (ls : List Int) (A1 : Option Addr) (n1 c1 : Nat) (rs : List Int) (w : World) (h0 : Holds w 1 A0 n0 c0 (ints ls) ∧ ∀ z ∈ ls, -9223372036854775808 ≤ z ∧ z ≤ 9223372036854775807) (h1 : Holds w 1 A1 n1 c1 (ints rs) ∧ ∀ z ∈ rs, -9223372036854775808 ≤ z ∧ z ≤ 9223372036854775807) :
    Calls Try.prog 7 #[.slice A0 n0 c0, .slice A1 n1 c1] w (Ans (.bool true) w) := by
  obtain ⟨h0, hb0⟩ := h0
  have hmx0 : n0 ≤ 9223372036854775807 := by have := h0.2.1; have := h0.2.2.1; unfold maxLen at this; omega
  obtain ⟨h1, hb1⟩ := h1
  have hmx1 : n1 ≤ 9223372036854775807 := by have := h1.2.1; have := h1.2.2.1; unfold maxLen at this; omega
  by_cases hbig0 : n0 ≤ 1048576
  · skip
    by_cases hbig1 : n1 ≤ 1048576
    · skip
      have hR : (possF ls rs).length ≤ 200000000 := by have := possF_len ls rs; omega
      go_enter Try.func7, Try.ntmps7
      have X0 : Ext w w := Ext.refl _
      go_wp2_with fail
      refine (toIntS_c _ _ _ ls _ (h0.ext X0) hbig0).mono ?_; rintro e w1 ⟨B1, d1, rfl, o1, x1⟩
      have X1 : Ext w w1 := X0.trans x1
      go_wp2_with fail
      refine (toIntS_c _ _ _ rs _ (h1.ext X1) hbig1).mono ?_; rintro e w2 ⟨B2, d2, rfl, o2, x2⟩
      have X2 : Ext w w2 := X1.trans x2
      go_wp2_with fail
      refine (sPoss_c _ _ _ _ _ _ ls rs _ ((o1.ext x2).holds) (o2.holds)).mono ?_; rintro e w3 ⟨B3, d3, rfl, o3, x3⟩
      have X3 : Ext w w3 := X2.trans x3
      go_wp2_with fail
      refine (toIntS_c _ _ _ ls _ (h0.ext X3) hbig0).mono ?_; rintro e w4 ⟨B4, d4, rfl, o4, x4⟩
      have X4 : Ext w w4 := X3.trans x4
      go_wp2_with fail
      refine (toIntS_c _ _ _ rs _ (h1.ext X4) hbig1).mono ?_; rintro e w5 ⟨B5, d5, rfl, o5, x5⟩
      have X5 : Ext w w5 := X4.trans x5
      go_wp2_with fail
      refine (poss_c _ _ _ _ _ _ ls rs _ ((o4.ext x5).holds) (o5.holds)).mono ?_; rintro e w6 ⟨B6, d6, rfl, o6, x6⟩
      have X6 : Ext w w6 := X5.trans x6
      go_wp2_with fail
      refine (eqIntS_c _ _ _ _ _ _ (possF ls rs) (possF ls rs) _ (o6.holds) ((o3.ext (((x4).trans x5).trans x6)).holds)).mono ?_; rintro e w7 ⟨rfl, x7⟩
      have X7 : Ext w w7 := X6.trans x7
      go_wp2_with fail
      refine (toIntS_c _ _ _ ls _ (h0.ext X7) hbig0).mono ?_; rintro e w8 ⟨B8, d8, rfl, o8, x8⟩
      have X8 : Ext w w8 := X7.trans x8
      go_wp2_with fail
      refine (eqIntS_c _ _ _ _ _ _ ls ls _ ((o4.ext ((((x5).trans x6).trans x7).trans x8)).holds) (o8.holds)).mono ?_; rintro e w9 ⟨rfl, x9⟩
      have X9 : Ext w w9 := X8.trans x9
      go_wp2_with fail
      refine (toIntS_c _ _ _ rs _ (h1.ext X9) hbig1).mono ?_; rintro e w10 ⟨B10, d10, rfl, o10, x10⟩
      have X10 : Ext w w10 := X9.trans x10
      go_wp2_with fail
      refine (eqIntS_c _ _ _ _ _ _ rs rs _ ((o5.ext (((((x6).trans x7).trans x8).trans x9).trans x10)).holds) (o10.holds)).mono ?_; rintro e w11 ⟨rfl, x11⟩
      have X11 : Ext w w11 := X10.trans x11
      have b_w0 := o3
      have b_g0 := o6
      have b_x0 := o4
      have b_x1 := o5
      go_wp2_with fail
      refine (markIntS_c w3.heap.size _ _ _ _ (1) _ (o4.ext (((((((x5).trans x6).trans x7).trans x8).trans x9).trans x10).trans x11)) (by omega) (by omega)).mono ?_; rintro e w12 ⟨rfl, o12, g12⟩
      have x12 : Ext w w12 := Own.ext_grown X11 (o4.ext (((((((x5).trans x6).trans x7).trans x8).trans x9).trans x10).trans x11)) (X3.len) g12
      have X12 : Ext w w12 := x12
      have o12_w0 := ((o3.ext ((((((((x4).trans x5).trans x6).trans x7).trans x8).trans x9).trans x10).trans x11))).kept g12 (Own.ne_lt b_w0 b_x0 (Ext.len (Ext.refl _)))
      have o12_g0 := ((o6.ext (((((x7).trans x8).trans x9).trans x10).trans x11))).kept g12 (Own.ne_gt b_g0 b_x0 (Ext.len x5))
      have o12_x1 := ((o5.ext ((((((x6).trans x7).trans x8).trans x9).trans x10).trans x11))).kept g12 (Own.ne_gt b_x1 b_x0 (Ext.len (Ext.refl _)))
      go_wp2_with fail
      refine (markIntS_c w4.heap.size _ _ _ _ (1 + (n0 : Int)) _ o12_x1 (by omega) (by omega)).mono ?_; rintro e w13 ⟨rfl, o13, g13⟩
      have x13 : Ext w w13 := Own.ext_grown X12 o12_x1 (X4.len) g13
      have X13 : Ext w w13 := x13
      have o13_w0 := (o12_w0).kept g13 (Own.ne_lt b_w0 b_x1 (Ext.len x4))
      have o13_g0 := (o12_g0).kept g13 (Own.ne_gt b_g0 b_x1 (Ext.len (Ext.refl _)))
      go_wp2_with fail
      refine (eqIntS_c _ _ _ _ _ _ (possF ls rs) (possF ls rs) _ (o13_g0.holds) (o13_w0.holds)).mono ?_; rintro e w14 ⟨rfl, x14⟩
      have X14 : Ext w w14 := X13.trans x14
      go_wp2_with fail
      refine (markIntS_c w5.heap.size _ _ _ _ (1) _ (o13_g0.ext x14) (by omega) (by omega)).mono ?_; rintro e w15 ⟨rfl, o15, g15⟩
      have x15 : Ext w w15 := Own.ext_grown X14 (o13_g0.ext x14) (X5.len) g15
      have X15 : Ext w w15 := x15
      have o15_w0 := ((o13_w0.ext x14)).kept g15 (Own.ne_lt b_w0 b_g0 (Ext.len ((x4).trans x5)))
      go_wp2_with fail
      refine (heldIntS_c _ _ _ 1 _ o15.holds (by omega) (by omega)).mono ?_; rintro e w16 ⟨rfl, rfl⟩
      go_wp2_with fail
      refine (toIntS_c _ _ _ ls _ (h0.ext X15) hbig0).mono ?_; rintro e w16 ⟨B16, d16, rfl, o16, x16⟩
      have X16 : Ext w w16 := X15.trans x16
      go_wp2_with fail
      refine (toIntS_c _ _ _ rs _ (h1.ext X16) hbig1).mono ?_; rintro e w17 ⟨B17, d17, rfl, o17, x17⟩
      have X17 : Ext w w17 := X16.trans x17
      go_wp2_with fail
      refine (poss_c _ _ _ _ _ _ ls rs _ ((o16.ext x17).holds) (o17.holds)).mono ?_; rintro e w18 ⟨B18, d18, rfl, o18, x18⟩
      have X18 : Ext w w18 := X17.trans x18
      go_wp2_with fail
      refine (eqIntS_c _ _ _ _ _ _ (possF ls rs) (possF ls rs) _ (o18.holds) ((o15_w0.ext (((x16).trans x17).trans x18)).holds)).mono ?_; rintro e w19 ⟨rfl, x19⟩
      have X19 : Ext w w19 := X18.trans x19
      go_wp2_with fail
      refine (heldIntS_c _ _ _ 1 _ (o15.ext ((((x16).trans x17).trans x18).trans x19)).holds (by omega) (by omega)).mono ?_; rintro e w20 ⟨rfl, rfl⟩
      go_wp2
      go_ret
      exact ⟨rfl, X19⟩
    · go_enter Try.func7, Try.ntmps7
      go_wp2
      go_ret
      exact ⟨rfl, Ext.refl _⟩
  · go_enter Try.func7, Try.ntmps7
    go_wp2
    go_ret
    exact ⟨rfl, Ext.refl _⟩

namespace fnExactPossibleRates
open Go.ChangeShapes Go.WideShapes Go.ChangeAt Go.RowKit Go.Joins
set_option linter.unusedVariables false
set_option maxRecDepth 100000 in
theorem lifted (os : Os) (started : os.Started) (H : Type) (enc : TypeId × Value → H) :
    ReturnsInHanded {} Try.checked os 7 .any (Rows.fnExactPossibleRatesSpec.pre6 enc Try.prog Try.f7 Rows.fnExactPossibleRatesRow.domain false) (Rows.fnExactPossibleRatesSpec.post enc Try.prog Try.f7 false true false false) := by
  refine returnsInHanded_of_change (C := Try.checked) own started (by kernel_rfl) Try.func7
    (ChangeSpec.witness6 (enc := enc) (C := Try.checked) false ⟨#[], #[.slice none 0 0, .slice none 0 0], []⟩ 8 (by kernel_rfl) (by kernel_rfl) (by kernel_rfl) (by kernel_rfl)) ?_
  intro W base args ds gs before hval0 hW hcnd _
  have hval : ∀ (j : Nat) t v, Try.f7.params[j]? = some t → args[j]? = some v → Value.okWide Try.prog W .any base t v := hval0
  have hW' := hW
  obtain ⟨p, q, hA0, hV, rfl, hfz, hnd⟩ := hW
  have hA : DataW.TrodAll enc Try.prog W 0 (fun _ => true) true Try.f7.params.toList args.toList ds p := hA0
  rw [Try.params7] at hA hval
  obtain ⟨v0, vs0, d0, ds0, p0, q0, hargs, rfl, rfl, h0, r0⟩ := trodAll_cons hA
  obtain ⟨v1, vs1, d1, ds1, p1, q1, rfl, rfl, rfl, h1, r1⟩ := trodAll_cons r0
  obtain ⟨rfl, rfl, rfl⟩ := trodAll_nil r1
  obtain rfl : args = #[v0, v1] := by cases args; simp_all
  obtain ⟨rfl, rfl⟩ := trodVars_none hV
  have k0 := h0
  have lt0 : ∀ x ∈ p0, x.block < W.heap.size := by obtain ⟨m, hm⟩ := k0; exact DataW.trod_lt m _ _ _ hm
  obtain ⟨a0, n0, c0, rfl⟩ := okWide_slice Try.underlying33 (hval 0 33 v0 rfl rfl)
  obtain ⟨z0, s0⟩ := ints_in Try.underlying33 Try.underlying3 (by kernel_rfl) h0
  have k1 := h1
  have lt1 : ∀ x ∈ p1, x.block < W.heap.size := by obtain ⟨m, hm⟩ := k1; exact DataW.trod_lt m _ _ _ hm
  obtain ⟨a1, n1, c1, rfl⟩ := okWide_slice Try.underlying33 (hval 1 33 v1 rfl rfl)
  obtain ⟨z1, s1⟩ := ints_in Try.underlying33 Try.underlying3 (by kernel_rfl) h1
  clear hA0 hval0
  refine (lawPossibleRates a0 n0 c0 z0 a1 n1 c1 z1 W s0 s1).mono fun e W' ⟨he, bel⟩ => ?_
  subst he
  exact ⟨_, rfl, _, _, _, [], _, [], hW', trodAll_mk1 (shut_bool Try.underlying4 _), (trodAll_cons_mk (Below.trod laidOut (by kernel_rfl) (of_decide_eq_true (by kernel_rfl)) k0 bel lt0) (trodAll_cons_mk (Below.trod laidOut (by kernel_rfl) (of_decide_eq_true (by kernel_rfl)) k1 bel lt1) trodAll_mk0)), rfl, bel.frame _, fun h => by cases h⟩

theorem over : Rows.fnExactPossibleRatesRow.holds Try.pinned (OpenSpec.ofChange Rows.fnExactPossibleRatesSpec) :=
  OpenClaim.holds_of_wide 7 Try.f7 rfl rfl rfl rfl rfl rfl rfl ⟨rfl, rfl, rfl, rfl, rfl⟩ rfl rfl rfl rfl rfl (by kernel_rfl) Try.func7 (by kernel_rfl)
    (of_decide_eq_true (by kernel_rfl)) (by unfold Func.isWrapper; first | (rw [if_pos (by decide +kernel)]; kernel_rfl) | (rw [if_neg (by decide +kernel)]; exact ⟨rfl, rfl⟩))
    (fun os started H enc _ => lifted os started H enc)
theorem proved : Rows.FnExactPossibleRatesSaid := over
end fnExactPossibleRates

end Go.Proofs.Ytdaokpfomoiboaa
