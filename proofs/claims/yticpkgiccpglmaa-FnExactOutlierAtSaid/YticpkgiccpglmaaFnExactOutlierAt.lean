/-
  The law FnExactOutlierAt is proved: for all arguments the program's OutlierAt returns what the reference's returns; the arguments read as they did. Conditions: none.
-/
import Derived.Test.YticpkgiccpglmaaRow
import Derived.Test.YticpkgiccpglmaaMeterF
namespace Go.Proofs.Yticpkgiccpglmaa
open Go.RowKit

theorem lawOutlierAt (A : Option Addr) (n c : Nat) (zs : List Int) (w : World) (h : Holds w 1 A n c (ints zs) ∧ ∀ z ∈ zs, -9223372036854775808 ≤ z ∧ z ≤ 9223372036854775807) :
    Calls Try.prog 8 #[.slice A n c] w (Ans (.bool true) w) := by
  obtain ⟨h, hbd⟩ := h
  have hmx : n ≤ 9223372036854775807 := by have := h.2.1; have := h.2.2.1; unfold maxLen at this; omega
  by_cases hbig : n ≤ 1048576
  · go_enter Try.func8, Try.ntmps8
    go_wp2_with fail
    refine (toIntS_c _ _ _ zs _ h hbig).mono ?_; rintro e w1 ⟨A1, c1, rfl, o1, x1⟩
    go_wp2_with fail
    refine (sOut_c _ _ _ zs _ o1.holds hbig).mono ?_; rintro e w2 ⟨rfl, x2⟩
    go_wp2_with fail
    refine (toIntS_c _ _ _ zs _ (h.ext (x1.trans x2)) hbig).mono ?_; rintro e w3 ⟨A3, c3, rfl, o3, x3⟩
    go_wp2_with fail
    refine (out_c _ _ _ zs _ o3.holds).mono ?_; rintro e w4 ⟨rfl, x4⟩
    go_wp2_with fail
    refine (toIntS_c _ _ _ zs _ (h.ext (((x1.trans x2).trans x3).trans x4)) hbig).mono ?_; rintro e w5 ⟨A5, c5, rfl, o5, x5⟩
    go_wp2_with fail
    refine (eqIntS_c _ _ _ _ _ _ zs zs _ (o3.holds.ext (x4.trans x5)) o5.holds).mono ?_; rintro e w6 ⟨rfl, x6⟩
    go_wp2
    go_ret
    exact ⟨rfl, ((((x1.trans x2).trans x3).trans x4).trans x5).trans x6⟩
  · go_enter Try.func8, Try.ntmps8
    go_wp2
    go_ret
    exact ⟨rfl, Ext.refl _⟩

namespace fnExactOutlierAt
open Go.ChangeShapes Go.WideShapes Go.ChangeAt Go.RowKit Go.Joins
set_option linter.unusedVariables false
set_option maxRecDepth 100000 in
theorem lifted (os : Os) (started : os.Started) (H : Type) (enc : TypeId × Value → H) :
    ReturnsInHanded {} Try.checked os 8 .any (Rows.fnExactOutlierAtSpec.pre6 enc Try.prog Try.f8 Rows.fnExactOutlierAtRow.domain false) (Rows.fnExactOutlierAtSpec.post enc Try.prog Try.f8 false true false false) := by
  refine returnsInHanded_of_change (C := Try.checked) own started (by kernel_rfl) Try.func8
    (ChangeSpec.witness6 (enc := enc) (C := Try.checked) false ⟨#[], #[.slice none 0 0], []⟩ 8 (by kernel_rfl) (by kernel_rfl) (by kernel_rfl) (by kernel_rfl)) ?_
  intro W base args ds gs before hval0 hW hcnd _
  have hval : ∀ (j : Nat) t v, Try.f8.params[j]? = some t → args[j]? = some v → Value.okWide Try.prog W .any base t v := hval0
  have hW' := hW
  obtain ⟨p, q, hA0, hV, rfl, hfz, hnd⟩ := hW
  have hA : DataW.TrodAll enc Try.prog W 0 (fun _ => true) true Try.f8.params.toList args.toList ds p := hA0
  rw [Try.params8] at hA hval
  obtain ⟨v0, vs0, d0, ds0, p0, q0, hargs, rfl, rfl, h0, r0⟩ := trodAll_cons hA
  obtain ⟨rfl, rfl, rfl⟩ := trodAll_nil r0
  obtain rfl : args = #[v0] := by cases args; simp_all
  obtain ⟨rfl, rfl⟩ := trodVars_none hV
  have k0 := h0
  have lt0 : ∀ x ∈ p0, x.block < W.heap.size := by obtain ⟨m, hm⟩ := k0; exact DataW.trod_lt m _ _ _ hm
  obtain ⟨a0, n0, c0, rfl⟩ := okWide_slice Try.underlying31 (hval 0 31 v0 rfl rfl)
  obtain ⟨z0, s0⟩ := ints_in Try.underlying31 Try.underlying3 (by kernel_rfl) h0
  clear hA0 hval0
  refine (lawOutlierAt a0 n0 c0 z0 W s0).mono fun e W' ⟨he, bel⟩ => ?_
  subst he
  exact ⟨_, rfl, _, _, _, [], _, [], hW', trodAll_mk1 (shut_bool Try.underlying4 _), (trodAll_cons_mk (Below.trod laidOut (by kernel_rfl) (of_decide_eq_true (by kernel_rfl)) k0 bel lt0) trodAll_mk0), rfl, bel.frame _, fun h => by cases h⟩

theorem over : Rows.fnExactOutlierAtRow.holds Try.pinned (OpenSpec.ofChange Rows.fnExactOutlierAtSpec) :=
  OpenClaim.holds_of_wide 8 Try.f8 rfl rfl rfl rfl rfl rfl rfl ⟨rfl, rfl, rfl, rfl, rfl⟩ rfl rfl rfl rfl rfl (by kernel_rfl) Try.func8 (by kernel_rfl)
    (of_decide_eq_true (by kernel_rfl)) (by unfold Func.isWrapper; first | (rw [if_pos (by decide +kernel)]; kernel_rfl) | (rw [if_neg (by decide +kernel)]; exact ⟨rfl, rfl⟩))
    (fun os started H enc _ => lifted os started H enc)
theorem proved : Rows.FnExactOutlierAtSaid := over
end fnExactOutlierAt

end Go.Proofs.Yticpkgiccpglmaa
