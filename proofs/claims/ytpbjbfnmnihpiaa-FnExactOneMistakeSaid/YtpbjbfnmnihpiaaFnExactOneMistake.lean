/-
  The law FnExactOneMistake is proved: for all arguments the program's OneMistake returns what the reference's returns; the arguments read as they did. Conditions: none.
-/
import Derived.Test.YtpbjbfnmnihpiaaInEntry
import Derived.Test.YtpbjbfnmnihpiaaCountC
namespace Go.Proofs.Ytpbjbfnmnihpiaa
open Go.RowKit

theorem lawOneMistake (A : Option Addr) (n c : Nat) (es : List Entry) (s : Int) (w : World) (h : Holds w 3 A n c (Entry.all es) ∧ ∀ e ∈ es, -9223372036854775808 ≤ e.f0 ∧ e.f0 ≤ 9223372036854775807 ∧ -9223372036854775808 ≤ e.f1 ∧ e.f1 ≤ 9223372036854775807 ∧ -9223372036854775808 ≤ e.f2 ∧ e.f2 ≤ 9223372036854775807) (hs : -9223372036854775808 ≤ s ∧ s ≤ 9223372036854775807) :
    Calls Try.prog 8 #[.slice A n c, .int .i64 s] w (Ans (.bool true) w) := by
  obtain ⟨h, hb⟩ := h
  have hmx : n ≤ 9223372036854775807 := by have := h.2.1; have := h.2.2.1; unfold maxLen at this; omega
  by_cases hbig : n ≤ 1048576
  · go_enter Try.func8, Try.ntmps8
    go_wp2_with fail
    refine (sz_c _ _ _ _ hmx _ rfl).mono ?_; rintro e w0 ⟨rfl, rfl⟩; rw [if_pos hbig]
    go_wp2_with fail
    refine (toS_c _ _ _ es _ h hbig).mono ?_; rintro e w1 ⟨A1, c1, rfl, o1, x1⟩
    go_wp2_with fail
    refine (sMis_t _ _ _ es s _ o1.holds hbig).mono ?_; rintro e w2 ⟨rfl, x2⟩
    go_wp2_with fail
    refine (toS_c _ _ _ es _ (h.ext (x1.trans x2)) hbig).mono ?_; rintro e w3 ⟨A3, c3, rfl, o3, x3⟩
    go_wp2_with fail
    refine (mis_t _ _ _ es s _ o3.holds hbig).mono ?_; rintro e w4 ⟨rfl, x4⟩
    go_wp2_with fail
    refine (toS_c _ _ _ es _ (h.ext (((x1.trans x2).trans x3).trans x4)) hbig).mono ?_; rintro e w5 ⟨A5, c5, rfl, o5, x5⟩
    go_wp2_with fail
    refine (eqS_c _ _ _ _ _ _ es _ (o3.holds.ext (x4.trans x5)) o5.holds).mono ?_; rintro e w6 ⟨rfl, x6⟩
    go_wp2
    go_ret
    exact ⟨rfl, ((((x1.trans x2).trans x3).trans x4).trans x5).trans x6⟩
  · go_enter Try.func8, Try.ntmps8
    go_wp2_with fail
    refine (sz_c _ _ _ _ hmx _ rfl).mono ?_; rintro e w0 ⟨rfl, rfl⟩; rw [if_neg hbig]
    go_wp2
    go_ret
    exact ⟨rfl, Ext.refl _⟩

namespace fnExactOneMistake
open Go.ChangeShapes Go.WideShapes Go.ChangeAt Go.RowKit Go.Joins
set_option linter.unusedVariables false
set_option maxRecDepth 100000 in
theorem lifted (os : Os) (started : os.Started) (H : Type) (enc : TypeId × Value → H) :
    ReturnsInHanded {} Try.checked os 8 .any (Rows.fnExactOneMistakeSpec.pre6 enc Try.prog Try.f8 Rows.fnExactOneMistakeRow.domain false) (Rows.fnExactOneMistakeSpec.post enc Try.prog Try.f8 false true false false) := by
  refine returnsInHanded_of_change (C := Try.checked) own started (by kernel_rfl) Try.func8
    (ChangeSpec.witness6 (enc := enc) (C := Try.checked) false ⟨#[], #[.slice none 0 0, .int .i64 0], []⟩ 8 (by kernel_rfl) (by kernel_rfl) (by kernel_rfl) (by kernel_rfl)) ?_
  intro W base args ds gs before hval0 hW hcnd _
  have hval : ∀ (j : Nat) t v, Try.f8.params[j]? = some t → args[j]? = some v → Value.okWide Try.prog W .any base t v := hval0
  have hW' := hW
  obtain ⟨p, q, hA0, hV, rfl, hfz, hnd⟩ := hW
  have hA : DataW.TrodAll enc Try.prog W 0 (fun _ => true) true Try.f8.params.toList args.toList ds p := hA0
  rw [Try.params8] at hA hval
  obtain ⟨v0, vs0, d0, ds0, p0, q0, hargs, rfl, rfl, h0, r0⟩ := trodAll_cons hA
  obtain ⟨v1, vs1, d1, ds1, p1, q1, rfl, rfl, rfl, h1, r1⟩ := trodAll_cons r0
  obtain ⟨rfl, rfl, rfl⟩ := trodAll_nil r1
  obtain rfl : args = #[v0, v1] := by cases args; simp_all
  obtain ⟨rfl, rfl⟩ := trodVars_none hV
  have k0 := h0
  have lt0 : ∀ x ∈ p0, x.block < W.heap.size := by obtain ⟨m, hm⟩ := k0; exact DataW.trod_lt m _ _ _ hm
  obtain ⟨a0, n0, c0, rfl⟩ := okWide_slice Try.underlying35 (hval 0 35 v0 rfl rfl)
  obtain ⟨z0, s0⟩ := Entry_in Try.underlying35 Try.underlying50 (by kernel_rfl) (by kernel_rfl) Try.underlying3 ⟨rfl, rfl, rfl⟩ h0
  have k1 := h1
  have lt1 : ∀ x ∈ p1, x.block < W.heap.size := by obtain ⟨m, hm⟩ := k1; exact DataW.trod_lt m _ _ _ hm
  obtain ⟨a1, rfl, _, _, w1⟩ := open_int Try.underlying3 (hval 1 3 v1 rfl rfl) h1
  clear hA0 hval0
  refine (lawOneMistake a0 n0 c0 z0 a1 W s0 (bounds_i64 w1)).mono fun e W' ⟨he, bel⟩ => ?_
  subst he
  exact ⟨_, rfl, _, _, _, [], _, [], hW', trodAll_mk1 (shut_bool Try.underlying4 _), (trodAll_cons_mk (Below.trod laidOut (by kernel_rfl) (of_decide_eq_true (by kernel_rfl)) k0 bel lt0) (trodAll_cons_mk (Below.trod laidOut (by kernel_rfl) (of_decide_eq_true (by kernel_rfl)) k1 bel lt1) trodAll_mk0)), rfl, bel.frame _, fun h => by cases h⟩

theorem over : Rows.fnExactOneMistakeRow.holds Try.pinned (OpenSpec.ofChange Rows.fnExactOneMistakeSpec) :=
  OpenClaim.holds_of_wide 8 Try.f8 rfl rfl rfl rfl rfl rfl rfl ⟨rfl, rfl, rfl, rfl, rfl⟩ rfl rfl rfl rfl rfl (by kernel_rfl) Try.func8 (by kernel_rfl)
    (of_decide_eq_true (by kernel_rfl)) (by unfold Func.isWrapper; first | (rw [if_pos (by decide +kernel)]; kernel_rfl) | (rw [if_neg (by decide +kernel)]; exact ⟨rfl, rfl⟩))
    (fun os started H enc _ => lifted os started H enc)
theorem proved : Rows.FnExactOneMistakeSaid := over
end fnExactOneMistake

end Go.Proofs.Ytpbjbfnmnihpiaa
