/-
  The law FnExactJoinMix is proved: for all arguments the program's JoinMix returns what the reference's returns; the arguments read as they did. Conditions: none.
-/
import Derived.Test.YtiaghlphgbonbaaRow
import Derived.Test.YtiaghlphgbonbaaMixC
import Derived.Deep.DeepCutAuto
namespace Go.Proofs.Ytiaghlphgbonbaa
open Go.RowKit

theorem eqMix_a (a b c d : Int) (w : World) : Calls Try.prog 22 #[.agg #[.int .i64 a, .int .i64 b], .agg #[.int .i64 c, .int .i64 d]] w (Ans (.bool (eq2 a b c d)) w) :=
  (eqMix_c a b c d w).mono fun _ _ ⟨he, hw⟩ => ⟨he, by subst hw; (repeat (first | exact Ext.refl _ | assumption | refine Ext.alloc ?_ _ | refine Ext.drew ?_ | refine Ext.drewN ?_ _ | refine Ext.setCell ?_ (by (try simp only [World.size_alloc, World.size_setCell, World.size_drew, World.heap_drewN]); omega) _ | refine Ext.step (by assumption) ?_))⟩
theorem joinV_form (a b c d : Int) : ∃ x y ok, joinV a b c d = .tuple #[mixV x y, .bool ok] := by
  unfold joinV; split
  · exact ⟨_, _, _, rfl⟩
  · exact ⟨_, _, _, rfl⟩
/-- behind the first call: what the two results are, what the boxes hold -/
def Got1 (a b c d x y : Int) (ok : Bool) (w : World) (s5 s6 : Value) (wx : World) : Prop :=
  ∃ g : Nat, s5 = .pointer (some ⟨g, 0, none⟩) ∧ s6 = .bool ok ∧ wx.cell? ⟨g, 0, none⟩ = some (.int .i64 x) ∧ wx.cell? ⟨g, 1, none⟩ = some (.int .i64 y) ∧ Ext w wx ∧
    wx.cell? ⟨w.heap.size, 0, none⟩ = some (.int .i64 a) ∧ wx.cell? ⟨w.heap.size, 1, none⟩ = some (.int .i64 b) ∧ wx.cell? ⟨w.heap.size + 1, 0, none⟩ = some (.int .i64 c) ∧ wx.cell? ⟨w.heap.size + 1, 1, none⟩ = some (.int .i64 d)
/-- .. and behind the second -/
def Got2 (x y : Int) (ok : Bool) (w : World) (g : Nat) (s7 s8 : Value) (wx : World) : Prop :=
  ∃ g2 : Nat, s7 = .pointer (some ⟨g2, 0, none⟩) ∧ s8 = .bool ok ∧ wx.cell? ⟨g2, 0, none⟩ = some (.int .i64 x) ∧ wx.cell? ⟨g2, 1, none⟩ = some (.int .i64 y) ∧ Ext w wx ∧ wx.cell? ⟨g, 0, none⟩ = some (.int .i64 x) ∧ wx.cell? ⟨g, 1, none⟩ = some (.int .i64 y)
set_option maxHeartbeats 6400000 in
theorem lawJoinMix (a b c d : Int) (w : World) (_ : -9223372036854775808 ≤ a ∧ a ≤ 9223372036854775807) (_ : -9223372036854775808 ≤ b ∧ b ≤ 9223372036854775807) (_ : -9223372036854775808 ≤ c ∧ c ≤ 9223372036854775807) (_ : -9223372036854775808 ≤ d ∧ d ≤ 9223372036854775807) :
    Calls Try.prog 8 #[.agg #[.int .i64 a, .int .i64 b], .agg #[.int .i64 c, .int .i64 d]] w (Ans (.bool true) w) := by
  obtain ⟨x, y, ok, hj⟩ := joinV_form a b c d
  have C1 := Lib.hid (fun w => hj ▸ joinMix_c a b c d w)
  have C2 := Lib.hid (fun w => hj ▸ sJoinMix_c a b c d w)
  clear hj
  have hq := eq2_self x y
  go_enter Try.func8, Try.ntmps8
  go_upto_region 1 with fail
  go_cut [5, 6] (fun s5 s6 wx => Got1 a b c d x y ok w s5 s6 wx)
  case first =>
    go_region_held3 (fun w' => w'.cell? ⟨w.heap.size, 0, none⟩ = some (.int .i64 a) ∧ w'.cell? ⟨w.heap.size, 1, none⟩ = some (.int .i64 b) ∧ w'.cell? ⟨w.heap.size + 1, 0, none⟩ = some (.int .i64 c) ∧ w'.cell? ⟨w.heap.size + 1, 1, none⟩ = some (.int .i64 d)) (first | (simp [go_sem]; done) | (go_keep; done) | (simp [*, go_sem]; done) | (simp [*, World.cell?_alloc_some, World.cell?_setCell_far, go_sem]; done))
      (first | (go_at_call 12; refine (toMix_c _ _ _).mono ?_; rintro e w' ⟨rfl, rfl⟩) | (go_at_call 23; refine (C2.out _).mono ?_; rintro e w1 ⟨rfl, hx⟩; have hl := hx.len; (try simp only [World.size_alloc, World.size_setCell, World.size_drew, World.heap_drewN] at hl); obtain ⟨hc, hf⟩ := hx.near; have n1 : w.heap.size ≠ w1.heap.size := (by omega); have n2 : w.heap.size + 1 ≠ w1.heap.size := (by omega); have n3 := Ne.symm n1; have n4 := Ne.symm n2; have n5 : w.heap.size < w1.heap.size := (by omega); have n6 : w.heap.size + 1 < w1.heap.size := (by omega); have hxw : Ext w w1 := Ext.trans (by (repeat (first | exact Ext.refl _ | assumption | refine Ext.alloc ?_ _ | refine Ext.drew ?_ | refine Ext.drewN ?_ _ | refine Ext.setCell ?_ (by (try simp only [World.size_alloc, World.size_setCell, World.size_drew, World.heap_drewN]); omega) _ | refine Ext.step (by assumption) ?_))) hx))
    all_goals (go_wp2; go_meet)
    all_goals (refine ⟨_, rfl, rfl, ?_, ?_, by (repeat (first | exact Ext.refl _ | assumption | refine Ext.alloc ?_ _ | refine Ext.drew ?_ | refine Ext.drewN ?_ _ | refine Ext.setCell ?_ (by (try simp only [World.size_alloc, World.size_setCell, World.size_drew, World.heap_drewN]); omega) _ | refine Ext.step (by assumption) ?_)), ?_, ?_, ?_, ?_⟩)
    all_goals (first | (simp [go_sem]; done) | (simp [*, go_sem]; done))
  case rest =>
    obtain ⟨g, rfl, rfl, c0, c1, hxc, a0, a1, a2, a3⟩ := hcut
    have lg := World.block_lt_of_cell? wc _ c0
    have l0 := World.block_lt_of_cell? wc _ a0
    have l1 := World.block_lt_of_cell? wc _ a2
    simp only at lg l0 l1
    have m0_0 : w.heap.size ≠ wc.heap.size := by omega
    have l0_0 : wc.heap.size ≠ w.heap.size := by omega
    have m0_1 : w.heap.size ≠ wc.heap.size + 1 := by omega
    have l0_1 : wc.heap.size + 1 ≠ w.heap.size := by omega
    have m0_2 : w.heap.size ≠ wc.heap.size + 1 + 1 := by omega
    have l0_2 : wc.heap.size + 1 + 1 ≠ w.heap.size := by omega
    have m0_3 : w.heap.size ≠ wc.heap.size + 1 + 1 + 1 := by omega
    have l0_3 : wc.heap.size + 1 + 1 + 1 ≠ w.heap.size := by omega
    have m0_4 : w.heap.size ≠ wc.heap.size + 1 + 1 + 1 + 1 := by omega
    have l0_4 : wc.heap.size + 1 + 1 + 1 + 1 ≠ w.heap.size := by omega
    have m0_5 : w.heap.size ≠ wc.heap.size + 1 + 1 + 1 + 1 + 1 := by omega
    have l0_5 : wc.heap.size + 1 + 1 + 1 + 1 + 1 ≠ w.heap.size := by omega
    have m0_6 : w.heap.size ≠ wc.heap.size + 1 + 1 + 1 + 1 + 1 + 1 := by omega
    have l0_6 : wc.heap.size + 1 + 1 + 1 + 1 + 1 + 1 ≠ w.heap.size := by omega
    have m0_7 : w.heap.size ≠ wc.heap.size + 1 + 1 + 1 + 1 + 1 + 1 + 1 := by omega
    have l0_7 : wc.heap.size + 1 + 1 + 1 + 1 + 1 + 1 + 1 ≠ w.heap.size := by omega
    have m1_0 : w.heap.size + 1 ≠ wc.heap.size := by omega
    have l1_0 : wc.heap.size ≠ w.heap.size + 1 := by omega
    have m1_1 : w.heap.size + 1 ≠ wc.heap.size + 1 := by omega
    have l1_1 : wc.heap.size + 1 ≠ w.heap.size + 1 := by omega
    have m1_2 : w.heap.size + 1 ≠ wc.heap.size + 1 + 1 := by omega
    have l1_2 : wc.heap.size + 1 + 1 ≠ w.heap.size + 1 := by omega
    have m1_3 : w.heap.size + 1 ≠ wc.heap.size + 1 + 1 + 1 := by omega
    have l1_3 : wc.heap.size + 1 + 1 + 1 ≠ w.heap.size + 1 := by omega
    have m1_4 : w.heap.size + 1 ≠ wc.heap.size + 1 + 1 + 1 + 1 := by omega
    have l1_4 : wc.heap.size + 1 + 1 + 1 + 1 ≠ w.heap.size + 1 := by omega
    have m1_5 : w.heap.size + 1 ≠ wc.heap.size + 1 + 1 + 1 + 1 + 1 := by omega
    have l1_5 : wc.heap.size + 1 + 1 + 1 + 1 + 1 ≠ w.heap.size + 1 := by omega
    have m1_6 : w.heap.size + 1 ≠ wc.heap.size + 1 + 1 + 1 + 1 + 1 + 1 := by omega
    have l1_6 : wc.heap.size + 1 + 1 + 1 + 1 + 1 + 1 ≠ w.heap.size + 1 := by omega
    have m1_7 : w.heap.size + 1 ≠ wc.heap.size + 1 + 1 + 1 + 1 + 1 + 1 + 1 := by omega
    have l1_7 : wc.heap.size + 1 + 1 + 1 + 1 + 1 + 1 + 1 ≠ w.heap.size + 1 := by omega
    have m2_0 : g ≠ wc.heap.size := by omega
    have l2_0 : wc.heap.size ≠ g := by omega
    have m2_1 : g ≠ wc.heap.size + 1 := by omega
    have l2_1 : wc.heap.size + 1 ≠ g := by omega
    have m2_2 : g ≠ wc.heap.size + 1 + 1 := by omega
    have l2_2 : wc.heap.size + 1 + 1 ≠ g := by omega
    have m2_3 : g ≠ wc.heap.size + 1 + 1 + 1 := by omega
    have l2_3 : wc.heap.size + 1 + 1 + 1 ≠ g := by omega
    have m2_4 : g ≠ wc.heap.size + 1 + 1 + 1 + 1 := by omega
    have l2_4 : wc.heap.size + 1 + 1 + 1 + 1 ≠ g := by omega
    have m2_5 : g ≠ wc.heap.size + 1 + 1 + 1 + 1 + 1 := by omega
    have l2_5 : wc.heap.size + 1 + 1 + 1 + 1 + 1 ≠ g := by omega
    have m2_6 : g ≠ wc.heap.size + 1 + 1 + 1 + 1 + 1 + 1 := by omega
    have l2_6 : wc.heap.size + 1 + 1 + 1 + 1 + 1 + 1 ≠ g := by omega
    have m2_7 : g ≠ wc.heap.size + 1 + 1 + 1 + 1 + 1 + 1 + 1 := by omega
    have l2_7 : wc.heap.size + 1 + 1 + 1 + 1 + 1 + 1 + 1 ≠ g := by omega
    have t0_1 : w.heap.size < wc.heap.size + 1 := by omega
    have t0_2 : w.heap.size < wc.heap.size + 1 + 1 := by omega
    have t0_3 : w.heap.size < wc.heap.size + 1 + 1 + 1 := by omega
    have t0_4 : w.heap.size < wc.heap.size + 1 + 1 + 1 + 1 := by omega
    have t0_5 : w.heap.size < wc.heap.size + 1 + 1 + 1 + 1 + 1 := by omega
    have t0_6 : w.heap.size < wc.heap.size + 1 + 1 + 1 + 1 + 1 + 1 := by omega
    have t0_7 : w.heap.size < wc.heap.size + 1 + 1 + 1 + 1 + 1 + 1 + 1 := by omega
    have t0_8 : w.heap.size < wc.heap.size + 1 + 1 + 1 + 1 + 1 + 1 + 1 + 1 := by omega
    have t1_1 : w.heap.size + 1 < wc.heap.size + 1 := by omega
    have t1_2 : w.heap.size + 1 < wc.heap.size + 1 + 1 := by omega
    have t1_3 : w.heap.size + 1 < wc.heap.size + 1 + 1 + 1 := by omega
    have t1_4 : w.heap.size + 1 < wc.heap.size + 1 + 1 + 1 + 1 := by omega
    have t1_5 : w.heap.size + 1 < wc.heap.size + 1 + 1 + 1 + 1 + 1 := by omega
    have t1_6 : w.heap.size + 1 < wc.heap.size + 1 + 1 + 1 + 1 + 1 + 1 := by omega
    have t1_7 : w.heap.size + 1 < wc.heap.size + 1 + 1 + 1 + 1 + 1 + 1 + 1 := by omega
    have t1_8 : w.heap.size + 1 < wc.heap.size + 1 + 1 + 1 + 1 + 1 + 1 + 1 + 1 := by omega
    have t2_1 : g < wc.heap.size + 1 := by omega
    have t2_2 : g < wc.heap.size + 1 + 1 := by omega
    have t2_3 : g < wc.heap.size + 1 + 1 + 1 := by omega
    have t2_4 : g < wc.heap.size + 1 + 1 + 1 + 1 := by omega
    have t2_5 : g < wc.heap.size + 1 + 1 + 1 + 1 + 1 := by omega
    have t2_6 : g < wc.heap.size + 1 + 1 + 1 + 1 + 1 + 1 := by omega
    have t2_7 : g < wc.heap.size + 1 + 1 + 1 + 1 + 1 + 1 + 1 := by omega
    have t2_8 : g < wc.heap.size + 1 + 1 + 1 + 1 + 1 + 1 + 1 + 1 := by omega
    go_upto_region 2 with fail
    go_cut [7, 8] (fun s7 s8 wx => Got2 x y ok w g s7 s8 wx)
    case first =>
      go_region_held3 (fun w' => w'.cell? ⟨w.heap.size, 0, none⟩ = some (.int .i64 a) ∧ w'.cell? ⟨w.heap.size, 1, none⟩ = some (.int .i64 b) ∧ w'.cell? ⟨w.heap.size + 1, 0, none⟩ = some (.int .i64 c) ∧ w'.cell? ⟨w.heap.size + 1, 1, none⟩ = some (.int .i64 d) ∧ w'.cell? ⟨g, 0, none⟩ = some (.int .i64 x) ∧ w'.cell? ⟨g, 1, none⟩ = some (.int .i64 y)) (first | (refine ⟨?_, ?_, ?_, ?_, ?_, ?_⟩ <;> assumption) | (simp [go_sem]; done) | (go_keep; done) | (simp [*, go_sem]; done) | (simp [*, World.cell?_alloc_some, World.cell?_setCell_far, go_sem]; done))
        (first | (go_at_call 12; refine (toMix_c _ _ _).mono ?_; rintro e w' ⟨rfl, rfl⟩) | (go_at_call 24; refine (C1.out _).mono ?_; rintro e w1 ⟨rfl, hx⟩; have hl := hx.len; (try simp only [World.size_alloc, World.size_setCell, World.size_drew, World.heap_drewN] at hl); have n1 : w.heap.size ≠ w1.heap.size := (by omega); have n2 : w.heap.size + 1 ≠ w1.heap.size := (by omega); have n3 := Ne.symm n1; have n4 := Ne.symm n2; have n5 : w.heap.size < w1.heap.size := (by omega); have n6 : w.heap.size + 1 < w1.heap.size := (by omega); have n7 : g ≠ w1.heap.size := (by omega); have n8 := Ne.symm n7; (try have k0 := (hx.blk (wc.heap.size) (by (try simp only [World.size_alloc, World.size_setCell, World.size_drew, World.heap_drewN]); omega)).1); (try have k3 := (hx.blk (wc.heap.size + 1 + 1 + 1) (by (try simp only [World.size_alloc, World.size_setCell, World.size_drew, World.heap_drewN]); omega)).1); (try have k6 := (hx.blk (wc.heap.size + 1 + 1 + 1 + 1 + 1 + 1) (by (try simp only [World.size_alloc, World.size_setCell, World.size_drew, World.heap_drewN]); omega)).1); have hcw : Ext wc w1 := Ext.trans (by (repeat (first | exact Ext.refl _ | assumption | refine Ext.alloc ?_ _ | refine Ext.drew ?_ | refine Ext.drewN ?_ _ | refine Ext.setCell ?_ (by (try simp only [World.size_alloc, World.size_setCell, World.size_drew, World.heap_drewN]); omega) _ | refine Ext.step (by assumption) ?_))) hx; have s0 := hcw.got a0; have s1 := hcw.got a1; have s2 := hcw.got a2; have s3 := hcw.got a3; have s4 := hcw.got c0; have s5 := hcw.got c1; have hxw := hxc.trans hcw))
      all_goals (go_wp2; go_meet)
      all_goals (refine ⟨_, rfl, rfl, ?_, ?_, by (repeat (first | exact Ext.refl _ | assumption | refine Ext.alloc ?_ _ | refine Ext.drew ?_ | refine Ext.drewN ?_ _ | refine Ext.setCell ?_ (by (try simp only [World.size_alloc, World.size_setCell, World.size_drew, World.heap_drewN]); omega) _ | refine Ext.step (by assumption) ?_)), ?_, ?_⟩)
      all_goals (first | (simp [go_sem]; done) | (simp [*, go_sem]; done) | (have q0 := (k0.1 0).trans (show _ = some (.int .i64 0) by simp [go_sem]); have q1 := (k0.1 1).trans (show _ = some (.int .i64 0) by simp [go_sem]); simp [go_sem, q0, q1]; done) | (have q0 := (k3.1 0).trans (show _ = some (.int .i64 0) by simp [go_sem]); have q1 := (k3.1 1).trans (show _ = some (.int .i64 0) by simp [go_sem]); simp [go_sem, q0, q1]; done) | (have q0 := (k6.1 0).trans (show _ = some (.int .i64 0) by simp [go_sem]); have q1 := (k6.1 1).trans (show _ = some (.int .i64 0) by simp [go_sem]); simp [go_sem, q0, q1]; done))
    case rest =>
      obtain ⟨g2, rfl, rfl, e0, e1, hx2, f0, f1⟩ := hcut
      clear a0 a1 a2 a3 c0 c1
      go_wp2_with (go_at_call 22; refine (eqMix_a _ _ _ _ _).mono ?_; rintro e w3 ⟨rfl, hx⟩; have hl := hx.len; (try simp only [World.size_alloc, World.size_setCell, World.size_drew, World.heap_drewN] at hl))
      go_ret
      exact ⟨rfl, by (repeat (first | exact Ext.refl _ | assumption | refine Ext.alloc ?_ _ | refine Ext.drew ?_ | refine Ext.drewN ?_ _ | refine Ext.setCell ?_ (by (try simp only [World.size_alloc, World.size_setCell, World.size_drew, World.heap_drewN]); omega) _ | refine Ext.step (by assumption) ?_))⟩

namespace fnExactJoinMix
open Go.ChangeShapes Go.WideShapes Go.ChangeAt Go.RowKit Go.Joins
set_option linter.unusedVariables false
set_option maxRecDepth 100000 in
theorem lifted (os : Os) (started : os.Started) (H : Type) (enc : TypeId × Value → H) :
    ReturnsInHanded {} Try.checked os 8 .any (Rows.fnExactJoinMixSpec.pre6 enc Try.prog Try.f8 Rows.fnExactJoinMixRow.domain false) (Rows.fnExactJoinMixSpec.post enc Try.prog Try.f8 false true false false) := by
  refine returnsInHanded_of_change (C := Try.checked) own started (by kernel_rfl) Try.func8
    (ChangeSpec.witness6 (enc := enc) (C := Try.checked) false ⟨#[], #[.agg #[.int .i64 0, .int .i64 0], .agg #[.int .i64 0, .int .i64 0]], []⟩ 8 (by kernel_rfl) (by kernel_rfl) (by kernel_rfl) (by kernel_rfl)) ?_
  intro W base args ds gs before hval0 hW hcnd _
  have hval : ∀ (j : Nat) t v, Try.f8.params[j]? = some t → args[j]? = some v → Value.okWide Try.prog W .any base t v := hval0
  have hW' := hW
  obtain ⟨p, q, hA0, hV, rfl, hfz, hnd⟩ := hW
  have hA : DataW.TrodAll enc Try.prog W 0 (fun _ => true) true Try.f8.params.toList args.toList ds p := hA0
  rw [Try.params8] at hA hval
  obtain ⟨v0, vs0, d0, ds0, p0, q0, hargs, rfl, rfl, h0, r0⟩ := trodAll_cons hA
  obtain ⟨v1, vs1, d1, ds1, p1, q1, rfl, rfl, rfl, h1, r1⟩ := trodAll_cons r0
  obtain ⟨rfl, rfl, rfl⟩ := trodAll_nil r1
  obtain rfl : args = #[v0, v1] := by cases args; simp_all
  obtain ⟨rfl, rfl⟩ := trodVars_none hV
  have k0 := h0
  have lt0 : ∀ x ∈ p0, x.block < W.heap.size := by obtain ⟨m, hm⟩ := k0; exact DataW.trod_lt m _ _ _ hm
  obtain ⟨c0_0, c0_1, y0_0, y0_1, m0, rfl, _, _, hy0_0, hy0_1⟩ := open_agg2 Try.underlying23 (by kernel_rfl) (by kernel_rfl) (hval 0 23 v0 rfl rfl) h0
  obtain ⟨a0_0, e0_0, _, w0_0⟩ := DataW.trod_int Try.underlying3 hy0_0
  simp only [List.cons.injEq, and_true] at e0_0
  subst e0_0
  obtain ⟨a0_1, e0_1, _, w0_1⟩ := DataW.trod_int Try.underlying3 hy0_1
  simp only [List.cons.injEq, and_true] at e0_1
  subst e0_1
  have k1 := h1
  have lt1 : ∀ x ∈ p1, x.block < W.heap.size := by obtain ⟨m, hm⟩ := k1; exact DataW.trod_lt m _ _ _ hm
  obtain ⟨c1_0, c1_1, y1_0, y1_1, m1, rfl, _, _, hy1_0, hy1_1⟩ := open_agg2 Try.underlying23 (by kernel_rfl) (by kernel_rfl) (hval 1 23 v1 rfl rfl) h1
  obtain ⟨a1_0, e1_0, _, w1_0⟩ := DataW.trod_int Try.underlying3 hy1_0
  simp only [List.cons.injEq, and_true] at e1_0
  subst e1_0
  obtain ⟨a1_1, e1_1, _, w1_1⟩ := DataW.trod_int Try.underlying3 hy1_1
  simp only [List.cons.injEq, and_true] at e1_1
  subst e1_1
  clear hA0 hval0
  refine (lawJoinMix a0_0 a0_1 a1_0 a1_1 W (bounds_i64 w0_0) (bounds_i64 w0_1) (bounds_i64 w1_0) (bounds_i64 w1_1)).mono fun e W' ⟨he, bel⟩ => ?_
  subst he
  exact ⟨_, rfl, _, _, _, [], _, [], hW', trodAll_mk1 (shut_bool Try.underlying4 _), (trodAll_cons_mk (Below.trod laidOut (by kernel_rfl) (of_decide_eq_true (by kernel_rfl)) k0 bel lt0) (trodAll_cons_mk (Below.trod laidOut (by kernel_rfl) (of_decide_eq_true (by kernel_rfl)) k1 bel lt1) trodAll_mk0)), rfl, bel.frame _, fun h => by cases h⟩

theorem over : Rows.fnExactJoinMixRow.holds Try.pinned (OpenSpec.ofChange Rows.fnExactJoinMixSpec) :=
  OpenClaim.holds_of_wide 8 Try.f8 rfl rfl rfl rfl rfl rfl rfl ⟨rfl, rfl, rfl, rfl, rfl⟩ rfl rfl rfl rfl rfl (by kernel_rfl) Try.func8 (by kernel_rfl)
    (of_decide_eq_true (by kernel_rfl)) (by unfold Func.isWrapper; first | (rw [if_pos (by decide +kernel)]; kernel_rfl) | (rw [if_neg (by decide +kernel)]; exact ⟨rfl, rfl⟩))
    (fun os started H enc _ => lifted os started H enc)
theorem proved : Rows.FnExactJoinMixSaid := over
end fnExactJoinMix

end Go.Proofs.Ytiaghlphgbonbaa
