/-
  The law FnGates is proved: for every code no key is in two places, and only who has it turns the gate; the code reads as it did. Conditions: none.
-/
import Derived.Test.YtbbhchdpaocljaaRow
import Derived.Test.YtbbhchdpaocljaaGateDraw
import Derived.Deep.QuietTactic
import Derived.Deep.DeepCutAuto
import Derived.Deep.CutRange
import Derived.IntWalk
namespace Go.Proofs.Ytbbhchdpaocljaa
open Go.RowKit

theorem key_cases (x p : Int) (o b1 b2 b3 : Bool) (hp : 1 ≤ p) (h1 : b1 = (x == 0)) (h2 : b2 = (x == p)) (h3 : b3 = (x == p && !o)) :
    (b1 = false ∧ (x == 0) = false ∧ b2 = false ∧ (x == p) = false ∧ b3 = false) ∨ (b1 = true ∧ (x == 0) = true ∧ b2 = false ∧ (x == p) = false ∧ b3 = false) ∨
    (b1 = false ∧ (x == 0) = false ∧ b2 = true ∧ (x == p) = true ∧ b3 = true ∧ o = false) ∨ (b1 = false ∧ (x == 0) = false ∧ b2 = true ∧ (x == p) = true ∧ b3 = false ∧ o = true) := by
  cases q1 : (x == 0) <;> cases q2 : (x == p) <;> cases o <;> simp_all
  all_goals omega
set_option maxRecDepth 100000 in
set_option maxHeartbeats 6400000 in
theorem lawGates (A : Option Addr) (n c : Nat) (w : World) (hC : Code8 w A n c) : Calls Try.prog 7 #[.slice A n c] w (Ans (.bool true) w) := by
  have hm : n ≤ 9223372036854775807 := by obtain ⟨zs, h1, _⟩ := hC; have := h1.2.1; have := h1.2.2.1; unfold maxLen at this; omega
  by_cases hbig : 1048576 < (n : Int)
  · have hd := decide_eq_true hbig
    go_enter Try.func7, Try.ntmps7
    go_wp2_with fail
    refine (big_c _ _ _ _).mono ?_; rintro e w0 ⟨rfl, rfl⟩
    go_wp2
    go_ret
    exact ⟨rfl, Ext.refl _⟩
  · have hd := decide_eq_false hbig
    obtain ⟨v, hv, Cv⟩ := at_any hC 0 (by omega)
    obtain ⟨u, hu, Cu⟩ := at_any hC 1 (by omega)
    have CV := Lib.hid Cv
    have CU := Lib.hid Cu
    clear Cv Cu
    have um : u.tmod 4 = u % 4 := Int.tmod_eq_emod_of_nonneg hu.1
    go_enter Try.func7, Try.ntmps7
    go_wp2_with fail
    refine (big_c _ _ _ _).mono ?_; rintro e w0 ⟨rfl, rfl⟩
    go_wp2_with fail
    refine (drawGates_c _ _ _ _ hC).mono ?_; rintro e w1 ⟨⟨es, A1, c1, rfl, hG, o1⟩, x1⟩
    obtain ⟨m, hmE⟩ : ∃ m, m = es.length := ⟨_, rfl⟩
    have hm7 : 1 ≤ m ∧ m ≤ 7 := by rw [hmE]; exact hG.1
    obtain ⟨vn, rfl⟩ : ∃ vn : Nat, v = (vn : Int) := ⟨v.toNat, by omega⟩
    obtain ⟨k, hk⟩ : ∃ k, k = vn % m := ⟨_, rfl⟩
    have hkm : k < m := by rw [hk]; exact Nat.mod_lt _ (by omega)
    have vm : (vn : Int).tmod (m : Int) = (k : Int) := by rw [hk, Int.tmod_eq_emod_of_nonneg (by omega)]; simp
    have hm0 : ((m : Int) == 0) = false := by simp; omega
    clear hk
    obtain ⟨T, b1, t1, t2, t3, t4, t5⟩ := take_is hG k (1 + u % 4) (by omega) (by omega)
    obtain ⟨O, b2, r1, r2, r3, r4⟩ := turn_is hG k (1 + u % 4) (by omega) (by omega)
    obtain ⟨H, b3, s1, s2, s3, s4⟩ := hang_is hG k (1 + u % 4) (by omega) (by omega)
    have o1' : Own w1 w.heap.size 38 2 A1 m c1 (Gate.all es) := by rw [hmE]; exact o1
    have CT := take_c A1 m c1 es k (1 + u % 4)
    have CO := turn_c A1 m c1 es k (1 + u % 4)
    have CH := hang_c A1 m c1 es k (1 + u % 4)
    rw [t1] at CT
    rw [r1] at CO
    rw [s1] at CH
    simp only [t2.len, ← hmE] at CT
    simp only [r2.len, ← hmE] at CO
    simp only [s2.len, ← hmE] at CH
    have HG := Lib.hid hG
    have HE := Lib.hid hmE
    have H1 := Lib.hid o1'
    have HT := Lib.hid CT
    have HO := Lib.hid CO
    have HH := Lib.hid CH
    have P1 := Lib.hid t3
    have P2 := Lib.hid t4
    have P3 := Lib.hid t5
    have P4 := Lib.hid t2
    have P5 := Lib.hid r2
    have P6 := Lib.hid r3
    have P7 := Lib.hid r4
    have P8 := Lib.hid s2
    have P9 := Lib.hid s3
    have P10 := Lib.hid s4
    rw [← hmE]
    clear CT CO CH t1 t2 t3 t4 t5 r1 r2 r3 r4 s1 s2 s3 s4 o1 o1' hG hmE
    have hn7 : m ≤ 1048576 := by omega
    go_wp2_with fail
    refine (CV.out _ (by (repeat (first | exact Ext.refl _ | assumption | refine Ext.alloc ?_ _ | refine Ext.drew ?_ | refine Ext.drewN ?_ _ | refine Ext.setCell ?_ (by (try simp only [sizes]); omega) _ | refine Ext.step (by assumption) ?_)))).mono ?_; rintro e w' ⟨rfl, rfl⟩
    go_wp2_with fail
    refine (CU.out _ (by (repeat (first | exact Ext.refl _ | assumption | refine Ext.alloc ?_ _ | refine Ext.drew ?_ | refine Ext.drewN ?_ _ | refine Ext.setCell ?_ (by (try simp only [sizes]); omega) _ | refine Ext.step (by assumption) ?_)))).mono ?_; rintro e w' ⟨rfl, rfl⟩
    go_wp2_with fail
    refine (HT.out _ H1.out.holds hn7).mono ?_; rintro e w2 ⟨A2, c2, rfl, o2, x2⟩
    go_wp2_with fail
    refine (HO.out _ (H1.out.holds.ext x2) hn7).mono ?_; rintro e w3 ⟨A3, c3, rfl, o3, x3⟩
    go_wp2_with fail
    refine (HH.out _ (H1.out.holds.ext (x2.trans x3)) hn7).mono ?_; rintro e w4 ⟨A4, c4, rfl, o4, x4⟩
    have x14 : Ext w1 w4 := (x2.trans x3).trans x4
    have xw4 : Ext w w4 := x1.trans x14
    obtain ⟨a1, f1, rfl, l1, d1⟩ := Gate.where_ (H1.out.holds.ext x14) (by omega)
    obtain ⟨a2, f2, rfl, l2, d2⟩ := Gate.where_ (o2.holds.ext (x3.trans x4)) (by omega)
    obtain ⟨a3, f3, rfl, l3, d3⟩ := Gate.where_ (o3.holds.ext x4) (by omega)
    obtain ⟨a4, f4, rfl, l4, d4⟩ := Gate.where_ o4.holds (by omega)
    have HX := Lib.hid (H1.out.holds.ext x14)
    have TX := Lib.hid (o2.holds.ext (x3.trans x4))
    have D1 := Lib.hid d1
    have D2 := Lib.hid d2
    have D3 := Lib.hid d3
    have D4 := Lib.hid d4
    have k0 : (0 : Int) ≤ (k : Int) := by omega
    have k1 : (k : Int) < (m : Int) := by omega
    clear d1 d2 d3 d4 o2 o3 o4 H1 HT HO HH CV CU vm x2 x3 x4 x14
    go_upto_region 9 with fail
    go_cut [109] from 51 to 109 (fun s109 wx => s109 = .bool false ∧ w4 = wx)
    case first =>
      obtain ⟨e0, e1⟩ := D1.out k hkm
      have q1 : ((Gate.at_ es k).f1 == 0) = b1 := P1.out.symm
      have q2 : ((Gate.at_ es k).f1 == 1 + u % 4) = b2 := P6.out.symm
      have q9 : b3 = (b2 && !(Gate.at_ es k).f0) := by rw [← q2]; exact P9.out
      cases b2
      · obtain rfl : b3 = false := q9
        go_wp2_with fail
        go_meet
        exact ⟨rfl, rfl⟩
      · have q3 : (!(Gate.at_ es k).f0) = b3 := by rw [q9, Bool.true_and]
        clear q9
        go_wp2_with fail
        go_meet
        exact ⟨rfl, rfl⟩
    case rest =>
      obtain ⟨rfl, rfl⟩ := hcut
      go_upto_region 11 with fail
      go_cut [146] from 110 to 146 (fun s146 wx => s146 = .bool false ∧ ∃ y : After w4, wx = y.now)
      case first =>
        have KC := key_cases _ _ (Gate.at_ es k).f0 b1 b2 b3 (by omega) P1.out P6.out P9.out
        have E0 := After.got (D1.out k hkm).1
        have E1 := After.got (D1.out k hkm).2
        have T1 := After.got (D2.out k hkm).2
        have O0 := After.got (D3.out k hkm).1
        have H1 := After.got (D4.out k hkm).2
        refine wp_region_after w4 (Ext.refl _) (by kernel_rfl) (by kernel_rfl) ?_
        rcases KC with ⟨rfl, q1, rfl, q2, rfl⟩ | ⟨rfl, q1, rfl, q2, rfl⟩ | ⟨rfl, q1, rfl, q2, rfl, q3⟩ | ⟨rfl, q1, rfl, q2, rfl, q3⟩
        · ((repeat (go_big_quiet_step (fail))); refine wpQuiet_nil ?_; intro _ hw'; obtain ⟨y, hw''⟩ := hw'; subst hw'')
          go_wp2_with fail
          go_meet
          exact ⟨rfl, y, rfl⟩
        · rw [P2.out rfl] at T1
          ((repeat (go_big_quiet_step (fail))); refine wpQuiet_nil ?_; intro _ hw'; obtain ⟨y, hw''⟩ := hw'; subst hw'')
          go_wp2_with fail
          go_meet
          exact ⟨rfl, y, rfl⟩
        · rw [P7.out rfl] at O0
          rw [P10.out rfl] at H1
          ((repeat (go_big_quiet_step (fail))); refine wpQuiet_nil ?_; intro _ hw'; obtain ⟨y, hw''⟩ := hw'; subst hw'')
          go_wp2_with fail
          go_meet
          exact ⟨rfl, y, rfl⟩
        · rw [P7.out rfl] at O0
          ((repeat (go_big_quiet_step (fail))); refine wpQuiet_nil ?_; intro _ hw'; obtain ⟨y, hw''⟩ := hw'; subst hw'')
          go_wp2_with fail
          go_meet
          exact ⟨rfl, y, rfl⟩
      case rest =>
        obtain ⟨rfl, y, rfl⟩ := hcut
        clear P1 P2 P6 P7 P9 P10
        go_wp2_with fail
        go_loopw [12] (fun i wr => ∃ j : Nat, j ≤ m ∧ i = .int .i64 j ∧ Ext w4 wr) (fun i _ => m - (intOf i).toNat)
        case atStart => exact ⟨0, Nat.zero_le _, rfl, y.ext⟩
        case round =>
          obtain ⟨j, hj, rfl, hxr⟩ := hrel
          by_cases hlt : j < m
          · have dj : decide (j < m) = true := decide_eq_true hlt
            have j0 : (0 : Int) ≤ (j : Int) := by omega
            have j1 : (j : Int) < (m : Int) := by omega
            go_upto_region 16 with fail
            refine wp_region_after wr (Ext.refl _) (by kernel_rfl) (by kernel_rfl) ?_
            by_cases hjk : j = k
            · have hne : ((j : Int) != (k : Int)) = false := by simp [hjk]
              have HJ := Lib.hid hjk
              clear hjk
              ((repeat (go_big_quiet_step (fail))); refine wpQuiet_nil ?_; intro _ hw'; obtain ⟨y2, hw''⟩ := hw'; subst hw'')
              go_wp2_with fail
              go_roundw
              case rel => exact ⟨j + 1, by omega, by go_num, hxr.trans y2.ext⟩
              case measure => simp [intOf]; omega
            · have hne : ((j : Int) != (k : Int)) = true := by simp; omega
              have E0 := After.got (hxr.got (D1.out j hlt).1)
              have E1 := After.got (hxr.got (D1.out j hlt).2)
              have T0 := After.got (hxr.got (D2.out j hlt).1)
              have T1 := After.got (hxr.got (D2.out j hlt).2)
              have O0 := After.got (hxr.got (D3.out j hlt).1)
              have O1 := After.got (hxr.got (D3.out j hlt).2)
              have H0 := After.got (hxr.got (D4.out j hlt).1)
              have H1 := After.got (hxr.got (D4.out j hlt).2)
              have hle : j < es.length := by have := HE.out; omega
              rw [P4.out.other j hle hjk] at T0 T1
              rw [P5.out.other j hle hjk] at O0 O1
              rw [P8.out.other j hle hjk] at H0 H1
              ((repeat (go_big_quiet_step (fail))); refine wpQuiet_nil ?_; intro _ hw'; obtain ⟨y2, hw''⟩ := hw'; subst hw'')
              go_wp2_with fail
              go_roundw
              case rel => exact ⟨j + 1, by omega, by go_num, hxr.trans y2.ext⟩
              case measure => simp [intOf]; omega
          · obtain rfl : m = j := by omega
            clear P4 P5 P8 D3 D4
            go_wp2_with fail
            go_loopw [13, 14] (fun s i wq => ∃ q : Nat, q ≤ 6 ∧ i = .int .i64 q ∧ s = .int .i64 (keySum es q) ∧ Ext w4 wq) (fun _ i _ => 6 - (intOf i).toNat)
            case atStart => exact ⟨0, by omega, rfl, rfl, hxr⟩
            case round =>
              obtain ⟨q, hq, rfl, rfl, hxq⟩ := hrel
              have kb := keySum_bd es q
              by_cases hlt : q < 6
              · have dq : decide ((q : Int) ≤ 5) = true := decide_eq_true (by omega)
                have kl := keysF_len es q
                have KS := Lib.hid (show keySum es (q + 1) = keySum es q + ((keysF es (q : Int)).length : Int) from rfl)
                go_wp2_with (go_at_call 26; refine (keysOf_c _ _ _ es q _ (HX.out.ext hxq)).mono ?_; rintro e w6 ⟨A6, c6, rfl, o6, x6⟩)
                go_roundw
                case rel => exact ⟨q + 1, by omega, by go_num, by rw [KS.out], hxq.trans x6⟩
                case measure => simp [intOf]; omega
              · obtain rfl : q = 6 := by omega
                have hk6 := (keySum_all HG.out).trans (by rw [← HE.out] : (es.length : Int) = (m : Int))
                rw [hk6]
                clear kb hk6
                go_wp2_with fail
                refine (openGates_c _ _ _ es _ (HX.out.ext hxq)).mono ?_; rintro e w7 ⟨A7, c7, rfl, o7, x7⟩
                have O7 := Lib.hid o7
                have X7 := hxq.trans x7
                clear o7 x7
                go_wp2_with fail
                go_loopw [16] (fun i wr => ∃ j : Nat, j ≤ m ∧ i = .int .i64 j ∧ Ext w7 wr) (fun i _ => m - (intOf i).toNat)
                case atStart => exact ⟨0, Nat.zero_le _, rfl, Ext.refl _⟩
                case round =>
                  obtain ⟨j, hj, rfl, hxs⟩ := hrel
                  have hxs4 := X7.trans hxs
                  by_cases hlt : j < m
                  · have dj : decide (j < m) = true := decide_eq_true hlt
                    have j0 : (0 : Int) ≤ (j : Int) := by omega
                    have j1 : (j : Int) < (m : Int) := by omega
                    have e0 := hxs4.got (D1.out j hlt).1
                    have e1 := hxs4.got (D1.out j hlt).2
                    have hle : j < es.length := by have := HE.out; omega
                    have HO := Lib.hid (open_has HG.out j hle)
                    have HK := Lib.hid (key_has HG.out j hle)
                    have HXs := Lib.hid (HX.out.ext hxs4)
                    have HOs := Lib.hid (O7.out.holds.ext hxs)
                    generalize (Gate.at_ es j).f0 = b0 at *
                    generalize (Gate.at_ es j).f1 = k0 at *
                    have hself : (b0 != b0) = false := by cases b0 <;> rfl
                    go_wp2_with fail
                    go_region_held3 (fun w' => w'.cell? ⟨a1, f1 + j * 2, none⟩ = some (.bool b0) ∧ w'.cell? ⟨a1, f1 + j * 2 + 1, none⟩ = some (.int .i64 k0)) (first | go_keep | (refine ⟨?_, ?_⟩ <;> assumption)) (first | (go_at_call_of 28 (Value.slice A7 (openF es).length c7); refine (has_c _ _ _ (openF es) (j : Int) _ (HOs.out.ext (by (repeat (first | exact Ext.refl _ | assumption | refine Ext.alloc ?_ _ | refine Ext.drew ?_ | refine Ext.drewN ?_ _ | refine Ext.setCell ?_ (by (try simp only [sizes]); omega) _ | refine Ext.step (by assumption) ?_)))) b0 HO.out).mono ?_; rintro e w' ⟨rfl, rfl⟩) | (go_at_call 26; refine (keysOf_c _ _ _ es k0 _ (HXs.out.ext (by (repeat (first | exact Ext.refl _ | assumption | refine Ext.alloc ?_ _ | refine Ext.drew ?_ | refine Ext.drewN ?_ _ | refine Ext.setCell ?_ (by (try simp only [sizes]); omega) _ | refine Ext.step (by assumption) ?_))))).mono ?_; rintro e w9 ⟨A9, c9, rfl, o9, x9⟩; have xx9 := Ext.trans (a := wr) (by (repeat (first | exact Ext.refl _ | assumption | refine Ext.alloc ?_ _ | refine Ext.drew ?_ | refine Ext.drewN ?_ _ | refine Ext.setCell ?_ (by (try simp only [sizes]); omega) _ | refine Ext.step (by assumption) ?_))) x9; have e2 := xx9.got e0; have e3 := xx9.got e1) | (go_at_call 28; refine (has_c _ _ _ (keysF es k0) (j : Int) _ (o9.holds) true ⟨fun _ => HK.out, fun _ => rfl⟩).mono ?_; rintro e w' ⟨rfl, rfl⟩))
                    all_goals
                      go_wp2_with fail
                      go_roundw
                      case rel => exact ⟨j + 1, by omega, by go_num, hxs.trans xx9⟩
                      case measure => simp [intOf]; omega
                  · obtain rfl : m = j := by omega
                    have CG0 := gatesOk_c (some ⟨a2, f2, none⟩) m c2 T wr (TX.out.ext hxs4)
                    rw [P3.out] at CG0
                    have CG := Lib.hid CG0
                    clear CG0
                    go_wp2_with fail
                    refine CG.out.mono ?_; rintro e w9 ⟨rfl, x9⟩
                    go_wp2
                    go_ret
                    exact ⟨rfl, (xw4.trans hxs4).trans x9⟩
theorem lawGatesZ (A : Option Addr) (n c : Nat) (zs : List Int) (w : World) (h : Holds w 1 A n c (zs.map (Value.int .u8)) ∧ ∀ z ∈ zs, 0 ≤ z ∧ z ≤ 255) : Calls Try.prog 7 #[.slice A n c] w (Ans (.bool true) w) :=
  lawGates A n c w ⟨zs, h⟩

namespace fnGates
open Go.ChangeShapes Go.WideShapes Go.ChangeAt Go.RowKit Go.Joins
set_option linter.unusedVariables false
set_option maxRecDepth 100000 in
theorem lifted (os : Os) (started : os.Started) (H : Type) (enc : TypeId × Value → H) :
    ReturnsInHanded {} Try.checked os 7 .any (Rows.fnGatesSpec.pre6 enc Try.prog Try.f7 Rows.fnGatesRow.domain false) (Rows.fnGatesSpec.post enc Try.prog Try.f7 false true false false) := by
  refine returnsInHanded_of_change (C := Try.checked) own started (by kernel_rfl) Try.func7
    (ChangeSpec.witness6 (enc := enc) (C := Try.checked) false ⟨#[], #[.slice none 0 0], []⟩ 8 (by kernel_rfl) (by kernel_rfl) (by kernel_rfl) (by kernel_rfl)) ?_
  intro W base args ds gs before hval0 hW hcnd _
  have hval : ∀ (j : Nat) t v, Try.f7.params[j]? = some t → args[j]? = some v → Value.okWide Try.prog W .any base t v := hval0
  have hW' := hW
  obtain ⟨p, q, hA0, hV, rfl, hfz, hnd⟩ := hW
  have hA : DataW.TrodAll enc Try.prog W 0 (fun _ => true) true Try.f7.params.toList args.toList ds p := hA0
  rw [Try.params7] at hA hval
  obtain ⟨v0, vs0, d0, ds0, p0, q0, hargs, rfl, rfl, h0, r0⟩ := trodAll_cons hA
  obtain ⟨rfl, rfl, rfl⟩ := trodAll_nil r0
  obtain rfl : args = #[v0] := by cases args; simp_all
  obtain ⟨rfl, rfl⟩ := trodVars_none hV
  have k0 := h0
  have lt0 : ∀ x ∈ p0, x.block < W.heap.size := by obtain ⟨m, hm⟩ := k0; exact DataW.trod_lt m _ _ _ hm
  obtain ⟨a0, n0, c0, rfl⟩ := okWide_slice Try.underlying33 (hval 0 33 v0 rfl rfl)
  obtain ⟨z0, s0⟩ := bytes_in Try.underlying33 Try.underlying5 (by kernel_rfl) h0
  clear hA0 hval0
  refine (lawGatesZ a0 n0 c0 z0 W s0).mono fun e W' ⟨he, bel⟩ => ?_
  subst he
  exact ⟨_, rfl, _, _, _, [], _, [], hW', trodAll_mk1 (shut_bool Try.underlying4 _), (trodAll_cons_mk (Below.trod laidOut (by kernel_rfl) (of_decide_eq_true (by kernel_rfl)) k0 bel lt0) trodAll_mk0), rfl, bel.frame _, fun h => by cases h⟩

theorem over : Rows.fnGatesRow.holds Try.pinned (OpenSpec.ofChange Rows.fnGatesSpec) :=
  OpenClaim.holds_of_wide 7 Try.f7 rfl rfl rfl rfl rfl rfl rfl ⟨rfl, rfl, rfl, rfl, rfl⟩ rfl rfl rfl rfl rfl (by kernel_rfl) Try.func7 (by kernel_rfl)
    (of_decide_eq_true (by kernel_rfl)) (by unfold Func.isWrapper; first | (rw [if_pos (by decide +kernel)]; kernel_rfl) | (rw [if_neg (by decide +kernel)]; exact ⟨rfl, rfl⟩))
    (fun os started H enc _ => lifted os started H enc)
theorem proved : Rows.FnGatesSaid := over
end fnGates

end Go.Proofs.Ytbbhchdpaocljaa
