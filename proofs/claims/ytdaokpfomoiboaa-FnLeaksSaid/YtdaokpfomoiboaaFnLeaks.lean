/-
  The law FnLeaks is proved: for every code a leak ends at its hole, and its rate can be read from its levels; the code reads as it did. Conditions: none.
-/
import Derived.Test.YtdaokpfomoiboaaRow
import Derived.Test.YtdaokpfomoiboaaLeakDraw
import Derived.Deep.QuietTactic
import Derived.Deep.DeepCutAuto
import Derived.IntWalk
namespace Go.Proofs.Ytdaokpfomoiboaa
open Go.RowKit

theorem tankOk_a (r l h t : Int) (w : World) : Calls Try.prog 11 #[tankV r l h t] w (Ans (.bool (tankB r l h t)) w) :=
  (tankOk_c r l h t w).mono fun _ _ ⟨he, hw⟩ => ⟨he, by subst hw; (repeat (first | exact Ext.refl _ | assumption | refine Ext.alloc ?_ _ | refine Ext.drew ?_ | refine Ext.drewN ?_ _ | refine Ext.setCell ?_ (by (try simp only [sizes]); omega) _ | refine Ext.step (by assumption) ?_))⟩
set_option maxRecDepth 100000 in
set_option maxHeartbeats 3200000 in
theorem lawLeaks (A : Option Addr) (n c : Nat) (w : World) (hC : Code8 w A n c) : Calls Try.prog 8 #[.slice A n c] w (Ans (.bool true) w) := by
  have hm : n ≤ 9223372036854775807 := by obtain ⟨zs, h1, _⟩ := hC; have := h1.2.1; have := h1.2.2.1; unfold maxLen at this; omega
  by_cases hbig : 1048576 < (n : Int)
  · have hd := decide_eq_true hbig
    go_enter Try.func8, Try.ntmps8
    go_wp2_with fail
    refine (big_c _ _ _ _).mono ?_; rintro e w0 ⟨rfl, rfl⟩
    go_wp2
    go_ret
    exact ⟨rfl, Ext.refl _⟩
  · have hd := decide_eq_false hbig
    obtain ⟨v, hv, Cv⟩ := at_any hC 0 (by omega)
    have CV := Lib.hid Cv
    clear Cv
    have tm : v.tmod 40 = v % 40 := Int.tmod_eq_emod_of_nonneg hv.1
    go_enter Try.func8, Try.ntmps8
    go_wp2_with fail
    refine (big_c _ _ _ _).mono ?_; rintro e w0 ⟨rfl, rfl⟩
    go_wp2_with fail
    refine (drawTank_c _ _ _ _ hC).mono ?_; rintro e w1 ⟨⟨r, l, h, t, rfl, hT⟩, x1⟩
    have HT := Lib.hid hT
    obtain ⟨q, hq⟩ : ∃ q, q = lv l h t 1 := ⟨_, rfl⟩
    have e1 := rest_is hT
    have e2 := lost_is hT
    have e3 := level_is hT (n := 1) (by omega)
    have e4 := level_is hT (n := v % 40) (by omega)
    have e5 := level_is hT (n := v % 40 + 1) (by omega)
    have e6 := (level_is (lv_tank hT) (n := v % 40) (by omega)).trans (lv_next hT (n := v % 40) (by omega))
    have e7 := tnk_ok (lv_tank hT)
    have C1 := Lib.hid (fun w => e1 ▸ e2 ▸ leakHour_c r l h t w)
    have C2 := Lib.hid (fun w => e3 ▸ levelAfter_c r l h t 1 w)
    have C3 := Lib.hid (fun w => e4 ▸ levelAfter_c r l h t (v % 40) w)
    have C4 := Lib.hid (fun w => e5 ▸ levelAfter_c r l h t (v % 40 + 1) w)
    have C5 := Lib.hid (fun w => e6 ▸ levelAfter_c r (lv l h t 1) h t (v % 40) w)
    have C6 := Lib.hid (fun w => e7 ▸ tankOk_a r (lv l h t 1) h t w)
    clear e1 e2 e3 e4 e5 e6 e7
    have q1 := lv_bd hT (n := 1) (by omega)
    have a1 := lv_bd hT (n := v % 40) (by omega)
    rw [← hq] at C1 C2 C5 C6 q1
    have HQ := Lib.hid hq
    clear hq
    obtain ⟨a, ha⟩ : ∃ a, a = lv l h t (v % 40) := ⟨_, rfl⟩
    rw [← ha] at C3 a1
    have HA := Lib.hid ha
    clear ha
    have T5 := hT
    unfold Tnk at T5
    clear hT
    have d1 : decide (l - q < 0) = false := decide_eq_false (by omega)
    have d2 : decide (a < min l h) = false := decide_eq_false (by omega)
    have d3 : decide (l < a) = false := decide_eq_false (by omega)
    go_wp2_with fail
    refine (C1.out _).mono ?_; rintro e w2 ⟨rfl, hx⟩; have hl := hx.len; (try simp only [sizes] at hl); obtain ⟨⟨hc, hf⟩, hb1, hb2, hb3, hb4, hb5, hb6, hb7⟩ := hx.blk w1.heap.size (by (try simp only [sizes]); omega)
    go_wp2_with (go_at_call 27; refine (CV.out _ (by (repeat (first | exact Ext.refl _ | assumption | refine Ext.alloc ?_ _ | refine Ext.drew ?_ | refine Ext.drewN ?_ _ | refine Ext.setCell ?_ (by (try simp only [sizes]); omega) _ | refine Ext.step (by assumption) ?_)))).mono ?_; rintro e w' ⟨rfl, rfl⟩)
    refine (C3.out _).mono ?_; rintro e w3 ⟨rfl, hx⟩; have hl := hx.len; (try simp only [sizes] at hl); obtain ⟨⟨hc, hf⟩, hb1, hb2, hb3, hb4, hb5, hb6, hb7⟩ := hx.blk w1.heap.size (by (try simp only [sizes]); omega); obtain ⟨⟨hc, hf⟩, hb1, hb2, hb3, hb4, hb5, hb6, hb7⟩ := hx.blk w2.heap.size (by (try simp only [sizes]); omega)
    have p0 : w3.cell? ⟨w1.heap.size, 0, none⟩ = some (.int .i64 r) := by simp [go_sem, *]
    have p1 : w3.cell? ⟨w1.heap.size, 1, none⟩ = some (.int .i64 l) := by simp [go_sem, *]
    have p2 : w3.cell? ⟨w1.heap.size, 2, none⟩ = some (.int .i64 h) := by simp [go_sem, *]
    have p3 : w3.cell? ⟨w1.heap.size, 3, none⟩ = some (.int .i64 t) := by simp [go_sem, *]
    have q0 : w3.cell? ⟨w2.heap.size, 0, none⟩ = some (.int .i64 r) := by simp [go_sem, *]
    have q1 : w3.cell? ⟨w2.heap.size, 1, none⟩ = some (.int .i64 q) := by simp [go_sem, *]
    have q2 : w3.cell? ⟨w2.heap.size, 2, none⟩ = some (.int .i64 h) := by simp [go_sem, *]
    have q3 : w3.cell? ⟨w2.heap.size, 3, none⟩ = some (.int .i64 t) := by simp [go_sem, *]
    have P0 := After.got p0; have P1 := After.got p1; have P2 := After.got p2; have P3 := After.got p3; have Q0 := After.got q0; have Q1 := After.got q1; have Q2 := After.got q2; have Q3 := After.got q3
    have x3 : Ext w w3 := by (repeat (first | exact Ext.refl _ | assumption | refine Ext.alloc ?_ _ | refine Ext.drew ?_ | refine Ext.drewN ?_ _ | refine Ext.setCell ?_ (by (try simp only [sizes]); omega) _ | refine Ext.step (by assumption) ?_))
    clear q0 q1 q2 q3 hc hf
    go_upto_region 7 with fail
    have s1 : IntKind.i64.wrap (q + (l - q)) = l := by rw [show q + (l - q) = l by omega]; exact IntWalk.i64_in _ (by omega)
    have s2 : IntKind.i64.wrap (v % 40 + 1) = v % 40 + 1 := IntWalk.i64_in _ (by omega)
    go_cut [79] (fun s79 wx => s79 = .bool false ∧ ∃ y : After w3, wx = y.now)
    case first =>
      (refine wp_region_after w3 (Ext.refl _) (by kernel_rfl) (by kernel_rfl) ?_; (repeat (go_big_quiet_step (first | (go_at_call 11; exact after_call (C6.out _)) | (go_at_call 16; (with_reducible first | exact after_call (C2.out _) | exact after_call (C4.out _) | exact after_call (C5.out _)))))); refine wpQuiet_nil ?_; intro _ hw'; obtain ⟨y, hw''⟩ := hw'; subst hw'')
      go_wp2_with fail
      go_meet
      exact ⟨rfl, y, rfl⟩
    case rest =>
      clear s1 s2
      obtain ⟨rfl, z, rfl⟩ := hcut
      obtain ⟨V, hV⟩ : ∃ V, V = z.now := ⟨_, rfl⟩
      have p0 : V.cell? ⟨w1.heap.size, 0, none⟩ = some (.int .i64 r) := by rw [hV]; exact P0 z
      have p1 : V.cell? ⟨w1.heap.size, 1, none⟩ = some (.int .i64 l) := by rw [hV]; exact P1 z
      have p2 : V.cell? ⟨w1.heap.size, 2, none⟩ = some (.int .i64 h) := by rw [hV]; exact P2 z
      have p3 : V.cell? ⟨w1.heap.size, 3, none⟩ = some (.int .i64 t) := by rw [hV]; exact P3 z
      have q1' : V.cell? ⟨w2.heap.size, 1, none⟩ = some (.int .i64 q) := by rw [hV]; exact Q1 z
      have xV : Ext w V := by rw [hV]; exact x3.trans z.ext
      have hV1 : w1.heap.size < V.heap.size := World.block_lt_of_cell? V _ p0
      have hV2 : w2.heap.size < V.heap.size := World.block_lt_of_cell? V _ q1'
      rw [← hV]
      clear hV P0 P1 P2 P3 Q0 Q1 Q2 Q3
      go_wp2_with fail
      go_loopw [8, 9] (fun s i wr => ∃ (k : Nat) (A' : Option Addr) (c' : Nat), k ≤ 100 ∧ i = .int .i64 k ∧ s = .slice A' k c' ∧ Own wr V.heap.size 3 1 A' k c' (ints (lvs l h t k)) ∧ Ext V wr) (fun _ i _ => 100 - (intOf i).toNat)
      case atStart => exact ⟨0, _, 0, Nat.zero_le _, rfl, rfl, Own.lit (cs := #[]) (heap_alloc_new _ _) (by omega) rfl, by (repeat (first | exact Ext.refl _ | assumption | refine Ext.alloc ?_ _ | refine Ext.drew ?_ | refine Ext.drewN ?_ _ | refine Ext.setCell ?_ (by (try simp only [sizes]); omega) _ | refine Ext.step (by assumption) ?_))⟩
      case round =>
        obtain ⟨k, A', c', hk, rfl, rfl, ho, hx⟩ := hrel
        have u0 := hx.got p0; have u1 := hx.got p1; have u2 := hx.got p2; have u3 := hx.got p3
        by_cases hlt : k < 100
        · have dk : decide ((k : Int) < 100) = true := decide_eq_true (by omega)
          have e4 := level_is HT.out (n := (k : Int)) (by omega)
          have CK := Lib.hid (fun w => e4 ▸ levelAfter_c r l h t k w)
          clear e4
          go_wp2_with (first | (go_at_call 16; refine (CK.out _).mono ?_; rintro e w4 ⟨rfl, hx⟩; have hl := hx.len; (try simp only [sizes] at hl)) | (at_builtin; refine wpList_push V (by (repeat (first | exact Ext.refl _ | assumption | refine Ext.alloc ?_ _ | refine Ext.drew ?_ | refine Ext.drewN ?_ _ | refine Ext.setCell ?_ (by (try simp only [sizes]); omega) _ | refine Ext.step (by assumption) ?_))) rfl _ _ _ rfl 3 (.int .i64 0) 1 8 intInfo Try.underlying33 rfl (by omega) _ _ _ _ rfl (Own.ext ho (by (repeat (first | exact Ext.refl _ | assumption | refine Ext.alloc ?_ _ | refine Ext.drew ?_ | refine Ext.drewN ?_ _ | refine Ext.setCell ?_ (by (try simp only [sizes]); omega) _ | refine Ext.step (by assumption) ?_)))) _ _ _ rfl (by exact heap_last (by first | rfl | simp)) rfl (by simp [Value.oneCell']) (by omega) (by omega) ?_; intro A2 c2 w2 ho2 hx2))
          have e1 : lvs l h t (k + 1) = _ := lvs_succ l h t k
          have HO := Lib.hid ho2
          clear ho2 ho
          go_wp2
          go_roundw
          case rel => exact ⟨k + 1, A2, c2, by omega, by go_num, by rfl, by rw [e1, ← ints_snoc]; exact HO.out, hx2⟩
          case measure => simp [intOf]; omega
        · obtain rfl : k = 100 := by omega
          have HO := Lib.hid ho
          obtain ⟨g, rfl, hg1, hg2⟩ := ho.form (by omega)
          have c98 : wr.cell? ⟨g, 98, none⟩ = some (.int .i64 (lv l h t 98)) := (World.ownsRow.cellAt ho 98 (by omega)).trans ((ints_get _ 98 (by rw [lvs_len]; omega)).trans (by rw [lvs_nth _ _ _ _ _ (by omega)]; rfl))
          have c99 : wr.cell? ⟨g, 99, none⟩ = some (.int .i64 (lv l h t 99)) := (World.ownsRow.cellAt ho 99 (by omega)).trans ((ints_get _ 99 (by rw [lvs_len]; omega)).trans (by rw [lvs_nth _ _ _ _ _ (by omega)]; rfl))
          have l98 := lv_bd HT.out (n := 98) (by omega)
          have l99 := lv_bd HT.out (n := 99) (by omega)
          have hc100 := HO.out.cap
          have hgV : w1.heap.size ≠ g := by omega
          clear ho
          go_wp2_with fail
          have hlit := Own.lit (w := wr.alloc (.cells #[.int .i64 t, .int .i64 1000] 3)) (base := wr.heap.size) (e := 3) (k := 1) (n := 2) (cs := #[.int .i64 t, .int .i64 1000]) (heap_alloc_new _ _) (by unfold maxLen; omega) (by simp)
          have hlit' : Holds (wr.alloc (.cells #[.int .i64 t, .int .i64 1000] 3)) 1 (some ⟨wr.heap.size, 0, none⟩) 2 2 (ints [t, 1000]) := hlit.holds
          refine (poss_c _ _ _ _ _ _ (lvs l h t 100) [t, 1000] _ (HO.out.holds.ext (by (repeat (first | exact Ext.refl _ | assumption | refine Ext.alloc ?_ _ | refine Ext.drew ?_ | refine Ext.drewN ?_ _ | refine Ext.setCell ?_ (by (try simp only [sizes]); omega) _ | refine Ext.step (by assumption) ?_)))) hlit').mono ?_; rintro e w5 ⟨A5, c5, rfl, o5, x5⟩
          have hx5 : Ext wr w5 := Ext.trans (by (repeat (first | exact Ext.refl _ | assumption | refine Ext.alloc ?_ _ | refine Ext.drew ?_ | refine Ext.drewN ?_ _ | refine Ext.setCell ?_ (by (try simp only [sizes]); omega) _ | refine Ext.step (by assumption) ?_))) x5
          clear hlit hlit' x5
          have c98 := hx5.got c98; have c99 := hx5.got c99
          replace u0 := hx5.got u0; replace u1 := hx5.got u1; replace u2 := hx5.got u2; replace u3 := hx5.got u3
          have q5 := hx5.got (hx.got q1')
          have O5 := Lib.hid o5
          clear o5
          go_wp2_with ((go_at_call 28; refine (has_c _ _ _ _ _ _ O5.out.holds true ⟨fun _ => poss_first HT.out, fun _ => rfl⟩).mono ?_; rintro e w' ⟨rfl, rfl⟩))
          refine (guess_c _ _ _ (lvs l h t 100) _ (HO.out.holds.ext hx5)).mono ?_; rintro e w6 ⟨rfl, x6⟩
          have x65 := hx5.trans x6
          replace c98 := x6.got c98; replace c99 := x6.got c99
          replace u0 := x6.got u0; replace u1 := x6.got u1; replace u2 := x6.got u2; replace u3 := x6.got u3
          replace q5 := x6.got q5
          obtain ⟨gh, gr, gb, hgv⟩ : ∃ gh gr gb, guessV (lvs l h t 100) = .tuple #[.int .i64 gh, .int .i64 gr, .bool gb] ∧ (lv l h t 99 = lv l h t 98 → gh = lv l h t 99 ∧ gr = l - q ∧ gb = true) := by
            by_cases he : lv l h t 99 = lv l h t 98
            · exact ⟨_, _, _, guess_full HT.out he, fun _ => ⟨rfl, by rw [HQ.out], rfl⟩⟩
            · exact ⟨_, _, _, rfl, fun c => absurd c he⟩
          obtain ⟨hgv, hgs⟩ := hgv
          rw [hgv]
          have G98 := After.got c98; have G99 := After.got c99; have U1 := After.got u1; have Q5 := After.got q5
          clear hgv
          go_upto_region 18 with fail
          have s3 : IntKind.i64.wrap (l - q) = l - q := IntWalk.i64_in _ (by omega)
          go_cut [131] (fun s131 wx => s131 = .bool false ∧ ∃ y : After w6, wx = y.now)
          case first =>
            by_cases he : lv l h t 99 = lv l h t 98
            · obtain ⟨rfl, rfl, rfl⟩ := hgs he
              have heB : (lv l h t 99 == lv l h t 98) = true := by simp [he]
              have HE := Lib.hid he
              clear he hgs
              (refine wp_region_after w6 (Ext.refl _) (by kernel_rfl) (by kernel_rfl) ?_; (repeat (go_big_quiet_step (fail))); refine wpQuiet_nil ?_; intro _ hw'; obtain ⟨y, hw''⟩ := hw'; subst hw'')
              go_wp2_with fail
              go_meet
              exact ⟨rfl, y, rfl⟩
            · have heB : (lv l h t 99 == lv l h t 98) = false := by simp [he]
              clear he hgs
              (refine wp_region_after w6 (Ext.refl _) (by kernel_rfl) (by kernel_rfl) ?_; (repeat (go_big_quiet_step (fail))); refine wpQuiet_nil ?_; intro _ hw'; obtain ⟨y, hw''⟩ := hw'; subst hw'')
              go_wp2_with fail
              go_meet
              exact ⟨rfl, y, rfl⟩
          case rest =>
            obtain ⟨rfl, y6, rfl⟩ := hcut
            clear s3 hgs
            have x7 := x65.trans y6.ext
            replace c99 := y6.ext.got c99
            replace u0 := y6.ext.got u0; replace u1 := y6.ext.got u1; replace u2 := y6.ext.got u2; replace u3 := y6.ext.got u3
            have hpre : Holds y6.now 1 (some ⟨g, 0, none⟩) 2 c' (ints ((lvs l h t 100).take 2)) := by
              have := (HO.out.holds.ext x7).pre (i := 2) (by omega)
              rwa [ints_take] at this
            have hl2 : ((lvs l h t 100).take 2).length = 2 := by rw [List.length_take, lvs_len]; rfl
            have CG0 := guess_c (some ⟨g, 0, none⟩) 2 c' ((lvs l h t 100).take 2) y6.now hpre
            rw [guess_few _ hl2] at CG0
            have CG := Lib.hid CG0
            clear hpre hl2 CG0
            go_wp2_with fail
            refine CG.out.mono ?_; rintro e w8 ⟨rfl, x8⟩
            replace c99 := x8.got c99
            replace u0 := x8.got u0; replace u1 := x8.got u1; replace u2 := x8.got u2; replace u3 := x8.got u3
            have G99 := After.got c99; have U1 := After.got u1; have U2 := After.got u2; have U3 := After.got u3
            have xend : Ext w w8 := (xV.trans (hx.trans x7)).trans x8
            have s4 : IntKind.i64.wrap (99 * t) = 99 * t := IntWalk.i64_in _ (by omega)
            have s5 : IntKind.i64.wrap (l - 99 * t) = l - 99 * t := IntWalk.i64_in _ (by omega)
            by_cases b1 : l ≤ h
            · have b1d := decide_eq_true b1
              go_upto_region 21 with fail
              (refine wp_region_after w8 (Ext.refl _) (by kernel_rfl) (by kernel_rfl) ?_; (repeat (go_big_quiet_step (fail))); refine wpQuiet_nil ?_; intro _ hw'; obtain ⟨y, hw''⟩ := hw'; subst hw'')
              go_wp2_with fail
              go_ret
              exact ⟨rfl, xend.trans y.ext⟩
            · have b1d := decide_eq_false b1
              have hlast := lv_last HT.out b1
              by_cases b2 : t = 0
              · have b2B : (t == 0) = true := by simp [b2]
                have B2 := Lib.hid b2
                clear b2 hlast
                go_upto_region 21 with fail
                (refine wp_region_after w8 (Ext.refl _) (by kernel_rfl) (by kernel_rfl) ?_; (repeat (go_big_quiet_step (fail))); refine wpQuiet_nil ?_; intro _ hw'; obtain ⟨y, hw''⟩ := hw'; subst hw'')
                go_wp2_with fail
                go_ret
                exact ⟨rfl, xend.trans y.ext⟩
              · have b2B : (t == 0) = false := by simp [b2]
                have b3B : (lv l h t 99 == max h (l - 99 * t)) = true := by simp [hlast]
                clear b2 hlast
                go_upto_region 21 with fail
                (refine wp_region_after w8 (Ext.refl _) (by kernel_rfl) (by kernel_rfl) ?_; (repeat (go_big_quiet_step (fail))); refine wpQuiet_nil ?_; intro _ hw'; obtain ⟨y, hw''⟩ := hw'; subst hw'')
                go_wp2_with fail
                go_ret
                exact ⟨rfl, xend.trans y.ext⟩
theorem lawLeaksZ (A : Option Addr) (n c : Nat) (zs : List Int) (w : World) (h : Holds w 1 A n c (zs.map (Value.int .u8)) ∧ ∀ z ∈ zs, 0 ≤ z ∧ z ≤ 255) : Calls Try.prog 8 #[.slice A n c] w (Ans (.bool true) w) :=
  lawLeaks A n c w ⟨zs, h⟩

namespace fnLeaks
open Go.ChangeShapes Go.WideShapes Go.ChangeAt Go.RowKit Go.Joins
set_option linter.unusedVariables false
set_option maxRecDepth 100000 in
theorem lifted (os : Os) (started : os.Started) (H : Type) (enc : TypeId × Value → H) :
    ReturnsInHanded {} Try.checked os 8 .any (Rows.fnLeaksSpec.pre6 enc Try.prog Try.f8 Rows.fnLeaksRow.domain false) (Rows.fnLeaksSpec.post enc Try.prog Try.f8 false true false false) := by
  refine returnsInHanded_of_change (C := Try.checked) own started (by kernel_rfl) Try.func8
    (ChangeSpec.witness6 (enc := enc) (C := Try.checked) false ⟨#[], #[.slice none 0 0], []⟩ 8 (by kernel_rfl) (by kernel_rfl) (by kernel_rfl) (by kernel_rfl)) ?_
  intro W base args ds gs before hval0 hW hcnd _
  have hval : ∀ (j : Nat) t v, Try.f8.params[j]? = some t → args[j]? = some v → Value.okWide Try.prog W .any base t v := hval0
  have hW' := hW
  obtain ⟨p, q, hA0, hV, rfl, hfz, hnd⟩ := hW
  have hA : DataW.TrodAll enc Try.prog W 0 (fun _ => true) true Try.f8.params.toList args.toList ds p := hA0
  rw [Try.params8] at hA hval
  obtain ⟨v0, vs0, d0, ds0, p0, q0, hargs, rfl, rfl, h0, r0⟩ := trodAll_cons hA
  obtain ⟨rfl, rfl, rfl⟩ := trodAll_nil r0
  obtain rfl : args = #[v0] := by cases args; simp_all
  obtain ⟨rfl, rfl⟩ := trodVars_none hV
  have k0 := h0
  have lt0 : ∀ x ∈ p0, x.block < W.heap.size := by obtain ⟨m, hm⟩ := k0; exact DataW.trod_lt m _ _ _ hm
  obtain ⟨a0, n0, c0, rfl⟩ := okWide_slice Try.underlying41 (hval 0 41 v0 rfl rfl)
  obtain ⟨z0, s0⟩ := bytes_in Try.underlying41 Try.underlying5 (by kernel_rfl) h0
  clear hA0 hval0
  refine (lawLeaksZ a0 n0 c0 z0 W s0).mono fun e W' ⟨he, bel⟩ => ?_
  subst he
  exact ⟨_, rfl, _, _, _, [], _, [], hW', trodAll_mk1 (shut_bool Try.underlying4 _), (trodAll_cons_mk (Below.trod laidOut (by kernel_rfl) (of_decide_eq_true (by kernel_rfl)) k0 bel lt0) trodAll_mk0), rfl, bel.frame _, fun h => by cases h⟩

theorem over : Rows.fnLeaksRow.holds Try.pinned (OpenSpec.ofChange Rows.fnLeaksSpec) :=
  OpenClaim.holds_of_wide 8 Try.f8 rfl rfl rfl rfl rfl rfl rfl ⟨rfl, rfl, rfl, rfl, rfl⟩ rfl rfl rfl rfl rfl (by kernel_rfl) Try.func8 (by kernel_rfl)
    (of_decide_eq_true (by kernel_rfl)) (by unfold Func.isWrapper; first | (rw [if_pos (by decide +kernel)]; kernel_rfl) | (rw [if_neg (by decide +kernel)]; exact ⟨rfl, rfl⟩))
    (fun os started H enc _ => lifted os started H enc)
theorem proved : Rows.FnLeaksSaid := over
end fnLeaks

end Go.Proofs.Ytdaokpfomoiboaa
