/-
  The law FnMixes is proved: for every code mixed water is never saltier than both, and taking some leaves all the salt between both parts; the code reads as it did. Conditions: none.
-/
import Derived.Test.YtiaghlphgbonbaaRow
import Derived.Test.YtiaghlphgbonbaaMixP
import Derived.Test.YtiaghlphgbonbaaMixDraw2
import Derived.Deep.QuietTactic
import Derived.Deep.DeepCutAuto
namespace Go.Proofs.Ytiaghlphgbonbaa
open Go.RowKit

set_option maxRecDepth 100000 in
set_option maxHeartbeats 3200000 in
theorem lawMixes (A : Option Addr) (n c : Nat) (w : World) (hC : Code8 w A n c) : Calls Try.prog 10 #[.slice A n c] w (Ans (.bool true) w) := by
  have hm : n ≤ 9223372036854775807 := by obtain ⟨zs, h1, _⟩ := hC; have := h1.2.1; have := h1.2.2.1; unfold maxLen at this; omega
  by_cases hbig : 1048576 < (n : Int)
  · have hd := decide_eq_true hbig
    go_enter Try.func10, Try.ntmps10
    go_wp2_with fail
    refine (big_c _ _ _ _).mono ?_; rintro e w0 ⟨rfl, rfl⟩
    go_wp2
    go_ret
    exact ⟨rfl, Ext.refl _⟩
  · have hd := decide_eq_false hbig
    go_enter Try.func10, Try.ntmps10
    go_wp2_with fail
    refine (big_c _ _ _ _).mono ?_; rintro e w0 ⟨rfl, rfl⟩
    go_wp2_with fail
    refine (drawMixes_c _ _ _ _ hC).mono ?_; rintro e w1 ⟨a, b, x, y, rfl, ha, hb, x1⟩
    have T : Two a b x y := ⟨ha, hb⟩
    obtain ⟨s, t, hst, s1, s2, s3, s4⟩ := two_three T
    have C1 := Lib.hid (fun w => two_join T ▸ joinMix_c a b x y w)
    have C2 := Lib.hid (fun w => s1 ▸ saltier_c (a + x) (b + y) a b w)
    have C3 := Lib.hid (fun w => s2 ▸ saltier_c (a + x) (b + y) x y w)
    have C4 := Lib.hid (fun w => s3 ▸ saltier_c a b x y w)
    have C5 := Lib.hid (fun w => s4 ▸ saltier_c x y a b w)
    clear s1 s2 s3 s4
    go_wp2_with fail
    refine (C1.out _).mono ?_; rintro e w2 ⟨rfl, hx⟩; have hl := hx.len; (try simp only [sizes] at hl); obtain ⟨⟨hc, hf⟩, hb1, hb2, hb3, hb4, hb5, hb6, hb7⟩ := hx.blk w1.heap.size (by (try simp only [sizes]); omega); obtain ⟨⟨hc, hf⟩, hb1, hb2, hb3, hb4, hb5, hb6, hb7⟩ := hx.blk (w1.heap.size + 1) (by (try simp only [sizes]); omega)
    have T5 := T
    unfold Two at T5
    obtain ⟨W, hW⟩ : ∃ W, W = w2.alloc (.cells #[.int .i64 (a + x), .int .i64 (b + y)] 25) := ⟨_, rfl⟩
    have hxW : Ext w W := by rw [hW]; exact (x1.trans (Ext.trans (by (repeat (first | exact Ext.refl _ | assumption | refine Ext.alloc ?_ _ | refine Ext.drew ?_ | refine Ext.drewN ?_ _ | refine Ext.setCell ?_ (by (try simp only [sizes]); omega) _ | refine Ext.step (by assumption) ?_))) hx)).alloc _
    have p0 : W.cell? ⟨w1.heap.size, 0, none⟩ = some (.int .i64 a) := by rw [hW]; simp [go_sem, *]
    have p1 : W.cell? ⟨w1.heap.size, 1, none⟩ = some (.int .i64 b) := by rw [hW]; simp [go_sem, *]
    have q0 : W.cell? ⟨w1.heap.size + 1, 0, none⟩ = some (.int .i64 x) := by rw [hW]; simp [go_sem, *]
    have q1 : W.cell? ⟨w1.heap.size + 1, 1, none⟩ = some (.int .i64 y) := by rw [hW]; simp [go_sem, *]
    have r0 : W.cell? ⟨w2.heap.size, 0, none⟩ = some (.int .i64 (a + x)) := by rw [hW]; simp [go_sem, *]
    have r1 : W.cell? ⟨w2.heap.size, 1, none⟩ = some (.int .i64 (b + y)) := by rw [hW]; simp [go_sem, *]
    have P0 := After.got p0; have P1 := After.got p1; have Q0 := After.got q0; have Q1 := After.got q1; have R0 := After.got r0; have R1 := After.got r1
    obtain ⟨v, hv, Cv⟩ := at_any hC 0 (by omega)
    obtain ⟨u, hu, Cu⟩ := at_any hC 1 (by omega)
    have CV := Lib.hid Cv
    have CU := Lib.hid Cu
    have HT := Lib.hid T
    clear T Cv Cu
    have tm : v.tmod (a + x) = v % (a + x) := Int.tmod_eq_emod_of_nonneg hv.1
    have tm0 := Int.emod_nonneg v (b := a + x) (by omega)
    have tm1 := Int.emod_lt_of_pos v (b := a + x) (by omega)
    have tn : u.tmod 60 = u % 60 := Int.tmod_eq_emod_of_nonneg hu.1
    have hne : a + x ≠ 0 := by omega
    have hneB : (a + x == 0) = false := by simp; omega
    go_upto_region 7 with fail
    rw [← hW]
    clear hW
    go_cut [84] (fun s84 wx => s84 = .bool false ∧ ∃ y : After W, wx = y.now)
    case first =>
      rcases hst with ⟨rfl, rfl⟩ | ⟨rfl, rfl⟩ | ⟨rfl, rfl⟩
      all_goals
        (refine wp_region_after W (Ext.refl _) (by kernel_rfl) (by kernel_rfl) ?_; (repeat (go_big_quiet_step ((go_at_call 26; (with_reducible first | exact after_call (C2.out _) | exact after_call (C3.out _) | exact after_call (C4.out _) | exact after_call (C5.out _)))))); refine wpQuiet_nil ?_; intro _ hw'; obtain ⟨y, hw''⟩ := hw'; subst hw'')
        go_wp2_with fail
        go_meet
        exact ⟨rfl, y, rfl⟩
    case rest =>
      obtain ⟨rfl, z, rfl⟩ := hcut
      go_wp2_with fail
      (refine wp_region_after W z.ext (by kernel_rfl) (by kernel_rfl) ?_; (repeat (go_big_quiet_step (((go_at_call 29; exact after_same (CV.out _ (hxW.trans (After.ext _)))))))); refine wpQuiet_nil ?_; intro _ hw'; obtain ⟨y9, hw''⟩ := hw'; subst hw'')
      obtain ⟨V, hV⟩ : ∃ V, V = y9.now := ⟨_, rfl⟩
      have r0 : V.cell? ⟨w2.heap.size, 0, none⟩ = some (.int .i64 (a + x)) := by rw [hV]; exact R0 y9
      have r1 : V.cell? ⟨w2.heap.size, 1, none⟩ = some (.int .i64 (b + y)) := by rw [hV]; exact R1 y9
      have hxV : Ext w V := by rw [hV]; exact hxW.trans y9.ext
      have hVl : w2.heap.size < V.heap.size := World.block_lt_of_cell? V _ r0
      rw [← hV]
      clear hV R0 R1 P0 P1 Q0 Q1 p0 p1 q0 q1 hc hf
      obtain ⟨k, hk⟩ : ∃ k, k = 1 + v % (a + x) := ⟨_, rfl⟩
      rw [← hk]
      have hk1 : 1 ≤ k ∧ k ≤ a + x := by omega
      clear hk tm tm0 tm1 hneB
      have um : 1 ≤ 1 + u % 60 ∧ 1 + u % 60 ≤ 60 := by omega
      have ub : 0 ≤ u % 60 ∧ u % 60 ≤ 59 := by omega
      obtain ⟨g1, g2, g3, g4⟩ := grams_law HT.out hk1
      obtain ⟨f1, f2, f3, f4, f5⟩ := fresh_law HT.out um
      have GC := Lib.hid (fun w => grams_c (a + x) (b + y) k w)
      have FC := Lib.hid (fun w => fresh_c (a + x) (b + y) (1 + u % 60) w)
      generalize gramsF (a + x) (b + y) k = g at *
      generalize freshF (a + x) (b + y) (1 + u % 60) = f at *
      have eD1 : drinkB (a + x + f) (b + y) (1 + u % 60) = true := (drink_is HT.out ⟨f1, f2⟩ um).trans (decide_eq_true f4)
      have eD3 : drinkB (a + x) (b + y) (1 + u % 60) = decide (f = 0) := (drink_now HT.out um).trans (decide_eq_decide.2 f3.symm)
      have D1 := Lib.hid (fun w => eD1 ▸ isDrinkable_c (a + x + f) (b + y) (1 + u % 60) w)
      have D3 := Lib.hid (fun w => eD3 ▸ isDrinkable_c (a + x) (b + y) (1 + u % 60) w)
      have J1 := Lib.hid (fun w => join_f HT.out ⟨f1, f2⟩ ▸ sJoinMix_c (a + x) (b + y) f 0 w)
      clear f3 f4 eD1 eD3
      have ⟨b1, b2⟩ := prod_room (p := g) (q := a + x) (by omega) (by omega)
      have ⟨b3, b4⟩ := prod_room (p := b + y) (q := k) (by omega) (by omega)
      have ⟨b5, b6⟩ := prod_room (p := g - 1) (q := a + x) (by omega) (by omega)
      have g1d := decide_eq_true g1
      have g2d := decide_eq_true g2
      have FF : (0 < f ∧ (f == 0) = false ∧ decide (f = 0) = false) ∨ f = 0 := by
        rcases Int.lt_or_eq_of_le f1 with h | h
        · exact .inl ⟨h, by simp; omega, by simp; omega⟩
        · exact .inr h.symm
      by_cases hlt : k < a + x
      · have ⟨K1, K2, K3, K4, K5⟩ := took_salt HT.out (n := k) (by omega)
        have TM := Lib.hid (fun w => K1 ▸ takeMix_c (a + x) (b + y) k w)
        have K2d : decide (0 < saltF k ((b + y) * k / (a + x)) (a + x) (b + y)) = false := decide_eq_false (by omega)
        have hld := decide_eq_true hlt
        clear K1 g1 g2
        go_wp2_with fail
        refine (TM.out _).mono ?_; rintro e w3 ⟨rfl, hx⟩; have hl := hx.len; (try simp only [sizes] at hl); obtain ⟨⟨hc, hf⟩, hb1, hb2, hb3, hb4, hb5, hb6, hb7⟩ := hx.blk w2.heap.size (by (try simp only [sizes]); omega)
        go_wp2_with (first | (go_at_call 26; refine (saltier_c _ _ _ _ _).mono ?_; rintro e w4 ⟨rfl, hx⟩; have hl := hx.len; (try simp only [sizes] at hl); obtain ⟨⟨hc, hf⟩, hb1, hb2, hb3, hb4, hb5, hb6, hb7⟩ := hx.blk w2.heap.size (by (try simp only [sizes]); omega); obtain ⟨⟨hc, hf⟩, hb1, hb2, hb3, hb4, hb5, hb6, hb7⟩ := hx.blk w3.heap.size (by (try simp only [sizes]); omega); obtain ⟨⟨hc, hf⟩, hb1, hb2, hb3, hb4, hb5, hb6, hb7⟩ := hx.blk (w3.heap.size + 1) (by (try simp only [sizes]); omega)) | (go_at_call 13; refine (mixOk_c _ _ _).mono ?_; rintro e w' ⟨rfl, rfl⟩))
        refine (GC.out _).mono ?_; rintro e w5 ⟨rfl, hx⟩; have hl := hx.len; (try simp only [sizes] at hl); obtain ⟨⟨hc, hf⟩, hb1, hb2, hb3, hb4, hb5, hb6, hb7⟩ := hx.blk w2.heap.size (by (try simp only [sizes]); omega)
        go_wp2_with ((go_at_call 29; refine (CU.out _ (by (repeat (first | exact Ext.refl _ | assumption | refine Ext.alloc ?_ _ | refine Ext.drew ?_ | refine Ext.drewN ?_ _ | refine Ext.setCell ?_ (by (try simp only [sizes]); omega) _ | refine Ext.step (by assumption) ?_)))).mono ?_; rintro e w' ⟨rfl, rfl⟩))
        refine (FC.out _).mono ?_; rintro e w6 ⟨rfl, hx⟩; have hl := hx.len; (try simp only [sizes] at hl); obtain ⟨⟨hc, hf⟩, hb1, hb2, hb3, hb4, hb5, hb6, hb7⟩ := hx.blk w2.heap.size (by (try simp only [sizes]); omega)
        have x6 : Ext w w6 := by (repeat (first | exact Ext.refl _ | assumption | refine Ext.alloc ?_ _ | refine Ext.drew ?_ | refine Ext.drewN ?_ _ | refine Ext.setCell ?_ (by (try simp only [sizes]); omega) _ | refine Ext.step (by assumption) ?_))
        clear K2 K2d K3 K4 K5
        rcases FF with ⟨hf, hfd, hfe⟩ | rfl
        · have hfd2 := decide_eq_true hf
          have eD2 : drinkB (a + x + (f - 1)) (b + y) (1 + u % 60) = false := (drink_is HT.out (f := f - 1) (by omega) um).trans (decide_eq_false (by have := f5 hf; omega))
          have D2 := Lib.hid (fun w => eD2 ▸ isDrinkable_c (a + x + (f - 1)) (b + y) (1 + u % 60) w)
          have eJ2 := join_f (f := f - 1) HT.out (by omega)
          have J2 := Lib.hid (fun w => eJ2 ▸ sJoinMix_c (a + x) (b + y) (f - 1) 0 w)
          have D4 := Lib.hid (fun w => hfe ▸ D3.out w)
          clear f5 eD2 eJ2 hfe D3
          go_wp2_with fail
          refine (J1.out _).mono ?_; rintro e w7 ⟨rfl, hx⟩; have hl := hx.len; (try simp only [sizes] at hl); obtain ⟨⟨hc, hf⟩, hb1, hb2, hb3, hb4, hb5, hb6, hb7⟩ := hx.blk w2.heap.size (by (try simp only [sizes]); omega)
          go_wp2_with fail
          refine (J2.out _).mono ?_; rintro e w8 ⟨rfl, hx⟩; have hl := hx.len; (try simp only [sizes] at hl); obtain ⟨⟨hc, hf⟩, hb1, hb2, hb3, hb4, hb5, hb6, hb7⟩ := hx.blk w2.heap.size (by (try simp only [sizes]); omega); obtain ⟨⟨hc, hf⟩, hb1, hb2, hb3, hb4, hb5, hb6, hb7⟩ := hx.blk w7.heap.size (by (try simp only [sizes]); omega)
          go_wp2_with (go_at_call 15; (with_reducible first | refine (D1.out _).mono ?_ | refine (D2.out _).mono ?_ | refine (D4.out _).mono ?_); rintro e w9 ⟨rfl, hx⟩; have hl := hx.len; (try simp only [sizes] at hl); obtain ⟨⟨hc, hf⟩, hb1, hb2, hb3, hb4, hb5, hb6, hb7⟩ := hx.blk w2.heap.size (by (try simp only [sizes]); omega); obtain ⟨⟨hc, hf⟩, hb1, hb2, hb3, hb4, hb5, hb6, hb7⟩ := hx.blk w7.heap.size (by (try simp only [sizes]); omega); obtain ⟨⟨hc, hf⟩, hb1, hb2, hb3, hb4, hb5, hb6, hb7⟩ := hx.blk w8.heap.size (by (try simp only [sizes]); omega))
          go_ret
          exact ⟨rfl, by (repeat (first | exact Ext.refl _ | assumption | refine Ext.alloc ?_ _ | refine Ext.drew ?_ | refine Ext.drewN ?_ _ | refine Ext.setCell ?_ (by (try simp only [sizes]); omega) _ | refine Ext.step (by assumption) ?_))⟩
        · have eJ2 := join_no (a := a) (b := b) (x := x) (y := y) (f := 0 - 1) (by omega)
          have J2 := Lib.hid (fun w => eJ2 ▸ sJoinMix_c (a + x) (b + y) (0 - 1) 0 w)
          clear f5 eJ2
          go_wp2_with fail
          refine (J1.out _).mono ?_; rintro e w7 ⟨rfl, hx⟩; have hl := hx.len; (try simp only [sizes] at hl); obtain ⟨⟨hc, hf⟩, hb1, hb2, hb3, hb4, hb5, hb6, hb7⟩ := hx.blk w2.heap.size (by (try simp only [sizes]); omega)
          go_wp2_with fail
          refine (J2.out _).mono ?_; rintro e w8 ⟨rfl, hx⟩; have hl := hx.len; (try simp only [sizes] at hl); obtain ⟨⟨hc, hf⟩, hb1, hb2, hb3, hb4, hb5, hb6, hb7⟩ := hx.blk w2.heap.size (by (try simp only [sizes]); omega); obtain ⟨⟨hc, hf⟩, hb1, hb2, hb3, hb4, hb5, hb6, hb7⟩ := hx.blk w7.heap.size (by (try simp only [sizes]); omega)
          go_wp2_with (go_at_call 15; (with_reducible first | refine (D1.out _).mono ?_ | refine (D3.out _).mono ?_); rintro e w9 ⟨rfl, hx⟩; have hl := hx.len; (try simp only [sizes] at hl); obtain ⟨⟨hc, hf⟩, hb1, hb2, hb3, hb4, hb5, hb6, hb7⟩ := hx.blk w2.heap.size (by (try simp only [sizes]); omega); obtain ⟨⟨hc, hf⟩, hb1, hb2, hb3, hb4, hb5, hb6, hb7⟩ := hx.blk w7.heap.size (by (try simp only [sizes]); omega); obtain ⟨⟨hc, hf⟩, hb1, hb2, hb3, hb4, hb5, hb6, hb7⟩ := hx.blk w8.heap.size (by (try simp only [sizes]); omega))
          go_ret
          exact ⟨rfl, by (repeat (first | exact Ext.refl _ | assumption | refine Ext.alloc ?_ _ | refine Ext.drew ?_ | refine Ext.drewN ?_ _ | refine Ext.setCell ?_ (by (try simp only [sizes]); omega) _ | refine Ext.step (by assumption) ?_))⟩
      · have K1 := took_none HT.out (n := k) (by omega)
        have TM := Lib.hid (fun w => K1 ▸ takeMix_c (a + x) (b + y) k w)
        have hld := decide_eq_false hlt
        clear K1 g1 g2
        go_wp2_with fail
        refine (TM.out _).mono ?_; rintro e w3 ⟨rfl, hx⟩; have hl := hx.len; (try simp only [sizes] at hl); obtain ⟨⟨hc, hf⟩, hb1, hb2, hb3, hb4, hb5, hb6, hb7⟩ := hx.blk w2.heap.size (by (try simp only [sizes]); omega)
        go_wp2_with fail
        refine (GC.out _).mono ?_; rintro e w5 ⟨rfl, hx⟩; have hl := hx.len; (try simp only [sizes] at hl); obtain ⟨⟨hc, hf⟩, hb1, hb2, hb3, hb4, hb5, hb6, hb7⟩ := hx.blk w2.heap.size (by (try simp only [sizes]); omega)
        go_wp2_with ((go_at_call 29; refine (CU.out _ (by (repeat (first | exact Ext.refl _ | assumption | refine Ext.alloc ?_ _ | refine Ext.drew ?_ | refine Ext.drewN ?_ _ | refine Ext.setCell ?_ (by (try simp only [sizes]); omega) _ | refine Ext.step (by assumption) ?_)))).mono ?_; rintro e w' ⟨rfl, rfl⟩))
        refine (FC.out _).mono ?_; rintro e w6 ⟨rfl, hx⟩; have hl := hx.len; (try simp only [sizes] at hl); obtain ⟨⟨hc, hf⟩, hb1, hb2, hb3, hb4, hb5, hb6, hb7⟩ := hx.blk w2.heap.size (by (try simp only [sizes]); omega)
        have x6 : Ext w w6 := by (repeat (first | exact Ext.refl _ | assumption | refine Ext.alloc ?_ _ | refine Ext.drew ?_ | refine Ext.drewN ?_ _ | refine Ext.setCell ?_ (by (try simp only [sizes]); omega) _ | refine Ext.step (by assumption) ?_))
        rcases FF with ⟨hf, hfd, hfe⟩ | rfl
        · have hfd2 := decide_eq_true hf
          have eD2 : drinkB (a + x + (f - 1)) (b + y) (1 + u % 60) = false := (drink_is HT.out (f := f - 1) (by omega) um).trans (decide_eq_false (by have := f5 hf; omega))
          have D2 := Lib.hid (fun w => eD2 ▸ isDrinkable_c (a + x + (f - 1)) (b + y) (1 + u % 60) w)
          have eJ2 := join_f (f := f - 1) HT.out (by omega)
          have J2 := Lib.hid (fun w => eJ2 ▸ sJoinMix_c (a + x) (b + y) (f - 1) 0 w)
          have D4 := Lib.hid (fun w => hfe ▸ D3.out w)
          clear f5 eD2 eJ2 hfe D3
          go_wp2_with fail
          refine (J1.out _).mono ?_; rintro e w7 ⟨rfl, hx⟩; have hl := hx.len; (try simp only [sizes] at hl); obtain ⟨⟨hc, hf⟩, hb1, hb2, hb3, hb4, hb5, hb6, hb7⟩ := hx.blk w2.heap.size (by (try simp only [sizes]); omega)
          go_wp2_with fail
          refine (J2.out _).mono ?_; rintro e w8 ⟨rfl, hx⟩; have hl := hx.len; (try simp only [sizes] at hl); obtain ⟨⟨hc, hf⟩, hb1, hb2, hb3, hb4, hb5, hb6, hb7⟩ := hx.blk w2.heap.size (by (try simp only [sizes]); omega); obtain ⟨⟨hc, hf⟩, hb1, hb2, hb3, hb4, hb5, hb6, hb7⟩ := hx.blk w7.heap.size (by (try simp only [sizes]); omega)
          go_wp2_with (go_at_call 15; (with_reducible first | refine (D1.out _).mono ?_ | refine (D2.out _).mono ?_ | refine (D4.out _).mono ?_); rintro e w9 ⟨rfl, hx⟩; have hl := hx.len; (try simp only [sizes] at hl); obtain ⟨⟨hc, hf⟩, hb1, hb2, hb3, hb4, hb5, hb6, hb7⟩ := hx.blk w2.heap.size (by (try simp only [sizes]); omega); obtain ⟨⟨hc, hf⟩, hb1, hb2, hb3, hb4, hb5, hb6, hb7⟩ := hx.blk w7.heap.size (by (try simp only [sizes]); omega); obtain ⟨⟨hc, hf⟩, hb1, hb2, hb3, hb4, hb5, hb6, hb7⟩ := hx.blk w8.heap.size (by (try simp only [sizes]); omega))
          go_ret
          exact ⟨rfl, by (repeat (first | exact Ext.refl _ | assumption | refine Ext.alloc ?_ _ | refine Ext.drew ?_ | refine Ext.drewN ?_ _ | refine Ext.setCell ?_ (by (try simp only [sizes]); omega) _ | refine Ext.step (by assumption) ?_))⟩
        · have eJ2 := join_no (a := a) (b := b) (x := x) (y := y) (f := 0 - 1) (by omega)
          have J2 := Lib.hid (fun w => eJ2 ▸ sJoinMix_c (a + x) (b + y) (0 - 1) 0 w)
          clear f5 eJ2
          go_wp2_with fail
          refine (J1.out _).mono ?_; rintro e w7 ⟨rfl, hx⟩; have hl := hx.len; (try simp only [sizes] at hl); obtain ⟨⟨hc, hf⟩, hb1, hb2, hb3, hb4, hb5, hb6, hb7⟩ := hx.blk w2.heap.size (by (try simp only [sizes]); omega)
          go_wp2_with fail
          refine (J2.out _).mono ?_; rintro e w8 ⟨rfl, hx⟩; have hl := hx.len; (try simp only [sizes] at hl); obtain ⟨⟨hc, hf⟩, hb1, hb2, hb3, hb4, hb5, hb6, hb7⟩ := hx.blk w2.heap.size (by (try simp only [sizes]); omega); obtain ⟨⟨hc, hf⟩, hb1, hb2, hb3, hb4, hb5, hb6, hb7⟩ := hx.blk w7.heap.size (by (try simp only [sizes]); omega)
          go_wp2_with (go_at_call 15; (with_reducible first | refine (D1.out _).mono ?_ | refine (D3.out _).mono ?_); rintro e w9 ⟨rfl, hx⟩; have hl := hx.len; (try simp only [sizes] at hl); obtain ⟨⟨hc, hf⟩, hb1, hb2, hb3, hb4, hb5, hb6, hb7⟩ := hx.blk w2.heap.size (by (try simp only [sizes]); omega); obtain ⟨⟨hc, hf⟩, hb1, hb2, hb3, hb4, hb5, hb6, hb7⟩ := hx.blk w7.heap.size (by (try simp only [sizes]); omega); obtain ⟨⟨hc, hf⟩, hb1, hb2, hb3, hb4, hb5, hb6, hb7⟩ := hx.blk w8.heap.size (by (try simp only [sizes]); omega))
          go_ret
          exact ⟨rfl, by (repeat (first | exact Ext.refl _ | assumption | refine Ext.alloc ?_ _ | refine Ext.drew ?_ | refine Ext.drewN ?_ _ | refine Ext.setCell ?_ (by (try simp only [sizes]); omega) _ | refine Ext.step (by assumption) ?_))⟩
theorem lawMixesZ (A : Option Addr) (n c : Nat) (zs : List Int) (w : World) (h : Holds w 1 A n c (zs.map (Value.int .u8)) ∧ ∀ z ∈ zs, 0 ≤ z ∧ z ≤ 255) : Calls Try.prog 10 #[.slice A n c] w (Ans (.bool true) w) :=
  lawMixes A n c w ⟨zs, h⟩

namespace fnMixes
open Go.ChangeShapes Go.WideShapes Go.ChangeAt Go.RowKit Go.Joins
set_option linter.unusedVariables false
set_option maxRecDepth 100000 in
theorem lifted (os : Os) (started : os.Started) (H : Type) (enc : TypeId × Value → H) :
    ReturnsInHanded {} Try.checked os 10 .any (Rows.fnMixesSpec.pre6 enc Try.prog Try.f10 Rows.fnMixesRow.domain false) (Rows.fnMixesSpec.post enc Try.prog Try.f10 false true false false) := by
  refine returnsInHanded_of_change (C := Try.checked) own started (by kernel_rfl) Try.func10
    (ChangeSpec.witness6 (enc := enc) (C := Try.checked) false ⟨#[], #[.slice none 0 0], []⟩ 8 (by kernel_rfl) (by kernel_rfl) (by kernel_rfl) (by kernel_rfl)) ?_
  intro W base args ds gs before hval0 hW hcnd _
  have hval : ∀ (j : Nat) t v, Try.f10.params[j]? = some t → args[j]? = some v → Value.okWide Try.prog W .any base t v := hval0
  have hW' := hW
  obtain ⟨p, q, hA0, hV, rfl, hfz, hnd⟩ := hW
  have hA : DataW.TrodAll enc Try.prog W 0 (fun _ => true) true Try.f10.params.toList args.toList ds p := hA0
  rw [Try.params10] at hA hval
  obtain ⟨v0, vs0, d0, ds0, p0, q0, hargs, rfl, rfl, h0, r0⟩ := trodAll_cons hA
  obtain ⟨rfl, rfl, rfl⟩ := trodAll_nil r0
  obtain rfl : args = #[v0] := by cases args; simp_all
  obtain ⟨rfl, rfl⟩ := trodVars_none hV
  have k0 := h0
  have lt0 : ∀ x ∈ p0, x.block < W.heap.size := by obtain ⟨m, hm⟩ := k0; exact DataW.trod_lt m _ _ _ hm
  obtain ⟨a0, n0, c0, rfl⟩ := okWide_slice Try.underlying38 (hval 0 38 v0 rfl rfl)
  obtain ⟨z0, s0⟩ := bytes_in Try.underlying38 Try.underlying5 (by kernel_rfl) h0
  clear hA0 hval0
  refine (lawMixesZ a0 n0 c0 z0 W s0).mono fun e W' ⟨he, bel⟩ => ?_
  subst he
  exact ⟨_, rfl, _, _, _, [], _, [], hW', trodAll_mk1 (shut_bool Try.underlying4 _), (trodAll_cons_mk (Below.trod laidOut (by kernel_rfl) (of_decide_eq_true (by kernel_rfl)) k0 bel lt0) trodAll_mk0), rfl, bel.frame _, fun h => by cases h⟩

theorem over : Rows.fnMixesRow.holds Try.pinned (OpenSpec.ofChange Rows.fnMixesSpec) :=
  OpenClaim.holds_of_wide 10 Try.f10 rfl rfl rfl rfl rfl rfl rfl ⟨rfl, rfl, rfl, rfl, rfl⟩ rfl rfl rfl rfl rfl (by kernel_rfl) Try.func10 (by kernel_rfl)
    (of_decide_eq_true (by kernel_rfl)) (by unfold Func.isWrapper; first | (rw [if_pos (by decide +kernel)]; kernel_rfl) | (rw [if_neg (by decide +kernel)]; exact ⟨rfl, rfl⟩))
    (fun os started H enc _ => lifted os started H enc)
theorem proved : Rows.FnMixesSaid := over
end fnMixes

end Go.Proofs.Ytiaghlphgbonbaa
