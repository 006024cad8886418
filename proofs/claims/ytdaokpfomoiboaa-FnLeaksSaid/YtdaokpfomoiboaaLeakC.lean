/-
  The contracts of GuessHole, of the program and of the reference.
-/
import Derived.Test.YtdaokpfomoiboaaLeakB
namespace Go.Proofs.Ytdaokpfomoiboaa
open Go.RowKit

noncomputable def guessV (zs : List Int) : Value := .tuple #[.int .i64 (guessHole zs), .int .i64 (guessRate zs), .bool (guessB zs)]
theorem guess_no {zs : List Int} (h : ¬ (levB zs 3 = true ∧ nth zs (zs.length - 1) = nth zs (zs.length - 2) ∧ explM zs (nth zs 0 - nth zs 1) (nth zs (zs.length - 1)))) : guessV zs = .tuple #[.int .i64 0, .int .i64 0, .bool false] := by
  have hg : guessB zs = false := by simp [guessB, h]
  simp [guessV, guessHole, guessRate, hg]
theorem guess_yes {zs : List Int} (h : levB zs 3 = true ∧ nth zs (zs.length - 1) = nth zs (zs.length - 2) ∧ explM zs (nth zs 0 - nth zs 1) (nth zs (zs.length - 1))) : guessV zs = .tuple #[.int .i64 (nth zs (zs.length - 1)), .int .i64 (nth zs 0 - nth zs 1), .bool true] := by
  have hg : guessB zs = true := by simp only [guessB, decide_eq_true_eq]; exact h
  simp [guessV, guessHole, guessRate, hg]
theorem levB_mk {zs : List Int} {n : Nat} (least : Nat) (hn : zs.length = n) (h1 : least ≤ n ∧ n ≤ 100) (h2 : allB zs 0 100000 = true) : levB zs least = true := by
  rw [levB, h2, Bool.and_true]; exact decide_eq_true (by omega)
theorem levB_yes {zs : List Int} {n : Nat} {least : Nat} (hn : zs.length = n) (h : levB zs least = true) : (least ≤ n ∧ n ≤ 100) ∧ allB zs 0 100000 = true := by
  rw [levB, Bool.and_eq_true, decide_eq_true_eq] at h
  exact ⟨by omega, h.2⟩
theorem guess_c (A : Option Addr) (n c : Nat) (zs : List Int) (w : World) (h : Holds w 1 A n c (ints zs)) :
    Calls Try.prog 19 #[.slice A n c] w (Ans (guessV zs) w) := by
  have hmx : n ≤ 9223372036854775807 := by have := h.2.1; have := h.2.2.1; unfold maxLen at this; omega
  have HL := Lib.hid h.intlen
  by_cases h1 : inB (n : Int) 3 100 = true
  · by_cases h2 : allB zs 0 100000 = true
    · obtain ⟨n3, n4⟩ := inB_yes h1
      obtain ⟨b, off, rfl, hb, hc⟩ := h.int (by omega)
      have f1 : ∀ y : After w, y.now.cell? ⟨b, off + (n - 1), none⟩ = some (.int .i64 (nth zs (n - 1))) := After.got (hc _ (by omega))
      have f2 : ∀ y : After w, y.now.cell? ⟨b, off + (n - 2), none⟩ = some (.int .i64 (nth zs (n - 2))) := After.got (hc _ (by omega))
      have f3 : ∀ y : After w, y.now.cell? ⟨b, off, none⟩ = some (.int .i64 (nth zs 0)) := After.got (by simpa using hc 0 (by omega))
      have f4 : ∀ y : After w, y.now.cell? ⟨b, off + 1, none⟩ = some (.int .i64 (nth zs 1)) := After.got (hc 1 (by omega))
      have i0 : (0 : Int) ≤ (n : Int) - 1 := by omega
      have i1 : (n : Int) - 1 < (n : Int) := by omega
      have i2 : (0 : Int) ≤ (n : Int) - 2 := by omega
      have i3 : (n : Int) - 2 < (n : Int) := by omega
      have i4 : (0 : Int) < (n : Int) := by omega
      have i5 : (1 : Int) < (n : Int) := by omega
      have ⟨za1, za2⟩ := allB_at h2 (show 0 < zs.length by rw [HL.out]; omega)
      have ⟨zb1, zb2⟩ := allB_at h2 (show 1 < zs.length by rw [HL.out]; omega)
      have ⟨zc1, zc2⟩ := allB_at h2 (show n - 1 < zs.length by rw [HL.out]; omega)
      have HC := Lib.hid hc
      clear hc
      by_cases h3 : nth zs (n - 1) = nth zs (n - 2)
      · have h3' : (nth zs (n - 1) != nth zs (n - 2)) = false := by simpa using h3
        have H3 := Lib.hid h3
        clear h3
        go_enter Try.func19, Try.ntmps19
        go_wp2_with fail
        (refine wp_region_after w (Ext.refl _) (by kernel_rfl) (by kernel_rfl) ?_; (repeat (go_big_quiet_step (first | (go_at_call 30; exact after_same (within_c _ _ _ _)) | (go_at_call 33; exact after_same (allWithin_c _ _ _ _ _ _ _ (h.ext (After.ext _))))))); refine wpQuiet_nil ?_; intro _ hw'; obtain ⟨y, hw''⟩ := hw'; subst hw'')
        go_wp2_with fail
        go_quiet (fail)
        go_wp2
        have hy := y.ext.drewN nq
        clear f1 f2 f3 f4
        go_loopw [8] (fun i wr => ∃ k : Nat, k + 1 ≤ n ∧ i = .int .i64 ((k : Int) + 1) ∧ Hid (∀ j, j < k → nth zs (j + 1) = max (nth zs j - (nth zs 0 - nth zs 1)) (nth zs (n - 1))) ∧ Ext w wr) (fun i _ => n - (intOf i).toNat)
        case atStart => exact ⟨0, by omega, rfl, fun j hj => by omega, hy⟩
        case round =>
          clear hy
          obtain ⟨k, hk2, rfl, hall, hx⟩ := hrel
          by_cases hlt : k + 1 < n
          · have hca := hx.got (HC.out k (by omega))
            have hcb := hx.got (HC.out (k + 1) hlt)
            have ⟨ya1, ya2⟩ := allB_at h2 (show k < zs.length by rw [HL.out]; omega)
            have j0 : (0 : Int) ≤ (k : Int) := by omega
            have j1 : (k : Int) + 1 < (n : Int) := by omega
            have j2 : (k : Int) < (n : Int) := by omega
            by_cases ht : nth zs (k + 1) = max (nth zs k - (nth zs 0 - nth zs 1)) (nth zs (n - 1))
            · have ht' : (nth zs (k + 1) != max (nth zs k - (nth zs 0 - nth zs 1)) (nth zs (n - 1))) = false := by simpa using ht
              have Ht := Lib.hid ht
              clear ht
              go_wp2_with fail
              go_quiet (fail)
              go_wp2
              go_roundw
              case rel => exact ⟨k + 1, by omega, by go_num, fun j hj => by
                rcases Nat.lt_succ_iff_lt_or_eq.1 hj with hj | rfl
                · exact hall.out j hj
                · exact Ht.out, hx.drewN _⟩
              case measure => simp [intOf]; omega
            · have ht' : (nth zs (k + 1) != max (nth zs k - (nth zs 0 - nth zs 1)) (nth zs (n - 1))) = true := by simpa using ht
              have H := Lib.hid (show guessV zs = _ from guess_no (fun e => ht (by
                have := e.2.2 k (by rw [HL.out]; exact hlt)
                rw [HL.out] at this
                exact this)))
              clear ht
              go_wp2_with fail
              go_quiet (fail)
              go_wp2
              go_ret3
              rw [H.out]; exact ⟨rfl, hx.drewN _⟩
          · have H := Lib.hid (show guessV zs = _ from guess_yes ⟨levB_mk 3 HL.out (by omega) h2, by rw [HL.out]; exact H3.out, fun j hj => by
              rw [HL.out] at hj ⊢
              exact hall.out j (by omega)⟩)
            rw [HL.out] at H
            go_wp2
            go_ret3
            rw [H.out]; exact ⟨rfl, hx⟩
      · have h3' : (nth zs (n - 1) != nth zs (n - 2)) = true := by simpa using h3
        have H := Lib.hid (show guessV zs = _ from guess_no (fun e => h3 (by have := e.2.1; rwa [HL.out] at this)))
        go_enter Try.func19, Try.ntmps19
        go_wp2_with fail
        (refine wp_region_after w (Ext.refl _) (by kernel_rfl) (by kernel_rfl) ?_; (repeat (go_big_quiet_step (first | (go_at_call 30; exact after_same (within_c _ _ _ _)) | (go_at_call 33; exact after_same (allWithin_c _ _ _ _ _ _ _ (h.ext (After.ext _))))))); refine wpQuiet_nil ?_; intro _ hw'; obtain ⟨y, hw''⟩ := hw'; subst hw'')
        go_wp2
        go_ret3
        rw [H.out]; exact ⟨rfl, y.ext⟩

    · have H := Lib.hid (show guessV zs = _ from guess_no (fun e => h2 (levB_yes HL.out e.1).2))
      go_enter Try.func19, Try.ntmps19
      go_wp2_with fail
      (refine wp_region_after w (Ext.refl _) (by kernel_rfl) (by kernel_rfl) ?_; (repeat (go_big_quiet_step (first | (go_at_call 30; exact after_same (within_c _ _ _ _)) | (go_at_call 33; exact after_same (allWithin_c _ _ _ _ _ _ _ (h.ext (After.ext _))))))); refine wpQuiet_nil ?_; intro _ hw'; obtain ⟨y, hw''⟩ := hw'; subst hw'')
      go_wp2
      go_ret3
      rw [H.out]; exact ⟨rfl, y.ext⟩

  · have H := Lib.hid (show guessV zs = _ from guess_no (fun e => h1 (inB_mk (by have := (levB_yes HL.out e.1).1; omega))))
    go_enter Try.func19, Try.ntmps19
    go_wp2_with fail
    (refine wp_region_after w (Ext.refl _) (by kernel_rfl) (by kernel_rfl) ?_; (repeat (go_big_quiet_step (first | (go_at_call 30; exact after_same (within_c _ _ _ _)) | (go_at_call 33; exact after_same (allWithin_c _ _ _ _ _ _ _ (h.ext (After.ext _))))))); refine wpQuiet_nil ?_; intro _ hw'; obtain ⟨y, hw''⟩ := hw'; subst hw'')
    go_wp2
    go_ret3
    rw [H.out]; exact ⟨rfl, y.ext⟩

theorem sGuess_c (A : Option Addr) (n c : Nat) (zs : List Int) (w : World) (h : Holds w 1 A n c (ints zs)) :
    Calls Try.prog 17 #[.slice A n c] w (Ans (guessV zs) w) := by
  have hmx : n ≤ 9223372036854775807 := by have := h.2.1; have := h.2.2.1; unfold maxLen at this; omega
  have HL := Lib.hid h.intlen
  by_cases h1 : levB zs 3 = true
  · obtain ⟨⟨n3, n4⟩, h2⟩ := levB_yes HL.out h1
    obtain ⟨b, off, rfl, hb, hc⟩ := h.int (by omega)
    have f1 : ∀ y : After w, y.now.cell? ⟨b, off + (n - 1), none⟩ = some (.int .i64 (nth zs (n - 1))) := After.got (hc _ (by omega))
    have f2 : ∀ y : After w, y.now.cell? ⟨b, off + (n - 2), none⟩ = some (.int .i64 (nth zs (n - 2))) := After.got (hc _ (by omega))
    have f3 : ∀ y : After w, y.now.cell? ⟨b, off, none⟩ = some (.int .i64 (nth zs 0)) := After.got (by simpa using hc 0 (by omega))
    have f4 : ∀ y : After w, y.now.cell? ⟨b, off + 1, none⟩ = some (.int .i64 (nth zs 1)) := After.got (hc 1 (by omega))
    have i0 : (0 : Int) ≤ (n : Int) - 1 := by omega
    have i1 : (n : Int) - 1 < (n : Int) := by omega
    have i2 : (0 : Int) ≤ (n : Int) - 2 := by omega
    have i3 : (n : Int) - 2 < (n : Int) := by omega
    have i4 : (0 : Int) < (n : Int) := by omega
    have i5 : (1 : Int) < (n : Int) := by omega
    have ⟨za1, za2⟩ := allB_at h2 (show 0 < zs.length by rw [HL.out]; omega)
    have ⟨zb1, zb2⟩ := allB_at h2 (show 1 < zs.length by rw [HL.out]; omega)
    have ⟨zc1, zc2⟩ := allB_at h2 (show n - 1 < zs.length by rw [HL.out]; omega)
    clear hc
    by_cases h3 : nth zs (n - 1) = nth zs (n - 2)
    · have h3' : (nth zs (n - 1) != nth zs (n - 2)) = false := by simpa using h3
      have H3 := Lib.hid h3
      clear h3
      by_cases h4 : nth zs 0 < nth zs 1
      · have H := Lib.hid (show guessV zs = _ from guess_no (fun e => by have := (expl_iff n HL.out (by omega) H3.out).1 (by have := e.2.2; rwa [HL.out] at this); omega))
        go_enter Try.func17, Try.ntmps17
        go_wp2_with fail
        (refine wp_region_after w (Ext.refl _) (by kernel_rfl) (by kernel_rfl) ?_; (repeat (go_big_quiet_step (first | (go_at_call 31; exact after_same (l17Levels_c _ _ _ _ 3 _ (h.ext (After.ext _)) (by omega) _ rfl))))); refine wpQuiet_nil ?_; intro _ hw'; obtain ⟨y, hw''⟩ := hw'; subst hw'')
        go_wp2
        go_ret3
        rw [H.out]; exact ⟨rfl, y.ext⟩

      · have hiff := Lib.hid (expl_iff n HL.out (by omega) H3.out)
        by_cases h5 : explP zs (nth zs 0 - nth zs 1) (nth zs (n - 1))
        · have H := Lib.hid (show guessV zs = _ from guess_yes ⟨h1, by rw [HL.out]; exact H3.out, by rw [HL.out]; exact hiff.out.2 ⟨by omega, h5⟩⟩)
          rw [HL.out] at H
          have hB := explB_yes h5
          go_enter Try.func17, Try.ntmps17
          go_wp2_with fail
          (refine wp_region_after w (Ext.refl _) (by kernel_rfl) (by kernel_rfl) ?_; (repeat (go_big_quiet_step (first | (go_at_call 31; exact after_same (l17Levels_c _ _ _ _ 3 _ (h.ext (After.ext _)) (by omega) _ rfl))))); refine wpQuiet_nil ?_; intro _ hw'; obtain ⟨y, hw''⟩ := hw'; subst hw'')
          go_wp2_with fail
          go_quiet (fail)
          have hy := y.ext.drewN nq
          go_wp2_with fail
          refine (l17Explains_c _ _ _ _ _ _ _ (h.ext hy) h2 (by omega) (by omega)).mono ?_; rintro e w1 ⟨rfl, hx⟩; have hl := hx.len; (try simp only [World.size_alloc, World.size_setCell, World.size_drew, World.heap_drewN] at hl)
          have hc1 := hx.got (show (y.now.drewN nq).cell? ⟨b, off + (n - 1), none⟩ = some (.int .i64 (nth zs (n - 1))) from f1 y)
          go_wp2
          go_ret3
          rw [H.out]; exact ⟨rfl, hy.trans hx⟩
        · have H := Lib.hid (show guessV zs = _ from guess_no (fun e => h5 (hiff.out.1 (by have := e.2.2; rwa [HL.out] at this)).2))
          have hB := explB_no h5
          go_enter Try.func17, Try.ntmps17
          go_wp2_with fail
          (refine wp_region_after w (Ext.refl _) (by kernel_rfl) (by kernel_rfl) ?_; (repeat (go_big_quiet_step (first | (go_at_call 31; exact after_same (l17Levels_c _ _ _ _ 3 _ (h.ext (After.ext _)) (by omega) _ rfl))))); refine wpQuiet_nil ?_; intro _ hw'; obtain ⟨y, hw''⟩ := hw'; subst hw'')
          go_wp2_with fail
          go_quiet (fail)
          have hy := y.ext.drewN nq
          go_wp2_with (go_at_call 32; refine (l17Explains_c _ _ _ _ _ _ _ (h.ext hy) h2 (by omega) (by omega)).mono ?_; rintro e w1 ⟨rfl, hx⟩; have hl := hx.len; (try simp only [World.size_alloc, World.size_setCell, World.size_drew, World.heap_drewN] at hl))
          go_ret3
          rw [H.out]; exact ⟨rfl, hy.trans hx⟩
    · have h3' : (nth zs (n - 1) != nth zs (n - 2)) = true := by simpa using h3
      have H := Lib.hid (show guessV zs = _ from guess_no (fun e => h3 (by have := e.2.1; rwa [HL.out] at this)))
      go_enter Try.func17, Try.ntmps17
      go_wp2_with fail
      (refine wp_region_after w (Ext.refl _) (by kernel_rfl) (by kernel_rfl) ?_; (repeat (go_big_quiet_step (first | (go_at_call 31; exact after_same (l17Levels_c _ _ _ _ 3 _ (h.ext (After.ext _)) (by omega) _ rfl))))); refine wpQuiet_nil ?_; intro _ hw'; obtain ⟨y, hw''⟩ := hw'; subst hw'')
      go_wp2
      go_ret3
      rw [H.out]; exact ⟨rfl, y.ext⟩

  · have H := Lib.hid (show guessV zs = _ from guess_no (fun e => h1 e.1))
    go_enter Try.func17, Try.ntmps17
    go_wp2_with fail
    (refine wp_region_after w (Ext.refl _) (by kernel_rfl) (by kernel_rfl) ?_; (repeat (go_big_quiet_step (first | (go_at_call 31; exact after_same (l17Levels_c _ _ _ _ 3 _ (h.ext (After.ext _)) (by omega) _ rfl))))); refine wpQuiet_nil ?_; intro _ hw'; obtain ⟨y, hw''⟩ := hw'; subst hw'')
    go_wp2
    go_ret3
    rw [H.out]; exact ⟨rfl, y.ext⟩

end Go.Proofs.Ytdaokpfomoiboaa
