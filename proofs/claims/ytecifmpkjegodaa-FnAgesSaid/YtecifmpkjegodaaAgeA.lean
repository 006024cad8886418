/-
  The contracts of the functions on batches of water: what each call answers; what was there stays as it was.
-/
import Derived.Test.YtecifmpkjegodaaElBatch
namespace Go.Proofs.Ytecifmpkjegodaa
open Go.RowKit

abbrev day (es : List Batch) (i : Nat) : Int := (Batch.at_ es i).f0
abbrev lit (es : List Batch) (i : Nat) : Int := (Batch.at_ es i).f1
/-- one batch is in order -/
def batAt (es : List Batch) (i : Nat) : Prop := inB (day es i) 0 1000 = true ∧ (0 < i → day es (i - 1) ≤ day es i) ∧ inB (lit es i) 1 100000 = true
def batP (es : List Batch) : Prop := es.length ≤ 40 ∧ ∀ i, i < es.length → batAt es i
open Classical in
noncomputable def batB (es : List Batch) : Bool := decide (batP es)
theorem batB_yes {es : List Batch} (h : batP es) : batB es = true := by simp only [batB, decide_eq_true_eq]; exact h
theorem batB_no {es : List Batch} (h : ¬ batP es) : batB es = false := by simp only [batB, decide_eq_false_iff_not]; exact h
theorem batB_at {es : List Batch} (h : batB es = true) : batP es := by simpa only [batB, decide_eq_true_eq] using h
theorem batchesOk_c (A : Option Addr) (n c : Nat) (es : List Batch) (w : World) (h : Holds w 2 A n c (Batch.all es)) :
    Calls Try.prog 13 #[.slice A n c] w (Ans (.bool (batB es)) w) := by
  have hmx : n ≤ 9223372036854775807 := by have := h.2.1; have := h.2.2.1; unfold maxLen at this; omega
  have HL := Lib.hid (Batch.len h)
  by_cases h40 : n ≤ 40
  · go_enter Try.func13, Try.ntmps13
    go_wp2
    go_loopw [10] (fun i wr => ∃ k : Nat, k ≤ n ∧ i = .int .i64 k ∧ Hid (∀ j, j < k → batAt es j) ∧ Ext w wr) (fun i _ => n - (intOf i).toNat)
    case atStart => exact ⟨0, Nat.zero_le _, rfl, fun j hj => by omega, Ext.refl _⟩
    case round =>
      obtain ⟨k, hk, rfl, hall, hx⟩ := hrel
      by_cases hlt : k < n
      · obtain ⟨b, off, rfl, hb, hc⟩ := Batch.where_ h (by omega)
        obtain ⟨d0, d1⟩ := hc k hlt
        replace d0 := hx.got d0
        replace d1 := hx.got d1
        have hxa := hx.alloc (.cells #[.int .i64 (day es k), .int .i64 (lit es k)] 42)
        have p0 := After.got (w := wr.alloc (.cells #[.int .i64 (day es k), .int .i64 (lit es k)] 42)) (p := ⟨wr.heap.size, 0, none⟩) (v := .int .i64 (day es k)) (by simp [go_sem])
        have p1 := After.got (w := wr.alloc (.cells #[.int .i64 (day es k), .int .i64 (lit es k)] 42)) (p := ⟨wr.heap.size, 1, none⟩) (v := .int .i64 (lit es k)) (by simp [go_sem])
        by_cases t1 : inB (day es k) 0 1000 = true
        · by_cases k0 : k = 0
          · have kz : decide (0 < k) = false := by simp [k0]
            have K0 := Lib.hid k0
            clear hc h k0
            by_cases t3 : inB (lit es k) 1 100000 = true
            · go_wp2_with fail
              (refine wp_region_after _ (Ext.refl _) (by kernel_rfl) (by kernel_rfl) ?_; (repeat (go_big_quiet_step ((go_at_call 32; exact after_same (within_c _ _ _ _))))); refine wpQuiet_nil ?_; intro _ hw'; obtain ⟨y, hw''⟩ := hw'; subst hw'')
              go_wp2
              go_roundw
              case rel => exact ⟨k + 1, by omega, by go_num, fun j hj => by have q := K0.out; obtain rfl : j = k := (by omega); exact ⟨t1, fun h => absurd h (by omega), t3⟩, hxa.trans y.ext⟩
              case measure => simp [intOf]; omega
            · go_wp2_with fail
              (refine wp_region_after _ (Ext.refl _) (by kernel_rfl) (by kernel_rfl) ?_; (repeat (go_big_quiet_step ((go_at_call 32; exact after_same (within_c _ _ _ _))))); refine wpQuiet_nil ?_; intro _ hw'; obtain ⟨y, hw''⟩ := hw'; subst hw'')
              go_wp2
              go_ret
              exact ⟨ret_bool (batB_no (fun e => (fun e => t3 e.2.2) (e.2 k (by rw [HL.out]; exact hlt)))).symm, hxa.trans y.ext⟩
          · have kpos : 0 < k := by omega
            have kposI : (0 : Int) < (k : Int) := by omega
            have km : (0 : Int) ≤ (k : Int) - 1 := by omega
            have km2 : (k : Int) - 1 < (n : Int) := by omega
            have d2 := (hc (k - 1) (by omega)).1
            have p2 := After.got (w := wr.alloc (.cells #[.int .i64 (day es k), .int .i64 (lit es k)] 42)) (hxa.got d2)
            clear hc h d2
            by_cases t2 : day es k < day es (k - 1)
            · go_wp2_with fail
              (refine wp_region_after _ (Ext.refl _) (by kernel_rfl) (by kernel_rfl) ?_; (repeat (go_big_quiet_step ((go_at_call 32; exact after_same (within_c _ _ _ _))))); refine wpQuiet_nil ?_; intro _ hw'; obtain ⟨y, hw''⟩ := hw'; subst hw'')
              go_wp2
              go_ret
              exact ⟨ret_bool (batB_no (fun e => (fun e => by have := e.2.1 (by omega); omega) (e.2 k (by rw [HL.out]; exact hlt)))).symm, hxa.trans y.ext⟩
            · have t2' : decide (day es k < day es (k - 1)) = false := by simpa using t2
              have T2 := Lib.hid t2
              clear t2
              by_cases t3 : inB (lit es k) 1 100000 = true
              · go_wp2_with fail
                (refine wp_region_after _ (Ext.refl _) (by kernel_rfl) (by kernel_rfl) ?_; (repeat (go_big_quiet_step ((go_at_call 32; exact after_same (within_c _ _ _ _))))); refine wpQuiet_nil ?_; intro _ hw'; obtain ⟨y, hw''⟩ := hw'; subst hw'')
                go_wp2
                go_roundw
                case rel => exact ⟨k + 1, by omega, by go_num, fun j hj => by
                  rcases Nat.lt_succ_iff_lt_or_eq.1 hj with hj | rfl
                  · exact hall.out j hj
                  · exact ⟨t1, fun _ => by have := T2.out; omega, t3⟩, hxa.trans y.ext⟩
                case measure => simp [intOf]; omega
              · go_wp2_with fail
                (refine wp_region_after _ (Ext.refl _) (by kernel_rfl) (by kernel_rfl) ?_; (repeat (go_big_quiet_step ((go_at_call 32; exact after_same (within_c _ _ _ _))))); refine wpQuiet_nil ?_; intro _ hw'; obtain ⟨y, hw''⟩ := hw'; subst hw'')
                go_wp2
                go_ret
                exact ⟨ret_bool (batB_no (fun e => (fun e => t3 e.2.2) (e.2 k (by rw [HL.out]; exact hlt)))).symm, hxa.trans y.ext⟩
        · clear hc h
          go_wp2_with fail
          (refine wp_region_after _ (Ext.refl _) (by kernel_rfl) (by kernel_rfl) ?_; (repeat (go_big_quiet_step ((go_at_call 32; exact after_same (within_c _ _ _ _))))); refine wpQuiet_nil ?_; intro _ hw'; obtain ⟨y, hw''⟩ := hw'; subst hw'')
          go_wp2
          go_ret
          exact ⟨ret_bool (batB_no (fun e => (fun e => t1 e.1) (e.2 k (by rw [HL.out]; exact hlt)))).symm, hxa.trans y.ext⟩
      · go_wp2
        go_ret
        exact ⟨ret_bool (batB_yes ⟨by have := HL.out; omega, fun j hj => hall.out j (by have := HL.out; omega)⟩).symm, hx⟩
  · go_enter Try.func13, Try.ntmps13
    go_wp2
    go_ret
    exact ⟨ret_bool (batB_no (fun e => h40 (by rw [← HL.out]; exact e.1))).symm, Ext.refl _⟩
theorem sBatchesOk_c (A : Option Addr) (n c : Nat) (es : List Batch) (w : World) (h : Holds w 2 A n c (Batch.all es)) :
    Calls Try.prog 11 #[.slice A n c] w (Ans (.bool (batB es)) w) := by
  have hmx : n ≤ 9223372036854775807 := by have := h.2.1; have := h.2.2.1; unfold maxLen at this; omega
  have HL := Lib.hid (Batch.len h)
  go_enter Try.func11, Try.ntmps11
  go_wp2
  go_loopw [3] (fun i wr => ∃ k : Nat, k ≤ n ∧ i = .int .i64 k ∧ Hid (∀ j, j < k → batAt es j) ∧ Ext w wr) (fun i _ => n - (intOf i).toNat)
  case atStart => exact ⟨0, Nat.zero_le _, rfl, fun j hj => by omega, Ext.refl _⟩
  case round =>
    obtain ⟨k, hk, rfl, hall, hxa⟩ := hrel
    by_cases hlt : k < n
    · obtain ⟨b, off, rfl, hb, hc⟩ := Batch.where_ h (by omega)
      obtain ⟨d0, d1⟩ := hc k hlt
      have p0 := After.got (w := wr) (hxa.got d0)
      have p1 := After.got (w := wr) (hxa.got d1)
      have j0 : (0 : Int) ≤ (k : Int) := by omega
      have j1 : (k : Int) < (n : Int) := by omega
      clear d0 d1
      by_cases t1 : inB (day es k) 0 1000 = true
      · by_cases t3 : inB (lit es k) 1 100000 = true
        · by_cases k0 : k = 0
          · have kz : decide (0 < k) = false := by simp [k0]
            have K0 := Lib.hid k0
            clear hc h k0
            go_wp2_with fail
            (refine wp_region_after _ (Ext.refl _) (by kernel_rfl) (by kernel_rfl) ?_; (repeat (go_big_quiet_step ((go_at_call 30; exact after_same (l01In_c _ _ _ _))))); refine wpQuiet_nil ?_; intro _ hw'; obtain ⟨y, hw''⟩ := hw'; subst hw'')
            go_wp2
            go_roundw
            case rel => exact ⟨k + 1, by omega, by go_num, fun j hj => by have q := K0.out; obtain rfl : j = k := (by omega); exact ⟨t1, fun h => absurd h (by omega), t3⟩, hxa.trans y.ext⟩
            case measure => simp [intOf]; omega
          · have kpos : 0 < k := by omega
            have kposI : (0 : Int) < (k : Int) := by omega
            have km : (0 : Int) ≤ (k : Int) - 1 := by omega
            have km2 : (k : Int) - 1 < (n : Int) := by omega
            have d2 := (hc (k - 1) (by omega)).1
            have p2 := After.got (w := wr) (hxa.got d2)
            clear hc h d2
            by_cases t2 : day es k < day es (k - 1)
            · go_wp2_with fail
              (refine wp_region_after _ (Ext.refl _) (by kernel_rfl) (by kernel_rfl) ?_; (repeat (go_big_quiet_step ((go_at_call 30; exact after_same (l01In_c _ _ _ _))))); refine wpQuiet_nil ?_; intro _ hw'; obtain ⟨y, hw''⟩ := hw'; subst hw'')
              go_wp2
              go_ret
              exact ⟨ret_bool (batB_no (fun e => (fun e => by have := e.2.1 (by omega); omega) (e.2 k (by rw [HL.out]; exact hlt)))).symm, hxa.trans y.ext⟩
            · have t2' : decide (day es k < day es (k - 1)) = false := by simpa using t2
              have T2 := Lib.hid t2
              clear t2
              go_wp2_with fail
              (refine wp_region_after _ (Ext.refl _) (by kernel_rfl) (by kernel_rfl) ?_; (repeat (go_big_quiet_step ((go_at_call 30; exact after_same (l01In_c _ _ _ _))))); refine wpQuiet_nil ?_; intro _ hw'; obtain ⟨y, hw''⟩ := hw'; subst hw'')
              go_wp2
              go_roundw
              case rel => exact ⟨k + 1, by omega, by go_num, fun j hj => by
                rcases Nat.lt_succ_iff_lt_or_eq.1 hj with hj | rfl
                · exact hall.out j hj
                · exact ⟨t1, fun _ => by have := T2.out; omega, t3⟩, hxa.trans y.ext⟩
              case measure => simp [intOf]; omega
        · clear hc h
          go_wp2_with fail
          (refine wp_region_after _ (Ext.refl _) (by kernel_rfl) (by kernel_rfl) ?_; (repeat (go_big_quiet_step ((go_at_call 30; exact after_same (l01In_c _ _ _ _))))); refine wpQuiet_nil ?_; intro _ hw'; obtain ⟨y, hw''⟩ := hw'; subst hw'')
          go_wp2
          go_ret
          exact ⟨ret_bool (batB_no (fun e => (fun e => t3 e.2.2) (e.2 k (by rw [HL.out]; exact hlt)))).symm, hxa.trans y.ext⟩
      · clear hc h
        go_wp2_with fail
        (refine wp_region_after _ (Ext.refl _) (by kernel_rfl) (by kernel_rfl) ?_; (repeat (go_big_quiet_step ((go_at_call 30; exact after_same (l01In_c _ _ _ _))))); refine wpQuiet_nil ?_; intro _ hw'; obtain ⟨y, hw''⟩ := hw'; subst hw'')
        go_wp2
        go_ret
        exact ⟨ret_bool (batB_no (fun e => (fun e => t1 e.1) (e.2 k (by rw [HL.out]; exact hlt)))).symm, hxa.trans y.ext⟩
    · by_cases h40 : n ≤ 40
      · have h40' : decide ((n : Int) ≤ 40) = true := by simp; omega
        go_wp2
        go_ret
        exact ⟨ret_bool (by rw [batB_yes ⟨by have := HL.out; omega, fun j hj => hall.out j (by have := HL.out; omega)⟩]; try (simp <;> omega)), hxa⟩
      · go_wp2
        go_ret
        exact ⟨ret_bool (by rw [batB_no (fun e => h40 (by rw [← HL.out]; exact e.1))]; try (simp <;> omega)), hxa⟩
end Go.Proofs.Ytecifmpkjegodaa
