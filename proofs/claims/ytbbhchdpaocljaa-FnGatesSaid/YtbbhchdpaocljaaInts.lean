/-
  The contracts of the small functions on slices of ints: a copy, a comparison, marks written and looked for, a range for all.
-/
import Derived.Test.YtbbhchdpaocljaaProg
import Derived.Test.YtbbhchdpaocljaaMem
namespace Go.Proofs.Ytbbhchdpaocljaa
open Go.RowKit

theorem intInfo : (Try.prog.info? 3).map (fun i => (i.zero, i.size, i.bytes)) = some (some (.int .i64 0), 1, 8) := by kernel_rfl

theorem within_c (n lo hi : Int) (w : World) : Calls Try.prog 36 #[.int .i64 n, .int .i64 lo, .int .i64 hi] w fun e w' => e = .returned (.bool (inB n lo hi)) ∧ w = w' := by
  go_enter Try.func36, Try.ntmps36
  go_wp2
  all_goals (go_ret; exact ⟨by simp [inB, *] <;> omega, rfl⟩)
theorem l01In_c (n lo hi : Int) (w : World) : Calls Try.prog 34 #[.int .i64 n, .int .i64 lo, .int .i64 hi] w fun e w' => e = .returned (.bool (inB n lo hi)) ∧ w = w' := by
  go_enter Try.func34, Try.ntmps34
  go_wp2
  all_goals (go_ret; exact ⟨by simp [inB, *] <;> omega, rfl⟩)


/-- the same ints -/
theorem eqIntS_c (A B : Option Addr) (n c m d : Nat) (zs ys : List Int) (w : World) (h : Holds w 1 A n c (ints zs)) (h' : Holds w 1 B m d (ints ys)) :
    Calls Try.prog 30 #[.slice A n c, .slice B m d] w (Ans (.bool (decide (zs = ys))) w) := by
  have hm : n ≤ 9223372036854775807 := by have := h.2.1; have := h.2.2.1; unfold maxLen at this; omega
  have HL := Lib.hid h.intlen
  have HL' := Lib.hid h'.intlen
  by_cases hnm : n = m
  · subst hnm
    go_enter Try.func30, Try.ntmps30
    go_wp2
    go_loopw [5] (fun i wr => ∃ k : Nat, k ≤ n ∧ i = .int .i64 k ∧ Hid (∀ j, j < k → nth zs j = nth ys j) ∧ Ext w wr) (fun i _ => n - (intOf i).toNat)
    case atStart => exact ⟨0, Nat.zero_le _, rfl, fun j hj => by omega, Ext.refl _⟩
    case round =>
      obtain ⟨k, hk, rfl, hall, hx⟩ := hrel
      by_cases hlt : k < n
      · obtain ⟨b, off, rfl, hb, hc⟩ := h.int (by omega)
        obtain ⟨b', off', rfl, hb', hc'⟩ := h'.int (by omega)
        have hck := hx.got (hc k hlt)
        have hck' := hx.got (hc' k hlt)
        clear hc h hc' h'
        have k0 : (0 : Int) ≤ (k : Int) := by omega
        have k1 : (k : Int) < (n : Int) := by omega
        by_cases ht : nth zs k = nth ys k
        · have ht' : (nth zs k != nth ys k) = false := by simpa using ht
          have Ht := Lib.hid ht
          clear ht
          go_wp2_with fail
          go_quiet (fail)
          go_wp2
          go_roundw
          case rel => exact ⟨k + 1, by omega, by go_num, fun j hj => by
            rcases Nat.lt_succ_iff_lt_or_eq.1 hj with hj | rfl
            · exact hall.out j hj
            · exact Ht.out, hx.drewN _⟩
          case measure => simp [intOf]; omega
        · have ht' : (nth zs k != nth ys k) = true := by simpa using ht
          go_wp2_with fail
          go_quiet (fail)
          go_wp2
          go_ret
          refine ⟨ret_bool ?_, hx.drewN _⟩
          exact (decide_eq_false (fun e => ht (by rw [e]))).symm
      · go_wp2
        go_ret
        refine ⟨ret_bool ?_, hx⟩
        refine (decide_eq_true (nth_ext (by rw [HL.out, HL'.out]) (fun j hj => hall.out j ?_))).symm
        have := HL.out
        omega
  · have hne : ((n : Int) != (m : Int)) = true := by rw [bne_iff_ne]; omega
    go_enter Try.func30, Try.ntmps30
    go_wp2
    go_ret
    refine ⟨ret_bool ?_, Ext.refl _⟩
    exact (decide_eq_false (fun e => hnm (by rw [← HL.out, ← HL'.out, e]))).symm
/-- marks written into a slice of ints -/
theorem markIntS_c (base : Nat) (A : Option Addr) (n c : Nat) (xs : List Value) (k : Int) (w : World) (h : Own w base 3 1 A n c xs) (hk : 0 ≤ k) (hn : k + n ≤ 1000000000) :
    Calls Try.prog 31 #[.slice A n c, .int .i64 k] w (Marked base 3 1 A n c (ints (marks k n)) (k + n) w) := by
  have hxl : xs.length = n := by have := h.len; omega
  have HX := Lib.hid hxl
  clear hxl
  go_enter Try.func31, Try.ntmps31
  go_wp2
  go_loopw [1, 5] (fun v i wr => ∃ j : Nat, j ≤ n ∧ i = .int .i64 j ∧ v = .int .i64 (k + j) ∧ Own wr base 3 1 A n c (mixed (ints (marks k n)) xs j) ∧ w.grownBy wr (Value.slice A n c).ownBlock) (fun _ i _ => n - (intOf i).toNat)
  case atStart => exact ⟨0, Nat.zero_le _, rfl, by simp, by rw [mixed_zero]; exact h, World.grownBy.refl _ _⟩
  case round =>
    obtain ⟨j, hj, rfl, rfl, hown, hg⟩ := hrel
    by_cases hlt : j < n
    · obtain ⟨g, rfl, hg1, hg2⟩ := hown.form (by omega)
      have hset := (World.ownsRow.stored hown j (.int .i64 (k + j))).1
      rw [mixed_set _ _ _ n j (by rw [ints_len, marks_len]) HX.out hlt (by rw [ints_get _ _ (by rw [marks_len]; exact hlt), marks_nth _ _ _ hlt])] at hset
      have Hset := Lib.hid hset
      obtain ⟨u, hu⟩ : ∃ u, wr.cell? ⟨g, j, none⟩ = some u := by
        rw [World.ownsRow.cellAt hown j (by omega)]
        exact ⟨_, List.getElem?_eq_getElem (by rw [mixed_len _ _ n j (by rw [ints_len, marks_len]) HX.out hj]; exact hlt)⟩
      have hfz := World.ownsRow.frozenAt hown j
      have Hg := Lib.hid hg
      clear hset h hown hg
      go_wp2
      go_roundw
      case rel => exact ⟨j + 1, by omega, by go_num, by go_num, Hset.out, grownBy_set Hg.out⟩
      case measure => simp [intOf]; omega
    · obtain rfl : j = n := by omega
      rw [mixed_all _ _ j (by rw [ints_len, marks_len]) HX.out] at hown
      go_wp2
      go_ret
      exact ⟨rfl, hown, hg⟩
/-- the marks are there -/
theorem heldIntS_c (A : Option Addr) (n c : Nat) (k : Int) (w : World) (h : Holds w 1 A n c (ints (marks k n))) (hk : 0 ≤ k) (hn : k + n ≤ 1000000000) :
    Calls Try.prog 32 #[.slice A n c, .int .i64 k] w fun e w' => e = .returned (.int .i64 (k + n)) ∧ w = w' := by
  go_enter Try.func32, Try.ntmps32
  go_wp2
  go_loop [1, 5] (fun v i => ∃ j : Nat, j ≤ n ∧ i = .int .i64 j ∧ v = .int .i64 (k + j)) (fun _ i => n - (intOf i).toNat)
  case atStart => exact ⟨0, Nat.zero_le _, rfl, by simp⟩
  case round =>
    obtain ⟨j, hj, rfl, rfl⟩ := hrel
    by_cases hlt : j < n
    · obtain ⟨b, off, rfl, hb, hc⟩ := h.int (by omega)
      have hcj := hc j hlt
      rw [marks_nth _ _ _ hlt] at hcj
      clear hc h
      go_wp2
      go_round
      case rel => exact ⟨j + 1, by omega, by go_num, by go_num⟩
      case measure => simp [intOf]; omega
    · obtain rfl : j = n := by omega
      go_wp2
      go_ret
      exact ⟨rfl, rfl⟩
end Go.Proofs.Ytbbhchdpaocljaa
