/-
  The contracts of the small functions on slices of ints: a copy, a comparison, marks written and looked for, a range for all.
-/
import Derived.Test.YtbenbjbfmcdedaaProg
import Derived.Test.YtbenbjbfmcdedaaMem
namespace Go.Proofs.Ytbenbjbfmcdedaa
open Go.RowKit

theorem intInfo : (Try.prog.info? 3).map (fun i => (i.zero, i.size, i.bytes)) = some (some (.int .i64 0), 1, 8) := by kernel_rfl

theorem within_c (n lo hi : Int) (w : World) : Calls Try.prog 36 #[.int .i64 n, .int .i64 lo, .int .i64 hi] w fun e w' => e = .returned (.bool (inB n lo hi)) ∧ w = w' := by
  go_enter Try.func36, Try.ntmps36
  go_wp2
  all_goals (go_ret; exact ⟨by simp [inB, *] <;> omega, rfl⟩)
theorem l01In_c (n lo hi : Int) (w : World) : Calls Try.prog 35 #[.int .i64 n, .int .i64 lo, .int .i64 hi] w fun e w' => e = .returned (.bool (inB n lo hi)) ∧ w = w' := by
  go_enter Try.func35, Try.ntmps35
  go_wp2
  all_goals (go_ret; exact ⟨by simp [inB, *] <;> omega, rfl⟩)

/-- all of them lie from lo to hi -/
def allB (zs : List Int) (lo hi : Int) : Bool := zs.all fun z => inB z lo hi
theorem allB_no {zs : List Int} {lo hi : Int} {k : Nat} (hk : k < zs.length) (h : ¬ inB (nth zs k) lo hi = true) : allB zs lo hi = false := by
  rw [allB, List.all_eq_false]
  exact ⟨zs[k], List.getElem_mem hk, by simpa [nth, hk] using h⟩
theorem allB_yes {zs : List Int} {lo hi : Int} (h : ∀ j, j < zs.length → inB (nth zs j) lo hi = true) : allB zs lo hi = true := by
  rw [allB, List.all_eq_true]
  intro z hz
  obtain ⟨j, hj, rfl⟩ := List.getElem_of_mem hz
  simpa [nth, hj] using h j hj
theorem allB_at {zs : List Int} {lo hi : Int} (h : allB zs lo hi = true) {j : Nat} (hj : j < zs.length) : lo ≤ nth zs j ∧ nth zs j ≤ hi := by
  rw [allB, List.all_eq_true] at h
  have := inB_yes (h zs[j] (List.getElem_mem hj))
  simpa [nth, hj] using this
theorem allWithin_c (A : Option Addr) (n c : Nat) (zs : List Int) (lo hi : Int) (w : World) (h : Holds w 1 A n c (ints zs)) :
    Calls Try.prog 39 #[.slice A n c, .int .i64 lo, .int .i64 hi] w fun e w' => e = .returned (.bool (allB zs lo hi)) ∧ w = w' := by
  have hm : n ≤ 9223372036854775807 := by have := h.2.1; have := h.2.2.1; unfold maxLen at this; omega
  have HL := Lib.hid h.intlen
  go_enter Try.func39, Try.ntmps39
  go_wp2
  go_loop [11] (fun i => ∃ k : Nat, k ≤ n ∧ i = .int .i64 k ∧ Hid (∀ j, j < k → inB (nth zs j) lo hi = true)) (fun i => n - (intOf i).toNat)
  case atStart => exact ⟨0, Nat.zero_le _, rfl, fun j hj => by omega⟩
  case round =>
    obtain ⟨k, hk, rfl, hall⟩ := hrel
    by_cases hlt : k < n
    · obtain ⟨b, off, rfl, hb, hc⟩ := h.int (by omega)
      have hck := hc k hlt
      clear hc h
      by_cases ht : inB (nth zs k) lo hi = true
      · go_wp2_with (go_at_call 36; refine (within_c _ _ _ _).mono ?_; rintro e w' ⟨rfl, rfl⟩)
        go_round
        case rel => exact ⟨k + 1, by omega, by go_num, fun j hj => by
          rcases Nat.lt_succ_iff_lt_or_eq.1 hj with hj | rfl
          · exact hall.out j hj
          · exact ht⟩
        case measure => simp [intOf]; omega
      · go_wp2_with (go_at_call 36; refine (within_c _ _ _ _).mono ?_; rintro e w' ⟨rfl, rfl⟩)
        go_ret
        exact ⟨ret_bool (allB_no (by rw [HL.out]; exact hlt) ht).symm, rfl⟩
    · go_wp2
      go_ret
      exact ⟨ret_bool (allB_yes (fun j hj => hall.out j (by have := HL.out; omega))).symm, rfl⟩

/-- the same ints -/
theorem eqIntS_c (A B : Option Addr) (n c m d : Nat) (zs ys : List Int) (w : World) (h : Holds w 1 A n c (ints zs)) (h' : Holds w 1 B m d (ints ys)) :
    Calls Try.prog 20 #[.slice A n c, .slice B m d] w (Ans (.bool (decide (zs = ys))) w) := by
  have hm : n ≤ 9223372036854775807 := by have := h.2.1; have := h.2.2.1; unfold maxLen at this; omega
  have HL := Lib.hid h.intlen
  have HL' := Lib.hid h'.intlen
  by_cases hnm : n = m
  · subst hnm
    go_enter Try.func20, Try.ntmps20
    go_wp2
    go_loopw [5] (fun i wr => ∃ k : Nat, k ≤ n ∧ i = .int .i64 k ∧ Hid (∀ j, j < k → nth zs j = nth ys j) ∧ Ext w wr) (fun i _ => n - (intOf i).toNat)
    case atStart => exact ⟨0, Nat.zero_le _, rfl, fun j hj => by omega, Ext.refl _⟩
    case round =>
      obtain ⟨k, hk, rfl, hall, hx⟩ := hrel
      by_cases hlt : k < n
      · obtain ⟨b, off, rfl, hb, hc⟩ := h.int (by omega)
        obtain ⟨b', off', rfl, hb', hc'⟩ := h'.int (by omega)
        have hck := hx.got (hc k hlt)
        have hck' := hx.got (hc' k hlt)
        clear hc h hc' h'
        have k0 : (0 : Int) ≤ (k : Int) := by omega
        have k1 : (k : Int) < (n : Int) := by omega
        by_cases ht : nth zs k = nth ys k
        · have ht' : (nth zs k != nth ys k) = false := by simpa using ht
          have Ht := Lib.hid ht
          clear ht
          go_wp2_with fail
          go_quiet (fail)
          go_wp2
          go_roundw
          case rel => exact ⟨k + 1, by omega, by go_num, fun j hj => by
            rcases Nat.lt_succ_iff_lt_or_eq.1 hj with hj | rfl
            · exact hall.out j hj
            · exact Ht.out, hx.drewN _⟩
          case measure => simp [intOf]; omega
        · have ht' : (nth zs k != nth ys k) = true := by simpa using ht
          go_wp2_with fail
          go_quiet (fail)
          go_wp2
          go_ret
          refine ⟨ret_bool ?_, hx.drewN _⟩
          exact (decide_eq_false (fun e => ht (by rw [e]))).symm
      · go_wp2
        go_ret
        refine ⟨ret_bool ?_, hx⟩
        refine (decide_eq_true (nth_ext (by rw [HL.out, HL'.out]) (fun j hj => hall.out j ?_))).symm
        have := HL.out
        omega
  · have hne : ((n : Int) != (m : Int)) = true := by rw [bne_iff_ne]; omega
    go_enter Try.func20, Try.ntmps20
    go_wp2
    go_ret
    refine ⟨ret_bool ?_, Ext.refl _⟩
    exact (decide_eq_false (fun e => hnm (by rw [← HL.out, ← HL'.out, e]))).symm
/-- a copy of ints -/
theorem toIntS_c (A : Option Addr) (n c : Nat) (zs : List Int) (w : World) (h : Holds w 1 A n c (ints zs)) (hn : n ≤ 1048576) :
    Calls Try.prog 18 #[.slice A n c] w (Fresh 3 1 n (ints zs) w) := by
  obtain ⟨i0, hi, hz0, hz1, hz2⟩ := info_parts intInfo
  have HL := Lib.hid h.intlen
  go_enter Try.func18, Try.ntmps18
  go_wp2_with (at_make; refine wpList_make_full _ rfl _ _ _ rfl w.heap.size 3 i0 (.int .i64 0) 1 Try.underlying32 hi hz0 hz1 _ _ _ _ n rfl rfl rfl rfl (by rw [hz2]; omega) (by unfold maxLen; omega) (Nat.le_refl _) ?_; intro w1 hown hgrow)
  have hm1 : w1.ownsRow w.heap.size 3 1 (.slice (some ⟨w.heap.size, 0, none⟩) n n) n (part (.int .i64 0) (ints zs) n 0) := by
    rw [part_zero, ← toList_madeCells_one]
    simpa [Value.cells] using hown
  have hx1 : Ext w w1 := (Ext.refl _).grown hgrow (by simp)
  clear hown hgrow
  go_loopw [4] (fun i wr => ∃ k : Nat, k ≤ n ∧ i = .int .i64 k ∧ wr.ownsRow w.heap.size 3 1 (.slice (some ⟨w.heap.size, 0, none⟩) n n) n (part (.int .i64 0) (ints zs) n k) ∧ Ext w wr) (fun i _ => n - (intOf i).toNat)
  case atStart => exact ⟨0, Nat.zero_le _, rfl, hm1, hx1⟩
  case round =>
    clear hm1 hx1
    obtain ⟨k, hk, rfl, hown, hx⟩ := hrel
    by_cases hlt : k < n
    · obtain ⟨b, off, rfl, hb, hc⟩ := h.int (by omega)
      have hck := hx.got (hc k hlt)
      have hset := World.ownsRow.stored hown k (.int .i64 (nth zs k))
      rw [part_set _ _ _ _ _ (by rw [ints_len, HL.out]) hlt (ints_get zs k (by rw [HL.out]; exact hlt))] at hset
      have Hset := Lib.hid hset
      obtain ⟨u, hu⟩ : ∃ u, wr.cell? ⟨w.heap.size, k, none⟩ = some u := by
        rw [World.ownsRow.cellAt hown k (by omega)]
        exact ⟨_, List.getElem?_eq_getElem (by rw [part_len _ _ _ _ (by rw [ints_len, HL.out]) hk]; exact hlt)⟩
      have hfz := World.ownsRow.frozenAt hown k
      clear hset hc h hown
      go_wp2
      go_roundw
      case rel => exact ⟨k + 1, by omega, by go_num, Hset.out.1, hx.setCell (Nat.le_refl _) _⟩
      case measure => simp [intOf]; omega
    · obtain rfl : k = n := by omega
      rw [part_all _ _ _ (by rw [ints_len, HL.out])] at hown
      go_wp2
      go_ret
      exact ⟨_, _, rfl, hown, hx⟩

/-- marks written into a slice of ints -/
theorem markIntS_c (base : Nat) (A : Option Addr) (n c : Nat) (xs : List Value) (k : Int) (w : World) (h : Own w base 3 1 A n c xs) (hk : 0 ≤ k) (hn : k + n ≤ 1000000000) :
    Calls Try.prog 23 #[.slice A n c, .int .i64 k] w (Marked base 3 1 A n c (ints (marks k n)) (k + n) w) := by
  have hxl : xs.length = n := by have := h.len; omega
  have HX := Lib.hid hxl
  clear hxl
  go_enter Try.func23, Try.ntmps23
  go_wp2
  go_loopw [1, 5] (fun v i wr => ∃ j : Nat, j ≤ n ∧ i = .int .i64 j ∧ v = .int .i64 (k + j) ∧ Own wr base 3 1 A n c (mixed (ints (marks k n)) xs j) ∧ w.grownBy wr (Value.slice A n c).ownBlock) (fun _ i _ => n - (intOf i).toNat)
  case atStart => exact ⟨0, Nat.zero_le _, rfl, by simp, by rw [mixed_zero]; exact h, World.grownBy.refl _ _⟩
  case round =>
    obtain ⟨j, hj, rfl, rfl, hown, hg⟩ := hrel
    by_cases hlt : j < n
    · obtain ⟨g, rfl, hg1, hg2⟩ := hown.form (by omega)
      have hset := (World.ownsRow.stored hown j (.int .i64 (k + j))).1
      rw [mixed_set _ _ _ n j (by rw [ints_len, marks_len]) HX.out hlt (by rw [ints_get _ _ (by rw [marks_len]; exact hlt), marks_nth _ _ _ hlt])] at hset
      have Hset := Lib.hid hset
      obtain ⟨u, hu⟩ : ∃ u, wr.cell? ⟨g, j, none⟩ = some u := by
        rw [World.ownsRow.cellAt hown j (by omega)]
        exact ⟨_, List.getElem?_eq_getElem (by rw [mixed_len _ _ n j (by rw [ints_len, marks_len]) HX.out hj]; exact hlt)⟩
      have hfz := World.ownsRow.frozenAt hown j
      have Hg := Lib.hid hg
      clear hset h hown hg
      go_wp2
      go_roundw
      case rel => exact ⟨j + 1, by omega, by go_num, by go_num, Hset.out, grownBy_set Hg.out⟩
      case measure => simp [intOf]; omega
    · obtain rfl : j = n := by omega
      rw [mixed_all _ _ j (by rw [ints_len, marks_len]) HX.out] at hown
      go_wp2
      go_ret
      exact ⟨rfl, hown, hg⟩
/-- the marks are there -/
theorem heldIntS_c (A : Option Addr) (n c : Nat) (k : Int) (w : World) (h : Holds w 1 A n c (ints (marks k n))) (hk : 0 ≤ k) (hn : k + n ≤ 1000000000) :
    Calls Try.prog 24 #[.slice A n c, .int .i64 k] w fun e w' => e = .returned (.int .i64 (k + n)) ∧ w = w' := by
  go_enter Try.func24, Try.ntmps24
  go_wp2
  go_loop [1, 5] (fun v i => ∃ j : Nat, j ≤ n ∧ i = .int .i64 j ∧ v = .int .i64 (k + j)) (fun _ i => n - (intOf i).toNat)
  case atStart => exact ⟨0, Nat.zero_le _, rfl, by simp⟩
  case round =>
    obtain ⟨j, hj, rfl, rfl⟩ := hrel
    by_cases hlt : j < n
    · obtain ⟨b, off, rfl, hb, hc⟩ := h.int (by omega)
      have hcj := hc j hlt
      rw [marks_nth _ _ _ hlt] at hcj
      clear hc h
      go_wp2
      go_round
      case rel => exact ⟨j + 1, by omega, by go_num, by go_num⟩
      case measure => simp [intOf]; omega
    · obtain rfl : j = n := by omega
      go_wp2
      go_ret
      exact ⟨rfl, rfl⟩
end Go.Proofs.Ytbenbjbfmcdedaa
