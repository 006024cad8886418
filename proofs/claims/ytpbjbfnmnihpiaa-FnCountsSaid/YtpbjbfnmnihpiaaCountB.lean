/-
  The contracts of TotalGap, FirstGap and LargestGap, of the program and of the reference.
-/
import Derived.Test.YtpbjbfnmnihpiaaCountA
namespace Go.Proofs.Ytpbjbfnmnihpiaa
open Go.RowKit

theorem gapF_bd (es : List Entry) (s k : Int) : -300000 ≤ gapF es s k ∧ gapF es s k ≤ 300000 := by
  unfold gapF
  split
  · rename_i h
    obtain ⟨k1, k2⟩ := inB_yes h.2.2
    obtain ⟨s1, s2⟩ := inB_yes h.2.1
    have hm : k.toNat < es.length := by omega
    obtain ⟨⟨q1, q2⟩, ⟨q3, q4⟩, ⟨q5, q6⟩⟩ := entAt_yes ((entB_at h.1).2 _ hm)
    have hb : 0 ≤ (if 0 < k.toNat then (Entry.at_ es (k.toNat - 1)).f2 else s) ∧ (if 0 < k.toNat then (Entry.at_ es (k.toNat - 1)).f2 else s) ≤ 100000 := by
      split
      · exact (entAt_yes ((entB_at h.1).2 _ (by omega))).2.2
      · exact ⟨s1, s2⟩
    unfold gapN
    omega
  · omega
/-- f 0 + .. + f (k - 1) -/
def sumG (f : Nat → Int) : Nat → Int
  | 0 => 0
  | k + 1 => sumG f k + f k
theorem sumG_bd {f : Nat → Int} {b : Int} (h : ∀ i, -b ≤ f i ∧ f i ≤ b) (k : Nat) : -(k * b) ≤ sumG f k ∧ sumG f k ≤ k * b := by
  induction k with
  | zero => simp [sumG]
  | succ k ih =>
    have h2 := h k
    have : ((k + 1 : Nat) : Int) * b = k * b + b := by push_cast; rw [Int.add_mul, Int.one_mul]
    simp only [sumG]
    omega
noncomputable def gapI (es : List Entry) (s : Int) (k : Nat) : Int := gapF es s (k : Int)
theorem gapI_bd (es : List Entry) (s : Int) (k : Nat) : -300000 ≤ gapI es s k ∧ gapI es s k ≤ 300000 := gapF_bd es s k
noncomputable def totalF (es : List Entry) (s : Int) : Int := sumG (gapI es s) es.length
open Classical in
/-- the first index at which f is not 0, else -1 -/
noncomputable def firstNZ (f : Nat → Int) (n : Nat) : Int := if h : ∃ k, k < n ∧ f k ≠ 0 ∧ ∀ j, j < k → f j = 0 then (Classical.choose h : Nat) else -1
theorem firstNZ_yes {f : Nat → Int} {n k : Nat} (hk : k < n) (h1 : f k ≠ 0) (h2 : ∀ j, j < k → f j = 0) : firstNZ f n = k := by
  have h : ∃ k, k < n ∧ f k ≠ 0 ∧ ∀ j, j < k → f j = 0 := ⟨k, hk, h1, h2⟩
  unfold firstNZ
  rw [dif_pos h]
  have hc := Classical.choose_spec h
  have : Classical.choose h = k := by
    rcases Nat.lt_trichotomy (Classical.choose h) k with hlt | heq | hgt
    · exact absurd (h2 _ hlt) hc.2.1
    · exact heq
    · exact absurd (hc.2.2 _ hgt) h1
  rw [this]
theorem firstNZ_no {f : Nat → Int} {n : Nat} (h : ∀ j, j < n → f j = 0) : firstNZ f n = -1 := by
  unfold firstNZ
  rw [dif_neg]
  rintro ⟨k, hk, h1, _⟩
  exact h1 (h k hk)
theorem firstNZ_range (f : Nat → Int) (n : Nat) : (firstNZ f n = -1 ∧ ∀ j, j < n → f j = 0) ∨ ∃ k, k < n ∧ firstNZ f n = k ∧ f k ≠ 0 ∧ ∀ j, j < k → f j = 0 := by
  by_cases h : ∃ k, k < n ∧ f k ≠ 0 ∧ ∀ j, j < k → f j = 0
  · obtain ⟨k, hk, h1, h2⟩ := h
    exact .inr ⟨k, hk, firstNZ_yes hk h1 h2, h1, h2⟩
  · left
    have hall : ∀ j, j < n → f j = 0 := by
      intro j
      induction j using Nat.strongRecOn with
      | _ j ih =>
        intro hj
        rcases Classical.em (f j = 0) with h0 | h0
        · exact h0
        · exact absurd ⟨j, hj, h0, fun i hi => ih i hi (by omega)⟩ h
    exact ⟨firstNZ_no hall, hall⟩
noncomputable def firstF (es : List Entry) (s : Int) : Int := firstNZ (gapI es s) es.length
/-- the index of the largest gap among the first k, from b on -/
def absI (x : Int) : Int := if x < 0 then -x else x
noncomputable def bestL (es : List Entry) (s b : Int) : Nat → Int
  | 0 => b
  | k + 1 => if 0 ≤ bestL es s b k ∧ absI (gapF es s (bestL es s b k)) < absI (gapI es s k) then (k : Int) else bestL es s b k
noncomputable def largestF (es : List Entry) (s : Int) : Int := bestL es s (firstF es s) es.length
theorem bestL_neg (es : List Entry) (s b : Int) (h : b < 0) (k : Nat) : bestL es s b k = b := by
  induction k with
  | zero => rfl
  | succ k ih => rw [bestL, ih, if_neg (by omega)]
theorem bestL_bd (es : List Entry) (s b : Int) (n : Nat) (h : -1 ≤ b ∧ b ≤ n) (k : Nat) (hk : k ≤ n) : -1 ≤ bestL es s b k ∧ bestL es s b k ≤ n := by
  induction k with
  | zero => exact h
  | succ k ih =>
    have := ih (by omega)
    rw [bestL]
    split <;> omega
theorem firstF_bd (es : List Entry) (s : Int) (n : Nat) (hn : es.length = n) : -1 ≤ firstF es s ∧ firstF es s ≤ n := by
  unfold firstF
  rcases firstNZ_range (gapI es s) es.length with ⟨h, _⟩ | ⟨k, hk, h, _⟩ <;> rw [h] <;> omega
theorem totalGap_c (A : Option Addr) (n c : Nat) (es : List Entry) (s : Int) (w : World) (h : Holds w 3 A n c (Entry.all es)) (hn : n ≤ 1048576) :
    Calls Try.prog 13 #[.slice A n c, .int .i64 s] w (Ans (.int .i64 (totalF es s)) w) := by
  have HL := Lib.hid (Entry.len h)
  have H := Lib.hid (show totalF es s = sumG (gapI es s) n from by rw [totalF, HL.out])
  go_enter Try.func13, Try.ntmps13
  go_wp2
  go_loopw [5, 9] (fun v i wr => ∃ k : Nat, k ≤ n ∧ i = .int .i64 k ∧ v = .int .i64 (sumG (gapI es s) k) ∧ Ext w wr) (fun _ i _ => n - (intOf i).toNat)
  case atStart => exact ⟨0, Nat.zero_le _, rfl, rfl, Ext.refl _⟩
  case round =>
    obtain ⟨k, hk, rfl, rfl, hx⟩ := hrel
    by_cases hlt : k < n
    · obtain ⟨q1, q2⟩ := sumG_bd (gapI_bd es s) k
      obtain ⟨q3, q4⟩ := gapF_bd es s (k : Int)
      go_wp2_with fail
      refine (gapAt_c _ _ _ es s _ _ (h.ext hx)).mono ?_; rintro e w1 ⟨rfl, x1⟩
      go_wp2
      go_roundw
      case rel => exact ⟨k + 1, by omega, by go_num, rfl, hx.trans x1⟩
      case measure => simp [intOf]; omega
    · obtain rfl : k = n := by omega
      go_wp2
      go_ret
      exact ⟨ret_int H.out.symm, hx⟩
theorem sTotalGap_c (A : Option Addr) (n c : Nat) (es : List Entry) (s : Int) (w : World) (h : Holds w 3 A n c (Entry.all es)) (hn : n ≤ 1048576) :
    Calls Try.prog 24 #[.slice A n c, .int .i64 s] w (Ans (.int .i64 (totalF es s)) w) := by
  have HL := Lib.hid (Entry.len h)
  have H := Lib.hid (show totalF es s = sumG (gapI es s) n from by rw [totalF, HL.out])
  go_enter Try.func24, Try.ntmps24
  go_wp2
  go_loopw [5, 6] (fun v i wr => ∃ k : Nat, k ≤ n ∧ i = .int .i64 k ∧ v = .int .i64 (sumG (gapI es s) k) ∧ Ext w wr) (fun _ i _ => n - (intOf i).toNat)
  case atStart => exact ⟨0, Nat.zero_le _, rfl, rfl, Ext.refl _⟩
  case round =>
    obtain ⟨k, hk, rfl, rfl, hx⟩ := hrel
    by_cases hlt : k < n
    · obtain ⟨q1, q2⟩ := sumG_bd (gapI_bd es s) k
      obtain ⟨q3, q4⟩ := gapF_bd es s (k : Int)
      go_wp2_with fail
      refine (sGapAt_c _ _ _ es s _ _ (h.ext hx)).mono ?_; rintro e w1 ⟨rfl, x1⟩
      go_wp2
      go_roundw
      case rel => exact ⟨k + 1, by omega, by go_num, rfl, hx.trans x1⟩
      case measure => simp [intOf]; omega
    · obtain rfl : k = n := by omega
      go_wp2
      go_ret
      exact ⟨ret_int H.out.symm, hx⟩
theorem firstGap_c (A : Option Addr) (n c : Nat) (es : List Entry) (s : Int) (w : World) (h : Holds w 3 A n c (Entry.all es)) :
    Calls Try.prog 12 #[.slice A n c, .int .i64 s] w (Ans (.int .i64 (firstF es s)) w) := by
  have hmx : n ≤ 9223372036854775807 := by have := h.2.1; have := h.2.2.1; unfold maxLen at this; omega
  have HL := Lib.hid (Entry.len h)
  go_enter Try.func12, Try.ntmps12
  go_wp2
  go_loopw [8] (fun i wr => ∃ k : Nat, k ≤ n ∧ i = .int .i64 k ∧ Hid (∀ j, j < k → gapI es s j = 0) ∧ Ext w wr) (fun i _ => n - (intOf i).toNat)
  case atStart => exact ⟨0, Nat.zero_le _, rfl, fun j hj => by omega, Ext.refl _⟩
  case round =>
    obtain ⟨k, hk, rfl, hall, hx⟩ := hrel
    by_cases hlt : k < n
    · by_cases t : gapF es s (k : Int) = 0
      · have t' : (gapF es s (k : Int) != 0) = false := by simp [t]
        have T := Lib.hid t
        clear t
        go_wp2_with fail
        refine (gapAt_c _ _ _ es s _ _ (h.ext hx)).mono ?_; rintro e w1 ⟨rfl, x1⟩
        go_wp2
        go_roundw
        case rel => exact ⟨k + 1, by omega, by go_num, fun j hj => by
          rcases Nat.lt_succ_iff_lt_or_eq.1 hj with hj | rfl
          · exact hall.out j hj
          · exact T.out, hx.trans x1⟩
        case measure => simp [intOf]; omega
      · have t' : (gapF es s (k : Int) != 0) = true := by simp [t]
        have T := Lib.hid t
        clear t
        go_wp2_with fail
        refine (gapAt_c _ _ _ es s _ _ (h.ext hx)).mono ?_; rintro e w1 ⟨rfl, x1⟩
        go_wp2
        go_ret
        exact ⟨ret_int (firstNZ_yes (by rw [HL.out]; exact hlt) T.out hall.out).symm, hx.trans x1⟩
    · go_wp2
      go_ret
      exact ⟨ret_int (firstNZ_no (fun j hj => hall.out j (by have := HL.out; omega))).symm, hx⟩
theorem sFirstGap_c (A : Option Addr) (n c : Nat) (es : List Entry) (s : Int) (w : World) (h : Holds w 3 A n c (Entry.all es)) :
    Calls Try.prog 25 #[.slice A n c, .int .i64 s] w (Ans (.int .i64 (firstF es s)) w) := by
  have hmx : n ≤ 9223372036854775807 := by have := h.2.1; have := h.2.2.1; unfold maxLen at this; omega
  have HL := Lib.hid (Entry.len h)
  go_enter Try.func25, Try.ntmps25
  go_wp2
  go_loopw [5] (fun i wr => ∃ k : Nat, k ≤ n ∧ i = .int .i64 k ∧ Hid (∀ j, j < k → gapI es s j = 0) ∧ Ext w wr) (fun i _ => n - (intOf i).toNat)
  case atStart => exact ⟨0, Nat.zero_le _, rfl, fun j hj => by omega, Ext.refl _⟩
  case round =>
    obtain ⟨k, hk, rfl, hall, hx⟩ := hrel
    by_cases hlt : k < n
    · by_cases t : gapF es s (k : Int) = 0
      · have t' : (gapF es s (k : Int) != 0) = false := by simp [t]
        have T := Lib.hid t
        clear t
        go_wp2_with fail
        refine (sGapAt_c _ _ _ es s _ _ (h.ext hx)).mono ?_; rintro e w1 ⟨rfl, x1⟩
        go_wp2
        go_roundw
        case rel => exact ⟨k + 1, by omega, by go_num, fun j hj => by
          rcases Nat.lt_succ_iff_lt_or_eq.1 hj with hj | rfl
          · exact hall.out j hj
          · exact T.out, hx.trans x1⟩
        case measure => simp [intOf]; omega
      · have t' : (gapF es s (k : Int) != 0) = true := by simp [t]
        have T := Lib.hid t
        clear t
        go_wp2_with fail
        refine (sGapAt_c _ _ _ es s _ _ (h.ext hx)).mono ?_; rintro e w1 ⟨rfl, x1⟩
        go_wp2
        go_ret
        exact ⟨ret_int (firstNZ_yes (by rw [HL.out]; exact hlt) T.out hall.out).symm, hx.trans x1⟩
    · go_wp2
      go_ret
      exact ⟨ret_int (firstNZ_no (fun j hj => hall.out j (by have := HL.out; omega))).symm, hx⟩
theorem size_c (x : Int) (w : World) (h : -1000000 ≤ x ∧ x ≤ 1000000) : Calls Try.prog 31 #[.int .i64 x] w fun e w' => e = .returned (.int .i64 (absI x)) ∧ w = w' := by
  by_cases hx : x < 0
  · go_enter Try.func31, Try.ntmps31
    go_wp2
    go_ret
    exact ⟨ret_int (by rw [absI, if_pos hx]), rfl⟩
  · go_enter Try.func31, Try.ntmps31
    go_wp2
    go_ret
    exact ⟨ret_int (by rw [absI, if_neg (by omega)]), rfl⟩
theorem largestGap_c (A : Option Addr) (n c : Nat) (es : List Entry) (s : Int) (w : World) (h : Holds w 3 A n c (Entry.all es)) (hn : n ≤ 1048576) :
    Calls Try.prog 15 #[.slice A n c, .int .i64 s] w (Ans (.int .i64 (largestF es s)) w) := by
  have HL := Lib.hid (Entry.len h)
  have H := Lib.hid (show largestF es s = bestL es s (firstF es s) n from by rw [largestF, HL.out])
  have FB := Lib.hid (firstF_bd es s n HL.out)
  go_enter Try.func15, Try.ntmps15
  go_wp2_with fail
  refine (firstGap_c _ _ _ es s _ h).mono ?_; rintro e w1 ⟨rfl, x1⟩
  go_wp2_with fail
  go_loopw [5, 12] (fun v i wr => ∃ k : Nat, k ≤ n ∧ i = .int .i64 k ∧ v = .int .i64 (bestL es s (firstF es s) k) ∧ Ext w wr) (fun _ i _ => n - (intOf i).toNat)
  case atStart => exact ⟨0, Nat.zero_le _, rfl, rfl, x1⟩
  case round =>
    clear x1
    obtain ⟨k, hk, rfl, rfl, hx⟩ := hrel
    by_cases hlt : k < n
    · obtain ⟨b1, b2⟩ := bestL_bd es s _ n FB.out k hk
      have HB := Lib.hid (show bestL es s (firstF es s) (k + 1) = if 0 ≤ bestL es s (firstF es s) k ∧ absI (gapF es s (bestL es s (firstF es s) k)) < absI (gapI es s k) then (k : Int) else bestL es s (firstF es s) k from rfl)
      generalize bestL es s (firstF es s) k = B at *
      by_cases hB : 0 ≤ B
      · by_cases t : absI (gapF es s B) < absI (gapF es s (k : Int))
        · go_wp2_with fail
          refine (gapAt_c _ _ _ es s _ _ (h.ext hx)).mono ?_; rintro e w2 ⟨rfl, x2⟩
          go_wp2_with fail
          refine (size_c _ _ (by have := gapF_bd es s (k : Int); omega)).mono ?_; rintro e w3 ⟨rfl, rfl⟩
          go_wp2_with fail
          refine (gapAt_c _ _ _ es s _ _ (h.ext (hx.trans x2))).mono ?_; rintro e w3 ⟨rfl, x3⟩
          go_wp2_with fail
          refine (size_c _ _ (by have := gapF_bd es s B; omega)).mono ?_; rintro e w4 ⟨rfl, rfl⟩
          go_wp2
          go_roundw
          case rel => exact ⟨k + 1, by omega, by go_num, by rw [HB.out, if_pos ⟨hB, t⟩], (hx.trans x2).trans x3⟩
          case measure => simp [intOf]; omega
        · have t' : decide (absI (gapF es s B) < absI (gapF es s (k : Int))) = false := by simpa using t
          have T := Lib.hid t
          clear t
          go_wp2_with fail
          refine (gapAt_c _ _ _ es s _ _ (h.ext hx)).mono ?_; rintro e w2 ⟨rfl, x2⟩
          go_wp2_with fail
          refine (size_c _ _ (by have := gapF_bd es s (k : Int); omega)).mono ?_; rintro e w3 ⟨rfl, rfl⟩
          go_wp2_with fail
          refine (gapAt_c _ _ _ es s _ _ (h.ext (hx.trans x2))).mono ?_; rintro e w3 ⟨rfl, x3⟩
          go_wp2_with fail
          refine (size_c _ _ (by have := gapF_bd es s B; omega)).mono ?_; rintro e w4 ⟨rfl, rfl⟩
          go_wp2
          go_roundw
          case rel => exact ⟨k + 1, by omega, by go_num, by rw [HB.out, if_neg (fun e => absurd e.2 (by first | exact T.out | exact Int.not_lt.2 T.out))], (hx.trans x2).trans x3⟩
          case measure => simp [intOf]; omega
      · go_wp2
        go_roundw
        case rel => exact ⟨k + 1, by omega, by go_num, by rw [HB.out, if_neg (fun e => hB e.1)], hx⟩
        case measure => simp [intOf]; omega
    · obtain rfl : k = n := by omega
      go_wp2
      go_ret
      exact ⟨ret_int H.out.symm, hx⟩
theorem abs_max (x : Int) : max x (-x) = absI x := by unfold absI; split <;> omega
theorem sLargestGap_c (A : Option Addr) (n c : Nat) (es : List Entry) (s : Int) (w : World) (h : Holds w 3 A n c (Entry.all es)) (hn : n ≤ 1048576) :
    Calls Try.prog 27 #[.slice A n c, .int .i64 s] w (Ans (.int .i64 (largestF es s)) w) := by
  have HL := Lib.hid (Entry.len h)
  have H := Lib.hid (show largestF es s = bestL es s (firstF es s) n from by rw [largestF, HL.out])
  have FB := Lib.hid (firstF_bd es s n HL.out)
  go_enter Try.func27, Try.ntmps27
  go_wp2_with fail
  refine (sFirstGap_c _ _ _ es s _ h).mono ?_; rintro e w1 ⟨rfl, x1⟩
  go_wp2_with fail
  go_loopw [5, 6] (fun v i wr => ∃ k : Nat, k ≤ n ∧ i = .int .i64 k ∧ v = .int .i64 (bestL es s (firstF es s) k) ∧ Ext w wr) (fun _ i _ => n - (intOf i).toNat)
  case atStart => exact ⟨0, Nat.zero_le _, rfl, rfl, x1⟩
  case round =>
    clear x1
    obtain ⟨k, hk, rfl, rfl, hx⟩ := hrel
    have HN := Lib.hid (fun hb : bestL es s (firstF es s) k < 0 => show bestL es s (firstF es s) n = bestL es s (firstF es s) k from by
      have h1 : firstF es s < 0 := by
        rcases Int.lt_or_le (firstF es s) 0 with h0 | h0
        · exact h0
        · exfalso
          have : ∀ k, 0 ≤ bestL es s (firstF es s) k := by
            intro k
            induction k with
            | zero => exact h0
            | succ k ih => rw [bestL]; split <;> omega
          have := this k
          omega
      rw [bestL_neg _ _ _ h1, bestL_neg _ _ _ h1])
    by_cases hlt : k < n
    · obtain ⟨b1, b2⟩ := bestL_bd es s _ n FB.out k hk
      have HB := Lib.hid (show bestL es s (firstF es s) (k + 1) = if 0 ≤ bestL es s (firstF es s) k ∧ absI (gapF es s (bestL es s (firstF es s) k)) < absI (gapI es s k) then (k : Int) else bestL es s (firstF es s) k from rfl)
      generalize bestL es s (firstF es s) k = B at *
      by_cases hB : 0 ≤ B
      · obtain ⟨g1, g2⟩ := gapF_bd es s (k : Int)
        obtain ⟨g3, g4⟩ := gapF_bd es s B
        by_cases t : max (gapF es s B) (-gapF es s B) < max (gapF es s (k : Int)) (-gapF es s (k : Int))
        · have T := Lib.hid (show absI (gapF es s B) < absI (gapI es s k) from by rw [← abs_max, ← abs_max]; exact t)
          go_wp2_with fail
          refine (sGapAt_c _ _ _ es s _ _ (h.ext hx)).mono ?_; rintro e w2 ⟨rfl, x2⟩
          go_wp2_with fail
          refine (sGapAt_c _ _ _ es s _ _ (h.ext (hx.trans x2))).mono ?_; rintro e w3 ⟨rfl, x3⟩
          go_wp2
          go_roundw
          case rel => exact ⟨k + 1, by omega, by go_num, by rw [HB.out, if_pos ⟨hB, T.out⟩], (hx.trans x2).trans x3⟩
          case measure => simp [intOf]; omega
        · have T := Lib.hid (show ¬ absI (gapF es s B) < absI (gapI es s k) from by rw [← abs_max, ← abs_max]; exact t)
          have t' : decide (max (gapF es s B) (-gapF es s B) < max (gapF es s (k : Int)) (-gapF es s (k : Int))) = false := by simpa using t
          clear t
          go_wp2_with fail
          refine (sGapAt_c _ _ _ es s _ _ (h.ext hx)).mono ?_; rintro e w2 ⟨rfl, x2⟩
          go_wp2_with fail
          refine (sGapAt_c _ _ _ es s _ _ (h.ext (hx.trans x2))).mono ?_; rintro e w3 ⟨rfl, x3⟩
          go_wp2
          go_roundw
          case rel => exact ⟨k + 1, by omega, by go_num, by rw [HB.out, if_neg (fun e => absurd e.2 (by first | exact T.out | exact Int.not_lt.2 T.out))], (hx.trans x2).trans x3⟩
          case measure => simp [intOf]; omega
      · go_wp2
        go_ret
        exact ⟨ret_int (by rw [H.out, HN.out (by omega)]), hx⟩
    · obtain rfl : k = n := by omega
      go_wp2
      go_ret
      exact ⟨ret_int H.out.symm, hx⟩
end Go.Proofs.Ytpbjbfnmnihpiaa
