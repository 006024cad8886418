/-
  The contracts of ReadingText, of the program and of the reference, over numbers 0 .. 99999 and outside. Conditions: strconv's table lies as its text lays it.
-/
import Derived.Test.YticpkgiccpglmaaDoorMeterA
import Derived.Test.YticpkgiccpglmaaDoorSortM
import Derived.Lib.ItoaLen
import Derived.IntWalk
import Derived.Laws.IdiomStrings
namespace Go.Proofs.YticpkgiccpglmaaDoor
open Go.RowKit

theorem u8_in (x : Int) (h : 0 ≤ x ∧ x ≤ 255) : IntKind.u8.wrap x = x := by
  unfold IntKind.wrap
  simp [IntKind.bits, IntKind.signed]
  omega
theorem figure_c (x : Int) (w : World) (h : 0 ≤ x ∧ x ≤ 9) : Calls Tryd.prog 27 #[.int .i64 x] w fun e w' => e = .returned (.int .u8 (48 + x)) ∧ w = w' := by
  have hd : decide (x < 10) = true := decide_eq_true (by omega)
  have s1 : IntKind.i64.wrap (48 + x) = 48 + x := IntWalk.i64_in _ (by omega)
  have s2 : IntKind.u8.wrap (48 + x) = 48 + x := u8_in _ (by omega)
  go_enter Tryd.func27, Tryd.ntmps27
  go_wp2
  go_ret
  exact ⟨rfl, rfl⟩
/-- the last j figures of N -/
def SD (N : Nat) : Nat → List UInt8
  | 0 => []
  | j + 1 => UInt8.ofNat (48 + N / 10 ^ j % 10) :: SD N j
theorem SD_len (N j : Nat) : (SD N j).length = j := by
  induction j with
  | zero => rfl
  | succ j ih => simp [SD, ih]
theorem sFormat_c (N : Nat) (w : World) (hN : N ≤ 99999) : Calls Tryd.prog 17 #[.int .i64 N] w fun e w' => ∃ j, (1 ≤ j ∧ j ≤ 5 ∧ N < 10 ^ j) ∧ e = .returned (.string ⟨(SD N j).toArray⟩) ∧ Ext w w' := by
  by_cases h0 : N = 0
  · subst h0
    go_enter Tryd.func17, Tryd.ntmps17
    go_wp2
    go_ret
    exact ⟨1, by decide, rfl, Ext.refl _⟩
  · have t0 : ((N : Int) == 0) = false := by simp; omega
    have t1 : decide ((N : Int) < 0) = false := decide_eq_false (by omega)
    go_enter Tryd.func17, Tryd.ntmps17
    go_wp2
    go_loopw [0, 4] (fun n s wr => ∃ (j m : Nat) (b : ByteArray), j ≤ 5 ∧ n = .int .i64 (m : Int) ∧ s = .string b ∧ Hid (m = N / 10 ^ j ∧ b = ⟨(SD N j).toArray⟩) ∧ Ext w wr) (fun n _ _ => (intOf n).toNat)
    case atStart => exact ⟨0, N, _, by omega, rfl, rfl, ⟨by simp, rfl⟩, Ext.refl _⟩
    case round =>
      obtain ⟨j, m, b, hj, rfl, rfl, hm, hx⟩ := hrel
      have hB : m ≤ 99999 := by rw [hm.out.1]; exact Nat.le_trans (Nat.div_le_self _ _) hN
      have h5 : 5 ≤ j → m = 0 := fun h => by
        obtain rfl : j = 5 := by omega
        have := hm.out.1
        omega
      by_cases hz : m = 0
      · have hm2 := hm.out
        have h1 : Hid (1 ≤ j ∧ N < 10 ^ j) := by
          have e1 : N < 10 ^ j := by have := hm2.1; rw [hz] at this; exact (Nat.div_eq_zero_iff.1 this.symm).resolve_left (by have := Nat.pow_pos (n := j) (show 0 < 10 by decide); omega)
          refine ⟨?_, e1⟩
          rcases Nat.eq_zero_or_pos j with e | e
          · subst e; simp at e1; omega
          · exact e
        have HB := Lib.hid hm2.2
        subst hz
        clear hm hm2 h5
        have a0 : (((0 : Nat) : Int) != 0) = false := by simp
        go_wp2_with fail
        refine bodyPost_ret (v := .string b) (by simp [results, Tryd.results17, go_sem, *]) rfl ?_
        exact ⟨j, ⟨h1.out.1, hj, h1.out.2⟩, by rw [HB.out], hx⟩
      · have a0 : ((m : Int) != 0) = true := by simp; omega
        have a1 : (m : Int).tmod 10 = ((m % 10 : Nat) : Int) := by rw [Int.tmod_eq_emod_of_nonneg (by omega)]; simp
        have a2 : (m : Int).tdiv 10 = ((m / 10 : Nat) : Int) := by rw [Int.tdiv_eq_ediv_of_nonneg (by omega)]; simp
        obtain ⟨d, hd⟩ : ∃ d, d = m % 10 := ⟨_, rfl⟩
        obtain ⟨q, hq⟩ : ∃ q, q = m / 10 := ⟨_, rfl⟩
        have a3 : decide ((d : Int) < 0) = false := decide_eq_false (by omega)
        have hd9 : d ≤ 9 := by omega
        have hqm : q < m := by omega
        rw [← hd] at a1
        rw [← hq] at a2
        have HD := Lib.hid hd
        have HQ := Lib.hid hq
        have hbs : b.size ≤ 5 := by
          rw [hm.out.2]
          show (SD N j).toArray.size ≤ 5
          simp [SD_len]; omega
        have hE : Hid ((⟨#[48 + UInt8.ofNat d]⟩ : ByteArray) ++ b = ⟨(SD N (j + 1)).toArray⟩) := by
          show _ = _
          rw [hm.out.2, SD, ← hm.out.1, ← hd]
          apply ByteArray.ext
          simp
        have hM := Lib.hid (show q = N / 10 ^ (j + 1) from by rw [hq, hm.out.1, Nat.pow_succ, Nat.div_div_eq_div_mul])
        have hj5 : j + 1 ≤ 5 := by omega
        clear hd hq h5 hm
        have hc := run_convert_bytes_back (P := Tryd.prog) (wr.alloc (.cells #[.int .u8 (48 + (d : Int))] 5)) 24 9 5 ⟨wr.heap.size, 0, none⟩ 1 [UInt8.ofNat (48 + d)] Tryd.underlying24 Tryd.underlying5 Tryd.underlying9 (fun i hi => by
          obtain rfl : i = 0 := by simpa using hi
          have e : (48 + d) % 256 = 48 + d := by omega
          simp [Addr.add, go_sem, e])
        simp only [List.length_singleton] at hc
        have hx2 : Ext w (wr.alloc (.cells #[.int .u8 (48 + (d : Int))] 5)) := hx.alloc _
        go_wp2_with (go_at_call 27; refine (figure_c _ _ (by omega)).mono ?_; rintro e w' ⟨rfl, rfl⟩)
        go_roundw
        case rel => exact ⟨j + 1, q, _, hj5, rfl, rfl, ⟨hM.out, hE.out⟩, hx2⟩
        case measure => simp [intOf]; omega
/-- what ReadingText answers -/
noncomputable def readF (n : Int) : ByteArray := if inB n 0 99999 = true then ⟨(SD n.toNat 5).toArray⟩ else ⟨#[]⟩
theorem sRead_c (n : Int) (w : World) : Calls Tryd.prog 5 #[.int .i64 n] w (Ans (.string (readF n)) w) := by
  by_cases hi : inB n 0 99999 = true
  · obtain ⟨N, rfl⟩ : ∃ N : Nat, n = (N : Int) := ⟨n.toNat, by have := inB_yes hi; omega⟩
    have hN : N ≤ 99999 := by have := inB_yes hi; omega
    have HF := Lib.hid (show readF (N : Int) = ⟨(SD N 5).toArray⟩ from if_pos hi)
    go_enter Tryd.func5, Tryd.ntmps5
    go_wp2_with (go_at_call 16; refine (l24Ok_c _ _).mono ?_; rintro e w' ⟨rfl, rfl⟩)
    refine (sFormat_c N _ hN).mono ?_; rintro e w1 ⟨j, ⟨j1, j5, jN⟩, rfl, x1⟩
    obtain ⟨b, hb⟩ : ∃ b : ByteArray, b = ⟨(SD N j).toArray⟩ := ⟨_, rfl⟩
    rw [← hb]
    have HB := Lib.hid hb
    have HN := Lib.hid jN
    clear hb jN
    go_wp2_with fail
    go_loopw [3] (fun s wr => ∃ (k : Nat) (b : ByteArray), 1 ≤ k ∧ k ≤ 5 ∧ s = .string b ∧ b.size = k ∧ Hid (N < 10 ^ k ∧ b = ⟨(SD N k).toArray⟩) ∧ Ext w wr) (fun s _ => 5 - (match s with | .string b => b.size | _ => 0))
    case atStart => exact ⟨j, b, j1, j5, rfl, by rw [HB.out]; show (SD N j).toArray.size = j; simp [SD_len], ⟨HN.out, HB.out⟩, x1⟩
    case round =>
      clear HB HN j1 j5 x1
      obtain ⟨k, b, k1, k5, rfl, hs, hb, hx⟩ := hrel
      by_cases hk : k < 5
      · have d1 : decide ((b.size : Int) < 5) = true := decide_eq_true (by omega)
        have hE : Hid ((⟨#[48]⟩ : ByteArray) ++ b = ⟨(SD N (k + 1)).toArray⟩) := by
          show _ = _
          rw [hb.out.2, SD, Nat.div_eq_of_lt hb.out.1]
          apply ByteArray.ext
          simp
        have hN2 : Hid (N < 10 ^ (k + 1)) := by show N < _; have := hb.out.1; rw [Nat.pow_succ]; omega
        have hsz : ((⟨#[48]⟩ : ByteArray) ++ b).size = k + 1 := by rw [ByteArray.size_append, hs]; show 1 + k = _; omega
        clear hb
        go_wp2_with fail
        go_roundw
        case rel => exact ⟨k + 1, _, by omega, by omega, rfl, hsz, ⟨hN2.out, hE.out⟩, hx⟩
        case measure => simp only [hsz, hs]; omega
      · have d1 : decide ((b.size : Int) < 5) = false := decide_eq_false (by omega)
        obtain rfl : k = 5 := by omega
        go_wp2_with fail
        refine bodyPost_ret (v := .string b) (by simp [results, Tryd.results5, go_sem, *]) rfl ?_
        exact ⟨by rw [HF.out, hb.out.2], hx⟩
  · have h0 : inB n 0 99999 = false := by simpa using hi
    have HF := Lib.hid (show readF n = ⟨#[]⟩ from if_neg hi)
    go_enter Tryd.func5, Tryd.ntmps5
    go_wp2_with (go_at_call 16; refine (l24Ok_c _ _).mono ?_; rintro e w' ⟨rfl, rfl⟩)
    refine bodyPost_ret (v := .string ⟨#[]⟩) (by simp [results, Tryd.results5, go_sem, *]) rfl ?_
    exact ⟨by rw [HF.out], Ext.refl _⟩
/-- strconv's table -/
def Tab (w : World) : Prop := Lib.TabIs Tryd.prog w "internal/strconv.uint64pow10" .u64 Lib.pow10Tab
theorem Tab.ext {w w' : World} (h : Tab w) (x : Ext w w') : Tab w' := by
  unfold Tab Lib.TabIs World.var? at *
  obtain ⟨g, hg, h1⟩ := Option.bind_eq_some_iff.1 h
  rw [hg]
  show (match w'.heap[g]? with | some (.cells cs _ _) => some cs | _ => none) = _
  have hlt : g < w.heap.size := by
    rcases Nat.lt_or_ge g w.heap.size with q | q
    · exact q
    · rw [Array.getElem?_eq_none q] at h1; cases h1
  rw [x.block g hlt]
  exact h1
theorem fmt_c (n : Int) (w : World) (hn : -9223372036854775808 ≤ n ∧ n ≤ 9223372036854775807) (ht : Tab w) : Calls Tryd.prog 19 #[.int .i64 n] w (Ans (.string ⟨(Lib.itoa n).toArray⟩) w) := by
  go_enter Tryd.func19, Tryd.ntmps19
  go_wp2_with fail
  refine (Tryd.strconv_Itoa n hn.1 hn.2 _ ht).mono ?_; rintro e w1 ⟨rfl, k, os, rfl⟩
  have hx : Ext w (Sort.grow (w.drewN k) os) := ⟨rfl, rfl, rfl, by show w.heap.size ≤ (w.heap ++ os).size; rw [Array.size_append]; omega, fun j hj => by show (w.heap ++ os)[j]? = _; rw [Array.getElem?_append_left hj]⟩
  go_wp2_with fail
  go_ret
  exact ⟨rfl, hx⟩
theorem itoa_six (N : Nat) (hN : N ≤ 99999) : Lib.itoa (100000 + (N : Int)) = 49 :: SD N 5 := by
  have h1 : Lib.nDigits (100000 + N) = 6 := Lib.nDigits_unique 5 _ (by omega) (by omega)
  rw [show (100000 : Int) + (N : Int) = ((100000 + N : Nat) : Int) by omega, Lib.itoa_nonneg, Lib.decDigits_eq, h1]
  simp only [List.range, List.range.loop, List.map, Lib.dg, SD]
  have e5 : (100000 + N) / 10 ^ 5 % 10 = 1 := by omega
  have e4 : (100000 + N) / 10 ^ 4 % 10 = N / 10 ^ 4 % 10 := by omega
  have e3 : (100000 + N) / 10 ^ 3 % 10 = N / 10 ^ 3 % 10 := by omega
  have e2 : (100000 + N) / 10 ^ 2 % 10 = N / 10 ^ 2 % 10 := by omega
  have e1 : (100000 + N) / 10 ^ 1 % 10 = N / 10 ^ 1 % 10 := by omega
  have e0 : (100000 + N) / 10 ^ 0 % 10 = N / 10 ^ 0 % 10 := by omega
  show [UInt8.ofNat (48 + (100000 + N) / 10 ^ 5 % 10), UInt8.ofNat (48 + (100000 + N) / 10 ^ 4 % 10), UInt8.ofNat (48 + (100000 + N) / 10 ^ 3 % 10), UInt8.ofNat (48 + (100000 + N) / 10 ^ 2 % 10), UInt8.ofNat (48 + (100000 + N) / 10 ^ 1 % 10), UInt8.ofNat (48 + (100000 + N) / 10 ^ 0 % 10)] = _
  rw [e5, e4, e3, e2, e1, e0]
  rfl
theorem read_c (n : Int) (w : World) (ht : Tab w) : Calls Tryd.prog 6 #[.int .i64 n] w (Ans (.string (readF n)) w) := by
  by_cases hi : inB n 0 99999 = true
  · obtain ⟨N, rfl⟩ : ∃ N : Nat, n = (N : Int) := ⟨n.toNat, by have := inB_yes hi; omega⟩
    have hN : N ≤ 99999 := by have := inB_yes hi; omega
    have HF := Lib.hid (show readF (N : Int) = ⟨(SD N 5).toArray⟩ from if_pos hi)
    go_enter Tryd.func6, Tryd.ntmps6
    go_wp2_with (go_at_call 18; refine (within_c _ _ _ _).mono ?_; rintro e w' ⟨rfl, rfl⟩)
    refine (fmt_c _ _ (by omega) ht).mono ?_; rintro e w1 ⟨rfl, x1⟩
    rw [itoa_six N hN]
    have HS := Lib.hid (show (⟨(49 :: SD N 5).toArray⟩ : ByteArray).extract 1 ((SD N 5).length + 1) = ⟨(SD N 5).toArray⟩ from by
      rw [SD_len]
      apply ByteArray.ext
      simp [SD])
    go_wp2_with fail
    refine bodyPost_ret (v := .string ((⟨(49 :: SD N 5).toArray⟩ : ByteArray).extract 1 ((SD N 5).length + 1))) (by simp [results, Tryd.results6, go_sem, *]) rfl ?_
    exact ⟨by rw [HF.out, HS.out], x1⟩
  · have h0 : inB n 0 99999 = false := by simpa using hi
    have HF := Lib.hid (show readF n = ⟨#[]⟩ from if_neg hi)
    go_enter Tryd.func6, Tryd.ntmps6
    go_wp2_with (go_at_call 18; refine (within_c _ _ _ _).mono ?_; rintro e w' ⟨rfl, rfl⟩)
    refine bodyPost_ret (v := .string ⟨#[]⟩) (by simp [results, Tryd.results6, go_sem, *]) rfl ?_
    exact ⟨by rw [HF.out], Ext.refl _⟩
end Go.Proofs.YticpkgiccpglmaaDoor
