/-
  The contracts of EntriesOk and GapAt, of the program and of the reference.
-/
import Derived.Test.YtpbjbfnmnihpiaaElEntry
namespace Go.Proofs.Ytpbjbfnmnihpiaa
open Go.RowKit

/-- one entry is in order -/
def entAt (e : Entry) : Bool := inB e.f0 0 100000 && inB e.f1 0 100000 && inB e.f2 0 100000
theorem entAt_yes {e : Entry} (h : entAt e = true) : (0 ≤ e.f0 ∧ e.f0 ≤ 100000) ∧ (0 ≤ e.f1 ∧ e.f1 ≤ 100000) ∧ (0 ≤ e.f2 ∧ e.f2 ≤ 100000) := by
  simp only [entAt, Bool.and_eq_true] at h
  exact ⟨inB_yes h.1.1, inB_yes h.1.2, inB_yes h.2⟩
theorem entAt_all (e : Entry) : allB [e.f0, e.f1, e.f2] 0 100000 = entAt e := by simp [allB, entAt, Bool.and_assoc]
def entP (es : List Entry) : Prop := es.length ≤ 60 ∧ ∀ i, i < es.length → entAt (Entry.at_ es i) = true
open Classical in
noncomputable def entB (es : List Entry) : Bool := decide (entP es)
theorem entB_yes {es : List Entry} (h : entP es) : entB es = true := by simp only [entB, decide_eq_true_eq]; exact h
theorem entB_no {es : List Entry} (h : ¬ entP es) : entB es = false := by simp only [entB, decide_eq_false_iff_not]; exact h
theorem entB_at {es : List Entry} (h : entB es = true) : entP es := by simpa only [entB, decide_eq_true_eq] using h

theorem entriesOk_c (A : Option Addr) (n c : Nat) (es : List Entry) (w : World) (h : Holds w 3 A n c (Entry.all es)) :
    Calls Try.prog 18 #[.slice A n c] w (Ans (.bool (entB es)) w) := by
  have hmx : n ≤ 9223372036854775807 := by have := h.2.1; have := h.2.2.1; unfold maxLen at this; omega
  have HL := Lib.hid (Entry.len h)
  by_cases h60 : n ≤ 60
  · go_enter Try.func18, Try.ntmps18
    go_wp2
    go_loopw [10] (fun i wr => ∃ k : Nat, k ≤ n ∧ i = .int .i64 k ∧ Hid (∀ j, j < k → entAt (Entry.at_ es j) = true) ∧ Ext w wr) (fun i _ => n - (intOf i).toNat)
    case atStart => exact ⟨0, Nat.zero_le _, rfl, fun j hj => by omega, Ext.refl _⟩
    case round =>
      obtain ⟨k, hk, rfl, hall, hx⟩ := hrel
      by_cases hlt : k < n
      · obtain ⟨b, off, rfl, hb, hc⟩ := Entry.where_ h (by omega)
        obtain ⟨d0, d1, d2⟩ := hc k hlt
        replace d0 := hx.got d0
        replace d1 := hx.got d1
        replace d2 := hx.got d2
        clear hc h
        have hw : ∀ (o : Obj), Holds ((wr.alloc o).alloc (.cells #[.int .i64 (Entry.at_ es k).f0, .int .i64 (Entry.at_ es k).f1, .int .i64 (Entry.at_ es k).f2] 3)) 1 (some ⟨wr.heap.size + 1, 0, none⟩) 3 3 (ints [(Entry.at_ es k).f0, (Entry.at_ es k).f1, (Entry.at_ es k).f2]) := by
          intro o
          refine ⟨rfl, Nat.le_refl _, by unfold maxLen; omega, fun _ => ⟨_, _, rfl, by simp, fun j u hu => ?_⟩⟩
          rw [Nat.zero_add, show wr.heap.size + 1 = (wr.alloc o).heap.size from by simp, World.cell?_alloc_new]
          simpa [ints] using hu
        have HW := Lib.hid hw
        clear hw
        by_cases t : entAt (Entry.at_ es k) = true
        · have ta : allB [(Entry.at_ es k).f0, (Entry.at_ es k).f1, (Entry.at_ es k).f2] 0 100000 = true := by rw [entAt_all]; exact t
          go_wp2_with fail
          refine (allWithin_c _ _ _ _ _ _ _ (HW.out _)).mono ?_; rintro e w' ⟨rfl, rfl⟩
          go_wp2
          go_roundw
          case rel => exact ⟨k + 1, by omega, by go_num, fun j hj => by
            rcases Nat.lt_succ_iff_lt_or_eq.1 hj with hj | rfl
            · exact hall.out j hj
            · exact t, (hx.alloc _).alloc _⟩
          case measure => simp [intOf]; omega
        · have ta : allB [(Entry.at_ es k).f0, (Entry.at_ es k).f1, (Entry.at_ es k).f2] 0 100000 = false := by rw [entAt_all]; simpa using t
          go_wp2_with fail
          refine (allWithin_c _ _ _ _ _ _ _ (HW.out _)).mono ?_; rintro e w' ⟨rfl, rfl⟩
          go_wp2
          go_ret
          exact ⟨ret_bool (entB_no (fun e => t (e.2 k (by rw [HL.out]; exact hlt)))).symm, (hx.alloc _).alloc _⟩
      · go_wp2
        go_ret
        exact ⟨ret_bool (entB_yes ⟨by have := HL.out; omega, fun j hj => hall.out j (by have := HL.out; omega)⟩).symm, hx⟩
  · go_enter Try.func18, Try.ntmps18
    go_wp2
    go_ret
    exact ⟨ret_bool (entB_no (fun e => h60 (by rw [← HL.out]; exact e.1))).symm, Ext.refl _⟩
theorem sEntriesOk_c (A : Option Addr) (n c : Nat) (es : List Entry) (w : World) (h : Holds w 3 A n c (Entry.all es)) :
    Calls Try.prog 20 #[.slice A n c] w (Ans (.bool (entB es)) w) := by
  have hmx : n ≤ 9223372036854775807 := by have := h.2.1; have := h.2.2.1; unfold maxLen at this; omega
  have HL := Lib.hid (Entry.len h)
  go_enter Try.func20, Try.ntmps20
  go_wp2
  go_loopw [3] (fun i wr => ∃ k : Nat, k ≤ n ∧ i = .int .i64 k ∧ Hid (∀ j, j < k → entAt (Entry.at_ es j) = true) ∧ Ext w wr) (fun i _ => n - (intOf i).toNat)
  case atStart => exact ⟨0, Nat.zero_le _, rfl, fun j hj => by omega, Ext.refl _⟩
  case round =>
    obtain ⟨k, hk, rfl, hall, hx⟩ := hrel
    by_cases hlt : k < n
    · obtain ⟨b, off, rfl, hb, hc⟩ := Entry.where_ h (by omega)
      obtain ⟨d0, d1, d2⟩ := hc k hlt
      replace d0 := hx.got d0
      replace d1 := hx.got d1
      replace d2 := hx.got d2
      clear hc h
      by_cases t0 : inB (Entry.at_ es k).f0 0 100000 = true
      · by_cases t1 : inB (Entry.at_ es k).f1 0 100000 = true
        · by_cases t2 : inB (Entry.at_ es k).f2 0 100000 = true
          · go_wp2_with (go_at_call 33; refine (l01In_c _ _ _ _).mono ?_; rintro e w' ⟨rfl, rfl⟩)
            go_roundw
            case rel => exact ⟨k + 1, by omega, by go_num, fun j hj => by
              rcases Nat.lt_succ_iff_lt_or_eq.1 hj with hj | rfl
              · exact hall.out j hj
              · simp [entAt, t0, t1, t2], hx.alloc _⟩
            case measure => simp [intOf]; omega
          · go_wp2_with (go_at_call 33; refine (l01In_c _ _ _ _).mono ?_; rintro e w' ⟨rfl, rfl⟩)
            go_ret
            exact ⟨ret_bool (entB_no (fun e => t2 (by have := e.2 k (by rw [HL.out]; exact hlt); simp only [entAt, Bool.and_eq_true] at this; exact this.2))).symm, hx.alloc _⟩
        · go_wp2_with (go_at_call 33; refine (l01In_c _ _ _ _).mono ?_; rintro e w' ⟨rfl, rfl⟩)
          go_ret
          exact ⟨ret_bool (entB_no (fun e => t1 (by have := e.2 k (by rw [HL.out]; exact hlt); simp only [entAt, Bool.and_eq_true] at this; exact this.1.2))).symm, hx.alloc _⟩
      · go_wp2_with (go_at_call 33; refine (l01In_c _ _ _ _).mono ?_; rintro e w' ⟨rfl, rfl⟩)
        go_ret
        exact ⟨ret_bool (entB_no (fun e => t0 (by have := e.2 k (by rw [HL.out]; exact hlt); simp only [entAt, Bool.and_eq_true] at this; exact this.1.1))).symm, hx.alloc _⟩
    · by_cases h60 : n ≤ 60
      · have h60' : decide ((n : Int) ≤ 60) = true := by simp; omega
        go_wp2
        go_ret
        exact ⟨ret_bool (by rw [entB_yes ⟨by have := HL.out; omega, fun j hj => hall.out j (by have := HL.out; omega)⟩]; try (simp <;> omega)), hx⟩
      · go_wp2
        go_ret
        exact ⟨ret_bool (by rw [entB_no (fun e => h60 (by rw [← HL.out]; exact e.1))]; try (simp <;> omega)), hx⟩

/-- the gap at an index, of a list in order -/
def gapN (es : List Entry) (s : Int) (k : Nat) : Int := (Entry.at_ es k).f2 - (if 0 < k then (Entry.at_ es (k - 1)).f2 else s) - (Entry.at_ es k).f0 + (Entry.at_ es k).f1
noncomputable def gapF (es : List Entry) (s k : Int) : Int := if entB es = true ∧ inB s 0 100000 = true ∧ inB k 0 ((es.length : Int) - 1) = true then gapN es s k.toNat else 0
theorem gapAt_c (A : Option Addr) (n c : Nat) (es : List Entry) (s k : Int) (w : World) (h : Holds w 3 A n c (Entry.all es)) :
    Calls Try.prog 14 #[.slice A n c, .int .i64 s, .int .i64 k] w (Ans (.int .i64 (gapF es s k)) w) := by
  have hmx : n ≤ 9223372036854775807 := by have := h.2.1; have := h.2.2.1; unfold maxLen at this; omega
  have HL := Lib.hid (Entry.len h)
  by_cases h1 : entB es = true
  · by_cases h2 : inB s 0 100000 = true
    · by_cases h3 : inB k 0 ((n : Int) - 1) = true
      · have n60 : n ≤ 60 := by have := (entB_at h1).1; rw [HL.out] at this; exact this
        have H := Lib.hid (show gapF es s k = gapN es s k.toNat from if_pos ⟨h1, h2, by rw [HL.out]; exact h3⟩)
        obtain ⟨k1, k2⟩ := inB_yes h3
        obtain ⟨s1, s2⟩ := inB_yes h2
        obtain ⟨m, rfl⟩ := Int.eq_ofNat_of_zero_le k1
        rw [Int.toNat_natCast] at H
        have hm : m < n := by omega
        have h0 := h
        obtain ⟨b, off, rfl, hb, hc⟩ := Entry.where_ h (by omega)
        obtain ⟨⟨q1, q2⟩, ⟨q3, q4⟩, ⟨q5, q6⟩⟩ := entAt_yes ((entB_at h1).2 m (by rw [HL.out]; exact hm))
        have j0 : (0 : Int) ≤ (m : Int) := by omega
        have j1 : (m : Int) < (n : Int) := by omega
        by_cases hm0 : 0 < m
        · obtain ⟨⟨r1, r2⟩, ⟨r3, r4⟩, ⟨r5, r6⟩⟩ := entAt_yes ((entB_at h1).2 (m - 1) (by rw [HL.out]; omega))
          have G := Lib.hid (show gapN es s m = (Entry.at_ es m).f2 - (Entry.at_ es (m - 1)).f2 - (Entry.at_ es m).f0 + (Entry.at_ es m).f1 from by rw [gapN, if_pos hm0])
          have j2 : (0 : Int) < (m : Int) := by omega
          have j3 : (0 : Int) ≤ (m : Int) - 1 := by omega
          have j4 : (m : Int) - 1 < (n : Int) := by omega
          have HC := Lib.hid hc
          clear hc
          go_enter Try.func14, Try.ntmps14
          go_wp2_with fail
          refine (entriesOk_c _ _ _ es _ h0).mono ?_; rintro e w1 ⟨rfl, hx⟩; have hl := hx.len; (try simp only [World.size_alloc, World.size_setCell, World.size_drew, World.heap_drewN] at hl)
          obtain ⟨d0, d1, d2⟩ := HC.out m hm
          have e2 := (HC.out (m - 1) (by omega)).2.2
          replace d0 := hx.got d0
          replace d1 := hx.got d1
          replace d2 := hx.got d2
          replace e2 := hx.got e2
          clear h
          go_wp2_with (go_at_call 30; refine (within_c _ _ _ _).mono ?_; rintro e w' ⟨rfl, rfl⟩)
          go_quiet (fail)
          go_wp2
          go_ret
          exact ⟨ret_int (by rw [H.out, G.out]), hx.drewN _⟩
        · have G := Lib.hid (show gapN es s m = (Entry.at_ es m).f2 - s - (Entry.at_ es m).f0 + (Entry.at_ es m).f1 from by rw [gapN, if_neg hm0])
          have HC := Lib.hid hc
          clear hc
          go_enter Try.func14, Try.ntmps14
          go_wp2_with fail
          refine (entriesOk_c _ _ _ es _ h0).mono ?_; rintro e w1 ⟨rfl, hx⟩; have hl := hx.len; (try simp only [World.size_alloc, World.size_setCell, World.size_drew, World.heap_drewN] at hl)
          obtain ⟨d0, d1, d2⟩ := HC.out m hm
          replace d0 := hx.got d0
          replace d1 := hx.got d1
          replace d2 := hx.got d2
          clear h
          go_wp2_with (go_at_call 30; refine (within_c _ _ _ _).mono ?_; rintro e w' ⟨rfl, rfl⟩)
          go_quiet (fail)
          go_wp2
          go_ret
          exact ⟨ret_int (by rw [H.out, G.out]), hx.drewN _⟩
      · have H := Lib.hid (show gapF es s k = 0 from if_neg (fun e => h3 (by have := e.2.2; rwa [HL.out] at this)))
        go_enter Try.func14, Try.ntmps14
        go_wp2_with (first | (go_at_call 18; refine (entriesOk_c _ _ _ es _ h).mono ?_; rintro e w1 ⟨rfl, hx⟩; have hl := hx.len; (try simp only [World.size_alloc, World.size_setCell, World.size_drew, World.heap_drewN] at hl)) | (go_at_call 30; refine (within_c _ _ _ _).mono ?_; rintro e w' ⟨rfl, rfl⟩))
        go_ret
        exact ⟨ret_int H.out.symm, hx⟩
    · have H := Lib.hid (show gapF es s k = 0 from if_neg (fun e => h2 e.2.1))
      go_enter Try.func14, Try.ntmps14
      go_wp2_with (first | (go_at_call 18; refine (entriesOk_c _ _ _ es _ h).mono ?_; rintro e w1 ⟨rfl, hx⟩; have hl := hx.len; (try simp only [World.size_alloc, World.size_setCell, World.size_drew, World.heap_drewN] at hl)) | (go_at_call 30; refine (within_c _ _ _ _).mono ?_; rintro e w' ⟨rfl, rfl⟩))
      go_ret
      exact ⟨ret_int H.out.symm, hx⟩
  · have H := Lib.hid (show gapF es s k = 0 from if_neg (fun e => h1 e.1))
    go_enter Try.func14, Try.ntmps14
    go_wp2_with (first | (go_at_call 18; refine (entriesOk_c _ _ _ es _ h).mono ?_; rintro e w1 ⟨rfl, hx⟩; have hl := hx.len; (try simp only [World.size_alloc, World.size_setCell, World.size_drew, World.heap_drewN] at hl)) | (go_at_call 30; refine (within_c _ _ _ _).mono ?_; rintro e w' ⟨rfl, rfl⟩))
    go_ret
    exact ⟨ret_int H.out.symm, hx⟩
theorem sGapAt_c (A : Option Addr) (n c : Nat) (es : List Entry) (s k : Int) (w : World) (h : Holds w 3 A n c (Entry.all es)) :
    Calls Try.prog 23 #[.slice A n c, .int .i64 s, .int .i64 k] w (Ans (.int .i64 (gapF es s k)) w) := by
  have hmx : n ≤ 9223372036854775807 := by have := h.2.1; have := h.2.2.1; unfold maxLen at this; omega
  have HL := Lib.hid (Entry.len h)
  by_cases h1 : entB es = true
  · by_cases h2 : inB s 0 100000 = true
    · by_cases h3 : inB k 0 ((n : Int) - 1) = true
      · have n60 : n ≤ 60 := by have := (entB_at h1).1; rw [HL.out] at this; exact this
        have H := Lib.hid (show gapF es s k = gapN es s k.toNat from if_pos ⟨h1, h2, by rw [HL.out]; exact h3⟩)
        obtain ⟨k1, k2⟩ := inB_yes h3
        obtain ⟨s1, s2⟩ := inB_yes h2
        obtain ⟨m, rfl⟩ := Int.eq_ofNat_of_zero_le k1
        rw [Int.toNat_natCast] at H
        have hm : m < n := by omega
        have h0 := h
        obtain ⟨b, off, rfl, hb, hc⟩ := Entry.where_ h (by omega)
        obtain ⟨⟨q1, q2⟩, ⟨q3, q4⟩, ⟨q5, q6⟩⟩ := entAt_yes ((entB_at h1).2 m (by rw [HL.out]; exact hm))
        have j0 : (0 : Int) ≤ (m : Int) := by omega
        have j1 : (m : Int) < (n : Int) := by omega
        by_cases hm0 : 0 < m
        · obtain ⟨⟨r1, r2⟩, ⟨r3, r4⟩, ⟨r5, r6⟩⟩ := entAt_yes ((entB_at h1).2 (m - 1) (by rw [HL.out]; omega))
          have G := Lib.hid (show gapN es s m = (Entry.at_ es m).f2 - (Entry.at_ es (m - 1)).f2 - (Entry.at_ es m).f0 + (Entry.at_ es m).f1 from by rw [gapN, if_pos hm0])
          have j2 : (0 : Int) < (m : Int) := by omega
          have j3 : (0 : Int) ≤ (m : Int) - 1 := by omega
          have j4 : (m : Int) - 1 < (n : Int) := by omega
          have HC := Lib.hid hc
          clear hc
          go_enter Try.func23, Try.ntmps23
          go_wp2_with fail
          refine (sEntriesOk_c _ _ _ es _ h0).mono ?_; rintro e w1 ⟨rfl, hx⟩; have hl := hx.len; (try simp only [World.size_alloc, World.size_setCell, World.size_drew, World.heap_drewN] at hl)
          obtain ⟨d0, d1, d2⟩ := HC.out m hm
          have e2 := (HC.out (m - 1) (by omega)).2.2
          replace d0 := hx.got d0
          replace d1 := hx.got d1
          replace d2 := hx.got d2
          replace e2 := hx.got e2
          clear h
          go_wp2_with (go_at_call 33; refine (l01In_c _ _ _ _).mono ?_; rintro e w' ⟨rfl, rfl⟩)
          go_quiet (fail)
          go_wp2
          go_ret
          exact ⟨ret_int (by rw [H.out, G.out]), hx.drewN _⟩
        · have G := Lib.hid (show gapN es s m = (Entry.at_ es m).f2 - s - (Entry.at_ es m).f0 + (Entry.at_ es m).f1 from by rw [gapN, if_neg hm0])
          have HC := Lib.hid hc
          clear hc
          go_enter Try.func23, Try.ntmps23
          go_wp2_with fail
          refine (sEntriesOk_c _ _ _ es _ h0).mono ?_; rintro e w1 ⟨rfl, hx⟩; have hl := hx.len; (try simp only [World.size_alloc, World.size_setCell, World.size_drew, World.heap_drewN] at hl)
          obtain ⟨d0, d1, d2⟩ := HC.out m hm
          replace d0 := hx.got d0
          replace d1 := hx.got d1
          replace d2 := hx.got d2
          clear h
          go_wp2_with (go_at_call 33; refine (l01In_c _ _ _ _).mono ?_; rintro e w' ⟨rfl, rfl⟩)
          go_quiet (fail)
          go_wp2
          go_ret
          exact ⟨ret_int (by rw [H.out, G.out]), hx.drewN _⟩
      · have H := Lib.hid (show gapF es s k = 0 from if_neg (fun e => h3 (by have := e.2.2; rwa [HL.out] at this)))
        go_enter Try.func23, Try.ntmps23
        go_wp2_with (first | (go_at_call 20; refine (sEntriesOk_c _ _ _ es _ h).mono ?_; rintro e w1 ⟨rfl, hx⟩; have hl := hx.len; (try simp only [World.size_alloc, World.size_setCell, World.size_drew, World.heap_drewN] at hl)) | (go_at_call 33; refine (l01In_c _ _ _ _).mono ?_; rintro e w' ⟨rfl, rfl⟩))
        go_ret
        exact ⟨ret_int H.out.symm, hx⟩
    · have H := Lib.hid (show gapF es s k = 0 from if_neg (fun e => h2 e.2.1))
      go_enter Try.func23, Try.ntmps23
      go_wp2_with (first | (go_at_call 20; refine (sEntriesOk_c _ _ _ es _ h).mono ?_; rintro e w1 ⟨rfl, hx⟩; have hl := hx.len; (try simp only [World.size_alloc, World.size_setCell, World.size_drew, World.heap_drewN] at hl)) | (go_at_call 33; refine (l01In_c _ _ _ _).mono ?_; rintro e w' ⟨rfl, rfl⟩))
      go_ret
      exact ⟨ret_int H.out.symm, hx⟩
  · have H := Lib.hid (show gapF es s k = 0 from if_neg (fun e => h1 e.1))
    go_enter Try.func23, Try.ntmps23
    go_wp2_with (first | (go_at_call 20; refine (sEntriesOk_c _ _ _ es _ h).mono ?_; rintro e w1 ⟨rfl, hx⟩; have hl := hx.len; (try simp only [World.size_alloc, World.size_setCell, World.size_drew, World.heap_drewN] at hl)) | (go_at_call 33; refine (l01In_c _ _ _ _).mono ?_; rintro e w' ⟨rfl, rfl⟩))
    go_ret
    exact ⟨ret_int H.out.symm, hx⟩
end Go.Proofs.Ytpbjbfnmnihpiaa
