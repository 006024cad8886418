/-
  The contracts of the sums over batches (LitersIn, OlderThan, AverageDay), of the program and of the reference.
-/
import Derived.Test.YtecifmpkjegodaaAgeA
namespace Go.Proofs.Ytecifmpkjegodaa
open Go.RowKit

/-- f 0 + .. + f (k - 1) -/
def sumL (f : Nat → Int) : Nat → Int
  | 0 => 0
  | k + 1 => sumL f k + f k
theorem sumL_bd {f : Nat → Int} {n : Nat} {b : Int} (h : ∀ i, i < n → 0 ≤ f i ∧ f i ≤ b) : ∀ k, k ≤ n → 0 ≤ sumL f k ∧ sumL f k ≤ k * b := by
  intro k
  induction k with
  | zero => intro _; simp [sumL]
  | succ k ih =>
    intro hk
    have h1 := ih (by omega)
    have h2 := h k (by omega)
    have : ((k + 1 : Nat) : Int) * b = k * b + b := by push_cast; rw [Int.add_mul, Int.one_mul]
    simp only [sumL]
    omega
theorem lit_bd {es : List Batch} (h : batB es = true) : ∀ i, i < es.length → 1 ≤ lit es i ∧ lit es i ≤ 100000 := fun i hi => inB_yes ((batB_at h).2 i hi).2.2
theorem day_bd {es : List Batch} (h : batB es = true) : ∀ i, i < es.length → 0 ≤ day es i ∧ day es i ≤ 1000 := fun i hi => inB_yes ((batB_at h).2 i hi).1
noncomputable def litersF (es : List Batch) : Int := if batB es = true then sumL (lit es) es.length else -1
def older (es : List Batch) (d : Int) (i : Nat) : Int := if day es i < d then lit es i else 0
noncomputable def olderF (es : List Batch) (d : Int) : Int := if batB es = true then sumL (older es d) es.length else -1
def dayLit (es : List Batch) (i : Nat) : Int := day es i * lit es i
noncomputable def averageF (es : List Batch) : Int := if batB es = true ∧ 0 < es.length then sumL (dayLit es) es.length / sumL (lit es) es.length else -1
theorem older_bd {es : List Batch} (h : batB es = true) (d : Int) : ∀ i, i < es.length → 0 ≤ older es d i ∧ older es d i ≤ 100000 := fun i hi => by
  have := lit_bd h i hi
  unfold older
  split <;> omega
theorem dayLit_bd {es : List Batch} (h : batB es = true) : ∀ i, i < es.length → 0 ≤ dayLit es i ∧ dayLit es i ≤ 100000000 := fun i hi => by
  have h1 := lit_bd h i hi
  have h2 := day_bd h i hi
  refine ⟨Int.mul_nonneg h2.1 (by omega), ?_⟩
  have := Int.mul_le_mul h2.2 h1.2 (by omega) (by omega)
  unfold dayLit
  omega
theorem sum_lit_pos {es : List Batch} (h : batB es = true) (hn : 0 < es.length) : 1 ≤ sumL (lit es) es.length := by
  obtain ⟨m, hm⟩ : ∃ m, es.length = m + 1 := ⟨es.length - 1, by omega⟩
  have h1 := lit_bd h m (by omega)
  have h2 := (sumL_bd (f := lit es) (n := es.length) (b := 100000) (fun i hi => by have := lit_bd h i hi; omega) m (by omega)).1
  rw [hm]
  simp only [sumL]
  omega

theorem litersIn_c (A : Option Addr) (n c : Nat) (es : List Batch) (w : World) (h : Holds w 2 A n c (Batch.all es)) :
    Calls Try.prog 16 #[.slice A n c] w (Ans (.int .i64 (litersF es)) w) := by
  have hmx : n ≤ 9223372036854775807 := by have := h.2.1; have := h.2.2.1; unfold maxLen at this; omega
  have HL := Lib.hid (Batch.len h)
  by_cases h1 : batB es = true
  · have hn40 : n ≤ 40 := by have := (batB_at h1).1; rw [HL.out] at this; exact this
    have H := Lib.hid (show litersF es = sumL (lit es) n from by rw [litersF, if_pos h1, HL.out])
    go_enter Try.func16, Try.ntmps16
    go_wp2_with (go_at_call 13; refine (batchesOk_c _ _ _ es _ h).mono ?_; rintro e w1 ⟨rfl, hx⟩; have hl := hx.len; (try simp only [World.size_alloc, World.size_setCell, World.size_drew, World.heap_drewN] at hl))
    have hx0 := hx
    have bd := Lib.hid (fun i hi => by have := lit_bd h1 i hi; exact (show 0 ≤ lit es i ∧ lit es i ≤ 100000 by omega))
    go_loopw [3, 11] (fun v i wr => ∃ k : Nat, k ≤ n ∧ i = .int .i64 k ∧ v = .int .i64 (sumL (lit es) k) ∧ Ext w wr) (fun v i _ => n - (intOf i).toNat)
    case atStart => exact ⟨0, Nat.zero_le _, rfl, rfl, hx0⟩
    case round =>
      clear hx0
      obtain ⟨k, hk, rfl, rfl, hx⟩ := hrel
      by_cases hlt : k < n
      · obtain ⟨b, off, rfl, hb, hc⟩ := Batch.where_ h (by omega)
        obtain ⟨d0, d1⟩ := hc k hlt
        replace d0 := hx.got d0
        replace d1 := hx.got d1
        obtain ⟨q11, q12⟩ : 0 ≤ (Batch.at_ es k).f0 ∧ (Batch.at_ es k).f0 ≤ 1000 := day_bd h1 k (by rw [HL.out]; exact hlt)
        obtain ⟨q21, q22⟩ : 1 ≤ (Batch.at_ es k).f1 ∧ (Batch.at_ es k).f1 ≤ 100000 := lit_bd h1 k (by rw [HL.out]; exact hlt)
        have q3 := sumL_bd bd.out k (by rw [HL.out]; exact hk)
        obtain ⟨q31, q32⟩ := q3
        have j0 : (0 : Int) ≤ (k : Int) := by omega
        have j1 : (k : Int) < (n : Int) := by omega
        clear hc h
        go_wp2
        go_roundw
        case rel => exact ⟨k + 1, by omega, by go_num, by simp only [sumL]; try go_num, (hx.alloc _)⟩
        case measure => simp [intOf]; omega
      · obtain rfl : k = n := by omega
        go_wp2
        go_ret
        exact ⟨ret_int H.out.symm, hx⟩
  · have H := Lib.hid (show litersF es = -1 from by rw [litersF, if_neg h1])
    go_enter Try.func16, Try.ntmps16
    go_wp2_with (go_at_call 13; refine (batchesOk_c _ _ _ es _ h).mono ?_; rintro e w1 ⟨rfl, hx⟩; have hl := hx.len; (try simp only [World.size_alloc, World.size_setCell, World.size_drew, World.heap_drewN] at hl))
    go_ret
    exact ⟨ret_int H.out.symm, hx⟩

theorem sLitersIn_c (A : Option Addr) (n c : Nat) (es : List Batch) (w : World) (h : Holds w 2 A n c (Batch.all es)) :
    Calls Try.prog 15 #[.slice A n c] w (Ans (.int .i64 (litersF es)) w) := by
  have hmx : n ≤ 9223372036854775807 := by have := h.2.1; have := h.2.2.1; unfold maxLen at this; omega
  have HL := Lib.hid (Batch.len h)
  by_cases h1 : batB es = true
  · have hn40 : n ≤ 40 := by have := (batB_at h1).1; rw [HL.out] at this; exact this
    have H := Lib.hid (show litersF es = sumL (lit es) n from by rw [litersF, if_pos h1, HL.out])
    go_enter Try.func15, Try.ntmps15
    go_wp2_with (go_at_call 11; refine (sBatchesOk_c _ _ _ es _ h).mono ?_; rintro e w1 ⟨rfl, hx⟩; have hl := hx.len; (try simp only [World.size_alloc, World.size_setCell, World.size_drew, World.heap_drewN] at hl))
    have hx0 := hx
    have bd := Lib.hid (fun i hi => by have := lit_bd h1 i hi; exact (show 0 ≤ lit es i ∧ lit es i ≤ 100000 by omega))
    go_loopw [3, 4] (fun v i wr => ∃ k : Nat, k ≤ n ∧ i = .int .i64 k ∧ v = .int .i64 (sumL (lit es) k) ∧ Ext w wr) (fun v i _ => n - (intOf i).toNat)
    case atStart => exact ⟨0, Nat.zero_le _, rfl, rfl, hx0⟩
    case round =>
      clear hx0
      obtain ⟨k, hk, rfl, rfl, hx⟩ := hrel
      by_cases hlt : k < n
      · obtain ⟨b, off, rfl, hb, hc⟩ := Batch.where_ h (by omega)
        obtain ⟨d0, d1⟩ := hc k hlt
        replace d0 := hx.got d0
        replace d1 := hx.got d1
        obtain ⟨q11, q12⟩ : 0 ≤ (Batch.at_ es k).f0 ∧ (Batch.at_ es k).f0 ≤ 1000 := day_bd h1 k (by rw [HL.out]; exact hlt)
        obtain ⟨q21, q22⟩ : 1 ≤ (Batch.at_ es k).f1 ∧ (Batch.at_ es k).f1 ≤ 100000 := lit_bd h1 k (by rw [HL.out]; exact hlt)
        have q3 := sumL_bd bd.out k (by rw [HL.out]; exact hk)
        obtain ⟨q31, q32⟩ := q3
        have j0 : (0 : Int) ≤ (k : Int) := by omega
        have j1 : (k : Int) < (n : Int) := by omega
        clear hc h
        go_wp2
        go_roundw
        case rel => exact ⟨k + 1, by omega, by go_num, by simp only [sumL]; try go_num, hx⟩
        case measure => simp [intOf]; omega
      · obtain rfl : k = n := by omega
        go_wp2
        go_ret
        exact ⟨ret_int H.out.symm, hx⟩
  · have H := Lib.hid (show litersF es = -1 from by rw [litersF, if_neg h1])
    go_enter Try.func15, Try.ntmps15
    go_wp2_with (go_at_call 11; refine (sBatchesOk_c _ _ _ es _ h).mono ?_; rintro e w1 ⟨rfl, hx⟩; have hl := hx.len; (try simp only [World.size_alloc, World.size_setCell, World.size_drew, World.heap_drewN] at hl))
    go_ret
    exact ⟨ret_int H.out.symm, hx⟩

theorem olderThan_c (A : Option Addr) (n c : Nat) (es : List Batch) (d : Int) (w : World) (h : Holds w 2 A n c (Batch.all es)) :
    Calls Try.prog 18 #[.slice A n c, .int .i64 d] w (Ans (.int .i64 (olderF es d)) w) := by
  have hmx : n ≤ 9223372036854775807 := by have := h.2.1; have := h.2.2.1; unfold maxLen at this; omega
  have HL := Lib.hid (Batch.len h)
  by_cases h1 : batB es = true
  · have hn40 : n ≤ 40 := by have := (batB_at h1).1; rw [HL.out] at this; exact this
    have H := Lib.hid (show olderF es d = sumL (older es d) n from by rw [olderF, if_pos h1, HL.out])
    go_enter Try.func18, Try.ntmps18
    go_wp2_with (go_at_call 13; refine (batchesOk_c _ _ _ es _ h).mono ?_; rintro e w1 ⟨rfl, hx⟩; have hl := hx.len; (try simp only [World.size_alloc, World.size_setCell, World.size_drew, World.heap_drewN] at hl))
    have hx0 := hx
    have bd := Lib.hid (older_bd h1 d)
    go_loopw [5, 13] (fun v i wr => ∃ k : Nat, k ≤ n ∧ i = .int .i64 k ∧ v = .int .i64 (sumL (older es d) k) ∧ Ext w wr) (fun v i _ => n - (intOf i).toNat)
    case atStart => exact ⟨0, Nat.zero_le _, rfl, rfl, hx0⟩
    case round =>
      clear hx0
      obtain ⟨k, hk, rfl, rfl, hx⟩ := hrel
      by_cases hlt : k < n
      · obtain ⟨b, off, rfl, hb, hc⟩ := Batch.where_ h (by omega)
        obtain ⟨d0, d1⟩ := hc k hlt
        replace d0 := hx.got d0
        replace d1 := hx.got d1
        obtain ⟨q11, q12⟩ : 0 ≤ (Batch.at_ es k).f0 ∧ (Batch.at_ es k).f0 ≤ 1000 := day_bd h1 k (by rw [HL.out]; exact hlt)
        obtain ⟨q21, q22⟩ : 1 ≤ (Batch.at_ es k).f1 ∧ (Batch.at_ es k).f1 ≤ 100000 := lit_bd h1 k (by rw [HL.out]; exact hlt)
        have q3 := sumL_bd bd.out k (by rw [HL.out]; exact hk)
        obtain ⟨q31, q32⟩ := q3
        have j0 : (0 : Int) ≤ (k : Int) := by omega
        have j1 : (k : Int) < (n : Int) := by omega
        clear hc h
        by_cases t : (Batch.at_ es k).f0 < d
        · have hv : older es d k = lit es k := if_pos t
          have HV := Lib.hid hv
          clear hv
          go_wp2
          go_roundw
          case rel => exact ⟨k + 1, by omega, by go_num, by simp only [sumL]; rw [HV.out], (hx.alloc _)⟩
          case measure => simp [intOf]; omega
        · have hv : older es d k = 0 := if_neg t
          have HV := Lib.hid hv
          clear hv
          go_wp2
          go_roundw
          case rel => exact ⟨k + 1, by omega, by go_num, by simp only [sumL]; rw [HV.out]; go_num, (hx.alloc _)⟩
          case measure => simp [intOf]; omega
      · obtain rfl : k = n := by omega
        go_wp2
        go_ret
        exact ⟨ret_int H.out.symm, hx⟩
  · have H := Lib.hid (show olderF es d = -1 from by rw [olderF, if_neg h1])
    go_enter Try.func18, Try.ntmps18
    go_wp2_with (go_at_call 13; refine (batchesOk_c _ _ _ es _ h).mono ?_; rintro e w1 ⟨rfl, hx⟩; have hl := hx.len; (try simp only [World.size_alloc, World.size_setCell, World.size_drew, World.heap_drewN] at hl))
    go_ret
    exact ⟨ret_int H.out.symm, hx⟩

theorem sOlderThan_c (A : Option Addr) (n c : Nat) (es : List Batch) (d : Int) (w : World) (h : Holds w 2 A n c (Batch.all es)) :
    Calls Try.prog 17 #[.slice A n c, .int .i64 d] w (Ans (.int .i64 (olderF es d)) w) := by
  have hmx : n ≤ 9223372036854775807 := by have := h.2.1; have := h.2.2.1; unfold maxLen at this; omega
  have HL := Lib.hid (Batch.len h)
  by_cases h1 : batB es = true
  · have hn40 : n ≤ 40 := by have := (batB_at h1).1; rw [HL.out] at this; exact this
    have H := Lib.hid (show olderF es d = sumL (older es d) n from by rw [olderF, if_pos h1, HL.out])
    go_enter Try.func17, Try.ntmps17
    go_wp2_with (go_at_call 11; refine (sBatchesOk_c _ _ _ es _ h).mono ?_; rintro e w1 ⟨rfl, hx⟩; have hl := hx.len; (try simp only [World.size_alloc, World.size_setCell, World.size_drew, World.heap_drewN] at hl))
    have hx0 := hx
    have bd := Lib.hid (older_bd h1 d)
    go_loopw [5, 6] (fun v i wr => ∃ k : Nat, k ≤ n ∧ i = .int .i64 k ∧ v = .int .i64 (sumL (older es d) k) ∧ Ext w wr) (fun v i _ => n - (intOf i).toNat)
    case atStart => exact ⟨0, Nat.zero_le _, rfl, rfl, hx0⟩
    case round =>
      clear hx0
      obtain ⟨k, hk, rfl, rfl, hx⟩ := hrel
      by_cases hlt : k < n
      · obtain ⟨b, off, rfl, hb, hc⟩ := Batch.where_ h (by omega)
        obtain ⟨d0, d1⟩ := hc k hlt
        replace d0 := hx.got d0
        replace d1 := hx.got d1
        obtain ⟨q11, q12⟩ : 0 ≤ (Batch.at_ es k).f0 ∧ (Batch.at_ es k).f0 ≤ 1000 := day_bd h1 k (by rw [HL.out]; exact hlt)
        obtain ⟨q21, q22⟩ : 1 ≤ (Batch.at_ es k).f1 ∧ (Batch.at_ es k).f1 ≤ 100000 := lit_bd h1 k (by rw [HL.out]; exact hlt)
        have q3 := sumL_bd bd.out k (by rw [HL.out]; exact hk)
        obtain ⟨q31, q32⟩ := q3
        have j0 : (0 : Int) ≤ (k : Int) := by omega
        have j1 : (k : Int) < (n : Int) := by omega
        clear hc h
        by_cases t : (Batch.at_ es k).f0 < d
        · have hv : older es d k = lit es k := if_pos t
          have HV := Lib.hid hv
          clear hv
          go_wp2
          go_roundw
          case rel => exact ⟨k + 1, by omega, by go_num, by simp only [sumL]; rw [HV.out], hx⟩
          case measure => simp [intOf]; omega
        · have hv : older es d k = 0 := if_neg t
          have HV := Lib.hid hv
          clear hv
          go_wp2
          go_roundw
          case rel => exact ⟨k + 1, by omega, by go_num, by simp only [sumL]; rw [HV.out]; go_num, hx⟩
          case measure => simp [intOf]; omega
      · obtain rfl : k = n := by omega
        go_wp2
        go_ret
        exact ⟨ret_int H.out.symm, hx⟩
  · have H := Lib.hid (show olderF es d = -1 from by rw [olderF, if_neg h1])
    go_enter Try.func17, Try.ntmps17
    go_wp2_with (go_at_call 11; refine (sBatchesOk_c _ _ _ es _ h).mono ?_; rintro e w1 ⟨rfl, hx⟩; have hl := hx.len; (try simp only [World.size_alloc, World.size_setCell, World.size_drew, World.heap_drewN] at hl))
    go_ret
    exact ⟨ret_int H.out.symm, hx⟩

theorem averageDay_c (A : Option Addr) (n c : Nat) (es : List Batch) (w : World) (h : Holds w 2 A n c (Batch.all es)) :
    Calls Try.prog 20 #[.slice A n c] w (Ans (.int .i64 (averageF es)) w) := by
  have hmx : n ≤ 9223372036854775807 := by have := h.2.1; have := h.2.2.1; unfold maxLen at this; omega
  have HL := Lib.hid (Batch.len h)
  by_cases h1 : batB es = true
  · have hn40 : n ≤ 40 := by have := (batB_at h1).1; rw [HL.out] at this; exact this
    by_cases hn : 0 < n
    · have H := Lib.hid (show averageF es = sumL (dayLit es) n / sumL (lit es) n from by rw [averageF, if_pos ⟨h1, by rw [HL.out]; exact hn⟩, HL.out])
      have HQ := Lib.hid (show litersF es = sumL (lit es) n from by rw [litersF, if_pos h1, HL.out])
      have hp := sum_lit_pos h1 (by rw [HL.out]; exact hn)
      have Hp := Lib.hid hp
      have h0 := h
      have hne : ((n : Int) == 0) = false := by rw [beq_eq_false_iff_ne]; omega
      clear hp
      go_enter Try.func20, Try.ntmps20
      go_wp2_with (go_at_call 13; refine (batchesOk_c _ _ _ es _ h).mono ?_; rintro e w1 ⟨rfl, hx⟩; have hl := hx.len; (try simp only [World.size_alloc, World.size_setCell, World.size_drew, World.heap_drewN] at hl))
      have hx0 := hx
      have bd := Lib.hid (dayLit_bd h1)
      go_loopw [3, 16] (fun v i wr => ∃ k : Nat, k ≤ n ∧ i = .int .i64 k ∧ v = .int .i64 (sumL (dayLit es) k) ∧ Ext w wr) (fun v i _ => n - (intOf i).toNat)
      case atStart => exact ⟨0, Nat.zero_le _, rfl, rfl, hx0⟩
      case round =>
        clear hx0
        obtain ⟨k, hk, rfl, rfl, hx⟩ := hrel
        by_cases hlt : k < n
        · obtain ⟨b, off, rfl, hb, hc⟩ := Batch.where_ h (by omega)
          obtain ⟨d0, d1⟩ := hc k hlt
          replace d0 := hx.got d0
          replace d1 := hx.got d1
          obtain ⟨q11, q12⟩ : 0 ≤ (Batch.at_ es k).f0 ∧ (Batch.at_ es k).f0 ≤ 1000 := day_bd h1 k (by rw [HL.out]; exact hlt)
          obtain ⟨q21, q22⟩ : 1 ≤ (Batch.at_ es k).f1 ∧ (Batch.at_ es k).f1 ≤ 100000 := lit_bd h1 k (by rw [HL.out]; exact hlt)
          have q3 := sumL_bd bd.out k (by rw [HL.out]; exact hk)
          obtain ⟨q31, q32⟩ := q3
          have j0 : (0 : Int) ≤ (k : Int) := by omega
          have j1 : (k : Int) < (n : Int) := by omega
          clear hc h
          obtain ⟨q41, q42⟩ : 0 ≤ (Batch.at_ es k).f0 * (Batch.at_ es k).f1 ∧ (Batch.at_ es k).f0 * (Batch.at_ es k).f1 ≤ 100000000 := dayLit_bd h1 k (by rw [HL.out]; exact hlt)
          go_wp2
          go_roundw
          case rel => exact ⟨k + 1, by omega, by go_num, by simp only [sumL]; rfl, (hx.alloc _)⟩
          case measure => simp [intOf]; omega
        · obtain rfl : k = n := by omega
          have q3 := sumL_bd bd.out k (by rw [HL.out]; exact Nat.le_refl _)
          have Hp' := Hp.out
          rw [HL.out] at Hp'
          go_wp2_with fail
          refine (litersIn_c _ _ _ es _ (h0.ext hx)).mono ?_; rintro e w2 ⟨rfl, x2⟩
          rw [HQ.out]
          go_wp2
          go_ret
          exact ⟨ret_int H.out.symm, hx.trans x2⟩
    · have H := Lib.hid (show averageF es = -1 from by rw [averageF, if_neg (fun e => hn (by have := e.2; rwa [HL.out] at this))])
      have hne : ((n : Int) == 0) = true := by rw [beq_iff_eq]; omega
      go_enter Try.func20, Try.ntmps20
      go_wp2_with (go_at_call 13; refine (batchesOk_c _ _ _ es _ h).mono ?_; rintro e w1 ⟨rfl, hx⟩; have hl := hx.len; (try simp only [World.size_alloc, World.size_setCell, World.size_drew, World.heap_drewN] at hl))
      go_ret
      exact ⟨ret_int H.out.symm, hx⟩
  · have H := Lib.hid (show averageF es = -1 from by rw [averageF, if_neg (fun e => h1 e.1)])
    go_enter Try.func20, Try.ntmps20
    go_wp2_with (go_at_call 13; refine (batchesOk_c _ _ _ es _ h).mono ?_; rintro e w1 ⟨rfl, hx⟩; have hl := hx.len; (try simp only [World.size_alloc, World.size_setCell, World.size_drew, World.heap_drewN] at hl))
    go_ret
    exact ⟨ret_int H.out.symm, hx⟩

theorem sAverageDay_c (A : Option Addr) (n c : Nat) (es : List Batch) (w : World) (h : Holds w 2 A n c (Batch.all es)) :
    Calls Try.prog 19 #[.slice A n c] w (Ans (.int .i64 (averageF es)) w) := by
  have hmx : n ≤ 9223372036854775807 := by have := h.2.1; have := h.2.2.1; unfold maxLen at this; omega
  have HL := Lib.hid (Batch.len h)
  by_cases h1 : batB es = true
  · have hn40 : n ≤ 40 := by have := (batB_at h1).1; rw [HL.out] at this; exact this
    have HQ := Lib.hid (show litersF es = sumL (lit es) n from by rw [litersF, if_pos h1, HL.out])
    by_cases hn : 0 < n
    · have H := Lib.hid (show averageF es = sumL (dayLit es) n / sumL (lit es) n from by rw [averageF, if_pos ⟨h1, by rw [HL.out]; exact hn⟩, HL.out])
      have hp := sum_lit_pos h1 (by rw [HL.out]; exact hn)
      rw [HL.out] at hp
      go_enter Try.func19, Try.ntmps19
      go_wp2_with fail
      refine (sLitersIn_c _ _ _ es _ h).mono ?_; rintro e w1 ⟨rfl, hx⟩
      rw [HQ.out]
      go_wp2_with fail
      have hx0 := hx
      have bd := Lib.hid (dayLit_bd h1)
      go_loopw [4, 5] (fun v i wr => ∃ k : Nat, k ≤ n ∧ i = .int .i64 k ∧ v = .int .i64 (sumL (dayLit es) k) ∧ Ext w wr) (fun v i _ => n - (intOf i).toNat)
      case atStart => exact ⟨0, Nat.zero_le _, rfl, rfl, hx0⟩
      case round =>
        clear hx0
        obtain ⟨k, hk, rfl, rfl, hx⟩ := hrel
        by_cases hlt : k < n
        · obtain ⟨b, off, rfl, hb, hc⟩ := Batch.where_ h (by omega)
          obtain ⟨d0, d1⟩ := hc k hlt
          replace d0 := hx.got d0
          replace d1 := hx.got d1
          obtain ⟨q11, q12⟩ : 0 ≤ (Batch.at_ es k).f0 ∧ (Batch.at_ es k).f0 ≤ 1000 := day_bd h1 k (by rw [HL.out]; exact hlt)
          obtain ⟨q21, q22⟩ : 1 ≤ (Batch.at_ es k).f1 ∧ (Batch.at_ es k).f1 ≤ 100000 := lit_bd h1 k (by rw [HL.out]; exact hlt)
          have q3 := sumL_bd bd.out k (by rw [HL.out]; exact hk)
          obtain ⟨q31, q32⟩ := q3
          have j0 : (0 : Int) ≤ (k : Int) := by omega
          have j1 : (k : Int) < (n : Int) := by omega
          clear hc h
          obtain ⟨q41, q42⟩ : 0 ≤ (Batch.at_ es k).f0 * (Batch.at_ es k).f1 ∧ (Batch.at_ es k).f0 * (Batch.at_ es k).f1 ≤ 100000000 := dayLit_bd h1 k (by rw [HL.out]; exact hlt)
          go_wp2_with fail
          go_quiet (fail)
          go_wp2
          go_roundw
          case rel => exact ⟨k + 1, by omega, by go_num, by simp only [sumL]; rfl, hx.drewN _⟩
          case measure => simp [intOf]; omega
        · obtain rfl : k = n := by omega
          have q3 := sumL_bd bd.out k (by rw [HL.out]; exact Nat.le_refl _)
          go_wp2
          go_ret
          exact ⟨ret_int H.out.symm, hx⟩
    · have H := Lib.hid (show averageF es = -1 from by rw [averageF, if_neg (fun e => hn (by have := e.2; rwa [HL.out] at this))])
      have hz : n = 0 := by omega
      have HQ0 := Lib.hid (show litersF es = 0 from by rw [HQ.out, hz]; rfl)
      clear hz
      go_enter Try.func19, Try.ntmps19
      go_wp2_with fail
      refine (sLitersIn_c _ _ _ es _ h).mono ?_; rintro e w1 ⟨rfl, hx⟩
      rw [HQ0.out]
      go_wp2
      go_ret
      exact ⟨ret_int H.out.symm, hx⟩
  · have H := Lib.hid (show averageF es = -1 from by rw [averageF, if_neg (fun e => h1 e.1)])
    have HQ0 := Lib.hid (show litersF es = -1 from by rw [litersF, if_neg h1])
    go_enter Try.func19, Try.ntmps19
    go_wp2_with fail
    refine (sLitersIn_c _ _ _ es _ h).mono ?_; rintro e w1 ⟨rfl, hx⟩
    rw [HQ0.out]
    go_wp2
    go_ret
    exact ⟨ret_int H.out.symm, hx⟩
end Go.Proofs.Ytecifmpkjegodaa
