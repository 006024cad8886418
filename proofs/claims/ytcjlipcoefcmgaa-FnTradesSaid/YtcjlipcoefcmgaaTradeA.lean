/-
  The contracts of DebtsOk, Owes and BalanceOf, of the program and of the reference.
-/
import Derived.Test.YtcjlipcoefcmgaaElDebt
namespace Go.Proofs.Ytcjlipcoefcmgaa
open Go.RowKit

/-- one debt is in order -/
def debAt (e : Debt) : Prop := e.f0 ≠ e.f1 ∧ inB e.f0 1 20 = true ∧ inB e.f1 1 20 = true ∧ inB e.f2 1 10000 = true
def debP (es : List Debt) : Prop := es.length ≤ 30 ∧ ∀ i, i < es.length → debAt (Debt.at_ es i)
open Classical in
noncomputable def debB (es : List Debt) : Bool := decide (debP es)
theorem debB_yes {es : List Debt} (h : debP es) : debB es = true := by simp only [debB, decide_eq_true_eq]; exact h
theorem debB_no {es : List Debt} (h : ¬ debP es) : debB es = false := by simp only [debB, decide_eq_false_iff_not]; exact h
theorem debB_at {es : List Debt} (h : debB es = true) : debP es := by simpa only [debB, decide_eq_true_eq] using h
theorem deb_bd {es : List Debt} (h : debB es = true) {i : Nat} (hi : i < es.length) : 1 ≤ (Debt.at_ es i).f2 ∧ (Debt.at_ es i).f2 ≤ 10000 := inB_yes ((debB_at h).2 i hi).2.2.2
theorem debtsOk_c (A : Option Addr) (n c : Nat) (es : List Debt) (w : World) (h : Holds w 3 A n c (Debt.all es)) :
    Calls Try.prog 13 #[.slice A n c] w (Ans (.bool (debB es)) w) := by
  have hmx : n ≤ 9223372036854775807 := by have := h.2.1; have := h.2.2.1; unfold maxLen at this; omega
  have HL := Lib.hid (Debt.len h)
  by_cases h30 : n ≤ 30
  · go_enter Try.func13, Try.ntmps13
    go_wp2
    go_loopw [10] (fun i wr => ∃ k : Nat, k ≤ n ∧ i = .int .i64 k ∧ Hid (∀ j, j < k → debAt (Debt.at_ es j)) ∧ Ext w wr) (fun i _ => n - (intOf i).toNat)
    case atStart => exact ⟨0, Nat.zero_le _, rfl, fun j hj => by omega, Ext.refl _⟩
    case round =>
      obtain ⟨k, hk, rfl, hall, hx⟩ := hrel
      by_cases hlt : k < n
      · obtain ⟨b, off, rfl, hb, hc⟩ := Debt.where_ h (by omega)
        obtain ⟨d0, d1, d2⟩ := hc k hlt
        replace d0 := hx.got d0
        replace d1 := hx.got d1
        replace d2 := hx.got d2
        clear hc h
        by_cases t0 : (Debt.at_ es k).f0 = (Debt.at_ es k).f1
        · have t0' : ((Debt.at_ es k).f0 == (Debt.at_ es k).f1) = true := by simp [t0]
          have T0 := Lib.hid t0
          clear t0
          go_wp2_with (go_at_call 32; refine (within_c _ _ _ _).mono ?_; rintro e w' ⟨rfl, rfl⟩)
          go_ret
          exact ⟨ret_bool (debB_no (fun e => (fun e : debAt (Debt.at_ es k) => e.1 T0.out) (e.2 k (by rw [HL.out]; exact hlt)))).symm, hx.alloc _⟩
        · have t0' : ((Debt.at_ es k).f0 == (Debt.at_ es k).f1) = false := by simp [t0]
          have T0 := Lib.hid t0
          clear t0
          by_cases t1 : inB (Debt.at_ es k).f0 1 20 = true
          · by_cases t2 : inB (Debt.at_ es k).f1 1 20 = true
            · by_cases t3 : inB (Debt.at_ es k).f2 1 10000 = true
              · go_wp2_with (go_at_call 32; refine (within_c _ _ _ _).mono ?_; rintro e w' ⟨rfl, rfl⟩)
                go_roundw
                case rel => exact ⟨k + 1, by omega, by go_num, fun j hj => by
                  rcases Nat.lt_succ_iff_lt_or_eq.1 hj with hj | rfl
                  · exact hall.out j hj
                  · exact ⟨T0.out, t1, t2, t3⟩, hx.alloc _⟩
                case measure => simp [intOf]; omega
              · go_wp2_with (go_at_call 32; refine (within_c _ _ _ _).mono ?_; rintro e w' ⟨rfl, rfl⟩)
                go_ret
                exact ⟨ret_bool (debB_no (fun e => (fun e : debAt (Debt.at_ es k) => t3 e.2.2.2) (e.2 k (by rw [HL.out]; exact hlt)))).symm, hx.alloc _⟩
            · go_wp2_with (go_at_call 32; refine (within_c _ _ _ _).mono ?_; rintro e w' ⟨rfl, rfl⟩)
              go_ret
              exact ⟨ret_bool (debB_no (fun e => (fun e : debAt (Debt.at_ es k) => t2 e.2.2.1) (e.2 k (by rw [HL.out]; exact hlt)))).symm, hx.alloc _⟩
          · go_wp2_with (go_at_call 32; refine (within_c _ _ _ _).mono ?_; rintro e w' ⟨rfl, rfl⟩)
            go_ret
            exact ⟨ret_bool (debB_no (fun e => (fun e : debAt (Debt.at_ es k) => t1 e.2.1) (e.2 k (by rw [HL.out]; exact hlt)))).symm, hx.alloc _⟩
      · go_wp2
        go_ret
        exact ⟨ret_bool (debB_yes ⟨by have := HL.out; omega, fun j hj => hall.out j (by have := HL.out; omega)⟩).symm, hx⟩
  · go_enter Try.func13, Try.ntmps13
    go_wp2
    go_ret
    exact ⟨ret_bool (debB_no (fun e => h30 (by rw [← HL.out]; exact e.1))).symm, Ext.refl _⟩
theorem sDebtsOk_c (A : Option Addr) (n c : Nat) (es : List Debt) (w : World) (h : Holds w 3 A n c (Debt.all es)) :
    Calls Try.prog 11 #[.slice A n c] w (Ans (.bool (debB es)) w) := by
  have hmx : n ≤ 9223372036854775807 := by have := h.2.1; have := h.2.2.1; unfold maxLen at this; omega
  have HL := Lib.hid (Debt.len h)
  go_enter Try.func11, Try.ntmps11
  go_wp2
  go_loopw [3] (fun i wr => ∃ k : Nat, k ≤ n ∧ i = .int .i64 k ∧ Hid (∀ j, j < k → debAt (Debt.at_ es j)) ∧ Ext w wr) (fun i _ => n - (intOf i).toNat)
  case atStart => exact ⟨0, Nat.zero_le _, rfl, fun j hj => by omega, Ext.refl _⟩
  case round =>
    obtain ⟨k, hk, rfl, hall, hx⟩ := hrel
    by_cases hlt : k < n
    · obtain ⟨b, off, rfl, hb, hc⟩ := Debt.where_ h (by omega)
      obtain ⟨d0, d1, d2⟩ := hc k hlt
      replace d0 := hx.got d0
      replace d1 := hx.got d1
      replace d2 := hx.got d2
      clear hc h
      by_cases t0 : (Debt.at_ es k).f0 = (Debt.at_ es k).f1
      · have t0' : ((Debt.at_ es k).f0 == (Debt.at_ es k).f1) = true := by simp [t0]
        have T0 := Lib.hid t0
        clear t0
        by_cases t1 : inB (Debt.at_ es k).f0 1 20 = true
        · by_cases t2 : inB (Debt.at_ es k).f1 1 20 = true
          · go_wp2_with (go_at_call 30; refine (l01In_c _ _ _ _).mono ?_; rintro e w' ⟨rfl, rfl⟩)
            go_ret
            exact ⟨ret_bool (debB_no (fun e => (fun e : debAt (Debt.at_ es k) => e.1 T0.out) (e.2 k (by rw [HL.out]; exact hlt)))).symm, hx.alloc _⟩
          · go_wp2_with (go_at_call 30; refine (l01In_c _ _ _ _).mono ?_; rintro e w' ⟨rfl, rfl⟩)
            go_ret
            exact ⟨ret_bool (debB_no (fun e => (fun e : debAt (Debt.at_ es k) => e.1 T0.out) (e.2 k (by rw [HL.out]; exact hlt)))).symm, hx.alloc _⟩
        · go_wp2_with (go_at_call 30; refine (l01In_c _ _ _ _).mono ?_; rintro e w' ⟨rfl, rfl⟩)
          go_ret
          exact ⟨ret_bool (debB_no (fun e => (fun e : debAt (Debt.at_ es k) => e.1 T0.out) (e.2 k (by rw [HL.out]; exact hlt)))).symm, hx.alloc _⟩
      · have t0' : ((Debt.at_ es k).f0 == (Debt.at_ es k).f1) = false := by simp [t0]
        have T0 := Lib.hid t0
        clear t0
        by_cases t1 : inB (Debt.at_ es k).f0 1 20 = true
        · by_cases t2 : inB (Debt.at_ es k).f1 1 20 = true
          · by_cases t3 : inB (Debt.at_ es k).f2 1 10000 = true
            · go_wp2_with (go_at_call 30; refine (l01In_c _ _ _ _).mono ?_; rintro e w' ⟨rfl, rfl⟩)
              go_roundw
              case rel => exact ⟨k + 1, by omega, by go_num, fun j hj => by
                rcases Nat.lt_succ_iff_lt_or_eq.1 hj with hj | rfl
                · exact hall.out j hj
                · exact ⟨T0.out, t1, t2, t3⟩, hx.alloc _⟩
              case measure => simp [intOf]; omega
            · go_wp2_with (go_at_call 30; refine (l01In_c _ _ _ _).mono ?_; rintro e w' ⟨rfl, rfl⟩)
              go_ret
              exact ⟨ret_bool (debB_no (fun e => (fun e : debAt (Debt.at_ es k) => t3 e.2.2.2) (e.2 k (by rw [HL.out]; exact hlt)))).symm, hx.alloc _⟩
          · go_wp2_with (go_at_call 30; refine (l01In_c _ _ _ _).mono ?_; rintro e w' ⟨rfl, rfl⟩)
            go_ret
            exact ⟨ret_bool (debB_no (fun e => (fun e : debAt (Debt.at_ es k) => t2 e.2.2.1) (e.2 k (by rw [HL.out]; exact hlt)))).symm, hx.alloc _⟩
        · go_wp2_with (go_at_call 30; refine (l01In_c _ _ _ _).mono ?_; rintro e w' ⟨rfl, rfl⟩)
          go_ret
          exact ⟨ret_bool (debB_no (fun e => (fun e : debAt (Debt.at_ es k) => t1 e.2.1) (e.2 k (by rw [HL.out]; exact hlt)))).symm, hx.alloc _⟩
    · by_cases h30 : n ≤ 30
      · have h30' : decide ((n : Int) ≤ 30) = true := by simp; omega
        go_wp2
        go_ret
        exact ⟨ret_bool (by rw [debB_yes ⟨by have := HL.out; omega, fun j hj => hall.out j (by have := HL.out; omega)⟩]; try (simp <;> omega)), hx⟩
      · go_wp2
        go_ret
        exact ⟨ret_bool (by rw [debB_no (fun e => h30 (by rw [← HL.out]; exact e.1))]; try (simp <;> omega)), hx⟩

/-- f 0 + .. + f (k - 1) -/
def sumG (f : Nat → Int) : Nat → Int
  | 0 => 0
  | k + 1 => sumG f k + f k
theorem sumG_bd {f : Nat → Int} {b : Int} {n : Nat} (h : ∀ i, i < n → -b ≤ f i ∧ f i ≤ b) (k : Nat) (hk : k ≤ n) : -(k * b) ≤ sumG f k ∧ sumG f k ≤ k * b := by
  induction k with
  | zero => simp [sumG]
  | succ k ih =>
    have h1 := ih (by omega)
    have h2 := h k (by omega)
    have : ((k + 1 : Nat) : Int) * b = k * b + b := by push_cast; rw [Int.add_mul, Int.one_mul]
    simp only [sumG]
    omega
/-- what one debt adds to what a owes b -/
def owesAt (a b : Int) (e : Debt) : Int := (if e.f0 == a && e.f1 == b then e.f2 else 0) - (if e.f0 == b && e.f1 == a then e.f2 else 0)
/-- what one debt adds to a's balance -/
def balAt (a : Int) (e : Debt) : Int := (if e.f1 == a then e.f2 else 0) - (if e.f0 == a then e.f2 else 0)
def owesI (es : List Debt) (a b : Int) (i : Nat) : Int := owesAt a b (Debt.at_ es i)
def balI (es : List Debt) (a : Int) (i : Nat) : Int := balAt a (Debt.at_ es i)
noncomputable def owesF (es : List Debt) (a b : Int) : Int := if debB es = true then sumG (owesI es a b) es.length else 0
noncomputable def balF (es : List Debt) (a : Int) : Int := if debB es = true then sumG (balI es a) es.length else 0
theorem owesI_bd {es : List Debt} (h : debB es = true) (a b : Int) : ∀ i, i < es.length → -10000 ≤ owesI es a b i ∧ owesI es a b i ≤ 10000 := fun i hi => by
  have := deb_bd h hi
  unfold owesI owesAt
  split <;> split <;> omega
theorem balI_bd {es : List Debt} (h : debB es = true) (a : Int) : ∀ i, i < es.length → -10000 ≤ balI es a i ∧ balI es a i ≤ 10000 := fun i hi => by
  have := deb_bd h hi
  unfold balI balAt
  split <;> split <;> omega
set_option maxHeartbeats 4000000 in
theorem owes_c (A : Option Addr) (n c : Nat) (es : List Debt) (a b : Int) (w : World) (h : Holds w 3 A n c (Debt.all es)) :
    Calls Try.prog 18 #[.slice A n c, .int .i64 a, .int .i64 b] w (Ans (.int .i64 (owesF es a b)) w) := by
  have hmx : n ≤ 9223372036854775807 := by have := h.2.1; have := h.2.2.1; unfold maxLen at this; omega
  have HL := Lib.hid (Debt.len h)
  have h0 := h
  by_cases h1 : debB es = true
  · have n30 : n ≤ 30 := by have := (debB_at h1).1; rw [HL.out] at this; exact this
    have H := Lib.hid (show owesF es a b = sumG (owesI es a b) n from by rw [owesF, if_pos h1, HL.out])
    have bd := Lib.hid (owesI_bd h1 a b)
    go_enter Try.func18, Try.ntmps18
    go_wp2_with (go_at_call 13; refine (debtsOk_c _ _ _ es _ h).mono ?_; rintro e w1 ⟨rfl, hx⟩; have hl := hx.len; (try simp only [World.size_alloc, World.size_setCell, World.size_drew, World.heap_drewN] at hl))
    have hx0 := hx
    go_loopw [7, 15] (fun v i wr => ∃ k : Nat, k ≤ n ∧ i = .int .i64 k ∧ v = .int .i64 (sumG (owesI es a b) k) ∧ Ext w wr) (fun _ i _ => n - (intOf i).toNat)
    case atStart => exact ⟨0, Nat.zero_le _, rfl, rfl, hx0⟩
    case round =>
      clear hx0
      obtain ⟨k, hk, rfl, rfl, hx⟩ := hrel
      by_cases hlt : k < n
      · obtain ⟨bb, off, rfl, hb, hc⟩ := Debt.where_ h (by omega)
        obtain ⟨d0, d1, d2⟩ := hc k hlt
        replace d0 := hx.got d0
        replace d1 := hx.got d1
        replace d2 := hx.got d2
        obtain ⟨q1, q2⟩ := deb_bd h1 (show k < es.length by rw [HL.out]; exact hlt)
        obtain ⟨q3, q4⟩ := sumG_bd bd.out k (by rw [HL.out]; exact hk)
        have j0 : (0 : Int) ≤ (k : Int) := by omega
        have j1 : (k : Int) < (n : Int) := by omega
        clear hc h
        cases e0 : ((Debt.at_ es k).f0 == a) <;> cases e1 : ((Debt.at_ es k).f1 == b) <;> cases e2 : ((Debt.at_ es k).f0 == b) <;> cases e3 : ((Debt.at_ es k).f1 == a)
        all_goals
          go_wp2
          go_roundw
          case rel => exact ⟨k + 1, by omega, by go_num, by simp only [sumG, owesI, owesAt]; simp [e0, e1, e2, e3]; try go_num, hx.alloc _⟩
          case measure => simp [intOf]; omega
      · obtain rfl : k = n := by omega
        go_wp2
        go_ret
        exact ⟨ret_int H.out.symm, hx⟩
  · have H := Lib.hid (show owesF es a b = 0 from if_neg h1)
    go_enter Try.func18, Try.ntmps18
    go_wp2_with (go_at_call 13; refine (debtsOk_c _ _ _ es _ h).mono ?_; rintro e w1 ⟨rfl, hx⟩; have hl := hx.len; (try simp only [World.size_alloc, World.size_setCell, World.size_drew, World.heap_drewN] at hl))
    go_ret
    exact ⟨ret_int H.out.symm, hx⟩
set_option maxHeartbeats 4000000 in
theorem sOwes_c (A : Option Addr) (n c : Nat) (es : List Debt) (a b : Int) (w : World) (h : Holds w 3 A n c (Debt.all es)) :
    Calls Try.prog 17 #[.slice A n c, .int .i64 a, .int .i64 b] w (Ans (.int .i64 (owesF es a b)) w) := by
  have hmx : n ≤ 9223372036854775807 := by have := h.2.1; have := h.2.2.1; unfold maxLen at this; omega
  have HL := Lib.hid (Debt.len h)
  have h0 := h
  by_cases h1 : debB es = true
  · have n30 : n ≤ 30 := by have := (debB_at h1).1; rw [HL.out] at this; exact this
    have H := Lib.hid (show owesF es a b = sumG (owesI es a b) n from by rw [owesF, if_pos h1, HL.out])
    have bd := Lib.hid (owesI_bd h1 a b)
    go_enter Try.func17, Try.ntmps17
    go_wp2
    go_loopw [7, 8] (fun v i wr => ∃ k : Nat, k ≤ n ∧ i = .int .i64 k ∧ v = .int .i64 (sumG (owesI es a b) k) ∧ Ext w wr) (fun _ i _ => n - (intOf i).toNat)
    case atStart => exact ⟨0, Nat.zero_le _, rfl, rfl, Ext.refl _⟩
    case round =>
      obtain ⟨k, hk, rfl, rfl, hx⟩ := hrel
      by_cases hlt : k < n
      · obtain ⟨bb, off, rfl, hb, hc⟩ := Debt.where_ h (by omega)
        obtain ⟨d0, d1, d2⟩ := hc k hlt
        replace d0 := hx.got d0
        replace d1 := hx.got d1
        replace d2 := hx.got d2
        obtain ⟨q1, q2⟩ := deb_bd h1 (show k < es.length by rw [HL.out]; exact hlt)
        obtain ⟨q3, q4⟩ := sumG_bd bd.out k (by rw [HL.out]; exact hk)
        have j0 : (0 : Int) ≤ (k : Int) := by omega
        have j1 : (k : Int) < (n : Int) := by omega
        clear hc h
        cases e0 : ((Debt.at_ es k).f0 == a) <;> cases e1 : ((Debt.at_ es k).f1 == b) <;> cases e2 : ((Debt.at_ es k).f0 == b) <;> cases e3 : ((Debt.at_ es k).f1 == a)
        all_goals
          go_wp2_with fail
          refine (sDebtsOk_c _ _ _ es _ (h0.ext hx)).mono ?_; rintro e w1 ⟨rfl, x1⟩
          have d0' := x1.got d0
          have d1' := x1.got d1
          have d2' := x1.got d2
          go_wp2
          go_roundw
          case rel => exact ⟨k + 1, by omega, by go_num, by simp only [sumG, owesI, owesAt]; simp [e0, e1, e2, e3]; try go_num, hx.trans x1⟩
          case measure => simp [intOf]; omega
      · obtain rfl : k = n := by omega
        go_wp2
        go_ret
        exact ⟨ret_int H.out.symm, hx⟩
  · have H := Lib.hid (show owesF es a b = 0 from if_neg h1)
    by_cases hn0 : 0 < n
    · go_enter Try.func17, Try.ntmps17
      go_wp2
      go_loopw [7, 8] (fun v i wr => i = .int .i64 0 ∧ v = .int .i64 0 ∧ Ext w wr) (fun _ i _ => n - (intOf i).toNat)
      case atStart => exact ⟨rfl, rfl, Ext.refl _⟩
      case round =>
        obtain ⟨rfl, rfl, hx⟩ := hrel
        go_wp2_with fail
        refine (sDebtsOk_c _ _ _ es _ (h.ext hx)).mono ?_; rintro e w1 ⟨rfl, x1⟩
        go_wp2
        go_ret
        exact ⟨ret_int H.out.symm, hx.trans x1⟩
    · obtain rfl : n = 0 := by omega
      go_enter Try.func17, Try.ntmps17
      go_wp2
      go_loopw [7, 8] (fun v i wr => i = .int .i64 0 ∧ v = .int .i64 0 ∧ Ext w wr) (fun _ i _ => 0 - (intOf i).toNat)
      case atStart => exact ⟨rfl, rfl, Ext.refl _⟩
      case round =>
        obtain ⟨rfl, rfl, hx⟩ := hrel
        go_wp2
        go_ret
        exact ⟨ret_int H.out.symm, hx⟩
set_option maxHeartbeats 4000000 in
theorem balanceOf_c (A : Option Addr) (n c : Nat) (es : List Debt) (a : Int) (w : World) (h : Holds w 3 A n c (Debt.all es)) :
    Calls Try.prog 16 #[.slice A n c, .int .i64 a] w (Ans (.int .i64 (balF es a)) w) := by
  have hmx : n ≤ 9223372036854775807 := by have := h.2.1; have := h.2.2.1; unfold maxLen at this; omega
  have HL := Lib.hid (Debt.len h)
  have h0 := h
  by_cases h1 : debB es = true
  · have n30 : n ≤ 30 := by have := (debB_at h1).1; rw [HL.out] at this; exact this
    have H := Lib.hid (show balF es a = sumG (balI es a) n from by rw [balF, if_pos h1, HL.out])
    have bd := Lib.hid (balI_bd h1 a)
    go_enter Try.func16, Try.ntmps16
    go_wp2_with (go_at_call 13; refine (debtsOk_c _ _ _ es _ h).mono ?_; rintro e w1 ⟨rfl, hx⟩; have hl := hx.len; (try simp only [World.size_alloc, World.size_setCell, World.size_drew, World.heap_drewN] at hl))
    have hx0 := hx
    go_loopw [5, 13] (fun v i wr => ∃ k : Nat, k ≤ n ∧ i = .int .i64 k ∧ v = .int .i64 (sumG (balI es a) k) ∧ Ext w wr) (fun _ i _ => n - (intOf i).toNat)
    case atStart => exact ⟨0, Nat.zero_le _, rfl, rfl, hx0⟩
    case round =>
      clear hx0
      obtain ⟨k, hk, rfl, rfl, hx⟩ := hrel
      by_cases hlt : k < n
      · obtain ⟨b, off, rfl, hb, hc⟩ := Debt.where_ h (by omega)
        obtain ⟨d0, d1, d2⟩ := hc k hlt
        replace d0 := hx.got d0
        replace d1 := hx.got d1
        replace d2 := hx.got d2
        obtain ⟨q1, q2⟩ := deb_bd h1 (show k < es.length by rw [HL.out]; exact hlt)
        obtain ⟨q3, q4⟩ := sumG_bd bd.out k (by rw [HL.out]; exact hk)
        have j0 : (0 : Int) ≤ (k : Int) := by omega
        have j1 : (k : Int) < (n : Int) := by omega
        clear hc h
        cases e0 : ((Debt.at_ es k).f1 == a) <;> cases e1 : ((Debt.at_ es k).f0 == a)
        all_goals
          go_wp2
          go_roundw
          case rel => exact ⟨k + 1, by omega, by go_num, by simp only [sumG, balI, balAt]; simp [e0, e1]; try go_num, hx.alloc _⟩
          case measure => simp [intOf]; omega
      · obtain rfl : k = n := by omega
        go_wp2
        go_ret
        exact ⟨ret_int H.out.symm, hx⟩
  · have H := Lib.hid (show balF es a = 0 from if_neg h1)
    go_enter Try.func16, Try.ntmps16
    go_wp2_with (go_at_call 13; refine (debtsOk_c _ _ _ es _ h).mono ?_; rintro e w1 ⟨rfl, hx⟩; have hl := hx.len; (try simp only [World.size_alloc, World.size_setCell, World.size_drew, World.heap_drewN] at hl))
    go_ret
    exact ⟨ret_int H.out.symm, hx⟩
set_option maxHeartbeats 4000000 in
theorem sBalanceOf_c (A : Option Addr) (n c : Nat) (es : List Debt) (a : Int) (w : World) (h : Holds w 3 A n c (Debt.all es)) :
    Calls Try.prog 15 #[.slice A n c, .int .i64 a] w (Ans (.int .i64 (balF es a)) w) := by
  have hmx : n ≤ 9223372036854775807 := by have := h.2.1; have := h.2.2.1; unfold maxLen at this; omega
  have HL := Lib.hid (Debt.len h)
  have h0 := h
  by_cases h1 : debB es = true
  · have n30 : n ≤ 30 := by have := (debB_at h1).1; rw [HL.out] at this; exact this
    have H := Lib.hid (show balF es a = sumG (balI es a) n from by rw [balF, if_pos h1, HL.out])
    have bd := Lib.hid (balI_bd h1 a)
    go_enter Try.func15, Try.ntmps15
    go_wp2
    go_loopw [5, 6] (fun v i wr => ∃ k : Nat, k ≤ n ∧ i = .int .i64 k ∧ v = .int .i64 (sumG (balI es a) k) ∧ Ext w wr) (fun _ i _ => n - (intOf i).toNat)
    case atStart => exact ⟨0, Nat.zero_le _, rfl, rfl, Ext.refl _⟩
    case round =>
      obtain ⟨k, hk, rfl, rfl, hx⟩ := hrel
      by_cases hlt : k < n
      · obtain ⟨b, off, rfl, hb, hc⟩ := Debt.where_ h (by omega)
        obtain ⟨d0, d1, d2⟩ := hc k hlt
        replace d0 := hx.got d0
        replace d1 := hx.got d1
        replace d2 := hx.got d2
        obtain ⟨q1, q2⟩ := deb_bd h1 (show k < es.length by rw [HL.out]; exact hlt)
        obtain ⟨q3, q4⟩ := sumG_bd bd.out k (by rw [HL.out]; exact hk)
        have j0 : (0 : Int) ≤ (k : Int) := by omega
        have j1 : (k : Int) < (n : Int) := by omega
        clear hc h
        cases e0 : ((Debt.at_ es k).f1 == a) <;> cases e1 : ((Debt.at_ es k).f0 == a)
        all_goals
          go_wp2_with fail
          refine (sDebtsOk_c _ _ _ es _ (h0.ext hx)).mono ?_; rintro e w1 ⟨rfl, x1⟩
          have d0' := x1.got d0
          have d1' := x1.got d1
          have d2' := x1.got d2
          go_wp2
          go_roundw
          case rel => exact ⟨k + 1, by omega, by go_num, by simp only [sumG, balI, balAt]; simp [e0, e1]; try go_num, hx.trans x1⟩
          case measure => simp [intOf]; omega
      · obtain rfl : k = n := by omega
        go_wp2
        go_ret
        exact ⟨ret_int H.out.symm, hx⟩
  · have H := Lib.hid (show balF es a = 0 from if_neg h1)
    by_cases hn0 : 0 < n
    · go_enter Try.func15, Try.ntmps15
      go_wp2
      go_loopw [5, 6] (fun v i wr => i = .int .i64 0 ∧ v = .int .i64 0 ∧ Ext w wr) (fun _ i _ => n - (intOf i).toNat)
      case atStart => exact ⟨rfl, rfl, Ext.refl _⟩
      case round =>
        obtain ⟨rfl, rfl, hx⟩ := hrel
        go_wp2_with fail
        refine (sDebtsOk_c _ _ _ es _ (h.ext hx)).mono ?_; rintro e w1 ⟨rfl, x1⟩
        go_wp2
        go_ret
        exact ⟨ret_int H.out.symm, hx.trans x1⟩
    · obtain rfl : n = 0 := by omega
      go_enter Try.func15, Try.ntmps15
      go_wp2
      go_loopw [5, 6] (fun v i wr => i = .int .i64 0 ∧ v = .int .i64 0 ∧ Ext w wr) (fun _ i _ => 0 - (intOf i).toNat)
      case atStart => exact ⟨rfl, rfl, Ext.refl _⟩
      case round =>
        obtain ⟨rfl, rfl, hx⟩ := hrel
        go_wp2
        go_ret
        exact ⟨ret_int H.out.symm, hx⟩
end Go.Proofs.Ytcjlipcoefcmgaa
