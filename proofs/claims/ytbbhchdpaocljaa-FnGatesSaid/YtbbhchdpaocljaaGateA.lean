/-
  The contracts of GatesOk, KeysOf and OpenGates, of the program and of the reference.
-/
import Derived.Test.YtbbhchdpaocljaaElGate
import Derived.Test.YtbbhchdpaocljaaMore
namespace Go.Proofs.Ytbbhchdpaocljaa
open Go.RowKit

def gatP (es : List Gate) : Prop := (1 ≤ es.length ∧ es.length ≤ 16) ∧ ∀ i, i < es.length → inB (Gate.at_ es i).f1 0 999 = true
open Classical in
noncomputable def gatB (es : List Gate) : Bool := decide (gatP es)
theorem gatB_yes {es : List Gate} (h : gatP es) : gatB es = true := by simp only [gatB, decide_eq_true_eq]; exact h
theorem gatB_no {es : List Gate} (h : ¬ gatP es) : gatB es = false := by simp only [gatB, decide_eq_false_iff_not]; exact h
theorem gatB_at {es : List Gate} (h : gatB es = true) : gatP es := by simpa only [gatB, decide_eq_true_eq] using h
theorem gatesOk_c (A : Option Addr) (n c : Nat) (es : List Gate) (w : World) (h : Holds w 2 A n c (Gate.all es)) :
    Calls Try.prog 13 #[.slice A n c] w (Ans (.bool (gatB es)) w) := by
  have hmx : n ≤ 9223372036854775807 := by have := h.2.1; have := h.2.2.1; unfold maxLen at this; omega
  have HL := Lib.hid (Gate.len h)
  by_cases h16 : inB (n : Int) 1 16 = true
  · have H16 := Lib.hid (inB_yes h16)
    go_enter Try.func13, Try.ntmps13
    go_wp2_with (go_at_call 36; refine (within_c _ _ _ _).mono ?_; rintro e w' ⟨rfl, rfl⟩)
    go_loopw [11] (fun i wr => ∃ k : Nat, k ≤ n ∧ i = .int .i64 k ∧ Hid (∀ j, j < k → inB (Gate.at_ es j).f1 0 999 = true) ∧ Ext w wr) (fun i _ => n - (intOf i).toNat)
    case atStart => exact ⟨0, Nat.zero_le _, rfl, fun j hj => by omega, Ext.refl _⟩
    case round =>
      obtain ⟨k, hk, rfl, hall, hx⟩ := hrel
      by_cases hlt : k < n
      · obtain ⟨b, off, rfl, hb, hc⟩ := Gate.where_ h (by omega)
        obtain ⟨d0, d1⟩ := hc k hlt
        replace d0 := hx.got d0
        replace d1 := hx.got d1
        clear hc h
        by_cases t : inB (Gate.at_ es k).f1 0 999 = true
        · go_wp2_with (go_at_call 36; refine (within_c _ _ _ _).mono ?_; rintro e w' ⟨rfl, rfl⟩)
          go_roundw
          case rel => exact ⟨k + 1, by omega, by go_num, fun j hj => by
            rcases Nat.lt_succ_iff_lt_or_eq.1 hj with hj | rfl
            · exact hall.out j hj
            · exact t, hx.alloc _⟩
          case measure => simp [intOf]; omega
        · go_wp2_with (go_at_call 36; refine (within_c _ _ _ _).mono ?_; rintro e w' ⟨rfl, rfl⟩)
          go_ret
          exact ⟨ret_bool (gatB_no (fun e => t (e.2 k (by rw [HL.out]; exact hlt)))).symm, hx.alloc _⟩
      · go_wp2
        go_ret
        exact ⟨ret_bool (gatB_yes ⟨by have := HL.out; have := H16.out; omega, fun j hj => hall.out j (by have := HL.out; omega)⟩).symm, hx⟩
  · go_enter Try.func13, Try.ntmps13
    go_wp2_with (go_at_call 36; refine (within_c _ _ _ _).mono ?_; rintro e w' ⟨rfl, rfl⟩)
    go_ret
    exact ⟨ret_bool (gatB_no (fun e => by have := inB_not h16; have := HL.out; have := e.1; omega)).symm, Ext.refl _⟩
theorem sGatesOk_c (A : Option Addr) (n c : Nat) (es : List Gate) (w : World) (h : Holds w 2 A n c (Gate.all es)) :
    Calls Try.prog 11 #[.slice A n c] w (Ans (.bool (gatB es)) w) := by
  have hmx : n ≤ 9223372036854775807 := by have := h.2.1; have := h.2.2.1; unfold maxLen at this; omega
  have HL := Lib.hid (Gate.len h)
  go_enter Try.func11, Try.ntmps11
  go_wp2
  go_loopw [3] (fun i wr => ∃ k : Nat, k ≤ n ∧ i = .int .i64 k ∧ Hid (∀ j, j < k → inB (Gate.at_ es j).f1 0 999 = true) ∧ Ext w wr) (fun i _ => n - (intOf i).toNat)
  case atStart => exact ⟨0, Nat.zero_le _, rfl, fun j hj => by omega, Ext.refl _⟩
  case round =>
    obtain ⟨k, hk, rfl, hall, hx⟩ := hrel
    by_cases hlt : k < n
    · obtain ⟨b, off, rfl, hb, hc⟩ := Gate.where_ h (by omega)
      obtain ⟨d0, d1⟩ := hc k hlt
      replace d0 := hx.got d0
      replace d1 := hx.got d1
      clear hc h
      by_cases t : inB (Gate.at_ es k).f1 0 999 = true
      · go_wp2_with (go_at_call 34; refine (l01In_c _ _ _ _).mono ?_; rintro e w' ⟨rfl, rfl⟩)
        go_roundw
        case rel => exact ⟨k + 1, by omega, by go_num, fun j hj => by
          rcases Nat.lt_succ_iff_lt_or_eq.1 hj with hj | rfl
          · exact hall.out j hj
          · exact t, hx⟩
        case measure => simp [intOf]; omega
      · go_wp2_with (go_at_call 34; refine (l01In_c _ _ _ _).mono ?_; rintro e w' ⟨rfl, rfl⟩)
        go_ret
        exact ⟨ret_bool (gatB_no (fun e => t (e.2 k (by rw [HL.out]; exact hlt)))).symm, hx⟩
    · have H : inB (n : Int) 1 16 = gatB es := by
        by_cases h16 : inB (n : Int) 1 16 = true
        · rw [h16, gatB_yes ⟨by have := HL.out; have := inB_yes h16; omega, fun j hj => hall.out j (by have := HL.out; omega)⟩]
        · rw [gatB_no (fun e => by have := inB_not h16; have := HL.out; have := e.1; omega)]
          simpa using h16
      go_wp2_with (go_at_call 34; refine (l01In_c _ _ _ _).mono ?_; rintro e w' ⟨rfl, rfl⟩)
      go_ret
      exact ⟨rfl, hx⟩
end Go.Proofs.Ytbbhchdpaocljaa
