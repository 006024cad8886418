/-
  The contract of slices.SortStableFunc at fewer than 20 places: the row is sorted by key and place. Conditions: those of insertion_c.
-/
import Derived.Test.YtbenbjbfmcdedaaIns
namespace Go.Proofs.Ytbenbjbfmcdedaa
open Go.RowKit

theorem stableCmp_c (base : Nat) (A : Option Addr) (n c g N : Nat) (cb : Array Value) (key : Int → Int) (ds : List Int) (w : World) (eg : ∀ args w, (callFunc g args).run Try.prog w = .ok (.enter g args) w)
    (hO : Own w base 3 1 A n c (ints ds)) (hn : n ≤ 19) (hC : CmpOk g cb key N w (Value.slice A n c).ownBlock) (hN : ∀ i, i < n → 0 ≤ nth ds i ∧ nth ds i < N) (hup : ∀ p q, p < q → q < n → nth ds p < nth ds q) :
    Calls Try.prog 54 #[.slice A n c, .int .i64 n, .func (.func g) #[] cb] w fun e w' => e = .returned (.tuple #[]) ∧ ∃ ds', Srt key ds ds' 0 n ∧ Own w' base 3 1 A n c (ints ds') ∧ w.grownBy w' (Value.slice A n c).ownBlock := by
  have CI := insertion_c base A n c g N cb key ds 0 n w eg hO (by omega) (Nat.le_refl _) (by omega) hC hN (fun p q _ h1 h2 => hup p q h1 h2)
  have HCI := Lib.hid CI
  have d0 : decide ((20 : Int) ≤ (n : Int)) = false := decide_eq_false (by omega)
  have d1 : decide ((20 : Int) < (n : Int)) = false := decide_eq_false (by omega)
  have d2 : decide (20 ≤ n) = false := decide_eq_false (by omega)
  have d3 : decide (20 < n) = false := decide_eq_false (by omega)
  clear CI hO hC hN hup
  go_enter Try.func54, Try.ntmps54
  go_wp2_with fail
  go_loopw [7, 8] (fun a b wr => a = .int .i64 0 ∧ b = .int .i64 20 ∧ wr = w) (fun _ _ _ => 0)
  case atStart => exact ⟨rfl, rfl, rfl⟩
  case round =>
    obtain ⟨rfl, rfl, rfl⟩ := hrel
    go_wp2_with fail
    refine HCI.out.mono ?_; rintro e w1 ⟨rfl, ds', hs, ho, hg⟩
    have HS := Lib.hid hs
    have HO := Lib.hid ho
    have HG := Lib.hid hg
    clear hs ho hg HCI
    go_wp2_with fail
    go_loopw [6] (fun b wr => b = .int .i64 20 ∧ wr = w1) (fun _ _ => 0)
    case atStart => exact ⟨rfl, rfl⟩
    case round =>
      obtain ⟨rfl, rfl⟩ := hrel
      go_wp2_with fail
      refine bodyPost_end (v := .tuple #[]) (by simp [results, Try.results54, go_sem]) rfl ?_
      exact ⟨rfl, ds', HS.out, HO.out, HG.out⟩
theorem stable_c (base : Nat) (A : Option Addr) (n c g N : Nat) (cb : Array Value) (key : Int → Int) (ds : List Int) (w : World) (eg : ∀ args w, (callFunc g args).run Try.prog w = .ok (.enter g args) w)
    (hO : Own w base 3 1 A n c (ints ds)) (hn : n ≤ 19) (hC : CmpOk g cb key N w (Value.slice A n c).ownBlock) (hN : ∀ i, i < n → 0 ≤ nth ds i ∧ nth ds i < N) (hup : ∀ p q, p < q → q < n → nth ds p < nth ds q) :
    Calls Try.prog 44 #[.slice A n c, .func (.func g) #[] cb] w fun e w' => e = .returned (.tuple #[]) ∧ ∃ ds', Srt key ds ds' 0 n ∧ Own w' base 3 1 A n c (ints ds') ∧ w.grownBy w' (Value.slice A n c).ownBlock := by
  have CI := stableCmp_c base A n c g N cb key ds w eg hO hn hC hN hup
  have HCI := Lib.hid CI
  clear CI hO hC hN hup
  go_enter Try.func44, Try.ntmps44
  go_wp2_with fail
  refine HCI.out.mono ?_; rintro e w1 ⟨rfl, ds', hs, ho, hg⟩
  have HS := Lib.hid hs
  have HO := Lib.hid ho
  have HG := Lib.hid hg
  clear hs ho hg HCI
  go_wp2_with fail
  refine bodyPost_end (v := .tuple #[]) (by simp [results, Try.results44, go_sem]) rfl ?_
  exact ⟨rfl, ds', HS.out, HO.out, HG.out⟩
end Go.Proofs.Ytbenbjbfmcdedaa
