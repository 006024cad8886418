/-
  The contracts of the functions that guess a hole from levels; and the plain law that the program's test and the reference's answer alike.
-/
import Derived.Test.YtdaokpfomoiboaaLeakA
namespace Go.Proofs.Ytdaokpfomoiboaa
open Go.RowKit

/-- one step down by a rate to a hole -/
def stepE (a b rate hole : Int) : Prop := b = a - max 0 (min rate (a - hole))
instance (a b rate hole : Int) : Decidable (stepE a b rate hole) := by unfold stepE; infer_instance
/-- the levels fall by the rate down to the hole -/
def explP (zs : List Int) (rate hole : Int) : Prop := ∀ k, k + 1 < zs.length → stepE (nth zs k) (nth zs (k + 1)) rate hole
/-- the program's form of it -/
def explM (zs : List Int) (rate hole : Int) : Prop := ∀ k, k + 1 < zs.length → nth zs (k + 1) = max (nth zs k - rate) hole
open Classical in
noncomputable def explB (zs : List Int) (rate hole : Int) : Bool := decide (explP zs rate hole)
theorem explB_yes {zs : List Int} {rate hole : Int} (h : explP zs rate hole) : explB zs rate hole = true := by simp [explB, h]
theorem explB_no {zs : List Int} {rate hole : Int} (h : ¬ explP zs rate hole) : explB zs rate hole = false := by simp [explB, h]

theorem below_stays {zs : List Int} {rate hole : Int} (h : explP zs rate hole) (k : Nat) (hk : nth zs k ≤ hole) (hr : 0 ≤ rate) : ∀ d, k + d < zs.length → nth zs (k + d) = nth zs k := by
  intro d
  induction d with
  | zero => intro _; rfl
  | succ d ih =>
    intro hd
    have h1 := ih (by omega)
    have h2 := h (k + d) (by omega)
    unfold stepE at h2
    rw [h1] at h2
    rw [show k + (d + 1) = k + d + 1 by omega]
    omega
/-- with a rate not below 0 both forms say the same of levels that end twice alike -/
theorem expl_iff {zs : List Int} (n : Nat) (hn : zs.length = n) (h3 : 3 ≤ n) (hlast : nth zs (n - 1) = nth zs (n - 2)) :
    (explM zs (nth zs 0 - nth zs 1) (nth zs (n - 1))) ↔ (nth zs 1 ≤ nth zs 0 ∧ explP zs (nth zs 0 - nth zs 1) (nth zs (n - 1))) := by
  constructor
  · intro h
    have hl := h (n - 2) (by omega)
    rw [show n - 2 + 1 = n - 1 by omega] at hl
    have hr : nth zs 1 ≤ nth zs 0 := by omega
    have hge : ∀ k, k < n → nth zs (n - 1) ≤ nth zs k := by
      intro k hk
      cases k with
      | zero => have := h 0 (by omega); simp only [Nat.zero_add] at this; omega
      | succ k => have := h k (by omega); omega
    refine ⟨hr, fun k hk => ?_⟩
    have h1 := h k hk
    have h2 := hge k (by omega)
    unfold stepE
    omega
  · rintro ⟨hr, h⟩ k hk
    have hge : nth zs (n - 1) ≤ nth zs k := by
      rcases Int.lt_or_le (nth zs k) (nth zs (n - 1)) with hlt | hle
      · have := below_stays h k (by omega) (by omega) (n - 1 - k) (by omega)
        rw [show k + (n - 1 - k) = n - 1 by omega] at this
        omega
      · exact hle
    have h1 := h k hk
    unfold stepE at h1
    omega

/-- what can be guessed -/
def levB (zs : List Int) (least : Nat) : Bool := decide (least ≤ zs.length ∧ zs.length ≤ 100) && allB zs 0 100000
open Classical in
noncomputable def guessB (zs : List Int) : Bool := decide (levB zs 3 = true ∧ nth zs (zs.length - 1) = nth zs (zs.length - 2) ∧ explM zs (nth zs 0 - nth zs 1) (nth zs (zs.length - 1)))
noncomputable def guessHole (zs : List Int) : Int := if guessB zs = true then nth zs (zs.length - 1) else 0
noncomputable def guessRate (zs : List Int) : Int := if guessB zs = true then nth zs 0 - nth zs 1 else 0
theorem allP_iff (zs : List Int) (lo hi : Int) : allB zs lo hi = true ↔ ∀ j, j < zs.length → lo ≤ nth zs j ∧ nth zs j ≤ hi :=
  ⟨fun h j hj => allB_at h hj, fun h => allB_yes fun j hj => inB_mk (h j hj)⟩

theorem l17Levels_c (A : Option Addr) (n c : Nat) (zs : List Int) (least : Nat) (w : World) (h : Holds w 1 A n c (ints zs)) (hl : (least : Int) ≤ 100) (m : Int) (hm : m = least) :
    Calls Try.prog 31 #[.slice A n c, .int .i64 m] w fun e w' => e = .returned (.bool (levB zs least)) ∧ w = w' := by
  subst hm
  have hmx : n ≤ 9223372036854775807 := by have := h.2.1; have := h.2.2.1; unfold maxLen at this; omega
  have HL := Lib.hid h.intlen
  go_enter Try.func31, Try.ntmps31
  go_wp2
  go_loop [5] (fun i => ∃ k : Nat, k ≤ n ∧ i = .int .i64 k ∧ Hid (∀ j, j < k → inB (nth zs j) 0 100000 = true)) (fun i => n - (intOf i).toNat)
  case atStart => exact ⟨0, Nat.zero_le _, rfl, fun j hj => by omega⟩
  case round =>
    obtain ⟨k, hk, rfl, hall⟩ := hrel
    by_cases hlt : k < n
    · obtain ⟨b, off, rfl, hb, hc⟩ := h.int (by omega)
      have hck := hc k hlt
      clear hc h
      by_cases ht : inB (nth zs k) 0 100000 = true
      · go_wp2_with (go_at_call 29; refine (l01In_c _ _ _ _).mono ?_; rintro e w' ⟨rfl, rfl⟩)
        go_round
        case rel => exact ⟨k + 1, by omega, by go_num, fun j hj => by
          rcases Nat.lt_succ_iff_lt_or_eq.1 hj with hj | rfl
          · exact hall.out j hj
          · exact ht⟩
        case measure => simp [intOf]; omega
      · go_wp2_with (go_at_call 29; refine (l01In_c _ _ _ _).mono ?_; rintro e w' ⟨rfl, rfl⟩)
        go_ret
        exact ⟨ret_bool (by rw [levB, allB_no (by rw [HL.out]; exact hlt) ht, Bool.and_false]), rfl⟩
    · go_wp2_with (go_at_call 29; refine (l01In_c _ _ _ _).mono ?_; rintro e w' ⟨rfl, rfl⟩)
      go_ret
      refine ⟨ret_bool ?_, rfl⟩
      rw [levB, allB_yes (fun j hj => hall.out j (by have := HL.out; omega)), Bool.and_true, HL.out, inB]
      exact decide_eq_decide.2 (by omega)

theorem l17Explains_c (A : Option Addr) (n c : Nat) (zs : List Int) (rate hole : Int) (w : World) (h : Holds w 1 A n c (ints zs)) (hz : allB zs 0 100000 = true) (hr : -100000 ≤ rate ∧ rate ≤ 100000) (hh : 0 ≤ hole ∧ hole ≤ 100000) :
    Calls Try.prog 32 #[.slice A n c, .int .i64 rate, .int .i64 hole] w (Ans (.bool (explB zs rate hole)) w) := by
  have hmx : n ≤ 9223372036854775807 := by have := h.2.1; have := h.2.2.1; unfold maxLen at this; omega
  have HL := Lib.hid h.intlen
  have HZ := Lib.hid hz
  clear hz
  go_enter Try.func32, Try.ntmps32
  go_wp2
  go_loopw [7] (fun i wr => ∃ k : Nat, (k + 1 ≤ n ∨ k = 0) ∧ i = .int .i64 ((k : Int) + 1) ∧ Hid (∀ j, j < k → stepE (nth zs j) (nth zs (j + 1)) rate hole) ∧ Ext w wr) (fun i _ => n - (intOf i).toNat)
  case atStart => exact ⟨0, .inr rfl, rfl, fun j hj => by omega, Ext.refl _⟩
  case round =>
    obtain ⟨k, hk2, rfl, hall, hx⟩ := hrel
    by_cases hlt : k + 1 < n
    · obtain ⟨b, off, rfl, hb, hc⟩ := h.int (by omega)
      have hca := hx.got (hc k (by omega))
      have hcb := hx.got (hc (k + 1) hlt)
      have ⟨za1, za2⟩ := allB_at HZ.out (show k < zs.length by rw [HL.out]; omega)
      have ⟨zb1, zb2⟩ := allB_at HZ.out (show k + 1 < zs.length by rw [HL.out]; omega)
      have i0 : (0 : Int) ≤ (k : Int) := by omega
      have i1 : (k : Int) + 1 < (n : Int) := by omega
      have i2 : (k : Int) < (n : Int) := by omega
      clear hc h hk2
      by_cases ht : nth zs (k + 1) = nth zs k - max 0 (min rate (nth zs k - hole))
      · have ht' : (nth zs (k + 1) != nth zs k - max 0 (min rate (nth zs k - hole))) = false := by simpa using ht
        have Ht := Lib.hid ht
        clear ht
        go_wp2_with fail
        go_quiet (fail)
        go_wp2
        go_roundw
        case rel => exact ⟨k + 1, .inl (by omega), by go_num, fun j hj => by
          rcases Nat.lt_succ_iff_lt_or_eq.1 hj with hj | rfl
          · exact hall.out j hj
          · exact Ht.out, hx.drewN _⟩
        case measure => simp [intOf]; omega
      · have ht' : (nth zs (k + 1) != nth zs k - max 0 (min rate (nth zs k - hole))) = true := by simpa using ht
        have Ht := Lib.hid ht
        clear ht
        go_wp2_with fail
        go_quiet (fail)
        go_wp2
        go_ret
        exact ⟨ret_bool (explB_no (fun e => Ht.out (e k (by rw [HL.out]; exact hlt)))).symm, hx.drewN _⟩
    · go_wp2
      go_ret
      refine ⟨ret_bool (explB_yes (fun j hj => hall.out j ?_)).symm, hx⟩
      have := HL.out
      omega
end Go.Proofs.Ytdaokpfomoiboaa
