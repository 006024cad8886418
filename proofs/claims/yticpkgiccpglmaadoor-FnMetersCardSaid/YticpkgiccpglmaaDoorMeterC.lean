/-
  The contracts of UsedInAll, StandStill and TurnedOver, of the program and of the reference.
-/
import Derived.Test.YticpkgiccpglmaaDoorMeterB
namespace Go.Proofs.YticpkgiccpglmaaDoor
open Go.RowKit

/-- f 0 + .. + f (k - 1) -/
def sumG (f : Nat → Int) : Nat → Int
  | 0 => 0
  | k + 1 => sumG f k + f k
theorem sumG_bd {f : Nat → Int} {n : Nat} (h : ∀ i, i < n → -1000000 ≤ f i ∧ f i ≤ 1000000) (k : Nat) (hk : k ≤ n) : -(k * 1000000) ≤ sumG f k ∧ sumG f k ≤ k * 1000000 := by
  induction k with
  | zero => simp [sumG]
  | succ k ih =>
    have h1 := ih (by omega)
    have h2 := h k (by omega)
    simp only [sumG]
    omega
theorem sumG_congr {f g : Nat → Int} {n : Nat} (h : ∀ i, i < n → f i = g i) : sumG f n = sumG g n := by
  induction n with
  | zero => rfl
  | succ n ih => rw [sumG, sumG, ih (fun i hi => h i (by omega)), h n (by omega)]
theorem sumG_nonneg {f : Nat → Int} {n : Nat} (h : ∀ i, i < n → 0 ≤ f i) : 0 ≤ sumG f n := by
  induction n with
  | zero => simp [sumG]
  | succ n ih =>
    have := ih (fun i hi => h i (by omega))
    have := h n (by omega)
    rw [sumG]
    omega
theorem sumOf_c (A : Option Addr) (n c : Nat) (zs : List Int) (w : World) (h : Holds w 1 A n c (ints zs)) (hb : ∀ i, i < n → -1000000 ≤ nth zs i ∧ nth zs i ≤ 1000000) (hn : n ≤ 1000000) :
    Calls Tryd.prog 23 #[.slice A n c] w fun e w' => e = .returned (.int .i64 (sumG (nth zs) n)) ∧ w = w' := by
  have HB := Lib.hid hb
  clear hb
  go_enter Tryd.func23, Tryd.ntmps23
  go_wp2
  go_loop [3, 8] (fun v i => ∃ k : Nat, k ≤ n ∧ i = .int .i64 k ∧ v = .int .i64 (sumG (nth zs) k)) (fun _ i => n - (intOf i).toNat)
  case atStart => exact ⟨0, Nat.zero_le _, rfl, rfl⟩
  case round =>
    obtain ⟨k, hk, rfl, rfl⟩ := hrel
    by_cases hlt : k < n
    · obtain ⟨b, off, rfl, hb, hc⟩ := h.int (by omega)
      have hck := hc k hlt
      have q1 := HB.out k hlt
      have q2 := sumG_bd HB.out k hk
      clear hc h
      go_wp2
      go_round
      case rel => exact ⟨k + 1, by omega, by go_num, rfl⟩
      case measure => simp [intOf]; omega
    · obtain rfl : k = n := by omega
      go_wp2
      go_ret
      exact ⟨rfl, rfl⟩
/-- what UsedInAll answers -/
def allF (zs : List Int) : Int := if medB zs = true then sumG (useN zs) (zs.length - 1) else -1
theorem usesF_sum {zs : List Int} (h : medB zs = true) : sumG (nth (usesF zs)) (usesF zs).length = allF zs := by
  rw [allF, if_pos h]
  have hl : (usesF zs).length = zs.length - 1 := by rw [usesF, if_pos h, usesL_len]
  rw [hl]
  exact sumG_congr fun i hi => usesF_nth zs i (by omega)
theorem usesF_bd (zs : List Int) : ∀ i, i < (usesF zs).length → -1000000 ≤ nth (usesF zs) i ∧ nth (usesF zs) i ≤ 1000000 := fun i hi => by
  rw [usesF_nth zs i hi]
  have := useN_bd zs i
  omega
theorem useN_nonneg {zs : List Int} (h : medB zs = true) {i : Nat} (hi : i + 1 < zs.length) : 0 ≤ useN zs i := by
  have h1 := (medB_at h).2 i (by omega)
  have h2 := (medB_at h).2 (i + 1) hi
  rw [useN, usedF_ok h1 h2]
  have := inB_yes h1
  have := inB_yes h2
  split <;> omega
theorem allF_sign (zs : List Int) : (medB zs = true ∧ 0 ≤ allF zs) ∨ (medB zs = false ∧ allF zs = -1) := by
  cases h : medB zs
  · exact .inr ⟨rfl, if_neg (by simp [h])⟩
  · left
    refine ⟨rfl, ?_⟩
    rw [allF, if_pos h]
    exact sumG_nonneg fun i hi => useN_nonneg h (by omega)
theorem used_all_c (A : Option Addr) (n c : Nat) (zs : List Int) (w : World) (h : Holds w 1 A n c (ints zs)) :
    Calls Tryd.prog 9 #[.slice A n c] w (Ans (.int .i64 (allF zs)) w) := by
  cases hm : medB zs
  · have H := Lib.hid (show allF zs = -1 from if_neg (by simp [hm]))
    go_enter Tryd.func9, Tryd.ntmps9
    go_wp2_with (go_at_call 22; refine (uses_c _ _ _ zs _ h).mono ?_; rintro e w1 ⟨A1, c1, rfl, o1, x1⟩)
    go_ret
    exact ⟨ret_int H.out.symm, x1⟩
  · have H := Lib.hid (usesF_sum hm)
    have hl := usesF_len zs
    go_enter Tryd.func9, Tryd.ntmps9
    go_wp2_with (first | (go_at_call 22; refine (uses_c _ _ _ zs _ h).mono ?_; rintro e w1 ⟨A1, c1, rfl, o1, x1⟩) | (go_at_call 23; refine (sumOf_c _ _ _ (usesF zs) _ o1.holds (usesF_bd zs) (by omega)).mono ?_; rintro e w' ⟨rfl, rfl⟩))
    go_ret
    exact ⟨ret_int H.out, x1⟩
/-- 1 + each number below k that q lets by -/
def filtSucc (q : Nat → Bool) : Nat → List Int
  | 0 => []
  | k + 1 => if q k = true then filtSucc q k ++ [(k : Int) + 1] else filtSucc q k
theorem filtSucc_len (q : Nat → Bool) (k : Nat) : (filtSucc q k).length ≤ k := by
  induction k with
  | zero => simp [filtSucc]
  | succ k ih => rw [filtSucc]; split <;> (try simp only [List.length_append, List.length_cons, List.length_nil]) <;> omega
theorem filtSucc_yes {q : Nat → Bool} {k : Nat} (h : q k = true) : filtSucc q (k + 1) = filtSucc q k ++ [(k : Int) + 1] := if_pos h
theorem filtSucc_no {q : Nat → Bool} {k : Nat} (h : q k = false) : filtSucc q (k + 1) = filtSucc q k := if_neg (by simp [h])
def stillQ (zs : List Int) (i : Nat) : Bool := nth (usesF zs) i == 0
/-- what StandStill answers -/
def standF (zs : List Int) : List Int := filtSucc (stillQ zs) (usesF zs).length
theorem standF_len (zs : List Int) : (standF zs).length ≤ 200000000 := by
  have := filtSucc_len (stillQ zs) (usesF zs).length
  have := usesF_len zs
  unfold standF
  omega
set_option maxHeartbeats 800000 in
theorem stand_c (A : Option Addr) (n c : Nat) (zs : List Int) (w : World) (h : Holds w 1 A n c (ints zs)) :
    Calls Tryd.prog 11 #[.slice A n c] w (Fresh 3 1 (standF zs).length (ints (standF zs)) w) := by
  obtain ⟨m, hm⟩ : ∃ m, m = (usesF zs).length := ⟨_, rfl⟩
  have Hm := Lib.hid hm
  have hl : m ≤ 59 := by rw [hm]; exact usesF_len zs
  clear hm
  go_enter Tryd.func11, Tryd.ntmps11
  go_wp2_with (go_at_call 22; refine (uses_c _ _ _ zs _ h).mono ?_; rintro e w1 ⟨A1, c1, rfl, o1, x1⟩; rw [← Hm.out] at o1 ⊢)
  go_loopw [5, 15] (fun v i wr => ∃ (k : Nat) (A' : Option Addr) (c' : Nat), k ≤ m ∧ i = .int .i64 k ∧ v = .slice A' (filtSucc (stillQ zs) k).length c' ∧ Own wr w1.heap.size 3 1 A' (filtSucc (stillQ zs) k).length c' (ints (filtSucc (stillQ zs) k)) ∧ Ext w1 wr) (fun _ i _ => m - (intOf i).toNat)
  case atStart => exact ⟨0, none, 0, Nat.zero_le _, rfl, rfl, Own.nil_ _ _ _ _, Ext.refl _⟩
  case round =>
    obtain ⟨k, A', c', hk, rfl, rfl, ho, hx⟩ := hrel
    by_cases hlt : k < m
    · obtain ⟨b, off, rfl, hb, hc⟩ := o1.holds.int (by omega)
      have d0 := hx.got (hc k hlt)
      have hq := filtSucc_len (stillQ zs) k
      clear hc o1
      cases t : stillQ zs k
      · have t' : (nth (usesF zs) k == 0) = false := t
        go_wp2
        go_roundw
        case rel => exact ⟨k + 1, A', c', by omega, by go_num, by rw [filtSucc_no t], by rw [filtSucc_no t]; exact ho, hx⟩
        case measure => simp [intOf]; omega
      · have t' : (nth (usesF zs) k == 0) = true := t
        go_wp2_with (at_builtin; refine wpList_push w1 (by (repeat (first | exact Ext.refl _ | assumption | refine Ext.alloc ?_ _ | refine Ext.drew ?_ | refine Ext.drewN ?_ _ | refine Ext.setCell ?_ (by (try simp only [World.size_alloc, World.size_setCell, World.size_drew, World.heap_drewN]); omega) _ | refine Ext.step (by assumption) ?_))) rfl _ _ _ rfl 3 (.int .i64 0) 1 8 intInfo Tryd.underlying26 rfl (by omega) _ _ _ _ rfl (Own.ext ho (by (repeat (first | exact Ext.refl _ | assumption | refine Ext.alloc ?_ _ | refine Ext.drew ?_ | refine Ext.drewN ?_ _ | refine Ext.setCell ?_ (by (try simp only [World.size_alloc, World.size_setCell, World.size_drew, World.heap_drewN]); omega) _ | refine Ext.step (by assumption) ?_)))) _ _ _ rfl (by exact heap_last (by first | rfl | simp)) rfl (by simp [Value.oneCell']) (by omega) (by omega) ?_; intro A2 c2 w2 ho2 hx2)
        have e1 : filtSucc (stillQ zs) (k + 1) = _ := filtSucc_yes t
        have l1 : (filtSucc (stillQ zs) (k + 1)).length = (filtSucc (stillQ zs) k).length + 1 := by rw [e1]; simp
        have HO := Lib.hid ho2
        clear ho2 ho
        go_wp2
        go_roundw
        case rel => exact ⟨k + 1, A2, c2, by omega, by go_num, by rw [l1], by rw [l1, e1, ← ints_snoc]; exact HO.out, hx2⟩
        case measure => simp [intOf]; omega
    · obtain rfl : k = m := by omega
      go_wp2
      go_ret
      rw [standF, ← Hm.out]
      exact ⟨_, _, rfl, ho.mono x1.len, x1.trans hx⟩
/-- how often a reading is below the one before -/
def cntQ (q : Nat → Bool) : Nat → Int
  | 0 => 0
  | k + 1 => if q k = true then cntQ q k + 1 else cntQ q k
theorem cntQ_bd (q : Nat → Bool) (k : Nat) : 0 ≤ cntQ q k ∧ cntQ q k ≤ k := by
  induction k with
  | zero => simp [cntQ]
  | succ k ih => rw [cntQ]; split <;> omega
theorem cntQ_yes {q : Nat → Bool} {k : Nat} (h : q k = true) : cntQ q (k + 1) = cntQ q k + 1 := if_pos h
theorem cntQ_no {q : Nat → Bool} {k : Nat} (h : q k = false) : cntQ q (k + 1) = cntQ q k := if_neg (by simp [h])
def overQ (zs : List Int) (i : Nat) : Bool := decide (nth zs (i + 1) < nth zs i)
/-- what TurnedOver answers -/
def turnF (zs : List Int) : Int := if medB zs = true then cntQ (overQ zs) (zs.length - 1) else -1
set_option maxHeartbeats 800000 in
theorem turned_c (A : Option Addr) (n c : Nat) (zs : List Int) (w : World) (h : Holds w 1 A n c (ints zs)) (hn : n ≤ 1048576) :
    Calls Tryd.prog 10 #[.slice A n c] w (Ans (.int .i64 (turnF zs)) w) := by
  have HL := Lib.hid h.intlen
  cases hok : medB zs
  · have H := Lib.hid (show turnF zs = -1 from if_neg (by simp [hok]))
    obtain ⟨hs, _⟩ | ⟨_, hs⟩ := allF_sign zs
    · rw [hs] at hok; cases hok
    have hs2 : allF zs < 0 := by omega
    clear hs
    go_enter Tryd.func10, Tryd.ntmps10
    go_wp2_with (go_at_call 9; refine (used_all_c _ _ _ zs _ h).mono ?_; rintro e w1 ⟨rfl, x1⟩)
    go_ret
    exact ⟨ret_int H.out.symm, x1⟩
  · have H := Lib.hid (show turnF zs = cntQ (overQ zs) (n - 1) from by rw [turnF, if_pos hok, HL.out])
    have n1 : 1 ≤ n := by have := (medB_at hok).1; have := HL.out; omega
    obtain ⟨_, hs⟩ | ⟨hs, _⟩ := allF_sign zs
    rotate_left
    · rw [hs] at hok; cases hok
    obtain ⟨b, off, hA, hb, hc⟩ := h.int n1
    subst hA
    have HC := Lib.hid hc
    clear hc
    go_enter Tryd.func10, Tryd.ntmps10
    go_wp2_with (go_at_call 9; refine (used_all_c _ _ _ zs _ h).mono ?_; rintro e w1 ⟨rfl, x1⟩)
    clear h
    go_loopw [3, 4] (fun v i wr => ∃ (k : Nat), (1 ≤ k ∧ k ≤ n) ∧ i = .int .i64 (k : Int) ∧ v = .int .i64 (cntQ (overQ zs) (k - 1)) ∧ Ext w wr) (fun _ i _ => n - (intOf i).toNat)
    case atStart => exact ⟨1, by omega, rfl, rfl, x1⟩
    case round =>
      obtain ⟨k, ⟨hk1, hk⟩, rfl, rfl, hx⟩ := hrel
      by_cases hlt : k < n
      · have q0 := After.got (w := wr) (hx.got (HC.out (k - 1) (by omega)))
        have q1 := After.got (w := wr) (hx.got (HC.out k hlt))
        have k0 : (0 : Int) ≤ (k : Int) := by omega
        have k1 : (k : Int) < (n : Int) := by omega
        have km : (0 : Int) ≤ (k : Int) - 1 := by omega
        have km2 : (k : Int) - 1 < (n : Int) := by omega
        have kpos : (0 : Int) < (k : Int) := by omega
        have hq := cntQ_bd (overQ zs) (k - 1)
        have e2 : k - 1 + 1 = k := by omega
        have E2 := Lib.hid e2
        clear e2
        cases t : decide (nth zs k < nth zs (k - 1))
        · have T := Lib.hid (show overQ zs (k - 1) = false from by unfold overQ; rw [E2.out]; exact t)
          go_wp2_with fail
          (refine wp_region_after wr (Ext.refl _) (by kernel_rfl) (by kernel_rfl) ?_; (repeat (go_big_quiet_step (fail))); refine wpQuiet_nil ?_; intro _ hw'; obtain ⟨y, hw''⟩ := hw'; subst hw'')
          go_wp2
          go_roundw
          case rel => exact ⟨k + 1, by omega, by go_num, by have q := cntQ_no T.out; rw [E2.out] at q; rw [Nat.add_sub_cancel, q], hx.trans y.ext⟩
          case measure => simp [intOf]; omega
        · have T := Lib.hid (show overQ zs (k - 1) = true from by unfold overQ; rw [E2.out]; exact t)
          go_wp2_with fail
          (refine wp_region_after wr (Ext.refl _) (by kernel_rfl) (by kernel_rfl) ?_; (repeat (go_big_quiet_step (fail))); refine wpQuiet_nil ?_; intro _ hw'; obtain ⟨y, hw''⟩ := hw'; subst hw'')
          go_wp2
          go_roundw
          case rel => exact ⟨k + 1, by omega, by go_num, by have q := cntQ_yes T.out; rw [E2.out] at q; rw [Nat.add_sub_cancel, q], hx.trans y.ext⟩
          case measure => simp [intOf]; omega
      · obtain rfl : k = n := by omega
        go_wp2
        go_ret
        exact ⟨ret_int H.out.symm, hx⟩
end Go.Proofs.YticpkgiccpglmaaDoor
