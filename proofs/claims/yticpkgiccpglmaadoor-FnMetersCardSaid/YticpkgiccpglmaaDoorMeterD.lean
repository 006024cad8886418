/-
  The contract of OutlierAt of the program.
-/
import Derived.Test.YticpkgiccpglmaaDoorMeterC
import Derived.Test.YticpkgiccpglmaaDoorSortC
namespace Go.Proofs.YticpkgiccpglmaaDoor
open Go.RowKit

/-- the middle of the amounts, and the first amount that is more than three times it -/
def medF (u : List Int) : Int := nth (sortI u) (u.length / 2)
def bigAt (u : List Int) (k : Nat) : Prop := k < u.length ∧ 3 * medF u < nth u k ∧ ∀ j, j < k → ¬ 3 * medF u < nth u j
open Classical in
noncomputable def outU (u : List Int) : Int := if h : ∃ k, bigAt u k then ((Classical.choose h : Nat) : Int) + 1 else -1
theorem outU_yes {u : List Int} {k : Nat} (hk : bigAt u k) : outU u = (k : Int) + 1 := by
  have h : ∃ k, bigAt u k := ⟨k, hk⟩
  unfold outU
  rw [dif_pos h]
  have hc := Classical.choose_spec h
  have : Classical.choose h = k := by
    rcases Nat.lt_trichotomy (Classical.choose h) k with hlt | heq | hgt
    · exact absurd hc.2.1 (hk.2.2 _ hlt)
    · exact heq
    · exact absurd hk.2.1 (hc.2.2 _ hgt)
  rw [this]
theorem outU_no {u : List Int} (h : ∀ j, j < u.length → ¬ 3 * medF u < nth u j) : outU u = -1 := by
  unfold outU
  rw [dif_neg]
  rintro ⟨k, hk, h1, _⟩
  exact h k hk h1
/-- what OutlierAt answers -/
noncomputable def outF (zs : List Int) : Int := outU (usesF zs)
theorem sortI_bd {u : List Int} {lo hi : Int} (h : ∀ i, i < u.length → lo ≤ nth u i ∧ nth u i ≤ hi) (i : Nat) (hi' : i < u.length) : lo ≤ nth (sortI u) i ∧ nth (sortI u) i ≤ hi := by
  have hl : i < (sortI u).length := by rw [sortI_len]; exact hi'
  have hm : (sortI u)[i] ∈ u := (List.mergeSort_perm u _).subset (List.getElem_mem hl)
  obtain ⟨j, hj, e⟩ := List.getElem_of_mem hm
  have := h j hj
  have e1 : nth (sortI u) i = nth u j := by simp [nth, hl, hj, e]
  rw [e1]
  exact this
theorem copyInts_c (A : Option Addr) (n c : Nat) (zs : List Int) (w : World) (h : Holds w 1 A n c (ints zs)) (hn : n ≤ 1048576) :
    Calls Tryd.prog 24 #[.slice A n c] w (Fresh 3 1 n (ints zs) w) := by
  have h1 : ∀ u ∈ ints zs, u.oneCell' = true := by
    intro u hu
    obtain ⟨z, _, rfl⟩ := List.mem_map.1 hu
    rfl
  go_enter Tryd.func24, Tryd.ntmps24
  go_wp2_with (at_builtin; refine wpList_cat w (Ext.refl _) rfl _ _ _ rfl 3 (.int .i64 0) 1 8 intInfo Tryd.underlying26 rfl (by omega) none 0 0 [] rfl (Own.nil_ _ _ _ _) _ _ _ _ rfl h h1 (by omega) (by omega) ?_; intro A2 c2 w2 ho2 hx2; simp only [Nat.zero_add, List.nil_append] at ho2)
  go_ret
  exact ⟨A2, c2, rfl, ho2, hx2⟩
set_option maxHeartbeats 1600000 in
theorem out_c (A : Option Addr) (n c : Nat) (zs : List Int) (w : World) (h : Holds w 1 A n c (ints zs)) :
    Calls Tryd.prog 14 #[.slice A n c] w (Ans (.int .i64 (outF zs)) w) := by
  obtain ⟨m, hm⟩ : ∃ m, m = (usesF zs).length := ⟨_, rfl⟩
  have Hm := Lib.hid hm
  have hl : m ≤ 59 := by rw [hm]; exact usesF_len zs
  by_cases h0 : m = 0
  · have H := Lib.hid (show outF zs = -1 from outU_no (fun j hj => absurd hj (by omega)))
    have hz : usesF zs = [] := List.eq_nil_of_length_eq_zero (by omega)
    clear hm h0
    go_enter Tryd.func14, Tryd.ntmps14
    go_wp2_with (go_at_call 22; refine (uses_c _ _ _ zs _ h).mono ?_; rintro e w1 ⟨A1, c1, rfl, o1, x1⟩; rw [hz] at o1 ⊢)
    go_ret
    exact ⟨ret_int H.out.symm, x1⟩
  · have hbd := sortI_bd (u := usesF zs) (lo := -1) (hi := 99999) (fun i hi => by rw [usesF_nth zs i hi]; exact useN_bd zs i) (m / 2) (by omega)
    have hub := Lib.hid (fun i (hi : i < m) => by have := useN_bd zs i; rw [← usesF_nth zs i (by omega)] at this; exact this)
    have HMD := Lib.hid (show medF (usesF zs) = nth (sortI (usesF zs)) (m / 2) from by rw [medF, hm])
    have hpos : 0 < m := by omega
    have z1 : ((m : Int) == 0) = false := by simp; omega
    clear hm h0
    have d1 : (0 : Int) ≤ (m : Int) / 2 := by omega
    have d2 : (m : Int) / 2 < (m : Int) := by omega
    have d3 : ((m : Int) / 2).toNat = m / 2 := by omega
    have d4 : Int.tdiv (m : Int) 2 = (m : Int) / 2 := Int.tdiv_eq_ediv_of_nonneg (by omega)
    have d5 : m / 2 < m := by omega
    obtain ⟨md, hmd⟩ : ∃ x, x = nth (sortI (usesF zs)) (m / 2) := ⟨_, rfl⟩
    rw [← hmd] at hbd
    have HMD2 := Lib.hid hmd
    clear hmd
    go_enter Tryd.func14, Tryd.ntmps14
    go_wp2_with (first | (go_at_call 22; refine (uses_c _ _ _ zs _ h).mono ?_; rintro e w1 ⟨A1, c1, rfl, o1, x1⟩; rw [← Hm.out] at o1 ⊢) | (go_at_call 24; refine (copyInts_c _ _ _ (usesF zs) _ o1.holds (by omega)).mono ?_; rintro e w2 ⟨A2, c2, rfl, o2, x2⟩))
    refine (sort_c _ _ _ _ (usesF zs) _ o2 hpos (by omega)).mono ?_; rintro e w3 ⟨rfl, o3, g3⟩
    have x3 : Ext w1 w3 := Own.ext_grown x2 o2 (Nat.le_refl _) g3
    have ou := o1.ext x3
    obtain ⟨g, hA2, hg1, hg2⟩ := o3.form hpos
    subst hA2
    have qm := (World.ownsRow.cellAt o3 (m / 2) (by omega)).trans (ints_get (sortI (usesF zs)) (m / 2) (by rw [sortI_len, ← Hm.out]; omega))
    rw [← HMD2.out] at qm
    obtain ⟨bb, off, hA1, hb, hc⟩ := ou.holds.int hpos
    subst hA1
    have HC := Lib.hid hc
    clear hc o1 o2 o3 ou g3
    go_wp2
    go_loopw [22] (fun i wr => ∃ k : Nat, k ≤ m ∧ i = .int .i64 k ∧ Hid (∀ j, j < k → ¬ 3 * medF (usesF zs) < nth (usesF zs) j) ∧ wr = w3) (fun i _ => m - (intOf i).toNat)
    case atStart => exact ⟨0, Nat.zero_le _, rfl, fun j hj => by omega, rfl⟩
    case round =>
      obtain ⟨k, hk, rfl, hall, rfl⟩ := hrel
      by_cases hlt : k < m
      · have q := HC.out k hlt
        have qb := hub.out k hlt
        have qb2 : -1 ≤ nth (usesF zs) k ∧ nth (usesF zs) k ≤ 99999 := by rw [usesF_nth zs k (by rw [← Hm.out]; exact hlt)]; exact useN_bd zs k
        cases t : decide (3 * md < nth (usesF zs) k)
        · have T := Lib.hid (of_decide_eq_false t)
          go_wp2
          go_roundw
          case rel => exact ⟨k + 1, by omega, by go_num, (show ∀ j, j < k + 1 → ¬ 3 * medF (usesF zs) < nth (usesF zs) j from fun j hj => by
            rcases Nat.lt_succ_iff_lt_or_eq.1 hj with hj | rfl
            · exact hall.out j hj
            · rw [HMD.out, ← HMD2.out]; exact T.out), by first | trivial | rfl⟩
          case measure => simp [intOf]; omega
        · have T := Lib.hid (of_decide_eq_true t)
          have H := Lib.hid (show outF zs = (k : Int) + 1 from outU_yes ⟨by rw [← Hm.out]; exact hlt, by rw [HMD.out, ← HMD2.out]; exact T.out, hall.out⟩)
          go_wp2
          go_ret
          exact ⟨ret_int H.out.symm, x1.trans x3⟩
      · obtain rfl : k = m := by omega
        have H := Lib.hid (show outF zs = -1 from outU_no (fun j hj => hall.out j (by rw [← Hm.out] at hj; exact hj)))
        go_wp2
        go_ret
        exact ⟨ret_int H.out.symm, x1.trans x3⟩
end Go.Proofs.YticpkgiccpglmaaDoor
