/-
  Plain facts for the law FnPumps: what is paid is the least; the hours are just enough; what two kinds of pumps lift. No program in sight.
-/
import Derived.Test.YtbenbjbfmcdedaaNeed
import Derived.Test.YtbenbjbfmcdedaaPumpF
namespace Go.Proofs.Ytbenbjbfmcdedaa
open Go.RowKit

/-- of a sorted list the first ones are the least -/
theorem take_least : ∀ {t s : List Int}, List.Sublist t s → s.Pairwise (fun x y => x ≤ y) → (s.take t.length).sum ≤ t.sum := by
  intro t s h
  induction h with
  | slnil => intro _; simp
  | @cons t s x h ih =>
    intro hp
    have hp' := List.pairwise_cons.1 hp
    have h1 := ih hp'.2
    have hl := h.length_le
    cases ht : t.length with
    | zero => 
      have : t = [] := List.eq_nil_of_length_eq_zero ht
      subst this; simp
    | succ m =>
      rw [ht] at h1 hl
      rw [List.take_succ_cons, List.sum_cons]
      rw [List.take_succ_eq_append_getElem (by omega), List.sum_append] at h1
      have := hp'.1 (s[m]'(by omega)) (List.getElem_mem _)
      simp at h1
      omega
  | @cons_cons t s x h ih =>
    intro hp
    have hp' := List.pairwise_cons.1 hp
    have h1 := ih hp'.2
    rw [List.length_cons, List.take_succ_cons, List.sum_cons, List.sum_cons]
    omega
theorem least_paid {zs : List Int} {ps : List Nat} (hn : ps.Nodup) (hb : ∀ p ∈ ps, p < zs.length) : ((sortI zs).take ps.length).sum ≤ (ps.map (nth zs)).sum := by
  have hperm : ((ord zs).filter (fun k => decide (k ∈ ps))).Perm ps := by
    refine (List.perm_ext_iff_of_nodup ((ord_nodup zs).filter _) hn).2 fun k => ?_
    rw [List.mem_filter]
    simp only [decide_eq_true_eq]
    exact ⟨fun h => h.2, fun h => ⟨ord_mem.2 (hb k h), h⟩⟩
  have hs : List.Sublist (((ord zs).filter (fun k => decide (k ∈ ps))).map (nth zs)) (sortI zs) := by
    rw [← map_ord]
    exact List.Sublist.map _ List.filter_sublist
  have h1 := take_least hs (sortI_pair zs)
  rw [sum_perm (hperm.map (nth zs)), List.length_map, hperm.length_eq] at h1
  exact h1
/-- q hours in turn, from the u-th on -/
def turn (n u q : Nat) : List Nat := (List.range q).map fun k => (k + u) % n
theorem turn_nodup {n u q : Nat} (hq : q ≤ n) : (turn n u q).Nodup := by
  refine List.pairwise_map.2 (List.pairwise_lt_range.imp_of_mem fun {i j} hi hj hij e => ?_)
  rw [List.mem_range] at hi hj
  have h1 := Nat.sub_mod_eq_zero_of_mod_eq e.symm
  rw [show j + u - (i + u) = j - i by omega, Nat.mod_eq_of_lt (by omega)] at h1
  omega
theorem other_least {zs : List Int} {u q : Nat} (hq : q ≤ zs.length) (hn : 0 < zs.length) : sumL (sortI zs) q ≤ sumK (fun k => nth zs ((k + u) % zs.length)) q := by
  have h1 := least_paid (zs := zs) (turn_nodup (n := zs.length) (u := u) hq) (fun p hp => by
    obtain ⟨k, _, rfl⟩ := List.mem_map.1 hp
    exact Nat.mod_lt _ hn)
  have hl : (turn zs.length u q).length = q := by simp [turn]
  rw [hl] at h1
  have h2 : ∀ m, m ≤ q → ((turn zs.length u m).map (nth zs)).sum = sumK (fun k => nth zs ((k + u) % zs.length)) m := by
    intro m
    induction m with
    | zero => intro _; rfl
    | succ m ih =>
      intro hm
      have e : turn zs.length u (m + 1) = turn zs.length u m ++ [(m + u) % zs.length] := by simp [turn, List.range_succ]
      rw [e, List.map_append, List.sum_append, ih (by omega), sumK]
      simp
  rw [← h2 q (Nat.le_refl _)]
  exact h1
theorem sumK_bd {f : Nat → Int} {b : Int} (h : ∀ k, 0 ≤ f k ∧ f k ≤ b) : ∀ k, 0 ≤ sumK f k ∧ sumK f k ≤ k * b := by
  intro k
  induction k with
  | zero => simp [sumK]
  | succ k ih =>
    have := h k
    rw [sumK]
    have e : ((k + 1 : Nat) : Int) * b = k * b + b := by push_cast; rw [Int.add_mul, Int.one_mul]
    omega
/-- the two kinds of pumps of the law -/
def three (a b : Int) : List Pump := [⟨a, b⟩, ⟨a + 1, b⟩, ⟨a, b⟩]
theorem three_ok {a b v : Int} (ha : 1 ≤ a ∧ a ≤ 40) (hb : 1 ≤ b ∧ b ≤ 60) (hv : 0 ≤ v ∧ v ≤ 255) : pumpsB (three a b) v 3 = true := by
  simp only [pumpsB, decide_eq_true_eq]
  refine ⟨by simp [three], inB_mk (by omega), by decide, fun i hi => ?_⟩
  have hi' : i < 3 := hi
  have : i = 0 ∨ i = 1 ∨ i = 2 := by omega
  rcases this with rfl | rfl | rfl <;> simp [three, Pump.at_, pumpB] <;> omega
theorem three_all (a b : Int) : cum (three a b) 3 3 = 3 * (3 * a + 1) := by
  rw [← cum_cheap (three a b) 3 3 (by simp [three])]
  have hp : (cheapL (negL (three a b)) 3).Perm (List.range 3) := by
    refine (cheapL_perm _ 3).trans ?_
    rw [List.take_of_length_le (by rw [ord_len, negL_len]; simp [three])]
    exact ord_perm _
  rw [sum_perm (hp.map _)]
  simp [three, Pump.at_, List.range, List.range.loop]
  omega
theorem three_law {a b v : Int} (ha : 1 ≤ a ∧ a ≤ 40) (hb : 1 ≤ b ∧ b ≤ 60) (hv : 0 ≤ v ∧ v ≤ 255) :
    (¬ v ≤ 3 * (3 * a + 1) ∧ neededF (three a b) v 3 = []) ∨ ∃ m, m ≤ 3 ∧ v ≤ 3 * (3 * a + 1) ∧ v ≤ cum (three a b) 3 m ∧ neededF (three a b) v 3 = placesI (cheapL (negL (three a b)) m) := by
  have hok := three_ok ha hb hv
  have h3 := three_all a b
  have l3 : (three a b).length = 3 := rfl
  have mono : ∀ j, j ≤ 3 → cum (three a b) 3 j ≤ cum (three a b) 3 3 := fun j hj => by
    have l0 := lits_bd hok 0 (by rw [l3]; omega)
    have l1 := lits_bd hok 1 (by rw [l3]; omega)
    have l2 := lits_bd hok 2 (by rw [l3]; omega)
    have : j = 0 ∨ j = 1 ∨ j = 2 ∨ j = 3 := by omega
    rcases this with rfl | rfl | rfl | rfl <;> simp only [cum, sumK] <;> omega
  by_cases hc : v ≤ 3 * (3 * a + 1)
  · right
    have : ∃ m, Need (three a b) v 3 m := by
      by_cases h0 : v ≤ cum (three a b) 3 0
      · exact ⟨0, by omega, h0, fun j hj => by omega⟩
      · by_cases h1 : v ≤ cum (three a b) 3 1
        · exact ⟨1, by rw [l3]; omega, h1, fun j hj => by
            obtain rfl : j = 0 := by omega
            omega⟩
        · by_cases h2 : v ≤ cum (three a b) 3 2
          · exact ⟨2, by rw [l3]; omega, h2, fun j hj => by
              have : j = 0 ∨ j = 1 := by omega
              rcases this with rfl | rfl <;> omega⟩
          · exact ⟨3, by rw [l3]; omega, by omega, fun j hj => by
              have : j = 0 ∨ j = 1 ∨ j = 2 := by omega
              rcases this with rfl | rfl | rfl <;> omega⟩
    obtain ⟨m, hm⟩ := this
    exact ⟨m, hm.1, hc, hm.2.1, neededF_yes hok hm⟩
  · left
    exact ⟨hc, neededF_few fun j hj => by have := mono j hj; omega⟩
/-- what is lifted: 3 hours of each, the stronger one marked -/
theorem three_lift {a b : Int} {m : Nat} (hm : m ≤ 3) : sumK (fun k => 3 * (a + if nth (placesI (cheapL (negL (three a b)) m)) k = 1 then 1 else 0)) m = cum (three a b) 3 m := by
  have hl : (cheapL (negL (three a b)) m).length = m := cheapL_len (by rw [negL_len]; exact hm)
  rw [← cum_cheap (three a b) 3 m hm]
  have h1 := sum_take (fun p => (Pump.at_ (three a b) p).f0 * 3) (cheapL (negL (three a b)) m) m (by omega)
  rw [List.take_of_length_le (by omega)] at h1
  rw [h1]
  have : ∀ k, k ≤ m → sumK (fun k => 3 * (a + if nth (placesI (cheapL (negL (three a b)) m)) k = 1 then 1 else 0)) k = sumK (fun i => (Pump.at_ (three a b) ((cheapL (negL (three a b)) m).getD i 0)).f0 * 3) k := by
    intro k
    induction k with
    | zero => intro _; rfl
    | succ k ih =>
      intro hk
      rw [sumK, sumK, ih (by omega)]
      congr 1
      have hkl : k < (cheapL (negL (three a b)) m).length := by omega
      have e1 : (cheapL (negL (three a b)) m).getD k 0 = (cheapL (negL (three a b)) m)[k] := by simp [hkl]
      have hp := cheapL_mem (zs := negL (three a b)) (n := m) (List.getElem_mem hkl)
      rw [negL_len] at hp
      rw [e1, placesI_nth hkl]
      generalize (cheapL (negL (three a b)) m)[k] = p at *
      have hp3 : p < 3 := hp
      have : p = 0 ∨ p = 1 ∨ p = 2 := by omega
      rcases this with rfl | rfl | rfl <;> simp [three, Pump.at_] <;> omega
  exact this m (Nat.le_refl _)
end Go.Proofs.Ytbenbjbfmcdedaa
