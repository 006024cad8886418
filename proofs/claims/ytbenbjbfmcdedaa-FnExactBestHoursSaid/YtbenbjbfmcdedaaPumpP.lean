/-
  The plain law of the n least: the order by value and place (ord), the places used after m rounds (usT), the places picked (cheapL), and that their values sum as the first n of the sorted list. No program in sight.
-/
import Derived.Test.YtbenbjbfmcdedaaSortQ
namespace Go.Proofs.Ytbenbjbfmcdedaa
open Go.RowKit

/-- i stands ahead of j: by value, then by place -/
def ahd (zs : List Int) (i j : Nat) : Bool := decide (nth zs i < nth zs j ∨ (nth zs i = nth zs j ∧ i ≤ j))
theorem ahd_iff {zs : List Int} {i j : Nat} : ahd zs i j = true ↔ nth zs i < nth zs j ∨ (nth zs i = nth zs j ∧ i ≤ j) := by simp [ahd]
def ord (zs : List Int) : List Nat := (List.range zs.length).mergeSort (ahd zs)
theorem ord_perm (zs : List Int) : (ord zs).Perm (List.range zs.length) := List.mergeSort_perm _ _
theorem ord_len (zs : List Int) : (ord zs).length = zs.length := by simp [ord]
theorem ord_pair (zs : List Int) : (ord zs).Pairwise (fun i j => ahd zs i j = true) :=
  List.pairwise_mergeSort (fun a b c h1 h2 => by rw [ahd_iff] at *; omega) (fun a b => by rw [Bool.or_eq_true, ahd_iff, ahd_iff]; omega) _
theorem ord_nodup (zs : List Int) : (ord zs).Nodup := (ord_perm zs).nodup_iff.2 List.nodup_range
theorem ord_mem {zs : List Int} {k : Nat} : k ∈ ord zs ↔ k < zs.length := by rw [(ord_perm zs).mem_iff, List.mem_range]
/-- the m-th in that order -/
def od (zs : List Int) (m : Nat) : Nat := (ord zs).getD m 0
theorem od_eq {zs : List Int} {m : Nat} (h : m < zs.length) : od zs m = (ord zs)[m]'(by rw [ord_len]; exact h) := by simp [od, ord_len, h]
theorem od_lt {zs : List Int} {m : Nat} (h : m < zs.length) : od zs m < zs.length := by
  rw [od_eq h]
  exact ord_mem.1 (List.getElem_mem _)
theorem od_take {zs : List Int} {m : Nat} (h : m < zs.length) : (ord zs).take (m + 1) = (ord zs).take m ++ [od zs m] := by
  rw [List.take_succ_eq_append_getElem (by rw [ord_len]; exact h), od_eq h]
theorem od_fresh {zs : List Int} {m : Nat} (h : m < zs.length) : od zs m ∉ (ord zs).take m := by
  have := (ord_nodup zs).sublist (List.take_sublist (m + 1) _)
  rw [od_take h] at this
  have h2 := List.pairwise_append.1 this
  intro hm
  exact h2.2.2 _ hm _ (by simp) rfl
/-- od m stands ahead of all that come later -/
theorem od_first {zs : List Int} {m p : Nat} (h : m < zs.length) (hp : p < zs.length) (hn : p ∉ (ord zs).take m) : ahd zs (od zs m) p = true := by
  obtain ⟨i, hi, rfl⟩ := List.getElem_of_mem (ord_mem.2 hp)
  have hi' := hi
  rw [ord_len] at hi'
  have him : m ≤ i := by
    rcases Nat.lt_or_ge i m with q | q
    · exact absurd (List.mem_take_iff_getElem.2 ⟨i, by rw [ord_len]; omega, rfl⟩) hn
    · exact q
  rw [od_eq h]
  rcases Nat.lt_or_ge m i with q | q
  · exact List.pairwise_iff_getElem.1 (ord_pair zs) m i (by rw [ord_len]; exact h) hi q
  · have : m = i := by omega
    subst this
    rw [ahd_iff]
    exact .inr ⟨rfl, Nat.le_refl _⟩
theorem pair_map {α β : Type} {R : β → β → Prop} {f : α → β} {l : List α} (h : l.Pairwise (fun a b => R (f a) (f b))) : (l.map f).Pairwise R := List.pairwise_map.2 h
theorem map_range (zs : List Int) : (List.range zs.length).map (nth zs) = zs :=
  List.ext_getElem (by simp) fun i h1 h2 => by simp [nth, h2]
theorem map_ord (zs : List Int) : (ord zs).map (nth zs) = sortI zs := by
  refine sortI_eq (pair_map ((ord_pair zs).imp fun h => ?_)) ?_
  · rw [ahd_iff] at h; omega
  · have := (ord_perm zs).map (nth zs)
    rwa [map_range] at this

/-- which places are used after m rounds -/
def usT (zs : List Int) (m : Nat) : List Bool := (List.range zs.length).map fun k => decide (k ∈ (ord zs).take m)
def bth (us : List Bool) (k : Nat) : Bool := us.getD k false
def bools (us : List Bool) : List Value := us.map Value.bool
theorem bools_len (us : List Bool) : (bools us).length = us.length := by simp [bools]
theorem bools_get (us : List Bool) (i : Nat) (h : i < us.length) : (bools us)[i]? = some (.bool (bth us i)) := by simp [bools, bth, h]
theorem bools_set (us : List Bool) (i : Nat) (b : Bool) : (bools us).set i (.bool b) = bools (us.set i b) := by simp [bools, List.map_set]
theorem usT_len (zs : List Int) (m : Nat) : (usT zs m).length = zs.length := by simp [usT]
theorem usT_at {zs : List Int} {m k : Nat} (h : k < zs.length) : bth (usT zs m) k = decide (k ∈ (ord zs).take m) := by simp [bth, usT, h]
theorem usT_zero (zs : List Int) : usT zs 0 = List.replicate zs.length false := by
  refine List.ext_getElem (by simp [usT]) fun i h1 h2 => ?_
  simp [usT]
theorem usT_succ {zs : List Int} {m : Nat} (h : m < zs.length) : (usT zs m).set (od zs m) true = usT zs (m + 1) := by
  refine List.ext_getElem (by simp [usT]) fun i h1 h2 => ?_
  rw [List.getElem_set]
  simp only [usT, List.getElem_map, List.getElem_range, od_take h, List.mem_append, List.mem_singleton]
  by_cases e : od zs m = i
  · rw [if_pos e]; simp [e]
  · rw [if_neg e]; simp [Ne.symm e]
/-- b is the best unused place among the first k (-1: none) -/
def Best (zs : List Int) (us : List Bool) (k : Nat) (b : Int) : Prop :=
  (b = -1 ∧ ∀ j, j < k → bth us j = true) ∨ ∃ p : Nat, p < k ∧ b = p ∧ bth us p = false ∧ ∀ j, j < k → bth us j = false → ahd zs p j = true
theorem Best.zero (zs : List Int) (us : List Bool) : Best zs us 0 (-1) := .inl ⟨rfl, fun j hj => by omega⟩
theorem Best.range {zs : List Int} {us : List Bool} {k : Nat} {b : Int} (h : Best zs us k b) : -1 ≤ b ∧ b < k := by
  rcases h with ⟨rfl, _⟩ | ⟨p, hp, rfl, _⟩ <;> omega
theorem Best.skip {zs : List Int} {us : List Bool} {k : Nat} {b : Int} (h : Best zs us k b) (hu : bth us k = true) : Best zs us (k + 1) b := by
  rcases h with ⟨rfl, h⟩ | ⟨p, hp, rfl, h1, h2⟩
  · refine .inl ⟨rfl, fun j hj => ?_⟩
    rcases Nat.lt_succ_iff_lt_or_eq.1 hj with q | rfl
    · exact h j q
    · exact hu
  · refine .inr ⟨p, by omega, rfl, h1, fun j hj hj2 => ?_⟩
    rcases Nat.lt_succ_iff_lt_or_eq.1 hj with q | rfl
    · exact h2 j q hj2
    · rw [hu] at hj2; exact absurd hj2 (by simp)
theorem Best.take {zs : List Int} {us : List Bool} {k : Nat} {b : Int} (h : Best zs us k b) (hu : bth us k = false) (hb : b < 0 ∨ nth zs k < nth zs b.toNat) : Best zs us (k + 1) k := by
  rcases h with ⟨rfl, h⟩ | ⟨p, hp, rfl, h1, h2⟩
  · refine .inr ⟨k, by omega, rfl, hu, fun j hj hj2 => ?_⟩
    rcases Nat.lt_succ_iff_lt_or_eq.1 hj with q | rfl
    · rw [h j q] at hj2; exact absurd hj2 (by simp)
    · rw [ahd_iff]; omega
  · have hb : nth zs k < nth zs p := by
      have e : ((p : Int)).toNat = p := by omega
      rw [e] at hb
      omega
    refine .inr ⟨k, by omega, rfl, hu, fun j hj hj2 => ?_⟩
    rcases Nat.lt_succ_iff_lt_or_eq.1 hj with q | rfl
    · have := h2 j q hj2
      rw [ahd_iff] at *
      omega
    · rw [ahd_iff]; omega
theorem Best.keep {zs : List Int} {us : List Bool} {k : Nat} {b : Int} (h : Best zs us k b) (hb : ¬ b < 0) (hl : ¬ nth zs k < nth zs b.toNat) : Best zs us (k + 1) b := by
  rcases h with ⟨rfl, h⟩ | ⟨p, hp, rfl, h1, h2⟩
  · omega
  · refine .inr ⟨p, by omega, rfl, h1, fun j hj hj2 => ?_⟩
    rcases Nat.lt_succ_iff_lt_or_eq.1 hj with q | rfl
    · exact h2 j q hj2
    · have : ((p : Int)).toNat = p := by omega
      rw [this] at hl
      rw [ahd_iff]; omega
theorem Best.done {zs : List Int} {m : Nat} {b : Int} (hm : m < zs.length) (h : Best zs (usT zs m) zs.length b) : b = od zs m := by
  have hu : bth (usT zs m) (od zs m) = false := by rw [usT_at (od_lt hm)]; exact decide_eq_false (od_fresh hm)
  rcases h with ⟨rfl, h⟩ | ⟨p, hp, rfl, h1, h2⟩
  · rw [h _ (od_lt hm)] at hu; exact absurd hu (by simp)
  · have q1 := h2 _ (od_lt hm) hu
    rw [usT_at hp] at h1
    have q2 := od_first hm hp (of_decide_eq_false h1)
    rw [ahd_iff] at q1 q2
    omega
/-- the used places among the first k -/
def picks (us : List Bool) (k : Nat) : List Nat := (List.range k).filter (bth us)
theorem picks_yes {us : List Bool} {k : Nat} (h : bth us k = true) : picks us (k + 1) = picks us k ++ [k] := by simp [picks, List.range_succ, List.filter_append, h]
theorem picks_no {us : List Bool} {k : Nat} (h : bth us k = false) : picks us (k + 1) = picks us k := by simp [picks, List.range_succ, List.filter_append, h]
theorem picks_len (us : List Bool) (k : Nat) : (picks us k).length ≤ k := by
  have := List.length_filter_le (bth us) (List.range k)
  simpa [picks] using this
/-- the places of the n least, ascending -/
def cheapL (zs : List Int) (n : Nat) : List Nat := picks (usT zs n) zs.length
theorem cheapL_mem {zs : List Int} {n k : Nat} (h : k ∈ cheapL zs n) : k < zs.length := by
  have := (List.mem_filter.1 h).1
  simpa using this
theorem cheapL_perm (zs : List Int) (n : Nat) : (cheapL zs n).Perm ((ord zs).take n) := by
  refine (List.perm_ext_iff_of_nodup (List.nodup_range.sublist List.filter_sublist) ((ord_nodup zs).sublist (List.take_sublist _ _))).2 fun k => ?_
  simp only [cheapL, picks, List.mem_filter, List.mem_range]
  constructor
  · rintro ⟨h1, h2⟩
    rw [usT_at h1] at h2
    exact of_decide_eq_true h2
  · intro h
    have hk : k < zs.length := ord_mem.1 (List.mem_of_mem_take h)
    exact ⟨hk, by rw [usT_at hk]; exact decide_eq_true h⟩
theorem cheapL_len {zs : List Int} {n : Nat} (h : n ≤ zs.length) : (cheapL zs n).length = n := by
  rw [(cheapL_perm zs n).length_eq, List.length_take, ord_len]; omega
theorem cheapL_pair (zs : List Int) (n : Nat) : (cheapL zs n).Pairwise (fun a b => a < b) := List.Pairwise.sublist List.filter_sublist List.pairwise_lt_range
theorem sum_perm {a b : List Int} (h : a.Perm b) : a.sum = b.sum := by
  induction h with
  | nil => rfl
  | cons x _ ih => simp [ih]
  | swap x y l => simp; omega
  | trans _ _ h1 h2 => exact h1.trans h2
theorem cheapL_sum (zs : List Int) (n : Nat) : ((cheapL zs n).map (nth zs)).sum = ((sortI zs).take n).sum := by
  rw [← map_ord, ← List.map_take]
  exact sum_perm ((cheapL_perm zs n).map _)
end Go.Proofs.Ytbenbjbfmcdedaa
