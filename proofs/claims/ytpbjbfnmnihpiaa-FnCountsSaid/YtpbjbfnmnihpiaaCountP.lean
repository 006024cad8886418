/-
  Plain facts on drawn entries of the water book, for the law FnCounts. No program in sight. Conditions: those of drawn entries.
-/
import Derived.Test.YtpbjbfnmnihpiaaCountC
namespace Go.Proofs.Ytpbjbfnmnihpiaa
open Go.RowKit

/-- drawn entries and a start -/
def DrawnE (es : List Entry) (s : Int) : Prop :=
  es.length ≤ 8 ∧ (50 ≤ s ∧ s ≤ 149) ∧ ∀ i, i < es.length → (0 ≤ (Entry.at_ es i).f0 ∧ (Entry.at_ es i).f0 ≤ 59) ∧ (0 ≤ (Entry.at_ es i).f1 ∧ (Entry.at_ es i).f1 ≤ 39) ∧ 0 ≤ (Entry.at_ es i).f2 ∧ (Entry.at_ es i).f2 ≤ 1000
/-- entries that may be asked -/
def GoodE (es : List Entry) (s : Int) : Prop := entP es ∧ inB s 0 100000 = true
theorem entAt_mk {e : Entry} (h : (0 ≤ e.f0 ∧ e.f0 ≤ 100000) ∧ (0 ≤ e.f1 ∧ e.f1 ≤ 100000) ∧ (0 ≤ e.f2 ∧ e.f2 ≤ 100000)) : entAt e = true := by
  simp [entAt, inB_mk h.1, inB_mk h.2.1, inB_mk h.2.2]
theorem drawnE_good {es : List Entry} {s : Int} (h : DrawnE es s) : GoodE es s :=
  ⟨⟨by have := h.1; omega, fun i hi => by have := h.2.2 i hi; exact entAt_mk (by omega)⟩, inB_mk (by have := h.2.1; omega)⟩
theorem gap_is {es : List Entry} {s : Int} (h : GoodE es s) (k : Nat) (hk : k < es.length) : gapI es s k = gapN es s k := by
  rw [gapI, gapF, if_pos ⟨entB_yes h.1, h.2, inB_mk (by omega)⟩, Int.toNat_natCast]
/-- the law's first loop: what the first gap says of each -/
theorem first_says (es : List Entry) (s : Int) (k : Nat) (hk : k < es.length) : (firstF es s < 0 → gapF es s (k : Int) = 0) ∧ (firstF es s = (k : Int) → gapF es s (k : Int) ≠ 0) ∧ ((k : Int) < firstF es s → gapF es s (k : Int) = 0) := by
  unfold firstF
  rcases firstNZ_range (gapI es s) es.length with ⟨h, ha⟩ | ⟨k0, hk0, h, h1, h2⟩
  · rw [h]
    exact ⟨fun _ => ha k hk, fun e => by omega, fun e => by omega⟩
  · rw [h]
    refine ⟨fun e => by omega, fun e => ?_, fun e => h2 k (by omega)⟩
    have : k0 = k := by omega
    subst this; exact h1
theorem first_range (es : List Entry) (s : Int) : firstF es s = -1 ∨ ∃ k : Nat, k < es.length ∧ firstF es s = k := by
  unfold firstF
  rcases firstNZ_range (gapI es s) es.length with ⟨h, ha⟩ | ⟨k0, hk0, h, h1, h2⟩
  · exact .inl h
  · exact .inr ⟨k0, hk0, h⟩
theorem best_says (es : List Entry) (s : Int) (g : Nat) (hg : g < es.length) : ∀ k, k ≤ es.length → ∃ b : Nat, b < es.length ∧ bestL es s (g : Int) k = b ∧ ∀ j, j < k → absI (gapI es s j) ≤ absI (gapI es s b) := by
  intro k
  induction k with
  | zero => intro _; exact ⟨g, hg, rfl, fun j hj => by omega⟩
  | succ k ih =>
    intro hk
    obtain ⟨b, hb, e, hj⟩ := ih (by omega)
    rw [bestL, e]
    by_cases ht : (0 : Int) ≤ (b : Int) ∧ absI (gapF es s (b : Int)) < absI (gapI es s k)
    · rw [if_pos ht]
      refine ⟨k, by omega, rfl, fun j hj' => ?_⟩
      rcases Nat.lt_succ_iff_lt_or_eq.1 hj' with h1 | rfl
      · have := hj j h1
        have h2 : absI (gapI es s b) < absI (gapI es s k) := ht.2
        omega
      · omega
    · rw [if_neg ht]
      refine ⟨b, hb, rfl, fun j hj' => ?_⟩
      rcases Nat.lt_succ_iff_lt_or_eq.1 hj' with h1 | rfl
      · exact hj j h1
      · have h2 : ¬ absI (gapI es s b) < absI (gapI es s j) := fun h => ht ⟨by omega, h⟩
        omega
/-- the largest gap: there is one just where there is a first one, and no other is larger -/
theorem largest_says (es : List Entry) (s : Int) : (firstF es s = -1 ∧ largestF es s = -1) ∨ ∃ g b : Nat, firstF es s = g ∧ g < es.length ∧ largestF es s = b ∧ b < es.length ∧ ∀ j, j < es.length → absI (gapI es s j) ≤ absI (gapI es s b) := by
  rcases first_range es s with h | ⟨g, hg, h⟩
  · exact .inl ⟨h, by rw [largestF, bestL_neg _ _ _ (by omega), h]⟩
  · obtain ⟨b, hb, e, hj⟩ := best_says es s g hg es.length (Nat.le_refl _)
    exact .inr ⟨g, b, h, hg, by rw [largestF, h, e], hb, hj⟩
/-- one mistake that is found -/
theorem mis_found {es : List Entry} {s : Int} (h : misOk es s = true) : ∃ k : Nat, k < es.length ∧ firstF es s = k ∧ misV es s = .tuple #[.int .i64 (k : Int), .int .i64 (misLev es s k), .bool true] ∧ inB (misLev es s k) 0 100000 = true ∧ firstF (levSet es k (misLev es s k)) s = -1 := by
  simp only [misOk, decide_eq_true_eq] at h
  rcases first_range es s with h1 | ⟨k, hk, h1⟩
  · have := h.1; rw [h1] at this; omega
  · rw [h1, Int.toNat_natCast] at h
    refine ⟨k, hk, h1, misV_yes h, h.2.1, ?_⟩
    have h2 := h.2.2
    rcases first_range (levSet es k (misLev es s k)) s with h3 | ⟨j, _, h3⟩
    · exact h3
    · rw [h3] at h2; omega
theorem mis_none {es : List Entry} {s : Int} (h : ¬ misOk es s = true) : misV es s = .tuple #[.int .i64 0, .int .i64 0, .bool false] :=
  misV_no fun hp => h (by simp only [misOk, decide_eq_true_eq]; exact hp)
theorem lev_at (es : List Entry) (i : Nat) (x : Int) (hi : i < es.length) (j : Nat) : Entry.at_ (levSet es i x) j = if i = j then ⟨(Entry.at_ es i).f0, (Entry.at_ es i).f1, x⟩ else Entry.at_ es j := Entry.at_set es i j _ hi
theorem lev_good {es : List Entry} {s : Int} (h : GoodE es s) (i : Nat) (x : Int) (hi : i < es.length) (hx : 0 ≤ x ∧ x ≤ 100000) : GoodE (levSet es i x) s := by
  refine ⟨⟨by simpa [levSet] using h.1.1, fun j hj => ?_⟩, h.2⟩
  have hj' : j < es.length := by simpa [levSet] using hj
  rw [lev_at es i x hi]
  have h1 := entAt_yes (h.1.2 i hi)
  split
  · exact entAt_mk ⟨h1.1, h1.2.1, hx⟩
  · exact h.1.2 j hj'
/-- one level of good entries without a gap is 7 too high: this one is found, and what it was -/
theorem wrong_one {es : List Entry} {s : Int} (h : DrawnE es s) (hg : firstF es s < 0) (i : Nat) (hi : i < es.length) :
    misV (levSet es i ((Entry.at_ es i).f2 + 7)) s = .tuple #[.int .i64 (i : Int), .int .i64 (Entry.at_ es i).f2, .bool true] := by
  have hG := drawnE_good h
  have hb := h.2.2 i hi
  have hM : GoodE (levSet es i ((Entry.at_ es i).f2 + 7)) s := lev_good hG i _ hi (by omega)
  have hl : (levSet es i ((Entry.at_ es i).f2 + 7)).length = es.length := by simp [levSet]
  have hz : ∀ j, j < es.length → gapN es s j = 0 := fun j hj => by
    rw [← gap_is hG j hj]; exact (first_says es s j hj).1 hg
  have hi0 : gapN (levSet es i ((Entry.at_ es i).f2 + 7)) s i = 7 := by
    have h0 := hz i hi
    unfold gapN at *
    rw [lev_at es i _ hi, lev_at es i _ hi, if_pos rfl]
    by_cases hp : 0 < i
    · rw [if_pos hp] at *
      rw [if_neg (by omega)]
      simp only; omega
    · rw [if_neg hp] at *
      simp only; omega
  have hj0 : ∀ j, j < i → gapN (levSet es i ((Entry.at_ es i).f2 + 7)) s j = 0 := fun j hj => by
    have h0 := hz j (by omega)
    unfold gapN at *
    rw [lev_at es i _ hi, lev_at es i _ hi, if_neg (by omega)]
    by_cases hp : 0 < j
    · rw [if_pos hp] at *
      rw [if_neg (by omega)]
      exact h0
    · rw [if_neg hp] at *
      exact h0
  have hF : firstF (levSet es i ((Entry.at_ es i).f2 + 7)) s = (i : Int) :=
    firstNZ_yes (by omega) (by rw [gap_is hM i (by omega), hi0]; omega) (fun j hj => by rw [gap_is hM j (by omega), hj0 j hj])
  have hL : misLev (levSet es i ((Entry.at_ es i).f2 + 7)) s i = (Entry.at_ es i).f2 := by
    have e1 : gapF (levSet es i ((Entry.at_ es i).f2 + 7)) s (i : Int) = 7 := (gap_is hM i (by omega)).trans hi0
    rw [misLev, e1, lev_at es i _ hi, if_pos rfl]
    simp only; omega
  have hB : levSet (levSet es i ((Entry.at_ es i).f2 + 7)) i (Entry.at_ es i).f2 = es := by
    unfold levSet
    rw [Entry.at_set es i i _ hi, if_pos rfl, List.set_set]
    show es.set i (Entry.at_ es i) = es
    have : Entry.at_ es i = es[i] := by simp [Entry.at_, hi]
    rw [this]; exact List.set_getElem_self hi
  rw [misV_yes (k := i) ⟨hF, by rw [hL]; exact inB_mk (by omega), by rw [hL, hB]; exact hg⟩, hL]
/-- what went out less what came in, of the first k -/
def outIn (es : List Entry) : Nat → Int
  | 0 => 0
  | k + 1 => outIn es k - (Entry.at_ es k).f0 + (Entry.at_ es k).f1
theorem outIn_bd {es : List Entry} {s : Int} (h : DrawnE es s) (k : Nat) (hk : k ≤ es.length) : -(59 * (k : Int)) ≤ outIn es k ∧ outIn es k ≤ 39 * (k : Int) := by
  induction k with
  | zero => simp [outIn]
  | succ k ih =>
    have := ih (by omega)
    have := h.2.2 k (by omega)
    simp only [outIn]
    omega
def endE (es : List Entry) (s : Int) : Int := if 0 < es.length then (Entry.at_ es (es.length - 1)).f2 else s
theorem tele {es : List Entry} {s : Int} (h : GoodE es s) : ∀ k, k ≤ es.length → sumG (gapI es s) k = (if 0 < k then (Entry.at_ es (k - 1)).f2 else s) - s + outIn es k := by
  intro k
  induction k with
  | zero => intro _; simp [sumG, outIn]
  | succ k ih =>
    intro hk
    rw [sumG, ih (by omega), gap_is h k (by omega), gapN, outIn, if_pos (Nat.succ_pos k), Nat.add_sub_cancel]
    split <;> omega
theorem total_is {es : List Entry} {s : Int} (h : DrawnE es s) : totalF es s = endE es s - s + outIn es es.length := by
  rw [totalF, tele (drawnE_good h) _ (Nat.le_refl _), endE]
end Go.Proofs.Ytpbjbfnmnihpiaa
