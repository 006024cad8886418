/-
  Slices in memory: what a slice holds ('Holds'), what a call has made and owns ('Own'), a call that answers a slice in new memory ('Fresh'). No program in sight. Conditions: none.
-/
import Derived.Test.YtbenbjbfmcdedaaLib
namespace Go.Proofs.Ytbenbjbfmcdedaa
open Go.RowKit

/-- The slice '.slice A n c' holds the cells xs, k cells an element. -/
def Holds (w : World) (k : Nat) (A : Option Addr) (n c : Nat) (xs : List Value) : Prop :=
  xs.length = n * k ∧ n ≤ c ∧ c ≤ maxLen ∧ (0 < xs.length → ∃ b off, A = some ⟨b, off, none⟩ ∧ b < w.heap.size ∧ ∀ j u, xs[j]? = some u → w.cell? ⟨b, off + j, none⟩ = some u)
/-- .. and the call owns it: it lies in a block from 'base' on, not frozen. -/
def Own (w : World) (base : Nat) (e : TypeId) (k : Nat) (A : Option Addr) (n c : Nat) (xs : List Value) : Prop := w.ownsRow base e k (.slice A n c) n xs
/-- A call answers a slice in new memory that holds xs, and leaves what was there. -/
def Fresh (e : TypeId) (k n : Nat) (xs : List Value) (w : World) (en : Ending) (w' : World) : Prop :=
  ∃ A c, en = .returned (.slice A n c) ∧ Own w' w.heap.size e k A n c xs ∧ Ext w w'

section
variable {w w' : World} {base : Nat} {e : TypeId} {k n c : Nat} {A : Option Addr} {xs : List Value}
theorem Holds.ext (h : Holds w k A n c xs) (x : Ext w w') : Holds w' k A n c xs :=
  ⟨h.1, h.2.1, h.2.2.1, fun hp => by
    obtain ⟨b, off, hA, hb, hc⟩ := h.2.2.2 hp
    exact ⟨b, off, hA, Nat.lt_of_lt_of_le hb x.len, fun j u hu => x.got (hc j u hu)⟩⟩
theorem Own.lt (h : Own w base e k A n c xs) : ∀ g, (Value.slice A n c).ownBlock = some g → base ≤ g ∧ g < w.heap.size := World.ownsRow.lt h
theorem Own.kept {row : Option Nat} (h : Own w base e k A n c xs) (hg : w.grownBy w' row) (hne : (Value.slice A n c).ownBlock = none ∨ (Value.slice A n c).ownBlock ≠ row) : Own w' base e k A n c xs := World.ownsRow.kept h hg hne
theorem Ext.grownBy (x : Ext w w') (row : Option Nat) : w.grownBy w' row := ⟨x.os, x.tape, x.output, x.size, fun i hi _ => x.block i hi⟩
theorem Own.ext (h : Own w base e k A n c xs) (x : Ext w w') : Own w' base e k A n c xs :=
  h.kept (x.grownBy none) (by cases hA : (Value.slice A n c).ownBlock <;> simp)
theorem Own.len (h : Own w base e k A n c xs) : xs.length = n * k := h.1
theorem Own.form (h : Own w base e k A n c xs) (hn : 0 < n) : ∃ g, A = some ⟨g, 0, none⟩ ∧ base ≤ g ∧ g < w.heap.size := by
  rcases h.2 with ⟨_, h0⟩ | ⟨g, cap, cur, hv, hb, hg, _⟩
  · omega
  · injection hv with h1
    exact ⟨g, h1, hb, (Array.getElem?_eq_some_iff.1 hg).1⟩
theorem Own.cap (h : Own w base e k A n c xs) : n ≤ c ∧ c ≤ maxLen := by
  rcases h.2 with ⟨hv, h0⟩ | ⟨g, cap, cur, hv, hb, hg, h1, h2, _⟩
  · injection hv with _ _ hc
    subst hc
    subst h0
    exact ⟨Nat.le_refl _, Nat.zero_le _⟩
  · injection hv with _ _ hc
    subst hc
    exact ⟨h1, h2⟩
theorem Own.holds (h : Own w base e k A n c xs) : Holds w k A n c xs := by
  refine ⟨h.1, h.cap.1, h.cap.2, fun hp => ?_⟩
  have hn : 0 < n := by
    rcases Nat.eq_zero_or_pos n with h0 | h0
    · have := h.1
      rw [h0, Nat.zero_mul] at this
      omega
    · exact h0
  obtain ⟨g, rfl, _, hg⟩ := h.form hn
  refine ⟨g, 0, rfl, hg, fun j u hu => ?_⟩
  have hj : j < n * k := by rw [← h.1]; exact (List.getElem?_eq_some_iff.1 hu).1
  rw [Nat.zero_add, World.ownsRow.cellAt h j hj, hu]
theorem Own.mono {base' : Nat} (h : Own w base e k A n c xs) (hb : base' ≤ base) : Own w base' e k A n c xs := by
  refine ⟨h.1, ?_⟩
  rcases h.2 with h0 | ⟨g, cap, cur, hv, hg, r⟩
  · exact .inl h0
  · exact .inr ⟨g, cap, cur, hv, Nat.le_trans hb hg, r⟩
/-- An element's cells, by the element's number and the field's. -/
theorem Holds.at_ (h : Holds w k A n c xs) {i j : Nat} (hi : i < n) (hj : j < k) : ∃ b off u, A = some ⟨b, off, none⟩ ∧ b < w.heap.size ∧ xs[i * k + j]? = some u ∧ w.cell? ⟨b, off + (i * k + j), none⟩ = some u := by
  have hl : i * k + j < xs.length := by
    rw [h.1]
    have : (i + 1) * k ≤ n * k := Nat.mul_le_mul_right k hi
    rw [Nat.add_mul] at this
    omega
  obtain ⟨b, off, hA, hb, hc⟩ := h.2.2.2 (by omega)
  exact ⟨b, off, xs[i * k + j], hA, hb, List.getElem?_eq_getElem hl, hc _ _ (List.getElem?_eq_getElem hl)⟩
end

/-- The k-th of a list of ints. -/
def nth (zs : List Int) (k : Nat) : Int := zs.getD k 0
theorem nth_ext {a b : List Int} (hl : a.length = b.length) (h : ∀ j, j < a.length → nth a j = nth b j) : a = b := by
  apply List.ext_getElem hl
  intro i h1 h2
  simpa [nth, h1, h2] using h i h1
/-- The cells of a list of ints. -/
def ints (zs : List Int) : List Value := zs.map (Value.int .i64)
theorem ints_len (zs : List Int) : (ints zs).length = zs.length := by simp [ints]
theorem ints_get (zs : List Int) (i : Nat) (h : i < zs.length) : (ints zs)[i]? = some (.int .i64 (nth zs i)) := by simp [ints, nth, h]
/-- Where the slice of ints lies, and what its i-th cell holds. -/
theorem Holds.int {w : World} {A : Option Addr} {n c : Nat} {zs : List Int} (h : Holds w 1 A n c (ints zs)) (hn : 0 < n) :
    ∃ b off, A = some ⟨b, off, none⟩ ∧ b < w.heap.size ∧ ∀ i, i < n → w.cell? ⟨b, off + i, none⟩ = some (.int .i64 (nth zs i)) := by
  have hl : zs.length = n := by have := h.1; rw [ints_len] at this; omega
  obtain ⟨b, off, hA, hb, hc⟩ := h.2.2.2 (by rw [ints_len]; omega)
  exact ⟨b, off, hA, hb, fun i hi => hc i _ (ints_get zs i (by omega))⟩
theorem Holds.intlen {w : World} {A : Option Addr} {n c : Nat} {zs : List Int} (h : Holds w 1 A n c (ints zs)) : zs.length = n := by
  have := h.1; rw [ints_len] at this; omega
/-- The first k of a list copied, the rest of n places at z. -/
def part (z : Value) (xs : List Value) (n k : Nat) : List Value := xs.take k ++ List.replicate (n - k) z
theorem part_zero (z : Value) (xs : List Value) (n : Nat) : part z xs n 0 = List.replicate n z := by simp [part]
theorem part_all (z : Value) (xs : List Value) (n : Nat) (h : xs.length = n) : part z xs n n = xs := by
  rw [part, Nat.sub_self, List.take_of_length_le (by omega)]
  simp
theorem part_len (z : Value) (xs : List Value) (n k : Nat) (h : xs.length = n) (hk : k ≤ n) : (part z xs n k).length = n := by simp [part]; omega
theorem part_set (z u : Value) (xs : List Value) (n k : Nat) (h : xs.length = n) (hk : k < n) (hu : xs[k]? = some u) : (part z xs n k).set k u = part z xs n (k + 1) := by
  have hl : (xs.take k).length = k := by simp; omega
  have hr : List.replicate (n - k) z = z :: List.replicate (n - (k + 1)) z := by
    rw [show n - k = (n - (k + 1)) + 1 by omega, List.replicate_succ]
  have hx : xs[k]'(by omega) = u := by
    rw [List.getElem?_eq_getElem (by omega)] at hu
    injection hu
  unfold part
  rw [List.set_append_right _ _ (by omega), hl, Nat.sub_self, hr, List.set_cons_zero, List.take_succ_eq_append_getElem (by omega), hx, List.append_assoc]
  rfl
/-- the marks k, k + 1 .. -/
def marks (k : Int) (n : Nat) : List Int := (List.range n).map fun (i : Nat) => k + (i : Int)
theorem marks_len (k : Int) (n : Nat) : (marks k n).length = n := by simp [marks]
theorem marks_nth (k : Int) (n i : Nat) (h : i < n) : nth (marks k n) i = k + i := by simp [nth, marks, h]
theorem marks_succ (k : Int) (n : Nat) : marks k (n + 1) = marks k n ++ [k + n] := by simp [marks, List.range_succ]
/-- The first i cells are those of ys, the others those of xs. -/
def mixed (ys xs : List Value) (i : Nat) : List Value := ys.take i ++ xs.drop i
theorem mixed_zero (ys xs : List Value) : mixed ys xs 0 = xs := by simp [mixed]
theorem mixed_all (ys xs : List Value) (n : Nat) (h : ys.length = n) (h' : xs.length = n) : mixed ys xs n = ys := by
  rw [mixed, List.take_of_length_le (by omega), List.drop_of_length_le (by omega), List.append_nil]
theorem mixed_len (ys xs : List Value) (n i : Nat) (h : ys.length = n) (h' : xs.length = n) (hi : i ≤ n) : (mixed ys xs i).length = n := by simp [mixed]; omega
theorem mixed_set (ys xs : List Value) (u : Value) (n i : Nat) (h : ys.length = n) (h' : xs.length = n) (hi : i < n) (hu : ys[i]? = some u) : (mixed ys xs i).set i u = mixed ys xs (i + 1) := by
  have hl : (ys.take i).length = i := by simp; omega
  have hy : ys[i]'(by omega) = u := by
    rw [List.getElem?_eq_getElem (by omega)] at hu
    injection hu
  unfold mixed
  rw [List.set_append_right _ _ (by omega), hl, Nat.sub_self, List.drop_eq_getElem_cons (by omega), List.set_cons_zero, List.take_succ_eq_append_getElem (by omega), hy, List.append_assoc]
  rfl
theorem grownBy_set {a w : World} {g j : Nat} {u : Value} (h : a.grownBy w (some g)) : a.grownBy (w.setCell ⟨g, j, none⟩ u) (some g) :=
  ⟨h.os, h.tape, h.output, by simpa [World.setCell] using h.size, fun i hi hne => (Below.heap_setCell w ⟨g, j, none⟩ u i (fun e => hne (by rw [e]))).trans (h.block i hi hne)⟩
/-- What a call that writes marks into a slice leaves. -/
def Marked (base : Nat) (e : TypeId) (k : Nat) (A : Option Addr) (n c : Nat) (xs : List Value) (r : Int) (w : World) (en : Ending) (w' : World) : Prop :=
  en = .returned (.int .i64 r) ∧ Own w' base e k A n c xs ∧ w.grownBy w' (Value.slice A n c).ownBlock
end Go.Proofs.Ytbenbjbfmcdedaa
