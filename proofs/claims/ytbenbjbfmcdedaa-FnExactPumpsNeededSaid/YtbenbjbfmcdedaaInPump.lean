/-
  How an argument that is a slice of Pump is opened into what the walks ask for. Conditions: none.
-/
import Derived.Test.YtbenbjbfmcdedaaRow
import Derived.Test.YtbenbjbfmcdedaaElPump
namespace Go.Proofs.Ytbenbjbfmcdedaa
open Go.ChangeShapes Go.WideShapes Go.ChangeAt Go.RowKit Go.Joins Go.Deep

theorem Pump_in {H : Type} {enc : TypeId × Value → H} {P : Program} {w : World} {t e ti : TypeId} {f0 f1 : Field} {A : Option Addr} {n c : Nat} {d : DataW H} {p : List MemPlace} (ht : P.underlying t = some (.slice e)) (he : P.underlying e = some (.struct #[f0, f1]))
    (hone : oneCellFields P #[f0, f1] = true) (hC : P.cellsOf e = 2) (hi : P.underlying ti = some (.int .i64)) (hfs : f0.type = ti ∧ f1.type = ti)
    (h : DataW.Trod enc P w 0 (fun _ => true) true t (.slice A n c) d p) : ∃ es : List Pump, Holds w 2 A n c (Pump.all es) ∧ ∀ e ∈ es, -9223372036854775808 ≤ e.f0 ∧ e.f0 ≤ 9223372036854775807 ∧ -9223372036854775808 ≤ e.f1 ∧ e.f1 ≤ 9223372036854775807 := by
  obtain ⟨fuel, hf⟩ := h
  rcases open_slice_fields ht he hone (by simpa using hC) hf with ⟨hcs, _⟩ | ⟨a, len, cap, m, D, Pl, hcs, _, hl, hm, hmm, _, hD⟩
  · simp [Value.cells] at hcs
    obtain ⟨rfl, rfl, rfl⟩ := hcs
    exact ⟨[], ⟨by simp [Pump.all], Nat.le_refl _, Nat.zero_le _, by simp [Pump.all]⟩, by simp⟩
  · simp [Value.cells] at hcs
    obtain ⟨rfl, rfl, rfl⟩ := hcs
    obtain rfl : m = c := by simpa using hmm
    rcases Nat.eq_zero_or_pos n with hn0 | hn
    · exact ⟨[], ⟨by simp [Pump.all, hn0], hl, hm, by simp [Pump.all]⟩, by simp⟩
    have hcell : ∀ i, i < n → ∃ e : Pump, (w.cell? (a.add (i * 2 + 0)) = some (.int .i64 e.f0) ∧ w.cell? (a.add (i * 2 + 1)) = some (.int .i64 e.f1)) ∧ (-9223372036854775808 ≤ e.f0 ∧ e.f0 ≤ 9223372036854775807 ∧ -9223372036854775808 ≤ e.f1 ∧ e.f1 ≤ 9223372036854775807) := by
      intro i hin
      obtain ⟨ys, k, _, _, _, hj⟩ := hD i (by omega)
      obtain ⟨q0, q1⟩ := hfs
      obtain ⟨v0, y0, hc0, _, ht0⟩ := hj 0 f0 rfl
      rw [q0] at ht0
      obtain ⟨x0, hx0, _, hw0⟩ := DataW.trod_int hi ht0
      simp only [List.cons.injEq, and_true] at hx0
      subst hx0
      obtain ⟨v1, y1, hc1, _, ht1⟩ := hj 1 f1 rfl
      rw [q1] at ht1
      obtain ⟨x1, hx1, _, hw1⟩ := DataW.trod_int hi ht1
      simp only [List.cons.injEq, and_true] at hx1
      subst hx1
      exact ⟨⟨x0, x1⟩, ⟨by simpa using hc0, by simpa using hc1⟩, (bounds_i64 hw0).1, (bounds_i64 hw0).2, (bounds_i64 hw1).1, (bounds_i64 hw1).2⟩
    obtain ⟨F, hF⟩ := choose_lt hcell
    have hat : ∀ i, i < n → Pump.at_ ((List.range n).map F) i = F i := fun i hi => by simp [Pump.at_, hi]
    obtain ⟨b, off, ha⟩ : ∃ b off, a = ⟨b, off, none⟩ := ⟨_, _, addr_of_cell (by have := (hF 0 hn).1.1; simpa [Addr.add] using this)⟩
    subst ha
    refine ⟨(List.range n).map F, ⟨by rw [Pump.all_len]; simp, hl, hm, fun _ => ⟨b, off, rfl, ?_, fun j u hu => ?_⟩⟩, fun e he => ?_⟩
    · have := (hF 0 hn).1.1
      rw [Addr.add_lit] at this
      exact World.block_lt_of_cell? w _ this
    · have hj : j < n * 2 := by
        have := (List.getElem?_eq_some_iff.1 hu).1
        rw [Pump.all_len] at this
        simpa using this
      obtain ⟨i, r, hr, rfl⟩ : ∃ i r, r < 2 ∧ j = i * 2 + r := ⟨j / 2, j % 2, Nat.mod_lt _ (by omega), by omega⟩
      have hin : i < n := by omega
      rw [Pump.all_get _ i r (by simpa using hin) hr, hat i hin] at hu
      have := (hF i hin).1
      simp only [Addr.add_lit] at this
      match r, hr, hu with
      | 0, _, hu => simp [Pump.cells] at hu; subst hu; exact this.1
      | 1, _, hu => simp [Pump.cells] at hu; subst hu; exact this.2
    · obtain ⟨i, hi, rfl⟩ := List.mem_map.1 he
      exact (hF i (List.mem_range.1 hi)).2
end Go.Proofs.Ytbenbjbfmcdedaa
