/-
  What the rows of this seat share: the program's knob, its layout; how an argument is opened into what the walks ask for. Conditions: none.
-/
import Derived.Test.YtdaokpfomoiboaaRows
import Derived.Test.YtdaokpfomoiboaaMem
import Derived.ProofKit
import Derived.OpenShut
import Derived.ChangeOld
import Derived.Lib.SmallJoins
import Derived.Deep.Slices
import Derived.Deep.Fields
namespace Go.Proofs.Ytdaokpfomoiboaa
open Go.ChangeShapes Go.WideShapes Go.ChangeAt Go.RowKit Go.Joins

section
variable {H : Type} {enc : TypeId × Value → H} {P : Program} {w : World} 
/-- An argument that is a slice of ints or bytes, as the walks ask for it. -/
theorem nums_in {t e : TypeId} {k : IntKind} {A : Option Addr} {n c : Nat} {d : DataW H} {p : List MemPlace} (ht : P.underlying t = some (.slice e)) (he : P.underlying e = some (.int k)) (hc : P.cellsOf e = 1)
    (h : DataW.Trod enc P w 0 (fun _ => true) true t (.slice A n c) d p) : ∃ zs : List Int, Holds w 1 A n c (zs.map (Value.int k)) ∧ ∀ z ∈ zs, (Lit.int k z).wf = true := by
  obtain ⟨fuel, hf⟩ := h
  rcases open_ints ht he hc hf with ⟨hcs, _⟩ | ⟨x, l, cc, zs, hcs, _, hl, hm, hz, _, hcell, hwz⟩
  · simp [Value.cells] at hcs
    obtain ⟨rfl, rfl, rfl⟩ := hcs
    exact ⟨[], ⟨by simp, Nat.le_refl _, Nat.zero_le _, by simp⟩, by simp⟩
  · simp [Value.cells] at hcs
    obtain ⟨rfl, rfl, rfl⟩ := hcs
    have hz' : zs.length = c := by simpa using hz
    refine ⟨zs.take n, ⟨by simp; omega, hl, hm, fun hp => ?_⟩, fun z hz => hwz z (List.mem_of_mem_take hz)⟩
    have hpos : 0 < zs.length := by
      simp at hp
      rcases Nat.eq_zero_or_pos zs.length with h0 | h0
      · simp [List.eq_nil_of_length_eq_zero h0] at hp
      · exact h0
    obtain ⟨b, off, rfl, hc⟩ := ints_at hcell hpos
    refine ⟨b, off, rfl, ?_, fun j u hu => ?_⟩
    · have := hc 0 hpos
      exact World.block_lt_of_cell? w _ this
    · simp only [List.map_take, List.getElem?_take] at hu
      split at hu
      · simp only [List.getElem?_map, Option.map_eq_some_iff] at hu
        obtain ⟨z, hz1, rfl⟩ := hu
        have hj : j < zs.length := (List.getElem?_eq_some_iff.1 hz1).1
        rw [hc j hj]
        simp [List.getD, hz1]
      · cases hu
theorem ints_in {t e : TypeId} {A : Option Addr} {n c : Nat} {d : DataW H} {p : List MemPlace} (ht : P.underlying t = some (.slice e)) (he : P.underlying e = some (.int .i64)) (hc : P.cellsOf e = 1)
    (h : DataW.Trod enc P w 0 (fun _ => true) true t (.slice A n c) d p) : ∃ zs : List Int, Holds w 1 A n c (ints zs) ∧ ∀ z ∈ zs, -9223372036854775808 ≤ z ∧ z ≤ 9223372036854775807 := by
  obtain ⟨zs, h1, h2⟩ := nums_in ht he hc h
  exact ⟨zs, h1, fun z hz => bounds_i64 (h2 z hz)⟩
theorem bytes_in {t e : TypeId} {A : Option Addr} {n c : Nat} {d : DataW H} {p : List MemPlace} (ht : P.underlying t = some (.slice e)) (he : P.underlying e = some (.int .u8)) (hc : P.cellsOf e = 1)
    (h : DataW.Trod enc P w 0 (fun _ => true) true t (.slice A n c) d p) : ∃ zs : List Int, Holds w 1 A n c (zs.map (Value.int .u8)) ∧ ∀ z ∈ zs, 0 ≤ z ∧ z ≤ 255 := by
  obtain ⟨zs, h1, h2⟩ := nums_in ht he hc h
  exact ⟨zs, h1, fun z hz => bounds_u8 (h2 z hz)⟩
end

theorem own : ownKnob Try.prog.godebug = none := by kernel_rfl
theorem laidOut : laidOutB Try.prog = true := by kernel_rfl
end Go.Proofs.Ytdaokpfomoiboaa
