/-
  No cell of these rows narrows 'for every input' (looked for: loops, veiled, ifaces, maps, wideKeys, modest, calm, conditions, laid).
  DERIVED. THE GIVEN ROWS OF THIS SEAT. 6 by the template 'for every input the law returns true; each argument reads behind the call as it read before'; 0 by the template 'total and deterministic' (their statements: YticpkgiccpglmaaTotals.lean).
  GIVEN WITH THE SEED: the statements are not yours to turn. If you find one false, say at which input.
  Laid BY PROGRAM, IN A SANDBOX (cutbox-rows.mjs): the forced cells as the released guide's own fill.sh prints them over the translation fb9ea5c4000f0f64… (all of the seat's roots in one cut). By AI agents, Wed Nov 11 2026. No macro, syntax, notation, axiom, sorry.
-/
import Derived.Test.YticpkgiccpglmaaChecked
import GoSem.Claim
import GoSem.ClaimJoined
import GoSem.ClaimMapViews
import Derived.JoinedTies
import Derived.KernelRfl
namespace Go.Proofs.Yticpkgiccpglmaa
/- THE CELL 'sum', in the pinned program and in every row, IS THE sha256 OF THE DUMP (.gsa) THAT YticpkgiccpglmaaProg.lean LOADS. Nothing in Lean hashes anything: it is a label: what it is worth is what the hold of that sum in a sandbox is worth. -/
noncomputable def Try.pinned : Pinned := { name := "yticpkgiccpglmaa", sum := "fb9ea5c4000f0f647b7b7cf191bb63aa0cece7b5700e956a71a107642e4013aa", checked := Try.checked }
namespace Rows
def none {H : Type} : Left H := { results := [], args := [] }

/-- 'laws.FnExactUsedBetween': WHATEVER THE INPUT: true; the input reads as it did. -/
def fnExactUsedBetweenSpec : ChangeSpec := { name := "fnExactUsedBetween", fn := fun _ => fun
  | [d1, d2] => { results := [.lit (.bool true)], args := [d1, d2] }
  | _ => none }
def fnExactUsedBetweenRow : OpenClaim := { program := "yticpkgiccpglmaa", sum := "fb9ea5c4000f0f647b7b7cf191bb63aa0cece7b5700e956a71a107642e4013aa", func := "loop.example/g03307/laws.FnExactUsedBetween", spec := "fnExactUsedBetween", apart := false }
def FnExactUsedBetweenSaid : Prop := fnExactUsedBetweenRow.holds Try.pinned (OpenSpec.ofChange fnExactUsedBetweenSpec)

/-- ITS FALSE NEIGHBOUR: 'it returns false'. Refute it at one input. -/
def fnExactUsedBetweenWrong : ChangeSpec := { name := "fnExactUsedBetween", fn := fun _ => fun
  | [d1, d2] => { results := [.lit (.bool false)], args := [d1, d2] }
  | _ => none }
def FnExactUsedBetweenWrongFalsely : Prop := fnExactUsedBetweenRow.holds Try.pinned (OpenSpec.ofChange fnExactUsedBetweenWrong)

/-- 'laws.FnExactOffensesOk': WHATEVER THE INPUT: true; the input reads as it did. -/
def fnExactOffensesOkSpec : ChangeSpec := { name := "fnExactOffensesOk", fn := fun _ => fun
  | [d] => { results := [.lit (.bool true)], args := [d] }
  | _ => none }
def fnExactOffensesOkRow : OpenClaim := { program := "yticpkgiccpglmaa", sum := "fb9ea5c4000f0f647b7b7cf191bb63aa0cece7b5700e956a71a107642e4013aa", func := "loop.example/g03307/laws.FnExactOffensesOk", spec := "fnExactOffensesOk", apart := false }
def FnExactOffensesOkSaid : Prop := fnExactOffensesOkRow.holds Try.pinned (OpenSpec.ofChange fnExactOffensesOkSpec)

/-- ITS FALSE NEIGHBOUR: 'it returns false'. Refute it at one input. -/
def fnExactOffensesOkWrong : ChangeSpec := { name := "fnExactOffensesOk", fn := fun _ => fun
  | [d] => { results := [.lit (.bool false)], args := [d] }
  | _ => none }
def FnExactOffensesOkWrongFalsely : Prop := fnExactOffensesOkRow.holds Try.pinned (OpenSpec.ofChange fnExactOffensesOkWrong)

/-- 'laws.FnExactUsedInAll': WHATEVER THE INPUT: true; the input reads as it did. -/
def fnExactUsedInAllSpec : ChangeSpec := { name := "fnExactUsedInAll", fn := fun _ => fun
  | [d] => { results := [.lit (.bool true)], args := [d] }
  | _ => none }
def fnExactUsedInAllRow : OpenClaim := { program := "yticpkgiccpglmaa", sum := "fb9ea5c4000f0f647b7b7cf191bb63aa0cece7b5700e956a71a107642e4013aa", func := "loop.example/g03307/laws.FnExactUsedInAll", spec := "fnExactUsedInAll", apart := false }
def FnExactUsedInAllSaid : Prop := fnExactUsedInAllRow.holds Try.pinned (OpenSpec.ofChange fnExactUsedInAllSpec)

/-- ITS FALSE NEIGHBOUR: 'it returns false'. Refute it at one input. -/
def fnExactUsedInAllWrong : ChangeSpec := { name := "fnExactUsedInAll", fn := fun _ => fun
  | [d] => { results := [.lit (.bool false)], args := [d] }
  | _ => none }
def FnExactUsedInAllWrongFalsely : Prop := fnExactUsedInAllRow.holds Try.pinned (OpenSpec.ofChange fnExactUsedInAllWrong)

/-- 'laws.FnExactStandStill': WHATEVER THE INPUT: true; the input reads as it did. -/
def fnExactStandStillSpec : ChangeSpec := { name := "fnExactStandStill", fn := fun _ => fun
  | [d] => { results := [.lit (.bool true)], args := [d] }
  | _ => none }
def fnExactStandStillRow : OpenClaim := { program := "yticpkgiccpglmaa", sum := "fb9ea5c4000f0f647b7b7cf191bb63aa0cece7b5700e956a71a107642e4013aa", func := "loop.example/g03307/laws.FnExactStandStill", spec := "fnExactStandStill", apart := false }
def FnExactStandStillSaid : Prop := fnExactStandStillRow.holds Try.pinned (OpenSpec.ofChange fnExactStandStillSpec)

/-- ITS FALSE NEIGHBOUR: 'it returns false'. Refute it at one input. -/
def fnExactStandStillWrong : ChangeSpec := { name := "fnExactStandStill", fn := fun _ => fun
  | [d] => { results := [.lit (.bool false)], args := [d] }
  | _ => none }
def FnExactStandStillWrongFalsely : Prop := fnExactStandStillRow.holds Try.pinned (OpenSpec.ofChange fnExactStandStillWrong)

/-- 'laws.FnExactTurnedOver': WHATEVER THE INPUT: true; the input reads as it did. -/
def fnExactTurnedOverSpec : ChangeSpec := { name := "fnExactTurnedOver", fn := fun _ => fun
  | [d] => { results := [.lit (.bool true)], args := [d] }
  | _ => none }
def fnExactTurnedOverRow : OpenClaim := { program := "yticpkgiccpglmaa", sum := "fb9ea5c4000f0f647b7b7cf191bb63aa0cece7b5700e956a71a107642e4013aa", func := "loop.example/g03307/laws.FnExactTurnedOver", spec := "fnExactTurnedOver", apart := false }
def FnExactTurnedOverSaid : Prop := fnExactTurnedOverRow.holds Try.pinned (OpenSpec.ofChange fnExactTurnedOverSpec)

/-- ITS FALSE NEIGHBOUR: 'it returns false'. Refute it at one input. -/
def fnExactTurnedOverWrong : ChangeSpec := { name := "fnExactTurnedOver", fn := fun _ => fun
  | [d] => { results := [.lit (.bool false)], args := [d] }
  | _ => none }
def FnExactTurnedOverWrongFalsely : Prop := fnExactTurnedOverRow.holds Try.pinned (OpenSpec.ofChange fnExactTurnedOverWrong)

/-- 'laws.FnExactOutlierAt': WHATEVER THE INPUT: true; the input reads as it did. -/
def fnExactOutlierAtSpec : ChangeSpec := { name := "fnExactOutlierAt", fn := fun _ => fun
  | [d] => { results := [.lit (.bool true)], args := [d] }
  | _ => none }
def fnExactOutlierAtRow : OpenClaim := { program := "yticpkgiccpglmaa", sum := "fb9ea5c4000f0f647b7b7cf191bb63aa0cece7b5700e956a71a107642e4013aa", func := "loop.example/g03307/laws.FnExactOutlierAt", spec := "fnExactOutlierAt", recurses := true, apart := false }
def FnExactOutlierAtSaid : Prop := fnExactOutlierAtRow.holds Try.pinned (OpenSpec.ofChange fnExactOutlierAtSpec)

/-- ITS FALSE NEIGHBOUR: 'it returns false'. Refute it at one input. -/
def fnExactOutlierAtWrong : ChangeSpec := { name := "fnExactOutlierAt", fn := fun _ => fun
  | [d] => { results := [.lit (.bool false)], args := [d] }
  | _ => none }
def FnExactOutlierAtWrongFalsely : Prop := fnExactOutlierAtRow.holds Try.pinned (OpenSpec.ofChange fnExactOutlierAtWrong)

/- THE SECOND FORM. 'bulk': how many values and letters a reading holds, each counted each time it is reached (what is shared counts as often as it is met; a slice's spare places count too). A statement '..UptoSaid' is the law's where the arguments, and the package variables that the reading takes, are together of bulk at most 1048576: NARROWER than '..Said'. Prove '..Said' where nothing that the law and all that it calls make is longer than what came in: it says more and counts as full. Else prove '..UptoSaid'. A law counts once. -/
mutual
def uptoBulk {H : Type} : DataW H → Nat
  | .lit (.string bytes) => bytes.length + 1
  | .lit _ => 1
  | .nil => 1
  | .ptr d => uptoBulk d + 1
  | .slice elems spare => uptoBulkAll elems + uptoBulkAll spare + 1
  | .agg parts => uptoBulkAll parts + 1
  | .iface _ d => uptoBulk d + 1
  | .map entries => uptoBulkEntries entries + 1
  | .held _ => 1
def uptoBulkAll {H : Type} : List (DataW H) → Nat
  | [] => 0
  | d :: r => uptoBulk d + uptoBulkAll r
def uptoBulkEntries {H : Type} : List (Lit × DataW H) → Nat
  | [] => 0
  | x :: r => uptoBulkEntry x + uptoBulkEntries r
def uptoBulkEntry {H : Type} : Lit × DataW H → Nat
  | (.string bytes, d) => bytes.length + uptoBulk d + 1
  | (_, d) => uptoBulk d + 1
 end
def uptoSmall : (H : Type) → List (DataW H) → Bool := fun _ ds => decide (uptoBulkAll ds ≤ 1048576)
def OpenSpec.upto (s : _root_.Go.ChangeSpec) : _root_.Go.OpenSpec := { _root_.Go.OpenSpec.ofChange s with cond := some uptoSmall }

/-- 'laws.FnExactUsedBetween', WHERE WHAT IT READS IS OF BULK AT MOST 1048576: true; the input reads as it did. -/
def fnExactUsedBetweenUptoRow : OpenClaim := { program := "yticpkgiccpglmaa", sum := "fb9ea5c4000f0f647b7b7cf191bb63aa0cece7b5700e956a71a107642e4013aa", func := "loop.example/g03307/laws.FnExactUsedBetween", spec := "fnExactUsedBetween", apart := false, narrowed := true }
def FnExactUsedBetweenUptoSaid : Prop := fnExactUsedBetweenUptoRow.holds Try.pinned (OpenSpec.upto fnExactUsedBetweenSpec)

/-- 'laws.FnExactOffensesOk', WHERE WHAT IT READS IS OF BULK AT MOST 1048576: true; the input reads as it did. -/
def fnExactOffensesOkUptoRow : OpenClaim := { program := "yticpkgiccpglmaa", sum := "fb9ea5c4000f0f647b7b7cf191bb63aa0cece7b5700e956a71a107642e4013aa", func := "loop.example/g03307/laws.FnExactOffensesOk", spec := "fnExactOffensesOk", apart := false, narrowed := true }
def FnExactOffensesOkUptoSaid : Prop := fnExactOffensesOkUptoRow.holds Try.pinned (OpenSpec.upto fnExactOffensesOkSpec)

/-- 'laws.FnExactUsedInAll', WHERE WHAT IT READS IS OF BULK AT MOST 1048576: true; the input reads as it did. -/
def fnExactUsedInAllUptoRow : OpenClaim := { program := "yticpkgiccpglmaa", sum := "fb9ea5c4000f0f647b7b7cf191bb63aa0cece7b5700e956a71a107642e4013aa", func := "loop.example/g03307/laws.FnExactUsedInAll", spec := "fnExactUsedInAll", apart := false, narrowed := true }
def FnExactUsedInAllUptoSaid : Prop := fnExactUsedInAllUptoRow.holds Try.pinned (OpenSpec.upto fnExactUsedInAllSpec)

/-- 'laws.FnExactStandStill', WHERE WHAT IT READS IS OF BULK AT MOST 1048576: true; the input reads as it did. -/
def fnExactStandStillUptoRow : OpenClaim := { program := "yticpkgiccpglmaa", sum := "fb9ea5c4000f0f647b7b7cf191bb63aa0cece7b5700e956a71a107642e4013aa", func := "loop.example/g03307/laws.FnExactStandStill", spec := "fnExactStandStill", apart := false, narrowed := true }
def FnExactStandStillUptoSaid : Prop := fnExactStandStillUptoRow.holds Try.pinned (OpenSpec.upto fnExactStandStillSpec)

/-- 'laws.FnExactTurnedOver', WHERE WHAT IT READS IS OF BULK AT MOST 1048576: true; the input reads as it did. -/
def fnExactTurnedOverUptoRow : OpenClaim := { program := "yticpkgiccpglmaa", sum := "fb9ea5c4000f0f647b7b7cf191bb63aa0cece7b5700e956a71a107642e4013aa", func := "loop.example/g03307/laws.FnExactTurnedOver", spec := "fnExactTurnedOver", apart := false, narrowed := true }
def FnExactTurnedOverUptoSaid : Prop := fnExactTurnedOverUptoRow.holds Try.pinned (OpenSpec.upto fnExactTurnedOverSpec)

/-- 'laws.FnExactOutlierAt', WHERE WHAT IT READS IS OF BULK AT MOST 1048576: true; the input reads as it did. -/
def fnExactOutlierAtUptoRow : OpenClaim := { program := "yticpkgiccpglmaa", sum := "fb9ea5c4000f0f647b7b7cf191bb63aa0cece7b5700e956a71a107642e4013aa", func := "loop.example/g03307/laws.FnExactOutlierAt", spec := "fnExactOutlierAt", recurses := true, apart := false, narrowed := true }
def FnExactOutlierAtUptoSaid : Prop := fnExactOutlierAtUptoRow.holds Try.pinned (OpenSpec.upto fnExactOutlierAtSpec)

end Rows
end Go.Proofs.Yticpkgiccpglmaa
