/-
  No cell of these rows narrows 'for every input' (looked for: loops, veiled, ifaces, maps, wideKeys, modest, calm, conditions, laid).
  DERIVED. THE GIVEN ROWS OF THIS SEAT. 7 by the template 'for every input the law returns true; each argument reads behind the call as it read before'; 0 by the template 'total and deterministic' (their statements: YtecifmpkjegodaaTotals.lean).
  GIVEN WITH THE SEED: the statements are not yours to turn. If you find one false, say at which input.
  Laid BY PROGRAM, IN A SANDBOX (cutbox-rows.mjs): the forced cells as the released guide's own fill.sh prints them over the translation 51bd0a7b0c6117de… (all of the seat's roots in one cut). By AI agents, Wed Nov 11 2026. No macro, syntax, notation, axiom, sorry.
-/
import Derived.Test.YtecifmpkjegodaaChecked
import GoSem.Claim
import GoSem.ClaimJoined
import GoSem.ClaimMapViews
import Derived.JoinedTies
import Derived.KernelRfl
namespace Go.Proofs.Ytecifmpkjegodaa
/- THE CELL 'sum', in the pinned program and in every row, IS THE sha256 OF THE DUMP (.gsa) THAT YtecifmpkjegodaaProg.lean LOADS. Nothing in Lean hashes anything: it is a label: what it is worth is what the hold of that sum in a sandbox is worth. -/
noncomputable def Try.pinned : Pinned := { name := "ytecifmpkjegodaa", sum := "51bd0a7b0c6117de53a0ced35134970c29657123d6276c473a8b7ccb3a9e97c1", checked := Try.checked }
namespace Rows
def none {H : Type} : Left H := { results := [], args := [] }

/-- 'laws.FnExactBatchesOk': WHATEVER THE INPUT: true; the input reads as it did. -/
def fnExactBatchesOkSpec : ChangeSpec := { name := "fnExactBatchesOk", fn := fun _ => fun
  | [d] => { results := [.lit (.bool true)], args := [d] }
  | _ => none }
def fnExactBatchesOkRow : OpenClaim := { program := "ytecifmpkjegodaa", sum := "51bd0a7b0c6117de53a0ced35134970c29657123d6276c473a8b7ccb3a9e97c1", func := "loop.example/g03307/laws.FnExactBatchesOk", spec := "fnExactBatchesOk", apart := false }
def FnExactBatchesOkSaid : Prop := fnExactBatchesOkRow.holds Try.pinned (OpenSpec.ofChange fnExactBatchesOkSpec)

/-- ITS FALSE NEIGHBOUR: 'it returns false'. Refute it at one input. -/
def fnExactBatchesOkWrong : ChangeSpec := { name := "fnExactBatchesOk", fn := fun _ => fun
  | [d] => { results := [.lit (.bool false)], args := [d] }
  | _ => none }
def FnExactBatchesOkWrongFalsely : Prop := fnExactBatchesOkRow.holds Try.pinned (OpenSpec.ofChange fnExactBatchesOkWrong)

/-- 'laws.FnExactLitersIn': WHATEVER THE INPUT: true; the input reads as it did. -/
def fnExactLitersInSpec : ChangeSpec := { name := "fnExactLitersIn", fn := fun _ => fun
  | [d] => { results := [.lit (.bool true)], args := [d] }
  | _ => none }
def fnExactLitersInRow : OpenClaim := { program := "ytecifmpkjegodaa", sum := "51bd0a7b0c6117de53a0ced35134970c29657123d6276c473a8b7ccb3a9e97c1", func := "loop.example/g03307/laws.FnExactLitersIn", spec := "fnExactLitersIn", apart := false }
def FnExactLitersInSaid : Prop := fnExactLitersInRow.holds Try.pinned (OpenSpec.ofChange fnExactLitersInSpec)

/-- ITS FALSE NEIGHBOUR: 'it returns false'. Refute it at one input. -/
def fnExactLitersInWrong : ChangeSpec := { name := "fnExactLitersIn", fn := fun _ => fun
  | [d] => { results := [.lit (.bool false)], args := [d] }
  | _ => none }
def FnExactLitersInWrongFalsely : Prop := fnExactLitersInRow.holds Try.pinned (OpenSpec.ofChange fnExactLitersInWrong)

/-- 'laws.FnExactOlderThan': WHATEVER THE INPUT: true; the input reads as it did. -/
def fnExactOlderThanSpec : ChangeSpec := { name := "fnExactOlderThan", fn := fun _ => fun
  | [d1, d2] => { results := [.lit (.bool true)], args := [d1, d2] }
  | _ => none }
def fnExactOlderThanRow : OpenClaim := { program := "ytecifmpkjegodaa", sum := "51bd0a7b0c6117de53a0ced35134970c29657123d6276c473a8b7ccb3a9e97c1", func := "loop.example/g03307/laws.FnExactOlderThan", spec := "fnExactOlderThan", apart := false }
def FnExactOlderThanSaid : Prop := fnExactOlderThanRow.holds Try.pinned (OpenSpec.ofChange fnExactOlderThanSpec)

/-- ITS FALSE NEIGHBOUR: 'it returns false'. Refute it at one input. -/
def fnExactOlderThanWrong : ChangeSpec := { name := "fnExactOlderThan", fn := fun _ => fun
  | [d1, d2] => { results := [.lit (.bool false)], args := [d1, d2] }
  | _ => none }
def FnExactOlderThanWrongFalsely : Prop := fnExactOlderThanRow.holds Try.pinned (OpenSpec.ofChange fnExactOlderThanWrong)

/-- 'laws.FnExactAverageDay': WHATEVER THE INPUT: true; the input reads as it did. -/
def fnExactAverageDaySpec : ChangeSpec := { name := "fnExactAverageDay", fn := fun _ => fun
  | [d] => { results := [.lit (.bool true)], args := [d] }
  | _ => none }
def fnExactAverageDayRow : OpenClaim := { program := "ytecifmpkjegodaa", sum := "51bd0a7b0c6117de53a0ced35134970c29657123d6276c473a8b7ccb3a9e97c1", func := "loop.example/g03307/laws.FnExactAverageDay", spec := "fnExactAverageDay", apart := false }
def FnExactAverageDaySaid : Prop := fnExactAverageDayRow.holds Try.pinned (OpenSpec.ofChange fnExactAverageDaySpec)

/-- ITS FALSE NEIGHBOUR: 'it returns false'. Refute it at one input. -/
def fnExactAverageDayWrong : ChangeSpec := { name := "fnExactAverageDay", fn := fun _ => fun
  | [d] => { results := [.lit (.bool false)], args := [d] }
  | _ => none }
def FnExactAverageDayWrongFalsely : Prop := fnExactAverageDayRow.holds Try.pinned (OpenSpec.ofChange fnExactAverageDayWrong)

/-- 'laws.FnExactPutBatch': WHATEVER THE INPUT: true; the input reads as it did. -/
def fnExactPutBatchSpec : ChangeSpec := { name := "fnExactPutBatch", fn := fun _ => fun
  | [d1, d2, d3] => { results := [.lit (.bool true)], args := [d1, d2, d3] }
  | _ => none }
def fnExactPutBatchRow : OpenClaim := { program := "ytecifmpkjegodaa", sum := "51bd0a7b0c6117de53a0ced35134970c29657123d6276c473a8b7ccb3a9e97c1", func := "loop.example/g03307/laws.FnExactPutBatch", spec := "fnExactPutBatch", apart := false }
def FnExactPutBatchSaid : Prop := fnExactPutBatchRow.holds Try.pinned (OpenSpec.ofChange fnExactPutBatchSpec)

/-- ITS FALSE NEIGHBOUR: 'it returns false'. Refute it at one input. -/
def fnExactPutBatchWrong : ChangeSpec := { name := "fnExactPutBatch", fn := fun _ => fun
  | [d1, d2, d3] => { results := [.lit (.bool false)], args := [d1, d2, d3] }
  | _ => none }
def FnExactPutBatchWrongFalsely : Prop := fnExactPutBatchRow.holds Try.pinned (OpenSpec.ofChange fnExactPutBatchWrong)

/-- 'laws.FnExactDrinkOldest': WHATEVER THE INPUT: true; the input reads as it did. -/
def fnExactDrinkOldestSpec : ChangeSpec := { name := "fnExactDrinkOldest", fn := fun _ => fun
  | [d1, d2] => { results := [.lit (.bool true)], args := [d1, d2] }
  | _ => none }
def fnExactDrinkOldestRow : OpenClaim := { program := "ytecifmpkjegodaa", sum := "51bd0a7b0c6117de53a0ced35134970c29657123d6276c473a8b7ccb3a9e97c1", func := "loop.example/g03307/laws.FnExactDrinkOldest", spec := "fnExactDrinkOldest", apart := false }
def FnExactDrinkOldestSaid : Prop := fnExactDrinkOldestRow.holds Try.pinned (OpenSpec.ofChange fnExactDrinkOldestSpec)

/-- ITS FALSE NEIGHBOUR: 'it returns false'. Refute it at one input. -/
def fnExactDrinkOldestWrong : ChangeSpec := { name := "fnExactDrinkOldest", fn := fun _ => fun
  | [d1, d2] => { results := [.lit (.bool false)], args := [d1, d2] }
  | _ => none }
def FnExactDrinkOldestWrongFalsely : Prop := fnExactDrinkOldestRow.holds Try.pinned (OpenSpec.ofChange fnExactDrinkOldestWrong)

/-- 'laws.FnAges': WHATEVER THE INPUT: true; the input reads as it did. -/
def fnAgesSpec : ChangeSpec := { name := "fnAges", fn := fun _ => fun
  | [d] => { results := [.lit (.bool true)], args := [d] }
  | _ => none }
def fnAgesRow : OpenClaim := { program := "ytecifmpkjegodaa", sum := "51bd0a7b0c6117de53a0ced35134970c29657123d6276c473a8b7ccb3a9e97c1", func := "loop.example/g03307/laws.FnAges", spec := "fnAges", apart := false }
def FnAgesSaid : Prop := fnAgesRow.holds Try.pinned (OpenSpec.ofChange fnAgesSpec)

/-- ITS FALSE NEIGHBOUR: 'it returns false'. Refute it at one input. -/
def fnAgesWrong : ChangeSpec := { name := "fnAges", fn := fun _ => fun
  | [d] => { results := [.lit (.bool false)], args := [d] }
  | _ => none }
def FnAgesWrongFalsely : Prop := fnAgesRow.holds Try.pinned (OpenSpec.ofChange fnAgesWrong)

/- THE SECOND FORM. 'bulk': how many values and letters a reading holds, each counted each time it is reached (what is shared counts as often as it is met; a slice's spare places count too). A statement '..UptoSaid' is the law's where the arguments, and the package variables that the reading takes, are together of bulk at most 1048576: NARROWER than '..Said'. Prove '..Said' where nothing that the law and all that it calls make is longer than what came in: it says more and counts as full. Else prove '..UptoSaid'. A law counts once. -/
mutual
def uptoBulk {H : Type} : DataW H → Nat
  | .lit (.string bytes) => bytes.length + 1
  | .lit _ => 1
  | .nil => 1
  | .ptr d => uptoBulk d + 1
  | .slice elems spare => uptoBulkAll elems + uptoBulkAll spare + 1
  | .agg parts => uptoBulkAll parts + 1
  | .iface _ d => uptoBulk d + 1
  | .map entries => uptoBulkEntries entries + 1
  | .held _ => 1
def uptoBulkAll {H : Type} : List (DataW H) → Nat
  | [] => 0
  | d :: r => uptoBulk d + uptoBulkAll r
def uptoBulkEntries {H : Type} : List (Lit × DataW H) → Nat
  | [] => 0
  | x :: r => uptoBulkEntry x + uptoBulkEntries r
def uptoBulkEntry {H : Type} : Lit × DataW H → Nat
  | (.string bytes, d) => bytes.length + uptoBulk d + 1
  | (_, d) => uptoBulk d + 1
 end
def uptoSmall : (H : Type) → List (DataW H) → Bool := fun _ ds => decide (uptoBulkAll ds ≤ 1048576)
def OpenSpec.upto (s : _root_.Go.ChangeSpec) : _root_.Go.OpenSpec := { _root_.Go.OpenSpec.ofChange s with cond := some uptoSmall }

/-- 'laws.FnExactBatchesOk', WHERE WHAT IT READS IS OF BULK AT MOST 1048576: true; the input reads as it did. -/
def fnExactBatchesOkUptoRow : OpenClaim := { program := "ytecifmpkjegodaa", sum := "51bd0a7b0c6117de53a0ced35134970c29657123d6276c473a8b7ccb3a9e97c1", func := "loop.example/g03307/laws.FnExactBatchesOk", spec := "fnExactBatchesOk", apart := false, narrowed := true }
def FnExactBatchesOkUptoSaid : Prop := fnExactBatchesOkUptoRow.holds Try.pinned (OpenSpec.upto fnExactBatchesOkSpec)

/-- 'laws.FnExactLitersIn', WHERE WHAT IT READS IS OF BULK AT MOST 1048576: true; the input reads as it did. -/
def fnExactLitersInUptoRow : OpenClaim := { program := "ytecifmpkjegodaa", sum := "51bd0a7b0c6117de53a0ced35134970c29657123d6276c473a8b7ccb3a9e97c1", func := "loop.example/g03307/laws.FnExactLitersIn", spec := "fnExactLitersIn", apart := false, narrowed := true }
def FnExactLitersInUptoSaid : Prop := fnExactLitersInUptoRow.holds Try.pinned (OpenSpec.upto fnExactLitersInSpec)

/-- 'laws.FnExactOlderThan', WHERE WHAT IT READS IS OF BULK AT MOST 1048576: true; the input reads as it did. -/
def fnExactOlderThanUptoRow : OpenClaim := { program := "ytecifmpkjegodaa", sum := "51bd0a7b0c6117de53a0ced35134970c29657123d6276c473a8b7ccb3a9e97c1", func := "loop.example/g03307/laws.FnExactOlderThan", spec := "fnExactOlderThan", apart := false, narrowed := true }
def FnExactOlderThanUptoSaid : Prop := fnExactOlderThanUptoRow.holds Try.pinned (OpenSpec.upto fnExactOlderThanSpec)

/-- 'laws.FnExactAverageDay', WHERE WHAT IT READS IS OF BULK AT MOST 1048576: true; the input reads as it did. -/
def fnExactAverageDayUptoRow : OpenClaim := { program := "ytecifmpkjegodaa", sum := "51bd0a7b0c6117de53a0ced35134970c29657123d6276c473a8b7ccb3a9e97c1", func := "loop.example/g03307/laws.FnExactAverageDay", spec := "fnExactAverageDay", apart := false, narrowed := true }
def FnExactAverageDayUptoSaid : Prop := fnExactAverageDayUptoRow.holds Try.pinned (OpenSpec.upto fnExactAverageDaySpec)

/-- 'laws.FnExactPutBatch', WHERE WHAT IT READS IS OF BULK AT MOST 1048576: true; the input reads as it did. -/
def fnExactPutBatchUptoRow : OpenClaim := { program := "ytecifmpkjegodaa", sum := "51bd0a7b0c6117de53a0ced35134970c29657123d6276c473a8b7ccb3a9e97c1", func := "loop.example/g03307/laws.FnExactPutBatch", spec := "fnExactPutBatch", apart := false, narrowed := true }
def FnExactPutBatchUptoSaid : Prop := fnExactPutBatchUptoRow.holds Try.pinned (OpenSpec.upto fnExactPutBatchSpec)

/-- 'laws.FnExactDrinkOldest', WHERE WHAT IT READS IS OF BULK AT MOST 1048576: true; the input reads as it did. -/
def fnExactDrinkOldestUptoRow : OpenClaim := { program := "ytecifmpkjegodaa", sum := "51bd0a7b0c6117de53a0ced35134970c29657123d6276c473a8b7ccb3a9e97c1", func := "loop.example/g03307/laws.FnExactDrinkOldest", spec := "fnExactDrinkOldest", apart := false, narrowed := true }
def FnExactDrinkOldestUptoSaid : Prop := fnExactDrinkOldestUptoRow.holds Try.pinned (OpenSpec.upto fnExactDrinkOldestSpec)

/-- 'laws.FnAges', WHERE WHAT IT READS IS OF BULK AT MOST 1048576: true; the input reads as it did. -/
def fnAgesUptoRow : OpenClaim := { program := "ytecifmpkjegodaa", sum := "51bd0a7b0c6117de53a0ced35134970c29657123d6276c473a8b7ccb3a9e97c1", func := "loop.example/g03307/laws.FnAges", spec := "fnAges", apart := false, narrowed := true }
def FnAgesUptoSaid : Prop := fnAgesUptoRow.holds Try.pinned (OpenSpec.upto fnAgesSpec)

end Rows
end Go.Proofs.Ytecifmpkjegodaa
