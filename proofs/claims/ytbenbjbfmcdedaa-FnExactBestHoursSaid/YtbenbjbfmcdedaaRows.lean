/-
  No cell of these rows narrows 'for every input' (looked for: loops, veiled, ifaces, maps, wideKeys, modest, calm, conditions, laid).
  DERIVED. THE GIVEN ROWS OF THIS SEAT. 7 by the template 'for every input the law returns true; each argument reads behind the call as it read before'; 0 by the template 'total and deterministic' (their statements: YtbenbjbfmcdedaaTotals.lean).
  GIVEN WITH THE SEED: the statements are not yours to turn. If you find one false, say at which input.
  Laid BY PROGRAM, IN A SANDBOX (cutbox-rows.mjs): the forced cells as the released guide's own fill.sh prints them over the translation b96af69b3fccb2ab… (all of the seat's roots in one cut). By AI agents, Wed Nov 11 2026. No macro, syntax, notation, axiom, sorry.
-/
import Derived.Test.YtbenbjbfmcdedaaChecked
import GoSem.Claim
import GoSem.ClaimJoined
import GoSem.ClaimMapViews
import Derived.JoinedTies
import Derived.KernelRfl
namespace Go.Proofs.Ytbenbjbfmcdedaa
/- THE CELL 'sum', in the pinned program and in every row, IS THE sha256 OF THE DUMP (.gsa) THAT YtbenbjbfmcdedaaProg.lean LOADS. Nothing in Lean hashes anything: it is a label: what it is worth is what the hold of that sum in a sandbox is worth. -/
noncomputable def Try.pinned : Pinned := { name := "ytbenbjbfmcdedaa", sum := "b96af69b3fccb2ab5ea08961f0e982b17fd50442edacaf825b4117287d319153", checked := Try.checked }
namespace Rows
def none {H : Type} : Left H := { results := [], args := [] }

/-- 'laws.FnExactPumpOk': WHATEVER THE INPUT: true; the input reads as it did. -/
def fnExactPumpOkSpec : ChangeSpec := { name := "fnExactPumpOk", fn := fun _ => fun
  | [d] => { results := [.lit (.bool true)], args := [d] }
  | _ => none }
def fnExactPumpOkRow : OpenClaim := { program := "ytbenbjbfmcdedaa", sum := "b96af69b3fccb2ab5ea08961f0e982b17fd50442edacaf825b4117287d319153", func := "loop.example/g03307/laws.FnExactPumpOk", spec := "fnExactPumpOk", apart := false }
def FnExactPumpOkSaid : Prop := fnExactPumpOkRow.holds Try.pinned (OpenSpec.ofChange fnExactPumpOkSpec)

/-- ITS FALSE NEIGHBOUR: 'it returns false'. Refute it at one input. -/
def fnExactPumpOkWrong : ChangeSpec := { name := "fnExactPumpOk", fn := fun _ => fun
  | [d] => { results := [.lit (.bool false)], args := [d] }
  | _ => none }
def FnExactPumpOkWrongFalsely : Prop := fnExactPumpOkRow.holds Try.pinned (OpenSpec.ofChange fnExactPumpOkWrong)

/-- 'laws.FnExactHoursFor': WHATEVER THE INPUT: true; the input reads as it did. -/
def fnExactHoursForSpec : ChangeSpec := { name := "fnExactHoursFor", fn := fun _ => fun
  | [d1, d2] => { results := [.lit (.bool true)], args := [d1, d2] }
  | _ => none }
def fnExactHoursForRow : OpenClaim := { program := "ytbenbjbfmcdedaa", sum := "b96af69b3fccb2ab5ea08961f0e982b17fd50442edacaf825b4117287d319153", func := "loop.example/g03307/laws.FnExactHoursFor", spec := "fnExactHoursFor", apart := false }
def FnExactHoursForSaid : Prop := fnExactHoursForRow.holds Try.pinned (OpenSpec.ofChange fnExactHoursForSpec)

/-- ITS FALSE NEIGHBOUR: 'it returns false'. Refute it at one input. -/
def fnExactHoursForWrong : ChangeSpec := { name := "fnExactHoursFor", fn := fun _ => fun
  | [d1, d2] => { results := [.lit (.bool false)], args := [d1, d2] }
  | _ => none }
def FnExactHoursForWrongFalsely : Prop := fnExactHoursForRow.holds Try.pinned (OpenSpec.ofChange fnExactHoursForWrong)

/-- 'laws.FnExactBetterPump': WHATEVER THE INPUT: true; the input reads as it did. -/
def fnExactBetterPumpSpec : ChangeSpec := { name := "fnExactBetterPump", fn := fun _ => fun
  | [d1, d2] => { results := [.lit (.bool true)], args := [d1, d2] }
  | _ => none }
def fnExactBetterPumpRow : OpenClaim := { program := "ytbenbjbfmcdedaa", sum := "b96af69b3fccb2ab5ea08961f0e982b17fd50442edacaf825b4117287d319153", func := "loop.example/g03307/laws.FnExactBetterPump", spec := "fnExactBetterPump", apart := false }
def FnExactBetterPumpSaid : Prop := fnExactBetterPumpRow.holds Try.pinned (OpenSpec.ofChange fnExactBetterPumpSpec)

/-- ITS FALSE NEIGHBOUR: 'it returns false'. Refute it at one input. -/
def fnExactBetterPumpWrong : ChangeSpec := { name := "fnExactBetterPump", fn := fun _ => fun
  | [d1, d2] => { results := [.lit (.bool false)], args := [d1, d2] }
  | _ => none }
def FnExactBetterPumpWrongFalsely : Prop := fnExactBetterPumpRow.holds Try.pinned (OpenSpec.ofChange fnExactBetterPumpWrong)

/-- 'laws.FnExactCostFor': WHATEVER THE INPUT: true; the input reads as it did. -/
def fnExactCostForSpec : ChangeSpec := { name := "fnExactCostFor", fn := fun _ => fun
  | [d1, d2, d3] => { results := [.lit (.bool true)], args := [d1, d2, d3] }
  | _ => none }
def fnExactCostForRow : OpenClaim := { program := "ytbenbjbfmcdedaa", sum := "b96af69b3fccb2ab5ea08961f0e982b17fd50442edacaf825b4117287d319153", func := "loop.example/g03307/laws.FnExactCostFor", spec := "fnExactCostFor", recurses := true, apart := false }
def FnExactCostForSaid : Prop := fnExactCostForRow.holds Try.pinned (OpenSpec.ofChange fnExactCostForSpec)

/-- ITS FALSE NEIGHBOUR: 'it returns false'. Refute it at one input. -/
def fnExactCostForWrong : ChangeSpec := { name := "fnExactCostFor", fn := fun _ => fun
  | [d1, d2, d3] => { results := [.lit (.bool false)], args := [d1, d2, d3] }
  | _ => none }
def FnExactCostForWrongFalsely : Prop := fnExactCostForRow.holds Try.pinned (OpenSpec.ofChange fnExactCostForWrong)

/-- 'laws.FnExactBestHours': WHATEVER THE INPUT: true; the input reads as it did. -/
def fnExactBestHoursSpec : ChangeSpec := { name := "fnExactBestHours", fn := fun _ => fun
  | [d1, d2, d3] => { results := [.lit (.bool true)], args := [d1, d2, d3] }
  | _ => none }
def fnExactBestHoursRow : OpenClaim := { program := "ytbenbjbfmcdedaa", sum := "b96af69b3fccb2ab5ea08961f0e982b17fd50442edacaf825b4117287d319153", func := "loop.example/g03307/laws.FnExactBestHours", spec := "fnExactBestHours", unfollowed := true, recurses := true, apart := false }
def FnExactBestHoursSaid : Prop := fnExactBestHoursRow.holds Try.pinned (OpenSpec.ofChange fnExactBestHoursSpec)

/-- ITS FALSE NEIGHBOUR: 'it returns false'. Refute it at one input. -/
def fnExactBestHoursWrong : ChangeSpec := { name := "fnExactBestHours", fn := fun _ => fun
  | [d1, d2, d3] => { results := [.lit (.bool false)], args := [d1, d2, d3] }
  | _ => none }
def FnExactBestHoursWrongFalsely : Prop := fnExactBestHoursRow.holds Try.pinned (OpenSpec.ofChange fnExactBestHoursWrong)

/-- 'laws.FnExactPumpsNeeded': WHATEVER THE INPUT: true; the input reads as it did. -/
def fnExactPumpsNeededSpec : ChangeSpec := { name := "fnExactPumpsNeeded", fn := fun _ => fun
  | [d1, d2, d3] => { results := [.lit (.bool true)], args := [d1, d2, d3] }
  | _ => none }
def fnExactPumpsNeededRow : OpenClaim := { program := "ytbenbjbfmcdedaa", sum := "b96af69b3fccb2ab5ea08961f0e982b17fd50442edacaf825b4117287d319153", func := "loop.example/g03307/laws.FnExactPumpsNeeded", spec := "fnExactPumpsNeeded", unfollowed := true, recurses := true, apart := false }
def FnExactPumpsNeededSaid : Prop := fnExactPumpsNeededRow.holds Try.pinned (OpenSpec.ofChange fnExactPumpsNeededSpec)

/-- ITS FALSE NEIGHBOUR: 'it returns false'. Refute it at one input. -/
def fnExactPumpsNeededWrong : ChangeSpec := { name := "fnExactPumpsNeeded", fn := fun _ => fun
  | [d1, d2, d3] => { results := [.lit (.bool false)], args := [d1, d2, d3] }
  | _ => none }
def FnExactPumpsNeededWrongFalsely : Prop := fnExactPumpsNeededRow.holds Try.pinned (OpenSpec.ofChange fnExactPumpsNeededWrong)

/-- 'laws.FnPumps': WHATEVER THE INPUT: true; the input reads as it did. -/
def fnPumpsSpec : ChangeSpec := { name := "fnPumps", fn := fun _ => fun
  | [d] => { results := [.lit (.bool true)], args := [d] }
  | _ => none }
def fnPumpsRow : OpenClaim := { program := "ytbenbjbfmcdedaa", sum := "b96af69b3fccb2ab5ea08961f0e982b17fd50442edacaf825b4117287d319153", func := "loop.example/g03307/laws.FnPumps", spec := "fnPumps", unfollowed := true, recurses := true, apart := false }
def FnPumpsSaid : Prop := fnPumpsRow.holds Try.pinned (OpenSpec.ofChange fnPumpsSpec)

/-- ITS FALSE NEIGHBOUR: 'it returns false'. Refute it at one input. -/
def fnPumpsWrong : ChangeSpec := { name := "fnPumps", fn := fun _ => fun
  | [d] => { results := [.lit (.bool false)], args := [d] }
  | _ => none }
def FnPumpsWrongFalsely : Prop := fnPumpsRow.holds Try.pinned (OpenSpec.ofChange fnPumpsWrong)

/- THE SECOND FORM. 'bulk': how many values and letters a reading holds, each counted each time it is reached (what is shared counts as often as it is met; a slice's spare places count too). A statement '..UptoSaid' is the law's where the arguments, and the package variables that the reading takes, are together of bulk at most 1048576: NARROWER than '..Said'. Prove '..Said' where nothing that the law and all that it calls make is longer than what came in: it says more and counts as full. Else prove '..UptoSaid'. A law counts once. -/
mutual
def uptoBulk {H : Type} : DataW H → Nat
  | .lit (.string bytes) => bytes.length + 1
  | .lit _ => 1
  | .nil => 1
  | .ptr d => uptoBulk d + 1
  | .slice elems spare => uptoBulkAll elems + uptoBulkAll spare + 1
  | .agg parts => uptoBulkAll parts + 1
  | .iface _ d => uptoBulk d + 1
  | .map entries => uptoBulkEntries entries + 1
  | .held _ => 1
def uptoBulkAll {H : Type} : List (DataW H) → Nat
  | [] => 0
  | d :: r => uptoBulk d + uptoBulkAll r
def uptoBulkEntries {H : Type} : List (Lit × DataW H) → Nat
  | [] => 0
  | x :: r => uptoBulkEntry x + uptoBulkEntries r
def uptoBulkEntry {H : Type} : Lit × DataW H → Nat
  | (.string bytes, d) => bytes.length + uptoBulk d + 1
  | (_, d) => uptoBulk d + 1
 end
def uptoSmall : (H : Type) → List (DataW H) → Bool := fun _ ds => decide (uptoBulkAll ds ≤ 1048576)
def OpenSpec.upto (s : _root_.Go.ChangeSpec) : _root_.Go.OpenSpec := { _root_.Go.OpenSpec.ofChange s with cond := some uptoSmall }

/-- 'laws.FnExactPumpOk', WHERE WHAT IT READS IS OF BULK AT MOST 1048576: true; the input reads as it did. -/
def fnExactPumpOkUptoRow : OpenClaim := { program := "ytbenbjbfmcdedaa", sum := "b96af69b3fccb2ab5ea08961f0e982b17fd50442edacaf825b4117287d319153", func := "loop.example/g03307/laws.FnExactPumpOk", spec := "fnExactPumpOk", apart := false, narrowed := true }
def FnExactPumpOkUptoSaid : Prop := fnExactPumpOkUptoRow.holds Try.pinned (OpenSpec.upto fnExactPumpOkSpec)

/-- 'laws.FnExactHoursFor', WHERE WHAT IT READS IS OF BULK AT MOST 1048576: true; the input reads as it did. -/
def fnExactHoursForUptoRow : OpenClaim := { program := "ytbenbjbfmcdedaa", sum := "b96af69b3fccb2ab5ea08961f0e982b17fd50442edacaf825b4117287d319153", func := "loop.example/g03307/laws.FnExactHoursFor", spec := "fnExactHoursFor", apart := false, narrowed := true }
def FnExactHoursForUptoSaid : Prop := fnExactHoursForUptoRow.holds Try.pinned (OpenSpec.upto fnExactHoursForSpec)

/-- 'laws.FnExactBetterPump', WHERE WHAT IT READS IS OF BULK AT MOST 1048576: true; the input reads as it did. -/
def fnExactBetterPumpUptoRow : OpenClaim := { program := "ytbenbjbfmcdedaa", sum := "b96af69b3fccb2ab5ea08961f0e982b17fd50442edacaf825b4117287d319153", func := "loop.example/g03307/laws.FnExactBetterPump", spec := "fnExactBetterPump", apart := false, narrowed := true }
def FnExactBetterPumpUptoSaid : Prop := fnExactBetterPumpUptoRow.holds Try.pinned (OpenSpec.upto fnExactBetterPumpSpec)

/-- 'laws.FnExactCostFor', WHERE WHAT IT READS IS OF BULK AT MOST 1048576: true; the input reads as it did. -/
def fnExactCostForUptoRow : OpenClaim := { program := "ytbenbjbfmcdedaa", sum := "b96af69b3fccb2ab5ea08961f0e982b17fd50442edacaf825b4117287d319153", func := "loop.example/g03307/laws.FnExactCostFor", spec := "fnExactCostFor", recurses := true, apart := false, narrowed := true }
def FnExactCostForUptoSaid : Prop := fnExactCostForUptoRow.holds Try.pinned (OpenSpec.upto fnExactCostForSpec)

/-- 'laws.FnExactBestHours', WHERE WHAT IT READS IS OF BULK AT MOST 1048576: true; the input reads as it did. -/
def fnExactBestHoursUptoRow : OpenClaim := { program := "ytbenbjbfmcdedaa", sum := "b96af69b3fccb2ab5ea08961f0e982b17fd50442edacaf825b4117287d319153", func := "loop.example/g03307/laws.FnExactBestHours", spec := "fnExactBestHours", unfollowed := true, recurses := true, apart := false, narrowed := true }
def FnExactBestHoursUptoSaid : Prop := fnExactBestHoursUptoRow.holds Try.pinned (OpenSpec.upto fnExactBestHoursSpec)

/-- 'laws.FnExactPumpsNeeded', WHERE WHAT IT READS IS OF BULK AT MOST 1048576: true; the input reads as it did. -/
def fnExactPumpsNeededUptoRow : OpenClaim := { program := "ytbenbjbfmcdedaa", sum := "b96af69b3fccb2ab5ea08961f0e982b17fd50442edacaf825b4117287d319153", func := "loop.example/g03307/laws.FnExactPumpsNeeded", spec := "fnExactPumpsNeeded", unfollowed := true, recurses := true, apart := false, narrowed := true }
def FnExactPumpsNeededUptoSaid : Prop := fnExactPumpsNeededUptoRow.holds Try.pinned (OpenSpec.upto fnExactPumpsNeededSpec)

/-- 'laws.FnPumps', WHERE WHAT IT READS IS OF BULK AT MOST 1048576: true; the input reads as it did. -/
def fnPumpsUptoRow : OpenClaim := { program := "ytbenbjbfmcdedaa", sum := "b96af69b3fccb2ab5ea08961f0e982b17fd50442edacaf825b4117287d319153", func := "loop.example/g03307/laws.FnPumps", spec := "fnPumps", unfollowed := true, recurses := true, apart := false, narrowed := true }
def FnPumpsUptoSaid : Prop := fnPumpsUptoRow.holds Try.pinned (OpenSpec.upto fnPumpsSpec)

end Rows
end Go.Proofs.Ytbenbjbfmcdedaa
