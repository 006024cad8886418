/-
  No cell of these rows narrows 'for every input' (looked for: loops, veiled, ifaces, maps, wideKeys, modest, calm, conditions, laid).
  DERIVED. THE GIVEN ROWS OF THIS SEAT. 6 by the template 'for every input the law returns true; each argument reads behind the call as it read before'; 0 by the template 'total and deterministic' (their statements: YtdaokpfomoiboaaTotals.lean).
  GIVEN WITH THE SEED: the statements are not yours to turn. If you find one false, say at which input.
  Laid BY PROGRAM, IN A SANDBOX (cutbox-rows.mjs): the forced cells as the released guide's own fill.sh prints them over the translation 9d6ea8db83ef1110… (all of the seat's roots in one cut). By AI agents, Wed Nov 11 2026. No macro, syntax, notation, axiom, sorry.
-/
import Derived.Test.YtdaokpfomoiboaaChecked
import GoSem.Claim
import GoSem.ClaimJoined
import GoSem.ClaimMapViews
import Derived.JoinedTies
import Derived.KernelRfl
namespace Go.Proofs.Ytdaokpfomoiboaa
/- THE CELL 'sum', in the pinned program and in every row, IS THE sha256 OF THE DUMP (.gsa) THAT YtdaokpfomoiboaaProg.lean LOADS. Nothing in Lean hashes anything: it is a label: what it is worth is what the hold of that sum in a sandbox is worth. -/
noncomputable def Try.pinned : Pinned := { name := "ytdaokpfomoiboaa", sum := "9d6ea8db83ef1110e3f8816c6747f01c97c5e15a76a2fc05c620bba9eef8bf8b", checked := Try.checked }
namespace Rows
def none {H : Type} : Left H := { results := [], args := [] }

/-- 'laws.FnExactTankOk': WHATEVER THE INPUT: true; the input reads as it did. -/
def fnExactTankOkSpec : ChangeSpec := { name := "fnExactTankOk", fn := fun _ => fun
  | [d] => { results := [.lit (.bool true)], args := [d] }
  | _ => none }
def fnExactTankOkRow : OpenClaim := { program := "ytdaokpfomoiboaa", sum := "9d6ea8db83ef1110e3f8816c6747f01c97c5e15a76a2fc05c620bba9eef8bf8b", func := "loop.example/g03307/laws.FnExactTankOk", spec := "fnExactTankOk", apart := false }
def FnExactTankOkSaid : Prop := fnExactTankOkRow.holds Try.pinned (OpenSpec.ofChange fnExactTankOkSpec)

/-- ITS FALSE NEIGHBOUR: 'it returns false'. Refute it at one input. -/
def fnExactTankOkWrong : ChangeSpec := { name := "fnExactTankOk", fn := fun _ => fun
  | [d] => { results := [.lit (.bool false)], args := [d] }
  | _ => none }
def FnExactTankOkWrongFalsely : Prop := fnExactTankOkRow.holds Try.pinned (OpenSpec.ofChange fnExactTankOkWrong)

/-- 'laws.FnExactLeakHour': WHATEVER THE INPUT: true; the input reads as it did. -/
def fnExactLeakHourSpec : ChangeSpec := { name := "fnExactLeakHour", fn := fun _ => fun
  | [d] => { results := [.lit (.bool true)], args := [d] }
  | _ => none }
def fnExactLeakHourRow : OpenClaim := { program := "ytdaokpfomoiboaa", sum := "9d6ea8db83ef1110e3f8816c6747f01c97c5e15a76a2fc05c620bba9eef8bf8b", func := "loop.example/g03307/laws.FnExactLeakHour", spec := "fnExactLeakHour", apart := false }
def FnExactLeakHourSaid : Prop := fnExactLeakHourRow.holds Try.pinned (OpenSpec.ofChange fnExactLeakHourSpec)

/-- ITS FALSE NEIGHBOUR: 'it returns false'. Refute it at one input. -/
def fnExactLeakHourWrong : ChangeSpec := { name := "fnExactLeakHour", fn := fun _ => fun
  | [d] => { results := [.lit (.bool false)], args := [d] }
  | _ => none }
def FnExactLeakHourWrongFalsely : Prop := fnExactLeakHourRow.holds Try.pinned (OpenSpec.ofChange fnExactLeakHourWrong)

/-- 'laws.FnExactLevelAfter': WHATEVER THE INPUT: true; the input reads as it did. -/
def fnExactLevelAfterSpec : ChangeSpec := { name := "fnExactLevelAfter", fn := fun _ => fun
  | [d1, d2] => { results := [.lit (.bool true)], args := [d1, d2] }
  | _ => none }
def fnExactLevelAfterRow : OpenClaim := { program := "ytdaokpfomoiboaa", sum := "9d6ea8db83ef1110e3f8816c6747f01c97c5e15a76a2fc05c620bba9eef8bf8b", func := "loop.example/g03307/laws.FnExactLevelAfter", spec := "fnExactLevelAfter", apart := false }
def FnExactLevelAfterSaid : Prop := fnExactLevelAfterRow.holds Try.pinned (OpenSpec.ofChange fnExactLevelAfterSpec)

/-- ITS FALSE NEIGHBOUR: 'it returns false'. Refute it at one input. -/
def fnExactLevelAfterWrong : ChangeSpec := { name := "fnExactLevelAfter", fn := fun _ => fun
  | [d1, d2] => { results := [.lit (.bool false)], args := [d1, d2] }
  | _ => none }
def FnExactLevelAfterWrongFalsely : Prop := fnExactLevelAfterRow.holds Try.pinned (OpenSpec.ofChange fnExactLevelAfterWrong)

/-- 'laws.FnExactGuessHole': WHATEVER THE INPUT: true; the input reads as it did. -/
def fnExactGuessHoleSpec : ChangeSpec := { name := "fnExactGuessHole", fn := fun _ => fun
  | [d] => { results := [.lit (.bool true)], args := [d] }
  | _ => none }
def fnExactGuessHoleRow : OpenClaim := { program := "ytdaokpfomoiboaa", sum := "9d6ea8db83ef1110e3f8816c6747f01c97c5e15a76a2fc05c620bba9eef8bf8b", func := "loop.example/g03307/laws.FnExactGuessHole", spec := "fnExactGuessHole", apart := false }
def FnExactGuessHoleSaid : Prop := fnExactGuessHoleRow.holds Try.pinned (OpenSpec.ofChange fnExactGuessHoleSpec)

/-- ITS FALSE NEIGHBOUR: 'it returns false'. Refute it at one input. -/
def fnExactGuessHoleWrong : ChangeSpec := { name := "fnExactGuessHole", fn := fun _ => fun
  | [d] => { results := [.lit (.bool false)], args := [d] }
  | _ => none }
def FnExactGuessHoleWrongFalsely : Prop := fnExactGuessHoleRow.holds Try.pinned (OpenSpec.ofChange fnExactGuessHoleWrong)

/-- 'laws.FnExactPossibleRates': WHATEVER THE INPUT: true; the input reads as it did. -/
def fnExactPossibleRatesSpec : ChangeSpec := { name := "fnExactPossibleRates", fn := fun _ => fun
  | [d1, d2] => { results := [.lit (.bool true)], args := [d1, d2] }
  | _ => none }
def fnExactPossibleRatesRow : OpenClaim := { program := "ytdaokpfomoiboaa", sum := "9d6ea8db83ef1110e3f8816c6747f01c97c5e15a76a2fc05c620bba9eef8bf8b", func := "loop.example/g03307/laws.FnExactPossibleRates", spec := "fnExactPossibleRates", apart := false }
def FnExactPossibleRatesSaid : Prop := fnExactPossibleRatesRow.holds Try.pinned (OpenSpec.ofChange fnExactPossibleRatesSpec)

/-- ITS FALSE NEIGHBOUR: 'it returns false'. Refute it at one input. -/
def fnExactPossibleRatesWrong : ChangeSpec := { name := "fnExactPossibleRates", fn := fun _ => fun
  | [d1, d2] => { results := [.lit (.bool false)], args := [d1, d2] }
  | _ => none }
def FnExactPossibleRatesWrongFalsely : Prop := fnExactPossibleRatesRow.holds Try.pinned (OpenSpec.ofChange fnExactPossibleRatesWrong)

/-- 'laws.FnLeaks': WHATEVER THE INPUT: true; the input reads as it did. -/
def fnLeaksSpec : ChangeSpec := { name := "fnLeaks", fn := fun _ => fun
  | [d] => { results := [.lit (.bool true)], args := [d] }
  | _ => none }
def fnLeaksRow : OpenClaim := { program := "ytdaokpfomoiboaa", sum := "9d6ea8db83ef1110e3f8816c6747f01c97c5e15a76a2fc05c620bba9eef8bf8b", func := "loop.example/g03307/laws.FnLeaks", spec := "fnLeaks", apart := false }
def FnLeaksSaid : Prop := fnLeaksRow.holds Try.pinned (OpenSpec.ofChange fnLeaksSpec)

/-- ITS FALSE NEIGHBOUR: 'it returns false'. Refute it at one input. -/
def fnLeaksWrong : ChangeSpec := { name := "fnLeaks", fn := fun _ => fun
  | [d] => { results := [.lit (.bool false)], args := [d] }
  | _ => none }
def FnLeaksWrongFalsely : Prop := fnLeaksRow.holds Try.pinned (OpenSpec.ofChange fnLeaksWrong)

/- THE SECOND FORM. 'bulk': how many values and letters a reading holds, each counted each time it is reached (what is shared counts as often as it is met; a slice's spare places count too). A statement '..UptoSaid' is the law's where the arguments, and the package variables that the reading takes, are together of bulk at most 1048576: NARROWER than '..Said'. Prove '..Said' where nothing that the law and all that it calls make is longer than what came in: it says more and counts as full. Else prove '..UptoSaid'. A law counts once. -/
mutual
def uptoBulk {H : Type} : DataW H → Nat
  | .lit (.string bytes) => bytes.length + 1
  | .lit _ => 1
  | .nil => 1
  | .ptr d => uptoBulk d + 1
  | .slice elems spare => uptoBulkAll elems + uptoBulkAll spare + 1
  | .agg parts => uptoBulkAll parts + 1
  | .iface _ d => uptoBulk d + 1
  | .map entries => uptoBulkEntries entries + 1
  | .held _ => 1
def uptoBulkAll {H : Type} : List (DataW H) → Nat
  | [] => 0
  | d :: r => uptoBulk d + uptoBulkAll r
def uptoBulkEntries {H : Type} : List (Lit × DataW H) → Nat
  | [] => 0
  | x :: r => uptoBulkEntry x + uptoBulkEntries r
def uptoBulkEntry {H : Type} : Lit × DataW H → Nat
  | (.string bytes, d) => bytes.length + uptoBulk d + 1
  | (_, d) => uptoBulk d + 1
 end
def uptoSmall : (H : Type) → List (DataW H) → Bool := fun _ ds => decide (uptoBulkAll ds ≤ 1048576)
def OpenSpec.upto (s : _root_.Go.ChangeSpec) : _root_.Go.OpenSpec := { _root_.Go.OpenSpec.ofChange s with cond := some uptoSmall }

/-- 'laws.FnExactTankOk', WHERE WHAT IT READS IS OF BULK AT MOST 1048576: true; the input reads as it did. -/
def fnExactTankOkUptoRow : OpenClaim := { program := "ytdaokpfomoiboaa", sum := "9d6ea8db83ef1110e3f8816c6747f01c97c5e15a76a2fc05c620bba9eef8bf8b", func := "loop.example/g03307/laws.FnExactTankOk", spec := "fnExactTankOk", apart := false, narrowed := true }
def FnExactTankOkUptoSaid : Prop := fnExactTankOkUptoRow.holds Try.pinned (OpenSpec.upto fnExactTankOkSpec)

/-- 'laws.FnExactLeakHour', WHERE WHAT IT READS IS OF BULK AT MOST 1048576: true; the input reads as it did. -/
def fnExactLeakHourUptoRow : OpenClaim := { program := "ytdaokpfomoiboaa", sum := "9d6ea8db83ef1110e3f8816c6747f01c97c5e15a76a2fc05c620bba9eef8bf8b", func := "loop.example/g03307/laws.FnExactLeakHour", spec := "fnExactLeakHour", apart := false, narrowed := true }
def FnExactLeakHourUptoSaid : Prop := fnExactLeakHourUptoRow.holds Try.pinned (OpenSpec.upto fnExactLeakHourSpec)

/-- 'laws.FnExactLevelAfter', WHERE WHAT IT READS IS OF BULK AT MOST 1048576: true; the input reads as it did. -/
def fnExactLevelAfterUptoRow : OpenClaim := { program := "ytdaokpfomoiboaa", sum := "9d6ea8db83ef1110e3f8816c6747f01c97c5e15a76a2fc05c620bba9eef8bf8b", func := "loop.example/g03307/laws.FnExactLevelAfter", spec := "fnExactLevelAfter", apart := false, narrowed := true }
def FnExactLevelAfterUptoSaid : Prop := fnExactLevelAfterUptoRow.holds Try.pinned (OpenSpec.upto fnExactLevelAfterSpec)

/-- 'laws.FnExactGuessHole', WHERE WHAT IT READS IS OF BULK AT MOST 1048576: true; the input reads as it did. -/
def fnExactGuessHoleUptoRow : OpenClaim := { program := "ytdaokpfomoiboaa", sum := "9d6ea8db83ef1110e3f8816c6747f01c97c5e15a76a2fc05c620bba9eef8bf8b", func := "loop.example/g03307/laws.FnExactGuessHole", spec := "fnExactGuessHole", apart := false, narrowed := true }
def FnExactGuessHoleUptoSaid : Prop := fnExactGuessHoleUptoRow.holds Try.pinned (OpenSpec.upto fnExactGuessHoleSpec)

/-- 'laws.FnExactPossibleRates', WHERE WHAT IT READS IS OF BULK AT MOST 1048576: true; the input reads as it did. -/
def fnExactPossibleRatesUptoRow : OpenClaim := { program := "ytdaokpfomoiboaa", sum := "9d6ea8db83ef1110e3f8816c6747f01c97c5e15a76a2fc05c620bba9eef8bf8b", func := "loop.example/g03307/laws.FnExactPossibleRates", spec := "fnExactPossibleRates", apart := false, narrowed := true }
def FnExactPossibleRatesUptoSaid : Prop := fnExactPossibleRatesUptoRow.holds Try.pinned (OpenSpec.upto fnExactPossibleRatesSpec)

/-- 'laws.FnLeaks', WHERE WHAT IT READS IS OF BULK AT MOST 1048576: true; the input reads as it did. -/
def fnLeaksUptoRow : OpenClaim := { program := "ytdaokpfomoiboaa", sum := "9d6ea8db83ef1110e3f8816c6747f01c97c5e15a76a2fc05c620bba9eef8bf8b", func := "loop.example/g03307/laws.FnLeaks", spec := "fnLeaks", apart := false, narrowed := true }
def FnLeaksUptoSaid : Prop := fnLeaksUptoRow.holds Try.pinned (OpenSpec.upto fnLeaksSpec)

end Rows
end Go.Proofs.Ytdaokpfomoiboaa
