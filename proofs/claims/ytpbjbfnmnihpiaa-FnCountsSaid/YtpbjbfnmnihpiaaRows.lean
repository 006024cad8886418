/-
  No cell of these rows narrows 'for every input' (looked for: loops, veiled, ifaces, maps, wideKeys, modest, calm, conditions, laid).
  DERIVED. THE GIVEN ROWS OF THIS SEAT. 7 by the template 'for every input the law returns true; each argument reads behind the call as it read before'; 0 by the template 'total and deterministic' (their statements: YtpbjbfnmnihpiaaTotals.lean).
  GIVEN WITH THE SEED: the statements are not yours to turn. If you find one false, say at which input.
  Laid BY PROGRAM, IN A SANDBOX (cutbox-rows.mjs): the forced cells as the released guide's own fill.sh prints them over the translation c7c7fb85f8043f7a… (all of the seat's roots in one cut). By AI agents, Wed Nov 11 2026. No macro, syntax, notation, axiom, sorry.
-/
import Derived.Test.YtpbjbfnmnihpiaaChecked
import GoSem.Claim
import GoSem.ClaimJoined
import GoSem.ClaimMapViews
import Derived.JoinedTies
import Derived.KernelRfl
namespace Go.Proofs.Ytpbjbfnmnihpiaa
/- THE CELL 'sum', in the pinned program and in every row, IS THE sha256 OF THE DUMP (.gsa) THAT YtpbjbfnmnihpiaaProg.lean LOADS. Nothing in Lean hashes anything: it is a label: what it is worth is what the hold of that sum in a sandbox is worth. -/
noncomputable def Try.pinned : Pinned := { name := "ytpbjbfnmnihpiaa", sum := "c7c7fb85f8043f7a42b0635b3ec69dfc03bea6258dddd19fe514a8846e19a942", checked := Try.checked }
namespace Rows
def none {H : Type} : Left H := { results := [], args := [] }

/-- 'laws.FnCounts': WHATEVER THE INPUT: true; the input reads as it did. -/
def fnCountsSpec : ChangeSpec := { name := "fnCounts", fn := fun _ => fun
  | [d] => { results := [.lit (.bool true)], args := [d] }
  | _ => none }
def fnCountsRow : OpenClaim := { program := "ytpbjbfnmnihpiaa", sum := "c7c7fb85f8043f7a42b0635b3ec69dfc03bea6258dddd19fe514a8846e19a942", func := "loop.example/g03307/laws.FnCounts", spec := "fnCounts", apart := false }
def FnCountsSaid : Prop := fnCountsRow.holds Try.pinned (OpenSpec.ofChange fnCountsSpec)

/-- ITS FALSE NEIGHBOUR: 'it returns false'. Refute it at one input. -/
def fnCountsWrong : ChangeSpec := { name := "fnCounts", fn := fun _ => fun
  | [d] => { results := [.lit (.bool false)], args := [d] }
  | _ => none }
def FnCountsWrongFalsely : Prop := fnCountsRow.holds Try.pinned (OpenSpec.ofChange fnCountsWrong)

/-- 'laws.FnExactEntriesOk': WHATEVER THE INPUT: true; the input reads as it did. -/
def fnExactEntriesOkSpec : ChangeSpec := { name := "fnExactEntriesOk", fn := fun _ => fun
  | [d] => { results := [.lit (.bool true)], args := [d] }
  | _ => none }
def fnExactEntriesOkRow : OpenClaim := { program := "ytpbjbfnmnihpiaa", sum := "c7c7fb85f8043f7a42b0635b3ec69dfc03bea6258dddd19fe514a8846e19a942", func := "loop.example/g03307/laws.FnExactEntriesOk", spec := "fnExactEntriesOk", apart := false }
def FnExactEntriesOkSaid : Prop := fnExactEntriesOkRow.holds Try.pinned (OpenSpec.ofChange fnExactEntriesOkSpec)

/-- ITS FALSE NEIGHBOUR: 'it returns false'. Refute it at one input. -/
def fnExactEntriesOkWrong : ChangeSpec := { name := "fnExactEntriesOk", fn := fun _ => fun
  | [d] => { results := [.lit (.bool false)], args := [d] }
  | _ => none }
def FnExactEntriesOkWrongFalsely : Prop := fnExactEntriesOkRow.holds Try.pinned (OpenSpec.ofChange fnExactEntriesOkWrong)

/-- 'laws.FnExactGapAt': WHATEVER THE INPUT: true; the input reads as it did. -/
def fnExactGapAtSpec : ChangeSpec := { name := "fnExactGapAt", fn := fun _ => fun
  | [d1, d2, d3] => { results := [.lit (.bool true)], args := [d1, d2, d3] }
  | _ => none }
def fnExactGapAtRow : OpenClaim := { program := "ytpbjbfnmnihpiaa", sum := "c7c7fb85f8043f7a42b0635b3ec69dfc03bea6258dddd19fe514a8846e19a942", func := "loop.example/g03307/laws.FnExactGapAt", spec := "fnExactGapAt", apart := false }
def FnExactGapAtSaid : Prop := fnExactGapAtRow.holds Try.pinned (OpenSpec.ofChange fnExactGapAtSpec)

/-- ITS FALSE NEIGHBOUR: 'it returns false'. Refute it at one input. -/
def fnExactGapAtWrong : ChangeSpec := { name := "fnExactGapAt", fn := fun _ => fun
  | [d1, d2, d3] => { results := [.lit (.bool false)], args := [d1, d2, d3] }
  | _ => none }
def FnExactGapAtWrongFalsely : Prop := fnExactGapAtRow.holds Try.pinned (OpenSpec.ofChange fnExactGapAtWrong)

/-- 'laws.FnExactTotalGap': WHATEVER THE INPUT: true; the input reads as it did. -/
def fnExactTotalGapSpec : ChangeSpec := { name := "fnExactTotalGap", fn := fun _ => fun
  | [d1, d2] => { results := [.lit (.bool true)], args := [d1, d2] }
  | _ => none }
def fnExactTotalGapRow : OpenClaim := { program := "ytpbjbfnmnihpiaa", sum := "c7c7fb85f8043f7a42b0635b3ec69dfc03bea6258dddd19fe514a8846e19a942", func := "loop.example/g03307/laws.FnExactTotalGap", spec := "fnExactTotalGap", apart := false }
def FnExactTotalGapSaid : Prop := fnExactTotalGapRow.holds Try.pinned (OpenSpec.ofChange fnExactTotalGapSpec)

/-- ITS FALSE NEIGHBOUR: 'it returns false'. Refute it at one input. -/
def fnExactTotalGapWrong : ChangeSpec := { name := "fnExactTotalGap", fn := fun _ => fun
  | [d1, d2] => { results := [.lit (.bool false)], args := [d1, d2] }
  | _ => none }
def FnExactTotalGapWrongFalsely : Prop := fnExactTotalGapRow.holds Try.pinned (OpenSpec.ofChange fnExactTotalGapWrong)

/-- 'laws.FnExactFirstGap': WHATEVER THE INPUT: true; the input reads as it did. -/
def fnExactFirstGapSpec : ChangeSpec := { name := "fnExactFirstGap", fn := fun _ => fun
  | [d1, d2] => { results := [.lit (.bool true)], args := [d1, d2] }
  | _ => none }
def fnExactFirstGapRow : OpenClaim := { program := "ytpbjbfnmnihpiaa", sum := "c7c7fb85f8043f7a42b0635b3ec69dfc03bea6258dddd19fe514a8846e19a942", func := "loop.example/g03307/laws.FnExactFirstGap", spec := "fnExactFirstGap", apart := false }
def FnExactFirstGapSaid : Prop := fnExactFirstGapRow.holds Try.pinned (OpenSpec.ofChange fnExactFirstGapSpec)

/-- ITS FALSE NEIGHBOUR: 'it returns false'. Refute it at one input. -/
def fnExactFirstGapWrong : ChangeSpec := { name := "fnExactFirstGap", fn := fun _ => fun
  | [d1, d2] => { results := [.lit (.bool false)], args := [d1, d2] }
  | _ => none }
def FnExactFirstGapWrongFalsely : Prop := fnExactFirstGapRow.holds Try.pinned (OpenSpec.ofChange fnExactFirstGapWrong)

/-- 'laws.FnExactOneMistake': WHATEVER THE INPUT: true; the input reads as it did. -/
def fnExactOneMistakeSpec : ChangeSpec := { name := "fnExactOneMistake", fn := fun _ => fun
  | [d1, d2] => { results := [.lit (.bool true)], args := [d1, d2] }
  | _ => none }
def fnExactOneMistakeRow : OpenClaim := { program := "ytpbjbfnmnihpiaa", sum := "c7c7fb85f8043f7a42b0635b3ec69dfc03bea6258dddd19fe514a8846e19a942", func := "loop.example/g03307/laws.FnExactOneMistake", spec := "fnExactOneMistake", apart := false }
def FnExactOneMistakeSaid : Prop := fnExactOneMistakeRow.holds Try.pinned (OpenSpec.ofChange fnExactOneMistakeSpec)

/-- ITS FALSE NEIGHBOUR: 'it returns false'. Refute it at one input. -/
def fnExactOneMistakeWrong : ChangeSpec := { name := "fnExactOneMistake", fn := fun _ => fun
  | [d1, d2] => { results := [.lit (.bool false)], args := [d1, d2] }
  | _ => none }
def FnExactOneMistakeWrongFalsely : Prop := fnExactOneMistakeRow.holds Try.pinned (OpenSpec.ofChange fnExactOneMistakeWrong)

/-- 'laws.FnExactLargestGap': WHATEVER THE INPUT: true; the input reads as it did. -/
def fnExactLargestGapSpec : ChangeSpec := { name := "fnExactLargestGap", fn := fun _ => fun
  | [d1, d2] => { results := [.lit (.bool true)], args := [d1, d2] }
  | _ => none }
def fnExactLargestGapRow : OpenClaim := { program := "ytpbjbfnmnihpiaa", sum := "c7c7fb85f8043f7a42b0635b3ec69dfc03bea6258dddd19fe514a8846e19a942", func := "loop.example/g03307/laws.FnExactLargestGap", spec := "fnExactLargestGap", apart := false }
def FnExactLargestGapSaid : Prop := fnExactLargestGapRow.holds Try.pinned (OpenSpec.ofChange fnExactLargestGapSpec)

/-- ITS FALSE NEIGHBOUR: 'it returns false'. Refute it at one input. -/
def fnExactLargestGapWrong : ChangeSpec := { name := "fnExactLargestGap", fn := fun _ => fun
  | [d1, d2] => { results := [.lit (.bool false)], args := [d1, d2] }
  | _ => none }
def FnExactLargestGapWrongFalsely : Prop := fnExactLargestGapRow.holds Try.pinned (OpenSpec.ofChange fnExactLargestGapWrong)

/- THE SECOND FORM. 'bulk': how many values and letters a reading holds, each counted each time it is reached (what is shared counts as often as it is met; a slice's spare places count too). A statement '..UptoSaid' is the law's where the arguments, and the package variables that the reading takes, are together of bulk at most 1048576: NARROWER than '..Said'. Prove '..Said' where nothing that the law and all that it calls make is longer than what came in: it says more and counts as full. Else prove '..UptoSaid'. A law counts once. -/
mutual
def uptoBulk {H : Type} : DataW H → Nat
  | .lit (.string bytes) => bytes.length + 1
  | .lit _ => 1
  | .nil => 1
  | .ptr d => uptoBulk d + 1
  | .slice elems spare => uptoBulkAll elems + uptoBulkAll spare + 1
  | .agg parts => uptoBulkAll parts + 1
  | .iface _ d => uptoBulk d + 1
  | .map entries => uptoBulkEntries entries + 1
  | .held _ => 1
def uptoBulkAll {H : Type} : List (DataW H) → Nat
  | [] => 0
  | d :: r => uptoBulk d + uptoBulkAll r
def uptoBulkEntries {H : Type} : List (Lit × DataW H) → Nat
  | [] => 0
  | x :: r => uptoBulkEntry x + uptoBulkEntries r
def uptoBulkEntry {H : Type} : Lit × DataW H → Nat
  | (.string bytes, d) => bytes.length + uptoBulk d + 1
  | (_, d) => uptoBulk d + 1
 end
def uptoSmall : (H : Type) → List (DataW H) → Bool := fun _ ds => decide (uptoBulkAll ds ≤ 1048576)
def OpenSpec.upto (s : _root_.Go.ChangeSpec) : _root_.Go.OpenSpec := { _root_.Go.OpenSpec.ofChange s with cond := some uptoSmall }

/-- 'laws.FnCounts', WHERE WHAT IT READS IS OF BULK AT MOST 1048576: true; the input reads as it did. -/
def fnCountsUptoRow : OpenClaim := { program := "ytpbjbfnmnihpiaa", sum := "c7c7fb85f8043f7a42b0635b3ec69dfc03bea6258dddd19fe514a8846e19a942", func := "loop.example/g03307/laws.FnCounts", spec := "fnCounts", apart := false, narrowed := true }
def FnCountsUptoSaid : Prop := fnCountsUptoRow.holds Try.pinned (OpenSpec.upto fnCountsSpec)

/-- 'laws.FnExactEntriesOk', WHERE WHAT IT READS IS OF BULK AT MOST 1048576: true; the input reads as it did. -/
def fnExactEntriesOkUptoRow : OpenClaim := { program := "ytpbjbfnmnihpiaa", sum := "c7c7fb85f8043f7a42b0635b3ec69dfc03bea6258dddd19fe514a8846e19a942", func := "loop.example/g03307/laws.FnExactEntriesOk", spec := "fnExactEntriesOk", apart := false, narrowed := true }
def FnExactEntriesOkUptoSaid : Prop := fnExactEntriesOkUptoRow.holds Try.pinned (OpenSpec.upto fnExactEntriesOkSpec)

/-- 'laws.FnExactGapAt', WHERE WHAT IT READS IS OF BULK AT MOST 1048576: true; the input reads as it did. -/
def fnExactGapAtUptoRow : OpenClaim := { program := "ytpbjbfnmnihpiaa", sum := "c7c7fb85f8043f7a42b0635b3ec69dfc03bea6258dddd19fe514a8846e19a942", func := "loop.example/g03307/laws.FnExactGapAt", spec := "fnExactGapAt", apart := false, narrowed := true }
def FnExactGapAtUptoSaid : Prop := fnExactGapAtUptoRow.holds Try.pinned (OpenSpec.upto fnExactGapAtSpec)

/-- 'laws.FnExactTotalGap', WHERE WHAT IT READS IS OF BULK AT MOST 1048576: true; the input reads as it did. -/
def fnExactTotalGapUptoRow : OpenClaim := { program := "ytpbjbfnmnihpiaa", sum := "c7c7fb85f8043f7a42b0635b3ec69dfc03bea6258dddd19fe514a8846e19a942", func := "loop.example/g03307/laws.FnExactTotalGap", spec := "fnExactTotalGap", apart := false, narrowed := true }
def FnExactTotalGapUptoSaid : Prop := fnExactTotalGapUptoRow.holds Try.pinned (OpenSpec.upto fnExactTotalGapSpec)

/-- 'laws.FnExactFirstGap', WHERE WHAT IT READS IS OF BULK AT MOST 1048576: true; the input reads as it did. -/
def fnExactFirstGapUptoRow : OpenClaim := { program := "ytpbjbfnmnihpiaa", sum := "c7c7fb85f8043f7a42b0635b3ec69dfc03bea6258dddd19fe514a8846e19a942", func := "loop.example/g03307/laws.FnExactFirstGap", spec := "fnExactFirstGap", apart := false, narrowed := true }
def FnExactFirstGapUptoSaid : Prop := fnExactFirstGapUptoRow.holds Try.pinned (OpenSpec.upto fnExactFirstGapSpec)

/-- 'laws.FnExactOneMistake', WHERE WHAT IT READS IS OF BULK AT MOST 1048576: true; the input reads as it did. -/
def fnExactOneMistakeUptoRow : OpenClaim := { program := "ytpbjbfnmnihpiaa", sum := "c7c7fb85f8043f7a42b0635b3ec69dfc03bea6258dddd19fe514a8846e19a942", func := "loop.example/g03307/laws.FnExactOneMistake", spec := "fnExactOneMistake", apart := false, narrowed := true }
def FnExactOneMistakeUptoSaid : Prop := fnExactOneMistakeUptoRow.holds Try.pinned (OpenSpec.upto fnExactOneMistakeSpec)

/-- 'laws.FnExactLargestGap', WHERE WHAT IT READS IS OF BULK AT MOST 1048576: true; the input reads as it did. -/
def fnExactLargestGapUptoRow : OpenClaim := { program := "ytpbjbfnmnihpiaa", sum := "c7c7fb85f8043f7a42b0635b3ec69dfc03bea6258dddd19fe514a8846e19a942", func := "loop.example/g03307/laws.FnExactLargestGap", spec := "fnExactLargestGap", apart := false, narrowed := true }
def FnExactLargestGapUptoSaid : Prop := fnExactLargestGapUptoRow.holds Try.pinned (OpenSpec.upto fnExactLargestGapSpec)

end Rows
end Go.Proofs.Ytpbjbfnmnihpiaa
