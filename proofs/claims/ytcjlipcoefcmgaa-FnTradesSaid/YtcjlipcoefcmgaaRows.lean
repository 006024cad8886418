/-
  No cell of these rows narrows 'for every input' (looked for: loops, veiled, ifaces, maps, wideKeys, modest, calm, conditions, laid).
  DERIVED. THE GIVEN ROWS OF THIS SEAT. 7 by the template 'for every input the law returns true; each argument reads behind the call as it read before'; 0 by the template 'total and deterministic' (their statements: YtcjlipcoefcmgaaTotals.lean).
  GIVEN WITH THE SEED: the statements are not yours to turn. If you find one false, say at which input.
  Laid BY PROGRAM, IN A SANDBOX (cutbox-rows.mjs): the forced cells as the released guide's own fill.sh prints them over the translation 39463424cd62fd9a… (all of the seat's roots in one cut). By AI agents, Wed Nov 11 2026. No macro, syntax, notation, axiom, sorry.
-/
import Derived.Test.YtcjlipcoefcmgaaChecked
import GoSem.Claim
import GoSem.ClaimJoined
import GoSem.ClaimMapViews
import Derived.JoinedTies
import Derived.KernelRfl
namespace Go.Proofs.Ytcjlipcoefcmgaa
/- THE CELL 'sum', in the pinned program and in every row, IS THE sha256 OF THE DUMP (.gsa) THAT YtcjlipcoefcmgaaProg.lean LOADS. Nothing in Lean hashes anything: it is a label: what it is worth is what the hold of that sum in a sandbox is worth. -/
noncomputable def Try.pinned : Pinned := { name := "ytcjlipcoefcmgaa", sum := "39463424cd62fd9ad8531b3a4eb33bd0a3d033475cd49a6c6db2d82e1259763e", checked := Try.checked }
namespace Rows
def none {H : Type} : Left H := { results := [], args := [] }

/-- 'laws.FnExactDebtsOk': WHATEVER THE INPUT: true; the input reads as it did. -/
def fnExactDebtsOkSpec : ChangeSpec := { name := "fnExactDebtsOk", fn := fun _ => fun
  | [d] => { results := [.lit (.bool true)], args := [d] }
  | _ => none }
def fnExactDebtsOkRow : OpenClaim := { program := "ytcjlipcoefcmgaa", sum := "39463424cd62fd9ad8531b3a4eb33bd0a3d033475cd49a6c6db2d82e1259763e", func := "loop.example/g03307/laws.FnExactDebtsOk", spec := "fnExactDebtsOk", apart := false }
def FnExactDebtsOkSaid : Prop := fnExactDebtsOkRow.holds Try.pinned (OpenSpec.ofChange fnExactDebtsOkSpec)

/-- ITS FALSE NEIGHBOUR: 'it returns false'. Refute it at one input. -/
def fnExactDebtsOkWrong : ChangeSpec := { name := "fnExactDebtsOk", fn := fun _ => fun
  | [d] => { results := [.lit (.bool false)], args := [d] }
  | _ => none }
def FnExactDebtsOkWrongFalsely : Prop := fnExactDebtsOkRow.holds Try.pinned (OpenSpec.ofChange fnExactDebtsOkWrong)

/-- 'laws.FnExactBalanceOf': WHATEVER THE INPUT: true; the input reads as it did. -/
def fnExactBalanceOfSpec : ChangeSpec := { name := "fnExactBalanceOf", fn := fun _ => fun
  | [d1, d2] => { results := [.lit (.bool true)], args := [d1, d2] }
  | _ => none }
def fnExactBalanceOfRow : OpenClaim := { program := "ytcjlipcoefcmgaa", sum := "39463424cd62fd9ad8531b3a4eb33bd0a3d033475cd49a6c6db2d82e1259763e", func := "loop.example/g03307/laws.FnExactBalanceOf", spec := "fnExactBalanceOf", apart := false }
def FnExactBalanceOfSaid : Prop := fnExactBalanceOfRow.holds Try.pinned (OpenSpec.ofChange fnExactBalanceOfSpec)

/-- ITS FALSE NEIGHBOUR: 'it returns false'. Refute it at one input. -/
def fnExactBalanceOfWrong : ChangeSpec := { name := "fnExactBalanceOf", fn := fun _ => fun
  | [d1, d2] => { results := [.lit (.bool false)], args := [d1, d2] }
  | _ => none }
def FnExactBalanceOfWrongFalsely : Prop := fnExactBalanceOfRow.holds Try.pinned (OpenSpec.ofChange fnExactBalanceOfWrong)

/-- 'laws.FnExactOwes': WHATEVER THE INPUT: true; the input reads as it did. -/
def fnExactOwesSpec : ChangeSpec := { name := "fnExactOwes", fn := fun _ => fun
  | [d1, d2, d3] => { results := [.lit (.bool true)], args := [d1, d2, d3] }
  | _ => none }
def fnExactOwesRow : OpenClaim := { program := "ytcjlipcoefcmgaa", sum := "39463424cd62fd9ad8531b3a4eb33bd0a3d033475cd49a6c6db2d82e1259763e", func := "loop.example/g03307/laws.FnExactOwes", spec := "fnExactOwes", apart := false }
def FnExactOwesSaid : Prop := fnExactOwesRow.holds Try.pinned (OpenSpec.ofChange fnExactOwesSpec)

/-- ITS FALSE NEIGHBOUR: 'it returns false'. Refute it at one input. -/
def fnExactOwesWrong : ChangeSpec := { name := "fnExactOwes", fn := fun _ => fun
  | [d1, d2, d3] => { results := [.lit (.bool false)], args := [d1, d2, d3] }
  | _ => none }
def FnExactOwesWrongFalsely : Prop := fnExactOwesRow.holds Try.pinned (OpenSpec.ofChange fnExactOwesWrong)

/-- 'laws.FnExactPayBack': WHATEVER THE INPUT: true; the input reads as it did. -/
def fnExactPayBackSpec : ChangeSpec := { name := "fnExactPayBack", fn := fun _ => fun
  | [d1, d2, d3] => { results := [.lit (.bool true)], args := [d1, d2, d3] }
  | _ => none }
def fnExactPayBackRow : OpenClaim := { program := "ytcjlipcoefcmgaa", sum := "39463424cd62fd9ad8531b3a4eb33bd0a3d033475cd49a6c6db2d82e1259763e", func := "loop.example/g03307/laws.FnExactPayBack", spec := "fnExactPayBack", apart := false }
def FnExactPayBackSaid : Prop := fnExactPayBackRow.holds Try.pinned (OpenSpec.ofChange fnExactPayBackSpec)

/-- ITS FALSE NEIGHBOUR: 'it returns false'. Refute it at one input. -/
def fnExactPayBackWrong : ChangeSpec := { name := "fnExactPayBack", fn := fun _ => fun
  | [d1, d2, d3] => { results := [.lit (.bool false)], args := [d1, d2, d3] }
  | _ => none }
def FnExactPayBackWrongFalsely : Prop := fnExactPayBackRow.holds Try.pinned (OpenSpec.ofChange fnExactPayBackWrong)

/-- 'laws.FnTrades': WHATEVER THE INPUT: true; the input reads as it did. -/
def fnTradesSpec : ChangeSpec := { name := "fnTrades", fn := fun _ => fun
  | [d] => { results := [.lit (.bool true)], args := [d] }
  | _ => none }
def fnTradesRow : OpenClaim := { program := "ytcjlipcoefcmgaa", sum := "39463424cd62fd9ad8531b3a4eb33bd0a3d033475cd49a6c6db2d82e1259763e", func := "loop.example/g03307/laws.FnTrades", spec := "fnTrades", apart := false }
def FnTradesSaid : Prop := fnTradesRow.holds Try.pinned (OpenSpec.ofChange fnTradesSpec)

/-- ITS FALSE NEIGHBOUR: 'it returns false'. Refute it at one input. -/
def fnTradesWrong : ChangeSpec := { name := "fnTrades", fn := fun _ => fun
  | [d] => { results := [.lit (.bool false)], args := [d] }
  | _ => none }
def FnTradesWrongFalsely : Prop := fnTradesRow.holds Try.pinned (OpenSpec.ofChange fnTradesWrong)

/-- 'laws.FnExactNetted': WHATEVER THE INPUT: true; the input reads as it did. -/
def fnExactNettedSpec : ChangeSpec := { name := "fnExactNetted", fn := fun _ => fun
  | [d] => { results := [.lit (.bool true)], args := [d] }
  | _ => none }
def fnExactNettedRow : OpenClaim := { program := "ytcjlipcoefcmgaa", sum := "39463424cd62fd9ad8531b3a4eb33bd0a3d033475cd49a6c6db2d82e1259763e", func := "loop.example/g03307/laws.FnExactNetted", spec := "fnExactNetted", apart := false }
def FnExactNettedSaid : Prop := fnExactNettedRow.holds Try.pinned (OpenSpec.ofChange fnExactNettedSpec)

/-- ITS FALSE NEIGHBOUR: 'it returns false'. Refute it at one input. -/
def fnExactNettedWrong : ChangeSpec := { name := "fnExactNetted", fn := fun _ => fun
  | [d] => { results := [.lit (.bool false)], args := [d] }
  | _ => none }
def FnExactNettedWrongFalsely : Prop := fnExactNettedRow.holds Try.pinned (OpenSpec.ofChange fnExactNettedWrong)

/-- 'laws.FnExactSettled': WHATEVER THE INPUT: true; the input reads as it did. -/
def fnExactSettledSpec : ChangeSpec := { name := "fnExactSettled", fn := fun _ => fun
  | [d] => { results := [.lit (.bool true)], args := [d] }
  | _ => none }
def fnExactSettledRow : OpenClaim := { program := "ytcjlipcoefcmgaa", sum := "39463424cd62fd9ad8531b3a4eb33bd0a3d033475cd49a6c6db2d82e1259763e", func := "loop.example/g03307/laws.FnExactSettled", spec := "fnExactSettled", apart := false }
def FnExactSettledSaid : Prop := fnExactSettledRow.holds Try.pinned (OpenSpec.ofChange fnExactSettledSpec)

/-- ITS FALSE NEIGHBOUR: 'it returns false'. Refute it at one input. -/
def fnExactSettledWrong : ChangeSpec := { name := "fnExactSettled", fn := fun _ => fun
  | [d] => { results := [.lit (.bool false)], args := [d] }
  | _ => none }
def FnExactSettledWrongFalsely : Prop := fnExactSettledRow.holds Try.pinned (OpenSpec.ofChange fnExactSettledWrong)

/- THE SECOND FORM. 'bulk': how many values and letters a reading holds, each counted each time it is reached (what is shared counts as often as it is met; a slice's spare places count too). A statement '..UptoSaid' is the law's where the arguments, and the package variables that the reading takes, are together of bulk at most 1048576: NARROWER than '..Said'. Prove '..Said' where nothing that the law and all that it calls make is longer than what came in: it says more and counts as full. Else prove '..UptoSaid'. A law counts once. -/
mutual
def uptoBulk {H : Type} : DataW H → Nat
  | .lit (.string bytes) => bytes.length + 1
  | .lit _ => 1
  | .nil => 1
  | .ptr d => uptoBulk d + 1
  | .slice elems spare => uptoBulkAll elems + uptoBulkAll spare + 1
  | .agg parts => uptoBulkAll parts + 1
  | .iface _ d => uptoBulk d + 1
  | .map entries => uptoBulkEntries entries + 1
  | .held _ => 1
def uptoBulkAll {H : Type} : List (DataW H) → Nat
  | [] => 0
  | d :: r => uptoBulk d + uptoBulkAll r
def uptoBulkEntries {H : Type} : List (Lit × DataW H) → Nat
  | [] => 0
  | x :: r => uptoBulkEntry x + uptoBulkEntries r
def uptoBulkEntry {H : Type} : Lit × DataW H → Nat
  | (.string bytes, d) => bytes.length + uptoBulk d + 1
  | (_, d) => uptoBulk d + 1
 end
def uptoSmall : (H : Type) → List (DataW H) → Bool := fun _ ds => decide (uptoBulkAll ds ≤ 1048576)
def OpenSpec.upto (s : _root_.Go.ChangeSpec) : _root_.Go.OpenSpec := { _root_.Go.OpenSpec.ofChange s with cond := some uptoSmall }

/-- 'laws.FnExactDebtsOk', WHERE WHAT IT READS IS OF BULK AT MOST 1048576: true; the input reads as it did. -/
def fnExactDebtsOkUptoRow : OpenClaim := { program := "ytcjlipcoefcmgaa", sum := "39463424cd62fd9ad8531b3a4eb33bd0a3d033475cd49a6c6db2d82e1259763e", func := "loop.example/g03307/laws.FnExactDebtsOk", spec := "fnExactDebtsOk", apart := false, narrowed := true }
def FnExactDebtsOkUptoSaid : Prop := fnExactDebtsOkUptoRow.holds Try.pinned (OpenSpec.upto fnExactDebtsOkSpec)

/-- 'laws.FnExactBalanceOf', WHERE WHAT IT READS IS OF BULK AT MOST 1048576: true; the input reads as it did. -/
def fnExactBalanceOfUptoRow : OpenClaim := { program := "ytcjlipcoefcmgaa", sum := "39463424cd62fd9ad8531b3a4eb33bd0a3d033475cd49a6c6db2d82e1259763e", func := "loop.example/g03307/laws.FnExactBalanceOf", spec := "fnExactBalanceOf", apart := false, narrowed := true }
def FnExactBalanceOfUptoSaid : Prop := fnExactBalanceOfUptoRow.holds Try.pinned (OpenSpec.upto fnExactBalanceOfSpec)

/-- 'laws.FnExactOwes', WHERE WHAT IT READS IS OF BULK AT MOST 1048576: true; the input reads as it did. -/
def fnExactOwesUptoRow : OpenClaim := { program := "ytcjlipcoefcmgaa", sum := "39463424cd62fd9ad8531b3a4eb33bd0a3d033475cd49a6c6db2d82e1259763e", func := "loop.example/g03307/laws.FnExactOwes", spec := "fnExactOwes", apart := false, narrowed := true }
def FnExactOwesUptoSaid : Prop := fnExactOwesUptoRow.holds Try.pinned (OpenSpec.upto fnExactOwesSpec)

/-- 'laws.FnExactPayBack', WHERE WHAT IT READS IS OF BULK AT MOST 1048576: true; the input reads as it did. -/
def fnExactPayBackUptoRow : OpenClaim := { program := "ytcjlipcoefcmgaa", sum := "39463424cd62fd9ad8531b3a4eb33bd0a3d033475cd49a6c6db2d82e1259763e", func := "loop.example/g03307/laws.FnExactPayBack", spec := "fnExactPayBack", apart := false, narrowed := true }
def FnExactPayBackUptoSaid : Prop := fnExactPayBackUptoRow.holds Try.pinned (OpenSpec.upto fnExactPayBackSpec)

/-- 'laws.FnTrades', WHERE WHAT IT READS IS OF BULK AT MOST 1048576: true; the input reads as it did. -/
def fnTradesUptoRow : OpenClaim := { program := "ytcjlipcoefcmgaa", sum := "39463424cd62fd9ad8531b3a4eb33bd0a3d033475cd49a6c6db2d82e1259763e", func := "loop.example/g03307/laws.FnTrades", spec := "fnTrades", apart := false, narrowed := true }
def FnTradesUptoSaid : Prop := fnTradesUptoRow.holds Try.pinned (OpenSpec.upto fnTradesSpec)

/-- 'laws.FnExactNetted', WHERE WHAT IT READS IS OF BULK AT MOST 1048576: true; the input reads as it did. -/
def fnExactNettedUptoRow : OpenClaim := { program := "ytcjlipcoefcmgaa", sum := "39463424cd62fd9ad8531b3a4eb33bd0a3d033475cd49a6c6db2d82e1259763e", func := "loop.example/g03307/laws.FnExactNetted", spec := "fnExactNetted", apart := false, narrowed := true }
def FnExactNettedUptoSaid : Prop := fnExactNettedUptoRow.holds Try.pinned (OpenSpec.upto fnExactNettedSpec)

/-- 'laws.FnExactSettled', WHERE WHAT IT READS IS OF BULK AT MOST 1048576: true; the input reads as it did. -/
def fnExactSettledUptoRow : OpenClaim := { program := "ytcjlipcoefcmgaa", sum := "39463424cd62fd9ad8531b3a4eb33bd0a3d033475cd49a6c6db2d82e1259763e", func := "loop.example/g03307/laws.FnExactSettled", spec := "fnExactSettled", apart := false, narrowed := true }
def FnExactSettledUptoSaid : Prop := fnExactSettledUptoRow.holds Try.pinned (OpenSpec.upto fnExactSettledSpec)

end Rows
end Go.Proofs.Ytcjlipcoefcmgaa
