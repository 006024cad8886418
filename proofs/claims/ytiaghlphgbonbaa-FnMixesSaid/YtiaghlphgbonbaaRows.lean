/-
  No cell of these rows narrows 'for every input' (looked for: loops, veiled, ifaces, maps, wideKeys, modest, calm, conditions, laid).
  DERIVED. THE GIVEN ROWS OF THIS SEAT. 8 by the template 'for every input the law returns true; each argument reads behind the call as it read before'; 0 by the template 'total and deterministic' (their statements: YtiaghlphgbonbaaTotals.lean).
  GIVEN WITH THE SEED: the statements are not yours to turn. If you find one false, say at which input.
  Laid BY PROGRAM, IN A SANDBOX (cutbox-rows.mjs): the forced cells as the released guide's own fill.sh prints them over the translation f60ff52f3ea8e2d1… (all of the seat's roots in one cut). By AI agents, Wed Nov 11 2026. No macro, syntax, notation, axiom, sorry.
-/
import Derived.Test.YtiaghlphgbonbaaChecked
import GoSem.Claim
import GoSem.ClaimJoined
import GoSem.ClaimMapViews
import Derived.JoinedTies
import Derived.KernelRfl
namespace Go.Proofs.Ytiaghlphgbonbaa
/- THE CELL 'sum', in the pinned program and in every row, IS THE sha256 OF THE DUMP (.gsa) THAT YtiaghlphgbonbaaProg.lean LOADS. Nothing in Lean hashes anything: it is a label: what it is worth is what the hold of that sum in a sandbox is worth. -/
noncomputable def Try.pinned : Pinned := { name := "ytiaghlphgbonbaa", sum := "f60ff52f3ea8e2d1c681daa48e13681abc56d80e2e634bf65444986e74859d34", checked := Try.checked }
namespace Rows
def none {H : Type} : Left H := { results := [], args := [] }

/-- 'laws.FnExactMixOk': WHATEVER THE INPUT: true; the input reads as it did. -/
def fnExactMixOkSpec : ChangeSpec := { name := "fnExactMixOk", fn := fun _ => fun
  | [d] => { results := [.lit (.bool true)], args := [d] }
  | _ => none }
def fnExactMixOkRow : OpenClaim := { program := "ytiaghlphgbonbaa", sum := "f60ff52f3ea8e2d1c681daa48e13681abc56d80e2e634bf65444986e74859d34", func := "loop.example/g03307/laws.FnExactMixOk", spec := "fnExactMixOk", apart := false }
def FnExactMixOkSaid : Prop := fnExactMixOkRow.holds Try.pinned (OpenSpec.ofChange fnExactMixOkSpec)

/-- ITS FALSE NEIGHBOUR: 'it returns false'. Refute it at one input. -/
def fnExactMixOkWrong : ChangeSpec := { name := "fnExactMixOk", fn := fun _ => fun
  | [d] => { results := [.lit (.bool false)], args := [d] }
  | _ => none }
def FnExactMixOkWrongFalsely : Prop := fnExactMixOkRow.holds Try.pinned (OpenSpec.ofChange fnExactMixOkWrong)

/-- 'laws.FnExactIsDrinkable': WHATEVER THE INPUT: true; the input reads as it did. -/
def fnExactIsDrinkableSpec : ChangeSpec := { name := "fnExactIsDrinkable", fn := fun _ => fun
  | [d1, d2] => { results := [.lit (.bool true)], args := [d1, d2] }
  | _ => none }
def fnExactIsDrinkableRow : OpenClaim := { program := "ytiaghlphgbonbaa", sum := "f60ff52f3ea8e2d1c681daa48e13681abc56d80e2e634bf65444986e74859d34", func := "loop.example/g03307/laws.FnExactIsDrinkable", spec := "fnExactIsDrinkable", apart := false }
def FnExactIsDrinkableSaid : Prop := fnExactIsDrinkableRow.holds Try.pinned (OpenSpec.ofChange fnExactIsDrinkableSpec)

/-- ITS FALSE NEIGHBOUR: 'it returns false'. Refute it at one input. -/
def fnExactIsDrinkableWrong : ChangeSpec := { name := "fnExactIsDrinkable", fn := fun _ => fun
  | [d1, d2] => { results := [.lit (.bool false)], args := [d1, d2] }
  | _ => none }
def FnExactIsDrinkableWrongFalsely : Prop := fnExactIsDrinkableRow.holds Try.pinned (OpenSpec.ofChange fnExactIsDrinkableWrong)

/-- 'laws.FnExactGramsIn': WHATEVER THE INPUT: true; the input reads as it did. -/
def fnExactGramsInSpec : ChangeSpec := { name := "fnExactGramsIn", fn := fun _ => fun
  | [d1, d2] => { results := [.lit (.bool true)], args := [d1, d2] }
  | _ => none }
def fnExactGramsInRow : OpenClaim := { program := "ytiaghlphgbonbaa", sum := "f60ff52f3ea8e2d1c681daa48e13681abc56d80e2e634bf65444986e74859d34", func := "loop.example/g03307/laws.FnExactGramsIn", spec := "fnExactGramsIn", apart := false }
def FnExactGramsInSaid : Prop := fnExactGramsInRow.holds Try.pinned (OpenSpec.ofChange fnExactGramsInSpec)

/-- ITS FALSE NEIGHBOUR: 'it returns false'. Refute it at one input. -/
def fnExactGramsInWrong : ChangeSpec := { name := "fnExactGramsIn", fn := fun _ => fun
  | [d1, d2] => { results := [.lit (.bool false)], args := [d1, d2] }
  | _ => none }
def FnExactGramsInWrongFalsely : Prop := fnExactGramsInRow.holds Try.pinned (OpenSpec.ofChange fnExactGramsInWrong)

/-- 'laws.FnExactFreshNeeded': WHATEVER THE INPUT: true; the input reads as it did. -/
def fnExactFreshNeededSpec : ChangeSpec := { name := "fnExactFreshNeeded", fn := fun _ => fun
  | [d1, d2] => { results := [.lit (.bool true)], args := [d1, d2] }
  | _ => none }
def fnExactFreshNeededRow : OpenClaim := { program := "ytiaghlphgbonbaa", sum := "f60ff52f3ea8e2d1c681daa48e13681abc56d80e2e634bf65444986e74859d34", func := "loop.example/g03307/laws.FnExactFreshNeeded", spec := "fnExactFreshNeeded", apart := false }
def FnExactFreshNeededSaid : Prop := fnExactFreshNeededRow.holds Try.pinned (OpenSpec.ofChange fnExactFreshNeededSpec)

/-- ITS FALSE NEIGHBOUR: 'it returns false'. Refute it at one input. -/
def fnExactFreshNeededWrong : ChangeSpec := { name := "fnExactFreshNeeded", fn := fun _ => fun
  | [d1, d2] => { results := [.lit (.bool false)], args := [d1, d2] }
  | _ => none }
def FnExactFreshNeededWrongFalsely : Prop := fnExactFreshNeededRow.holds Try.pinned (OpenSpec.ofChange fnExactFreshNeededWrong)

/-- 'laws.FnExactTakeMix': WHATEVER THE INPUT: true; the input reads as it did. -/
def fnExactTakeMixSpec : ChangeSpec := { name := "fnExactTakeMix", fn := fun _ => fun
  | [d1, d2] => { results := [.lit (.bool true)], args := [d1, d2] }
  | _ => none }
def fnExactTakeMixRow : OpenClaim := { program := "ytiaghlphgbonbaa", sum := "f60ff52f3ea8e2d1c681daa48e13681abc56d80e2e634bf65444986e74859d34", func := "loop.example/g03307/laws.FnExactTakeMix", spec := "fnExactTakeMix", apart := false }
def FnExactTakeMixSaid : Prop := fnExactTakeMixRow.holds Try.pinned (OpenSpec.ofChange fnExactTakeMixSpec)

/-- ITS FALSE NEIGHBOUR: 'it returns false'. Refute it at one input. -/
def fnExactTakeMixWrong : ChangeSpec := { name := "fnExactTakeMix", fn := fun _ => fun
  | [d1, d2] => { results := [.lit (.bool false)], args := [d1, d2] }
  | _ => none }
def FnExactTakeMixWrongFalsely : Prop := fnExactTakeMixRow.holds Try.pinned (OpenSpec.ofChange fnExactTakeMixWrong)

/-- 'laws.FnExactJoinMix': WHATEVER THE INPUT: true; the input reads as it did. -/
def fnExactJoinMixSpec : ChangeSpec := { name := "fnExactJoinMix", fn := fun _ => fun
  | [d1, d2] => { results := [.lit (.bool true)], args := [d1, d2] }
  | _ => none }
def fnExactJoinMixRow : OpenClaim := { program := "ytiaghlphgbonbaa", sum := "f60ff52f3ea8e2d1c681daa48e13681abc56d80e2e634bf65444986e74859d34", func := "loop.example/g03307/laws.FnExactJoinMix", spec := "fnExactJoinMix", apart := false }
def FnExactJoinMixSaid : Prop := fnExactJoinMixRow.holds Try.pinned (OpenSpec.ofChange fnExactJoinMixSpec)

/-- ITS FALSE NEIGHBOUR: 'it returns false'. Refute it at one input. -/
def fnExactJoinMixWrong : ChangeSpec := { name := "fnExactJoinMix", fn := fun _ => fun
  | [d1, d2] => { results := [.lit (.bool false)], args := [d1, d2] }
  | _ => none }
def FnExactJoinMixWrongFalsely : Prop := fnExactJoinMixRow.holds Try.pinned (OpenSpec.ofChange fnExactJoinMixWrong)

/-- 'laws.FnExactSaltier': WHATEVER THE INPUT: true; the input reads as it did. -/
def fnExactSaltierSpec : ChangeSpec := { name := "fnExactSaltier", fn := fun _ => fun
  | [d1, d2] => { results := [.lit (.bool true)], args := [d1, d2] }
  | _ => none }
def fnExactSaltierRow : OpenClaim := { program := "ytiaghlphgbonbaa", sum := "f60ff52f3ea8e2d1c681daa48e13681abc56d80e2e634bf65444986e74859d34", func := "loop.example/g03307/laws.FnExactSaltier", spec := "fnExactSaltier", apart := false }
def FnExactSaltierSaid : Prop := fnExactSaltierRow.holds Try.pinned (OpenSpec.ofChange fnExactSaltierSpec)

/-- ITS FALSE NEIGHBOUR: 'it returns false'. Refute it at one input. -/
def fnExactSaltierWrong : ChangeSpec := { name := "fnExactSaltier", fn := fun _ => fun
  | [d1, d2] => { results := [.lit (.bool false)], args := [d1, d2] }
  | _ => none }
def FnExactSaltierWrongFalsely : Prop := fnExactSaltierRow.holds Try.pinned (OpenSpec.ofChange fnExactSaltierWrong)

/-- 'laws.FnMixes': WHATEVER THE INPUT: true; the input reads as it did. -/
def fnMixesSpec : ChangeSpec := { name := "fnMixes", fn := fun _ => fun
  | [d] => { results := [.lit (.bool true)], args := [d] }
  | _ => none }
def fnMixesRow : OpenClaim := { program := "ytiaghlphgbonbaa", sum := "f60ff52f3ea8e2d1c681daa48e13681abc56d80e2e634bf65444986e74859d34", func := "loop.example/g03307/laws.FnMixes", spec := "fnMixes", apart := false }
def FnMixesSaid : Prop := fnMixesRow.holds Try.pinned (OpenSpec.ofChange fnMixesSpec)

/-- ITS FALSE NEIGHBOUR: 'it returns false'. Refute it at one input. -/
def fnMixesWrong : ChangeSpec := { name := "fnMixes", fn := fun _ => fun
  | [d] => { results := [.lit (.bool false)], args := [d] }
  | _ => none }
def FnMixesWrongFalsely : Prop := fnMixesRow.holds Try.pinned (OpenSpec.ofChange fnMixesWrong)

/- THE SECOND FORM. 'bulk': how many values and letters a reading holds, each counted each time it is reached (what is shared counts as often as it is met; a slice's spare places count too). A statement '..UptoSaid' is the law's where the arguments, and the package variables that the reading takes, are together of bulk at most 1048576: NARROWER than '..Said'. Prove '..Said' where nothing that the law and all that it calls make is longer than what came in: it says more and counts as full. Else prove '..UptoSaid'. A law counts once. -/
mutual
def uptoBulk {H : Type} : DataW H → Nat
  | .lit (.string bytes) => bytes.length + 1
  | .lit _ => 1
  | .nil => 1
  | .ptr d => uptoBulk d + 1
  | .slice elems spare => uptoBulkAll elems + uptoBulkAll spare + 1
  | .agg parts => uptoBulkAll parts + 1
  | .iface _ d => uptoBulk d + 1
  | .map entries => uptoBulkEntries entries + 1
  | .held _ => 1
def uptoBulkAll {H : Type} : List (DataW H) → Nat
  | [] => 0
  | d :: r => uptoBulk d + uptoBulkAll r
def uptoBulkEntries {H : Type} : List (Lit × DataW H) → Nat
  | [] => 0
  | x :: r => uptoBulkEntry x + uptoBulkEntries r
def uptoBulkEntry {H : Type} : Lit × DataW H → Nat
  | (.string bytes, d) => bytes.length + uptoBulk d + 1
  | (_, d) => uptoBulk d + 1
 end
def uptoSmall : (H : Type) → List (DataW H) → Bool := fun _ ds => decide (uptoBulkAll ds ≤ 1048576)
def OpenSpec.upto (s : _root_.Go.ChangeSpec) : _root_.Go.OpenSpec := { _root_.Go.OpenSpec.ofChange s with cond := some uptoSmall }

/-- 'laws.FnExactMixOk', WHERE WHAT IT READS IS OF BULK AT MOST 1048576: true; the input reads as it did. -/
def fnExactMixOkUptoRow : OpenClaim := { program := "ytiaghlphgbonbaa", sum := "f60ff52f3ea8e2d1c681daa48e13681abc56d80e2e634bf65444986e74859d34", func := "loop.example/g03307/laws.FnExactMixOk", spec := "fnExactMixOk", apart := false, narrowed := true }
def FnExactMixOkUptoSaid : Prop := fnExactMixOkUptoRow.holds Try.pinned (OpenSpec.upto fnExactMixOkSpec)

/-- 'laws.FnExactIsDrinkable', WHERE WHAT IT READS IS OF BULK AT MOST 1048576: true; the input reads as it did. -/
def fnExactIsDrinkableUptoRow : OpenClaim := { program := "ytiaghlphgbonbaa", sum := "f60ff52f3ea8e2d1c681daa48e13681abc56d80e2e634bf65444986e74859d34", func := "loop.example/g03307/laws.FnExactIsDrinkable", spec := "fnExactIsDrinkable", apart := false, narrowed := true }
def FnExactIsDrinkableUptoSaid : Prop := fnExactIsDrinkableUptoRow.holds Try.pinned (OpenSpec.upto fnExactIsDrinkableSpec)

/-- 'laws.FnExactGramsIn', WHERE WHAT IT READS IS OF BULK AT MOST 1048576: true; the input reads as it did. -/
def fnExactGramsInUptoRow : OpenClaim := { program := "ytiaghlphgbonbaa", sum := "f60ff52f3ea8e2d1c681daa48e13681abc56d80e2e634bf65444986e74859d34", func := "loop.example/g03307/laws.FnExactGramsIn", spec := "fnExactGramsIn", apart := false, narrowed := true }
def FnExactGramsInUptoSaid : Prop := fnExactGramsInUptoRow.holds Try.pinned (OpenSpec.upto fnExactGramsInSpec)

/-- 'laws.FnExactFreshNeeded', WHERE WHAT IT READS IS OF BULK AT MOST 1048576: true; the input reads as it did. -/
def fnExactFreshNeededUptoRow : OpenClaim := { program := "ytiaghlphgbonbaa", sum := "f60ff52f3ea8e2d1c681daa48e13681abc56d80e2e634bf65444986e74859d34", func := "loop.example/g03307/laws.FnExactFreshNeeded", spec := "fnExactFreshNeeded", apart := false, narrowed := true }
def FnExactFreshNeededUptoSaid : Prop := fnExactFreshNeededUptoRow.holds Try.pinned (OpenSpec.upto fnExactFreshNeededSpec)

/-- 'laws.FnExactTakeMix', WHERE WHAT IT READS IS OF BULK AT MOST 1048576: true; the input reads as it did. -/
def fnExactTakeMixUptoRow : OpenClaim := { program := "ytiaghlphgbonbaa", sum := "f60ff52f3ea8e2d1c681daa48e13681abc56d80e2e634bf65444986e74859d34", func := "loop.example/g03307/laws.FnExactTakeMix", spec := "fnExactTakeMix", apart := false, narrowed := true }
def FnExactTakeMixUptoSaid : Prop := fnExactTakeMixUptoRow.holds Try.pinned (OpenSpec.upto fnExactTakeMixSpec)

/-- 'laws.FnExactJoinMix', WHERE WHAT IT READS IS OF BULK AT MOST 1048576: true; the input reads as it did. -/
def fnExactJoinMixUptoRow : OpenClaim := { program := "ytiaghlphgbonbaa", sum := "f60ff52f3ea8e2d1c681daa48e13681abc56d80e2e634bf65444986e74859d34", func := "loop.example/g03307/laws.FnExactJoinMix", spec := "fnExactJoinMix", apart := false, narrowed := true }
def FnExactJoinMixUptoSaid : Prop := fnExactJoinMixUptoRow.holds Try.pinned (OpenSpec.upto fnExactJoinMixSpec)

/-- 'laws.FnExactSaltier', WHERE WHAT IT READS IS OF BULK AT MOST 1048576: true; the input reads as it did. -/
def fnExactSaltierUptoRow : OpenClaim := { program := "ytiaghlphgbonbaa", sum := "f60ff52f3ea8e2d1c681daa48e13681abc56d80e2e634bf65444986e74859d34", func := "loop.example/g03307/laws.FnExactSaltier", spec := "fnExactSaltier", apart := false, narrowed := true }
def FnExactSaltierUptoSaid : Prop := fnExactSaltierUptoRow.holds Try.pinned (OpenSpec.upto fnExactSaltierSpec)

/-- 'laws.FnMixes', WHERE WHAT IT READS IS OF BULK AT MOST 1048576: true; the input reads as it did. -/
def fnMixesUptoRow : OpenClaim := { program := "ytiaghlphgbonbaa", sum := "f60ff52f3ea8e2d1c681daa48e13681abc56d80e2e634bf65444986e74859d34", func := "loop.example/g03307/laws.FnMixes", spec := "fnMixes", apart := false, narrowed := true }
def FnMixesUptoSaid : Prop := fnMixesUptoRow.holds Try.pinned (OpenSpec.upto fnMixesSpec)

end Rows
end Go.Proofs.Ytiaghlphgbonbaa
