/-
  No cell of these rows narrows 'for every input' (looked for: loops, veiled, ifaces, maps, wideKeys, modest, calm, conditions, laid).
  DERIVED. THE GIVEN ROWS OF THIS SEAT. 7 by the template 'for every input the law returns true; each argument reads behind the call as it read before'; 0 by the template 'total and deterministic' (their statements: YtbbhchdpaocljaaTotals.lean).
  GIVEN WITH THE SEED: the statements are not yours to turn. If you find one false, say at which input.
  Laid BY PROGRAM, IN A SANDBOX (cutbox-rows.mjs): the forced cells as the released guide's own fill.sh prints them over the translation f8378cf4dc9e1440… (all of the seat's roots in one cut). By AI agents, Wed Nov 11 2026. No macro, syntax, notation, axiom, sorry.
-/
import Derived.Test.YtbbhchdpaocljaaChecked
import GoSem.Claim
import GoSem.ClaimJoined
import GoSem.ClaimMapViews
import Derived.JoinedTies
import Derived.KernelRfl
namespace Go.Proofs.Ytbbhchdpaocljaa
/- THE CELL 'sum', in the pinned program and in every row, IS THE sha256 OF THE DUMP (.gsa) THAT YtbbhchdpaocljaaProg.lean LOADS. Nothing in Lean hashes anything: it is a label: what it is worth is what the hold of that sum in a sandbox is worth. -/
noncomputable def Try.pinned : Pinned := { name := "ytbbhchdpaocljaa", sum := "f8378cf4dc9e144017817a83407bcd9d23c13a28d51ff319858af42be34ec1d8", checked := Try.checked }
namespace Rows
def none {H : Type} : Left H := { results := [], args := [] }

/-- 'laws.FnExactGatesOk': WHATEVER THE INPUT: true; the input reads as it did. -/
def fnExactGatesOkSpec : ChangeSpec := { name := "fnExactGatesOk", fn := fun _ => fun
  | [d] => { results := [.lit (.bool true)], args := [d] }
  | _ => none }
def fnExactGatesOkRow : OpenClaim := { program := "ytbbhchdpaocljaa", sum := "f8378cf4dc9e144017817a83407bcd9d23c13a28d51ff319858af42be34ec1d8", func := "loop.example/g03307/laws.FnExactGatesOk", spec := "fnExactGatesOk", apart := false }
def FnExactGatesOkSaid : Prop := fnExactGatesOkRow.holds Try.pinned (OpenSpec.ofChange fnExactGatesOkSpec)

/-- ITS FALSE NEIGHBOUR: 'it returns false'. Refute it at one input. -/
def fnExactGatesOkWrong : ChangeSpec := { name := "fnExactGatesOk", fn := fun _ => fun
  | [d] => { results := [.lit (.bool false)], args := [d] }
  | _ => none }
def FnExactGatesOkWrongFalsely : Prop := fnExactGatesOkRow.holds Try.pinned (OpenSpec.ofChange fnExactGatesOkWrong)

/-- 'laws.FnExactHangKey': WHATEVER THE INPUT: true; the input reads as it did. -/
def fnExactHangKeySpec : ChangeSpec := { name := "fnExactHangKey", fn := fun _ => fun
  | [d1, d2, d3] => { results := [.lit (.bool true)], args := [d1, d2, d3] }
  | _ => none }
def fnExactHangKeyRow : OpenClaim := { program := "ytbbhchdpaocljaa", sum := "f8378cf4dc9e144017817a83407bcd9d23c13a28d51ff319858af42be34ec1d8", func := "loop.example/g03307/laws.FnExactHangKey", spec := "fnExactHangKey", unfollowed := true, recurses := true, apart := false }
def FnExactHangKeySaid : Prop := fnExactHangKeyRow.holds Try.pinned (OpenSpec.ofChange fnExactHangKeySpec)

/-- ITS FALSE NEIGHBOUR: 'it returns false'. Refute it at one input. -/
def fnExactHangKeyWrong : ChangeSpec := { name := "fnExactHangKey", fn := fun _ => fun
  | [d1, d2, d3] => { results := [.lit (.bool false)], args := [d1, d2, d3] }
  | _ => none }
def FnExactHangKeyWrongFalsely : Prop := fnExactHangKeyRow.holds Try.pinned (OpenSpec.ofChange fnExactHangKeyWrong)

/-- 'laws.FnExactTakeKey': WHATEVER THE INPUT: true; the input reads as it did. -/
def fnExactTakeKeySpec : ChangeSpec := { name := "fnExactTakeKey", fn := fun _ => fun
  | [d1, d2, d3] => { results := [.lit (.bool true)], args := [d1, d2, d3] }
  | _ => none }
def fnExactTakeKeyRow : OpenClaim := { program := "ytbbhchdpaocljaa", sum := "f8378cf4dc9e144017817a83407bcd9d23c13a28d51ff319858af42be34ec1d8", func := "loop.example/g03307/laws.FnExactTakeKey", spec := "fnExactTakeKey", unfollowed := true, recurses := true, apart := false }
def FnExactTakeKeySaid : Prop := fnExactTakeKeyRow.holds Try.pinned (OpenSpec.ofChange fnExactTakeKeySpec)

/-- ITS FALSE NEIGHBOUR: 'it returns false'. Refute it at one input. -/
def fnExactTakeKeyWrong : ChangeSpec := { name := "fnExactTakeKey", fn := fun _ => fun
  | [d1, d2, d3] => { results := [.lit (.bool false)], args := [d1, d2, d3] }
  | _ => none }
def FnExactTakeKeyWrongFalsely : Prop := fnExactTakeKeyRow.holds Try.pinned (OpenSpec.ofChange fnExactTakeKeyWrong)

/-- 'laws.FnExactTurnGate': WHATEVER THE INPUT: true; the input reads as it did. -/
def fnExactTurnGateSpec : ChangeSpec := { name := "fnExactTurnGate", fn := fun _ => fun
  | [d1, d2, d3] => { results := [.lit (.bool true)], args := [d1, d2, d3] }
  | _ => none }
def fnExactTurnGateRow : OpenClaim := { program := "ytbbhchdpaocljaa", sum := "f8378cf4dc9e144017817a83407bcd9d23c13a28d51ff319858af42be34ec1d8", func := "loop.example/g03307/laws.FnExactTurnGate", spec := "fnExactTurnGate", unfollowed := true, recurses := true, apart := false }
def FnExactTurnGateSaid : Prop := fnExactTurnGateRow.holds Try.pinned (OpenSpec.ofChange fnExactTurnGateSpec)

/-- ITS FALSE NEIGHBOUR: 'it returns false'. Refute it at one input. -/
def fnExactTurnGateWrong : ChangeSpec := { name := "fnExactTurnGate", fn := fun _ => fun
  | [d1, d2, d3] => { results := [.lit (.bool false)], args := [d1, d2, d3] }
  | _ => none }
def FnExactTurnGateWrongFalsely : Prop := fnExactTurnGateRow.holds Try.pinned (OpenSpec.ofChange fnExactTurnGateWrong)

/-- 'laws.FnGates': WHATEVER THE INPUT: true; the input reads as it did. -/
def fnGatesSpec : ChangeSpec := { name := "fnGates", fn := fun _ => fun
  | [d] => { results := [.lit (.bool true)], args := [d] }
  | _ => none }
def fnGatesRow : OpenClaim := { program := "ytbbhchdpaocljaa", sum := "f8378cf4dc9e144017817a83407bcd9d23c13a28d51ff319858af42be34ec1d8", func := "loop.example/g03307/laws.FnGates", spec := "fnGates", unfollowed := true, recurses := true, apart := false }
def FnGatesSaid : Prop := fnGatesRow.holds Try.pinned (OpenSpec.ofChange fnGatesSpec)

/-- ITS FALSE NEIGHBOUR: 'it returns false'. Refute it at one input. -/
def fnGatesWrong : ChangeSpec := { name := "fnGates", fn := fun _ => fun
  | [d] => { results := [.lit (.bool false)], args := [d] }
  | _ => none }
def FnGatesWrongFalsely : Prop := fnGatesRow.holds Try.pinned (OpenSpec.ofChange fnGatesWrong)

/-- 'laws.FnExactKeysOf': WHATEVER THE INPUT: true; the input reads as it did. -/
def fnExactKeysOfSpec : ChangeSpec := { name := "fnExactKeysOf", fn := fun _ => fun
  | [d1, d2] => { results := [.lit (.bool true)], args := [d1, d2] }
  | _ => none }
def fnExactKeysOfRow : OpenClaim := { program := "ytbbhchdpaocljaa", sum := "f8378cf4dc9e144017817a83407bcd9d23c13a28d51ff319858af42be34ec1d8", func := "loop.example/g03307/laws.FnExactKeysOf", spec := "fnExactKeysOf", apart := false }
def FnExactKeysOfSaid : Prop := fnExactKeysOfRow.holds Try.pinned (OpenSpec.ofChange fnExactKeysOfSpec)

/-- ITS FALSE NEIGHBOUR: 'it returns false'. Refute it at one input. -/
def fnExactKeysOfWrong : ChangeSpec := { name := "fnExactKeysOf", fn := fun _ => fun
  | [d1, d2] => { results := [.lit (.bool false)], args := [d1, d2] }
  | _ => none }
def FnExactKeysOfWrongFalsely : Prop := fnExactKeysOfRow.holds Try.pinned (OpenSpec.ofChange fnExactKeysOfWrong)

/-- 'laws.FnExactOpenGates': WHATEVER THE INPUT: true; the input reads as it did. -/
def fnExactOpenGatesSpec : ChangeSpec := { name := "fnExactOpenGates", fn := fun _ => fun
  | [d] => { results := [.lit (.bool true)], args := [d] }
  | _ => none }
def fnExactOpenGatesRow : OpenClaim := { program := "ytbbhchdpaocljaa", sum := "f8378cf4dc9e144017817a83407bcd9d23c13a28d51ff319858af42be34ec1d8", func := "loop.example/g03307/laws.FnExactOpenGates", spec := "fnExactOpenGates", apart := false }
def FnExactOpenGatesSaid : Prop := fnExactOpenGatesRow.holds Try.pinned (OpenSpec.ofChange fnExactOpenGatesSpec)

/-- ITS FALSE NEIGHBOUR: 'it returns false'. Refute it at one input. -/
def fnExactOpenGatesWrong : ChangeSpec := { name := "fnExactOpenGates", fn := fun _ => fun
  | [d] => { results := [.lit (.bool false)], args := [d] }
  | _ => none }
def FnExactOpenGatesWrongFalsely : Prop := fnExactOpenGatesRow.holds Try.pinned (OpenSpec.ofChange fnExactOpenGatesWrong)

/- THE SECOND FORM. 'bulk': how many values and letters a reading holds, each counted each time it is reached (what is shared counts as often as it is met; a slice's spare places count too). A statement '..UptoSaid' is the law's where the arguments, and the package variables that the reading takes, are together of bulk at most 1048576: NARROWER than '..Said'. Prove '..Said' where nothing that the law and all that it calls make is longer than what came in: it says more and counts as full. Else prove '..UptoSaid'. A law counts once. -/
mutual
def uptoBulk {H : Type} : DataW H → Nat
  | .lit (.string bytes) => bytes.length + 1
  | .lit _ => 1
  | .nil => 1
  | .ptr d => uptoBulk d + 1
  | .slice elems spare => uptoBulkAll elems + uptoBulkAll spare + 1
  | .agg parts => uptoBulkAll parts + 1
  | .iface _ d => uptoBulk d + 1
  | .map entries => uptoBulkEntries entries + 1
  | .held _ => 1
def uptoBulkAll {H : Type} : List (DataW H) → Nat
  | [] => 0
  | d :: r => uptoBulk d + uptoBulkAll r
def uptoBulkEntries {H : Type} : List (Lit × DataW H) → Nat
  | [] => 0
  | x :: r => uptoBulkEntry x + uptoBulkEntries r
def uptoBulkEntry {H : Type} : Lit × DataW H → Nat
  | (.string bytes, d) => bytes.length + uptoBulk d + 1
  | (_, d) => uptoBulk d + 1
 end
def uptoSmall : (H : Type) → List (DataW H) → Bool := fun _ ds => decide (uptoBulkAll ds ≤ 1048576)
def OpenSpec.upto (s : _root_.Go.ChangeSpec) : _root_.Go.OpenSpec := { _root_.Go.OpenSpec.ofChange s with cond := some uptoSmall }

/-- 'laws.FnExactGatesOk', WHERE WHAT IT READS IS OF BULK AT MOST 1048576: true; the input reads as it did. -/
def fnExactGatesOkUptoRow : OpenClaim := { program := "ytbbhchdpaocljaa", sum := "f8378cf4dc9e144017817a83407bcd9d23c13a28d51ff319858af42be34ec1d8", func := "loop.example/g03307/laws.FnExactGatesOk", spec := "fnExactGatesOk", apart := false, narrowed := true }
def FnExactGatesOkUptoSaid : Prop := fnExactGatesOkUptoRow.holds Try.pinned (OpenSpec.upto fnExactGatesOkSpec)

/-- 'laws.FnExactHangKey', WHERE WHAT IT READS IS OF BULK AT MOST 1048576: true; the input reads as it did. -/
def fnExactHangKeyUptoRow : OpenClaim := { program := "ytbbhchdpaocljaa", sum := "f8378cf4dc9e144017817a83407bcd9d23c13a28d51ff319858af42be34ec1d8", func := "loop.example/g03307/laws.FnExactHangKey", spec := "fnExactHangKey", unfollowed := true, recurses := true, apart := false, narrowed := true }
def FnExactHangKeyUptoSaid : Prop := fnExactHangKeyUptoRow.holds Try.pinned (OpenSpec.upto fnExactHangKeySpec)

/-- 'laws.FnExactTakeKey', WHERE WHAT IT READS IS OF BULK AT MOST 1048576: true; the input reads as it did. -/
def fnExactTakeKeyUptoRow : OpenClaim := { program := "ytbbhchdpaocljaa", sum := "f8378cf4dc9e144017817a83407bcd9d23c13a28d51ff319858af42be34ec1d8", func := "loop.example/g03307/laws.FnExactTakeKey", spec := "fnExactTakeKey", unfollowed := true, recurses := true, apart := false, narrowed := true }
def FnExactTakeKeyUptoSaid : Prop := fnExactTakeKeyUptoRow.holds Try.pinned (OpenSpec.upto fnExactTakeKeySpec)

/-- 'laws.FnExactTurnGate', WHERE WHAT IT READS IS OF BULK AT MOST 1048576: true; the input reads as it did. -/
def fnExactTurnGateUptoRow : OpenClaim := { program := "ytbbhchdpaocljaa", sum := "f8378cf4dc9e144017817a83407bcd9d23c13a28d51ff319858af42be34ec1d8", func := "loop.example/g03307/laws.FnExactTurnGate", spec := "fnExactTurnGate", unfollowed := true, recurses := true, apart := false, narrowed := true }
def FnExactTurnGateUptoSaid : Prop := fnExactTurnGateUptoRow.holds Try.pinned (OpenSpec.upto fnExactTurnGateSpec)

/-- 'laws.FnGates', WHERE WHAT IT READS IS OF BULK AT MOST 1048576: true; the input reads as it did. -/
def fnGatesUptoRow : OpenClaim := { program := "ytbbhchdpaocljaa", sum := "f8378cf4dc9e144017817a83407bcd9d23c13a28d51ff319858af42be34ec1d8", func := "loop.example/g03307/laws.FnGates", spec := "fnGates", unfollowed := true, recurses := true, apart := false, narrowed := true }
def FnGatesUptoSaid : Prop := fnGatesUptoRow.holds Try.pinned (OpenSpec.upto fnGatesSpec)

/-- 'laws.FnExactKeysOf', WHERE WHAT IT READS IS OF BULK AT MOST 1048576: true; the input reads as it did. -/
def fnExactKeysOfUptoRow : OpenClaim := { program := "ytbbhchdpaocljaa", sum := "f8378cf4dc9e144017817a83407bcd9d23c13a28d51ff319858af42be34ec1d8", func := "loop.example/g03307/laws.FnExactKeysOf", spec := "fnExactKeysOf", apart := false, narrowed := true }
def FnExactKeysOfUptoSaid : Prop := fnExactKeysOfUptoRow.holds Try.pinned (OpenSpec.upto fnExactKeysOfSpec)

/-- 'laws.FnExactOpenGates', WHERE WHAT IT READS IS OF BULK AT MOST 1048576: true; the input reads as it did. -/
def fnExactOpenGatesUptoRow : OpenClaim := { program := "ytbbhchdpaocljaa", sum := "f8378cf4dc9e144017817a83407bcd9d23c13a28d51ff319858af42be34ec1d8", func := "loop.example/g03307/laws.FnExactOpenGates", spec := "fnExactOpenGates", apart := false, narrowed := true }
def FnExactOpenGatesUptoSaid : Prop := fnExactOpenGatesUptoRow.holds Try.pinned (OpenSpec.upto fnExactOpenGatesSpec)

end Rows
end Go.Proofs.Ytbbhchdpaocljaa
