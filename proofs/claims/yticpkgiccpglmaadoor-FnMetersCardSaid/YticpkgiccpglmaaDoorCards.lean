/-
  DERIVED. GIVEN WITH THE SEED: THE CARDS: each row of YticpkgiccpglmaaDoorRows.lean that lists a variable, with what it lists TIED to the program's text (the seventh form; the later family's looks); each row that meets fmt, with fmt's text TOLD by the authors' own Lean function (tested against real Go, not proved from fmt's source: count such statements apart). THE CARD IS WHAT COUNTS. Prove the row's statement (the work); the ties are given (YticpkgiccpglmaaDoorTie.lean); close each card by the builder's one call (the guide's Derived/Test/ToyasCard.lean, 'card_holds'). Laid BY PROGRAM, IN A SANDBOX (cutbox-door.mjs). By AI agents, Wed Nov 11 2026. No macro, syntax, notation, axiom, sorry.
-/
import Derived.Test.YticpkgiccpglmaaDoorRows
import GoSem.ClaimSeven
namespace Go.Proofs.YticpkgiccpglmaaDoor
namespace Rows

/-- THE TIED CARD OF 'laws.FnExactReadingText'. -/
def fnExactReadingTextCard : Claim7 := { stood := { row := fnExactReadingTextRow, standIns := [], harness := (true, "d727127d3c6e8d23d37c2795d9a94d29e749cdd7a71eb33e7d561404732ec673"), looks := false }, kinds := [], alts := [], laidByText := true, laidKinds := [.data, .data, .data], laidTests := true, laidLooks := .later }
def FnExactReadingTextCardSaid : Prop := Claim7.holds Tryd.pinned (.plain (OpenSpec.ofChange fnExactReadingTextSpec)) fnExactReadingTextCard

/-- THE TIED CARD OF 'laws.FnMeters'. -/
def fnMetersCard : Claim7 := { stood := { row := fnMetersRow, standIns := [], harness := (true, "d727127d3c6e8d23d37c2795d9a94d29e749cdd7a71eb33e7d561404732ec673"), looks := false }, kinds := [], alts := [], laidByText := true, laidKinds := [.data, .data, .data], laidTests := true, laidLooks := .later }
def FnMetersCardSaid : Prop := Claim7.holds Tryd.pinned (.plain (OpenSpec.ofChange fnMetersSpec)) fnMetersCard

/-- THE SECOND FORM's CARD OF 'laws.FnExactReadingText'. -/
def fnExactReadingTextUptoCard : Claim7 := { stood := { row := fnExactReadingTextUptoRow, standIns := [], harness := (true, "d727127d3c6e8d23d37c2795d9a94d29e749cdd7a71eb33e7d561404732ec673"), looks := false }, kinds := [], alts := [], laidByText := true, laidKinds := [.data, .data, .data], laidTests := true, laidLooks := .later }
def FnExactReadingTextUptoCardSaid : Prop := Claim7.holds Tryd.pinned (.plain (OpenSpec.upto fnExactReadingTextSpec)) fnExactReadingTextUptoCard

/-- THE SECOND FORM's CARD OF 'laws.FnMeters'. -/
def fnMetersUptoCard : Claim7 := { stood := { row := fnMetersUptoRow, standIns := [], harness := (true, "d727127d3c6e8d23d37c2795d9a94d29e749cdd7a71eb33e7d561404732ec673"), looks := false }, kinds := [], alts := [], laidByText := true, laidKinds := [.data, .data, .data], laidTests := true, laidLooks := .later }
def FnMetersUptoCardSaid : Prop := Claim7.holds Tryd.pinned (.plain (OpenSpec.upto fnMetersSpec)) fnMetersUptoCard
end Rows
end Go.Proofs.YticpkgiccpglmaaDoor
