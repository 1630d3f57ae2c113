/-
  DERIVED. GIVEN WITH THE SEED: THE CARDS: each row of YtnehmnlcliflfaaDoorRows.lean that lists a variable, with what it lists TIED to the program's text (the seventh form; the later family's looks); each row that meets fmt, with fmt's text TOLD by the authors' own Lean function (tested against real Go, not proved from fmt's source: count such statements apart). THE CARD IS WHAT COUNTS. Prove the row's statement (the work); the ties are given (YtnehmnlcliflfaaDoorTie.lean); close each card by the builder's one call (the guide's Derived/Test/ToyasCard.lean, 'card_holds'). Laid BY PROGRAM, IN A SANDBOX (cutbox-door.mjs). By AI agents, Wed Nov 11 2026. No macro, syntax, notation, axiom, sorry.
-/
import Derived.Test.YtnehmnlcliflfaaDoorRows
import GoSem.ClaimSeven
namespace Go.Proofs.YtnehmnlcliflfaaDoor
namespace Rows

/-- THE TIED CARD OF 'studworklaw02.TextDocs'. -/
def textDocsCard : Claim7 := { stood := { row := textDocsRow, standIns := [], harness := (true, "41af167fa6b86ef0108ebf5b70967b5507065377d60ee73990022813bc748487"), looks := true }, kinds := [], alts := [], laidByText := true, laidKinds := [.data, .data, .data], laidTests := true, laidLooks := .later }
def TextDocsCardSaid : Prop := Claim7.holds Tryd.pinned (.plain (OpenSpec.ofChange textDocsSpec)) textDocsCard

/-- THE TIED CARD OF 'studworklaw02.TextReads'. -/
def textReadsCard : Claim7 := { stood := { row := textReadsRow, standIns := [], harness := (true, "41af167fa6b86ef0108ebf5b70967b5507065377d60ee73990022813bc748487"), looks := true }, kinds := [], alts := [], laidByText := true, laidKinds := [.data, .data, .data, .data, .sentinel, .sentinel, .pinned], laidTests := true, laidLooks := .later }
def TextReadsCardSaid : Prop := Claim7.holds Tryd.pinned (.plain (OpenSpec.ofChange textReadsSpec)) textReadsCard

/-- THE SECOND FORM's CARD OF 'studworklaw02.TextDocs'. -/
def textDocsUptoCard : Claim7 := { stood := { row := textDocsUptoRow, standIns := [], harness := (true, "41af167fa6b86ef0108ebf5b70967b5507065377d60ee73990022813bc748487"), looks := true }, kinds := [], alts := [], laidByText := true, laidKinds := [.data, .data, .data], laidTests := true, laidLooks := .later }
def TextDocsUptoCardSaid : Prop := Claim7.holds Tryd.pinned (.plain (OpenSpec.upto textDocsSpec)) textDocsUptoCard

/-- THE SECOND FORM's CARD OF 'studworklaw02.TextReads'. -/
def textReadsUptoCard : Claim7 := { stood := { row := textReadsUptoRow, standIns := [], harness := (true, "41af167fa6b86ef0108ebf5b70967b5507065377d60ee73990022813bc748487"), looks := true }, kinds := [], alts := [], laidByText := true, laidKinds := [.data, .data, .data, .data, .sentinel, .sentinel, .pinned], laidTests := true, laidLooks := .later }
def TextReadsUptoCardSaid : Prop := Claim7.holds Tryd.pinned (.plain (OpenSpec.upto textReadsSpec)) textReadsUptoCard
end Rows
end Go.Proofs.YtnehmnlcliflfaaDoor
