/-
  DERIVED. GIVEN WITH THE SEED: THE CARDS: each row of YtelpibkbcljdlaaGreatDoorRows.lean that lists a variable, with what it lists TIED to the program's text (the seventh form; the later family's looks); each row that meets fmt, with fmt's text TOLD by the authors' own Lean function (tested against real Go, not proved from fmt's source: count such statements apart). THE CARD IS WHAT COUNTS. Prove the row's statement (the work); the ties are given (YtelpibkbcljdlaaGreatDoorTie.lean); close each card by the builder's one call (the guide's Derived/Test/ToyasCard.lean, 'card_holds'). Laid BY PROGRAM, IN A SANDBOX (cutbox-door.mjs). By AI agents, Wed Nov 11 2026. No macro, syntax, notation, axiom, sorry.
-/
import Derived.Test.YtelpibkbcljdlaaGreatDoorRows
import GoSem.ClaimSeven
namespace Go.Proofs.YtelpibkbcljdlaaGreatDoor
namespace Rows

/-- THE TIED CARD OF 'timetablelaw09.WorldCalls'. -/
def worldCallsCard : Claim7 := { stood := { row := worldCallsRow, standIns := [], harness := (true, "833f94d8830f704e5fd5e328bcc265c2815e0cbbbe7c7672166ffb0a6f6a8b1f"), looks := false }, kinds := [], alts := [], laidByText := true, laidKinds := [.listed, .data], laidTests := true, laidLooks := .later }
def WorldCallsCardSaid : Prop := Claim7.holds Tryz.pinned (.plain (OpenSpec.ofChange worldCallsSpec)) worldCallsCard

/-- THE SECOND FORM's CARD OF 'timetablelaw09.WorldCalls'. -/
def worldCallsUptoCard : Claim7 := { stood := { row := worldCallsUptoRow, standIns := [], harness := (true, "833f94d8830f704e5fd5e328bcc265c2815e0cbbbe7c7672166ffb0a6f6a8b1f"), looks := false }, kinds := [], alts := [], laidByText := true, laidKinds := [.listed, .data], laidTests := true, laidLooks := .later }
def WorldCallsUptoCardSaid : Prop := Claim7.holds Tryz.pinned (.plain (OpenSpec.upto worldCallsSpec)) worldCallsUptoCard
end Rows
end Go.Proofs.YtelpibkbcljdlaaGreatDoor
