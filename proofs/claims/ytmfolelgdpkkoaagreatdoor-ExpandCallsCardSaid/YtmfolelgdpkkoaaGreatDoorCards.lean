/-
  DERIVED. GIVEN WITH THE SEED: THE CARDS: each row of YtmfolelgdpkkoaaGreatDoorRows.lean that lists a variable, with what it lists TIED to the program's text (the seventh form; the later family's looks); each row that meets fmt, with fmt's text TOLD by the authors' own Lean function (tested against real Go, not proved from fmt's source: count such statements apart). THE CARD IS WHAT COUNTS. Prove the row's statement (the work); the ties are given (YtmfolelgdpkkoaaGreatDoorTie.lean); close each card by the builder's one call (the guide's Derived/Test/ToyasCard.lean, 'card_holds'). Laid BY PROGRAM, IN A SANDBOX (cutbox-door.mjs). By AI agents, Wed Nov 11 2026. No macro, syntax, notation, axiom, sorry.
-/
import Derived.Test.YtmfolelgdpkkoaaGreatDoorRows
import GoSem.ClaimSeven
namespace Go.Proofs.YtmfolelgdpkkoaaGreatDoor
namespace Rows

/-- THE TIED CARD OF 'timetablelaw10.ExpandCalls'. -/
def expandCallsCard : Claim7 := { stood := { row := expandCallsRow, standIns := [], harness := (true, "44ac0712015587e0ad3652c9445c74206c3924ab6760aafacfc75a3320b1e84f"), looks := false }, kinds := [], alts := [], laidByText := true, laidKinds := [.listed, .data], laidTests := true, laidLooks := .later }
def ExpandCallsCardSaid : Prop := Claim7.holds Tryz.pinned (.plain (OpenSpec.ofChange expandCallsSpec)) expandCallsCard

/-- THE SECOND FORM's CARD OF 'timetablelaw10.ExpandCalls'. -/
def expandCallsUptoCard : Claim7 := { stood := { row := expandCallsUptoRow, standIns := [], harness := (true, "44ac0712015587e0ad3652c9445c74206c3924ab6760aafacfc75a3320b1e84f"), looks := false }, kinds := [], alts := [], laidByText := true, laidKinds := [.listed, .data], laidTests := true, laidLooks := .later }
def ExpandCallsUptoCardSaid : Prop := Claim7.holds Tryz.pinned (.plain (OpenSpec.upto expandCallsSpec)) expandCallsUptoCard
end Rows
end Go.Proofs.YtmfolelgdpkkoaaGreatDoor
