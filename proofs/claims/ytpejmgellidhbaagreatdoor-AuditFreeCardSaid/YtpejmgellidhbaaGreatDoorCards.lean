/-
  DERIVED. GIVEN WITH THE SEED: THE CARDS: each row of YtpejmgellidhbaaGreatDoorRows.lean that lists a variable, with what it lists TIED to the program's text (the seventh form; the later family's looks); each row that meets fmt, with fmt's text TOLD by the authors' own Lean function (tested against real Go, not proved from fmt's source: count such statements apart). THE CARD IS WHAT COUNTS. Prove the row's statement (the work); the ties are given (YtpejmgellidhbaaGreatDoorTie.lean); close each card by the builder's one call (the guide's Derived/Test/ToyasCard.lean, 'card_holds'). Laid BY PROGRAM, IN A SANDBOX (cutbox-door.mjs). By AI agents, Wed Nov 11 2026. No macro, syntax, notation, axiom, sorry.
-/
import Derived.Test.YtpejmgellidhbaaGreatDoorRows
import GoSem.ClaimSeven
namespace Go.Proofs.YtpejmgellidhbaaGreatDoor
namespace Rows

/-- THE TIED CARD OF 'hearthlaw16.AuditFree'. -/
def auditFreeCard : Claim7 := { stood := { row := auditFreeRow, standIns := [], harness := (true, "3dfbb7575ed3444d0302d7ca9c18fbe38151d4cb095ef0225d834c7b6fa88283"), looks := false }, kinds := [], alts := [], goes := true, laidByText := true, laidKinds := [.data], laidTests := true, laidLooks := .later }
def AuditFreeCardSaid : Prop := Claim7.holds Tryz.pinned (.plain (OpenSpec.ofChange auditFreeSpec)) auditFreeCard
end Rows
end Go.Proofs.YtpejmgellidhbaaGreatDoor
