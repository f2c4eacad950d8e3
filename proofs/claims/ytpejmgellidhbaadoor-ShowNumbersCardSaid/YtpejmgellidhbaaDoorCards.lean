/-
  DERIVED. GIVEN WITH THE SEED: THE CARDS: each row of YtpejmgellidhbaaDoorRows.lean that lists a variable, with what it lists TIED to the program's text (the seventh form; the later family's looks); each row that meets fmt, with fmt's text TOLD by the authors' own Lean function (tested against real Go, not proved from fmt's source: count such statements apart). THE CARD IS WHAT COUNTS. Prove the row's statement (the work); the ties are given (YtpejmgellidhbaaDoorTie.lean); close each card by the builder's one call (the guide's Derived/Test/ToyasCard.lean, 'card_holds'). Laid BY PROGRAM, IN A SANDBOX (cutbox-door.mjs). By AI agents, Wed Nov 11 2026. No macro, syntax, notation, axiom, sorry.
-/
import Derived.Test.YtpejmgellidhbaaDoorRows
import GoSem.ClaimSeven
namespace Go.Proofs.YtpejmgellidhbaaDoor
namespace Rows

/-- THE TIED CARD OF 'hearthlaw17.ShowNumbers'. -/
def showNumbersCard : Claim7 := { stood := { row := showNumbersRow, standIns := [], harness := (true, "659a05dd549298f18a5b87217a034cb5d5d95aba55b513bc2de423d1c5007464"), looks := false }, kinds := [], alts := [], laidByText := true, laidKinds := [.data, .data, .data, .data, .pinned, .pinned], laidTests := true, laidLooks := .later }
def ShowNumbersCardSaid : Prop := Claim7.holds Tryd.pinned (.plain (OpenSpec.ofChange showNumbersSpec)) showNumbersCard

/-- THE TIED CARD OF 'hearthlaw17.ShowFixes'. -/
def showFixesCard : Claim7 := { stood := { row := showFixesRow, standIns := [], harness := (true, "659a05dd549298f18a5b87217a034cb5d5d95aba55b513bc2de423d1c5007464"), looks := false }, kinds := [], alts := [], laidByText := true, laidKinds := [.data, .data, .data, .data, .pinned, .pinned], laidTests := true, laidLooks := .later }
def ShowFixesCardSaid : Prop := Claim7.holds Tryd.pinned (.plain (OpenSpec.ofChange showFixesSpec)) showFixesCard

/-- THE TIED CARD OF 'hearthlaw17.ShowLists'. -/
def showListsCard : Claim7 := { stood := { row := showListsRow, standIns := [], harness := (true, "659a05dd549298f18a5b87217a034cb5d5d95aba55b513bc2de423d1c5007464"), looks := false }, kinds := [], alts := [], laidByText := true, laidKinds := [.data, .data, .data, .data, .pinned, .pinned], laidTests := true, laidLooks := .later }
def ShowListsCardSaid : Prop := Claim7.holds Tryd.pinned (.plain (OpenSpec.ofChange showListsSpec)) showListsCard

/-- THE TIED CARD OF 'hearthlaw17.ShowTexts'. -/
def showTextsCard : Claim7 := { stood := { row := showTextsRow, standIns := [], harness := (true, "659a05dd549298f18a5b87217a034cb5d5d95aba55b513bc2de423d1c5007464"), looks := false }, kinds := [], alts := [], laidByText := true, laidKinds := [.data, .data, .data, .data, .pinned, .pinned], laidTests := true, laidLooks := .later }
def ShowTextsCardSaid : Prop := Claim7.holds Tryd.pinned (.plain (OpenSpec.ofChange showTextsSpec)) showTextsCard

/-- THE TIED CARD OF 'hearthlaw17.ShowLeaves'. -/
def showLeavesCard : Claim7 := { stood := { row := showLeavesRow, standIns := [], harness := (true, "659a05dd549298f18a5b87217a034cb5d5d95aba55b513bc2de423d1c5007464"), looks := false }, kinds := [], alts := [], laidByText := true, laidKinds := [.data, .data, .data, .data, .pinned, .pinned], laidTests := true, laidLooks := .later }
def ShowLeavesCardSaid : Prop := Claim7.holds Tryd.pinned (.plain (OpenSpec.ofChange showLeavesSpec)) showLeavesCard

/-- THE SECOND FORM's CARD OF 'hearthlaw17.ShowNumbers'. -/
def showNumbersUptoCard : Claim7 := { stood := { row := showNumbersUptoRow, standIns := [], harness := (true, "659a05dd549298f18a5b87217a034cb5d5d95aba55b513bc2de423d1c5007464"), looks := false }, kinds := [], alts := [], laidByText := true, laidKinds := [.data, .data, .data, .data, .pinned, .pinned], laidTests := true, laidLooks := .later }
def ShowNumbersUptoCardSaid : Prop := Claim7.holds Tryd.pinned (.plain (OpenSpec.upto showNumbersSpec)) showNumbersUptoCard

/-- THE SECOND FORM's CARD OF 'hearthlaw17.ShowFixes'. -/
def showFixesUptoCard : Claim7 := { stood := { row := showFixesUptoRow, standIns := [], harness := (true, "659a05dd549298f18a5b87217a034cb5d5d95aba55b513bc2de423d1c5007464"), looks := false }, kinds := [], alts := [], laidByText := true, laidKinds := [.data, .data, .data, .data, .pinned, .pinned], laidTests := true, laidLooks := .later }
def ShowFixesUptoCardSaid : Prop := Claim7.holds Tryd.pinned (.plain (OpenSpec.upto showFixesSpec)) showFixesUptoCard

/-- THE SECOND FORM's CARD OF 'hearthlaw17.ShowLists'. -/
def showListsUptoCard : Claim7 := { stood := { row := showListsUptoRow, standIns := [], harness := (true, "659a05dd549298f18a5b87217a034cb5d5d95aba55b513bc2de423d1c5007464"), looks := false }, kinds := [], alts := [], laidByText := true, laidKinds := [.data, .data, .data, .data, .pinned, .pinned], laidTests := true, laidLooks := .later }
def ShowListsUptoCardSaid : Prop := Claim7.holds Tryd.pinned (.plain (OpenSpec.upto showListsSpec)) showListsUptoCard

/-- THE SECOND FORM's CARD OF 'hearthlaw17.ShowTexts'. -/
def showTextsUptoCard : Claim7 := { stood := { row := showTextsUptoRow, standIns := [], harness := (true, "659a05dd549298f18a5b87217a034cb5d5d95aba55b513bc2de423d1c5007464"), looks := false }, kinds := [], alts := [], laidByText := true, laidKinds := [.data, .data, .data, .data, .pinned, .pinned], laidTests := true, laidLooks := .later }
def ShowTextsUptoCardSaid : Prop := Claim7.holds Tryd.pinned (.plain (OpenSpec.upto showTextsSpec)) showTextsUptoCard

/-- THE SECOND FORM's CARD OF 'hearthlaw17.ShowLeaves'. -/
def showLeavesUptoCard : Claim7 := { stood := { row := showLeavesUptoRow, standIns := [], harness := (true, "659a05dd549298f18a5b87217a034cb5d5d95aba55b513bc2de423d1c5007464"), looks := false }, kinds := [], alts := [], laidByText := true, laidKinds := [.data, .data, .data, .data, .pinned, .pinned], laidTests := true, laidLooks := .later }
def ShowLeavesUptoCardSaid : Prop := Claim7.holds Tryd.pinned (.plain (OpenSpec.upto showLeavesSpec)) showLeavesUptoCard
end Rows
end Go.Proofs.YtpejmgellidhbaaDoor
