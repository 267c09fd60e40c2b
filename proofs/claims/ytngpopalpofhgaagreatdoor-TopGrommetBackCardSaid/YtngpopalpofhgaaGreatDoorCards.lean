/-
  DERIVED. GIVEN WITH THE SEED: THE CARDS: each row of YtngpopalpofhgaaGreatDoorRows.lean that lists a variable, with what it lists TIED to the program's text (the seventh form; the later family's looks); each row that meets fmt, with fmt's text TOLD by the authors' own Lean function (tested against real Go, not proved from fmt's source: count such statements apart). THE CARD IS WHAT COUNTS. Prove the row's statement (the work); the ties are given (YtngpopalpofhgaaGreatDoorTie.lean); close each card by the builder's one call (the guide's Derived/Test/ToyasCard.lean, 'card_holds'). Laid BY PROGRAM, IN A SANDBOX (cutbox-door.mjs). By AI agents, Wed Nov 11 2026. No macro, syntax, notation, axiom, sorry.
-/
import Derived.Test.YtngpopalpofhgaaGreatDoorRows
import GoSem.ClaimSeven
namespace Go.Proofs.YtngpopalpofhgaaGreatDoor
namespace Rows

/-- THE TIED CARD OF 'beckettop.TopGrommetSigns'. -/
def topGrommetSignsCard : Claim7 := { stood := { row := topGrommetSignsRow, standIns := [], harness := (true, "b4c793514c5515a2b2fff286f9c540bb34634940b9dd8c064dbeebac79bff3ec"), looks := false }, kinds := [], alts := [], laidByText := true, laidKinds := [.data, .pinned], laidTests := true, laidLooks := .later }
def TopGrommetSignsCardSaid : Prop := Claim7.holds Tryz.pinned (.plain (OpenSpec.ofChange topGrommetSignsSpec)) topGrommetSignsCard

/-- THE TIED CARD OF 'beckettop.TopGrommetBack'. -/
def topGrommetBackCard : Claim7 := { stood := { row := topGrommetBackRow, standIns := [], harness := (true, "b4c793514c5515a2b2fff286f9c540bb34634940b9dd8c064dbeebac79bff3ec"), looks := false }, kinds := [], alts := [], laidByText := true, laidKinds := [.data, .pinned], laidTests := true, laidLooks := .later }
def TopGrommetBackCardSaid : Prop := Claim7.holds Tryz.pinned (.plain (OpenSpec.ofChange topGrommetBackSpec)) topGrommetBackCard

/-- THE TIED CARD OF 'beckettop.TopThimbleCrossed'. -/
def topThimbleCrossedCard : Claim7 := { stood := { row := topThimbleCrossedRow, standIns := [], harness := (true, "b4c793514c5515a2b2fff286f9c540bb34634940b9dd8c064dbeebac79bff3ec"), looks := false }, kinds := [], alts := [], laidByText := true, laidKinds := [.data, .data, .data, .data, .pinned], laidTests := true, laidLooks := .later }
def TopThimbleCrossedCardSaid : Prop := Claim7.holds Tryz.pinned (.plain (OpenSpec.ofChange topThimbleCrossedSpec)) topThimbleCrossedCard

/-- THE TIED CARD OF 'beckettop.TopGrommetMats'. -/
def topGrommetMatsCard : Claim7 := { stood := { row := topGrommetMatsRow, standIns := [], harness := (true, "b4c793514c5515a2b2fff286f9c540bb34634940b9dd8c064dbeebac79bff3ec"), looks := false }, kinds := [], alts := [], laidByText := true, laidKinds := [.data, .data, .data, .data, .pinned], laidTests := true, laidLooks := .later }
def TopGrommetMatsCardSaid : Prop := Claim7.holds Tryz.pinned (.plain (OpenSpec.ofChange topGrommetMatsSpec)) topGrommetMatsCard

/-- THE SECOND FORM's CARD OF 'beckettop.TopGrommetSigns'. -/
def topGrommetSignsUptoCard : Claim7 := { stood := { row := topGrommetSignsUptoRow, standIns := [], harness := (true, "b4c793514c5515a2b2fff286f9c540bb34634940b9dd8c064dbeebac79bff3ec"), looks := false }, kinds := [], alts := [], laidByText := true, laidKinds := [.data, .pinned], laidTests := true, laidLooks := .later }
def TopGrommetSignsUptoCardSaid : Prop := Claim7.holds Tryz.pinned (.plain (OpenSpec.upto topGrommetSignsSpec)) topGrommetSignsUptoCard

/-- THE SECOND FORM's CARD OF 'beckettop.TopGrommetBack'. -/
def topGrommetBackUptoCard : Claim7 := { stood := { row := topGrommetBackUptoRow, standIns := [], harness := (true, "b4c793514c5515a2b2fff286f9c540bb34634940b9dd8c064dbeebac79bff3ec"), looks := false }, kinds := [], alts := [], laidByText := true, laidKinds := [.data, .pinned], laidTests := true, laidLooks := .later }
def TopGrommetBackUptoCardSaid : Prop := Claim7.holds Tryz.pinned (.plain (OpenSpec.upto topGrommetBackSpec)) topGrommetBackUptoCard

/-- THE SECOND FORM's CARD OF 'beckettop.TopThimbleCrossed'. -/
def topThimbleCrossedUptoCard : Claim7 := { stood := { row := topThimbleCrossedUptoRow, standIns := [], harness := (true, "b4c793514c5515a2b2fff286f9c540bb34634940b9dd8c064dbeebac79bff3ec"), looks := false }, kinds := [], alts := [], laidByText := true, laidKinds := [.data, .data, .data, .data, .pinned], laidTests := true, laidLooks := .later }
def TopThimbleCrossedUptoCardSaid : Prop := Claim7.holds Tryz.pinned (.plain (OpenSpec.upto topThimbleCrossedSpec)) topThimbleCrossedUptoCard

/-- THE SECOND FORM's CARD OF 'beckettop.TopGrommetMats'. -/
def topGrommetMatsUptoCard : Claim7 := { stood := { row := topGrommetMatsUptoRow, standIns := [], harness := (true, "b4c793514c5515a2b2fff286f9c540bb34634940b9dd8c064dbeebac79bff3ec"), looks := false }, kinds := [], alts := [], laidByText := true, laidKinds := [.data, .data, .data, .data, .pinned], laidTests := true, laidLooks := .later }
def TopGrommetMatsUptoCardSaid : Prop := Claim7.holds Tryz.pinned (.plain (OpenSpec.upto topGrommetMatsSpec)) topGrommetMatsUptoCard
end Rows
end Go.Proofs.YtngpopalpofhgaaGreatDoor
