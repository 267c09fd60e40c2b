/-
  DERIVED. GIVEN WITH THE SEED: THE CARDS: each row of YtddkdgodgflmlaaGreatDoorRows.lean that lists a variable, with what it lists TIED to the program's text (the seventh form; the later family's looks); each row that meets fmt, with fmt's text TOLD by the authors' own Lean function (tested against real Go, not proved from fmt's source: count such statements apart). THE CARD IS WHAT COUNTS. Prove the row's statement (the work); the ties are given (YtddkdgodgflmlaaGreatDoorTie.lean); close each card by the builder's one call (the guide's Derived/Test/ToyasCard.lean, 'card_holds'). Laid BY PROGRAM, IN A SANDBOX (cutbox-door.mjs). By AI agents, Wed Nov 11 2026. No macro, syntax, notation, axiom, sorry.
-/
import Derived.Test.YtddkdgodgflmlaaGreatDoorRows
import GoSem.ClaimSeven
namespace Go.Proofs.YtddkdgodgflmlaaGreatDoor
namespace Rows

/-- THE TIED CARD OF 'beckettop.TopGrommetSigns'. -/
def topGrommetSignsCard : Claim7 := { stood := { row := topGrommetSignsRow, standIns := [], harness := (true, "12d74bc61a38ed788576ad9331f77deac73191b9dc4f63f53de60138d6cf993c"), looks := false }, kinds := [], alts := [], laidByText := true, laidKinds := [.data, .pinned], laidTests := true, laidLooks := .later }
def TopGrommetSignsCardSaid : Prop := Claim7.holds Tryz.pinned (.plain (OpenSpec.ofChange topGrommetSignsSpec)) topGrommetSignsCard

/-- THE TIED CARD OF 'beckettop.TopHawserPowers'. -/
def topHawserPowersCard : Claim7 := { stood := { row := topHawserPowersRow, standIns := [], harness := (true, "12d74bc61a38ed788576ad9331f77deac73191b9dc4f63f53de60138d6cf993c"), looks := false }, kinds := [], alts := [], laidByText := true, laidKinds := [.data, .data, .data], laidTests := true, laidLooks := .later }
def TopHawserPowersCardSaid : Prop := Claim7.holds Tryz.pinned (.plain (OpenSpec.ofChange topHawserPowersSpec)) topHawserPowersCard

/-- THE TIED CARD OF 'beckettop.TopHawserPairs'. -/
def topHawserPairsCard : Claim7 := { stood := { row := topHawserPairsRow, standIns := [], harness := (true, "12d74bc61a38ed788576ad9331f77deac73191b9dc4f63f53de60138d6cf993c"), looks := false }, kinds := [], alts := [], laidByText := true, laidKinds := [.data, .data, .data], laidTests := true, laidLooks := .later }
def TopHawserPairsCardSaid : Prop := Claim7.holds Tryz.pinned (.plain (OpenSpec.ofChange topHawserPairsSpec)) topHawserPairsCard

/-- THE TIED CARD OF 'beckettop.TopGrommetMats'. -/
def topGrommetMatsCard : Claim7 := { stood := { row := topGrommetMatsRow, standIns := [], harness := (true, "12d74bc61a38ed788576ad9331f77deac73191b9dc4f63f53de60138d6cf993c"), looks := false }, kinds := [], alts := [], laidByText := true, laidKinds := [.data, .data, .data, .data, .pinned], laidTests := true, laidLooks := .later }
def TopGrommetMatsCardSaid : Prop := Claim7.holds Tryz.pinned (.plain (OpenSpec.ofChange topGrommetMatsSpec)) topGrommetMatsCard

/-- THE SECOND FORM's CARD OF 'beckettop.TopGrommetSigns'. -/
def topGrommetSignsUptoCard : Claim7 := { stood := { row := topGrommetSignsUptoRow, standIns := [], harness := (true, "12d74bc61a38ed788576ad9331f77deac73191b9dc4f63f53de60138d6cf993c"), looks := false }, kinds := [], alts := [], laidByText := true, laidKinds := [.data, .pinned], laidTests := true, laidLooks := .later }
def TopGrommetSignsUptoCardSaid : Prop := Claim7.holds Tryz.pinned (.plain (OpenSpec.upto topGrommetSignsSpec)) topGrommetSignsUptoCard

/-- THE SECOND FORM's CARD OF 'beckettop.TopHawserPowers'. -/
def topHawserPowersUptoCard : Claim7 := { stood := { row := topHawserPowersUptoRow, standIns := [], harness := (true, "12d74bc61a38ed788576ad9331f77deac73191b9dc4f63f53de60138d6cf993c"), looks := false }, kinds := [], alts := [], laidByText := true, laidKinds := [.data, .data, .data], laidTests := true, laidLooks := .later }
def TopHawserPowersUptoCardSaid : Prop := Claim7.holds Tryz.pinned (.plain (OpenSpec.upto topHawserPowersSpec)) topHawserPowersUptoCard

/-- THE SECOND FORM's CARD OF 'beckettop.TopHawserPairs'. -/
def topHawserPairsUptoCard : Claim7 := { stood := { row := topHawserPairsUptoRow, standIns := [], harness := (true, "12d74bc61a38ed788576ad9331f77deac73191b9dc4f63f53de60138d6cf993c"), looks := false }, kinds := [], alts := [], laidByText := true, laidKinds := [.data, .data, .data], laidTests := true, laidLooks := .later }
def TopHawserPairsUptoCardSaid : Prop := Claim7.holds Tryz.pinned (.plain (OpenSpec.upto topHawserPairsSpec)) topHawserPairsUptoCard

/-- THE SECOND FORM's CARD OF 'beckettop.TopGrommetMats'. -/
def topGrommetMatsUptoCard : Claim7 := { stood := { row := topGrommetMatsUptoRow, standIns := [], harness := (true, "12d74bc61a38ed788576ad9331f77deac73191b9dc4f63f53de60138d6cf993c"), looks := false }, kinds := [], alts := [], laidByText := true, laidKinds := [.data, .data, .data, .data, .pinned], laidTests := true, laidLooks := .later }
def TopGrommetMatsUptoCardSaid : Prop := Claim7.holds Tryz.pinned (.plain (OpenSpec.upto topGrommetMatsSpec)) topGrommetMatsUptoCard
end Rows
end Go.Proofs.YtddkdgodgflmlaaGreatDoor
