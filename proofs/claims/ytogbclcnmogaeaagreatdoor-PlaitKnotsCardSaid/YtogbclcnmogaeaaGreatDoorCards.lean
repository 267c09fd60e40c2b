/-
  DERIVED. GIVEN WITH THE SEED: THE CARDS: each row of YtogbclcnmogaeaaGreatDoorRows.lean that lists a variable, with what it lists TIED to the program's text (the seventh form; the later family's looks); each row that meets fmt, with fmt's text TOLD by the authors' own Lean function (tested against real Go, not proved from fmt's source: count such statements apart). THE CARD IS WHAT COUNTS. Prove the row's statement (the work); the ties are given (YtogbclcnmogaeaaGreatDoorTie.lean); close each card by the builder's one call (the guide's Derived/Test/ToyasCard.lean, 'card_holds'). Laid BY PROGRAM, IN A SANDBOX (cutbox-door.mjs). By AI agents, Wed Nov 11 2026. No macro, syntax, notation, axiom, sorry.
-/
import Derived.Test.YtogbclcnmogaeaaGreatDoorRows
import GoSem.ClaimSeven
namespace Go.Proofs.YtogbclcnmogaeaaGreatDoor
namespace Rows

/-- THE TIED CARD OF 'becketlaw07.PlaitStands'. -/
def plaitStandsCard : Claim7 := { stood := { row := plaitStandsRow, standIns := [], harness := (true, "4576e774ac2040198955f11c1537833e85e27c901356f37aa00e1b6168cd89b2"), looks := true }, kinds := [], alts := [], laidByText := true, laidKinds := [.data, .data, .data, .data, .pinned], laidTests := true, laidLooks := .later }
def PlaitStandsCardSaid : Prop := Claim7.holds Tryz.pinned (.plain (OpenSpec.ofChange plaitStandsSpec)) plaitStandsCard

/-- THE TIED CARD OF 'becketlaw07.PlaitTurns'. -/
def plaitTurnsCard : Claim7 := { stood := { row := plaitTurnsRow, standIns := [], harness := (true, "4576e774ac2040198955f11c1537833e85e27c901356f37aa00e1b6168cd89b2"), looks := true }, kinds := [], alts := [], laidByText := true, laidKinds := [.data, .data, .data, .data, .pinned], laidTests := true, laidLooks := .later }
def PlaitTurnsCardSaid : Prop := Claim7.holds Tryz.pinned (.plain (OpenSpec.ofChange plaitTurnsSpec)) plaitTurnsCard

/-- THE TIED CARD OF 'becketlaw07.PlaitRounds'. -/
def plaitRoundsCard : Claim7 := { stood := { row := plaitRoundsRow, standIns := [], harness := (true, "4576e774ac2040198955f11c1537833e85e27c901356f37aa00e1b6168cd89b2"), looks := true }, kinds := [], alts := [], laidByText := true, laidKinds := [.data, .data, .data, .data, .pinned], laidTests := true, laidLooks := .later }
def PlaitRoundsCardSaid : Prop := Claim7.holds Tryz.pinned (.plain (OpenSpec.ofChange plaitRoundsSpec)) plaitRoundsCard

/-- THE TIED CARD OF 'becketlaw07.PlaitCrosses'. -/
def plaitCrossesCard : Claim7 := { stood := { row := plaitCrossesRow, standIns := [], harness := (true, "4576e774ac2040198955f11c1537833e85e27c901356f37aa00e1b6168cd89b2"), looks := true }, kinds := [], alts := [], laidByText := true, laidKinds := [.data, .data, .data, .data, .pinned], laidTests := true, laidLooks := .later }
def PlaitCrossesCardSaid : Prop := Claim7.holds Tryz.pinned (.plain (OpenSpec.ofChange plaitCrossesSpec)) plaitCrossesCard

/-- THE TIED CARD OF 'becketlaw07.PlaitSennits'. -/
def plaitSennitsCard : Claim7 := { stood := { row := plaitSennitsRow, standIns := [], harness := (true, "4576e774ac2040198955f11c1537833e85e27c901356f37aa00e1b6168cd89b2"), looks := true }, kinds := [], alts := [], laidByText := true, laidKinds := [.data, .data, .data, .data, .pinned], laidTests := true, laidLooks := .later }
def PlaitSennitsCardSaid : Prop := Claim7.holds Tryz.pinned (.plain (OpenSpec.ofChange plaitSennitsSpec)) plaitSennitsCard

/-- THE TIED CARD OF 'becketlaw07.PlaitMats'. -/
def plaitMatsCard : Claim7 := { stood := { row := plaitMatsRow, standIns := [], harness := (true, "4576e774ac2040198955f11c1537833e85e27c901356f37aa00e1b6168cd89b2"), looks := true }, kinds := [], alts := [], laidByText := true, laidKinds := [.data, .data, .data, .data, .pinned], laidTests := true, laidLooks := .later }
def PlaitMatsCardSaid : Prop := Claim7.holds Tryz.pinned (.plain (OpenSpec.ofChange plaitMatsSpec)) plaitMatsCard

/-- THE TIED CARD OF 'becketlaw07.PlaitFollows'. -/
def plaitFollowsCard : Claim7 := { stood := { row := plaitFollowsRow, standIns := [], harness := (true, "4576e774ac2040198955f11c1537833e85e27c901356f37aa00e1b6168cd89b2"), looks := true }, kinds := [], alts := [], laidByText := true, laidKinds := [.data, .data, .data, .data, .pinned], laidTests := true, laidLooks := .later }
def PlaitFollowsCardSaid : Prop := Claim7.holds Tryz.pinned (.plain (OpenSpec.ofChange plaitFollowsSpec)) plaitFollowsCard

/-- THE TIED CARD OF 'becketlaw07.PlaitKnots'. -/
def plaitKnotsCard : Claim7 := { stood := { row := plaitKnotsRow, standIns := [], harness := (true, "4576e774ac2040198955f11c1537833e85e27c901356f37aa00e1b6168cd89b2"), looks := true }, kinds := [], alts := [], laidByText := true, laidKinds := [.data, .data, .data, .data, .pinned], laidTests := true, laidLooks := .later }
def PlaitKnotsCardSaid : Prop := Claim7.holds Tryz.pinned (.plain (OpenSpec.ofChange plaitKnotsSpec)) plaitKnotsCard

/-- THE TIED CARD OF 'becketlaw07.PlaitCircles'. -/
def plaitCirclesCard : Claim7 := { stood := { row := plaitCirclesRow, standIns := [], harness := (true, "4576e774ac2040198955f11c1537833e85e27c901356f37aa00e1b6168cd89b2"), looks := true }, kinds := [], alts := [], laidByText := true, laidKinds := [.data, .data, .data, .data, .pinned], laidTests := true, laidLooks := .later }
def PlaitCirclesCardSaid : Prop := Claim7.holds Tryz.pinned (.plain (OpenSpec.ofChange plaitCirclesSpec)) plaitCirclesCard

/-- THE TIED CARD OF 'becketlaw07.PlaitPasses'. -/
def plaitPassesCard : Claim7 := { stood := { row := plaitPassesRow, standIns := [], harness := (true, "4576e774ac2040198955f11c1537833e85e27c901356f37aa00e1b6168cd89b2"), looks := true }, kinds := [], alts := [], laidByText := true, laidKinds := [.data, .data, .data, .data, .pinned], laidTests := true, laidLooks := .later }
def PlaitPassesCardSaid : Prop := Claim7.holds Tryz.pinned (.plain (OpenSpec.ofChange plaitPassesSpec)) plaitPassesCard

/-- THE TIED CARD OF 'becketlaw07.PlaitCancels'. -/
def plaitCancelsCard : Claim7 := { stood := { row := plaitCancelsRow, standIns := [], harness := (true, "4576e774ac2040198955f11c1537833e85e27c901356f37aa00e1b6168cd89b2"), looks := true }, kinds := [], alts := [], laidByText := true, laidKinds := [.data, .data, .data, .data, .pinned], laidTests := true, laidLooks := .later }
def PlaitCancelsCardSaid : Prop := Claim7.holds Tryz.pinned (.plain (OpenSpec.ofChange plaitCancelsSpec)) plaitCancelsCard

/-- THE TIED CARD OF 'becketlaw07.PlaitReplays'. -/
def plaitReplaysCard : Claim7 := { stood := { row := plaitReplaysRow, standIns := [], harness := (true, "4576e774ac2040198955f11c1537833e85e27c901356f37aa00e1b6168cd89b2"), looks := true }, kinds := [], alts := [], laidByText := true, laidKinds := [.data, .data, .data, .data, .pinned], laidTests := true, laidLooks := .later }
def PlaitReplaysCardSaid : Prop := Claim7.holds Tryz.pinned (.plain (OpenSpec.ofChange plaitReplaysSpec)) plaitReplaysCard

/-- THE TIED CARD OF 'becketlaw07.PlaitReturns'. -/
def plaitReturnsCard : Claim7 := { stood := { row := plaitReturnsRow, standIns := [], harness := (true, "4576e774ac2040198955f11c1537833e85e27c901356f37aa00e1b6168cd89b2"), looks := true }, kinds := [], alts := [], laidByText := true, laidKinds := [.data, .data, .data, .data, .pinned], laidTests := true, laidLooks := .later }
def PlaitReturnsCardSaid : Prop := Claim7.holds Tryz.pinned (.plain (OpenSpec.ofChange plaitReturnsSpec)) plaitReturnsCard

/-- THE TIED CARD OF 'becketlaw07.PlaitTexts'. -/
def plaitTextsCard : Claim7 := { stood := { row := plaitTextsRow, standIns := [], harness := (true, "4576e774ac2040198955f11c1537833e85e27c901356f37aa00e1b6168cd89b2"), looks := true }, kinds := [], alts := [], laidByText := true, laidKinds := [.data, .data, .data, .data, .sentinel, .sentinel, .pinned], laidTests := true, laidLooks := .later }
def PlaitTextsCardSaid : Prop := Claim7.holds Tryz.pinned (.plain (OpenSpec.ofChange plaitTextsSpec)) plaitTextsCard

/-- THE SECOND FORM's CARD OF 'becketlaw07.PlaitStands'. -/
def plaitStandsUptoCard : Claim7 := { stood := { row := plaitStandsUptoRow, standIns := [], harness := (true, "4576e774ac2040198955f11c1537833e85e27c901356f37aa00e1b6168cd89b2"), looks := true }, kinds := [], alts := [], laidByText := true, laidKinds := [.data, .data, .data, .data, .pinned], laidTests := true, laidLooks := .later }
def PlaitStandsUptoCardSaid : Prop := Claim7.holds Tryz.pinned (.plain (OpenSpec.upto plaitStandsSpec)) plaitStandsUptoCard

/-- THE SECOND FORM's CARD OF 'becketlaw07.PlaitTurns'. -/
def plaitTurnsUptoCard : Claim7 := { stood := { row := plaitTurnsUptoRow, standIns := [], harness := (true, "4576e774ac2040198955f11c1537833e85e27c901356f37aa00e1b6168cd89b2"), looks := true }, kinds := [], alts := [], laidByText := true, laidKinds := [.data, .data, .data, .data, .pinned], laidTests := true, laidLooks := .later }
def PlaitTurnsUptoCardSaid : Prop := Claim7.holds Tryz.pinned (.plain (OpenSpec.upto plaitTurnsSpec)) plaitTurnsUptoCard

/-- THE SECOND FORM's CARD OF 'becketlaw07.PlaitRounds'. -/
def plaitRoundsUptoCard : Claim7 := { stood := { row := plaitRoundsUptoRow, standIns := [], harness := (true, "4576e774ac2040198955f11c1537833e85e27c901356f37aa00e1b6168cd89b2"), looks := true }, kinds := [], alts := [], laidByText := true, laidKinds := [.data, .data, .data, .data, .pinned], laidTests := true, laidLooks := .later }
def PlaitRoundsUptoCardSaid : Prop := Claim7.holds Tryz.pinned (.plain (OpenSpec.upto plaitRoundsSpec)) plaitRoundsUptoCard

/-- THE SECOND FORM's CARD OF 'becketlaw07.PlaitCrosses'. -/
def plaitCrossesUptoCard : Claim7 := { stood := { row := plaitCrossesUptoRow, standIns := [], harness := (true, "4576e774ac2040198955f11c1537833e85e27c901356f37aa00e1b6168cd89b2"), looks := true }, kinds := [], alts := [], laidByText := true, laidKinds := [.data, .data, .data, .data, .pinned], laidTests := true, laidLooks := .later }
def PlaitCrossesUptoCardSaid : Prop := Claim7.holds Tryz.pinned (.plain (OpenSpec.upto plaitCrossesSpec)) plaitCrossesUptoCard

/-- THE SECOND FORM's CARD OF 'becketlaw07.PlaitSennits'. -/
def plaitSennitsUptoCard : Claim7 := { stood := { row := plaitSennitsUptoRow, standIns := [], harness := (true, "4576e774ac2040198955f11c1537833e85e27c901356f37aa00e1b6168cd89b2"), looks := true }, kinds := [], alts := [], laidByText := true, laidKinds := [.data, .data, .data, .data, .pinned], laidTests := true, laidLooks := .later }
def PlaitSennitsUptoCardSaid : Prop := Claim7.holds Tryz.pinned (.plain (OpenSpec.upto plaitSennitsSpec)) plaitSennitsUptoCard

/-- THE SECOND FORM's CARD OF 'becketlaw07.PlaitMats'. -/
def plaitMatsUptoCard : Claim7 := { stood := { row := plaitMatsUptoRow, standIns := [], harness := (true, "4576e774ac2040198955f11c1537833e85e27c901356f37aa00e1b6168cd89b2"), looks := true }, kinds := [], alts := [], laidByText := true, laidKinds := [.data, .data, .data, .data, .pinned], laidTests := true, laidLooks := .later }
def PlaitMatsUptoCardSaid : Prop := Claim7.holds Tryz.pinned (.plain (OpenSpec.upto plaitMatsSpec)) plaitMatsUptoCard

/-- THE SECOND FORM's CARD OF 'becketlaw07.PlaitFollows'. -/
def plaitFollowsUptoCard : Claim7 := { stood := { row := plaitFollowsUptoRow, standIns := [], harness := (true, "4576e774ac2040198955f11c1537833e85e27c901356f37aa00e1b6168cd89b2"), looks := true }, kinds := [], alts := [], laidByText := true, laidKinds := [.data, .data, .data, .data, .pinned], laidTests := true, laidLooks := .later }
def PlaitFollowsUptoCardSaid : Prop := Claim7.holds Tryz.pinned (.plain (OpenSpec.upto plaitFollowsSpec)) plaitFollowsUptoCard

/-- THE SECOND FORM's CARD OF 'becketlaw07.PlaitKnots'. -/
def plaitKnotsUptoCard : Claim7 := { stood := { row := plaitKnotsUptoRow, standIns := [], harness := (true, "4576e774ac2040198955f11c1537833e85e27c901356f37aa00e1b6168cd89b2"), looks := true }, kinds := [], alts := [], laidByText := true, laidKinds := [.data, .data, .data, .data, .pinned], laidTests := true, laidLooks := .later }
def PlaitKnotsUptoCardSaid : Prop := Claim7.holds Tryz.pinned (.plain (OpenSpec.upto plaitKnotsSpec)) plaitKnotsUptoCard

/-- THE SECOND FORM's CARD OF 'becketlaw07.PlaitCircles'. -/
def plaitCirclesUptoCard : Claim7 := { stood := { row := plaitCirclesUptoRow, standIns := [], harness := (true, "4576e774ac2040198955f11c1537833e85e27c901356f37aa00e1b6168cd89b2"), looks := true }, kinds := [], alts := [], laidByText := true, laidKinds := [.data, .data, .data, .data, .pinned], laidTests := true, laidLooks := .later }
def PlaitCirclesUptoCardSaid : Prop := Claim7.holds Tryz.pinned (.plain (OpenSpec.upto plaitCirclesSpec)) plaitCirclesUptoCard

/-- THE SECOND FORM's CARD OF 'becketlaw07.PlaitPasses'. -/
def plaitPassesUptoCard : Claim7 := { stood := { row := plaitPassesUptoRow, standIns := [], harness := (true, "4576e774ac2040198955f11c1537833e85e27c901356f37aa00e1b6168cd89b2"), looks := true }, kinds := [], alts := [], laidByText := true, laidKinds := [.data, .data, .data, .data, .pinned], laidTests := true, laidLooks := .later }
def PlaitPassesUptoCardSaid : Prop := Claim7.holds Tryz.pinned (.plain (OpenSpec.upto plaitPassesSpec)) plaitPassesUptoCard

/-- THE SECOND FORM's CARD OF 'becketlaw07.PlaitCancels'. -/
def plaitCancelsUptoCard : Claim7 := { stood := { row := plaitCancelsUptoRow, standIns := [], harness := (true, "4576e774ac2040198955f11c1537833e85e27c901356f37aa00e1b6168cd89b2"), looks := true }, kinds := [], alts := [], laidByText := true, laidKinds := [.data, .data, .data, .data, .pinned], laidTests := true, laidLooks := .later }
def PlaitCancelsUptoCardSaid : Prop := Claim7.holds Tryz.pinned (.plain (OpenSpec.upto plaitCancelsSpec)) plaitCancelsUptoCard

/-- THE SECOND FORM's CARD OF 'becketlaw07.PlaitReplays'. -/
def plaitReplaysUptoCard : Claim7 := { stood := { row := plaitReplaysUptoRow, standIns := [], harness := (true, "4576e774ac2040198955f11c1537833e85e27c901356f37aa00e1b6168cd89b2"), looks := true }, kinds := [], alts := [], laidByText := true, laidKinds := [.data, .data, .data, .data, .pinned], laidTests := true, laidLooks := .later }
def PlaitReplaysUptoCardSaid : Prop := Claim7.holds Tryz.pinned (.plain (OpenSpec.upto plaitReplaysSpec)) plaitReplaysUptoCard

/-- THE SECOND FORM's CARD OF 'becketlaw07.PlaitReturns'. -/
def plaitReturnsUptoCard : Claim7 := { stood := { row := plaitReturnsUptoRow, standIns := [], harness := (true, "4576e774ac2040198955f11c1537833e85e27c901356f37aa00e1b6168cd89b2"), looks := true }, kinds := [], alts := [], laidByText := true, laidKinds := [.data, .data, .data, .data, .pinned], laidTests := true, laidLooks := .later }
def PlaitReturnsUptoCardSaid : Prop := Claim7.holds Tryz.pinned (.plain (OpenSpec.upto plaitReturnsSpec)) plaitReturnsUptoCard

/-- THE SECOND FORM's CARD OF 'becketlaw07.PlaitTexts'. -/
def plaitTextsUptoCard : Claim7 := { stood := { row := plaitTextsUptoRow, standIns := [], harness := (true, "4576e774ac2040198955f11c1537833e85e27c901356f37aa00e1b6168cd89b2"), looks := true }, kinds := [], alts := [], laidByText := true, laidKinds := [.data, .data, .data, .data, .sentinel, .sentinel, .pinned], laidTests := true, laidLooks := .later }
def PlaitTextsUptoCardSaid : Prop := Claim7.holds Tryz.pinned (.plain (OpenSpec.upto plaitTextsSpec)) plaitTextsUptoCard
end Rows
end Go.Proofs.YtogbclcnmogaeaaGreatDoor
