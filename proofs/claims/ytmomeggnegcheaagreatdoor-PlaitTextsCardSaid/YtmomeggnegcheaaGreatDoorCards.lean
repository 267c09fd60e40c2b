/-
  DERIVED. GIVEN WITH THE SEED: THE CARDS: each row of YtmomeggnegcheaaGreatDoorRows.lean that lists a variable, with what it lists TIED to the program's text (the seventh form; the later family's looks); each row that meets fmt, with fmt's text TOLD by the authors' own Lean function (tested against real Go, not proved from fmt's source: count such statements apart). THE CARD IS WHAT COUNTS. Prove the row's statement (the work); the ties are given (YtmomeggnegcheaaGreatDoorTie.lean); close each card by the builder's one call (the guide's Derived/Test/ToyasCard.lean, 'card_holds'). Laid BY PROGRAM, IN A SANDBOX (cutbox-door.mjs). By AI agents, Wed Nov 11 2026. No macro, syntax, notation, axiom, sorry.
-/
import Derived.Test.YtmomeggnegcheaaGreatDoorRows
import GoSem.ClaimSeven
namespace Go.Proofs.YtmomeggnegcheaaGreatDoor
namespace Rows

/-- THE TIED CARD OF 'becketlaw07.PlaitRounds'. -/
def plaitRoundsCard : Claim7 := { stood := { row := plaitRoundsRow, standIns := [], harness := (true, "0beb1f9152abe69e150524ae3fe6be76f6f5666d4a022c1829c6f611f8d3dc41"), looks := true }, kinds := [], alts := [], laidByText := true, laidKinds := [.data, .data, .data, .data, .pinned], laidTests := true, laidLooks := .later }
def PlaitRoundsCardSaid : Prop := Claim7.holds Tryz.pinned (.plain (OpenSpec.ofChange plaitRoundsSpec)) plaitRoundsCard

/-- THE TIED CARD OF 'becketlaw07.PlaitCircles'. -/
def plaitCirclesCard : Claim7 := { stood := { row := plaitCirclesRow, standIns := [], harness := (true, "0beb1f9152abe69e150524ae3fe6be76f6f5666d4a022c1829c6f611f8d3dc41"), looks := true }, kinds := [], alts := [], laidByText := true, laidKinds := [.data, .data, .data, .data, .pinned], laidTests := true, laidLooks := .later }
def PlaitCirclesCardSaid : Prop := Claim7.holds Tryz.pinned (.plain (OpenSpec.ofChange plaitCirclesSpec)) plaitCirclesCard

/-- THE TIED CARD OF 'becketlaw07.PlaitReturns'. -/
def plaitReturnsCard : Claim7 := { stood := { row := plaitReturnsRow, standIns := [], harness := (true, "0beb1f9152abe69e150524ae3fe6be76f6f5666d4a022c1829c6f611f8d3dc41"), looks := true }, kinds := [], alts := [], laidByText := true, laidKinds := [.data, .data, .data, .data, .pinned], laidTests := true, laidLooks := .later }
def PlaitReturnsCardSaid : Prop := Claim7.holds Tryz.pinned (.plain (OpenSpec.ofChange plaitReturnsSpec)) plaitReturnsCard

/-- THE TIED CARD OF 'becketlaw07.PlaitTexts'. -/
def plaitTextsCard : Claim7 := { stood := { row := plaitTextsRow, standIns := [], harness := (true, "0beb1f9152abe69e150524ae3fe6be76f6f5666d4a022c1829c6f611f8d3dc41"), looks := true }, kinds := [], alts := [], laidByText := true, laidKinds := [.data, .data, .data, .data, .sentinel, .sentinel, .pinned], laidTests := true, laidLooks := .later }
def PlaitTextsCardSaid : Prop := Claim7.holds Tryz.pinned (.plain (OpenSpec.ofChange plaitTextsSpec)) plaitTextsCard

/-- THE SECOND FORM's CARD OF 'becketlaw07.PlaitRounds'. -/
def plaitRoundsUptoCard : Claim7 := { stood := { row := plaitRoundsUptoRow, standIns := [], harness := (true, "0beb1f9152abe69e150524ae3fe6be76f6f5666d4a022c1829c6f611f8d3dc41"), looks := true }, kinds := [], alts := [], laidByText := true, laidKinds := [.data, .data, .data, .data, .pinned], laidTests := true, laidLooks := .later }
def PlaitRoundsUptoCardSaid : Prop := Claim7.holds Tryz.pinned (.plain (OpenSpec.upto plaitRoundsSpec)) plaitRoundsUptoCard

/-- THE SECOND FORM's CARD OF 'becketlaw07.PlaitCircles'. -/
def plaitCirclesUptoCard : Claim7 := { stood := { row := plaitCirclesUptoRow, standIns := [], harness := (true, "0beb1f9152abe69e150524ae3fe6be76f6f5666d4a022c1829c6f611f8d3dc41"), looks := true }, kinds := [], alts := [], laidByText := true, laidKinds := [.data, .data, .data, .data, .pinned], laidTests := true, laidLooks := .later }
def PlaitCirclesUptoCardSaid : Prop := Claim7.holds Tryz.pinned (.plain (OpenSpec.upto plaitCirclesSpec)) plaitCirclesUptoCard

/-- THE SECOND FORM's CARD OF 'becketlaw07.PlaitReturns'. -/
def plaitReturnsUptoCard : Claim7 := { stood := { row := plaitReturnsUptoRow, standIns := [], harness := (true, "0beb1f9152abe69e150524ae3fe6be76f6f5666d4a022c1829c6f611f8d3dc41"), looks := true }, kinds := [], alts := [], laidByText := true, laidKinds := [.data, .data, .data, .data, .pinned], laidTests := true, laidLooks := .later }
def PlaitReturnsUptoCardSaid : Prop := Claim7.holds Tryz.pinned (.plain (OpenSpec.upto plaitReturnsSpec)) plaitReturnsUptoCard

/-- THE SECOND FORM's CARD OF 'becketlaw07.PlaitTexts'. -/
def plaitTextsUptoCard : Claim7 := { stood := { row := plaitTextsUptoRow, standIns := [], harness := (true, "0beb1f9152abe69e150524ae3fe6be76f6f5666d4a022c1829c6f611f8d3dc41"), looks := true }, kinds := [], alts := [], laidByText := true, laidKinds := [.data, .data, .data, .data, .sentinel, .sentinel, .pinned], laidTests := true, laidLooks := .later }
def PlaitTextsUptoCardSaid : Prop := Claim7.holds Tryz.pinned (.plain (OpenSpec.upto plaitTextsSpec)) plaitTextsUptoCard
end Rows
end Go.Proofs.YtmomeggnegcheaaGreatDoor
