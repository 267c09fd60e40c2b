/-
  DERIVED. GIVEN WITH THE SEED: THE CARDS: each row of YtbchpkmcpplidaaGreatDoorRows.lean that lists a variable, with what it lists TIED to the program's text (the seventh form; the later family's looks); each row that meets fmt, with fmt's text TOLD by the authors' own Lean function (tested against real Go, not proved from fmt's source: count such statements apart). THE CARD IS WHAT COUNTS. Prove the row's statement (the work); the ties are given (YtbchpkmcpplidaaGreatDoorTie.lean); close each card by the builder's one call (the guide's Derived/Test/ToyasCard.lean, 'card_holds'). Laid BY PROGRAM, IN A SANDBOX (cutbox-door.mjs). By AI agents, Wed Nov 11 2026. No macro, syntax, notation, axiom, sorry.
-/
import Derived.Test.YtbchpkmcpplidaaGreatDoorRows
import GoSem.ClaimSeven
namespace Go.Proofs.YtbchpkmcpplidaaGreatDoor
namespace Rows

/-- THE TIED CARD OF 'becketlaw04.MachinePerms'. -/
def machinePermsCard : Claim7 := { stood := { row := machinePermsRow, standIns := [], harness := (true, "43c5f72bdd19e40f6df2969d4b544a7bc996eb66ebd9114c2de710891c741bde"), looks := true }, kinds := [], alts := [], laidByText := true, laidKinds := [.data, .data, .data, .data, .sentinel, .sentinel, .pinned], laidTests := true, laidLooks := .later }
def MachinePermsCardSaid : Prop := Claim7.holds Tryz.pinned (.plain (OpenSpec.ofChange machinePermsSpec)) machinePermsCard

/-- THE TIED CARD OF 'becketlaw04.MachineLoads'. -/
def machineLoadsCard : Claim7 := { stood := { row := machineLoadsRow, standIns := [], harness := (true, "43c5f72bdd19e40f6df2969d4b544a7bc996eb66ebd9114c2de710891c741bde"), looks := true }, kinds := [], alts := [], laidByText := true, laidKinds := [.data, .data, .data, .data, .sentinel, .sentinel, .pinned], laidTests := true, laidLooks := .later }
def MachineLoadsCardSaid : Prop := Claim7.holds Tryz.pinned (.plain (OpenSpec.ofChange machineLoadsSpec)) machineLoadsCard

/-- THE TIED CARD OF 'becketlaw04.MachineFills'. -/
def machineFillsCard : Claim7 := { stood := { row := machineFillsRow, standIns := [], harness := (true, "43c5f72bdd19e40f6df2969d4b544a7bc996eb66ebd9114c2de710891c741bde"), looks := true }, kinds := [], alts := [], laidByText := true, laidKinds := [.data, .data, .data, .data, .sentinel, .sentinel, .pinned], laidTests := true, laidLooks := .later }
def MachineFillsCardSaid : Prop := Claim7.holds Tryz.pinned (.plain (OpenSpec.ofChange machineFillsSpec)) machineFillsCard

/-- THE TIED CARD OF 'becketlaw04.MachineWords'. -/
def machineWordsCard : Claim7 := { stood := { row := machineWordsRow, standIns := [], harness := (true, "43c5f72bdd19e40f6df2969d4b544a7bc996eb66ebd9114c2de710891c741bde"), looks := true }, kinds := [], alts := [], laidByText := true, laidKinds := [.data, .data, .data, .data, .sentinel, .sentinel, .pinned], laidTests := true, laidLooks := .later }
def MachineWordsCardSaid : Prop := Claim7.holds Tryz.pinned (.plain (OpenSpec.ofChange machineWordsSpec)) machineWordsCard

/-- THE TIED CARD OF 'becketlaw04.MachineTexts'. -/
def machineTextsCard : Claim7 := { stood := { row := machineTextsRow, standIns := [], harness := (true, "43c5f72bdd19e40f6df2969d4b544a7bc996eb66ebd9114c2de710891c741bde"), looks := true }, kinds := [], alts := [], laidByText := true, laidKinds := [.data, .data, .data, .data, .sentinel, .sentinel, .pinned], laidTests := true, laidLooks := .later }
def MachineTextsCardSaid : Prop := Claim7.holds Tryz.pinned (.plain (OpenSpec.ofChange machineTextsSpec)) machineTextsCard

/-- THE SECOND FORM's CARD OF 'becketlaw04.MachinePerms'. -/
def machinePermsUptoCard : Claim7 := { stood := { row := machinePermsUptoRow, standIns := [], harness := (true, "43c5f72bdd19e40f6df2969d4b544a7bc996eb66ebd9114c2de710891c741bde"), looks := true }, kinds := [], alts := [], laidByText := true, laidKinds := [.data, .data, .data, .data, .sentinel, .sentinel, .pinned], laidTests := true, laidLooks := .later }
def MachinePermsUptoCardSaid : Prop := Claim7.holds Tryz.pinned (.plain (OpenSpec.upto machinePermsSpec)) machinePermsUptoCard

/-- THE SECOND FORM's CARD OF 'becketlaw04.MachineLoads'. -/
def machineLoadsUptoCard : Claim7 := { stood := { row := machineLoadsUptoRow, standIns := [], harness := (true, "43c5f72bdd19e40f6df2969d4b544a7bc996eb66ebd9114c2de710891c741bde"), looks := true }, kinds := [], alts := [], laidByText := true, laidKinds := [.data, .data, .data, .data, .sentinel, .sentinel, .pinned], laidTests := true, laidLooks := .later }
def MachineLoadsUptoCardSaid : Prop := Claim7.holds Tryz.pinned (.plain (OpenSpec.upto machineLoadsSpec)) machineLoadsUptoCard

/-- THE SECOND FORM's CARD OF 'becketlaw04.MachineFills'. -/
def machineFillsUptoCard : Claim7 := { stood := { row := machineFillsUptoRow, standIns := [], harness := (true, "43c5f72bdd19e40f6df2969d4b544a7bc996eb66ebd9114c2de710891c741bde"), looks := true }, kinds := [], alts := [], laidByText := true, laidKinds := [.data, .data, .data, .data, .sentinel, .sentinel, .pinned], laidTests := true, laidLooks := .later }
def MachineFillsUptoCardSaid : Prop := Claim7.holds Tryz.pinned (.plain (OpenSpec.upto machineFillsSpec)) machineFillsUptoCard

/-- THE SECOND FORM's CARD OF 'becketlaw04.MachineWords'. -/
def machineWordsUptoCard : Claim7 := { stood := { row := machineWordsUptoRow, standIns := [], harness := (true, "43c5f72bdd19e40f6df2969d4b544a7bc996eb66ebd9114c2de710891c741bde"), looks := true }, kinds := [], alts := [], laidByText := true, laidKinds := [.data, .data, .data, .data, .sentinel, .sentinel, .pinned], laidTests := true, laidLooks := .later }
def MachineWordsUptoCardSaid : Prop := Claim7.holds Tryz.pinned (.plain (OpenSpec.upto machineWordsSpec)) machineWordsUptoCard

/-- THE SECOND FORM's CARD OF 'becketlaw04.MachineTexts'. -/
def machineTextsUptoCard : Claim7 := { stood := { row := machineTextsUptoRow, standIns := [], harness := (true, "43c5f72bdd19e40f6df2969d4b544a7bc996eb66ebd9114c2de710891c741bde"), looks := true }, kinds := [], alts := [], laidByText := true, laidKinds := [.data, .data, .data, .data, .sentinel, .sentinel, .pinned], laidTests := true, laidLooks := .later }
def MachineTextsUptoCardSaid : Prop := Claim7.holds Tryz.pinned (.plain (OpenSpec.upto machineTextsSpec)) machineTextsUptoCard
end Rows
end Go.Proofs.YtbchpkmcpplidaaGreatDoor
