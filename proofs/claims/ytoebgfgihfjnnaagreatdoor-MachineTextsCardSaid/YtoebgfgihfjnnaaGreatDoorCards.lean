/-
  DERIVED. GIVEN WITH THE SEED: THE CARDS: each row of YtoebgfgihfjnnaaGreatDoorRows.lean that lists a variable, with what it lists TIED to the program's text (the seventh form; the later family's looks); each row that meets fmt, with fmt's text TOLD by the authors' own Lean function (tested against real Go, not proved from fmt's source: count such statements apart). THE CARD IS WHAT COUNTS. Prove the row's statement (the work); the ties are given (YtoebgfgihfjnnaaGreatDoorTie.lean); close each card by the builder's one call (the guide's Derived/Test/ToyasCard.lean, 'card_holds'). Laid BY PROGRAM, IN A SANDBOX (cutbox-door.mjs). By AI agents, Wed Nov 11 2026. No macro, syntax, notation, axiom, sorry.
-/
import Derived.Test.YtoebgfgihfjnnaaGreatDoorRows
import GoSem.ClaimSeven
namespace Go.Proofs.YtoebgfgihfjnnaaGreatDoor
namespace Rows

/-- THE TIED CARD OF 'becketlaw04.MachineWords'. -/
def machineWordsCard : Claim7 := { stood := { row := machineWordsRow, standIns := [], harness := (true, "2e74c7062a864f8e0a6b90041ac2da9567916af973aa9e086df2832af3f63207"), looks := true }, kinds := [], alts := [], laidByText := true, laidKinds := [.data, .data, .data, .data, .sentinel, .sentinel, .pinned], laidTests := true, laidLooks := .later }
def MachineWordsCardSaid : Prop := Claim7.holds Tryz.pinned (.plain (OpenSpec.ofChange machineWordsSpec)) machineWordsCard

/-- THE TIED CARD OF 'becketlaw04.MachineTexts'. -/
def machineTextsCard : Claim7 := { stood := { row := machineTextsRow, standIns := [], harness := (true, "2e74c7062a864f8e0a6b90041ac2da9567916af973aa9e086df2832af3f63207"), looks := true }, kinds := [], alts := [], laidByText := true, laidKinds := [.data, .data, .data, .data, .sentinel, .sentinel, .pinned], laidTests := true, laidLooks := .later }
def MachineTextsCardSaid : Prop := Claim7.holds Tryz.pinned (.plain (OpenSpec.ofChange machineTextsSpec)) machineTextsCard

/-- THE TIED CARD OF 'becketlaw04.MachineCycles'. -/
def machineCyclesCard : Claim7 := { stood := { row := machineCyclesRow, standIns := [], harness := (true, "2e74c7062a864f8e0a6b90041ac2da9567916af973aa9e086df2832af3f63207"), looks := true }, kinds := [], alts := [], laidByText := true, laidKinds := [.data, .data, .data, .data, .sentinel, .sentinel, .pinned], laidTests := true, laidLooks := .later }
def MachineCyclesCardSaid : Prop := Claim7.holds Tryz.pinned (.plain (OpenSpec.ofChange machineCyclesSpec)) machineCyclesCard

/-- THE TIED CARD OF 'becketlaw04.MachineMeets'. -/
def machineMeetsCard : Claim7 := { stood := { row := machineMeetsRow, standIns := [], harness := (true, "2e74c7062a864f8e0a6b90041ac2da9567916af973aa9e086df2832af3f63207"), looks := true }, kinds := [], alts := [], laidByText := true, laidKinds := [.data, .data, .data, .data, .sentinel, .sentinel, .pinned], laidTests := true, laidLooks := .later }
def MachineMeetsCardSaid : Prop := Claim7.holds Tryz.pinned (.plain (OpenSpec.ofChange machineMeetsSpec)) machineMeetsCard

/-- THE TIED CARD OF 'becketlaw04.MachineRooms'. -/
def machineRoomsCard : Claim7 := { stood := { row := machineRoomsRow, standIns := [], harness := (true, "2e74c7062a864f8e0a6b90041ac2da9567916af973aa9e086df2832af3f63207"), looks := true }, kinds := [], alts := [], laidByText := true, laidKinds := [.data, .data, .data, .data, .sentinel, .sentinel, .pinned], laidTests := true, laidLooks := .later }
def MachineRoomsCardSaid : Prop := Claim7.holds Tryz.pinned (.plain (OpenSpec.ofChange machineRoomsSpec)) machineRoomsCard

/-- THE TIED CARD OF 'becketlaw04.MachineWeaves'. -/
def machineWeavesCard : Claim7 := { stood := { row := machineWeavesRow, standIns := [], harness := (true, "2e74c7062a864f8e0a6b90041ac2da9567916af973aa9e086df2832af3f63207"), looks := true }, kinds := [], alts := [], laidByText := true, laidKinds := [.data, .data, .data, .data, .sentinel, .sentinel, .pinned], laidTests := true, laidLooks := .later }
def MachineWeavesCardSaid : Prop := Claim7.holds Tryz.pinned (.plain (OpenSpec.ofChange machineWeavesSpec)) machineWeavesCard

/-- THE TIED CARD OF 'becketlaw04.MachineTurns'. -/
def machineTurnsCard : Claim7 := { stood := { row := machineTurnsRow, standIns := [], harness := (true, "2e74c7062a864f8e0a6b90041ac2da9567916af973aa9e086df2832af3f63207"), looks := true }, kinds := [], alts := [], laidByText := true, laidKinds := [.data, .data, .data, .data, .sentinel, .sentinel, .pinned], laidTests := true, laidLooks := .later }
def MachineTurnsCardSaid : Prop := Claim7.holds Tryz.pinned (.plain (OpenSpec.ofChange machineTurnsSpec)) machineTurnsCard

/-- THE TIED CARD OF 'becketlaw04.MachineReads'. -/
def machineReadsCard : Claim7 := { stood := { row := machineReadsRow, standIns := [], harness := (true, "2e74c7062a864f8e0a6b90041ac2da9567916af973aa9e086df2832af3f63207"), looks := true }, kinds := [], alts := [], laidByText := true, laidKinds := [.data, .data, .data, .data, .sentinel, .sentinel, .pinned], laidTests := true, laidLooks := .later }
def MachineReadsCardSaid : Prop := Claim7.holds Tryz.pinned (.plain (OpenSpec.ofChange machineReadsSpec)) machineReadsCard

/-- THE SECOND FORM's CARD OF 'becketlaw04.MachineWords'. -/
def machineWordsUptoCard : Claim7 := { stood := { row := machineWordsUptoRow, standIns := [], harness := (true, "2e74c7062a864f8e0a6b90041ac2da9567916af973aa9e086df2832af3f63207"), looks := true }, kinds := [], alts := [], laidByText := true, laidKinds := [.data, .data, .data, .data, .sentinel, .sentinel, .pinned], laidTests := true, laidLooks := .later }
def MachineWordsUptoCardSaid : Prop := Claim7.holds Tryz.pinned (.plain (OpenSpec.upto machineWordsSpec)) machineWordsUptoCard

/-- THE SECOND FORM's CARD OF 'becketlaw04.MachineTexts'. -/
def machineTextsUptoCard : Claim7 := { stood := { row := machineTextsUptoRow, standIns := [], harness := (true, "2e74c7062a864f8e0a6b90041ac2da9567916af973aa9e086df2832af3f63207"), looks := true }, kinds := [], alts := [], laidByText := true, laidKinds := [.data, .data, .data, .data, .sentinel, .sentinel, .pinned], laidTests := true, laidLooks := .later }
def MachineTextsUptoCardSaid : Prop := Claim7.holds Tryz.pinned (.plain (OpenSpec.upto machineTextsSpec)) machineTextsUptoCard

/-- THE SECOND FORM's CARD OF 'becketlaw04.MachineCycles'. -/
def machineCyclesUptoCard : Claim7 := { stood := { row := machineCyclesUptoRow, standIns := [], harness := (true, "2e74c7062a864f8e0a6b90041ac2da9567916af973aa9e086df2832af3f63207"), looks := true }, kinds := [], alts := [], laidByText := true, laidKinds := [.data, .data, .data, .data, .sentinel, .sentinel, .pinned], laidTests := true, laidLooks := .later }
def MachineCyclesUptoCardSaid : Prop := Claim7.holds Tryz.pinned (.plain (OpenSpec.upto machineCyclesSpec)) machineCyclesUptoCard

/-- THE SECOND FORM's CARD OF 'becketlaw04.MachineMeets'. -/
def machineMeetsUptoCard : Claim7 := { stood := { row := machineMeetsUptoRow, standIns := [], harness := (true, "2e74c7062a864f8e0a6b90041ac2da9567916af973aa9e086df2832af3f63207"), looks := true }, kinds := [], alts := [], laidByText := true, laidKinds := [.data, .data, .data, .data, .sentinel, .sentinel, .pinned], laidTests := true, laidLooks := .later }
def MachineMeetsUptoCardSaid : Prop := Claim7.holds Tryz.pinned (.plain (OpenSpec.upto machineMeetsSpec)) machineMeetsUptoCard

/-- THE SECOND FORM's CARD OF 'becketlaw04.MachineRooms'. -/
def machineRoomsUptoCard : Claim7 := { stood := { row := machineRoomsUptoRow, standIns := [], harness := (true, "2e74c7062a864f8e0a6b90041ac2da9567916af973aa9e086df2832af3f63207"), looks := true }, kinds := [], alts := [], laidByText := true, laidKinds := [.data, .data, .data, .data, .sentinel, .sentinel, .pinned], laidTests := true, laidLooks := .later }
def MachineRoomsUptoCardSaid : Prop := Claim7.holds Tryz.pinned (.plain (OpenSpec.upto machineRoomsSpec)) machineRoomsUptoCard

/-- THE SECOND FORM's CARD OF 'becketlaw04.MachineWeaves'. -/
def machineWeavesUptoCard : Claim7 := { stood := { row := machineWeavesUptoRow, standIns := [], harness := (true, "2e74c7062a864f8e0a6b90041ac2da9567916af973aa9e086df2832af3f63207"), looks := true }, kinds := [], alts := [], laidByText := true, laidKinds := [.data, .data, .data, .data, .sentinel, .sentinel, .pinned], laidTests := true, laidLooks := .later }
def MachineWeavesUptoCardSaid : Prop := Claim7.holds Tryz.pinned (.plain (OpenSpec.upto machineWeavesSpec)) machineWeavesUptoCard

/-- THE SECOND FORM's CARD OF 'becketlaw04.MachineTurns'. -/
def machineTurnsUptoCard : Claim7 := { stood := { row := machineTurnsUptoRow, standIns := [], harness := (true, "2e74c7062a864f8e0a6b90041ac2da9567916af973aa9e086df2832af3f63207"), looks := true }, kinds := [], alts := [], laidByText := true, laidKinds := [.data, .data, .data, .data, .sentinel, .sentinel, .pinned], laidTests := true, laidLooks := .later }
def MachineTurnsUptoCardSaid : Prop := Claim7.holds Tryz.pinned (.plain (OpenSpec.upto machineTurnsSpec)) machineTurnsUptoCard

/-- THE SECOND FORM's CARD OF 'becketlaw04.MachineReads'. -/
def machineReadsUptoCard : Claim7 := { stood := { row := machineReadsUptoRow, standIns := [], harness := (true, "2e74c7062a864f8e0a6b90041ac2da9567916af973aa9e086df2832af3f63207"), looks := true }, kinds := [], alts := [], laidByText := true, laidKinds := [.data, .data, .data, .data, .sentinel, .sentinel, .pinned], laidTests := true, laidLooks := .later }
def MachineReadsUptoCardSaid : Prop := Claim7.holds Tryz.pinned (.plain (OpenSpec.upto machineReadsSpec)) machineReadsUptoCard
end Rows
end Go.Proofs.YtoebgfgihfjnnaaGreatDoor
