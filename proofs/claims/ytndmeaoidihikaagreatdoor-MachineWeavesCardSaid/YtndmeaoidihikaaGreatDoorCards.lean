/-
  DERIVED. GIVEN WITH THE SEED: THE CARDS: each row of YtndmeaoidihikaaGreatDoorRows.lean that lists a variable, with what it lists TIED to the program's text (the seventh form; the later family's looks); each row that meets fmt, with fmt's text TOLD by the authors' own Lean function (tested against real Go, not proved from fmt's source: count such statements apart). THE CARD IS WHAT COUNTS. Prove the row's statement (the work); the ties are given (YtndmeaoidihikaaGreatDoorTie.lean); close each card by the builder's one call (the guide's Derived/Test/ToyasCard.lean, 'card_holds'). Laid BY PROGRAM, IN A SANDBOX (cutbox-door.mjs). By AI agents, Wed Nov 11 2026. No macro, syntax, notation, axiom, sorry.
-/
import Derived.Test.YtndmeaoidihikaaGreatDoorRows
import GoSem.ClaimSeven
namespace Go.Proofs.YtndmeaoidihikaaGreatDoor
namespace Rows

/-- THE TIED CARD OF 'becketlaw04.MachineCycles'. -/
def machineCyclesCard : Claim7 := { stood := { row := machineCyclesRow, standIns := [], harness := (true, "82d0d1f63e596d5fed92db5f37f8faaff48ab8848d6ce025dedf10f36f77e561"), looks := true }, kinds := [], alts := [], laidByText := true, laidKinds := [.data, .data, .data, .data, .sentinel, .sentinel, .pinned], laidTests := true, laidLooks := .later }
def MachineCyclesCardSaid : Prop := Claim7.holds Tryz.pinned (.plain (OpenSpec.ofChange machineCyclesSpec)) machineCyclesCard

/-- THE TIED CARD OF 'becketlaw04.MachineMeets'. -/
def machineMeetsCard : Claim7 := { stood := { row := machineMeetsRow, standIns := [], harness := (true, "82d0d1f63e596d5fed92db5f37f8faaff48ab8848d6ce025dedf10f36f77e561"), looks := true }, kinds := [], alts := [], laidByText := true, laidKinds := [.data, .data, .data, .data, .sentinel, .sentinel, .pinned], laidTests := true, laidLooks := .later }
def MachineMeetsCardSaid : Prop := Claim7.holds Tryz.pinned (.plain (OpenSpec.ofChange machineMeetsSpec)) machineMeetsCard

/-- THE TIED CARD OF 'becketlaw04.MachineWeaves'. -/
def machineWeavesCard : Claim7 := { stood := { row := machineWeavesRow, standIns := [], harness := (true, "82d0d1f63e596d5fed92db5f37f8faaff48ab8848d6ce025dedf10f36f77e561"), looks := true }, kinds := [], alts := [], laidByText := true, laidKinds := [.data, .data, .data, .data, .sentinel, .sentinel, .pinned], laidTests := true, laidLooks := .later }
def MachineWeavesCardSaid : Prop := Claim7.holds Tryz.pinned (.plain (OpenSpec.ofChange machineWeavesSpec)) machineWeavesCard

/-- THE SECOND FORM's CARD OF 'becketlaw04.MachineCycles'. -/
def machineCyclesUptoCard : Claim7 := { stood := { row := machineCyclesUptoRow, standIns := [], harness := (true, "82d0d1f63e596d5fed92db5f37f8faaff48ab8848d6ce025dedf10f36f77e561"), looks := true }, kinds := [], alts := [], laidByText := true, laidKinds := [.data, .data, .data, .data, .sentinel, .sentinel, .pinned], laidTests := true, laidLooks := .later }
def MachineCyclesUptoCardSaid : Prop := Claim7.holds Tryz.pinned (.plain (OpenSpec.upto machineCyclesSpec)) machineCyclesUptoCard

/-- THE SECOND FORM's CARD OF 'becketlaw04.MachineMeets'. -/
def machineMeetsUptoCard : Claim7 := { stood := { row := machineMeetsUptoRow, standIns := [], harness := (true, "82d0d1f63e596d5fed92db5f37f8faaff48ab8848d6ce025dedf10f36f77e561"), looks := true }, kinds := [], alts := [], laidByText := true, laidKinds := [.data, .data, .data, .data, .sentinel, .sentinel, .pinned], laidTests := true, laidLooks := .later }
def MachineMeetsUptoCardSaid : Prop := Claim7.holds Tryz.pinned (.plain (OpenSpec.upto machineMeetsSpec)) machineMeetsUptoCard

/-- THE SECOND FORM's CARD OF 'becketlaw04.MachineWeaves'. -/
def machineWeavesUptoCard : Claim7 := { stood := { row := machineWeavesUptoRow, standIns := [], harness := (true, "82d0d1f63e596d5fed92db5f37f8faaff48ab8848d6ce025dedf10f36f77e561"), looks := true }, kinds := [], alts := [], laidByText := true, laidKinds := [.data, .data, .data, .data, .sentinel, .sentinel, .pinned], laidTests := true, laidLooks := .later }
def MachineWeavesUptoCardSaid : Prop := Claim7.holds Tryz.pinned (.plain (OpenSpec.upto machineWeavesSpec)) machineWeavesUptoCard
end Rows
end Go.Proofs.YtndmeaoidihikaaGreatDoor
