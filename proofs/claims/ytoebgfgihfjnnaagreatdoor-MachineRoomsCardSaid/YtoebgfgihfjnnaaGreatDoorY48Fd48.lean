/- Closed facts on the row of MachineRooms. No condition. -/
import Derived.Test.YtoebgfgihfjnnaaGreatDoorCards
import Derived.Test.YtoebgfgihfjnnaaGreatDoorTie
import Derived.WalkKit
import Derived.ProofKit
import Derived.OpenShut
import Derived.Deep.DeepHandedRow
import Derived.Test.YtoebgfgihfjnnaaGreatDoorXz01
import Derived.Test.YtoebgfgihfjnnaaGreatDoorXz02
import Derived.Test.YtoebgfgihfjnnaaGreatDoorXz03
import Derived.Test.YtoebgfgihfjnnaaGreatDoorXz04
import Derived.Test.YtoebgfgihfjnnaaGreatDoorXz05
import Derived.Test.YtoebgfgihfjnnaaGreatDoorXz06
import Derived.Test.YtoebgfgihfjnnaaGreatDoorXz07
import Derived.Test.YtoebgfgihfjnnaaGreatDoorXz08
import Derived.Test.YtoebgfgihfjnnaaGreatDoorXz09
import Derived.Test.YtoebgfgihfjnnaaGreatDoorXz10
import Derived.Test.YtoebgfgihfjnnaaGreatDoorXz11
import Derived.Test.YtoebgfgihfjnnaaGreatDoorXz12
import Derived.Test.YtoebgfgihfjnnaaGreatDoorY4801

set_option linter.all false
namespace Go.Proofs.YtoebgfgihfjnnaaGreatDoor.machineRooms
open Go.ChangeShapes Go.WideShapes Go.ChangeAt Go.RowKit
set_option maxRecDepth 100000
theorem k0 : (Rows.machineRoomsRow.wf (OpenSpec.ofChange (OpenSpec.ofChange Rows.machineRoomsSpec).bare)) = true := by kernel_rfl
theorem k3 : (Tryz.f7.params.all (Tryz.prog.readableRec ·)) = true := by kernel_rfl
theorem k4 : (namedTie Tryz.prog Rows.machineRoomsRow.named (OpenSpec.ofChange Rows.machineRoomsSpec).bare.vars) = true := by kernel_rfl
theorem k5 : ((Rows.machineRoomsRow.stops == [])) = true := by kernel_rfl
theorem k7 : ((Rows.machineRoomsRow.knobs == [])) = true := by kernel_rfl
theorem k9 : ((Rows.machineRoomsRow.inPlace == Tryz.prog.inPlace 7)) = true := by kernel_rfl
theorem k10 : ((Rows.machineRoomsRow.unfollowed == Tryz.prog.unfollowed 7)) = true := by kernel_rfl
theorem k11 : ((Rows.machineRoomsRow.recurses == Tryz.prog.recurses 7)) = true := by kernel_rfl
theorem k12 : ((Rows.machineRoomsRow.named == Tryz.prog.varsNamed 7)) = true := by kernel_rfl
theorem k13 : ((Rows.machineRoomsRow.maps == (Tryz.f7.params.toList ++ (OpenSpec.ofChange Rows.machineRoomsSpec).bare.plain.varTypes Tryz.prog).any (Tryz.prog.mapsRec ·))) = true := by kernel_rfl
theorem k14 : ((Rows.machineRoomsRow.ifaces == (Tryz.f7.params.toList ++ (OpenSpec.ofChange Rows.machineRoomsSpec).bare.plain.varTypes Tryz.prog).any (Tryz.prog.ifacesRec ·))) = true := by kernel_rfl
theorem k15 : ((Rows.machineRoomsRow.mapsOut == Tryz.prog.mapsAmong Tryz.f7.resultTypes.toList)) = true := by kernel_rfl
theorem k16 : ((Rows.machineRoomsRow.loops == (Tryz.f7.params.toList ++ (OpenSpec.ofChange Rows.machineRoomsSpec).bare.plain.varTypes Tryz.prog).any (Tryz.prog.loopsFrom ·))) = true := by kernel_rfl
theorem k17 : ((Rows.machineRoomsRow.wideKeys == (Tryz.f7.params.toList ++ (OpenSpec.ofChange Rows.machineRoomsSpec).bare.plain.varTypes Tryz.prog ++ Tryz.f7.resultTypes.toList).any (Tryz.prog.wideKeysFrom ·))) = true := by kernel_rfl
theorem k18 : ((OpenSpec.ofChange Rows.machineRoomsSpec).bare.vars.all (Tryz.prog.varReadable ·)) = true := by kernel_rfl
theorem k19 : (Tryz.f7.resultTypes.all (fun t => Tryz.prog.readableRec t && decide (t < Tryz.prog.types.size))) = true := by kernel_rfl
theorem k20 : ((Rows.machineRoomsRow.ifacesOut == Tryz.f7.resultTypes.toList.any (Tryz.prog.ifacesRec ·))) = true := by kernel_rfl
theorem k21 : ((Rows.machineRoomsRow.loopsOut == Tryz.f7.resultTypes.toList.any (Tryz.prog.loopsFrom ·))) = true := by kernel_rfl
theorem k22 : ((Rows.machineRoomsRow.plainKeys == Tryz.prog.plainKeys)) = true := by kernel_rfl
theorem k23 : (Rows.machineRoomsRow.shortTexts.isNone) = true := by kernel_rfl
theorem k26 : ((Rows.machineRoomsRow.lifted == Tryz.prog.liftsFinal)) = true := by kernel_rfl
theorem k27 : ((Tryz.prog.make == some Rows.machineRoomsRow.make)) = true := by kernel_rfl
theorem k28 : ((Rows.machineRoomsRow.kinds == (if Rows.machineRoomsRow.domain.isEmpty then [] else Tryz.f7.params.toList.map fun t => match Tryz.prog.underlying t with | some (.int k) => some k | _ => none))) = true := by kernel_rfl
theorem k29 : ((Rows.machineRoomsRow.pinned == Rows.machineRoomsRow.pinnedBy)) = true := by kernel_rfl
theorem k30 : ((Rows.machineRoomsRow.veiled == (Tryz.f7.params.toList ++ (OpenSpec.ofChange Rows.machineRoomsSpec).bare.plain.varTypes Tryz.prog ++ Tryz.f7.resultTypes.toList).any (Tryz.prog.veiledRec ·))) = true := by kernel_rfl
theorem k31 : (Rows.machineRoomsRow.veiledFits Tryz.prog Tryz.f7.params.toList (Tryz.f7.params.toList ++ (OpenSpec.ofChange Rows.machineRoomsSpec).bare.plain.varTypes Tryz.prog ++ Tryz.f7.resultTypes.toList)) = true := by kernel_rfl
theorem facts : joinedFacts Tryz.prog 7 Tryz.f7 (OpenSpec.ofChange Rows.machineRoomsSpec).bare Rows.machineRoomsRow = true := by
 unfold joinedFacts
 rw [k0, g1, g2, k3, k4, k5, g6, k7, g8, k9, k10, k11, k12, k13, k14, k15, k16, k17, k18, k19, k20, k21, k22, k23, g24, g25, k26, k27, k29, k30, k31]
 simp only [Bool.true_and, Bool.and_true]
 exact k28
theorem wrapper : Func.isWrapper Tryz.prog Tryz.f7 Rows.machineRoomsRow.wrapper Rows.machineRoomsRow.mainSum := by unfold Func.isWrapper; first | (rw [if_pos (by decide +kernel)]; kernel_rfl) | (rw [if_neg (by decide +kernel)]; exact ⟨rfl, rfl⟩)
theorem instance_ : Func.isInstance Tryz.prog Tryz.f7 Rows.machineRoomsRow.origin Rows.machineRoomsRow.targs := of_decide_eq_true (by kernel_rfl)
theorem named : Tryz.prog.funcNamed Rows.machineRoomsRow.func = some 7 := by kernel_rfl
theorem byText : Rows.machineRoomsRow.wfByText (OpenSpec.ofChange Rows.machineRoomsSpec) = true := by kernel_rfl
end Go.Proofs.YtoebgfgihfjnnaaGreatDoor.machineRooms
