/- Closed facts on the row of MachineLoads. No condition. -/
import Derived.Test.YtbchpkmcpplidaaGreatDoorXb01

set_option linter.all false
namespace Go.Proofs.YtbchpkmcpplidaaGreatDoor.machineLoads
open Go.ChangeShapes Go.WideShapes Go.ChangeAt Go.RowKit
set_option maxRecDepth 100000
theorem k0 : (Rows.machineLoadsRow.wf (OpenSpec.ofChange (OpenSpec.ofChange Rows.machineLoadsSpec).bare)) = true := by kernel_rfl
theorem k3 : (Tryz.f4.params.all (Tryz.prog.readableRec ·)) = true := by kernel_rfl
theorem k4 : (namedTie Tryz.prog Rows.machineLoadsRow.named (OpenSpec.ofChange Rows.machineLoadsSpec).bare.vars) = true := by kernel_rfl
theorem k5 : ((Rows.machineLoadsRow.stops == [])) = true := by kernel_rfl
theorem k7 : ((Rows.machineLoadsRow.knobs == [])) = true := by kernel_rfl
theorem k9 : ((Rows.machineLoadsRow.inPlace == Tryz.prog.inPlace 4)) = true := by kernel_rfl
theorem k10 : ((Rows.machineLoadsRow.unfollowed == Tryz.prog.unfollowed 4)) = true := by kernel_rfl
theorem k11 : ((Rows.machineLoadsRow.recurses == Tryz.prog.recurses 4)) = true := by kernel_rfl
theorem k12 : ((Rows.machineLoadsRow.named == Tryz.prog.varsNamed 4)) = true := by kernel_rfl
theorem k13 : ((Rows.machineLoadsRow.maps == (Tryz.f4.params.toList ++ (OpenSpec.ofChange Rows.machineLoadsSpec).bare.plain.varTypes Tryz.prog).any (Tryz.prog.mapsRec ·))) = true := by kernel_rfl
theorem k14 : ((Rows.machineLoadsRow.ifaces == (Tryz.f4.params.toList ++ (OpenSpec.ofChange Rows.machineLoadsSpec).bare.plain.varTypes Tryz.prog).any (Tryz.prog.ifacesRec ·))) = true := by kernel_rfl
theorem k15 : ((Rows.machineLoadsRow.mapsOut == Tryz.prog.mapsAmong Tryz.f4.resultTypes.toList)) = true := by kernel_rfl
theorem k16 : ((Rows.machineLoadsRow.loops == (Tryz.f4.params.toList ++ (OpenSpec.ofChange Rows.machineLoadsSpec).bare.plain.varTypes Tryz.prog).any (Tryz.prog.loopsFrom ·))) = true := by kernel_rfl
theorem k17 : ((Rows.machineLoadsRow.wideKeys == (Tryz.f4.params.toList ++ (OpenSpec.ofChange Rows.machineLoadsSpec).bare.plain.varTypes Tryz.prog ++ Tryz.f4.resultTypes.toList).any (Tryz.prog.wideKeysFrom ·))) = true := by kernel_rfl
theorem k18 : ((OpenSpec.ofChange Rows.machineLoadsSpec).bare.vars.all (Tryz.prog.varReadable ·)) = true := by kernel_rfl
theorem k19 : (Tryz.f4.resultTypes.all (fun t => Tryz.prog.readableRec t && decide (t < Tryz.prog.types.size))) = true := by kernel_rfl
theorem k20 : ((Rows.machineLoadsRow.ifacesOut == Tryz.f4.resultTypes.toList.any (Tryz.prog.ifacesRec ·))) = true := by kernel_rfl
theorem k21 : ((Rows.machineLoadsRow.loopsOut == Tryz.f4.resultTypes.toList.any (Tryz.prog.loopsFrom ·))) = true := by kernel_rfl
theorem k22 : ((Rows.machineLoadsRow.plainKeys == Tryz.prog.plainKeys)) = true := by kernel_rfl
theorem k23 : (Rows.machineLoadsRow.shortTexts.isNone) = true := by kernel_rfl
theorem k26 : ((Rows.machineLoadsRow.lifted == Tryz.prog.liftsFinal)) = true := by kernel_rfl
theorem k27 : ((Tryz.prog.make == some Rows.machineLoadsRow.make)) = true := by kernel_rfl
theorem k28 : ((Rows.machineLoadsRow.kinds == (if Rows.machineLoadsRow.domain.isEmpty then [] else Tryz.f4.params.toList.map fun t => match Tryz.prog.underlying t with | some (.int k) => some k | _ => none))) = true := by kernel_rfl
theorem k29 : ((Rows.machineLoadsRow.pinned == Rows.machineLoadsRow.pinnedBy)) = true := by kernel_rfl
theorem k30 : ((Rows.machineLoadsRow.veiled == (Tryz.f4.params.toList ++ (OpenSpec.ofChange Rows.machineLoadsSpec).bare.plain.varTypes Tryz.prog ++ Tryz.f4.resultTypes.toList).any (Tryz.prog.veiledRec ·))) = true := by kernel_rfl
theorem k31 : (Rows.machineLoadsRow.veiledFits Tryz.prog Tryz.f4.params.toList (Tryz.f4.params.toList ++ (OpenSpec.ofChange Rows.machineLoadsSpec).bare.plain.varTypes Tryz.prog ++ Tryz.f4.resultTypes.toList)) = true := by kernel_rfl
theorem facts : joinedFacts Tryz.prog 4 Tryz.f4 (OpenSpec.ofChange Rows.machineLoadsSpec).bare Rows.machineLoadsRow = true := by
 unfold joinedFacts
 rw [k0, g1, g2, k3, k4, k5, g6, k7, g8, k9, k10, k11, k12, k13, k14, k15, k16, k17, k18, k19, k20, k21, k22, k23, g24, g25, k26, k27, k29, k30, k31]
 simp only [Bool.true_and, Bool.and_true]
 exact k28
theorem wrapper : Func.isWrapper Tryz.prog Tryz.f4 Rows.machineLoadsRow.wrapper Rows.machineLoadsRow.mainSum := by unfold Func.isWrapper; first | (rw [if_pos (by decide +kernel)]; kernel_rfl) | (rw [if_neg (by decide +kernel)]; exact ⟨rfl, rfl⟩)
theorem instance_ : Func.isInstance Tryz.prog Tryz.f4 Rows.machineLoadsRow.origin Rows.machineLoadsRow.targs := of_decide_eq_true (by kernel_rfl)
theorem named : Tryz.prog.funcNamed Rows.machineLoadsRow.func = some 4 := by kernel_rfl
theorem byText : Rows.machineLoadsRow.wfByText (OpenSpec.ofChange Rows.machineLoadsSpec) = true := by kernel_rfl
end Go.Proofs.YtbchpkmcpplidaaGreatDoor.machineLoads
