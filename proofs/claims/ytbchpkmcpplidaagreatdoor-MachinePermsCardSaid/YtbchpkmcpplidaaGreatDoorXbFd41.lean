/- Closed facts on the row of MachinePerms. No condition. -/
import Derived.Test.YtbchpkmcpplidaaGreatDoorXb01

set_option linter.all false
namespace Go.Proofs.YtbchpkmcpplidaaGreatDoor.machinePerms
open Go.ChangeShapes Go.WideShapes Go.ChangeAt Go.RowKit
set_option maxRecDepth 100000
theorem k0 : (Rows.machinePermsRow.wf (OpenSpec.ofChange (OpenSpec.ofChange Rows.machinePermsSpec).bare)) = true := by kernel_rfl
theorem k3 : (Tryz.f3.params.all (Tryz.prog.readableRec ·)) = true := by kernel_rfl
theorem k4 : (namedTie Tryz.prog Rows.machinePermsRow.named (OpenSpec.ofChange Rows.machinePermsSpec).bare.vars) = true := by kernel_rfl
theorem k5 : ((Rows.machinePermsRow.stops == [])) = true := by kernel_rfl
theorem k7 : ((Rows.machinePermsRow.knobs == [])) = true := by kernel_rfl
theorem k9 : ((Rows.machinePermsRow.inPlace == Tryz.prog.inPlace 3)) = true := by kernel_rfl
theorem k10 : ((Rows.machinePermsRow.unfollowed == Tryz.prog.unfollowed 3)) = true := by kernel_rfl
theorem k11 : ((Rows.machinePermsRow.recurses == Tryz.prog.recurses 3)) = true := by kernel_rfl
theorem k12 : ((Rows.machinePermsRow.named == Tryz.prog.varsNamed 3)) = true := by kernel_rfl
theorem k13 : ((Rows.machinePermsRow.maps == (Tryz.f3.params.toList ++ (OpenSpec.ofChange Rows.machinePermsSpec).bare.plain.varTypes Tryz.prog).any (Tryz.prog.mapsRec ·))) = true := by kernel_rfl
theorem k14 : ((Rows.machinePermsRow.ifaces == (Tryz.f3.params.toList ++ (OpenSpec.ofChange Rows.machinePermsSpec).bare.plain.varTypes Tryz.prog).any (Tryz.prog.ifacesRec ·))) = true := by kernel_rfl
theorem k15 : ((Rows.machinePermsRow.mapsOut == Tryz.prog.mapsAmong Tryz.f3.resultTypes.toList)) = true := by kernel_rfl
theorem k16 : ((Rows.machinePermsRow.loops == (Tryz.f3.params.toList ++ (OpenSpec.ofChange Rows.machinePermsSpec).bare.plain.varTypes Tryz.prog).any (Tryz.prog.loopsFrom ·))) = true := by kernel_rfl
theorem k17 : ((Rows.machinePermsRow.wideKeys == (Tryz.f3.params.toList ++ (OpenSpec.ofChange Rows.machinePermsSpec).bare.plain.varTypes Tryz.prog ++ Tryz.f3.resultTypes.toList).any (Tryz.prog.wideKeysFrom ·))) = true := by kernel_rfl
theorem k18 : ((OpenSpec.ofChange Rows.machinePermsSpec).bare.vars.all (Tryz.prog.varReadable ·)) = true := by kernel_rfl
theorem k19 : (Tryz.f3.resultTypes.all (fun t => Tryz.prog.readableRec t && decide (t < Tryz.prog.types.size))) = true := by kernel_rfl
theorem k20 : ((Rows.machinePermsRow.ifacesOut == Tryz.f3.resultTypes.toList.any (Tryz.prog.ifacesRec ·))) = true := by kernel_rfl
theorem k21 : ((Rows.machinePermsRow.loopsOut == Tryz.f3.resultTypes.toList.any (Tryz.prog.loopsFrom ·))) = true := by kernel_rfl
theorem k22 : ((Rows.machinePermsRow.plainKeys == Tryz.prog.plainKeys)) = true := by kernel_rfl
theorem k23 : (Rows.machinePermsRow.shortTexts.isNone) = true := by kernel_rfl
theorem k26 : ((Rows.machinePermsRow.lifted == Tryz.prog.liftsFinal)) = true := by kernel_rfl
theorem k27 : ((Tryz.prog.make == some Rows.machinePermsRow.make)) = true := by kernel_rfl
theorem k28 : ((Rows.machinePermsRow.kinds == (if Rows.machinePermsRow.domain.isEmpty then [] else Tryz.f3.params.toList.map fun t => match Tryz.prog.underlying t with | some (.int k) => some k | _ => none))) = true := by kernel_rfl
theorem k29 : ((Rows.machinePermsRow.pinned == Rows.machinePermsRow.pinnedBy)) = true := by kernel_rfl
theorem k30 : ((Rows.machinePermsRow.veiled == (Tryz.f3.params.toList ++ (OpenSpec.ofChange Rows.machinePermsSpec).bare.plain.varTypes Tryz.prog ++ Tryz.f3.resultTypes.toList).any (Tryz.prog.veiledRec ·))) = true := by kernel_rfl
theorem k31 : (Rows.machinePermsRow.veiledFits Tryz.prog Tryz.f3.params.toList (Tryz.f3.params.toList ++ (OpenSpec.ofChange Rows.machinePermsSpec).bare.plain.varTypes Tryz.prog ++ Tryz.f3.resultTypes.toList)) = true := by kernel_rfl
theorem facts : joinedFacts Tryz.prog 3 Tryz.f3 (OpenSpec.ofChange Rows.machinePermsSpec).bare Rows.machinePermsRow = true := by
 unfold joinedFacts
 rw [k0, g1, g2, k3, k4, k5, g6, k7, g8, k9, k10, k11, k12, k13, k14, k15, k16, k17, k18, k19, k20, k21, k22, k23, g24, g25, k26, k27, k29, k30, k31]
 simp only [Bool.true_and, Bool.and_true]
 exact k28
theorem wrapper : Func.isWrapper Tryz.prog Tryz.f3 Rows.machinePermsRow.wrapper Rows.machinePermsRow.mainSum := by unfold Func.isWrapper; first | (rw [if_pos (by decide +kernel)]; kernel_rfl) | (rw [if_neg (by decide +kernel)]; exact ⟨rfl, rfl⟩)
theorem instance_ : Func.isInstance Tryz.prog Tryz.f3 Rows.machinePermsRow.origin Rows.machinePermsRow.targs := of_decide_eq_true (by kernel_rfl)
theorem named : Tryz.prog.funcNamed Rows.machinePermsRow.func = some 3 := by kernel_rfl
theorem byText : Rows.machinePermsRow.wfByText (OpenSpec.ofChange Rows.machinePermsSpec) = true := by kernel_rfl
end Go.Proofs.YtbchpkmcpplidaaGreatDoor.machinePerms
