/- Closed facts on the row of PlaitReplays. No condition. -/
import Derived.Test.YtogbclcnmogaeaaGreatDoorFcG
import Derived.Test.YtogbclcnmogaeaaGreatDoorFc13
set_option linter.all false
namespace Go.Proofs.YtogbclcnmogaeaaGreatDoor.plaitReplays
open Go.ChangeShapes Go.WideShapes Go.ChangeAt Go.RowKit
set_option maxRecDepth 100000
theorem k0 : (Rows.plaitReplaysRow.wf (OpenSpec.ofChange (OpenSpec.ofChange Rows.plaitReplaysSpec).bare)) = true := by kernel_rfl
theorem k3 : (Tryz.f14.params.all (Tryz.prog.readableRec ·)) = true := by kernel_rfl
theorem k4 : (namedTie Tryz.prog Rows.plaitReplaysRow.named (OpenSpec.ofChange Rows.plaitReplaysSpec).bare.vars) = true := by kernel_rfl
theorem k5 : ((Rows.plaitReplaysRow.stops == [])) = true := by kernel_rfl
theorem k7 : ((Rows.plaitReplaysRow.knobs == [])) = true := by kernel_rfl
theorem k13 : ((Rows.plaitReplaysRow.maps == (Tryz.f14.params.toList ++ (OpenSpec.ofChange Rows.plaitReplaysSpec).bare.plain.varTypes Tryz.prog).any (Tryz.prog.mapsRec ·))) = true := by kernel_rfl
theorem k14 : ((Rows.plaitReplaysRow.ifaces == (Tryz.f14.params.toList ++ (OpenSpec.ofChange Rows.plaitReplaysSpec).bare.plain.varTypes Tryz.prog).any (Tryz.prog.ifacesRec ·))) = true := by kernel_rfl
theorem k15 : ((Rows.plaitReplaysRow.mapsOut == Tryz.prog.mapsAmong Tryz.f14.resultTypes.toList)) = true := by kernel_rfl
theorem k16 : ((Rows.plaitReplaysRow.loops == (Tryz.f14.params.toList ++ (OpenSpec.ofChange Rows.plaitReplaysSpec).bare.plain.varTypes Tryz.prog).any (Tryz.prog.loopsFrom ·))) = true := by kernel_rfl
theorem k17 : ((Rows.plaitReplaysRow.wideKeys == (Tryz.f14.params.toList ++ (OpenSpec.ofChange Rows.plaitReplaysSpec).bare.plain.varTypes Tryz.prog ++ Tryz.f14.resultTypes.toList).any (Tryz.prog.wideKeysFrom ·))) = true := by kernel_rfl
theorem k18 : ((OpenSpec.ofChange Rows.plaitReplaysSpec).bare.vars.all (Tryz.prog.varReadable ·)) = true := by kernel_rfl
theorem k19 : (Tryz.f14.resultTypes.all (fun t => Tryz.prog.readableRec t && decide (t < Tryz.prog.types.size))) = true := by kernel_rfl
theorem k20 : ((Rows.plaitReplaysRow.ifacesOut == Tryz.f14.resultTypes.toList.any (Tryz.prog.ifacesRec ·))) = true := by kernel_rfl
theorem k21 : ((Rows.plaitReplaysRow.loopsOut == Tryz.f14.resultTypes.toList.any (Tryz.prog.loopsFrom ·))) = true := by kernel_rfl
theorem k22 : ((Rows.plaitReplaysRow.plainKeys == Tryz.prog.plainKeys)) = true := by kernel_rfl
theorem k23 : (Rows.plaitReplaysRow.shortTexts.isNone) = true := by kernel_rfl
theorem k26 : ((Rows.plaitReplaysRow.lifted == Tryz.prog.liftsFinal)) = true := by kernel_rfl
theorem k27 : ((Tryz.prog.make == some Rows.plaitReplaysRow.make)) = true := by kernel_rfl
theorem k28 : ((Rows.plaitReplaysRow.kinds == (if Rows.plaitReplaysRow.domain.isEmpty then [] else Tryz.f14.params.toList.map fun t => match Tryz.prog.underlying t with | some (.int k) => some k | _ => none))) = true := by kernel_rfl
theorem k29 : ((Rows.plaitReplaysRow.pinned == Rows.plaitReplaysRow.pinnedBy)) = true := by kernel_rfl
theorem k30 : ((Rows.plaitReplaysRow.veiled == (Tryz.f14.params.toList ++ (OpenSpec.ofChange Rows.plaitReplaysSpec).bare.plain.varTypes Tryz.prog ++ Tryz.f14.resultTypes.toList).any (Tryz.prog.veiledRec ·))) = true := by kernel_rfl
theorem k31 : (Rows.plaitReplaysRow.veiledFits Tryz.prog Tryz.f14.params.toList (Tryz.f14.params.toList ++ (OpenSpec.ofChange Rows.plaitReplaysSpec).bare.plain.varTypes Tryz.prog ++ Tryz.f14.resultTypes.toList)) = true := by kernel_rfl
theorem facts : joinedFacts Tryz.prog 14 Tryz.f14 (OpenSpec.ofChange Rows.plaitReplaysSpec).bare Rows.plaitReplaysRow = true := by
  unfold joinedFacts
  rw [k0, g1, g2, k3, k4, k5, g6, k7, g8, k9, k10, k11, k12, k13, k14, k15, k16, k17, k18, k19, k20, k21, k22, k23, g24, g25, k26, k27, k29, k30, k31]
  simp only [Bool.true_and, Bool.and_true]
  exact k28
theorem wrapper : Func.isWrapper Tryz.prog Tryz.f14 Rows.plaitReplaysRow.wrapper Rows.plaitReplaysRow.mainSum := by unfold Func.isWrapper; first | (rw [if_pos (by decide +kernel)]; kernel_rfl) | (rw [if_neg (by decide +kernel)]; exact ⟨rfl, rfl⟩)
theorem instance_ : Func.isInstance Tryz.prog Tryz.f14 Rows.plaitReplaysRow.origin Rows.plaitReplaysRow.targs := of_decide_eq_true (by kernel_rfl)
theorem named : Tryz.prog.funcNamed Rows.plaitReplaysRow.func = some 14 := by kernel_rfl
theorem byText : Rows.plaitReplaysRow.wfByText (OpenSpec.ofChange Rows.plaitReplaysSpec) = true := by kernel_rfl
end Go.Proofs.YtogbclcnmogaeaaGreatDoor.plaitReplays
