/- Closed facts on the row of PlaitCrosses. No condition. -/
import Derived.Test.YtogbclcnmogaeaaGreatDoorFcG
import Derived.Test.YtogbclcnmogaeaaGreatDoorFc4
set_option linter.all false
namespace Go.Proofs.YtogbclcnmogaeaaGreatDoor.plaitCrosses
open Go.ChangeShapes Go.WideShapes Go.ChangeAt Go.RowKit
set_option maxRecDepth 100000
theorem k0 : (Rows.plaitCrossesRow.wf (OpenSpec.ofChange (OpenSpec.ofChange Rows.plaitCrossesSpec).bare)) = true := by kernel_rfl
theorem k3 : (Tryz.f6.params.all (Tryz.prog.readableRec ·)) = true := by kernel_rfl
theorem k4 : (namedTie Tryz.prog Rows.plaitCrossesRow.named (OpenSpec.ofChange Rows.plaitCrossesSpec).bare.vars) = true := by kernel_rfl
theorem k5 : ((Rows.plaitCrossesRow.stops == [])) = true := by kernel_rfl
theorem k7 : ((Rows.plaitCrossesRow.knobs == [])) = true := by kernel_rfl
theorem k13 : ((Rows.plaitCrossesRow.maps == (Tryz.f6.params.toList ++ (OpenSpec.ofChange Rows.plaitCrossesSpec).bare.plain.varTypes Tryz.prog).any (Tryz.prog.mapsRec ·))) = true := by kernel_rfl
theorem k14 : ((Rows.plaitCrossesRow.ifaces == (Tryz.f6.params.toList ++ (OpenSpec.ofChange Rows.plaitCrossesSpec).bare.plain.varTypes Tryz.prog).any (Tryz.prog.ifacesRec ·))) = true := by kernel_rfl
theorem k15 : ((Rows.plaitCrossesRow.mapsOut == Tryz.prog.mapsAmong Tryz.f6.resultTypes.toList)) = true := by kernel_rfl
theorem k16 : ((Rows.plaitCrossesRow.loops == (Tryz.f6.params.toList ++ (OpenSpec.ofChange Rows.plaitCrossesSpec).bare.plain.varTypes Tryz.prog).any (Tryz.prog.loopsFrom ·))) = true := by kernel_rfl
theorem k17 : ((Rows.plaitCrossesRow.wideKeys == (Tryz.f6.params.toList ++ (OpenSpec.ofChange Rows.plaitCrossesSpec).bare.plain.varTypes Tryz.prog ++ Tryz.f6.resultTypes.toList).any (Tryz.prog.wideKeysFrom ·))) = true := by kernel_rfl
theorem k18 : ((OpenSpec.ofChange Rows.plaitCrossesSpec).bare.vars.all (Tryz.prog.varReadable ·)) = true := by kernel_rfl
theorem k19 : (Tryz.f6.resultTypes.all (fun t => Tryz.prog.readableRec t && decide (t < Tryz.prog.types.size))) = true := by kernel_rfl
theorem k20 : ((Rows.plaitCrossesRow.ifacesOut == Tryz.f6.resultTypes.toList.any (Tryz.prog.ifacesRec ·))) = true := by kernel_rfl
theorem k21 : ((Rows.plaitCrossesRow.loopsOut == Tryz.f6.resultTypes.toList.any (Tryz.prog.loopsFrom ·))) = true := by kernel_rfl
theorem k22 : ((Rows.plaitCrossesRow.plainKeys == Tryz.prog.plainKeys)) = true := by kernel_rfl
theorem k23 : (Rows.plaitCrossesRow.shortTexts.isNone) = true := by kernel_rfl
theorem k26 : ((Rows.plaitCrossesRow.lifted == Tryz.prog.liftsFinal)) = true := by kernel_rfl
theorem k27 : ((Tryz.prog.make == some Rows.plaitCrossesRow.make)) = true := by kernel_rfl
theorem k28 : ((Rows.plaitCrossesRow.kinds == (if Rows.plaitCrossesRow.domain.isEmpty then [] else Tryz.f6.params.toList.map fun t => match Tryz.prog.underlying t with | some (.int k) => some k | _ => none))) = true := by kernel_rfl
theorem k29 : ((Rows.plaitCrossesRow.pinned == Rows.plaitCrossesRow.pinnedBy)) = true := by kernel_rfl
theorem k30 : ((Rows.plaitCrossesRow.veiled == (Tryz.f6.params.toList ++ (OpenSpec.ofChange Rows.plaitCrossesSpec).bare.plain.varTypes Tryz.prog ++ Tryz.f6.resultTypes.toList).any (Tryz.prog.veiledRec ·))) = true := by kernel_rfl
theorem k31 : (Rows.plaitCrossesRow.veiledFits Tryz.prog Tryz.f6.params.toList (Tryz.f6.params.toList ++ (OpenSpec.ofChange Rows.plaitCrossesSpec).bare.plain.varTypes Tryz.prog ++ Tryz.f6.resultTypes.toList)) = true := by kernel_rfl
theorem facts : joinedFacts Tryz.prog 6 Tryz.f6 (OpenSpec.ofChange Rows.plaitCrossesSpec).bare Rows.plaitCrossesRow = true := by
  unfold joinedFacts
  rw [k0, g1, g2, k3, k4, k5, g6, k7, g8, k9, k10, k11, k12, k13, k14, k15, k16, k17, k18, k19, k20, k21, k22, k23, g24, g25, k26, k27, k29, k30, k31]
  simp only [Bool.true_and, Bool.and_true]
  exact k28
theorem wrapper : Func.isWrapper Tryz.prog Tryz.f6 Rows.plaitCrossesRow.wrapper Rows.plaitCrossesRow.mainSum := by unfold Func.isWrapper; first | (rw [if_pos (by decide +kernel)]; kernel_rfl) | (rw [if_neg (by decide +kernel)]; exact ⟨rfl, rfl⟩)
theorem instance_ : Func.isInstance Tryz.prog Tryz.f6 Rows.plaitCrossesRow.origin Rows.plaitCrossesRow.targs := of_decide_eq_true (by kernel_rfl)
theorem named : Tryz.prog.funcNamed Rows.plaitCrossesRow.func = some 6 := by kernel_rfl
theorem byText : Rows.plaitCrossesRow.wfByText (OpenSpec.ofChange Rows.plaitCrossesSpec) = true := by kernel_rfl
end Go.Proofs.YtogbclcnmogaeaaGreatDoor.plaitCrosses
