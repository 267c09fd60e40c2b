/- Closed facts on the row of PlaitPasses. No condition. -/
import Derived.Test.YtogbclcnmogaeaaGreatDoorFcG
import Derived.Test.YtogbclcnmogaeaaGreatDoorFc11
set_option linter.all false
namespace Go.Proofs.YtogbclcnmogaeaaGreatDoor.plaitPasses
open Go.ChangeShapes Go.WideShapes Go.ChangeAt Go.RowKit
set_option maxRecDepth 100000
theorem k0 : (Rows.plaitPassesRow.wf (OpenSpec.ofChange (OpenSpec.ofChange Rows.plaitPassesSpec).bare)) = true := by kernel_rfl
theorem k3 : (Tryz.f12.params.all (Tryz.prog.readableRec ·)) = true := by kernel_rfl
theorem k4 : (namedTie Tryz.prog Rows.plaitPassesRow.named (OpenSpec.ofChange Rows.plaitPassesSpec).bare.vars) = true := by kernel_rfl
theorem k5 : ((Rows.plaitPassesRow.stops == [])) = true := by kernel_rfl
theorem k7 : ((Rows.plaitPassesRow.knobs == [])) = true := by kernel_rfl
theorem k13 : ((Rows.plaitPassesRow.maps == (Tryz.f12.params.toList ++ (OpenSpec.ofChange Rows.plaitPassesSpec).bare.plain.varTypes Tryz.prog).any (Tryz.prog.mapsRec ·))) = true := by kernel_rfl
theorem k14 : ((Rows.plaitPassesRow.ifaces == (Tryz.f12.params.toList ++ (OpenSpec.ofChange Rows.plaitPassesSpec).bare.plain.varTypes Tryz.prog).any (Tryz.prog.ifacesRec ·))) = true := by kernel_rfl
theorem k15 : ((Rows.plaitPassesRow.mapsOut == Tryz.prog.mapsAmong Tryz.f12.resultTypes.toList)) = true := by kernel_rfl
theorem k16 : ((Rows.plaitPassesRow.loops == (Tryz.f12.params.toList ++ (OpenSpec.ofChange Rows.plaitPassesSpec).bare.plain.varTypes Tryz.prog).any (Tryz.prog.loopsFrom ·))) = true := by kernel_rfl
theorem k17 : ((Rows.plaitPassesRow.wideKeys == (Tryz.f12.params.toList ++ (OpenSpec.ofChange Rows.plaitPassesSpec).bare.plain.varTypes Tryz.prog ++ Tryz.f12.resultTypes.toList).any (Tryz.prog.wideKeysFrom ·))) = true := by kernel_rfl
theorem k18 : ((OpenSpec.ofChange Rows.plaitPassesSpec).bare.vars.all (Tryz.prog.varReadable ·)) = true := by kernel_rfl
theorem k19 : (Tryz.f12.resultTypes.all (fun t => Tryz.prog.readableRec t && decide (t < Tryz.prog.types.size))) = true := by kernel_rfl
theorem k20 : ((Rows.plaitPassesRow.ifacesOut == Tryz.f12.resultTypes.toList.any (Tryz.prog.ifacesRec ·))) = true := by kernel_rfl
theorem k21 : ((Rows.plaitPassesRow.loopsOut == Tryz.f12.resultTypes.toList.any (Tryz.prog.loopsFrom ·))) = true := by kernel_rfl
theorem k22 : ((Rows.plaitPassesRow.plainKeys == Tryz.prog.plainKeys)) = true := by kernel_rfl
theorem k23 : (Rows.plaitPassesRow.shortTexts.isNone) = true := by kernel_rfl
theorem k26 : ((Rows.plaitPassesRow.lifted == Tryz.prog.liftsFinal)) = true := by kernel_rfl
theorem k27 : ((Tryz.prog.make == some Rows.plaitPassesRow.make)) = true := by kernel_rfl
theorem k28 : ((Rows.plaitPassesRow.kinds == (if Rows.plaitPassesRow.domain.isEmpty then [] else Tryz.f12.params.toList.map fun t => match Tryz.prog.underlying t with | some (.int k) => some k | _ => none))) = true := by kernel_rfl
theorem k29 : ((Rows.plaitPassesRow.pinned == Rows.plaitPassesRow.pinnedBy)) = true := by kernel_rfl
theorem k30 : ((Rows.plaitPassesRow.veiled == (Tryz.f12.params.toList ++ (OpenSpec.ofChange Rows.plaitPassesSpec).bare.plain.varTypes Tryz.prog ++ Tryz.f12.resultTypes.toList).any (Tryz.prog.veiledRec ·))) = true := by kernel_rfl
theorem k31 : (Rows.plaitPassesRow.veiledFits Tryz.prog Tryz.f12.params.toList (Tryz.f12.params.toList ++ (OpenSpec.ofChange Rows.plaitPassesSpec).bare.plain.varTypes Tryz.prog ++ Tryz.f12.resultTypes.toList)) = true := by kernel_rfl
theorem facts : joinedFacts Tryz.prog 12 Tryz.f12 (OpenSpec.ofChange Rows.plaitPassesSpec).bare Rows.plaitPassesRow = true := by
  unfold joinedFacts
  rw [k0, g1, g2, k3, k4, k5, g6, k7, g8, k9, k10, k11, k12, k13, k14, k15, k16, k17, k18, k19, k20, k21, k22, k23, g24, g25, k26, k27, k29, k30, k31]
  simp only [Bool.true_and, Bool.and_true]
  exact k28
theorem wrapper : Func.isWrapper Tryz.prog Tryz.f12 Rows.plaitPassesRow.wrapper Rows.plaitPassesRow.mainSum := by unfold Func.isWrapper; first | (rw [if_pos (by decide +kernel)]; kernel_rfl) | (rw [if_neg (by decide +kernel)]; exact ⟨rfl, rfl⟩)
theorem instance_ : Func.isInstance Tryz.prog Tryz.f12 Rows.plaitPassesRow.origin Rows.plaitPassesRow.targs := of_decide_eq_true (by kernel_rfl)
theorem named : Tryz.prog.funcNamed Rows.plaitPassesRow.func = some 12 := by kernel_rfl
theorem byText : Rows.plaitPassesRow.wfByText (OpenSpec.ofChange Rows.plaitPassesSpec) = true := by kernel_rfl
end Go.Proofs.YtogbclcnmogaeaaGreatDoor.plaitPasses
