/- Closed facts on the row of PlaitStands. No condition. -/
import Derived.Test.YtogbclcnmogaeaaGreatDoorFcG
import Derived.Test.YtogbclcnmogaeaaGreatDoorFc1
set_option linter.all false
namespace Go.Proofs.YtogbclcnmogaeaaGreatDoor.plaitStands
open Go.ChangeShapes Go.WideShapes Go.ChangeAt Go.RowKit
set_option maxRecDepth 100000
theorem k0 : (Rows.plaitStandsRow.wf (OpenSpec.ofChange (OpenSpec.ofChange Rows.plaitStandsSpec).bare)) = true := by kernel_rfl
theorem k3 : (Tryz.f3.params.all (Tryz.prog.readableRec ·)) = true := by kernel_rfl
theorem k4 : (namedTie Tryz.prog Rows.plaitStandsRow.named (OpenSpec.ofChange Rows.plaitStandsSpec).bare.vars) = true := by kernel_rfl
theorem k5 : ((Rows.plaitStandsRow.stops == [])) = true := by kernel_rfl
theorem k7 : ((Rows.plaitStandsRow.knobs == [])) = true := by kernel_rfl
theorem k13 : ((Rows.plaitStandsRow.maps == (Tryz.f3.params.toList ++ (OpenSpec.ofChange Rows.plaitStandsSpec).bare.plain.varTypes Tryz.prog).any (Tryz.prog.mapsRec ·))) = true := by kernel_rfl
theorem k14 : ((Rows.plaitStandsRow.ifaces == (Tryz.f3.params.toList ++ (OpenSpec.ofChange Rows.plaitStandsSpec).bare.plain.varTypes Tryz.prog).any (Tryz.prog.ifacesRec ·))) = true := by kernel_rfl
theorem k15 : ((Rows.plaitStandsRow.mapsOut == Tryz.prog.mapsAmong Tryz.f3.resultTypes.toList)) = true := by kernel_rfl
theorem k16 : ((Rows.plaitStandsRow.loops == (Tryz.f3.params.toList ++ (OpenSpec.ofChange Rows.plaitStandsSpec).bare.plain.varTypes Tryz.prog).any (Tryz.prog.loopsFrom ·))) = true := by kernel_rfl
theorem k17 : ((Rows.plaitStandsRow.wideKeys == (Tryz.f3.params.toList ++ (OpenSpec.ofChange Rows.plaitStandsSpec).bare.plain.varTypes Tryz.prog ++ Tryz.f3.resultTypes.toList).any (Tryz.prog.wideKeysFrom ·))) = true := by kernel_rfl
theorem k18 : ((OpenSpec.ofChange Rows.plaitStandsSpec).bare.vars.all (Tryz.prog.varReadable ·)) = true := by kernel_rfl
theorem k19 : (Tryz.f3.resultTypes.all (fun t => Tryz.prog.readableRec t && decide (t < Tryz.prog.types.size))) = true := by kernel_rfl
theorem k20 : ((Rows.plaitStandsRow.ifacesOut == Tryz.f3.resultTypes.toList.any (Tryz.prog.ifacesRec ·))) = true := by kernel_rfl
theorem k21 : ((Rows.plaitStandsRow.loopsOut == Tryz.f3.resultTypes.toList.any (Tryz.prog.loopsFrom ·))) = true := by kernel_rfl
theorem k22 : ((Rows.plaitStandsRow.plainKeys == Tryz.prog.plainKeys)) = true := by kernel_rfl
theorem k23 : (Rows.plaitStandsRow.shortTexts.isNone) = true := by kernel_rfl
theorem k26 : ((Rows.plaitStandsRow.lifted == Tryz.prog.liftsFinal)) = true := by kernel_rfl
theorem k27 : ((Tryz.prog.make == some Rows.plaitStandsRow.make)) = true := by kernel_rfl
theorem k28 : ((Rows.plaitStandsRow.kinds == (if Rows.plaitStandsRow.domain.isEmpty then [] else Tryz.f3.params.toList.map fun t => match Tryz.prog.underlying t with | some (.int k) => some k | _ => none))) = true := by kernel_rfl
theorem k29 : ((Rows.plaitStandsRow.pinned == Rows.plaitStandsRow.pinnedBy)) = true := by kernel_rfl
theorem k30 : ((Rows.plaitStandsRow.veiled == (Tryz.f3.params.toList ++ (OpenSpec.ofChange Rows.plaitStandsSpec).bare.plain.varTypes Tryz.prog ++ Tryz.f3.resultTypes.toList).any (Tryz.prog.veiledRec ·))) = true := by kernel_rfl
theorem k31 : (Rows.plaitStandsRow.veiledFits Tryz.prog Tryz.f3.params.toList (Tryz.f3.params.toList ++ (OpenSpec.ofChange Rows.plaitStandsSpec).bare.plain.varTypes Tryz.prog ++ Tryz.f3.resultTypes.toList)) = true := by kernel_rfl
theorem facts : joinedFacts Tryz.prog 3 Tryz.f3 (OpenSpec.ofChange Rows.plaitStandsSpec).bare Rows.plaitStandsRow = true := by
  unfold joinedFacts
  rw [k0, g1, g2, k3, k4, k5, g6, k7, g8, k9, k10, k11, k12, k13, k14, k15, k16, k17, k18, k19, k20, k21, k22, k23, g24, g25, k26, k27, k29, k30, k31]
  simp only [Bool.true_and, Bool.and_true]
  exact k28
theorem wrapper : Func.isWrapper Tryz.prog Tryz.f3 Rows.plaitStandsRow.wrapper Rows.plaitStandsRow.mainSum := by unfold Func.isWrapper; first | (rw [if_pos (by decide +kernel)]; kernel_rfl) | (rw [if_neg (by decide +kernel)]; exact ⟨rfl, rfl⟩)
theorem instance_ : Func.isInstance Tryz.prog Tryz.f3 Rows.plaitStandsRow.origin Rows.plaitStandsRow.targs := of_decide_eq_true (by kernel_rfl)
theorem named : Tryz.prog.funcNamed Rows.plaitStandsRow.func = some 3 := by kernel_rfl
theorem byText : Rows.plaitStandsRow.wfByText (OpenSpec.ofChange Rows.plaitStandsSpec) = true := by kernel_rfl
end Go.Proofs.YtogbclcnmogaeaaGreatDoor.plaitStands
