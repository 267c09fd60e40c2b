/- Closed facts on the row of PlaitTurns. No condition. -/
import Derived.Test.YtogbclcnmogaeaaGreatDoorFcG
import Derived.Test.YtogbclcnmogaeaaGreatDoorFc2
set_option linter.all false
namespace Go.Proofs.YtogbclcnmogaeaaGreatDoor.plaitTurns
open Go.ChangeShapes Go.WideShapes Go.ChangeAt Go.RowKit
set_option maxRecDepth 100000
theorem k0 : (Rows.plaitTurnsRow.wf (OpenSpec.ofChange (OpenSpec.ofChange Rows.plaitTurnsSpec).bare)) = true := by kernel_rfl
theorem k3 : (Tryz.f4.params.all (Tryz.prog.readableRec ·)) = true := by kernel_rfl
theorem k4 : (namedTie Tryz.prog Rows.plaitTurnsRow.named (OpenSpec.ofChange Rows.plaitTurnsSpec).bare.vars) = true := by kernel_rfl
theorem k5 : ((Rows.plaitTurnsRow.stops == [])) = true := by kernel_rfl
theorem k7 : ((Rows.plaitTurnsRow.knobs == [])) = true := by kernel_rfl
theorem k13 : ((Rows.plaitTurnsRow.maps == (Tryz.f4.params.toList ++ (OpenSpec.ofChange Rows.plaitTurnsSpec).bare.plain.varTypes Tryz.prog).any (Tryz.prog.mapsRec ·))) = true := by kernel_rfl
theorem k14 : ((Rows.plaitTurnsRow.ifaces == (Tryz.f4.params.toList ++ (OpenSpec.ofChange Rows.plaitTurnsSpec).bare.plain.varTypes Tryz.prog).any (Tryz.prog.ifacesRec ·))) = true := by kernel_rfl
theorem k15 : ((Rows.plaitTurnsRow.mapsOut == Tryz.prog.mapsAmong Tryz.f4.resultTypes.toList)) = true := by kernel_rfl
theorem k16 : ((Rows.plaitTurnsRow.loops == (Tryz.f4.params.toList ++ (OpenSpec.ofChange Rows.plaitTurnsSpec).bare.plain.varTypes Tryz.prog).any (Tryz.prog.loopsFrom ·))) = true := by kernel_rfl
theorem k17 : ((Rows.plaitTurnsRow.wideKeys == (Tryz.f4.params.toList ++ (OpenSpec.ofChange Rows.plaitTurnsSpec).bare.plain.varTypes Tryz.prog ++ Tryz.f4.resultTypes.toList).any (Tryz.prog.wideKeysFrom ·))) = true := by kernel_rfl
theorem k18 : ((OpenSpec.ofChange Rows.plaitTurnsSpec).bare.vars.all (Tryz.prog.varReadable ·)) = true := by kernel_rfl
theorem k19 : (Tryz.f4.resultTypes.all (fun t => Tryz.prog.readableRec t && decide (t < Tryz.prog.types.size))) = true := by kernel_rfl
theorem k20 : ((Rows.plaitTurnsRow.ifacesOut == Tryz.f4.resultTypes.toList.any (Tryz.prog.ifacesRec ·))) = true := by kernel_rfl
theorem k21 : ((Rows.plaitTurnsRow.loopsOut == Tryz.f4.resultTypes.toList.any (Tryz.prog.loopsFrom ·))) = true := by kernel_rfl
theorem k22 : ((Rows.plaitTurnsRow.plainKeys == Tryz.prog.plainKeys)) = true := by kernel_rfl
theorem k23 : (Rows.plaitTurnsRow.shortTexts.isNone) = true := by kernel_rfl
theorem k26 : ((Rows.plaitTurnsRow.lifted == Tryz.prog.liftsFinal)) = true := by kernel_rfl
theorem k27 : ((Tryz.prog.make == some Rows.plaitTurnsRow.make)) = true := by kernel_rfl
theorem k28 : ((Rows.plaitTurnsRow.kinds == (if Rows.plaitTurnsRow.domain.isEmpty then [] else Tryz.f4.params.toList.map fun t => match Tryz.prog.underlying t with | some (.int k) => some k | _ => none))) = true := by kernel_rfl
theorem k29 : ((Rows.plaitTurnsRow.pinned == Rows.plaitTurnsRow.pinnedBy)) = true := by kernel_rfl
theorem k30 : ((Rows.plaitTurnsRow.veiled == (Tryz.f4.params.toList ++ (OpenSpec.ofChange Rows.plaitTurnsSpec).bare.plain.varTypes Tryz.prog ++ Tryz.f4.resultTypes.toList).any (Tryz.prog.veiledRec ·))) = true := by kernel_rfl
theorem k31 : (Rows.plaitTurnsRow.veiledFits Tryz.prog Tryz.f4.params.toList (Tryz.f4.params.toList ++ (OpenSpec.ofChange Rows.plaitTurnsSpec).bare.plain.varTypes Tryz.prog ++ Tryz.f4.resultTypes.toList)) = true := by kernel_rfl
theorem facts : joinedFacts Tryz.prog 4 Tryz.f4 (OpenSpec.ofChange Rows.plaitTurnsSpec).bare Rows.plaitTurnsRow = true := by
  unfold joinedFacts
  rw [k0, g1, g2, k3, k4, k5, g6, k7, g8, k9, k10, k11, k12, k13, k14, k15, k16, k17, k18, k19, k20, k21, k22, k23, g24, g25, k26, k27, k29, k30, k31]
  simp only [Bool.true_and, Bool.and_true]
  exact k28
theorem wrapper : Func.isWrapper Tryz.prog Tryz.f4 Rows.plaitTurnsRow.wrapper Rows.plaitTurnsRow.mainSum := by unfold Func.isWrapper; first | (rw [if_pos (by decide +kernel)]; kernel_rfl) | (rw [if_neg (by decide +kernel)]; exact ⟨rfl, rfl⟩)
theorem instance_ : Func.isInstance Tryz.prog Tryz.f4 Rows.plaitTurnsRow.origin Rows.plaitTurnsRow.targs := of_decide_eq_true (by kernel_rfl)
theorem named : Tryz.prog.funcNamed Rows.plaitTurnsRow.func = some 4 := by kernel_rfl
theorem byText : Rows.plaitTurnsRow.wfByText (OpenSpec.ofChange Rows.plaitTurnsSpec) = true := by kernel_rfl
end Go.Proofs.YtogbclcnmogaeaaGreatDoor.plaitTurns
