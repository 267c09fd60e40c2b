/- Closed facts on the row of PlaitMats. No condition. -/
import Derived.Test.YtogbclcnmogaeaaGreatDoorFcG
import Derived.Test.YtogbclcnmogaeaaGreatDoorFc6
set_option linter.all false
namespace Go.Proofs.YtogbclcnmogaeaaGreatDoor.plaitMats
open Go.ChangeShapes Go.WideShapes Go.ChangeAt Go.RowKit
set_option maxRecDepth 100000
theorem k0 : (Rows.plaitMatsRow.wf (OpenSpec.ofChange (OpenSpec.ofChange Rows.plaitMatsSpec).bare)) = true := by kernel_rfl
theorem k3 : (Tryz.f8.params.all (Tryz.prog.readableRec ·)) = true := by kernel_rfl
theorem k4 : (namedTie Tryz.prog Rows.plaitMatsRow.named (OpenSpec.ofChange Rows.plaitMatsSpec).bare.vars) = true := by kernel_rfl
theorem k5 : ((Rows.plaitMatsRow.stops == [])) = true := by kernel_rfl
theorem k7 : ((Rows.plaitMatsRow.knobs == [])) = true := by kernel_rfl
theorem k13 : ((Rows.plaitMatsRow.maps == (Tryz.f8.params.toList ++ (OpenSpec.ofChange Rows.plaitMatsSpec).bare.plain.varTypes Tryz.prog).any (Tryz.prog.mapsRec ·))) = true := by kernel_rfl
theorem k14 : ((Rows.plaitMatsRow.ifaces == (Tryz.f8.params.toList ++ (OpenSpec.ofChange Rows.plaitMatsSpec).bare.plain.varTypes Tryz.prog).any (Tryz.prog.ifacesRec ·))) = true := by kernel_rfl
theorem k15 : ((Rows.plaitMatsRow.mapsOut == Tryz.prog.mapsAmong Tryz.f8.resultTypes.toList)) = true := by kernel_rfl
theorem k16 : ((Rows.plaitMatsRow.loops == (Tryz.f8.params.toList ++ (OpenSpec.ofChange Rows.plaitMatsSpec).bare.plain.varTypes Tryz.prog).any (Tryz.prog.loopsFrom ·))) = true := by kernel_rfl
theorem k17 : ((Rows.plaitMatsRow.wideKeys == (Tryz.f8.params.toList ++ (OpenSpec.ofChange Rows.plaitMatsSpec).bare.plain.varTypes Tryz.prog ++ Tryz.f8.resultTypes.toList).any (Tryz.prog.wideKeysFrom ·))) = true := by kernel_rfl
theorem k18 : ((OpenSpec.ofChange Rows.plaitMatsSpec).bare.vars.all (Tryz.prog.varReadable ·)) = true := by kernel_rfl
theorem k19 : (Tryz.f8.resultTypes.all (fun t => Tryz.prog.readableRec t && decide (t < Tryz.prog.types.size))) = true := by kernel_rfl
theorem k20 : ((Rows.plaitMatsRow.ifacesOut == Tryz.f8.resultTypes.toList.any (Tryz.prog.ifacesRec ·))) = true := by kernel_rfl
theorem k21 : ((Rows.plaitMatsRow.loopsOut == Tryz.f8.resultTypes.toList.any (Tryz.prog.loopsFrom ·))) = true := by kernel_rfl
theorem k22 : ((Rows.plaitMatsRow.plainKeys == Tryz.prog.plainKeys)) = true := by kernel_rfl
theorem k23 : (Rows.plaitMatsRow.shortTexts.isNone) = true := by kernel_rfl
theorem k26 : ((Rows.plaitMatsRow.lifted == Tryz.prog.liftsFinal)) = true := by kernel_rfl
theorem k27 : ((Tryz.prog.make == some Rows.plaitMatsRow.make)) = true := by kernel_rfl
theorem k28 : ((Rows.plaitMatsRow.kinds == (if Rows.plaitMatsRow.domain.isEmpty then [] else Tryz.f8.params.toList.map fun t => match Tryz.prog.underlying t with | some (.int k) => some k | _ => none))) = true := by kernel_rfl
theorem k29 : ((Rows.plaitMatsRow.pinned == Rows.plaitMatsRow.pinnedBy)) = true := by kernel_rfl
theorem k30 : ((Rows.plaitMatsRow.veiled == (Tryz.f8.params.toList ++ (OpenSpec.ofChange Rows.plaitMatsSpec).bare.plain.varTypes Tryz.prog ++ Tryz.f8.resultTypes.toList).any (Tryz.prog.veiledRec ·))) = true := by kernel_rfl
theorem k31 : (Rows.plaitMatsRow.veiledFits Tryz.prog Tryz.f8.params.toList (Tryz.f8.params.toList ++ (OpenSpec.ofChange Rows.plaitMatsSpec).bare.plain.varTypes Tryz.prog ++ Tryz.f8.resultTypes.toList)) = true := by kernel_rfl
theorem facts : joinedFacts Tryz.prog 8 Tryz.f8 (OpenSpec.ofChange Rows.plaitMatsSpec).bare Rows.plaitMatsRow = true := by
  unfold joinedFacts
  rw [k0, g1, g2, k3, k4, k5, g6, k7, g8, k9, k10, k11, k12, k13, k14, k15, k16, k17, k18, k19, k20, k21, k22, k23, g24, g25, k26, k27, k29, k30, k31]
  simp only [Bool.true_and, Bool.and_true]
  exact k28
theorem wrapper : Func.isWrapper Tryz.prog Tryz.f8 Rows.plaitMatsRow.wrapper Rows.plaitMatsRow.mainSum := by unfold Func.isWrapper; first | (rw [if_pos (by decide +kernel)]; kernel_rfl) | (rw [if_neg (by decide +kernel)]; exact ⟨rfl, rfl⟩)
theorem instance_ : Func.isInstance Tryz.prog Tryz.f8 Rows.plaitMatsRow.origin Rows.plaitMatsRow.targs := of_decide_eq_true (by kernel_rfl)
theorem named : Tryz.prog.funcNamed Rows.plaitMatsRow.func = some 8 := by kernel_rfl
theorem byText : Rows.plaitMatsRow.wfByText (OpenSpec.ofChange Rows.plaitMatsSpec) = true := by kernel_rfl
end Go.Proofs.YtogbclcnmogaeaaGreatDoor.plaitMats
