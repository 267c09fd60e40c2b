/- Closed facts on the row of PlaitCancels. No condition. -/
import Derived.Test.YtogbclcnmogaeaaGreatDoorLwA
set_option linter.all false
namespace Go.Proofs.YtogbclcnmogaeaaGreatDoor.plaitCancels
open Go.ChangeShapes Go.WideShapes Go.ChangeAt Go.RowKit
set_option maxRecDepth 100000
theorem k0 : (Rows.plaitCancelsRow.wf (OpenSpec.ofChange (OpenSpec.ofChange Rows.plaitCancelsSpec).bare)) = true := by kernel_rfl
theorem k3 : (Tryz.f13.params.all (Tryz.prog.readableRec ·)) = true := by kernel_rfl
theorem k4 : (namedTie Tryz.prog Rows.plaitCancelsRow.named (OpenSpec.ofChange Rows.plaitCancelsSpec).bare.vars) = true := by kernel_rfl
theorem k5 : ((Rows.plaitCancelsRow.stops == [])) = true := by kernel_rfl
theorem k7 : ((Rows.plaitCancelsRow.knobs == [])) = true := by kernel_rfl
theorem k9 : ((Rows.plaitCancelsRow.inPlace == Tryz.prog.inPlace 13)) = true := by kernel_rfl
theorem k10 : ((Rows.plaitCancelsRow.unfollowed == Tryz.prog.unfollowed 13)) = true := by kernel_rfl
theorem k11 : ((Rows.plaitCancelsRow.recurses == Tryz.prog.recurses 13)) = true := by kernel_rfl
theorem k12 : ((Rows.plaitCancelsRow.named == Tryz.prog.varsNamed 13)) = true := by kernel_rfl
theorem k13 : ((Rows.plaitCancelsRow.maps == (Tryz.f13.params.toList ++ (OpenSpec.ofChange Rows.plaitCancelsSpec).bare.plain.varTypes Tryz.prog).any (Tryz.prog.mapsRec ·))) = true := by kernel_rfl
theorem k14 : ((Rows.plaitCancelsRow.ifaces == (Tryz.f13.params.toList ++ (OpenSpec.ofChange Rows.plaitCancelsSpec).bare.plain.varTypes Tryz.prog).any (Tryz.prog.ifacesRec ·))) = true := by kernel_rfl
theorem k15 : ((Rows.plaitCancelsRow.mapsOut == Tryz.prog.mapsAmong Tryz.f13.resultTypes.toList)) = true := by kernel_rfl
theorem k16 : ((Rows.plaitCancelsRow.loops == (Tryz.f13.params.toList ++ (OpenSpec.ofChange Rows.plaitCancelsSpec).bare.plain.varTypes Tryz.prog).any (Tryz.prog.loopsFrom ·))) = true := by kernel_rfl
theorem k17 : ((Rows.plaitCancelsRow.wideKeys == (Tryz.f13.params.toList ++ (OpenSpec.ofChange Rows.plaitCancelsSpec).bare.plain.varTypes Tryz.prog ++ Tryz.f13.resultTypes.toList).any (Tryz.prog.wideKeysFrom ·))) = true := by kernel_rfl
theorem k18 : ((OpenSpec.ofChange Rows.plaitCancelsSpec).bare.vars.all (Tryz.prog.varReadable ·)) = true := by kernel_rfl
theorem k19 : (Tryz.f13.resultTypes.all (fun t => Tryz.prog.readableRec t && decide (t < Tryz.prog.types.size))) = true := by kernel_rfl
theorem k20 : ((Rows.plaitCancelsRow.ifacesOut == Tryz.f13.resultTypes.toList.any (Tryz.prog.ifacesRec ·))) = true := by kernel_rfl
theorem k21 : ((Rows.plaitCancelsRow.loopsOut == Tryz.f13.resultTypes.toList.any (Tryz.prog.loopsFrom ·))) = true := by kernel_rfl
theorem k22 : ((Rows.plaitCancelsRow.plainKeys == Tryz.prog.plainKeys)) = true := by kernel_rfl
theorem k23 : (Rows.plaitCancelsRow.shortTexts.isNone) = true := by kernel_rfl
theorem k26 : ((Rows.plaitCancelsRow.lifted == Tryz.prog.liftsFinal)) = true := by kernel_rfl
theorem k27 : ((Tryz.prog.make == some Rows.plaitCancelsRow.make)) = true := by kernel_rfl
theorem k28 : ((Rows.plaitCancelsRow.kinds == (if Rows.plaitCancelsRow.domain.isEmpty then [] else Tryz.f13.params.toList.map fun t => match Tryz.prog.underlying t with | some (.int k) => some k | _ => none))) = true := by kernel_rfl
theorem k29 : ((Rows.plaitCancelsRow.pinned == Rows.plaitCancelsRow.pinnedBy)) = true := by kernel_rfl
theorem k30 : ((Rows.plaitCancelsRow.veiled == (Tryz.f13.params.toList ++ (OpenSpec.ofChange Rows.plaitCancelsSpec).bare.plain.varTypes Tryz.prog ++ Tryz.f13.resultTypes.toList).any (Tryz.prog.veiledRec ·))) = true := by kernel_rfl
theorem k31 : (Rows.plaitCancelsRow.veiledFits Tryz.prog Tryz.f13.params.toList (Tryz.f13.params.toList ++ (OpenSpec.ofChange Rows.plaitCancelsSpec).bare.plain.varTypes Tryz.prog ++ Tryz.f13.resultTypes.toList)) = true := by kernel_rfl
theorem facts : joinedFacts Tryz.prog 13 Tryz.f13 (OpenSpec.ofChange Rows.plaitCancelsSpec).bare Rows.plaitCancelsRow = true := by
  unfold joinedFacts
  rw [k0, g1, g2, k3, k4, k5, g6, k7, g8, k9, k10, k11, k12, k13, k14, k15, k16, k17, k18, k19, k20, k21, k22, k23, g24, g25, k26, k27, k29, k30, k31]
  simp only [Bool.true_and, Bool.and_true]
  exact k28
theorem wrapper : Func.isWrapper Tryz.prog Tryz.f13 Rows.plaitCancelsRow.wrapper Rows.plaitCancelsRow.mainSum := by unfold Func.isWrapper; first | (rw [if_pos (by decide +kernel)]; kernel_rfl) | (rw [if_neg (by decide +kernel)]; exact ⟨rfl, rfl⟩)
theorem instance_ : Func.isInstance Tryz.prog Tryz.f13 Rows.plaitCancelsRow.origin Rows.plaitCancelsRow.targs := of_decide_eq_true (by kernel_rfl)
theorem named : Tryz.prog.funcNamed Rows.plaitCancelsRow.func = some 13 := by kernel_rfl
theorem byText : Rows.plaitCancelsRow.wfByText (OpenSpec.ofChange Rows.plaitCancelsSpec) = true := by kernel_rfl
end Go.Proofs.YtogbclcnmogaeaaGreatDoor.plaitCancels
