/- Closed facts on the row of PlaitKnots. No condition. -/
import Derived.Test.YtogbclcnmogaeaaGreatDoorLwA
set_option linter.all false
namespace Go.Proofs.YtogbclcnmogaeaaGreatDoor.plaitKnots
open Go.ChangeShapes Go.WideShapes Go.ChangeAt Go.RowKit
set_option maxRecDepth 100000
theorem k0 : (Rows.plaitKnotsRow.wf (OpenSpec.ofChange (OpenSpec.ofChange Rows.plaitKnotsSpec).bare)) = true := by kernel_rfl
theorem k3 : (Tryz.f10.params.all (Tryz.prog.readableRec ·)) = true := by kernel_rfl
theorem k4 : (namedTie Tryz.prog Rows.plaitKnotsRow.named (OpenSpec.ofChange Rows.plaitKnotsSpec).bare.vars) = true := by kernel_rfl
theorem k5 : ((Rows.plaitKnotsRow.stops == [])) = true := by kernel_rfl
theorem k7 : ((Rows.plaitKnotsRow.knobs == [])) = true := by kernel_rfl
theorem k9 : ((Rows.plaitKnotsRow.inPlace == Tryz.prog.inPlace 10)) = true := by kernel_rfl
theorem k10 : ((Rows.plaitKnotsRow.unfollowed == Tryz.prog.unfollowed 10)) = true := by kernel_rfl
theorem k11 : ((Rows.plaitKnotsRow.recurses == Tryz.prog.recurses 10)) = true := by kernel_rfl
theorem k12 : ((Rows.plaitKnotsRow.named == Tryz.prog.varsNamed 10)) = true := by kernel_rfl
theorem k13 : ((Rows.plaitKnotsRow.maps == (Tryz.f10.params.toList ++ (OpenSpec.ofChange Rows.plaitKnotsSpec).bare.plain.varTypes Tryz.prog).any (Tryz.prog.mapsRec ·))) = true := by kernel_rfl
theorem k14 : ((Rows.plaitKnotsRow.ifaces == (Tryz.f10.params.toList ++ (OpenSpec.ofChange Rows.plaitKnotsSpec).bare.plain.varTypes Tryz.prog).any (Tryz.prog.ifacesRec ·))) = true := by kernel_rfl
theorem k15 : ((Rows.plaitKnotsRow.mapsOut == Tryz.prog.mapsAmong Tryz.f10.resultTypes.toList)) = true := by kernel_rfl
theorem k16 : ((Rows.plaitKnotsRow.loops == (Tryz.f10.params.toList ++ (OpenSpec.ofChange Rows.plaitKnotsSpec).bare.plain.varTypes Tryz.prog).any (Tryz.prog.loopsFrom ·))) = true := by kernel_rfl
theorem k17 : ((Rows.plaitKnotsRow.wideKeys == (Tryz.f10.params.toList ++ (OpenSpec.ofChange Rows.plaitKnotsSpec).bare.plain.varTypes Tryz.prog ++ Tryz.f10.resultTypes.toList).any (Tryz.prog.wideKeysFrom ·))) = true := by kernel_rfl
theorem k18 : ((OpenSpec.ofChange Rows.plaitKnotsSpec).bare.vars.all (Tryz.prog.varReadable ·)) = true := by kernel_rfl
theorem k19 : (Tryz.f10.resultTypes.all (fun t => Tryz.prog.readableRec t && decide (t < Tryz.prog.types.size))) = true := by kernel_rfl
theorem k20 : ((Rows.plaitKnotsRow.ifacesOut == Tryz.f10.resultTypes.toList.any (Tryz.prog.ifacesRec ·))) = true := by kernel_rfl
theorem k21 : ((Rows.plaitKnotsRow.loopsOut == Tryz.f10.resultTypes.toList.any (Tryz.prog.loopsFrom ·))) = true := by kernel_rfl
theorem k22 : ((Rows.plaitKnotsRow.plainKeys == Tryz.prog.plainKeys)) = true := by kernel_rfl
theorem k23 : (Rows.plaitKnotsRow.shortTexts.isNone) = true := by kernel_rfl
theorem k26 : ((Rows.plaitKnotsRow.lifted == Tryz.prog.liftsFinal)) = true := by kernel_rfl
theorem k27 : ((Tryz.prog.make == some Rows.plaitKnotsRow.make)) = true := by kernel_rfl
theorem k28 : ((Rows.plaitKnotsRow.kinds == (if Rows.plaitKnotsRow.domain.isEmpty then [] else Tryz.f10.params.toList.map fun t => match Tryz.prog.underlying t with | some (.int k) => some k | _ => none))) = true := by kernel_rfl
theorem k29 : ((Rows.plaitKnotsRow.pinned == Rows.plaitKnotsRow.pinnedBy)) = true := by kernel_rfl
theorem k30 : ((Rows.plaitKnotsRow.veiled == (Tryz.f10.params.toList ++ (OpenSpec.ofChange Rows.plaitKnotsSpec).bare.plain.varTypes Tryz.prog ++ Tryz.f10.resultTypes.toList).any (Tryz.prog.veiledRec ·))) = true := by kernel_rfl
theorem k31 : (Rows.plaitKnotsRow.veiledFits Tryz.prog Tryz.f10.params.toList (Tryz.f10.params.toList ++ (OpenSpec.ofChange Rows.plaitKnotsSpec).bare.plain.varTypes Tryz.prog ++ Tryz.f10.resultTypes.toList)) = true := by kernel_rfl
theorem facts : joinedFacts Tryz.prog 10 Tryz.f10 (OpenSpec.ofChange Rows.plaitKnotsSpec).bare Rows.plaitKnotsRow = true := by
  unfold joinedFacts
  rw [k0, g1, g2, k3, k4, k5, g6, k7, g8, k9, k10, k11, k12, k13, k14, k15, k16, k17, k18, k19, k20, k21, k22, k23, g24, g25, k26, k27, k29, k30, k31]
  simp only [Bool.true_and, Bool.and_true]
  exact k28
theorem wrapper : Func.isWrapper Tryz.prog Tryz.f10 Rows.plaitKnotsRow.wrapper Rows.plaitKnotsRow.mainSum := by unfold Func.isWrapper; first | (rw [if_pos (by decide +kernel)]; kernel_rfl) | (rw [if_neg (by decide +kernel)]; exact ⟨rfl, rfl⟩)
theorem instance_ : Func.isInstance Tryz.prog Tryz.f10 Rows.plaitKnotsRow.origin Rows.plaitKnotsRow.targs := of_decide_eq_true (by kernel_rfl)
theorem named : Tryz.prog.funcNamed Rows.plaitKnotsRow.func = some 10 := by kernel_rfl
theorem byText : Rows.plaitKnotsRow.wfByText (OpenSpec.ofChange Rows.plaitKnotsSpec) = true := by kernel_rfl
end Go.Proofs.YtogbclcnmogaeaaGreatDoor.plaitKnots
