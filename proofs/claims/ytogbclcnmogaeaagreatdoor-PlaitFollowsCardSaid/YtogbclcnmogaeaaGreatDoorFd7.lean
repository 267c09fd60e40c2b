/- Closed facts on the row of PlaitFollows. No condition. -/
import Derived.Test.YtogbclcnmogaeaaGreatDoorFcG
set_option linter.all false
namespace Go.Proofs.YtogbclcnmogaeaaGreatDoor.plaitFollows
open Go.ChangeShapes Go.WideShapes Go.ChangeAt Go.RowKit
set_option maxRecDepth 100000
theorem k0 : (Rows.plaitFollowsRow.wf (OpenSpec.ofChange (OpenSpec.ofChange Rows.plaitFollowsSpec).bare)) = true := by kernel_rfl
theorem k3 : (Tryz.f9.params.all (Tryz.prog.readableRec ·)) = true := by kernel_rfl
theorem k4 : (namedTie Tryz.prog Rows.plaitFollowsRow.named (OpenSpec.ofChange Rows.plaitFollowsSpec).bare.vars) = true := by kernel_rfl
theorem k5 : ((Rows.plaitFollowsRow.stops == [])) = true := by kernel_rfl
theorem k7 : ((Rows.plaitFollowsRow.knobs == [])) = true := by kernel_rfl
theorem k9 : ((Rows.plaitFollowsRow.inPlace == Tryz.prog.inPlace 9)) = true := by kernel_rfl
theorem k10 : ((Rows.plaitFollowsRow.unfollowed == Tryz.prog.unfollowed 9)) = true := by kernel_rfl
theorem k11 : ((Rows.plaitFollowsRow.recurses == Tryz.prog.recurses 9)) = true := by kernel_rfl
theorem k12 : ((Rows.plaitFollowsRow.named == Tryz.prog.varsNamed 9)) = true := by kernel_rfl
theorem k13 : ((Rows.plaitFollowsRow.maps == (Tryz.f9.params.toList ++ (OpenSpec.ofChange Rows.plaitFollowsSpec).bare.plain.varTypes Tryz.prog).any (Tryz.prog.mapsRec ·))) = true := by kernel_rfl
theorem k14 : ((Rows.plaitFollowsRow.ifaces == (Tryz.f9.params.toList ++ (OpenSpec.ofChange Rows.plaitFollowsSpec).bare.plain.varTypes Tryz.prog).any (Tryz.prog.ifacesRec ·))) = true := by kernel_rfl
theorem k15 : ((Rows.plaitFollowsRow.mapsOut == Tryz.prog.mapsAmong Tryz.f9.resultTypes.toList)) = true := by kernel_rfl
theorem k16 : ((Rows.plaitFollowsRow.loops == (Tryz.f9.params.toList ++ (OpenSpec.ofChange Rows.plaitFollowsSpec).bare.plain.varTypes Tryz.prog).any (Tryz.prog.loopsFrom ·))) = true := by kernel_rfl
theorem k17 : ((Rows.plaitFollowsRow.wideKeys == (Tryz.f9.params.toList ++ (OpenSpec.ofChange Rows.plaitFollowsSpec).bare.plain.varTypes Tryz.prog ++ Tryz.f9.resultTypes.toList).any (Tryz.prog.wideKeysFrom ·))) = true := by kernel_rfl
theorem k18 : ((OpenSpec.ofChange Rows.plaitFollowsSpec).bare.vars.all (Tryz.prog.varReadable ·)) = true := by kernel_rfl
theorem k19 : (Tryz.f9.resultTypes.all (fun t => Tryz.prog.readableRec t && decide (t < Tryz.prog.types.size))) = true := by kernel_rfl
theorem k20 : ((Rows.plaitFollowsRow.ifacesOut == Tryz.f9.resultTypes.toList.any (Tryz.prog.ifacesRec ·))) = true := by kernel_rfl
theorem k21 : ((Rows.plaitFollowsRow.loopsOut == Tryz.f9.resultTypes.toList.any (Tryz.prog.loopsFrom ·))) = true := by kernel_rfl
theorem k22 : ((Rows.plaitFollowsRow.plainKeys == Tryz.prog.plainKeys)) = true := by kernel_rfl
theorem k23 : (Rows.plaitFollowsRow.shortTexts.isNone) = true := by kernel_rfl
theorem k26 : ((Rows.plaitFollowsRow.lifted == Tryz.prog.liftsFinal)) = true := by kernel_rfl
theorem k27 : ((Tryz.prog.make == some Rows.plaitFollowsRow.make)) = true := by kernel_rfl
theorem k28 : ((Rows.plaitFollowsRow.kinds == (if Rows.plaitFollowsRow.domain.isEmpty then [] else Tryz.f9.params.toList.map fun t => match Tryz.prog.underlying t with | some (.int k) => some k | _ => none))) = true := by kernel_rfl
theorem k29 : ((Rows.plaitFollowsRow.pinned == Rows.plaitFollowsRow.pinnedBy)) = true := by kernel_rfl
theorem k30 : ((Rows.plaitFollowsRow.veiled == (Tryz.f9.params.toList ++ (OpenSpec.ofChange Rows.plaitFollowsSpec).bare.plain.varTypes Tryz.prog ++ Tryz.f9.resultTypes.toList).any (Tryz.prog.veiledRec ·))) = true := by kernel_rfl
theorem k31 : (Rows.plaitFollowsRow.veiledFits Tryz.prog Tryz.f9.params.toList (Tryz.f9.params.toList ++ (OpenSpec.ofChange Rows.plaitFollowsSpec).bare.plain.varTypes Tryz.prog ++ Tryz.f9.resultTypes.toList)) = true := by kernel_rfl
theorem facts : joinedFacts Tryz.prog 9 Tryz.f9 (OpenSpec.ofChange Rows.plaitFollowsSpec).bare Rows.plaitFollowsRow = true := by
  unfold joinedFacts
  rw [k0, g1, g2, k3, k4, k5, g6, k7, g8, k9, k10, k11, k12, k13, k14, k15, k16, k17, k18, k19, k20, k21, k22, k23, g24, g25, k26, k27, k29, k30, k31]
  simp only [Bool.true_and, Bool.and_true]
  exact k28
theorem wrapper : Func.isWrapper Tryz.prog Tryz.f9 Rows.plaitFollowsRow.wrapper Rows.plaitFollowsRow.mainSum := by unfold Func.isWrapper; first | (rw [if_pos (by decide +kernel)]; kernel_rfl) | (rw [if_neg (by decide +kernel)]; exact ⟨rfl, rfl⟩)
theorem instance_ : Func.isInstance Tryz.prog Tryz.f9 Rows.plaitFollowsRow.origin Rows.plaitFollowsRow.targs := of_decide_eq_true (by kernel_rfl)
theorem named : Tryz.prog.funcNamed Rows.plaitFollowsRow.func = some 9 := by kernel_rfl
theorem byText : Rows.plaitFollowsRow.wfByText (OpenSpec.ofChange Rows.plaitFollowsSpec) = true := by kernel_rfl
end Go.Proofs.YtogbclcnmogaeaaGreatDoor.plaitFollows
