/- Closed facts on the row of PlaitSennits. No condition. -/
import Derived.Test.YtogbclcnmogaeaaGreatDoorLwA
set_option linter.all false
namespace Go.Proofs.YtogbclcnmogaeaaGreatDoor.plaitSennits
open Go.ChangeShapes Go.WideShapes Go.ChangeAt Go.RowKit
set_option maxRecDepth 100000
theorem k0 : (Rows.plaitSennitsRow.wf (OpenSpec.ofChange (OpenSpec.ofChange Rows.plaitSennitsSpec).bare)) = true := by kernel_rfl
theorem k3 : (Tryz.f7.params.all (Tryz.prog.readableRec ·)) = true := by kernel_rfl
theorem k4 : (namedTie Tryz.prog Rows.plaitSennitsRow.named (OpenSpec.ofChange Rows.plaitSennitsSpec).bare.vars) = true := by kernel_rfl
theorem k5 : ((Rows.plaitSennitsRow.stops == [])) = true := by kernel_rfl
theorem k7 : ((Rows.plaitSennitsRow.knobs == [])) = true := by kernel_rfl
theorem k9 : ((Rows.plaitSennitsRow.inPlace == Tryz.prog.inPlace 7)) = true := by kernel_rfl
theorem k10 : ((Rows.plaitSennitsRow.unfollowed == Tryz.prog.unfollowed 7)) = true := by kernel_rfl
theorem k11 : ((Rows.plaitSennitsRow.recurses == Tryz.prog.recurses 7)) = true := by kernel_rfl
theorem k12 : ((Rows.plaitSennitsRow.named == Tryz.prog.varsNamed 7)) = true := by kernel_rfl
theorem k13 : ((Rows.plaitSennitsRow.maps == (Tryz.f7.params.toList ++ (OpenSpec.ofChange Rows.plaitSennitsSpec).bare.plain.varTypes Tryz.prog).any (Tryz.prog.mapsRec ·))) = true := by kernel_rfl
theorem k14 : ((Rows.plaitSennitsRow.ifaces == (Tryz.f7.params.toList ++ (OpenSpec.ofChange Rows.plaitSennitsSpec).bare.plain.varTypes Tryz.prog).any (Tryz.prog.ifacesRec ·))) = true := by kernel_rfl
theorem k15 : ((Rows.plaitSennitsRow.mapsOut == Tryz.prog.mapsAmong Tryz.f7.resultTypes.toList)) = true := by kernel_rfl
theorem k16 : ((Rows.plaitSennitsRow.loops == (Tryz.f7.params.toList ++ (OpenSpec.ofChange Rows.plaitSennitsSpec).bare.plain.varTypes Tryz.prog).any (Tryz.prog.loopsFrom ·))) = true := by kernel_rfl
theorem k17 : ((Rows.plaitSennitsRow.wideKeys == (Tryz.f7.params.toList ++ (OpenSpec.ofChange Rows.plaitSennitsSpec).bare.plain.varTypes Tryz.prog ++ Tryz.f7.resultTypes.toList).any (Tryz.prog.wideKeysFrom ·))) = true := by kernel_rfl
theorem k18 : ((OpenSpec.ofChange Rows.plaitSennitsSpec).bare.vars.all (Tryz.prog.varReadable ·)) = true := by kernel_rfl
theorem k19 : (Tryz.f7.resultTypes.all (fun t => Tryz.prog.readableRec t && decide (t < Tryz.prog.types.size))) = true := by kernel_rfl
theorem k20 : ((Rows.plaitSennitsRow.ifacesOut == Tryz.f7.resultTypes.toList.any (Tryz.prog.ifacesRec ·))) = true := by kernel_rfl
theorem k21 : ((Rows.plaitSennitsRow.loopsOut == Tryz.f7.resultTypes.toList.any (Tryz.prog.loopsFrom ·))) = true := by kernel_rfl
theorem k22 : ((Rows.plaitSennitsRow.plainKeys == Tryz.prog.plainKeys)) = true := by kernel_rfl
theorem k23 : (Rows.plaitSennitsRow.shortTexts.isNone) = true := by kernel_rfl
theorem k26 : ((Rows.plaitSennitsRow.lifted == Tryz.prog.liftsFinal)) = true := by kernel_rfl
theorem k27 : ((Tryz.prog.make == some Rows.plaitSennitsRow.make)) = true := by kernel_rfl
theorem k28 : ((Rows.plaitSennitsRow.kinds == (if Rows.plaitSennitsRow.domain.isEmpty then [] else Tryz.f7.params.toList.map fun t => match Tryz.prog.underlying t with | some (.int k) => some k | _ => none))) = true := by kernel_rfl
theorem k29 : ((Rows.plaitSennitsRow.pinned == Rows.plaitSennitsRow.pinnedBy)) = true := by kernel_rfl
theorem k30 : ((Rows.plaitSennitsRow.veiled == (Tryz.f7.params.toList ++ (OpenSpec.ofChange Rows.plaitSennitsSpec).bare.plain.varTypes Tryz.prog ++ Tryz.f7.resultTypes.toList).any (Tryz.prog.veiledRec ·))) = true := by kernel_rfl
theorem k31 : (Rows.plaitSennitsRow.veiledFits Tryz.prog Tryz.f7.params.toList (Tryz.f7.params.toList ++ (OpenSpec.ofChange Rows.plaitSennitsSpec).bare.plain.varTypes Tryz.prog ++ Tryz.f7.resultTypes.toList)) = true := by kernel_rfl
theorem facts : joinedFacts Tryz.prog 7 Tryz.f7 (OpenSpec.ofChange Rows.plaitSennitsSpec).bare Rows.plaitSennitsRow = true := by
  unfold joinedFacts
  rw [k0, g1, g2, k3, k4, k5, g6, k7, g8, k9, k10, k11, k12, k13, k14, k15, k16, k17, k18, k19, k20, k21, k22, k23, g24, g25, k26, k27, k29, k30, k31]
  simp only [Bool.true_and, Bool.and_true]
  exact k28
theorem wrapper : Func.isWrapper Tryz.prog Tryz.f7 Rows.plaitSennitsRow.wrapper Rows.plaitSennitsRow.mainSum := by unfold Func.isWrapper; first | (rw [if_pos (by decide +kernel)]; kernel_rfl) | (rw [if_neg (by decide +kernel)]; exact ⟨rfl, rfl⟩)
theorem instance_ : Func.isInstance Tryz.prog Tryz.f7 Rows.plaitSennitsRow.origin Rows.plaitSennitsRow.targs := of_decide_eq_true (by kernel_rfl)
theorem named : Tryz.prog.funcNamed Rows.plaitSennitsRow.func = some 7 := by kernel_rfl
theorem byText : Rows.plaitSennitsRow.wfByText (OpenSpec.ofChange Rows.plaitSennitsSpec) = true := by kernel_rfl
end Go.Proofs.YtogbclcnmogaeaaGreatDoor.plaitSennits
