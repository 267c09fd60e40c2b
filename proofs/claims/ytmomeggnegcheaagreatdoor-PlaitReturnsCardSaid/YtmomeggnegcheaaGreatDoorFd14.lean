/- Closed facts on the row of PlaitReturns. No condition. -/
import Derived.Test.YtmomeggnegcheaaGreatDoorLwA
set_option linter.all false
namespace Go.Proofs.YtmomeggnegcheaaGreatDoor.plaitReturns
open Go.ChangeShapes Go.WideShapes Go.ChangeAt Go.RowKit
set_option maxRecDepth 100000
theorem k0 : (Rows.plaitReturnsRow.wf (OpenSpec.ofChange (OpenSpec.ofChange Rows.plaitReturnsSpec).bare)) = true := by kernel_rfl
theorem k3 : (Tryz.f5.params.all (Tryz.prog.readableRec ·)) = true := by kernel_rfl
theorem k4 : (namedTie Tryz.prog Rows.plaitReturnsRow.named (OpenSpec.ofChange Rows.plaitReturnsSpec).bare.vars) = true := by kernel_rfl
theorem k5 : ((Rows.plaitReturnsRow.stops == [])) = true := by kernel_rfl
theorem k7 : ((Rows.plaitReturnsRow.knobs == [])) = true := by kernel_rfl
theorem k9 : ((Rows.plaitReturnsRow.inPlace == Tryz.prog.inPlace 5)) = true := by kernel_rfl
theorem k10 : ((Rows.plaitReturnsRow.unfollowed == Tryz.prog.unfollowed 5)) = true := by kernel_rfl
theorem k11 : ((Rows.plaitReturnsRow.recurses == Tryz.prog.recurses 5)) = true := by kernel_rfl
theorem k12 : ((Rows.plaitReturnsRow.named == Tryz.prog.varsNamed 5)) = true := by kernel_rfl
theorem k13 : ((Rows.plaitReturnsRow.maps == (Tryz.f5.params.toList ++ (OpenSpec.ofChange Rows.plaitReturnsSpec).bare.plain.varTypes Tryz.prog).any (Tryz.prog.mapsRec ·))) = true := by kernel_rfl
theorem k14 : ((Rows.plaitReturnsRow.ifaces == (Tryz.f5.params.toList ++ (OpenSpec.ofChange Rows.plaitReturnsSpec).bare.plain.varTypes Tryz.prog).any (Tryz.prog.ifacesRec ·))) = true := by kernel_rfl
theorem k15 : ((Rows.plaitReturnsRow.mapsOut == Tryz.prog.mapsAmong Tryz.f5.resultTypes.toList)) = true := by kernel_rfl
theorem k16 : ((Rows.plaitReturnsRow.loops == (Tryz.f5.params.toList ++ (OpenSpec.ofChange Rows.plaitReturnsSpec).bare.plain.varTypes Tryz.prog).any (Tryz.prog.loopsFrom ·))) = true := by kernel_rfl
theorem k17 : ((Rows.plaitReturnsRow.wideKeys == (Tryz.f5.params.toList ++ (OpenSpec.ofChange Rows.plaitReturnsSpec).bare.plain.varTypes Tryz.prog ++ Tryz.f5.resultTypes.toList).any (Tryz.prog.wideKeysFrom ·))) = true := by kernel_rfl
theorem k18 : ((OpenSpec.ofChange Rows.plaitReturnsSpec).bare.vars.all (Tryz.prog.varReadable ·)) = true := by kernel_rfl
theorem k19 : (Tryz.f5.resultTypes.all (fun t => Tryz.prog.readableRec t && decide (t < Tryz.prog.types.size))) = true := by kernel_rfl
theorem k20 : ((Rows.plaitReturnsRow.ifacesOut == Tryz.f5.resultTypes.toList.any (Tryz.prog.ifacesRec ·))) = true := by kernel_rfl
theorem k21 : ((Rows.plaitReturnsRow.loopsOut == Tryz.f5.resultTypes.toList.any (Tryz.prog.loopsFrom ·))) = true := by kernel_rfl
theorem k22 : ((Rows.plaitReturnsRow.plainKeys == Tryz.prog.plainKeys)) = true := by kernel_rfl
theorem k23 : (Rows.plaitReturnsRow.shortTexts.isNone) = true := by kernel_rfl
theorem k26 : ((Rows.plaitReturnsRow.lifted == Tryz.prog.liftsFinal)) = true := by kernel_rfl
theorem k27 : ((Tryz.prog.make == some Rows.plaitReturnsRow.make)) = true := by kernel_rfl
theorem k28 : ((Rows.plaitReturnsRow.kinds == (if Rows.plaitReturnsRow.domain.isEmpty then [] else Tryz.f5.params.toList.map fun t => match Tryz.prog.underlying t with | some (.int k) => some k | _ => none))) = true := by kernel_rfl
theorem k29 : ((Rows.plaitReturnsRow.pinned == Rows.plaitReturnsRow.pinnedBy)) = true := by kernel_rfl
theorem k30 : ((Rows.plaitReturnsRow.veiled == (Tryz.f5.params.toList ++ (OpenSpec.ofChange Rows.plaitReturnsSpec).bare.plain.varTypes Tryz.prog ++ Tryz.f5.resultTypes.toList).any (Tryz.prog.veiledRec ·))) = true := by kernel_rfl
theorem k31 : (Rows.plaitReturnsRow.veiledFits Tryz.prog Tryz.f5.params.toList (Tryz.f5.params.toList ++ (OpenSpec.ofChange Rows.plaitReturnsSpec).bare.plain.varTypes Tryz.prog ++ Tryz.f5.resultTypes.toList)) = true := by kernel_rfl
theorem facts : joinedFacts Tryz.prog 5 Tryz.f5 (OpenSpec.ofChange Rows.plaitReturnsSpec).bare Rows.plaitReturnsRow = true := by
  unfold joinedFacts
  rw [k0, g1, g2, k3, k4, k5, g6, k7, g8, k9, k10, k11, k12, k13, k14, k15, k16, k17, k18, k19, k20, k21, k22, k23, g24, g25, k26, k27, k29, k30, k31]
  simp only [Bool.true_and, Bool.and_true]
  exact k28
theorem wrapper : Func.isWrapper Tryz.prog Tryz.f5 Rows.plaitReturnsRow.wrapper Rows.plaitReturnsRow.mainSum := by unfold Func.isWrapper; first | (rw [if_pos (by decide +kernel)]; kernel_rfl) | (rw [if_neg (by decide +kernel)]; exact ⟨rfl, rfl⟩)
theorem instance_ : Func.isInstance Tryz.prog Tryz.f5 Rows.plaitReturnsRow.origin Rows.plaitReturnsRow.targs := of_decide_eq_true (by kernel_rfl)
theorem named : Tryz.prog.funcNamed Rows.plaitReturnsRow.func = some 5 := by kernel_rfl
theorem byText : Rows.plaitReturnsRow.wfByText (OpenSpec.ofChange Rows.plaitReturnsSpec) = true := by kernel_rfl
end Go.Proofs.YtmomeggnegcheaaGreatDoor.plaitReturns
