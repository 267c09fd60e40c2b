/- Closed facts on the row of PlaitCircles. No condition. -/
import Derived.Test.YtmomeggnegcheaaGreatDoorLwA
set_option linter.all false
namespace Go.Proofs.YtmomeggnegcheaaGreatDoor.plaitCircles
open Go.ChangeShapes Go.WideShapes Go.ChangeAt Go.RowKit
set_option maxRecDepth 100000
theorem k0 : (Rows.plaitCirclesRow.wf (OpenSpec.ofChange (OpenSpec.ofChange Rows.plaitCirclesSpec).bare)) = true := by kernel_rfl
theorem k3 : (Tryz.f4.params.all (Tryz.prog.readableRec ·)) = true := by kernel_rfl
theorem k4 : (namedTie Tryz.prog Rows.plaitCirclesRow.named (OpenSpec.ofChange Rows.plaitCirclesSpec).bare.vars) = true := by kernel_rfl
theorem k5 : ((Rows.plaitCirclesRow.stops == [])) = true := by kernel_rfl
theorem k7 : ((Rows.plaitCirclesRow.knobs == [])) = true := by kernel_rfl
theorem k9 : ((Rows.plaitCirclesRow.inPlace == Tryz.prog.inPlace 4)) = true := by kernel_rfl
theorem k10 : ((Rows.plaitCirclesRow.unfollowed == Tryz.prog.unfollowed 4)) = true := by kernel_rfl
theorem k11 : ((Rows.plaitCirclesRow.recurses == Tryz.prog.recurses 4)) = true := by kernel_rfl
theorem k12 : ((Rows.plaitCirclesRow.named == Tryz.prog.varsNamed 4)) = true := by kernel_rfl
theorem k13 : ((Rows.plaitCirclesRow.maps == (Tryz.f4.params.toList ++ (OpenSpec.ofChange Rows.plaitCirclesSpec).bare.plain.varTypes Tryz.prog).any (Tryz.prog.mapsRec ·))) = true := by kernel_rfl
theorem k14 : ((Rows.plaitCirclesRow.ifaces == (Tryz.f4.params.toList ++ (OpenSpec.ofChange Rows.plaitCirclesSpec).bare.plain.varTypes Tryz.prog).any (Tryz.prog.ifacesRec ·))) = true := by kernel_rfl
theorem k15 : ((Rows.plaitCirclesRow.mapsOut == Tryz.prog.mapsAmong Tryz.f4.resultTypes.toList)) = true := by kernel_rfl
theorem k16 : ((Rows.plaitCirclesRow.loops == (Tryz.f4.params.toList ++ (OpenSpec.ofChange Rows.plaitCirclesSpec).bare.plain.varTypes Tryz.prog).any (Tryz.prog.loopsFrom ·))) = true := by kernel_rfl
theorem k17 : ((Rows.plaitCirclesRow.wideKeys == (Tryz.f4.params.toList ++ (OpenSpec.ofChange Rows.plaitCirclesSpec).bare.plain.varTypes Tryz.prog ++ Tryz.f4.resultTypes.toList).any (Tryz.prog.wideKeysFrom ·))) = true := by kernel_rfl
theorem k18 : ((OpenSpec.ofChange Rows.plaitCirclesSpec).bare.vars.all (Tryz.prog.varReadable ·)) = true := by kernel_rfl
theorem k19 : (Tryz.f4.resultTypes.all (fun t => Tryz.prog.readableRec t && decide (t < Tryz.prog.types.size))) = true := by kernel_rfl
theorem k20 : ((Rows.plaitCirclesRow.ifacesOut == Tryz.f4.resultTypes.toList.any (Tryz.prog.ifacesRec ·))) = true := by kernel_rfl
theorem k21 : ((Rows.plaitCirclesRow.loopsOut == Tryz.f4.resultTypes.toList.any (Tryz.prog.loopsFrom ·))) = true := by kernel_rfl
theorem k22 : ((Rows.plaitCirclesRow.plainKeys == Tryz.prog.plainKeys)) = true := by kernel_rfl
theorem k23 : (Rows.plaitCirclesRow.shortTexts.isNone) = true := by kernel_rfl
theorem k26 : ((Rows.plaitCirclesRow.lifted == Tryz.prog.liftsFinal)) = true := by kernel_rfl
theorem k27 : ((Tryz.prog.make == some Rows.plaitCirclesRow.make)) = true := by kernel_rfl
theorem k28 : ((Rows.plaitCirclesRow.kinds == (if Rows.plaitCirclesRow.domain.isEmpty then [] else Tryz.f4.params.toList.map fun t => match Tryz.prog.underlying t with | some (.int k) => some k | _ => none))) = true := by kernel_rfl
theorem k29 : ((Rows.plaitCirclesRow.pinned == Rows.plaitCirclesRow.pinnedBy)) = true := by kernel_rfl
theorem k30 : ((Rows.plaitCirclesRow.veiled == (Tryz.f4.params.toList ++ (OpenSpec.ofChange Rows.plaitCirclesSpec).bare.plain.varTypes Tryz.prog ++ Tryz.f4.resultTypes.toList).any (Tryz.prog.veiledRec ·))) = true := by kernel_rfl
theorem k31 : (Rows.plaitCirclesRow.veiledFits Tryz.prog Tryz.f4.params.toList (Tryz.f4.params.toList ++ (OpenSpec.ofChange Rows.plaitCirclesSpec).bare.plain.varTypes Tryz.prog ++ Tryz.f4.resultTypes.toList)) = true := by kernel_rfl
theorem facts : joinedFacts Tryz.prog 4 Tryz.f4 (OpenSpec.ofChange Rows.plaitCirclesSpec).bare Rows.plaitCirclesRow = true := by
  unfold joinedFacts
  rw [k0, g1, g2, k3, k4, k5, g6, k7, g8, k9, k10, k11, k12, k13, k14, k15, k16, k17, k18, k19, k20, k21, k22, k23, g24, g25, k26, k27, k29, k30, k31]
  simp only [Bool.true_and, Bool.and_true]
  exact k28
theorem wrapper : Func.isWrapper Tryz.prog Tryz.f4 Rows.plaitCirclesRow.wrapper Rows.plaitCirclesRow.mainSum := by unfold Func.isWrapper; first | (rw [if_pos (by decide +kernel)]; kernel_rfl) | (rw [if_neg (by decide +kernel)]; exact ⟨rfl, rfl⟩)
theorem instance_ : Func.isInstance Tryz.prog Tryz.f4 Rows.plaitCirclesRow.origin Rows.plaitCirclesRow.targs := of_decide_eq_true (by kernel_rfl)
theorem named : Tryz.prog.funcNamed Rows.plaitCirclesRow.func = some 4 := by kernel_rfl
theorem byText : Rows.plaitCirclesRow.wfByText (OpenSpec.ofChange Rows.plaitCirclesSpec) = true := by kernel_rfl
end Go.Proofs.YtmomeggnegcheaaGreatDoor.plaitCircles
