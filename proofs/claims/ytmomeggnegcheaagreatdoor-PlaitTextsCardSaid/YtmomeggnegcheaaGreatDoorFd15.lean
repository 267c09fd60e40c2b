/- Closed facts on the row of PlaitTexts. No condition. -/
import Derived.Test.YtmomeggnegcheaaGreatDoorLwA
set_option linter.all false
namespace Go.Proofs.YtmomeggnegcheaaGreatDoor.plaitTexts
open Go.ChangeShapes Go.WideShapes Go.ChangeAt Go.RowKit
set_option maxRecDepth 100000
theorem k0 : (Rows.plaitTextsRow.wf (OpenSpec.ofChange (OpenSpec.ofChange Rows.plaitTextsSpec).bare)) = true := by kernel_rfl
theorem k3 : (Tryz.f6.params.all (Tryz.prog.readableRec ·)) = true := by kernel_rfl
theorem k4 : (namedTie Tryz.prog Rows.plaitTextsRow.named (OpenSpec.ofChange Rows.plaitTextsSpec).bare.vars) = true := by kernel_rfl
theorem k5 : ((Rows.plaitTextsRow.stops == [])) = true := by kernel_rfl
theorem k7 : ((Rows.plaitTextsRow.knobs == [])) = true := by kernel_rfl
theorem k9 : ((Rows.plaitTextsRow.inPlace == Tryz.prog.inPlace 6)) = true := by kernel_rfl
theorem k10 : ((Rows.plaitTextsRow.unfollowed == Tryz.prog.unfollowed 6)) = true := by kernel_rfl
theorem k11 : ((Rows.plaitTextsRow.recurses == Tryz.prog.recurses 6)) = true := by kernel_rfl
theorem k12 : ((Rows.plaitTextsRow.named == Tryz.prog.varsNamed 6)) = true := by kernel_rfl
theorem k13 : ((Rows.plaitTextsRow.maps == (Tryz.f6.params.toList ++ (OpenSpec.ofChange Rows.plaitTextsSpec).bare.plain.varTypes Tryz.prog).any (Tryz.prog.mapsRec ·))) = true := by kernel_rfl
theorem k14 : ((Rows.plaitTextsRow.ifaces == (Tryz.f6.params.toList ++ (OpenSpec.ofChange Rows.plaitTextsSpec).bare.plain.varTypes Tryz.prog).any (Tryz.prog.ifacesRec ·))) = true := by kernel_rfl
theorem k15 : ((Rows.plaitTextsRow.mapsOut == Tryz.prog.mapsAmong Tryz.f6.resultTypes.toList)) = true := by kernel_rfl
theorem k16 : ((Rows.plaitTextsRow.loops == (Tryz.f6.params.toList ++ (OpenSpec.ofChange Rows.plaitTextsSpec).bare.plain.varTypes Tryz.prog).any (Tryz.prog.loopsFrom ·))) = true := by kernel_rfl
theorem k17 : ((Rows.plaitTextsRow.wideKeys == (Tryz.f6.params.toList ++ (OpenSpec.ofChange Rows.plaitTextsSpec).bare.plain.varTypes Tryz.prog ++ Tryz.f6.resultTypes.toList).any (Tryz.prog.wideKeysFrom ·))) = true := by kernel_rfl
theorem k18 : ((OpenSpec.ofChange Rows.plaitTextsSpec).bare.vars.all (Tryz.prog.varReadable ·)) = true := by kernel_rfl
theorem k19 : (Tryz.f6.resultTypes.all (fun t => Tryz.prog.readableRec t && decide (t < Tryz.prog.types.size))) = true := by kernel_rfl
theorem k20 : ((Rows.plaitTextsRow.ifacesOut == Tryz.f6.resultTypes.toList.any (Tryz.prog.ifacesRec ·))) = true := by kernel_rfl
theorem k21 : ((Rows.plaitTextsRow.loopsOut == Tryz.f6.resultTypes.toList.any (Tryz.prog.loopsFrom ·))) = true := by kernel_rfl
theorem k22 : ((Rows.plaitTextsRow.plainKeys == Tryz.prog.plainKeys)) = true := by kernel_rfl
theorem k23 : (Rows.plaitTextsRow.shortTexts.isNone) = true := by kernel_rfl
theorem k26 : ((Rows.plaitTextsRow.lifted == Tryz.prog.liftsFinal)) = true := by kernel_rfl
theorem k27 : ((Tryz.prog.make == some Rows.plaitTextsRow.make)) = true := by kernel_rfl
theorem k28 : ((Rows.plaitTextsRow.kinds == (if Rows.plaitTextsRow.domain.isEmpty then [] else Tryz.f6.params.toList.map fun t => match Tryz.prog.underlying t with | some (.int k) => some k | _ => none))) = true := by kernel_rfl
theorem k29 : ((Rows.plaitTextsRow.pinned == Rows.plaitTextsRow.pinnedBy)) = true := by kernel_rfl
theorem k30 : ((Rows.plaitTextsRow.veiled == (Tryz.f6.params.toList ++ (OpenSpec.ofChange Rows.plaitTextsSpec).bare.plain.varTypes Tryz.prog ++ Tryz.f6.resultTypes.toList).any (Tryz.prog.veiledRec ·))) = true := by kernel_rfl
theorem k31 : (Rows.plaitTextsRow.veiledFits Tryz.prog Tryz.f6.params.toList (Tryz.f6.params.toList ++ (OpenSpec.ofChange Rows.plaitTextsSpec).bare.plain.varTypes Tryz.prog ++ Tryz.f6.resultTypes.toList)) = true := by kernel_rfl
theorem facts : joinedFacts Tryz.prog 6 Tryz.f6 (OpenSpec.ofChange Rows.plaitTextsSpec).bare Rows.plaitTextsRow = true := by
  unfold joinedFacts
  rw [k0, g1, g2, k3, k4, k5, g6, k7, g8, k9, k10, k11, k12, k13, k14, k15, k16, k17, k18, k19, k20, k21, k22, k23, g24, g25, k26, k27, k29, k30, k31]
  simp only [Bool.true_and, Bool.and_true]
  exact k28
theorem wrapper : Func.isWrapper Tryz.prog Tryz.f6 Rows.plaitTextsRow.wrapper Rows.plaitTextsRow.mainSum := by unfold Func.isWrapper; first | (rw [if_pos (by decide +kernel)]; kernel_rfl) | (rw [if_neg (by decide +kernel)]; exact ⟨rfl, rfl⟩)
theorem instance_ : Func.isInstance Tryz.prog Tryz.f6 Rows.plaitTextsRow.origin Rows.plaitTextsRow.targs := of_decide_eq_true (by kernel_rfl)
theorem named : Tryz.prog.funcNamed Rows.plaitTextsRow.func = some 6 := by kernel_rfl
theorem byText : Rows.plaitTextsRow.wfByText (OpenSpec.ofChange Rows.plaitTextsSpec) = true := by kernel_rfl
end Go.Proofs.YtmomeggnegcheaaGreatDoor.plaitTexts
