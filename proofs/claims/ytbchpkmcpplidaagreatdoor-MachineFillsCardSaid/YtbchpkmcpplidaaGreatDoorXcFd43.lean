/- Closed facts on the row of MachineFills. No condition. -/
import Derived.Test.YtbchpkmcpplidaaGreatDoorXc01

set_option linter.all false
namespace Go.Proofs.YtbchpkmcpplidaaGreatDoor.machineFills
open Go.ChangeShapes Go.WideShapes Go.ChangeAt Go.RowKit
set_option maxRecDepth 100000
theorem k0 : (Rows.machineFillsRow.wf (OpenSpec.ofChange (OpenSpec.ofChange Rows.machineFillsSpec).bare)) = true := by kernel_rfl
theorem k3 : (Tryz.f5.params.all (Tryz.prog.readableRec ·)) = true := by kernel_rfl
theorem k4 : (namedTie Tryz.prog Rows.machineFillsRow.named (OpenSpec.ofChange Rows.machineFillsSpec).bare.vars) = true := by kernel_rfl
theorem k5 : ((Rows.machineFillsRow.stops == [])) = true := by kernel_rfl
theorem k7 : ((Rows.machineFillsRow.knobs == [])) = true := by kernel_rfl
theorem k9 : ((Rows.machineFillsRow.inPlace == Tryz.prog.inPlace 5)) = true := by kernel_rfl
theorem k10 : ((Rows.machineFillsRow.unfollowed == Tryz.prog.unfollowed 5)) = true := by kernel_rfl
theorem k11 : ((Rows.machineFillsRow.recurses == Tryz.prog.recurses 5)) = true := by kernel_rfl
theorem k12 : ((Rows.machineFillsRow.named == Tryz.prog.varsNamed 5)) = true := by kernel_rfl
theorem k13 : ((Rows.machineFillsRow.maps == (Tryz.f5.params.toList ++ (OpenSpec.ofChange Rows.machineFillsSpec).bare.plain.varTypes Tryz.prog).any (Tryz.prog.mapsRec ·))) = true := by kernel_rfl
theorem k14 : ((Rows.machineFillsRow.ifaces == (Tryz.f5.params.toList ++ (OpenSpec.ofChange Rows.machineFillsSpec).bare.plain.varTypes Tryz.prog).any (Tryz.prog.ifacesRec ·))) = true := by kernel_rfl
theorem k15 : ((Rows.machineFillsRow.mapsOut == Tryz.prog.mapsAmong Tryz.f5.resultTypes.toList)) = true := by kernel_rfl
theorem k16 : ((Rows.machineFillsRow.loops == (Tryz.f5.params.toList ++ (OpenSpec.ofChange Rows.machineFillsSpec).bare.plain.varTypes Tryz.prog).any (Tryz.prog.loopsFrom ·))) = true := by kernel_rfl
theorem k17 : ((Rows.machineFillsRow.wideKeys == (Tryz.f5.params.toList ++ (OpenSpec.ofChange Rows.machineFillsSpec).bare.plain.varTypes Tryz.prog ++ Tryz.f5.resultTypes.toList).any (Tryz.prog.wideKeysFrom ·))) = true := by kernel_rfl
theorem k18 : ((OpenSpec.ofChange Rows.machineFillsSpec).bare.vars.all (Tryz.prog.varReadable ·)) = true := by kernel_rfl
theorem k19 : (Tryz.f5.resultTypes.all (fun t => Tryz.prog.readableRec t && decide (t < Tryz.prog.types.size))) = true := by kernel_rfl
theorem k20 : ((Rows.machineFillsRow.ifacesOut == Tryz.f5.resultTypes.toList.any (Tryz.prog.ifacesRec ·))) = true := by kernel_rfl
theorem k21 : ((Rows.machineFillsRow.loopsOut == Tryz.f5.resultTypes.toList.any (Tryz.prog.loopsFrom ·))) = true := by kernel_rfl
theorem k22 : ((Rows.machineFillsRow.plainKeys == Tryz.prog.plainKeys)) = true := by kernel_rfl
theorem k23 : (Rows.machineFillsRow.shortTexts.isNone) = true := by kernel_rfl
theorem k26 : ((Rows.machineFillsRow.lifted == Tryz.prog.liftsFinal)) = true := by kernel_rfl
theorem k27 : ((Tryz.prog.make == some Rows.machineFillsRow.make)) = true := by kernel_rfl
theorem k28 : ((Rows.machineFillsRow.kinds == (if Rows.machineFillsRow.domain.isEmpty then [] else Tryz.f5.params.toList.map fun t => match Tryz.prog.underlying t with | some (.int k) => some k | _ => none))) = true := by kernel_rfl
theorem k29 : ((Rows.machineFillsRow.pinned == Rows.machineFillsRow.pinnedBy)) = true := by kernel_rfl
theorem k30 : ((Rows.machineFillsRow.veiled == (Tryz.f5.params.toList ++ (OpenSpec.ofChange Rows.machineFillsSpec).bare.plain.varTypes Tryz.prog ++ Tryz.f5.resultTypes.toList).any (Tryz.prog.veiledRec ·))) = true := by kernel_rfl
theorem k31 : (Rows.machineFillsRow.veiledFits Tryz.prog Tryz.f5.params.toList (Tryz.f5.params.toList ++ (OpenSpec.ofChange Rows.machineFillsSpec).bare.plain.varTypes Tryz.prog ++ Tryz.f5.resultTypes.toList)) = true := by kernel_rfl
theorem facts : joinedFacts Tryz.prog 5 Tryz.f5 (OpenSpec.ofChange Rows.machineFillsSpec).bare Rows.machineFillsRow = true := by
 unfold joinedFacts
 rw [k0, g1, g2, k3, k4, k5, g6, k7, g8, k9, k10, k11, k12, k13, k14, k15, k16, k17, k18, k19, k20, k21, k22, k23, g24, g25, k26, k27, k29, k30, k31]
 simp only [Bool.true_and, Bool.and_true]
 exact k28
theorem wrapper : Func.isWrapper Tryz.prog Tryz.f5 Rows.machineFillsRow.wrapper Rows.machineFillsRow.mainSum := by unfold Func.isWrapper; first | (rw [if_pos (by decide +kernel)]; kernel_rfl) | (rw [if_neg (by decide +kernel)]; exact ⟨rfl, rfl⟩)
theorem instance_ : Func.isInstance Tryz.prog Tryz.f5 Rows.machineFillsRow.origin Rows.machineFillsRow.targs := of_decide_eq_true (by kernel_rfl)
theorem named : Tryz.prog.funcNamed Rows.machineFillsRow.func = some 5 := by kernel_rfl
theorem byText : Rows.machineFillsRow.wfByText (OpenSpec.ofChange Rows.machineFillsSpec) = true := by kernel_rfl
end Go.Proofs.YtbchpkmcpplidaaGreatDoor.machineFills
