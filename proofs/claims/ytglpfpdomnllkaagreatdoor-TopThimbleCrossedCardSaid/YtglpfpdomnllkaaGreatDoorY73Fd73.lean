/- Closed facts on the row of TopThimbleCrossed. No condition. -/
import Derived.Test.YtglpfpdomnllkaaGreatDoorCards
import Derived.Test.YtglpfpdomnllkaaGreatDoorTie
import Derived.WalkKit
import Derived.ProofKit
import Derived.OpenShut
import Derived.Deep.DeepHandedRow
import Derived.Test.YtglpfpdomnllkaaGreatDoorXd01
import Derived.Test.YtglpfpdomnllkaaGreatDoorXd02
import Derived.Test.YtglpfpdomnllkaaGreatDoorXd03
import Derived.Test.YtglpfpdomnllkaaGreatDoorXd04
import Derived.Test.YtglpfpdomnllkaaGreatDoorY7302

set_option linter.all false
namespace Go.Proofs.YtglpfpdomnllkaaGreatDoor.topThimbleCrossed
open Go.ChangeShapes Go.WideShapes Go.ChangeAt Go.RowKit
set_option maxRecDepth 100000
theorem k0 : (Rows.topThimbleCrossedRow.wf (OpenSpec.ofChange (OpenSpec.ofChange Rows.topThimbleCrossedSpec).bare)) = true := by kernel_rfl
theorem k3 : (Tryz.f3.params.all (Tryz.prog.readableRec ·)) = true := by kernel_rfl
theorem k4 : (namedTie Tryz.prog Rows.topThimbleCrossedRow.named (OpenSpec.ofChange Rows.topThimbleCrossedSpec).bare.vars) = true := by kernel_rfl
theorem k5 : ((Rows.topThimbleCrossedRow.stops == [])) = true := by kernel_rfl
theorem k7 : ((Rows.topThimbleCrossedRow.knobs == [])) = true := by kernel_rfl
theorem k9 : ((Rows.topThimbleCrossedRow.inPlace == Tryz.prog.inPlace 3)) = true := by kernel_rfl
theorem k10 : ((Rows.topThimbleCrossedRow.unfollowed == Tryz.prog.unfollowed 3)) = true := by kernel_rfl
theorem k11 : ((Rows.topThimbleCrossedRow.recurses == Tryz.prog.recurses 3)) = true := by kernel_rfl
theorem k12 : ((Rows.topThimbleCrossedRow.named == Tryz.prog.varsNamed 3)) = true := by kernel_rfl
theorem k13 : ((Rows.topThimbleCrossedRow.maps == (Tryz.f3.params.toList ++ (OpenSpec.ofChange Rows.topThimbleCrossedSpec).bare.plain.varTypes Tryz.prog).any (Tryz.prog.mapsRec ·))) = true := by kernel_rfl
theorem k14 : ((Rows.topThimbleCrossedRow.ifaces == (Tryz.f3.params.toList ++ (OpenSpec.ofChange Rows.topThimbleCrossedSpec).bare.plain.varTypes Tryz.prog).any (Tryz.prog.ifacesRec ·))) = true := by kernel_rfl
theorem k15 : ((Rows.topThimbleCrossedRow.mapsOut == Tryz.prog.mapsAmong Tryz.f3.resultTypes.toList)) = true := by kernel_rfl
theorem k16 : ((Rows.topThimbleCrossedRow.loops == (Tryz.f3.params.toList ++ (OpenSpec.ofChange Rows.topThimbleCrossedSpec).bare.plain.varTypes Tryz.prog).any (Tryz.prog.loopsFrom ·))) = true := by kernel_rfl
theorem k17 : ((Rows.topThimbleCrossedRow.wideKeys == (Tryz.f3.params.toList ++ (OpenSpec.ofChange Rows.topThimbleCrossedSpec).bare.plain.varTypes Tryz.prog ++ Tryz.f3.resultTypes.toList).any (Tryz.prog.wideKeysFrom ·))) = true := by kernel_rfl
theorem k18 : ((OpenSpec.ofChange Rows.topThimbleCrossedSpec).bare.vars.all (Tryz.prog.varReadable ·)) = true := by kernel_rfl
theorem k19 : (Tryz.f3.resultTypes.all (fun t => Tryz.prog.readableRec t && decide (t < Tryz.prog.types.size))) = true := by kernel_rfl
theorem k20 : ((Rows.topThimbleCrossedRow.ifacesOut == Tryz.f3.resultTypes.toList.any (Tryz.prog.ifacesRec ·))) = true := by kernel_rfl
theorem k21 : ((Rows.topThimbleCrossedRow.loopsOut == Tryz.f3.resultTypes.toList.any (Tryz.prog.loopsFrom ·))) = true := by kernel_rfl
theorem k22 : ((Rows.topThimbleCrossedRow.plainKeys == Tryz.prog.plainKeys)) = true := by kernel_rfl
theorem k23 : (Rows.topThimbleCrossedRow.shortTexts.isNone) = true := by kernel_rfl
theorem k26 : ((Rows.topThimbleCrossedRow.lifted == Tryz.prog.liftsFinal)) = true := by kernel_rfl
theorem k27 : ((Tryz.prog.make == some Rows.topThimbleCrossedRow.make)) = true := by kernel_rfl
theorem k28 : ((Rows.topThimbleCrossedRow.kinds == (if Rows.topThimbleCrossedRow.domain.isEmpty then [] else Tryz.f3.params.toList.map fun t => match Tryz.prog.underlying t with | some (.int k) => some k | _ => none))) = true := by kernel_rfl
theorem k29 : ((Rows.topThimbleCrossedRow.pinned == Rows.topThimbleCrossedRow.pinnedBy)) = true := by kernel_rfl
theorem k30 : ((Rows.topThimbleCrossedRow.veiled == (Tryz.f3.params.toList ++ (OpenSpec.ofChange Rows.topThimbleCrossedSpec).bare.plain.varTypes Tryz.prog ++ Tryz.f3.resultTypes.toList).any (Tryz.prog.veiledRec ·))) = true := by kernel_rfl
theorem k31 : (Rows.topThimbleCrossedRow.veiledFits Tryz.prog Tryz.f3.params.toList (Tryz.f3.params.toList ++ (OpenSpec.ofChange Rows.topThimbleCrossedSpec).bare.plain.varTypes Tryz.prog ++ Tryz.f3.resultTypes.toList)) = true := by kernel_rfl
theorem facts : joinedFacts Tryz.prog 3 Tryz.f3 (OpenSpec.ofChange Rows.topThimbleCrossedSpec).bare Rows.topThimbleCrossedRow = true := by
 unfold joinedFacts
 rw [k0, g1, g2, k3, k4, k5, g6, k7, g8, k9, k10, k11, k12, k13, k14, k15, k16, k17, k18, k19, k20, k21, k22, k23, g24, g25, k26, k27, k29, k30, k31]
 simp only [Bool.true_and, Bool.and_true]
 exact k28
theorem wrapper : Func.isWrapper Tryz.prog Tryz.f3 Rows.topThimbleCrossedRow.wrapper Rows.topThimbleCrossedRow.mainSum := by unfold Func.isWrapper; first | (rw [if_pos (by decide +kernel)]; kernel_rfl) | (rw [if_neg (by decide +kernel)]; exact ⟨rfl, rfl⟩)
theorem instance_ : Func.isInstance Tryz.prog Tryz.f3 Rows.topThimbleCrossedRow.origin Rows.topThimbleCrossedRow.targs := of_decide_eq_true (by kernel_rfl)
theorem named : Tryz.prog.funcNamed Rows.topThimbleCrossedRow.func = some 3 := by kernel_rfl
theorem byText : Rows.topThimbleCrossedRow.wfByText (OpenSpec.ofChange Rows.topThimbleCrossedSpec) = true := by kernel_rfl
end Go.Proofs.YtglpfpdomnllkaaGreatDoor.topThimbleCrossed
