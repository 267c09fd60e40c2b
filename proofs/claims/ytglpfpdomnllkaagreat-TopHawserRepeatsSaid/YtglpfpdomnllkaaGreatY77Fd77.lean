/- Closed facts on the row of TopHawserRepeats. No condition. -/
import Derived.Test.YtglpfpdomnllkaaGreatRows
import Derived.Test.YtglpfpdomnllkaaGreatChecked
import Derived.WalkKit
import Derived.ProofKit
import Derived.OpenShut
import Derived.Deep.DeepHandedRow
import Derived.Test.YtglpfpdomnllkaaGreatXz01
import Derived.Test.YtglpfpdomnllkaaGreatXz02
import Derived.Test.YtglpfpdomnllkaaGreatXz03
import Derived.Test.YtglpfpdomnllkaaGreatXz04
import Derived.Test.YtglpfpdomnllkaaGreatXz05
import Derived.Test.YtglpfpdomnllkaaGreatXz06
import Derived.Test.YtglpfpdomnllkaaGreatXz07
import Derived.Test.YtglpfpdomnllkaaGreatXz08
import Derived.Test.YtglpfpdomnllkaaGreatXz09
import Derived.Test.YtglpfpdomnllkaaGreatXz10
import Derived.Test.YtglpfpdomnllkaaGreatXz11
import Derived.Test.YtglpfpdomnllkaaGreatXz12
import Derived.Test.YtglpfpdomnllkaaGreatY7703

set_option linter.all false
namespace Go.Proofs.YtglpfpdomnllkaaGreat.topHawserRepeats
open Go.ChangeShapes Go.WideShapes Go.ChangeAt Go.RowKit
set_option maxRecDepth 100000
theorem k0 : (Rows.topHawserRepeatsRow.wf (OpenSpec.ofChange (OpenSpec.ofChange Rows.topHawserRepeatsSpec).bare)) = true := by kernel_rfl
theorem k3 : (Tryz.f5.params.all (Tryz.prog.readableRec ·)) = true := by kernel_rfl
theorem k4 : (namedTie Tryz.prog Rows.topHawserRepeatsRow.named (OpenSpec.ofChange Rows.topHawserRepeatsSpec).bare.vars) = true := by kernel_rfl
theorem k5 : ((Rows.topHawserRepeatsRow.stops == [])) = true := by kernel_rfl
theorem k7 : ((Rows.topHawserRepeatsRow.knobs == [])) = true := by kernel_rfl
theorem k9 : ((Rows.topHawserRepeatsRow.inPlace == Tryz.prog.inPlace 5)) = true := by kernel_rfl
theorem k10 : ((Rows.topHawserRepeatsRow.unfollowed == Tryz.prog.unfollowed 5)) = true := by kernel_rfl
theorem k11 : ((Rows.topHawserRepeatsRow.recurses == Tryz.prog.recurses 5)) = true := by kernel_rfl
theorem k12 : ((Rows.topHawserRepeatsRow.named == Tryz.prog.varsNamed 5)) = true := by kernel_rfl
theorem k13 : ((Rows.topHawserRepeatsRow.maps == (Tryz.f5.params.toList ++ (OpenSpec.ofChange Rows.topHawserRepeatsSpec).bare.plain.varTypes Tryz.prog).any (Tryz.prog.mapsRec ·))) = true := by kernel_rfl
theorem k14 : ((Rows.topHawserRepeatsRow.ifaces == (Tryz.f5.params.toList ++ (OpenSpec.ofChange Rows.topHawserRepeatsSpec).bare.plain.varTypes Tryz.prog).any (Tryz.prog.ifacesRec ·))) = true := by kernel_rfl
theorem k15 : ((Rows.topHawserRepeatsRow.mapsOut == Tryz.prog.mapsAmong Tryz.f5.resultTypes.toList)) = true := by kernel_rfl
theorem k16 : ((Rows.topHawserRepeatsRow.loops == (Tryz.f5.params.toList ++ (OpenSpec.ofChange Rows.topHawserRepeatsSpec).bare.plain.varTypes Tryz.prog).any (Tryz.prog.loopsFrom ·))) = true := by kernel_rfl
theorem k17 : ((Rows.topHawserRepeatsRow.wideKeys == (Tryz.f5.params.toList ++ (OpenSpec.ofChange Rows.topHawserRepeatsSpec).bare.plain.varTypes Tryz.prog ++ Tryz.f5.resultTypes.toList).any (Tryz.prog.wideKeysFrom ·))) = true := by kernel_rfl
theorem k18 : ((OpenSpec.ofChange Rows.topHawserRepeatsSpec).bare.vars.all (Tryz.prog.varReadable ·)) = true := by kernel_rfl
theorem k19 : (Tryz.f5.resultTypes.all (fun t => Tryz.prog.readableRec t && decide (t < Tryz.prog.types.size))) = true := by kernel_rfl
theorem k20 : ((Rows.topHawserRepeatsRow.ifacesOut == Tryz.f5.resultTypes.toList.any (Tryz.prog.ifacesRec ·))) = true := by kernel_rfl
theorem k21 : ((Rows.topHawserRepeatsRow.loopsOut == Tryz.f5.resultTypes.toList.any (Tryz.prog.loopsFrom ·))) = true := by kernel_rfl
theorem k22 : ((Rows.topHawserRepeatsRow.plainKeys == Tryz.prog.plainKeys)) = true := by kernel_rfl
theorem k23 : (Rows.topHawserRepeatsRow.shortTexts.isNone) = true := by kernel_rfl
theorem k26 : ((Rows.topHawserRepeatsRow.lifted == Tryz.prog.liftsFinal)) = true := by kernel_rfl
theorem k27 : ((Tryz.prog.make == some Rows.topHawserRepeatsRow.make)) = true := by kernel_rfl
theorem k28 : ((Rows.topHawserRepeatsRow.kinds == (if Rows.topHawserRepeatsRow.domain.isEmpty then [] else Tryz.f5.params.toList.map fun t => match Tryz.prog.underlying t with | some (.int k) => some k | _ => none))) = true := by kernel_rfl
theorem k29 : ((Rows.topHawserRepeatsRow.pinned == Rows.topHawserRepeatsRow.pinnedBy)) = true := by kernel_rfl
theorem k30 : ((Rows.topHawserRepeatsRow.veiled == (Tryz.f5.params.toList ++ (OpenSpec.ofChange Rows.topHawserRepeatsSpec).bare.plain.varTypes Tryz.prog ++ Tryz.f5.resultTypes.toList).any (Tryz.prog.veiledRec ·))) = true := by kernel_rfl
theorem k31 : (Rows.topHawserRepeatsRow.veiledFits Tryz.prog Tryz.f5.params.toList (Tryz.f5.params.toList ++ (OpenSpec.ofChange Rows.topHawserRepeatsSpec).bare.plain.varTypes Tryz.prog ++ Tryz.f5.resultTypes.toList)) = true := by kernel_rfl
theorem facts : joinedFacts Tryz.prog 5 Tryz.f5 (OpenSpec.ofChange Rows.topHawserRepeatsSpec).bare Rows.topHawserRepeatsRow = true := by
 unfold joinedFacts
 rw [k0, g1, g2, k3, k4, k5, g6, k7, g8, k9, k10, k11, k12, k13, k14, k15, k16, k17, k18, k19, k20, k21, k22, k23, g24, g25, k26, k27, k29, k30, k31]
 simp only [Bool.true_and, Bool.and_true]
 exact k28
theorem wrapper : Func.isWrapper Tryz.prog Tryz.f5 Rows.topHawserRepeatsRow.wrapper Rows.topHawserRepeatsRow.mainSum := by unfold Func.isWrapper; first | (rw [if_pos (by decide +kernel)]; kernel_rfl) | (rw [if_neg (by decide +kernel)]; exact ⟨rfl, rfl⟩)
theorem instance_ : Func.isInstance Tryz.prog Tryz.f5 Rows.topHawserRepeatsRow.origin Rows.topHawserRepeatsRow.targs := of_decide_eq_true (by kernel_rfl)
theorem named : Tryz.prog.funcNamed Rows.topHawserRepeatsRow.func = some 5 := by kernel_rfl
end Go.Proofs.YtglpfpdomnllkaaGreat.topHawserRepeats
