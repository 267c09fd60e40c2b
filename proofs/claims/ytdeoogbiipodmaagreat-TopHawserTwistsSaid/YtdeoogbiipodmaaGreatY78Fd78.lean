/- Closed facts on the row of TopHawserTwists. No condition. -/
import Derived.Test.YtdeoogbiipodmaaGreatRows
import Derived.Test.YtdeoogbiipodmaaGreatChecked
import Derived.WalkKit
import Derived.ProofKit
import Derived.OpenShut
import Derived.Deep.DeepHandedRow
import Derived.Test.YtdeoogbiipodmaaGreatXz01
import Derived.Test.YtdeoogbiipodmaaGreatXz02
import Derived.Test.YtdeoogbiipodmaaGreatXz03
import Derived.Test.YtdeoogbiipodmaaGreatXz04
import Derived.Test.YtdeoogbiipodmaaGreatXz05
import Derived.Test.YtdeoogbiipodmaaGreatXz06
import Derived.Test.YtdeoogbiipodmaaGreatXz07
import Derived.Test.YtdeoogbiipodmaaGreatXz08
import Derived.Test.YtdeoogbiipodmaaGreatXz09
import Derived.Test.YtdeoogbiipodmaaGreatXz10
import Derived.Test.YtdeoogbiipodmaaGreatY7803

set_option linter.all false
namespace Go.Proofs.YtdeoogbiipodmaaGreat.topHawserTwists
open Go.ChangeShapes Go.WideShapes Go.ChangeAt Go.RowKit
set_option maxRecDepth 100000
theorem k0 : (Rows.topHawserTwistsRow.wf (OpenSpec.ofChange (OpenSpec.ofChange Rows.topHawserTwistsSpec).bare)) = true := by kernel_rfl
theorem k3 : (Tryz.f3.params.all (Tryz.prog.readableRec ·)) = true := by kernel_rfl
theorem k4 : (namedTie Tryz.prog Rows.topHawserTwistsRow.named (OpenSpec.ofChange Rows.topHawserTwistsSpec).bare.vars) = true := by kernel_rfl
theorem k5 : ((Rows.topHawserTwistsRow.stops == [])) = true := by kernel_rfl
theorem k7 : ((Rows.topHawserTwistsRow.knobs == [])) = true := by kernel_rfl
theorem k9 : ((Rows.topHawserTwistsRow.inPlace == Tryz.prog.inPlace 3)) = true := by kernel_rfl
theorem k10 : ((Rows.topHawserTwistsRow.unfollowed == Tryz.prog.unfollowed 3)) = true := by kernel_rfl
theorem k11 : ((Rows.topHawserTwistsRow.recurses == Tryz.prog.recurses 3)) = true := by kernel_rfl
theorem k12 : ((Rows.topHawserTwistsRow.named == Tryz.prog.varsNamed 3)) = true := by kernel_rfl
theorem k13 : ((Rows.topHawserTwistsRow.maps == (Tryz.f3.params.toList ++ (OpenSpec.ofChange Rows.topHawserTwistsSpec).bare.plain.varTypes Tryz.prog).any (Tryz.prog.mapsRec ·))) = true := by kernel_rfl
theorem k14 : ((Rows.topHawserTwistsRow.ifaces == (Tryz.f3.params.toList ++ (OpenSpec.ofChange Rows.topHawserTwistsSpec).bare.plain.varTypes Tryz.prog).any (Tryz.prog.ifacesRec ·))) = true := by kernel_rfl
theorem k15 : ((Rows.topHawserTwistsRow.mapsOut == Tryz.prog.mapsAmong Tryz.f3.resultTypes.toList)) = true := by kernel_rfl
theorem k16 : ((Rows.topHawserTwistsRow.loops == (Tryz.f3.params.toList ++ (OpenSpec.ofChange Rows.topHawserTwistsSpec).bare.plain.varTypes Tryz.prog).any (Tryz.prog.loopsFrom ·))) = true := by kernel_rfl
theorem k17 : ((Rows.topHawserTwistsRow.wideKeys == (Tryz.f3.params.toList ++ (OpenSpec.ofChange Rows.topHawserTwistsSpec).bare.plain.varTypes Tryz.prog ++ Tryz.f3.resultTypes.toList).any (Tryz.prog.wideKeysFrom ·))) = true := by kernel_rfl
theorem k18 : ((OpenSpec.ofChange Rows.topHawserTwistsSpec).bare.vars.all (Tryz.prog.varReadable ·)) = true := by kernel_rfl
theorem k19 : (Tryz.f3.resultTypes.all (fun t => Tryz.prog.readableRec t && decide (t < Tryz.prog.types.size))) = true := by kernel_rfl
theorem k20 : ((Rows.topHawserTwistsRow.ifacesOut == Tryz.f3.resultTypes.toList.any (Tryz.prog.ifacesRec ·))) = true := by kernel_rfl
theorem k21 : ((Rows.topHawserTwistsRow.loopsOut == Tryz.f3.resultTypes.toList.any (Tryz.prog.loopsFrom ·))) = true := by kernel_rfl
theorem k22 : ((Rows.topHawserTwistsRow.plainKeys == Tryz.prog.plainKeys)) = true := by kernel_rfl
theorem k23 : (Rows.topHawserTwistsRow.shortTexts.isNone) = true := by kernel_rfl
theorem k26 : ((Rows.topHawserTwistsRow.lifted == Tryz.prog.liftsFinal)) = true := by kernel_rfl
theorem k27 : ((Tryz.prog.make == some Rows.topHawserTwistsRow.make)) = true := by kernel_rfl
theorem k28 : ((Rows.topHawserTwistsRow.kinds == (if Rows.topHawserTwistsRow.domain.isEmpty then [] else Tryz.f3.params.toList.map fun t => match Tryz.prog.underlying t with | some (.int k) => some k | _ => none))) = true := by kernel_rfl
theorem k29 : ((Rows.topHawserTwistsRow.pinned == Rows.topHawserTwistsRow.pinnedBy)) = true := by kernel_rfl
theorem k30 : ((Rows.topHawserTwistsRow.veiled == (Tryz.f3.params.toList ++ (OpenSpec.ofChange Rows.topHawserTwistsSpec).bare.plain.varTypes Tryz.prog ++ Tryz.f3.resultTypes.toList).any (Tryz.prog.veiledRec ·))) = true := by kernel_rfl
theorem k31 : (Rows.topHawserTwistsRow.veiledFits Tryz.prog Tryz.f3.params.toList (Tryz.f3.params.toList ++ (OpenSpec.ofChange Rows.topHawserTwistsSpec).bare.plain.varTypes Tryz.prog ++ Tryz.f3.resultTypes.toList)) = true := by kernel_rfl
theorem facts : joinedFacts Tryz.prog 3 Tryz.f3 (OpenSpec.ofChange Rows.topHawserTwistsSpec).bare Rows.topHawserTwistsRow = true := by
 unfold joinedFacts
 rw [k0, g1, g2, k3, k4, k5, g6, k7, g8, k9, k10, k11, k12, k13, k14, k15, k16, k17, k18, k19, k20, k21, k22, k23, g24, g25, k26, k27, k29, k30, k31]
 simp only [Bool.true_and, Bool.and_true]
 exact k28
theorem wrapper : Func.isWrapper Tryz.prog Tryz.f3 Rows.topHawserTwistsRow.wrapper Rows.topHawserTwistsRow.mainSum := by unfold Func.isWrapper; first | (rw [if_pos (by decide +kernel)]; kernel_rfl) | (rw [if_neg (by decide +kernel)]; exact ⟨rfl, rfl⟩)
theorem instance_ : Func.isInstance Tryz.prog Tryz.f3 Rows.topHawserTwistsRow.origin Rows.topHawserTwistsRow.targs := of_decide_eq_true (by kernel_rfl)
theorem named : Tryz.prog.funcNamed Rows.topHawserTwistsRow.func = some 3 := by kernel_rfl
end Go.Proofs.YtdeoogbiipodmaaGreat.topHawserTwists
