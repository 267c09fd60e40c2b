/- Closed facts on the row of TopGrommetMats. No condition. -/
import Derived.Test.YtngpopalpofhgaaGreatDoorCards
import Derived.Test.YtngpopalpofhgaaGreatDoorTie
import Derived.WalkKit
import Derived.ProofKit
import Derived.OpenShut
import Derived.Deep.DeepHandedRow
import Derived.Test.YtngpopalpofhgaaGreatDoorXz01
import Derived.Test.YtngpopalpofhgaaGreatDoorXz02
import Derived.Test.YtngpopalpofhgaaGreatDoorXz03
import Derived.Test.YtngpopalpofhgaaGreatDoorXz04
import Derived.Test.YtngpopalpofhgaaGreatDoorXz05
import Derived.Test.YtngpopalpofhgaaGreatDoorXz06
import Derived.Test.YtngpopalpofhgaaGreatDoorXz07
import Derived.Test.YtngpopalpofhgaaGreatDoorXz08
import Derived.Test.YtngpopalpofhgaaGreatDoorXz09
import Derived.Test.YtngpopalpofhgaaGreatDoorY7102

set_option linter.all false
namespace Go.Proofs.YtngpopalpofhgaaGreatDoor.topGrommetMats
open Go.ChangeShapes Go.WideShapes Go.ChangeAt Go.RowKit
set_option maxRecDepth 100000
theorem k0 : (Rows.topGrommetMatsRow.wf (OpenSpec.ofChange (OpenSpec.ofChange Rows.topGrommetMatsSpec).bare)) = true := by kernel_rfl
theorem k3 : (Tryz.f6.params.all (Tryz.prog.readableRec ·)) = true := by kernel_rfl
theorem k4 : (namedTie Tryz.prog Rows.topGrommetMatsRow.named (OpenSpec.ofChange Rows.topGrommetMatsSpec).bare.vars) = true := by kernel_rfl
theorem k5 : ((Rows.topGrommetMatsRow.stops == [])) = true := by kernel_rfl
theorem k7 : ((Rows.topGrommetMatsRow.knobs == [])) = true := by kernel_rfl
theorem k9 : ((Rows.topGrommetMatsRow.inPlace == Tryz.prog.inPlace 6)) = true := by kernel_rfl
theorem k10 : ((Rows.topGrommetMatsRow.unfollowed == Tryz.prog.unfollowed 6)) = true := by kernel_rfl
theorem k11 : ((Rows.topGrommetMatsRow.recurses == Tryz.prog.recurses 6)) = true := by kernel_rfl
theorem k12 : ((Rows.topGrommetMatsRow.named == Tryz.prog.varsNamed 6)) = true := by kernel_rfl
theorem k13 : ((Rows.topGrommetMatsRow.maps == (Tryz.f6.params.toList ++ (OpenSpec.ofChange Rows.topGrommetMatsSpec).bare.plain.varTypes Tryz.prog).any (Tryz.prog.mapsRec ·))) = true := by kernel_rfl
theorem k14 : ((Rows.topGrommetMatsRow.ifaces == (Tryz.f6.params.toList ++ (OpenSpec.ofChange Rows.topGrommetMatsSpec).bare.plain.varTypes Tryz.prog).any (Tryz.prog.ifacesRec ·))) = true := by kernel_rfl
theorem k15 : ((Rows.topGrommetMatsRow.mapsOut == Tryz.prog.mapsAmong Tryz.f6.resultTypes.toList)) = true := by kernel_rfl
theorem k16 : ((Rows.topGrommetMatsRow.loops == (Tryz.f6.params.toList ++ (OpenSpec.ofChange Rows.topGrommetMatsSpec).bare.plain.varTypes Tryz.prog).any (Tryz.prog.loopsFrom ·))) = true := by kernel_rfl
theorem k17 : ((Rows.topGrommetMatsRow.wideKeys == (Tryz.f6.params.toList ++ (OpenSpec.ofChange Rows.topGrommetMatsSpec).bare.plain.varTypes Tryz.prog ++ Tryz.f6.resultTypes.toList).any (Tryz.prog.wideKeysFrom ·))) = true := by kernel_rfl
theorem k18 : ((OpenSpec.ofChange Rows.topGrommetMatsSpec).bare.vars.all (Tryz.prog.varReadable ·)) = true := by kernel_rfl
theorem k19 : (Tryz.f6.resultTypes.all (fun t => Tryz.prog.readableRec t && decide (t < Tryz.prog.types.size))) = true := by kernel_rfl
theorem k20 : ((Rows.topGrommetMatsRow.ifacesOut == Tryz.f6.resultTypes.toList.any (Tryz.prog.ifacesRec ·))) = true := by kernel_rfl
theorem k21 : ((Rows.topGrommetMatsRow.loopsOut == Tryz.f6.resultTypes.toList.any (Tryz.prog.loopsFrom ·))) = true := by kernel_rfl
theorem k22 : ((Rows.topGrommetMatsRow.plainKeys == Tryz.prog.plainKeys)) = true := by kernel_rfl
theorem k23 : (Rows.topGrommetMatsRow.shortTexts.isNone) = true := by kernel_rfl
theorem k26 : ((Rows.topGrommetMatsRow.lifted == Tryz.prog.liftsFinal)) = true := by kernel_rfl
theorem k27 : ((Tryz.prog.make == some Rows.topGrommetMatsRow.make)) = true := by kernel_rfl
theorem k28 : ((Rows.topGrommetMatsRow.kinds == (if Rows.topGrommetMatsRow.domain.isEmpty then [] else Tryz.f6.params.toList.map fun t => match Tryz.prog.underlying t with | some (.int k) => some k | _ => none))) = true := by kernel_rfl
theorem k29 : ((Rows.topGrommetMatsRow.pinned == Rows.topGrommetMatsRow.pinnedBy)) = true := by kernel_rfl
theorem k30 : ((Rows.topGrommetMatsRow.veiled == (Tryz.f6.params.toList ++ (OpenSpec.ofChange Rows.topGrommetMatsSpec).bare.plain.varTypes Tryz.prog ++ Tryz.f6.resultTypes.toList).any (Tryz.prog.veiledRec ·))) = true := by kernel_rfl
theorem k31 : (Rows.topGrommetMatsRow.veiledFits Tryz.prog Tryz.f6.params.toList (Tryz.f6.params.toList ++ (OpenSpec.ofChange Rows.topGrommetMatsSpec).bare.plain.varTypes Tryz.prog ++ Tryz.f6.resultTypes.toList)) = true := by kernel_rfl
theorem facts : joinedFacts Tryz.prog 6 Tryz.f6 (OpenSpec.ofChange Rows.topGrommetMatsSpec).bare Rows.topGrommetMatsRow = true := by
 unfold joinedFacts
 rw [k0, g1, g2, k3, k4, k5, g6, k7, g8, k9, k10, k11, k12, k13, k14, k15, k16, k17, k18, k19, k20, k21, k22, k23, g24, g25, k26, k27, k29, k30, k31]
 simp only [Bool.true_and, Bool.and_true]
 exact k28
theorem wrapper : Func.isWrapper Tryz.prog Tryz.f6 Rows.topGrommetMatsRow.wrapper Rows.topGrommetMatsRow.mainSum := by unfold Func.isWrapper; first | (rw [if_pos (by decide +kernel)]; kernel_rfl) | (rw [if_neg (by decide +kernel)]; exact ⟨rfl, rfl⟩)
theorem instance_ : Func.isInstance Tryz.prog Tryz.f6 Rows.topGrommetMatsRow.origin Rows.topGrommetMatsRow.targs := of_decide_eq_true (by kernel_rfl)
theorem named : Tryz.prog.funcNamed Rows.topGrommetMatsRow.func = some 6 := by kernel_rfl
theorem byText : Rows.topGrommetMatsRow.wfByText (OpenSpec.ofChange Rows.topGrommetMatsSpec) = true := by kernel_rfl
end Go.Proofs.YtngpopalpofhgaaGreatDoor.topGrommetMats
