/- Closed facts on the row of TopGrommetSigns. No condition. -/
import Derived.Test.YtngpopalpofhgaaGreatDoorCards
import Derived.Test.YtngpopalpofhgaaGreatDoorTie
import Derived.WalkKit
import Derived.ProofKit
import Derived.OpenShut
import Derived.Deep.DeepHandedRow
import Derived.Test.YtngpopalpofhgaaGreatDoorXz01
import Derived.Test.YtngpopalpofhgaaGreatDoorXz02
import Derived.Test.YtngpopalpofhgaaGreatDoorXz03
import Derived.Test.YtngpopalpofhgaaGreatDoorXz04
import Derived.Test.YtngpopalpofhgaaGreatDoorXz05
import Derived.Test.YtngpopalpofhgaaGreatDoorXz06
import Derived.Test.YtngpopalpofhgaaGreatDoorXz07
import Derived.Test.YtngpopalpofhgaaGreatDoorXz08
import Derived.Test.YtngpopalpofhgaaGreatDoorXz09
import Derived.Test.YtngpopalpofhgaaGreatDoorY7003

set_option linter.all false
namespace Go.Proofs.YtngpopalpofhgaaGreatDoor.topGrommetSigns
open Go.ChangeShapes Go.WideShapes Go.ChangeAt Go.RowKit
set_option maxRecDepth 100000
theorem k0 : (Rows.topGrommetSignsRow.wf (OpenSpec.ofChange (OpenSpec.ofChange Rows.topGrommetSignsSpec).bare)) = true := by kernel_rfl
theorem k3 : (Tryz.f3.params.all (Tryz.prog.readableRec ·)) = true := by kernel_rfl
theorem k4 : (namedTie Tryz.prog Rows.topGrommetSignsRow.named (OpenSpec.ofChange Rows.topGrommetSignsSpec).bare.vars) = true := by kernel_rfl
theorem k5 : ((Rows.topGrommetSignsRow.stops == [])) = true := by kernel_rfl
theorem k7 : ((Rows.topGrommetSignsRow.knobs == [])) = true := by kernel_rfl
theorem k9 : ((Rows.topGrommetSignsRow.inPlace == Tryz.prog.inPlace 3)) = true := by kernel_rfl
theorem k10 : ((Rows.topGrommetSignsRow.unfollowed == Tryz.prog.unfollowed 3)) = true := by kernel_rfl
theorem k11 : ((Rows.topGrommetSignsRow.recurses == Tryz.prog.recurses 3)) = true := by kernel_rfl
theorem k12 : ((Rows.topGrommetSignsRow.named == Tryz.prog.varsNamed 3)) = true := by kernel_rfl
theorem k13 : ((Rows.topGrommetSignsRow.maps == (Tryz.f3.params.toList ++ (OpenSpec.ofChange Rows.topGrommetSignsSpec).bare.plain.varTypes Tryz.prog).any (Tryz.prog.mapsRec ·))) = true := by kernel_rfl
theorem k14 : ((Rows.topGrommetSignsRow.ifaces == (Tryz.f3.params.toList ++ (OpenSpec.ofChange Rows.topGrommetSignsSpec).bare.plain.varTypes Tryz.prog).any (Tryz.prog.ifacesRec ·))) = true := by kernel_rfl
theorem k15 : ((Rows.topGrommetSignsRow.mapsOut == Tryz.prog.mapsAmong Tryz.f3.resultTypes.toList)) = true := by kernel_rfl
theorem k16 : ((Rows.topGrommetSignsRow.loops == (Tryz.f3.params.toList ++ (OpenSpec.ofChange Rows.topGrommetSignsSpec).bare.plain.varTypes Tryz.prog).any (Tryz.prog.loopsFrom ·))) = true := by kernel_rfl
theorem k17 : ((Rows.topGrommetSignsRow.wideKeys == (Tryz.f3.params.toList ++ (OpenSpec.ofChange Rows.topGrommetSignsSpec).bare.plain.varTypes Tryz.prog ++ Tryz.f3.resultTypes.toList).any (Tryz.prog.wideKeysFrom ·))) = true := by kernel_rfl
theorem k18 : ((OpenSpec.ofChange Rows.topGrommetSignsSpec).bare.vars.all (Tryz.prog.varReadable ·)) = true := by kernel_rfl
theorem k19 : (Tryz.f3.resultTypes.all (fun t => Tryz.prog.readableRec t && decide (t < Tryz.prog.types.size))) = true := by kernel_rfl
theorem k20 : ((Rows.topGrommetSignsRow.ifacesOut == Tryz.f3.resultTypes.toList.any (Tryz.prog.ifacesRec ·))) = true := by kernel_rfl
theorem k21 : ((Rows.topGrommetSignsRow.loopsOut == Tryz.f3.resultTypes.toList.any (Tryz.prog.loopsFrom ·))) = true := by kernel_rfl
theorem k22 : ((Rows.topGrommetSignsRow.plainKeys == Tryz.prog.plainKeys)) = true := by kernel_rfl
theorem k23 : (Rows.topGrommetSignsRow.shortTexts.isNone) = true := by kernel_rfl
theorem k26 : ((Rows.topGrommetSignsRow.lifted == Tryz.prog.liftsFinal)) = true := by kernel_rfl
theorem k27 : ((Tryz.prog.make == some Rows.topGrommetSignsRow.make)) = true := by kernel_rfl
theorem k28 : ((Rows.topGrommetSignsRow.kinds == (if Rows.topGrommetSignsRow.domain.isEmpty then [] else Tryz.f3.params.toList.map fun t => match Tryz.prog.underlying t with | some (.int k) => some k | _ => none))) = true := by kernel_rfl
theorem k29 : ((Rows.topGrommetSignsRow.pinned == Rows.topGrommetSignsRow.pinnedBy)) = true := by kernel_rfl
theorem k30 : ((Rows.topGrommetSignsRow.veiled == (Tryz.f3.params.toList ++ (OpenSpec.ofChange Rows.topGrommetSignsSpec).bare.plain.varTypes Tryz.prog ++ Tryz.f3.resultTypes.toList).any (Tryz.prog.veiledRec ·))) = true := by kernel_rfl
theorem k31 : (Rows.topGrommetSignsRow.veiledFits Tryz.prog Tryz.f3.params.toList (Tryz.f3.params.toList ++ (OpenSpec.ofChange Rows.topGrommetSignsSpec).bare.plain.varTypes Tryz.prog ++ Tryz.f3.resultTypes.toList)) = true := by kernel_rfl
theorem facts : joinedFacts Tryz.prog 3 Tryz.f3 (OpenSpec.ofChange Rows.topGrommetSignsSpec).bare Rows.topGrommetSignsRow = true := by
 unfold joinedFacts
 rw [k0, g1, g2, k3, k4, k5, g6, k7, g8, k9, k10, k11, k12, k13, k14, k15, k16, k17, k18, k19, k20, k21, k22, k23, g24, g25, k26, k27, k29, k30, k31]
 simp only [Bool.true_and, Bool.and_true]
 exact k28
theorem wrapper : Func.isWrapper Tryz.prog Tryz.f3 Rows.topGrommetSignsRow.wrapper Rows.topGrommetSignsRow.mainSum := by unfold Func.isWrapper; first | (rw [if_pos (by decide +kernel)]; kernel_rfl) | (rw [if_neg (by decide +kernel)]; exact ⟨rfl, rfl⟩)
theorem instance_ : Func.isInstance Tryz.prog Tryz.f3 Rows.topGrommetSignsRow.origin Rows.topGrommetSignsRow.targs := of_decide_eq_true (by kernel_rfl)
theorem named : Tryz.prog.funcNamed Rows.topGrommetSignsRow.func = some 3 := by kernel_rfl
theorem byText : Rows.topGrommetSignsRow.wfByText (OpenSpec.ofChange Rows.topGrommetSignsSpec) = true := by kernel_rfl
end Go.Proofs.YtngpopalpofhgaaGreatDoor.topGrommetSigns
