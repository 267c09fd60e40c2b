/- Closed facts on the row of TopGrommetBack. No condition. -/
import Derived.Test.YtngpopalpofhgaaGreatDoorCards
import Derived.Test.YtngpopalpofhgaaGreatDoorTie
import Derived.WalkKit
import Derived.ProofKit
import Derived.OpenShut
import Derived.Deep.DeepHandedRow
import Derived.Test.YtngpopalpofhgaaGreatDoorXz01
import Derived.Test.YtngpopalpofhgaaGreatDoorXz02
import Derived.Test.YtngpopalpofhgaaGreatDoorXz03
import Derived.Test.YtngpopalpofhgaaGreatDoorXz04
import Derived.Test.YtngpopalpofhgaaGreatDoorXz05
import Derived.Test.YtngpopalpofhgaaGreatDoorXz06
import Derived.Test.YtngpopalpofhgaaGreatDoorXz07
import Derived.Test.YtngpopalpofhgaaGreatDoorXz08
import Derived.Test.YtngpopalpofhgaaGreatDoorXz09
import Derived.Test.YtngpopalpofhgaaGreatDoorY7201

set_option linter.all false
namespace Go.Proofs.YtngpopalpofhgaaGreatDoor.topGrommetBack
open Go.ChangeShapes Go.WideShapes Go.ChangeAt Go.RowKit
set_option maxRecDepth 100000
theorem k0 : (Rows.topGrommetBackRow.wf (OpenSpec.ofChange (OpenSpec.ofChange Rows.topGrommetBackSpec).bare)) = true := by kernel_rfl
theorem k3 : (Tryz.f4.params.all (Tryz.prog.readableRec ·)) = true := by kernel_rfl
theorem k4 : (namedTie Tryz.prog Rows.topGrommetBackRow.named (OpenSpec.ofChange Rows.topGrommetBackSpec).bare.vars) = true := by kernel_rfl
theorem k5 : ((Rows.topGrommetBackRow.stops == [])) = true := by kernel_rfl
theorem k7 : ((Rows.topGrommetBackRow.knobs == [])) = true := by kernel_rfl
theorem k9 : ((Rows.topGrommetBackRow.inPlace == Tryz.prog.inPlace 4)) = true := by kernel_rfl
theorem k10 : ((Rows.topGrommetBackRow.unfollowed == Tryz.prog.unfollowed 4)) = true := by kernel_rfl
theorem k11 : ((Rows.topGrommetBackRow.recurses == Tryz.prog.recurses 4)) = true := by kernel_rfl
theorem k12 : ((Rows.topGrommetBackRow.named == Tryz.prog.varsNamed 4)) = true := by kernel_rfl
theorem k13 : ((Rows.topGrommetBackRow.maps == (Tryz.f4.params.toList ++ (OpenSpec.ofChange Rows.topGrommetBackSpec).bare.plain.varTypes Tryz.prog).any (Tryz.prog.mapsRec ·))) = true := by kernel_rfl
theorem k14 : ((Rows.topGrommetBackRow.ifaces == (Tryz.f4.params.toList ++ (OpenSpec.ofChange Rows.topGrommetBackSpec).bare.plain.varTypes Tryz.prog).any (Tryz.prog.ifacesRec ·))) = true := by kernel_rfl
theorem k15 : ((Rows.topGrommetBackRow.mapsOut == Tryz.prog.mapsAmong Tryz.f4.resultTypes.toList)) = true := by kernel_rfl
theorem k16 : ((Rows.topGrommetBackRow.loops == (Tryz.f4.params.toList ++ (OpenSpec.ofChange Rows.topGrommetBackSpec).bare.plain.varTypes Tryz.prog).any (Tryz.prog.loopsFrom ·))) = true := by kernel_rfl
theorem k17 : ((Rows.topGrommetBackRow.wideKeys == (Tryz.f4.params.toList ++ (OpenSpec.ofChange Rows.topGrommetBackSpec).bare.plain.varTypes Tryz.prog ++ Tryz.f4.resultTypes.toList).any (Tryz.prog.wideKeysFrom ·))) = true := by kernel_rfl
theorem k18 : ((OpenSpec.ofChange Rows.topGrommetBackSpec).bare.vars.all (Tryz.prog.varReadable ·)) = true := by kernel_rfl
theorem k19 : (Tryz.f4.resultTypes.all (fun t => Tryz.prog.readableRec t && decide (t < Tryz.prog.types.size))) = true := by kernel_rfl
theorem k20 : ((Rows.topGrommetBackRow.ifacesOut == Tryz.f4.resultTypes.toList.any (Tryz.prog.ifacesRec ·))) = true := by kernel_rfl
theorem k21 : ((Rows.topGrommetBackRow.loopsOut == Tryz.f4.resultTypes.toList.any (Tryz.prog.loopsFrom ·))) = true := by kernel_rfl
theorem k22 : ((Rows.topGrommetBackRow.plainKeys == Tryz.prog.plainKeys)) = true := by kernel_rfl
theorem k23 : (Rows.topGrommetBackRow.shortTexts.isNone) = true := by kernel_rfl
theorem k26 : ((Rows.topGrommetBackRow.lifted == Tryz.prog.liftsFinal)) = true := by kernel_rfl
theorem k27 : ((Tryz.prog.make == some Rows.topGrommetBackRow.make)) = true := by kernel_rfl
theorem k28 : ((Rows.topGrommetBackRow.kinds == (if Rows.topGrommetBackRow.domain.isEmpty then [] else Tryz.f4.params.toList.map fun t => match Tryz.prog.underlying t with | some (.int k) => some k | _ => none))) = true := by kernel_rfl
theorem k29 : ((Rows.topGrommetBackRow.pinned == Rows.topGrommetBackRow.pinnedBy)) = true := by kernel_rfl
theorem k30 : ((Rows.topGrommetBackRow.veiled == (Tryz.f4.params.toList ++ (OpenSpec.ofChange Rows.topGrommetBackSpec).bare.plain.varTypes Tryz.prog ++ Tryz.f4.resultTypes.toList).any (Tryz.prog.veiledRec ·))) = true := by kernel_rfl
theorem k31 : (Rows.topGrommetBackRow.veiledFits Tryz.prog Tryz.f4.params.toList (Tryz.f4.params.toList ++ (OpenSpec.ofChange Rows.topGrommetBackSpec).bare.plain.varTypes Tryz.prog ++ Tryz.f4.resultTypes.toList)) = true := by kernel_rfl
theorem facts : joinedFacts Tryz.prog 4 Tryz.f4 (OpenSpec.ofChange Rows.topGrommetBackSpec).bare Rows.topGrommetBackRow = true := by
 unfold joinedFacts
 rw [k0, g1, g2, k3, k4, k5, g6, k7, g8, k9, k10, k11, k12, k13, k14, k15, k16, k17, k18, k19, k20, k21, k22, k23, g24, g25, k26, k27, k29, k30, k31]
 simp only [Bool.true_and, Bool.and_true]
 exact k28
theorem wrapper : Func.isWrapper Tryz.prog Tryz.f4 Rows.topGrommetBackRow.wrapper Rows.topGrommetBackRow.mainSum := by unfold Func.isWrapper; first | (rw [if_pos (by decide +kernel)]; kernel_rfl) | (rw [if_neg (by decide +kernel)]; exact ⟨rfl, rfl⟩)
theorem instance_ : Func.isInstance Tryz.prog Tryz.f4 Rows.topGrommetBackRow.origin Rows.topGrommetBackRow.targs := of_decide_eq_true (by kernel_rfl)
theorem named : Tryz.prog.funcNamed Rows.topGrommetBackRow.func = some 4 := by kernel_rfl
theorem byText : Rows.topGrommetBackRow.wfByText (OpenSpec.ofChange Rows.topGrommetBackSpec) = true := by kernel_rfl
end Go.Proofs.YtngpopalpofhgaaGreatDoor.topGrommetBack
