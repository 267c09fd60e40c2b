/- Closed facts on the row of MachineMeets. No condition. -/
import Derived.Test.YtndmeaoidihikaaGreatDoorCards
import Derived.Test.YtndmeaoidihikaaGreatDoorTie
import Derived.WalkKit
import Derived.ProofKit
import Derived.OpenShut
import Derived.Deep.DeepHandedRow
import Derived.Test.YtndmeaoidihikaaGreatDoorXz01
import Derived.Test.YtndmeaoidihikaaGreatDoorXz02
import Derived.Test.YtndmeaoidihikaaGreatDoorXz03
import Derived.Test.YtndmeaoidihikaaGreatDoorXz04
import Derived.Test.YtndmeaoidihikaaGreatDoorXz05
import Derived.Test.YtndmeaoidihikaaGreatDoorXz06
import Derived.Test.YtndmeaoidihikaaGreatDoorXz07
import Derived.Test.YtndmeaoidihikaaGreatDoorXz08
import Derived.Test.YtndmeaoidihikaaGreatDoorXz09
import Derived.Test.YtndmeaoidihikaaGreatDoorXz10
import Derived.Test.YtndmeaoidihikaaGreatDoorXz11
import Derived.Test.YtndmeaoidihikaaGreatDoorXz12
import Derived.Test.YtndmeaoidihikaaGreatDoorY4701

set_option linter.all false
namespace Go.Proofs.YtndmeaoidihikaaGreatDoor.machineMeets
open Go.ChangeShapes Go.WideShapes Go.ChangeAt Go.RowKit
set_option maxRecDepth 100000
theorem k0 : (Rows.machineMeetsRow.wf (OpenSpec.ofChange (OpenSpec.ofChange Rows.machineMeetsSpec).bare)) = true := by kernel_rfl
theorem k3 : (Tryz.f4.params.all (Tryz.prog.readableRec ·)) = true := by kernel_rfl
theorem k4 : (namedTie Tryz.prog Rows.machineMeetsRow.named (OpenSpec.ofChange Rows.machineMeetsSpec).bare.vars) = true := by kernel_rfl
theorem k5 : ((Rows.machineMeetsRow.stops == [])) = true := by kernel_rfl
theorem k7 : ((Rows.machineMeetsRow.knobs == [])) = true := by kernel_rfl
theorem k9 : ((Rows.machineMeetsRow.inPlace == Tryz.prog.inPlace 4)) = true := by kernel_rfl
theorem k10 : ((Rows.machineMeetsRow.unfollowed == Tryz.prog.unfollowed 4)) = true := by kernel_rfl
theorem k11 : ((Rows.machineMeetsRow.recurses == Tryz.prog.recurses 4)) = true := by kernel_rfl
theorem k12 : ((Rows.machineMeetsRow.named == Tryz.prog.varsNamed 4)) = true := by kernel_rfl
theorem k13 : ((Rows.machineMeetsRow.maps == (Tryz.f4.params.toList ++ (OpenSpec.ofChange Rows.machineMeetsSpec).bare.plain.varTypes Tryz.prog).any (Tryz.prog.mapsRec ·))) = true := by kernel_rfl
theorem k14 : ((Rows.machineMeetsRow.ifaces == (Tryz.f4.params.toList ++ (OpenSpec.ofChange Rows.machineMeetsSpec).bare.plain.varTypes Tryz.prog).any (Tryz.prog.ifacesRec ·))) = true := by kernel_rfl
theorem k15 : ((Rows.machineMeetsRow.mapsOut == Tryz.prog.mapsAmong Tryz.f4.resultTypes.toList)) = true := by kernel_rfl
theorem k16 : ((Rows.machineMeetsRow.loops == (Tryz.f4.params.toList ++ (OpenSpec.ofChange Rows.machineMeetsSpec).bare.plain.varTypes Tryz.prog).any (Tryz.prog.loopsFrom ·))) = true := by kernel_rfl
theorem k17 : ((Rows.machineMeetsRow.wideKeys == (Tryz.f4.params.toList ++ (OpenSpec.ofChange Rows.machineMeetsSpec).bare.plain.varTypes Tryz.prog ++ Tryz.f4.resultTypes.toList).any (Tryz.prog.wideKeysFrom ·))) = true := by kernel_rfl
theorem k18 : ((OpenSpec.ofChange Rows.machineMeetsSpec).bare.vars.all (Tryz.prog.varReadable ·)) = true := by kernel_rfl
theorem k19 : (Tryz.f4.resultTypes.all (fun t => Tryz.prog.readableRec t && decide (t < Tryz.prog.types.size))) = true := by kernel_rfl
theorem k20 : ((Rows.machineMeetsRow.ifacesOut == Tryz.f4.resultTypes.toList.any (Tryz.prog.ifacesRec ·))) = true := by kernel_rfl
theorem k21 : ((Rows.machineMeetsRow.loopsOut == Tryz.f4.resultTypes.toList.any (Tryz.prog.loopsFrom ·))) = true := by kernel_rfl
theorem k22 : ((Rows.machineMeetsRow.plainKeys == Tryz.prog.plainKeys)) = true := by kernel_rfl
theorem k23 : (Rows.machineMeetsRow.shortTexts.isNone) = true := by kernel_rfl
theorem k26 : ((Rows.machineMeetsRow.lifted == Tryz.prog.liftsFinal)) = true := by kernel_rfl
theorem k27 : ((Tryz.prog.make == some Rows.machineMeetsRow.make)) = true := by kernel_rfl
theorem k28 : ((Rows.machineMeetsRow.kinds == (if Rows.machineMeetsRow.domain.isEmpty then [] else Tryz.f4.params.toList.map fun t => match Tryz.prog.underlying t with | some (.int k) => some k | _ => none))) = true := by kernel_rfl
theorem k29 : ((Rows.machineMeetsRow.pinned == Rows.machineMeetsRow.pinnedBy)) = true := by kernel_rfl
theorem k30 : ((Rows.machineMeetsRow.veiled == (Tryz.f4.params.toList ++ (OpenSpec.ofChange Rows.machineMeetsSpec).bare.plain.varTypes Tryz.prog ++ Tryz.f4.resultTypes.toList).any (Tryz.prog.veiledRec ·))) = true := by kernel_rfl
theorem k31 : (Rows.machineMeetsRow.veiledFits Tryz.prog Tryz.f4.params.toList (Tryz.f4.params.toList ++ (OpenSpec.ofChange Rows.machineMeetsSpec).bare.plain.varTypes Tryz.prog ++ Tryz.f4.resultTypes.toList)) = true := by kernel_rfl
theorem facts : joinedFacts Tryz.prog 4 Tryz.f4 (OpenSpec.ofChange Rows.machineMeetsSpec).bare Rows.machineMeetsRow = true := by
 unfold joinedFacts
 rw [k0, g1, g2, k3, k4, k5, g6, k7, g8, k9, k10, k11, k12, k13, k14, k15, k16, k17, k18, k19, k20, k21, k22, k23, g24, g25, k26, k27, k29, k30, k31]
 simp only [Bool.true_and, Bool.and_true]
 exact k28
theorem wrapper : Func.isWrapper Tryz.prog Tryz.f4 Rows.machineMeetsRow.wrapper Rows.machineMeetsRow.mainSum := by unfold Func.isWrapper; first | (rw [if_pos (by decide +kernel)]; kernel_rfl) | (rw [if_neg (by decide +kernel)]; exact ⟨rfl, rfl⟩)
theorem instance_ : Func.isInstance Tryz.prog Tryz.f4 Rows.machineMeetsRow.origin Rows.machineMeetsRow.targs := of_decide_eq_true (by kernel_rfl)
theorem named : Tryz.prog.funcNamed Rows.machineMeetsRow.func = some 4 := by kernel_rfl
theorem byText : Rows.machineMeetsRow.wfByText (OpenSpec.ofChange Rows.machineMeetsSpec) = true := by kernel_rfl
end Go.Proofs.YtndmeaoidihikaaGreatDoor.machineMeets
