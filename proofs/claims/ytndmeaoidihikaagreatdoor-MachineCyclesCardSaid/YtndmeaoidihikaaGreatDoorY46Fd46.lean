/- Closed facts on the row of MachineCycles. No condition. -/
import Derived.Test.YtndmeaoidihikaaGreatDoorCards
import Derived.Test.YtndmeaoidihikaaGreatDoorTie
import Derived.WalkKit
import Derived.ProofKit
import Derived.OpenShut
import Derived.Deep.DeepHandedRow
import Derived.Test.YtndmeaoidihikaaGreatDoorXz01
import Derived.Test.YtndmeaoidihikaaGreatDoorXz02
import Derived.Test.YtndmeaoidihikaaGreatDoorXz03
import Derived.Test.YtndmeaoidihikaaGreatDoorXz04
import Derived.Test.YtndmeaoidihikaaGreatDoorXz05
import Derived.Test.YtndmeaoidihikaaGreatDoorXz06
import Derived.Test.YtndmeaoidihikaaGreatDoorXz07
import Derived.Test.YtndmeaoidihikaaGreatDoorXz08
import Derived.Test.YtndmeaoidihikaaGreatDoorXz09
import Derived.Test.YtndmeaoidihikaaGreatDoorXz10
import Derived.Test.YtndmeaoidihikaaGreatDoorXz11
import Derived.Test.YtndmeaoidihikaaGreatDoorXz12
import Derived.Test.YtndmeaoidihikaaGreatDoorY4602

set_option linter.all false
namespace Go.Proofs.YtndmeaoidihikaaGreatDoor.machineCycles
open Go.ChangeShapes Go.WideShapes Go.ChangeAt Go.RowKit
set_option maxRecDepth 100000
theorem k0 : (Rows.machineCyclesRow.wf (OpenSpec.ofChange (OpenSpec.ofChange Rows.machineCyclesSpec).bare)) = true := by kernel_rfl
theorem k3 : (Tryz.f3.params.all (Tryz.prog.readableRec ·)) = true := by kernel_rfl
theorem k4 : (namedTie Tryz.prog Rows.machineCyclesRow.named (OpenSpec.ofChange Rows.machineCyclesSpec).bare.vars) = true := by kernel_rfl
theorem k5 : ((Rows.machineCyclesRow.stops == [])) = true := by kernel_rfl
theorem k7 : ((Rows.machineCyclesRow.knobs == [])) = true := by kernel_rfl
theorem k9 : ((Rows.machineCyclesRow.inPlace == Tryz.prog.inPlace 3)) = true := by kernel_rfl
theorem k10 : ((Rows.machineCyclesRow.unfollowed == Tryz.prog.unfollowed 3)) = true := by kernel_rfl
theorem k11 : ((Rows.machineCyclesRow.recurses == Tryz.prog.recurses 3)) = true := by kernel_rfl
theorem k12 : ((Rows.machineCyclesRow.named == Tryz.prog.varsNamed 3)) = true := by kernel_rfl
theorem k13 : ((Rows.machineCyclesRow.maps == (Tryz.f3.params.toList ++ (OpenSpec.ofChange Rows.machineCyclesSpec).bare.plain.varTypes Tryz.prog).any (Tryz.prog.mapsRec ·))) = true := by kernel_rfl
theorem k14 : ((Rows.machineCyclesRow.ifaces == (Tryz.f3.params.toList ++ (OpenSpec.ofChange Rows.machineCyclesSpec).bare.plain.varTypes Tryz.prog).any (Tryz.prog.ifacesRec ·))) = true := by kernel_rfl
theorem k15 : ((Rows.machineCyclesRow.mapsOut == Tryz.prog.mapsAmong Tryz.f3.resultTypes.toList)) = true := by kernel_rfl
theorem k16 : ((Rows.machineCyclesRow.loops == (Tryz.f3.params.toList ++ (OpenSpec.ofChange Rows.machineCyclesSpec).bare.plain.varTypes Tryz.prog).any (Tryz.prog.loopsFrom ·))) = true := by kernel_rfl
theorem k17 : ((Rows.machineCyclesRow.wideKeys == (Tryz.f3.params.toList ++ (OpenSpec.ofChange Rows.machineCyclesSpec).bare.plain.varTypes Tryz.prog ++ Tryz.f3.resultTypes.toList).any (Tryz.prog.wideKeysFrom ·))) = true := by kernel_rfl
theorem k18 : ((OpenSpec.ofChange Rows.machineCyclesSpec).bare.vars.all (Tryz.prog.varReadable ·)) = true := by kernel_rfl
theorem k19 : (Tryz.f3.resultTypes.all (fun t => Tryz.prog.readableRec t && decide (t < Tryz.prog.types.size))) = true := by kernel_rfl
theorem k20 : ((Rows.machineCyclesRow.ifacesOut == Tryz.f3.resultTypes.toList.any (Tryz.prog.ifacesRec ·))) = true := by kernel_rfl
theorem k21 : ((Rows.machineCyclesRow.loopsOut == Tryz.f3.resultTypes.toList.any (Tryz.prog.loopsFrom ·))) = true := by kernel_rfl
theorem k22 : ((Rows.machineCyclesRow.plainKeys == Tryz.prog.plainKeys)) = true := by kernel_rfl
theorem k23 : (Rows.machineCyclesRow.shortTexts.isNone) = true := by kernel_rfl
theorem k26 : ((Rows.machineCyclesRow.lifted == Tryz.prog.liftsFinal)) = true := by kernel_rfl
theorem k27 : ((Tryz.prog.make == some Rows.machineCyclesRow.make)) = true := by kernel_rfl
theorem k28 : ((Rows.machineCyclesRow.kinds == (if Rows.machineCyclesRow.domain.isEmpty then [] else Tryz.f3.params.toList.map fun t => match Tryz.prog.underlying t with | some (.int k) => some k | _ => none))) = true := by kernel_rfl
theorem k29 : ((Rows.machineCyclesRow.pinned == Rows.machineCyclesRow.pinnedBy)) = true := by kernel_rfl
theorem k30 : ((Rows.machineCyclesRow.veiled == (Tryz.f3.params.toList ++ (OpenSpec.ofChange Rows.machineCyclesSpec).bare.plain.varTypes Tryz.prog ++ Tryz.f3.resultTypes.toList).any (Tryz.prog.veiledRec ·))) = true := by kernel_rfl
theorem k31 : (Rows.machineCyclesRow.veiledFits Tryz.prog Tryz.f3.params.toList (Tryz.f3.params.toList ++ (OpenSpec.ofChange Rows.machineCyclesSpec).bare.plain.varTypes Tryz.prog ++ Tryz.f3.resultTypes.toList)) = true := by kernel_rfl
theorem facts : joinedFacts Tryz.prog 3 Tryz.f3 (OpenSpec.ofChange Rows.machineCyclesSpec).bare Rows.machineCyclesRow = true := by
 unfold joinedFacts
 rw [k0, g1, g2, k3, k4, k5, g6, k7, g8, k9, k10, k11, k12, k13, k14, k15, k16, k17, k18, k19, k20, k21, k22, k23, g24, g25, k26, k27, k29, k30, k31]
 simp only [Bool.true_and, Bool.and_true]
 exact k28
theorem wrapper : Func.isWrapper Tryz.prog Tryz.f3 Rows.machineCyclesRow.wrapper Rows.machineCyclesRow.mainSum := by unfold Func.isWrapper; first | (rw [if_pos (by decide +kernel)]; kernel_rfl) | (rw [if_neg (by decide +kernel)]; exact ⟨rfl, rfl⟩)
theorem instance_ : Func.isInstance Tryz.prog Tryz.f3 Rows.machineCyclesRow.origin Rows.machineCyclesRow.targs := of_decide_eq_true (by kernel_rfl)
theorem named : Tryz.prog.funcNamed Rows.machineCyclesRow.func = some 3 := by kernel_rfl
theorem byText : Rows.machineCyclesRow.wfByText (OpenSpec.ofChange Rows.machineCyclesSpec) = true := by kernel_rfl
end Go.Proofs.YtndmeaoidihikaaGreatDoor.machineCycles
