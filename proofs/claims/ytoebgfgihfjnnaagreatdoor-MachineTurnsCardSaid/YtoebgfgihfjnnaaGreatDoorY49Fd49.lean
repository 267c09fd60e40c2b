/- Closed facts on the row of MachineTurns. No condition. -/
import Derived.Test.YtoebgfgihfjnnaaGreatDoorCards
import Derived.Test.YtoebgfgihfjnnaaGreatDoorTie
import Derived.WalkKit
import Derived.ProofKit
import Derived.OpenShut
import Derived.Deep.DeepHandedRow
import Derived.Test.YtoebgfgihfjnnaaGreatDoorXz01
import Derived.Test.YtoebgfgihfjnnaaGreatDoorXz02
import Derived.Test.YtoebgfgihfjnnaaGreatDoorXz03
import Derived.Test.YtoebgfgihfjnnaaGreatDoorXz04
import Derived.Test.YtoebgfgihfjnnaaGreatDoorXz05
import Derived.Test.YtoebgfgihfjnnaaGreatDoorXz06
import Derived.Test.YtoebgfgihfjnnaaGreatDoorXz07
import Derived.Test.YtoebgfgihfjnnaaGreatDoorXz08
import Derived.Test.YtoebgfgihfjnnaaGreatDoorXz09
import Derived.Test.YtoebgfgihfjnnaaGreatDoorXz10
import Derived.Test.YtoebgfgihfjnnaaGreatDoorXz11
import Derived.Test.YtoebgfgihfjnnaaGreatDoorXz12
import Derived.Test.YtoebgfgihfjnnaaGreatDoorY4901

set_option linter.all false
namespace Go.Proofs.YtoebgfgihfjnnaaGreatDoor.machineTurns
open Go.ChangeShapes Go.WideShapes Go.ChangeAt Go.RowKit
set_option maxRecDepth 100000
theorem k0 : (Rows.machineTurnsRow.wf (OpenSpec.ofChange (OpenSpec.ofChange Rows.machineTurnsSpec).bare)) = true := by kernel_rfl
theorem k3 : (Tryz.f9.params.all (Tryz.prog.readableRec ·)) = true := by kernel_rfl
theorem k4 : (namedTie Tryz.prog Rows.machineTurnsRow.named (OpenSpec.ofChange Rows.machineTurnsSpec).bare.vars) = true := by kernel_rfl
theorem k5 : ((Rows.machineTurnsRow.stops == [])) = true := by kernel_rfl
theorem k7 : ((Rows.machineTurnsRow.knobs == [])) = true := by kernel_rfl
theorem k9 : ((Rows.machineTurnsRow.inPlace == Tryz.prog.inPlace 9)) = true := by kernel_rfl
theorem k10 : ((Rows.machineTurnsRow.unfollowed == Tryz.prog.unfollowed 9)) = true := by kernel_rfl
theorem k11 : ((Rows.machineTurnsRow.recurses == Tryz.prog.recurses 9)) = true := by kernel_rfl
theorem k12 : ((Rows.machineTurnsRow.named == Tryz.prog.varsNamed 9)) = true := by kernel_rfl
theorem k13 : ((Rows.machineTurnsRow.maps == (Tryz.f9.params.toList ++ (OpenSpec.ofChange Rows.machineTurnsSpec).bare.plain.varTypes Tryz.prog).any (Tryz.prog.mapsRec ·))) = true := by kernel_rfl
theorem k14 : ((Rows.machineTurnsRow.ifaces == (Tryz.f9.params.toList ++ (OpenSpec.ofChange Rows.machineTurnsSpec).bare.plain.varTypes Tryz.prog).any (Tryz.prog.ifacesRec ·))) = true := by kernel_rfl
theorem k15 : ((Rows.machineTurnsRow.mapsOut == Tryz.prog.mapsAmong Tryz.f9.resultTypes.toList)) = true := by kernel_rfl
theorem k16 : ((Rows.machineTurnsRow.loops == (Tryz.f9.params.toList ++ (OpenSpec.ofChange Rows.machineTurnsSpec).bare.plain.varTypes Tryz.prog).any (Tryz.prog.loopsFrom ·))) = true := by kernel_rfl
theorem k17 : ((Rows.machineTurnsRow.wideKeys == (Tryz.f9.params.toList ++ (OpenSpec.ofChange Rows.machineTurnsSpec).bare.plain.varTypes Tryz.prog ++ Tryz.f9.resultTypes.toList).any (Tryz.prog.wideKeysFrom ·))) = true := by kernel_rfl
theorem k18 : ((OpenSpec.ofChange Rows.machineTurnsSpec).bare.vars.all (Tryz.prog.varReadable ·)) = true := by kernel_rfl
theorem k19 : (Tryz.f9.resultTypes.all (fun t => Tryz.prog.readableRec t && decide (t < Tryz.prog.types.size))) = true := by kernel_rfl
theorem k20 : ((Rows.machineTurnsRow.ifacesOut == Tryz.f9.resultTypes.toList.any (Tryz.prog.ifacesRec ·))) = true := by kernel_rfl
theorem k21 : ((Rows.machineTurnsRow.loopsOut == Tryz.f9.resultTypes.toList.any (Tryz.prog.loopsFrom ·))) = true := by kernel_rfl
theorem k22 : ((Rows.machineTurnsRow.plainKeys == Tryz.prog.plainKeys)) = true := by kernel_rfl
theorem k23 : (Rows.machineTurnsRow.shortTexts.isNone) = true := by kernel_rfl
theorem k26 : ((Rows.machineTurnsRow.lifted == Tryz.prog.liftsFinal)) = true := by kernel_rfl
theorem k27 : ((Tryz.prog.make == some Rows.machineTurnsRow.make)) = true := by kernel_rfl
theorem k28 : ((Rows.machineTurnsRow.kinds == (if Rows.machineTurnsRow.domain.isEmpty then [] else Tryz.f9.params.toList.map fun t => match Tryz.prog.underlying t with | some (.int k) => some k | _ => none))) = true := by kernel_rfl
theorem k29 : ((Rows.machineTurnsRow.pinned == Rows.machineTurnsRow.pinnedBy)) = true := by kernel_rfl
theorem k30 : ((Rows.machineTurnsRow.veiled == (Tryz.f9.params.toList ++ (OpenSpec.ofChange Rows.machineTurnsSpec).bare.plain.varTypes Tryz.prog ++ Tryz.f9.resultTypes.toList).any (Tryz.prog.veiledRec ·))) = true := by kernel_rfl
theorem k31 : (Rows.machineTurnsRow.veiledFits Tryz.prog Tryz.f9.params.toList (Tryz.f9.params.toList ++ (OpenSpec.ofChange Rows.machineTurnsSpec).bare.plain.varTypes Tryz.prog ++ Tryz.f9.resultTypes.toList)) = true := by kernel_rfl
theorem facts : joinedFacts Tryz.prog 9 Tryz.f9 (OpenSpec.ofChange Rows.machineTurnsSpec).bare Rows.machineTurnsRow = true := by
 unfold joinedFacts
 rw [k0, g1, g2, k3, k4, k5, g6, k7, g8, k9, k10, k11, k12, k13, k14, k15, k16, k17, k18, k19, k20, k21, k22, k23, g24, g25, k26, k27, k29, k30, k31]
 simp only [Bool.true_and, Bool.and_true]
 exact k28
theorem wrapper : Func.isWrapper Tryz.prog Tryz.f9 Rows.machineTurnsRow.wrapper Rows.machineTurnsRow.mainSum := by unfold Func.isWrapper; first | (rw [if_pos (by decide +kernel)]; kernel_rfl) | (rw [if_neg (by decide +kernel)]; exact ⟨rfl, rfl⟩)
theorem instance_ : Func.isInstance Tryz.prog Tryz.f9 Rows.machineTurnsRow.origin Rows.machineTurnsRow.targs := of_decide_eq_true (by kernel_rfl)
theorem named : Tryz.prog.funcNamed Rows.machineTurnsRow.func = some 9 := by kernel_rfl
theorem byText : Rows.machineTurnsRow.wfByText (OpenSpec.ofChange Rows.machineTurnsSpec) = true := by kernel_rfl
end Go.Proofs.YtoebgfgihfjnnaaGreatDoor.machineTurns
