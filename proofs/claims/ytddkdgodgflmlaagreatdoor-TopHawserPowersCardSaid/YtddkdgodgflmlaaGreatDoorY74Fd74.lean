/- Closed facts on the row of TopHawserPowers. No condition. -/
import Derived.Test.YtddkdgodgflmlaaGreatDoorCards
import Derived.Test.YtddkdgodgflmlaaGreatDoorTie
import Derived.WalkKit
import Derived.ProofKit
import Derived.OpenShut
import Derived.Deep.DeepHandedRow
import Derived.Test.YtddkdgodgflmlaaGreatDoorXz01
import Derived.Test.YtddkdgodgflmlaaGreatDoorXz02
import Derived.Test.YtddkdgodgflmlaaGreatDoorXz03
import Derived.Test.YtddkdgodgflmlaaGreatDoorXz04
import Derived.Test.YtddkdgodgflmlaaGreatDoorXz05
import Derived.Test.YtddkdgodgflmlaaGreatDoorY7402

set_option linter.all false
namespace Go.Proofs.YtddkdgodgflmlaaGreatDoor.topHawserPowers
open Go.ChangeShapes Go.WideShapes Go.ChangeAt Go.RowKit
set_option maxRecDepth 100000
theorem k0 : (Rows.topHawserPowersRow.wf (OpenSpec.ofChange (OpenSpec.ofChange Rows.topHawserPowersSpec).bare)) = true := by kernel_rfl
theorem k3 : (Tryz.f4.params.all (Tryz.prog.readableRec ·)) = true := by kernel_rfl
theorem k4 : (namedTie Tryz.prog Rows.topHawserPowersRow.named (OpenSpec.ofChange Rows.topHawserPowersSpec).bare.vars) = true := by kernel_rfl
theorem k5 : ((Rows.topHawserPowersRow.stops == [])) = true := by kernel_rfl
theorem k7 : ((Rows.topHawserPowersRow.knobs == [])) = true := by kernel_rfl
theorem k9 : ((Rows.topHawserPowersRow.inPlace == Tryz.prog.inPlace 4)) = true := by kernel_rfl
theorem k10 : ((Rows.topHawserPowersRow.unfollowed == Tryz.prog.unfollowed 4)) = true := by kernel_rfl
theorem k11 : ((Rows.topHawserPowersRow.recurses == Tryz.prog.recurses 4)) = true := by kernel_rfl
theorem k12 : ((Rows.topHawserPowersRow.named == Tryz.prog.varsNamed 4)) = true := by kernel_rfl
theorem k13 : ((Rows.topHawserPowersRow.maps == (Tryz.f4.params.toList ++ (OpenSpec.ofChange Rows.topHawserPowersSpec).bare.plain.varTypes Tryz.prog).any (Tryz.prog.mapsRec ·))) = true := by kernel_rfl
theorem k14 : ((Rows.topHawserPowersRow.ifaces == (Tryz.f4.params.toList ++ (OpenSpec.ofChange Rows.topHawserPowersSpec).bare.plain.varTypes Tryz.prog).any (Tryz.prog.ifacesRec ·))) = true := by kernel_rfl
theorem k15 : ((Rows.topHawserPowersRow.mapsOut == Tryz.prog.mapsAmong Tryz.f4.resultTypes.toList)) = true := by kernel_rfl
theorem k16 : ((Rows.topHawserPowersRow.loops == (Tryz.f4.params.toList ++ (OpenSpec.ofChange Rows.topHawserPowersSpec).bare.plain.varTypes Tryz.prog).any (Tryz.prog.loopsFrom ·))) = true := by kernel_rfl
theorem k17 : ((Rows.topHawserPowersRow.wideKeys == (Tryz.f4.params.toList ++ (OpenSpec.ofChange Rows.topHawserPowersSpec).bare.plain.varTypes Tryz.prog ++ Tryz.f4.resultTypes.toList).any (Tryz.prog.wideKeysFrom ·))) = true := by kernel_rfl
theorem k18 : ((OpenSpec.ofChange Rows.topHawserPowersSpec).bare.vars.all (Tryz.prog.varReadable ·)) = true := by kernel_rfl
theorem k19 : (Tryz.f4.resultTypes.all (fun t => Tryz.prog.readableRec t && decide (t < Tryz.prog.types.size))) = true := by kernel_rfl
theorem k20 : ((Rows.topHawserPowersRow.ifacesOut == Tryz.f4.resultTypes.toList.any (Tryz.prog.ifacesRec ·))) = true := by kernel_rfl
theorem k21 : ((Rows.topHawserPowersRow.loopsOut == Tryz.f4.resultTypes.toList.any (Tryz.prog.loopsFrom ·))) = true := by kernel_rfl
theorem k22 : ((Rows.topHawserPowersRow.plainKeys == Tryz.prog.plainKeys)) = true := by kernel_rfl
theorem k23 : (Rows.topHawserPowersRow.shortTexts.isNone) = true := by kernel_rfl
theorem k26 : ((Rows.topHawserPowersRow.lifted == Tryz.prog.liftsFinal)) = true := by kernel_rfl
theorem k27 : ((Tryz.prog.make == some Rows.topHawserPowersRow.make)) = true := by kernel_rfl
theorem k28 : ((Rows.topHawserPowersRow.kinds == (if Rows.topHawserPowersRow.domain.isEmpty then [] else Tryz.f4.params.toList.map fun t => match Tryz.prog.underlying t with | some (.int k) => some k | _ => none))) = true := by kernel_rfl
theorem k29 : ((Rows.topHawserPowersRow.pinned == Rows.topHawserPowersRow.pinnedBy)) = true := by kernel_rfl
theorem k30 : ((Rows.topHawserPowersRow.veiled == (Tryz.f4.params.toList ++ (OpenSpec.ofChange Rows.topHawserPowersSpec).bare.plain.varTypes Tryz.prog ++ Tryz.f4.resultTypes.toList).any (Tryz.prog.veiledRec ·))) = true := by kernel_rfl
theorem k31 : (Rows.topHawserPowersRow.veiledFits Tryz.prog Tryz.f4.params.toList (Tryz.f4.params.toList ++ (OpenSpec.ofChange Rows.topHawserPowersSpec).bare.plain.varTypes Tryz.prog ++ Tryz.f4.resultTypes.toList)) = true := by kernel_rfl
theorem facts : joinedFacts Tryz.prog 4 Tryz.f4 (OpenSpec.ofChange Rows.topHawserPowersSpec).bare Rows.topHawserPowersRow = true := by
 unfold joinedFacts
 rw [k0, g1, g2, k3, k4, k5, g6, k7, g8, k9, k10, k11, k12, k13, k14, k15, k16, k17, k18, k19, k20, k21, k22, k23, g24, g25, k26, k27, k29, k30, k31]
 simp only [Bool.true_and, Bool.and_true]
 exact k28
theorem wrapper : Func.isWrapper Tryz.prog Tryz.f4 Rows.topHawserPowersRow.wrapper Rows.topHawserPowersRow.mainSum := by unfold Func.isWrapper; first | (rw [if_pos (by decide +kernel)]; kernel_rfl) | (rw [if_neg (by decide +kernel)]; exact ⟨rfl, rfl⟩)
theorem instance_ : Func.isInstance Tryz.prog Tryz.f4 Rows.topHawserPowersRow.origin Rows.topHawserPowersRow.targs := of_decide_eq_true (by kernel_rfl)
theorem named : Tryz.prog.funcNamed Rows.topHawserPowersRow.func = some 4 := by kernel_rfl
theorem byText : Rows.topHawserPowersRow.wfByText (OpenSpec.ofChange Rows.topHawserPowersSpec) = true := by kernel_rfl
end Go.Proofs.YtddkdgodgflmlaaGreatDoor.topHawserPowers
