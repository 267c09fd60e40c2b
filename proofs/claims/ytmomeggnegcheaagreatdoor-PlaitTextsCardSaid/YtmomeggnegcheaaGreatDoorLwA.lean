/- A world that holds the listed tables, for the witnesses of the rows. No condition. Closed facts on the program. No condition. -/
import Derived.Test.YtmomeggnegcheaaGreatDoorCards
import Derived.Test.YtmomeggnegcheaaGreatDoorTie
import Derived.WalkKit
import Derived.ProofKit
import Derived.OpenShut
import Derived.Deep.DeepHandedRow
set_option linter.all false
/- A world that holds the listed tables, for the witnesses of the rows. No condition. -/
namespace Go.Proofs.YtmomeggnegcheaaGreatDoor
open Go.ChangeShapes Go.WideShapes Go.ChangeAt Go.RowKit
set_option maxRecDepth 100000
theorem ownP : ownKnob Tryz.prog.godebug = none := by kernel_rfl
/-- a table's cells. -/
def flatD : Nat → DataW Unit → List Value
  | 0, _ => []
  | _ + 1, .lit (.int k v) => [.int k v]
  | n + 1, .agg l => l.flatMap (flatD n)
  | _, _ => []
def layAt (d : DataW Unit) : Obj → Obj
  | .cells _ t fr => .cells (flatD 4 d).toArray t fr
  | o => o
noncomputable def laidWorld (os : Os) : World :=
  { World.holding Tryz.prog os ⟨#[], #[], []⟩ with heap := (((((World.holding Tryz.prog os ⟨#[], #[], []⟩).heap.modify 8 (layAt Rows.laid_math_bits_deBruijn32tab)).modify 9 (layAt Rows.laid_math_bits_deBruijn64tab)).modify 3 (layAt Rows.laid_internal_strconv_uint64pow10)).modify 5 (layAt Rows.laid_unicode_utf8_acceptRanges)).modify 4 (layAt Rows.laid_unicode_utf8_first) }
end Go.Proofs.YtmomeggnegcheaaGreatDoor

/- Closed facts on the program. No condition. -/
namespace Go.Proofs.YtmomeggnegcheaaGreatDoor
open Go.ChangeShapes Go.WideShapes Go.ChangeAt Go.RowKit
set_option maxRecDepth 100000
theorem g1 : (laidOutB Tryz.prog) = true := by kernel_rfl
theorem g2 : (mapsRowed Tryz.prog) = true := by kernel_rfl
theorem g6 : ((Tryz.prog.stops == [])) = true := by kernel_rfl
theorem g8 : ((Tryz.prog.stopKnobs == [])) = true := by kernel_rfl
theorem g24 : (Tryz.prog.stopsHeard) = true := by kernel_rfl
theorem g25 : (Tryz.prog.mayEnter) = true := by kernel_rfl
end Go.Proofs.YtmomeggnegcheaaGreatDoor
