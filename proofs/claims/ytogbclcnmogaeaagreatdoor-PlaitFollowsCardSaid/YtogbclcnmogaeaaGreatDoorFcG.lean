/- Closed facts on the program. No condition. -/
import Derived.Test.YtogbclcnmogaeaaGreatDoorLw1
set_option linter.all false
namespace Go.Proofs.YtogbclcnmogaeaaGreatDoor
open Go.ChangeShapes Go.WideShapes Go.ChangeAt Go.RowKit
set_option maxRecDepth 100000
theorem g1 : (laidOutB Tryz.prog) = true := by kernel_rfl
theorem g2 : (mapsRowed Tryz.prog) = true := by kernel_rfl
theorem g6 : ((Tryz.prog.stops == [])) = true := by kernel_rfl
theorem g8 : ((Tryz.prog.stopKnobs == [])) = true := by kernel_rfl
theorem g24 : (Tryz.prog.stopsHeard) = true := by kernel_rfl
theorem g25 : (Tryz.prog.mayEnter) = true := by kernel_rfl
end Go.Proofs.YtogbclcnmogaeaaGreatDoor
