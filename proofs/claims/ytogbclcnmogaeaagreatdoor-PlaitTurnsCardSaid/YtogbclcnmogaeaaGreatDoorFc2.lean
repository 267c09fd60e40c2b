/- Closed facts on the row of PlaitTurns: where its code goes. No condition. -/
import Derived.Test.YtogbclcnmogaeaaGreatDoorLw1
set_option linter.all false
namespace Go.Proofs.YtogbclcnmogaeaaGreatDoor.plaitTurns
open Go.ChangeShapes Go.WideShapes Go.ChangeAt Go.RowKit
set_option maxRecDepth 100000
theorem k9 : ((Rows.plaitTurnsRow.inPlace == Tryz.prog.inPlace 4)) = true := by kernel_rfl
theorem k10 : ((Rows.plaitTurnsRow.unfollowed == Tryz.prog.unfollowed 4)) = true := by kernel_rfl
theorem k11 : ((Rows.plaitTurnsRow.recurses == Tryz.prog.recurses 4)) = true := by kernel_rfl
theorem k12 : ((Rows.plaitTurnsRow.named == Tryz.prog.varsNamed 4)) = true := by kernel_rfl
end Go.Proofs.YtogbclcnmogaeaaGreatDoor.plaitTurns
