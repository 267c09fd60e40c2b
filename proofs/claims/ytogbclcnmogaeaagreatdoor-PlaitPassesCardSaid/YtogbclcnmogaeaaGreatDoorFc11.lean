/- Closed facts on the row of PlaitPasses: where its code goes. No condition. -/
import Derived.Test.YtogbclcnmogaeaaGreatDoorLw1
set_option linter.all false
namespace Go.Proofs.YtogbclcnmogaeaaGreatDoor.plaitPasses
open Go.ChangeShapes Go.WideShapes Go.ChangeAt Go.RowKit
set_option maxRecDepth 100000
theorem k9 : ((Rows.plaitPassesRow.inPlace == Tryz.prog.inPlace 12)) = true := by kernel_rfl
theorem k10 : ((Rows.plaitPassesRow.unfollowed == Tryz.prog.unfollowed 12)) = true := by kernel_rfl
theorem k11 : ((Rows.plaitPassesRow.recurses == Tryz.prog.recurses 12)) = true := by kernel_rfl
theorem k12 : ((Rows.plaitPassesRow.named == Tryz.prog.varsNamed 12)) = true := by kernel_rfl
end Go.Proofs.YtogbclcnmogaeaaGreatDoor.plaitPasses
