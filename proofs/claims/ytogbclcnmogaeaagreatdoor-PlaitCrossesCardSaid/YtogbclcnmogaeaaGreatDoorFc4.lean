/- Closed facts on the row of PlaitCrosses: where its code goes. No condition. -/
import Derived.Test.YtogbclcnmogaeaaGreatDoorLw1
set_option linter.all false
namespace Go.Proofs.YtogbclcnmogaeaaGreatDoor.plaitCrosses
open Go.ChangeShapes Go.WideShapes Go.ChangeAt Go.RowKit
set_option maxRecDepth 100000
theorem k9 : ((Rows.plaitCrossesRow.inPlace == Tryz.prog.inPlace 6)) = true := by kernel_rfl
theorem k10 : ((Rows.plaitCrossesRow.unfollowed == Tryz.prog.unfollowed 6)) = true := by kernel_rfl
theorem k11 : ((Rows.plaitCrossesRow.recurses == Tryz.prog.recurses 6)) = true := by kernel_rfl
theorem k12 : ((Rows.plaitCrossesRow.named == Tryz.prog.varsNamed 6)) = true := by kernel_rfl
end Go.Proofs.YtogbclcnmogaeaaGreatDoor.plaitCrosses
