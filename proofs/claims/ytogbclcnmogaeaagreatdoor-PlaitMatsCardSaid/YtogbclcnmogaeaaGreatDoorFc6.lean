/- Closed facts on the row of PlaitMats: where its code goes. No condition. -/
import Derived.Test.YtogbclcnmogaeaaGreatDoorLw1
set_option linter.all false
namespace Go.Proofs.YtogbclcnmogaeaaGreatDoor.plaitMats
open Go.ChangeShapes Go.WideShapes Go.ChangeAt Go.RowKit
set_option maxRecDepth 100000
theorem k9 : ((Rows.plaitMatsRow.inPlace == Tryz.prog.inPlace 8)) = true := by kernel_rfl
theorem k10 : ((Rows.plaitMatsRow.unfollowed == Tryz.prog.unfollowed 8)) = true := by kernel_rfl
theorem k11 : ((Rows.plaitMatsRow.recurses == Tryz.prog.recurses 8)) = true := by kernel_rfl
theorem k12 : ((Rows.plaitMatsRow.named == Tryz.prog.varsNamed 8)) = true := by kernel_rfl
end Go.Proofs.YtogbclcnmogaeaaGreatDoor.plaitMats
