/- Closed facts on the row of PlaitReplays: where its code goes. No condition. -/
import Derived.Test.YtogbclcnmogaeaaGreatDoorLw1
set_option linter.all false
namespace Go.Proofs.YtogbclcnmogaeaaGreatDoor.plaitReplays
open Go.ChangeShapes Go.WideShapes Go.ChangeAt Go.RowKit
set_option maxRecDepth 100000
theorem k9 : ((Rows.plaitReplaysRow.inPlace == Tryz.prog.inPlace 14)) = true := by kernel_rfl
theorem k10 : ((Rows.plaitReplaysRow.unfollowed == Tryz.prog.unfollowed 14)) = true := by kernel_rfl
theorem k11 : ((Rows.plaitReplaysRow.recurses == Tryz.prog.recurses 14)) = true := by kernel_rfl
theorem k12 : ((Rows.plaitReplaysRow.named == Tryz.prog.varsNamed 14)) = true := by kernel_rfl
end Go.Proofs.YtogbclcnmogaeaaGreatDoor.plaitReplays
