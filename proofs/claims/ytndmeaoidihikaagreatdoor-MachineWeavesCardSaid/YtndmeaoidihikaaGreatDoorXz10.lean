/- Contracts and plain facts that the claim uses (MaC MaU MaW MaX AwV). Conditions: as each one states. -/
import Derived.RangeFuncNested
import Derived.RangeFuncBound
import Derived.RangeFuncCalls
import Derived.RangeFuncLeaves
import Derived.RangeFuncFrom
import Derived.Shelf.Abstract
import Derived.Shelf.RegionOpen
import Derived.WalkKit
import Derived.OwnWalkIn
import Derived.TacticsInMore
import Derived.LoopNIn
import Derived.LoopIn
import Derived.Test.YtndmeaoidihikaaGreatDoorProg
import Derived.WalkSpells
import Derived.Maps.AppendAt
import Derived.Deep.Quiet
import Derived.Maps.Own
import Derived.Maps.OwnSet
import Derived.Maps.Views
import Derived.WalkLawsBesides
import Derived.Laws.EntriesVeiled
import Derived.Deep.QuietTactic
import Derived.BigQuiet
import Derived.Shelf.Strings.Trim
import Derived.Shelf.Strings.SlTrimAscii
import Derived.Shelf.Strings.Repeat
import Derived.Shelf.Strings.OnBuilder
import Derived.Shelf.Strconv.Itoa1
import Derived.Shelf.Strconv.Itoa3
import Derived.Shelf.LaysM
import Derived.Ground.Names2Prog
import Derived.Lib.OthersKept
import Derived.Deep.RegionHeld3
import Derived.Deep.AppendLies
import Derived.Deep.RegionHeldLaw
import Derived.Deep.RegionLaw
import Derived.StillTail
import Derived.Laws.Tables
import Derived.IntWalk
import Derived.Laws.CopyOwn
import Derived.BigRegion
import Derived.ChangeAlike
import Derived.Shelf.Bits.Mul64
import Derived.Lib.ItoaLen
import Derived.Lib.ItoaMem
import Derived.Sort.LoopGhostIn
import Derived.Maps.RangeWalk
import Derived.Sort.QuietThIn
import Derived.Maps.Ext
import Derived.Deep.LoopGhost
import Derived.Lib.Split
import Derived.Lib.AtoiAll
import Derived.Shelf.Strconv.ErrVarAll
import Derived.Shelf.Strconv.AtoiAll
import Derived.Shelf.Strings.Cut
import Derived.Shelf.Strings.Split
import Derived.Shelf.Strings.SplitShaped
import Derived.Lib.AppendIntMem
import Derived.Lib.SmallJoins
import Derived.LaidSub
import Derived.Lib.LaidTab
import Derived.Lib.AtoiErrMem
import Derived.Stop.LaidErr
import Derived.ReadAgain
import Derived.ChangeSlices
import Derived.OpenShut
import Derived.ProofKit
import Derived.Deep.DeepHandedRow
import Derived.Deep.SlicePairs
import Derived.Test.YtndmeaoidihikaaGreatDoorXz01
import Derived.Test.YtndmeaoidihikaaGreatDoorXz02
import Derived.Test.YtndmeaoidihikaaGreatDoorXz03
import Derived.Test.YtndmeaoidihikaaGreatDoorXz04
import Derived.Test.YtndmeaoidihikaaGreatDoorXz05
import Derived.Test.YtndmeaoidihikaaGreatDoorXz06
import Derived.Test.YtndmeaoidihikaaGreatDoorXz07
import Derived.Test.YtndmeaoidihikaaGreatDoorXz08
import Derived.Test.YtndmeaoidihikaaGreatDoorXz09
set_option linter.all false

namespace Go.Proofs.YtndmeaoidihikaaGreatDoor
open Go.RowKit
set_option maxHeartbeats 8000000
set_option maxRecDepth 100000

theorem cm_a00 (m : MacV) (ad : Option Addr) (cap : Nat) (w : World) (hR : Ints w ad cap m.sw) (hI : -9223372036854775808 ≤ m.gears ∧ m.gears ≤ 9223372036854775807) (hr : m.ring = false) (q : Int) (hq : m.gears.tmod 2 = q) (hd1 : decide (m.gears < 1) = true) (ht : (m.turn != 1) = false) (HV : Hid (macE m = 3)) :
  Calls Tryz.prog 39 #[mV m ad cap] w fun r w' => r = .returned (.int .i64 (macE m)) ∧ Below w.heap.size w w' := by
 have hcap := hR.le
 have hmx := hR.max
 unfold mV
 rw [hr]
 clear hr
 go_enter Tryz.func39, Tryz.ntmps39
 go_wp2_with fail
 have hS := (SL.nil w).box (.cells #[.bool false, .int .i64 m.gears, .int .i64 m.turn, .slice ad m.sw.length cap] 24)
 have q1 := (hS.blk 0 rfl).1
 refine wp_region_qt 34 kR kR ?_
 simp only [List.take_succ_cons, List.take_zero, List.drop_succ_cons, List.drop_zero]
 repeat (first | ((with_reducible refine wpB_load F_boolM wU wU q1 wU ?_); (try simp only [Act.put, pA, pB, pC])) | ((with_reducible refine wpB_load F_sliceM wU wU q1 wU ?_); (try simp only [Act.put, pA, pB, pC])) | ((with_reducible refine wpB_when wU wU wU ?_); (try simp only [Act.put, pA, pB, pC])) | ((with_reducible refine wpQ_skip wU ?_); (try simp only [Act.put, pA, pB, pC])) |  ((with_reducible refine wpB_load (by first | exact F_int | exact F_u64s) wU wU (by assumption) wU ?_); (try simp only [Act.put, pA, pB, pC])) | ((refine wpQ_oneG ?_ wU (fun w' => ?_) ?_); rotate_left; (go_simp; rfl); (try simp only [Act.put, pA, pB, pC])))
 refine wpQuiet_nil ?_
 intro w1 hb1
 have hS1 := hS.mono hb1
 go_wp2_with (go_at_call 56; refine (mfirst_any _ _ [_, _, _, _] _ (reps_newN cIntS [_, _, _, _] 4 rfl (by decide) _ _ (by simp) rfl)).mono ?_; rw [firstE_head (by decide)]; rintro e w' ⟨rfl, rfl⟩)
 all_goals go_ret
 all_goals exact ⟨by rw [HV.out]; rfl, bal hS1.b _⟩
theorem cm_b00 (m : MacV) (ad : Option Addr) (cap : Nat) (w : World) (hR : Ints w ad cap m.sw) (hI : -9223372036854775808 ≤ m.gears ∧ m.gears ≤ 9223372036854775807) (hr : m.ring = false) (q : Int) (hq : m.gears.tmod 2 = q) (n1 : decide (m.gears < 1) = false) (hd2 : decide (16 < m.gears) = true) (ht : (m.turn != 1) = false) (HV : Hid (macE m = 3)) :
  Calls Tryz.prog 39 #[mV m ad cap] w fun r w' => r = .returned (.int .i64 (macE m)) ∧ Below w.heap.size w w' := by
 have hcap := hR.le
 have hmx := hR.max
 unfold mV
 rw [hr]
 clear hr
 go_enter Tryz.func39, Tryz.ntmps39
 go_wp2_with fail
 have hS := (SL.nil w).box (.cells #[.bool false, .int .i64 m.gears, .int .i64 m.turn, .slice ad m.sw.length cap] 24)
 have q1 := (hS.blk 0 rfl).1
 refine wp_region_qt 34 kR kR ?_
 simp only [List.take_succ_cons, List.take_zero, List.drop_succ_cons, List.drop_zero]
 repeat (first | ((with_reducible refine wpB_load F_boolM wU wU q1 wU ?_); (try simp only [Act.put, pA, pB, pC])) | ((with_reducible refine wpB_load F_sliceM wU wU q1 wU ?_); (try simp only [Act.put, pA, pB, pC])) | ((with_reducible refine wpB_when wU wU wU ?_); (try simp only [Act.put, pA, pB, pC])) | ((with_reducible refine wpQ_skip wU ?_); (try simp only [Act.put, pA, pB, pC])) |  ((with_reducible refine wpB_load (by first | exact F_int | exact F_u64s) wU wU (by assumption) wU ?_); (try simp only [Act.put, pA, pB, pC])) | ((refine wpQ_oneG ?_ wU (fun w' => ?_) ?_); rotate_left; (go_simp; rfl); (try simp only [Act.put, pA, pB, pC])))
 refine wpQuiet_nil ?_
 intro w1 hb1
 have hS1 := hS.mono hb1
 go_wp2_with (go_at_call 56; refine (mfirst_any _ _ [_, _, _, _] _ (reps_newN cIntS [_, _, _, _] 4 rfl (by decide) _ _ (by simp) rfl)).mono ?_; rw [firstE_head (by decide)]; rintro e w' ⟨rfl, rfl⟩)
 all_goals go_ret
 all_goals exact ⟨by rw [HV.out]; rfl, bal hS1.b _⟩
theorem cm_a01 (m : MacV) (ad : Option Addr) (cap : Nat) (w : World) (hR : Ints w ad cap m.sw) (hI : -9223372036854775808 ≤ m.gears ∧ m.gears ≤ 9223372036854775807) (hr : m.ring = false) (q : Int) (hq : m.gears.tmod 2 = q) (hd1 : decide (m.gears < 1) = true) (ht : (m.turn != 1) = true) (HV : Hid (macE m = 3)) :
  Calls Tryz.prog 39 #[mV m ad cap] w fun r w' => r = .returned (.int .i64 (macE m)) ∧ Below w.heap.size w w' := by
 have hcap := hR.le
 have hmx := hR.max
 unfold mV
 rw [hr]
 clear hr
 go_enter Tryz.func39, Tryz.ntmps39
 go_wp2_with fail
 have hS := (SL.nil w).box (.cells #[.bool false, .int .i64 m.gears, .int .i64 m.turn, .slice ad m.sw.length cap] 24)
 have q1 := (hS.blk 0 rfl).1
 refine wp_region_qt 34 kR kR ?_
 simp only [List.take_succ_cons, List.take_zero, List.drop_succ_cons, List.drop_zero]
 repeat (first | ((with_reducible refine wpB_load F_boolM wU wU q1 wU ?_); (try simp only [Act.put, pA, pB, pC])) | ((with_reducible refine wpB_load F_sliceM wU wU q1 wU ?_); (try simp only [Act.put, pA, pB, pC])) | ((with_reducible refine wpB_when wU wU wU ?_); (try simp only [Act.put, pA, pB, pC])) | ((with_reducible refine wpQ_skip wU ?_); (try simp only [Act.put, pA, pB, pC])) |  ((with_reducible refine wpB_load (by first | exact F_int | exact F_u64s) wU wU (by assumption) wU ?_); (try simp only [Act.put, pA, pB, pC])) | ((refine wpQ_oneG ?_ wU (fun w' => ?_) ?_); rotate_left; (go_simp; rfl); (try simp only [Act.put, pA, pB, pC])))
 refine wpQuiet_nil ?_
 intro w1 hb1
 have hS1 := hS.mono hb1
 go_wp2_with (go_at_call 56; refine (mfirst_any _ _ [_, _, _, _] _ (reps_newN cIntS [_, _, _, _] 4 rfl (by decide) _ _ (by simp) rfl)).mono ?_; rw [firstE_head (by decide)]; rintro e w' ⟨rfl, rfl⟩)
 all_goals go_ret
 all_goals exact ⟨by rw [HV.out]; rfl, bal hS1.b _⟩
theorem cm_b01 (m : MacV) (ad : Option Addr) (cap : Nat) (w : World) (hR : Ints w ad cap m.sw) (hI : -9223372036854775808 ≤ m.gears ∧ m.gears ≤ 9223372036854775807) (hr : m.ring = false) (q : Int) (hq : m.gears.tmod 2 = q) (n1 : decide (m.gears < 1) = false) (hd2 : decide (16 < m.gears) = true) (ht : (m.turn != 1) = true) (HV : Hid (macE m = 3)) :
  Calls Tryz.prog 39 #[mV m ad cap] w fun r w' => r = .returned (.int .i64 (macE m)) ∧ Below w.heap.size w w' := by
 have hcap := hR.le
 have hmx := hR.max
 unfold mV
 rw [hr]
 clear hr
 go_enter Tryz.func39, Tryz.ntmps39
 go_wp2_with fail
 have hS := (SL.nil w).box (.cells #[.bool false, .int .i64 m.gears, .int .i64 m.turn, .slice ad m.sw.length cap] 24)
 have q1 := (hS.blk 0 rfl).1
 refine wp_region_qt 34 kR kR ?_
 simp only [List.take_succ_cons, List.take_zero, List.drop_succ_cons, List.drop_zero]
 repeat (first | ((with_reducible refine wpB_load F_boolM wU wU q1 wU ?_); (try simp only [Act.put, pA, pB, pC])) | ((with_reducible refine wpB_load F_sliceM wU wU q1 wU ?_); (try simp only [Act.put, pA, pB, pC])) | ((with_reducible refine wpB_when wU wU wU ?_); (try simp only [Act.put, pA, pB, pC])) | ((with_reducible refine wpQ_skip wU ?_); (try simp only [Act.put, pA, pB, pC])) |  ((with_reducible refine wpB_load (by first | exact F_int | exact F_u64s) wU wU (by assumption) wU ?_); (try simp only [Act.put, pA, pB, pC])) | ((refine wpQ_oneG ?_ wU (fun w' => ?_) ?_); rotate_left; (go_simp; rfl); (try simp only [Act.put, pA, pB, pC])))
 refine wpQuiet_nil ?_
 intro w1 hb1
 have hS1 := hS.mono hb1
 go_wp2_with (go_at_call 56; refine (mfirst_any _ _ [_, _, _, _] _ (reps_newN cIntS [_, _, _, _] 4 rfl (by decide) _ _ (by simp) rfl)).mono ?_; rw [firstE_head (by decide)]; rintro e w' ⟨rfl, rfl⟩)
 all_goals go_ret
 all_goals exact ⟨by rw [HV.out]; rfl, bal hS1.b _⟩
theorem cm_a10 (m : MacV) (ad : Option Addr) (cap : Nat) (w : World) (hR : Ints w ad cap m.sw) (hI : -9223372036854775808 ≤ m.gears ∧ m.gears ≤ 9223372036854775807) (hr : m.ring = true) (q : Int) (hq : m.gears.tmod 2 = q) (hd1 : decide (m.gears < 1) = true) (ht : (m.turn != 1) = false) (HV : Hid (macE m = 3)) :
  Calls Tryz.prog 39 #[mV m ad cap] w fun r w' => r = .returned (.int .i64 (macE m)) ∧ Below w.heap.size w w' := by
 have hcap := hR.le
 have hmx := hR.max
 unfold mV
 rw [hr]
 clear hr
 go_enter Tryz.func39, Tryz.ntmps39
 go_wp2_with fail
 have hS := (SL.nil w).box (.cells #[.bool true, .int .i64 m.gears, .int .i64 m.turn, .slice ad m.sw.length cap] 24)
 have q1 := (hS.blk 0 rfl).1
 refine wp_region_qt 34 kR kR ?_
 simp only [List.take_succ_cons, List.take_zero, List.drop_succ_cons, List.drop_zero]
 repeat (first | ((with_reducible refine wpB_load F_boolM wU wU q1 wU ?_); (try simp only [Act.put, pA, pB, pC])) | ((with_reducible refine wpB_load F_sliceM wU wU q1 wU ?_); (try simp only [Act.put, pA, pB, pC])) | ((with_reducible refine wpB_when wU wU wU ?_); (try simp only [Act.put, pA, pB, pC])) | ((with_reducible refine wpQ_skip wU ?_); (try simp only [Act.put, pA, pB, pC])) |  ((with_reducible refine wpB_load (by first | exact F_int | exact F_u64s) wU wU (by assumption) wU ?_); (try simp only [Act.put, pA, pB, pC])) | ((refine wpQ_oneG ?_ wU (fun w' => ?_) ?_); rotate_left; (go_simp; rfl); (try simp only [Act.put, pA, pB, pC])))
 refine wpQuiet_nil ?_
 intro w1 hb1
 have hS1 := hS.mono hb1
 go_wp2_with (go_at_call 56; refine (mfirst_any _ _ [_, _, _, _] _ (reps_newN cIntS [_, _, _, _] 4 rfl (by decide) _ _ (by simp) rfl)).mono ?_; rw [firstE_head (by decide)]; rintro e w' ⟨rfl, rfl⟩)
 all_goals go_ret
 all_goals exact ⟨by rw [HV.out]; rfl, bal hS1.b _⟩
theorem cm_b10 (m : MacV) (ad : Option Addr) (cap : Nat) (w : World) (hR : Ints w ad cap m.sw) (hI : -9223372036854775808 ≤ m.gears ∧ m.gears ≤ 9223372036854775807) (hr : m.ring = true) (q : Int) (hq : m.gears.tmod 2 = q) (n1 : decide (m.gears < 1) = false) (hd2 : decide (16 < m.gears) = true) (ht : (m.turn != 1) = false) (HV : Hid (macE m = 3)) :
  Calls Tryz.prog 39 #[mV m ad cap] w fun r w' => r = .returned (.int .i64 (macE m)) ∧ Below w.heap.size w w' := by
 have hcap := hR.le
 have hmx := hR.max
 unfold mV
 rw [hr]
 clear hr
 go_enter Tryz.func39, Tryz.ntmps39
 go_wp2_with fail
 have hS := (SL.nil w).box (.cells #[.bool true, .int .i64 m.gears, .int .i64 m.turn, .slice ad m.sw.length cap] 24)
 have q1 := (hS.blk 0 rfl).1
 refine wp_region_qt 34 kR kR ?_
 simp only [List.take_succ_cons, List.take_zero, List.drop_succ_cons, List.drop_zero]
 repeat (first | ((with_reducible refine wpB_load F_boolM wU wU q1 wU ?_); (try simp only [Act.put, pA, pB, pC])) | ((with_reducible refine wpB_load F_sliceM wU wU q1 wU ?_); (try simp only [Act.put, pA, pB, pC])) | ((with_reducible refine wpB_when wU wU wU ?_); (try simp only [Act.put, pA, pB, pC])) | ((with_reducible refine wpQ_skip wU ?_); (try simp only [Act.put, pA, pB, pC])) |  ((with_reducible refine wpB_load (by first | exact F_int | exact F_u64s) wU wU (by assumption) wU ?_); (try simp only [Act.put, pA, pB, pC])) | ((refine wpQ_oneG ?_ wU (fun w' => ?_) ?_); rotate_left; (go_simp; rfl); (try simp only [Act.put, pA, pB, pC])))
 refine wpQuiet_nil ?_
 intro w1 hb1
 have hS1 := hS.mono hb1
 go_wp2_with (go_at_call 56; refine (mfirst_any _ _ [_, _, _, _] _ (reps_newN cIntS [_, _, _, _] 4 rfl (by decide) _ _ (by simp) rfl)).mono ?_; rw [firstE_head (by decide)]; rintro e w' ⟨rfl, rfl⟩)
 all_goals go_ret
 all_goals exact ⟨by rw [HV.out]; rfl, bal hS1.b _⟩
theorem cm_a11 (m : MacV) (ad : Option Addr) (cap : Nat) (w : World) (hR : Ints w ad cap m.sw) (hI : -9223372036854775808 ≤ m.gears ∧ m.gears ≤ 9223372036854775807) (hr : m.ring = true) (q : Int) (hq : m.gears.tmod 2 = q) (hd1 : decide (m.gears < 1) = true) (ht : (m.turn != 1) = true) (HV : Hid (macE m = 3)) :
  Calls Tryz.prog 39 #[mV m ad cap] w fun r w' => r = .returned (.int .i64 (macE m)) ∧ Below w.heap.size w w' := by
 have hcap := hR.le
 have hmx := hR.max
 unfold mV
 rw [hr]
 clear hr
 go_enter Tryz.func39, Tryz.ntmps39
 go_wp2_with fail
 have hS := (SL.nil w).box (.cells #[.bool true, .int .i64 m.gears, .int .i64 m.turn, .slice ad m.sw.length cap] 24)
 have q1 := (hS.blk 0 rfl).1
 refine wp_region_qt 34 kR kR ?_
 simp only [List.take_succ_cons, List.take_zero, List.drop_succ_cons, List.drop_zero]
 repeat (first | ((with_reducible refine wpB_load F_boolM wU wU q1 wU ?_); (try simp only [Act.put, pA, pB, pC])) | ((with_reducible refine wpB_load F_sliceM wU wU q1 wU ?_); (try simp only [Act.put, pA, pB, pC])) | ((with_reducible refine wpB_when wU wU wU ?_); (try simp only [Act.put, pA, pB, pC])) | ((with_reducible refine wpQ_skip wU ?_); (try simp only [Act.put, pA, pB, pC])) |  ((with_reducible refine wpB_load (by first | exact F_int | exact F_u64s) wU wU (by assumption) wU ?_); (try simp only [Act.put, pA, pB, pC])) | ((refine wpQ_oneG ?_ wU (fun w' => ?_) ?_); rotate_left; (go_simp; rfl); (try simp only [Act.put, pA, pB, pC])))
 refine wpQuiet_nil ?_
 intro w1 hb1
 have hS1 := hS.mono hb1
 go_wp2_with (go_at_call 56; refine (mfirst_any _ _ [_, _, _, _] _ (reps_newN cIntS [_, _, _, _] 4 rfl (by decide) _ _ (by simp) rfl)).mono ?_; rw [firstE_head (by decide)]; rintro e w' ⟨rfl, rfl⟩)
 all_goals go_ret
 all_goals exact ⟨by rw [HV.out]; rfl, bal hS1.b _⟩
theorem cm_b11 (m : MacV) (ad : Option Addr) (cap : Nat) (w : World) (hR : Ints w ad cap m.sw) (hI : -9223372036854775808 ≤ m.gears ∧ m.gears ≤ 9223372036854775807) (hr : m.ring = true) (q : Int) (hq : m.gears.tmod 2 = q) (n1 : decide (m.gears < 1) = false) (hd2 : decide (16 < m.gears) = true) (ht : (m.turn != 1) = true) (HV : Hid (macE m = 3)) :
  Calls Tryz.prog 39 #[mV m ad cap] w fun r w' => r = .returned (.int .i64 (macE m)) ∧ Below w.heap.size w w' := by
 have hcap := hR.le
 have hmx := hR.max
 unfold mV
 rw [hr]
 clear hr
 go_enter Tryz.func39, Tryz.ntmps39
 go_wp2_with fail
 have hS := (SL.nil w).box (.cells #[.bool true, .int .i64 m.gears, .int .i64 m.turn, .slice ad m.sw.length cap] 24)
 have q1 := (hS.blk 0 rfl).1
 refine wp_region_qt 34 kR kR ?_
 simp only [List.take_succ_cons, List.take_zero, List.drop_succ_cons, List.drop_zero]
 repeat (first | ((with_reducible refine wpB_load F_boolM wU wU q1 wU ?_); (try simp only [Act.put, pA, pB, pC])) | ((with_reducible refine wpB_load F_sliceM wU wU q1 wU ?_); (try simp only [Act.put, pA, pB, pC])) | ((with_reducible refine wpB_when wU wU wU ?_); (try simp only [Act.put, pA, pB, pC])) | ((with_reducible refine wpQ_skip wU ?_); (try simp only [Act.put, pA, pB, pC])) |  ((with_reducible refine wpB_load (by first | exact F_int | exact F_u64s) wU wU (by assumption) wU ?_); (try simp only [Act.put, pA, pB, pC])) | ((refine wpQ_oneG ?_ wU (fun w' => ?_) ?_); rotate_left; (go_simp; rfl); (try simp only [Act.put, pA, pB, pC])))
 refine wpQuiet_nil ?_
 intro w1 hb1
 have hS1 := hS.mono hb1
 go_wp2_with (go_at_call 56; refine (mfirst_any _ _ [_, _, _, _] _ (reps_newN cIntS [_, _, _, _] 4 rfl (by decide) _ _ (by simp) rfl)).mono ?_; rw [firstE_head (by decide)]; rintro e w' ⟨rfl, rfl⟩)
 all_goals go_ret
 all_goals exact ⟨by rw [HV.out]; rfl, bal hS1.b _⟩
theorem cm_c0 (m : MacV) (ad : Option Addr) (cap : Nat) (w : World) (hR : Ints w ad cap m.sw) (hI : -9223372036854775808 ≤ m.gears ∧ m.gears ≤ 9223372036854775807) (hr : m.ring = true) (q : Int) (hq : m.gears.tmod 2 = q) (r1 : 1 ≤ m.gears) (r2 : m.gears ≤ 16) (n1 : decide (m.gears < 1) = false) (n2 : decide (16 < m.gears) = false) (hq1 : (q == 1) = true) (ht : (m.turn != 1) = false) (HV : Hid (macE m = 17)) :
  Calls Tryz.prog 39 #[mV m ad cap] w fun r w' => r = .returned (.int .i64 (macE m)) ∧ Below w.heap.size w w' := by
 have hcap := hR.le
 have hmx := hR.max
 unfold mV
 rw [hr]
 clear hr
 go_enter Tryz.func39, Tryz.ntmps39
 go_wp2_with fail
 have hS := (SL.nil w).box (.cells #[.bool true, .int .i64 m.gears, .int .i64 m.turn, .slice ad m.sw.length cap] 24)
 have q1 := (hS.blk 0 rfl).1
 refine wp_region_qt 34 kR kR ?_
 simp only [List.take_succ_cons, List.take_zero, List.drop_succ_cons, List.drop_zero]
 repeat (first | ((with_reducible refine wpB_load F_boolM wU wU q1 wU ?_); (try simp only [Act.put, pA, pB, pC])) | ((with_reducible refine wpB_load F_sliceM wU wU q1 wU ?_); (try simp only [Act.put, pA, pB, pC])) | ((with_reducible refine wpB_when wU wU wU ?_); (try simp only [Act.put, pA, pB, pC])) | ((with_reducible refine wpQ_skip wU ?_); (try simp only [Act.put, pA, pB, pC])) |  ((with_reducible refine wpB_load (by first | exact F_int | exact F_u64s) wU wU (by assumption) wU ?_); (try simp only [Act.put, pA, pB, pC])) | ((refine wpQ_oneG ?_ wU (fun w' => ?_) ?_); rotate_left; (go_simp; rfl); (try simp only [Act.put, pA, pB, pC])))
 refine wpQuiet_nil ?_
 intro w1 hb1
 have hS1 := hS.mono hb1
 go_wp2_with (go_at_call 56; refine (mfirst_any _ _ [_, _, _, _] _ (reps_newN cIntS [_, _, _, _] 4 rfl (by decide) _ _ (by simp) rfl)).mono ?_; rw [firstE_z, firstE_head (by decide)]; rintro e w' ⟨rfl, rfl⟩)
 all_goals go_ret
 all_goals exact ⟨by rw [HV.out]; rfl, bal hS1.b _⟩
theorem cm_c1 (m : MacV) (ad : Option Addr) (cap : Nat) (w : World) (hR : Ints w ad cap m.sw) (hI : -9223372036854775808 ≤ m.gears ∧ m.gears ≤ 9223372036854775807) (hr : m.ring = true) (q : Int) (hq : m.gears.tmod 2 = q) (r1 : 1 ≤ m.gears) (r2 : m.gears ≤ 16) (n1 : decide (m.gears < 1) = false) (n2 : decide (16 < m.gears) = false) (hq1 : (q == 1) = true) (ht : (m.turn != 1) = true) (HV : Hid (macE m = 17)) :
  Calls Tryz.prog 39 #[mV m ad cap] w fun r w' => r = .returned (.int .i64 (macE m)) ∧ Below w.heap.size w w' := by
 have hcap := hR.le
 have hmx := hR.max
 unfold mV
 rw [hr]
 clear hr
 go_enter Tryz.func39, Tryz.ntmps39
 go_wp2_with fail
 have hS := (SL.nil w).box (.cells #[.bool true, .int .i64 m.gears, .int .i64 m.turn, .slice ad m.sw.length cap] 24)
 have q1 := (hS.blk 0 rfl).1
 refine wp_region_qt 34 kR kR ?_
 simp only [List.take_succ_cons, List.take_zero, List.drop_succ_cons, List.drop_zero]
 repeat (first | ((with_reducible refine wpB_load F_boolM wU wU q1 wU ?_); (try simp only [Act.put, pA, pB, pC])) | ((with_reducible refine wpB_load F_sliceM wU wU q1 wU ?_); (try simp only [Act.put, pA, pB, pC])) | ((with_reducible refine wpB_when wU wU wU ?_); (try simp only [Act.put, pA, pB, pC])) | ((with_reducible refine wpQ_skip wU ?_); (try simp only [Act.put, pA, pB, pC])) |  ((with_reducible refine wpB_load (by first | exact F_int | exact F_u64s) wU wU (by assumption) wU ?_); (try simp only [Act.put, pA, pB, pC])) | ((refine wpQ_oneG ?_ wU (fun w' => ?_) ?_); rotate_left; (go_simp; rfl); (try simp only [Act.put, pA, pB, pC])))
 refine wpQuiet_nil ?_
 intro w1 hb1
 have hS1 := hS.mono hb1
 go_wp2_with (go_at_call 56; refine (mfirst_any _ _ [_, _, _, _] _ (reps_newN cIntS [_, _, _, _] 4 rfl (by decide) _ _ (by simp) rfl)).mono ?_; rw [firstE_z, firstE_head (by decide)]; rintro e w' ⟨rfl, rfl⟩)
 all_goals go_ret
 all_goals exact ⟨by rw [HV.out]; rfl, bal hS1.b _⟩
theorem cm_d0 (m : MacV) (ad : Option Addr) (cap : Nat) (w : World) (hR : Ints w ad cap m.sw) (hI : -9223372036854775808 ≤ m.gears ∧ m.gears ≤ 9223372036854775807) (hr : m.ring = false) (q : Int) (hq : m.gears.tmod 2 = q) (r1 : 1 ≤ m.gears) (r2 : m.gears ≤ 16) (n1 : decide (m.gears < 1) = false) (n2 : decide (16 < m.gears) = false)  (ht : (m.turn != 1) = true) (htn : (m.turn != -1) = true) (HV : Hid (macE m = 3)) :
  Calls Tryz.prog 39 #[mV m ad cap] w fun r w' => r = .returned (.int .i64 (macE m)) ∧ Below w.heap.size w w' := by
 have hcap := hR.le
 have hmx := hR.max
 unfold mV
 rw [hr]
 clear hr
 go_enter Tryz.func39, Tryz.ntmps39
 go_wp2_with fail
 have hS := (SL.nil w).box (.cells #[.bool false, .int .i64 m.gears, .int .i64 m.turn, .slice ad m.sw.length cap] 24)
 have q1 := (hS.blk 0 rfl).1
 refine wp_region_qt 34 kR kR ?_
 simp only [List.take_succ_cons, List.take_zero, List.drop_succ_cons, List.drop_zero]
 repeat (first | ((with_reducible refine wpB_load F_boolM wU wU q1 wU ?_); (try simp only [Act.put, pA, pB, pC])) | ((with_reducible refine wpB_load F_sliceM wU wU q1 wU ?_); (try simp only [Act.put, pA, pB, pC])) | ((with_reducible refine wpB_when wU wU wU ?_); (try simp only [Act.put, pA, pB, pC])) | ((with_reducible refine wpQ_skip wU ?_); (try simp only [Act.put, pA, pB, pC])) |  ((with_reducible refine wpB_load (by first | exact F_int | exact F_u64s) wU wU (by assumption) wU ?_); (try simp only [Act.put, pA, pB, pC])) | ((refine wpQ_oneG ?_ wU (fun w' => ?_) ?_); rotate_left; (go_simp; rfl); (try simp only [Act.put, pA, pB, pC])))
 refine wpQuiet_nil ?_
 intro w1 hb1
 have hS1 := hS.mono hb1
 go_wp2_with (go_at_call 56; refine (mfirst_any _ _ [_, _, _, _] _ (reps_newN cIntS [_, _, _, _] 4 rfl (by decide) _ _ (by simp) rfl)).mono ?_; rw [firstE_z, firstE_z, firstE_head (by decide)]; rintro e w' ⟨rfl, rfl⟩)
 all_goals go_ret
 all_goals exact ⟨by rw [HV.out]; rfl, bal hS1.b _⟩
theorem cm_d1 (m : MacV) (ad : Option Addr) (cap : Nat) (w : World) (hR : Ints w ad cap m.sw) (hI : -9223372036854775808 ≤ m.gears ∧ m.gears ≤ 9223372036854775807) (hr : m.ring = true) (q : Int) (hq : m.gears.tmod 2 = q) (r1 : 1 ≤ m.gears) (r2 : m.gears ≤ 16) (n1 : decide (m.gears < 1) = false) (n2 : decide (16 < m.gears) = false) (hqb : (q == 1) = false) (ht : (m.turn != 1) = true) (htn : (m.turn != -1) = true) (HV : Hid (macE m = 3)) :
  Calls Tryz.prog 39 #[mV m ad cap] w fun r w' => r = .returned (.int .i64 (macE m)) ∧ Below w.heap.size w w' := by
 have hcap := hR.le
 have hmx := hR.max
 unfold mV
 rw [hr]
 clear hr
 go_enter Tryz.func39, Tryz.ntmps39
 go_wp2_with fail
 have hS := (SL.nil w).box (.cells #[.bool true, .int .i64 m.gears, .int .i64 m.turn, .slice ad m.sw.length cap] 24)
 have q1 := (hS.blk 0 rfl).1
 refine wp_region_qt 34 kR kR ?_
 simp only [List.take_succ_cons, List.take_zero, List.drop_succ_cons, List.drop_zero]
 repeat (first | ((with_reducible refine wpB_load F_boolM wU wU q1 wU ?_); (try simp only [Act.put, pA, pB, pC])) | ((with_reducible refine wpB_load F_sliceM wU wU q1 wU ?_); (try simp only [Act.put, pA, pB, pC])) | ((with_reducible refine wpB_when wU wU wU ?_); (try simp only [Act.put, pA, pB, pC])) | ((with_reducible refine wpQ_skip wU ?_); (try simp only [Act.put, pA, pB, pC])) |  ((with_reducible refine wpB_load (by first | exact F_int | exact F_u64s) wU wU (by assumption) wU ?_); (try simp only [Act.put, pA, pB, pC])) | ((refine wpQ_oneG ?_ wU (fun w' => ?_) ?_); rotate_left; (go_simp; rfl); (try simp only [Act.put, pA, pB, pC])))
 refine wpQuiet_nil ?_
 intro w1 hb1
 have hS1 := hS.mono hb1
 go_wp2_with (go_at_call 56; refine (mfirst_any _ _ [_, _, _, _] _ (reps_newN cIntS [_, _, _, _] 4 rfl (by decide) _ _ (by simp) rfl)).mono ?_; rw [firstE_z, firstE_z, firstE_head (by decide)]; rintro e w' ⟨rfl, rfl⟩)
 all_goals go_ret
 all_goals exact ⟨by rw [HV.out]; rfl, bal hS1.b _⟩
theorem cm_e00 (m : MacV) (ad : Option Addr) (cap : Nat) (w : World) (hR : Ints w ad cap m.sw) (hI : -9223372036854775808 ≤ m.gears ∧ m.gears ≤ 9223372036854775807) (hr : m.ring = false) (q : Int) (hq : m.gears.tmod 2 = q) (r1 : 1 ≤ m.gears) (r2 : m.gears ≤ 16) (n1 : decide (m.gears < 1) = false) (n2 : decide (16 < m.gears) = false)  (ht : (m.turn != 1) = false)  (hd5 : decide (m.gears < m.sw.length) = true) (HV : Hid (macE m = 5)) :
  Calls Tryz.prog 39 #[mV m ad cap] w fun r w' => r = .returned (.int .i64 (macE m)) ∧ Below w.heap.size w w' := by
 have hcap := hR.le
 have hmx := hR.max
 unfold mV
 rw [hr]
 clear hr
 go_enter Tryz.func39, Tryz.ntmps39
 go_wp2_with fail
 have hS := (SL.nil w).box (.cells #[.bool false, .int .i64 m.gears, .int .i64 m.turn, .slice ad m.sw.length cap] 24)
 have q1 := (hS.blk 0 rfl).1
 refine wp_region_qt 34 kR kR ?_
 simp only [List.take_succ_cons, List.take_zero, List.drop_succ_cons, List.drop_zero]
 repeat (first | ((with_reducible refine wpB_load F_boolM wU wU q1 wU ?_); (try simp only [Act.put, pA, pB, pC])) | ((with_reducible refine wpB_load F_sliceM wU wU q1 wU ?_); (try simp only [Act.put, pA, pB, pC])) | ((with_reducible refine wpB_when wU wU wU ?_); (try simp only [Act.put, pA, pB, pC])) | ((with_reducible refine wpQ_skip wU ?_); (try simp only [Act.put, pA, pB, pC])) |  ((with_reducible refine wpB_load (by first | exact F_int | exact F_u64s) wU wU (by assumption) wU ?_); (try simp only [Act.put, pA, pB, pC])) | ((refine wpQ_oneG ?_ wU (fun w' => ?_) ?_); rotate_left; (go_simp; rfl); (try simp only [Act.put, pA, pB, pC])))
 refine wpQuiet_nil ?_
 intro w1 hb1
 have hS1 := hS.mono hb1
 go_wp2_with (go_at_call 56; refine (mfirst_any _ _ [_, _, _, _] _ (reps_newN cIntS [_, _, _, _] 4 rfl (by decide) _ _ (by simp) rfl)).mono ?_; rw [firstE_z, firstE_z, firstE_z, firstE_head (by decide)]; rintro e w' ⟨rfl, rfl⟩)
 all_goals go_ret
 all_goals exact ⟨by rw [HV.out]; rfl, bal hS1.b _⟩
theorem cm_e01 (m : MacV) (ad : Option Addr) (cap : Nat) (w : World) (hR : Ints w ad cap m.sw) (hI : -9223372036854775808 ≤ m.gears ∧ m.gears ≤ 9223372036854775807) (hr : m.ring = false) (q : Int) (hq : m.gears.tmod 2 = q) (r1 : 1 ≤ m.gears) (r2 : m.gears ≤ 16) (n1 : decide (m.gears < 1) = false) (n2 : decide (16 < m.gears) = false)  (ht : (m.turn != 1) = true) (htn : (m.turn != -1) = false) (hd5 : decide (m.gears < m.sw.length) = true) (HV : Hid (macE m = 5)) :
  Calls Tryz.prog 39 #[mV m ad cap] w fun r w' => r = .returned (.int .i64 (macE m)) ∧ Below w.heap.size w w' := by
 have hcap := hR.le
 have hmx := hR.max
 unfold mV
 rw [hr]
 clear hr
 go_enter Tryz.func39, Tryz.ntmps39
 go_wp2_with fail
 have hS := (SL.nil w).box (.cells #[.bool false, .int .i64 m.gears, .int .i64 m.turn, .slice ad m.sw.length cap] 24)
 have q1 := (hS.blk 0 rfl).1
 refine wp_region_qt 34 kR kR ?_
 simp only [List.take_succ_cons, List.take_zero, List.drop_succ_cons, List.drop_zero]
 repeat (first | ((with_reducible refine wpB_load F_boolM wU wU q1 wU ?_); (try simp only [Act.put, pA, pB, pC])) | ((with_reducible refine wpB_load F_sliceM wU wU q1 wU ?_); (try simp only [Act.put, pA, pB, pC])) | ((with_reducible refine wpB_when wU wU wU ?_); (try simp only [Act.put, pA, pB, pC])) | ((with_reducible refine wpQ_skip wU ?_); (try simp only [Act.put, pA, pB, pC])) |  ((with_reducible refine wpB_load (by first | exact F_int | exact F_u64s) wU wU (by assumption) wU ?_); (try simp only [Act.put, pA, pB, pC])) | ((refine wpQ_oneG ?_ wU (fun w' => ?_) ?_); rotate_left; (go_simp; rfl); (try simp only [Act.put, pA, pB, pC])))
 refine wpQuiet_nil ?_
 intro w1 hb1
 have hS1 := hS.mono hb1
 go_wp2_with (go_at_call 56; refine (mfirst_any _ _ [_, _, _, _] _ (reps_newN cIntS [_, _, _, _] 4 rfl (by decide) _ _ (by simp) rfl)).mono ?_; rw [firstE_z, firstE_z, firstE_z, firstE_head (by decide)]; rintro e w' ⟨rfl, rfl⟩)
 all_goals go_ret
 all_goals exact ⟨by rw [HV.out]; rfl, bal hS1.b _⟩
theorem cm_e10 (m : MacV) (ad : Option Addr) (cap : Nat) (w : World) (hR : Ints w ad cap m.sw) (hI : -9223372036854775808 ≤ m.gears ∧ m.gears ≤ 9223372036854775807) (hr : m.ring = true) (q : Int) (hq : m.gears.tmod 2 = q) (r1 : 1 ≤ m.gears) (r2 : m.gears ≤ 16) (n1 : decide (m.gears < 1) = false) (n2 : decide (16 < m.gears) = false) (hqb : (q == 1) = false) (ht : (m.turn != 1) = false)  (hd5 : decide (m.gears < m.sw.length) = true) (HV : Hid (macE m = 5)) :
  Calls Tryz.prog 39 #[mV m ad cap] w fun r w' => r = .returned (.int .i64 (macE m)) ∧ Below w.heap.size w w' := by
 have hcap := hR.le
 have hmx := hR.max
 unfold mV
 rw [hr]
 clear hr
 go_enter Tryz.func39, Tryz.ntmps39
 go_wp2_with fail
 have hS := (SL.nil w).box (.cells #[.bool true, .int .i64 m.gears, .int .i64 m.turn, .slice ad m.sw.length cap] 24)
 have q1 := (hS.blk 0 rfl).1
 refine wp_region_qt 34 kR kR ?_
 simp only [List.take_succ_cons, List.take_zero, List.drop_succ_cons, List.drop_zero]
 repeat (first | ((with_reducible refine wpB_load F_boolM wU wU q1 wU ?_); (try simp only [Act.put, pA, pB, pC])) | ((with_reducible refine wpB_load F_sliceM wU wU q1 wU ?_); (try simp only [Act.put, pA, pB, pC])) | ((with_reducible refine wpB_when wU wU wU ?_); (try simp only [Act.put, pA, pB, pC])) | ((with_reducible refine wpQ_skip wU ?_); (try simp only [Act.put, pA, pB, pC])) |  ((with_reducible refine wpB_load (by first | exact F_int | exact F_u64s) wU wU (by assumption) wU ?_); (try simp only [Act.put, pA, pB, pC])) | ((refine wpQ_oneG ?_ wU (fun w' => ?_) ?_); rotate_left; (go_simp; rfl); (try simp only [Act.put, pA, pB, pC])))
 refine wpQuiet_nil ?_
 intro w1 hb1
 have hS1 := hS.mono hb1
 go_wp2_with (go_at_call 56; refine (mfirst_any _ _ [_, _, _, _] _ (reps_newN cIntS [_, _, _, _] 4 rfl (by decide) _ _ (by simp) rfl)).mono ?_; rw [firstE_z, firstE_z, firstE_z, firstE_head (by decide)]; rintro e w' ⟨rfl, rfl⟩)
 all_goals go_ret
 all_goals exact ⟨by rw [HV.out]; rfl, bal hS1.b _⟩
theorem cm_e11 (m : MacV) (ad : Option Addr) (cap : Nat) (w : World) (hR : Ints w ad cap m.sw) (hI : -9223372036854775808 ≤ m.gears ∧ m.gears ≤ 9223372036854775807) (hr : m.ring = true) (q : Int) (hq : m.gears.tmod 2 = q) (r1 : 1 ≤ m.gears) (r2 : m.gears ≤ 16) (n1 : decide (m.gears < 1) = false) (n2 : decide (16 < m.gears) = false) (hqb : (q == 1) = false) (ht : (m.turn != 1) = true) (htn : (m.turn != -1) = false) (hd5 : decide (m.gears < m.sw.length) = true) (HV : Hid (macE m = 5)) :
  Calls Tryz.prog 39 #[mV m ad cap] w fun r w' => r = .returned (.int .i64 (macE m)) ∧ Below w.heap.size w w' := by
 have hcap := hR.le
 have hmx := hR.max
 unfold mV
 rw [hr]
 clear hr
 go_enter Tryz.func39, Tryz.ntmps39
 go_wp2_with fail
 have hS := (SL.nil w).box (.cells #[.bool true, .int .i64 m.gears, .int .i64 m.turn, .slice ad m.sw.length cap] 24)
 have q1 := (hS.blk 0 rfl).1
 refine wp_region_qt 34 kR kR ?_
 simp only [List.take_succ_cons, List.take_zero, List.drop_succ_cons, List.drop_zero]
 repeat (first | ((with_reducible refine wpB_load F_boolM wU wU q1 wU ?_); (try simp only [Act.put, pA, pB, pC])) | ((with_reducible refine wpB_load F_sliceM wU wU q1 wU ?_); (try simp only [Act.put, pA, pB, pC])) | ((with_reducible refine wpB_when wU wU wU ?_); (try simp only [Act.put, pA, pB, pC])) | ((with_reducible refine wpQ_skip wU ?_); (try simp only [Act.put, pA, pB, pC])) |  ((with_reducible refine wpB_load (by first | exact F_int | exact F_u64s) wU wU (by assumption) wU ?_); (try simp only [Act.put, pA, pB, pC])) | ((refine wpQ_oneG ?_ wU (fun w' => ?_) ?_); rotate_left; (go_simp; rfl); (try simp only [Act.put, pA, pB, pC])))
 refine wpQuiet_nil ?_
 intro w1 hb1
 have hS1 := hS.mono hb1
 go_wp2_with (go_at_call 56; refine (mfirst_any _ _ [_, _, _, _] _ (reps_newN cIntS [_, _, _, _] 4 rfl (by decide) _ _ (by simp) rfl)).mono ?_; rw [firstE_z, firstE_z, firstE_z, firstE_head (by decide)]; rintro e w' ⟨rfl, rfl⟩)
 all_goals go_ret
 all_goals exact ⟨by rw [HV.out]; rfl, bal hS1.b _⟩
end Go.Proofs.YtndmeaoidihikaaGreatDoor

namespace Go.Proofs.YtndmeaoidihikaaGreatDoor
open Go.RowKit
set_option maxHeartbeats 8000000
set_option maxRecDepth 100000

theorem cm_f00 (m : MacV) (ad : Option Addr) (cap : Nat) (w : World) (hR : Ints w ad cap m.sw) (hI : -9223372036854775808 ≤ m.gears ∧ m.gears ≤ 9223372036854775807) (hr : m.ring = false) (q : Int) (hq : m.gears.tmod 2 = q) (r1 : 1 ≤ m.gears) (r2 : m.gears ≤ 16) (n1 : decide (m.gears < 1) = false) (n2 : decide (16 < m.gears) = false)  (ht : (m.turn != 1) = false)  (n5 : decide (m.gears < m.sw.length) = false) (h5 : m.sw.length ≤ 16) (HV : Hid (macE m = swGo m none m.sw)) :
  Calls Tryz.prog 39 #[mV m ad cap] w fun r w' => r = .returned (.int .i64 (macE m)) ∧ Below w.heap.size w w' := by
 have hcap := hR.le
 have hmx := hR.max
 have HSh := hid (fun p w => shared_any m ad cap p w)
 unfold mV at HSh
 rw [hr] at HSh
 unfold mV
 rw [hr]
 clear hr
 go_enter Tryz.func39, Tryz.ntmps39
 go_wp2_with fail
 have hS := (SL.nil w).box (.cells #[.bool false, .int .i64 m.gears, .int .i64 m.turn, .slice ad m.sw.length cap] 24)
 have q1 := (hS.blk 0 rfl).1
 refine wp_region_qt 34 kR kR ?_
 simp only [List.take_succ_cons, List.take_zero, List.drop_succ_cons, List.drop_zero]
 repeat (first | ((with_reducible refine wpB_load F_boolM wU wU q1 wU ?_); (try simp only [Act.put, pA, pB, pC])) | ((with_reducible refine wpB_load F_sliceM wU wU q1 wU ?_); (try simp only [Act.put, pA, pB, pC])) | ((with_reducible refine wpB_when wU wU wU ?_); (try simp only [Act.put, pA, pB, pC])) | ((with_reducible refine wpQ_skip wU ?_); (try simp only [Act.put, pA, pB, pC])) |  ((with_reducible refine wpB_load (by first | exact F_int | exact F_u64s) wU wU (by assumption) wU ?_); (try simp only [Act.put, pA, pB, pC])) | ((refine wpQ_oneG ?_ wU (fun w' => ?_) ?_); rotate_left; (go_simp; rfl); (try simp only [Act.put, pA, pB, pC])))
 refine wpQuiet_nil ?_
 intro w1 hb1
 have hS1 := hS.mono hb1
 have hS2 := hS1.al (.cells #[.int .i64 0, .int .i64 0, .int .i64 0, .int .i64 0] 29)
 have q3 := (hS2.blk 0 rfl).1
 go_wp2_with (first | (go_at_call 56; refine (mfirst_any _ _ [_, _, _, _] _ (reps_newN cIntS [_, _, _, _] 4 rfl (by decide) _ _ (by simp) rfl)).mono ?_; rw [firstE_z, firstE_z, firstE_z, firstE_z, firstE_nil]; rintro e w' ⟨rfl, rfl⟩) | (with_reducible refine wpList_ldB F_sliceM wU wU q3 wU ?_))
 clear q1 q3 hS hS1
 go_loopw [49, 4, 5, 6] (fun i _ _ _ wr => ∃ (k : Nat) (o : Option Int), k ≤ m.sw.length ∧ i = .int .i64 k ∧ (o = if k = 0 then none else some (atD 0 m.sw ((k : Int) - 1))) ∧ swGo m o (m.sw.drop k) = swGo m none m.sw ∧ SL w.heap.size w wr [pBlk w.heap.size (.cells #[.bool false, .int .i64 m.gears, .int .i64 m.turn, .slice ad m.sw.length cap] 24)]) (fun i _ _ _ _ => m.sw.length - (intOf i).toNat)
 case atStart => exact ⟨0, none, by omega, rfl, rfl, rfl, hS2⟩
 case round =>
  clear hS2
  obtain ⟨k, o, hk, rfl, ho, hgo, hSr⟩ := hrel
  have q3 := (hSr.blk 0 rfl).1
  have hRr := hR.below hSr.b
  by_cases hlt : k < m.sw.length
  ·have hst := swGo_step m k hlt o
   rw [hgo] at hst
   obtain ⟨x, hxx⟩ : ∃ x, x = atD 0 m.sw k := ⟨_, rfl⟩
   rw [← hxx] at hst
   have HXX := hid hxx
   have CS := fun w => HSh.out x w
   clear hxx hgo
   cases hsh : sharedM m x
   ·rw [hsh] at CS hst
    rw [if_pos rfl] at hst
    have HC := hid CS; have HST := hid hst
    clear CS hst ho hsh
    by_cases hk0 : k = 0
    ·have hk1 : decide (0 < (k : Int)) = false := by simp [hk0]
     have hk2 : ¬ 0 < (k : Int) := by omega
     clear hk0
     go_wp2_with (first | ((with_reducible refine wpList_idx _ 0 E_ints F_int cInt1 wU wU (hRr) oD oD (fun _ => wU) (fun _ => ?_)); rw [← HXX.out]) | (with_reducible refine wpList_ldS (n := 4) (us := #[.bool false, .int .i64 m.gears, .int .i64 m.turn, .slice ad m.sw.length cap]) A_mach kR wU wU (by assumption) wU wU ?_))
     refine (HC.out _).mono ?_
     rintro e w4 ⟨rfl, b4⟩
     have hS4 := hSr.mono b4
     have q4 := (hS4.blk 0 rfl).1
     go_wp2_with (first | (go_at_call 55; refine (mwhen_any _ _ _).mono ?_; rintro e w' ⟨rfl, rfl⟩) | (go_at_call 56; refine (mfirst_any _ _ [_, _] _ (reps_newN cIntS [_, _] 2 rfl (by decide) _ _ (by simp) rfl)).mono ?_; (first | rw [firstE_head (by decide)] | rw [firstE_z, firstE_head (by decide)] | rw [firstE_z, firstE_z, firstE_nil]); rintro e w' ⟨rfl, rfl⟩))
     go_ret
     exact ⟨by rw [HV.out, HST.out]; rfl, bal hS4.b _⟩
    ·have hk1 : decide (0 < (k : Int)) = true := by simp; omega
     have hk2 : 0 < (k : Int) := by omega
     have hkm : max 0 ((k : Int) - 1) = (k : Int) - 1 := by omega
     have hkl : (k : Int) - 1 < m.sw.length := by omega
     go_wp2_with (first | ((with_reducible refine wpList_idx _ 0 E_ints F_int cInt1 wU wU (hRr) oD oD (fun _ => wU) (fun _ => ?_)); rw [← HXX.out]) | (with_reducible refine wpList_ldS (n := 4) (us := #[.bool false, .int .i64 m.gears, .int .i64 m.turn, .slice ad m.sw.length cap]) A_mach kR wU wU (by assumption) wU wU ?_))
     refine (HC.out _).mono ?_
     rintro e w4 ⟨rfl, b4⟩
     have hS4 := hSr.mono b4
     have q3 := (hS4.blk 0 rfl).1
     have hR4 := hR.below hS4.b
     go_wp2_with (first | (go_at_call 55; refine (mwhen_any _ _ _).mono ?_; rintro e w' ⟨rfl, rfl⟩) | (with_reducible refine wpList_ldB F_sliceM wU wU q3 wU ?_) | (with_reducible refine wpList_idxG 0 E_ints F_int cInt1 wU wU (hR4) (rfl) oD oD (fun _ => wU) wU (fun _ => wU) (fun _ => ?_)) | (go_at_call 56; refine (mfirst_any _ _ [_, _] _ (reps_newN cIntS [_, _] 2 rfl (by decide) _ _ (by simp) rfl)).mono ?_; (first | rw [firstE_head (by decide)] | rw [firstE_z, firstE_head (by decide)] | rw [firstE_z, firstE_z, firstE_nil]); rintro e w' ⟨rfl, rfl⟩))
     all_goals go_ret
     all_goals exact ⟨by rw [HV.out, HST.out]; rfl, bal hS4.b _⟩
   ·rw [hsh] at CS hst
    rw [if_neg (by decide)] at hst
    have HC := hid CS
    clear CS hsh
    by_cases hk0 : k = 0
    ·have hk1 : decide (0 < (k : Int)) = false := by simp [hk0]
     have hk2 : ¬ 0 < (k : Int) := by omega
     rw [ho, if_pos hk0] at hst
     have HST := hid hst; have HK0 := hid hk0
     clear hk0 hst ho
     go_wp2_with (first | ((with_reducible refine wpList_idx _ 0 E_ints F_int cInt1 wU wU (hRr) oD oD (fun _ => wU) (fun _ => ?_)); rw [← HXX.out]) | (with_reducible refine wpList_ldS (n := 4) (us := #[.bool false, .int .i64 m.gears, .int .i64 m.turn, .slice ad m.sw.length cap]) A_mach kR wU wU (by assumption) wU wU ?_))
     refine (HC.out _).mono ?_
     rintro e w4 ⟨rfl, b4⟩
     have hS4 := hSr.mono b4
     go_wp2_with (first | (go_at_call 55; refine (mwhen_any _ _ _).mono ?_; rintro e w' ⟨rfl, rfl⟩) | (go_at_call 56; refine (mfirst_any _ _ [_, _] _ (reps_newN cIntS [_, _] 2 rfl (by decide) _ _ (by simp) rfl)).mono ?_; (first | rw [firstE_head (by decide)] | rw [firstE_z, firstE_head (by decide)] | rw [firstE_z, firstE_z, firstE_nil]); rintro e w' ⟨rfl, rfl⟩))
     exact ⟨⟨k + 1, some x, by omega, by go_num, by rw [if_neg (by omega), HXX.out]; simp, HST.out.symm, hS4.al _⟩, by simp [intOf]; omega⟩
    ·have hk1 : decide (0 < (k : Int)) = true := by simp; omega
     have hk2 : 0 < (k : Int) := by omega
     have hkm : max 0 ((k : Int) - 1) = (k : Int) - 1 := by omega
     have hkl : (k : Int) - 1 < m.sw.length := by omega
     rw [ho, if_neg hk0] at hst
     simp only at hst
     obtain ⟨y, hyy⟩ : ∃ y, y = atD 0 m.sw ((k : Int) - 1) := ⟨_, rfl⟩
     rw [← hyy] at hst
     have HYY := hid hyy
     clear hyy ho
     by_cases hxy : x ≤ y
     ·rw [if_pos hxy] at hst
      have HST := hid hst
      clear hst
      go_wp2_with (first | ((with_reducible refine wpList_idx _ 0 E_ints F_int cInt1 wU wU (hRr) oD oD (fun _ => wU) (fun _ => ?_)); rw [← HXX.out]) | (with_reducible refine wpList_ldS (n := 4) (us := #[.bool false, .int .i64 m.gears, .int .i64 m.turn, .slice ad m.sw.length cap]) A_mach kR wU wU (by assumption) wU wU ?_))
      refine (HC.out _).mono ?_
      rintro e w4 ⟨rfl, b4⟩
      have hS4 := hSr.mono b4
      have q3 := (hS4.blk 0 rfl).1
      have hR4 := hR.below hS4.b
      go_wp2_with (first | (go_at_call 55; refine (mwhen_any _ _ _).mono ?_; rintro e w' ⟨rfl, rfl⟩) | (with_reducible refine wpList_ldB F_sliceM wU wU q3 wU ?_) | ((with_reducible refine wpList_idxG 0 E_ints F_int cInt1 wU wU (hR4) (rfl) oD oD (fun _ => wU) wU (fun _ => wU) (fun _ => ?_)); rw [← HYY.out]) | (go_at_call 56; refine (mfirst_any _ _ [_, _] _ (reps_newN cIntS [_, _] 2 rfl (by decide) _ _ (by simp) rfl)).mono ?_; (first | rw [firstE_head (by decide)] | rw [firstE_z, firstE_head (by decide)] | rw [firstE_z, firstE_z, firstE_nil]); rintro e w' ⟨rfl, rfl⟩))
      go_ret
      exact ⟨by rw [HV.out, HST.out]; rfl, bal hS4.b _⟩
     ·rw [if_neg hxy] at hst
      have HST := hid hst
      clear hst
      go_wp2_with (first | ((with_reducible refine wpList_idx _ 0 E_ints F_int cInt1 wU wU (hRr) oD oD (fun _ => wU) (fun _ => ?_)); rw [← HXX.out]) | (with_reducible refine wpList_ldS (n := 4) (us := #[.bool false, .int .i64 m.gears, .int .i64 m.turn, .slice ad m.sw.length cap]) A_mach kR wU wU (by assumption) wU wU ?_))
      refine (HC.out _).mono ?_
      rintro e w4 ⟨rfl, b4⟩
      have hS4 := hSr.mono b4
      have q3 := (hS4.blk 0 rfl).1
      have hR4 := hR.below hS4.b
      go_wp2_with (first | (go_at_call 55; refine (mwhen_any _ _ _).mono ?_; rintro e w' ⟨rfl, rfl⟩) | (with_reducible refine wpList_ldB F_sliceM wU wU q3 wU ?_) | ((with_reducible refine wpList_idxG 0 E_ints F_int cInt1 wU wU (hR4) (rfl) oD oD (fun _ => wU) wU (fun _ => wU) (fun _ => ?_)); rw [← HYY.out]) | (go_at_call 56; refine (mfirst_any _ _ [_, _] _ (reps_newN cIntS [_, _] 2 rfl (by decide) _ _ (by simp) rfl)).mono ?_; (first | rw [firstE_head (by decide)] | rw [firstE_z, firstE_head (by decide)] | rw [firstE_z, firstE_z, firstE_nil]); rintro e w' ⟨rfl, rfl⟩))
      exact ⟨⟨k + 1, some x, by omega, by go_num, by rw [if_neg (by omega), HXX.out]; simp, HST.out.symm, hS4.al _⟩, by simp [intOf]; omega⟩
  ·have hkl : k = m.sw.length := by omega
   subst hkl
   rw [List.drop_length] at hgo
   have hsw : swGo m none m.sw = 0 := by rw [← hgo]; cases o <;> rfl
   have HSW := hid hsw
   clear hsw hgo ho
   go_wp2_with fail
   go_ret
   exact ⟨by rw [HV.out, HSW.out]; rfl, hSr.b⟩
theorem cm_f01 (m : MacV) (ad : Option Addr) (cap : Nat) (w : World) (hR : Ints w ad cap m.sw) (hI : -9223372036854775808 ≤ m.gears ∧ m.gears ≤ 9223372036854775807) (hr : m.ring = false) (q : Int) (hq : m.gears.tmod 2 = q) (r1 : 1 ≤ m.gears) (r2 : m.gears ≤ 16) (n1 : decide (m.gears < 1) = false) (n2 : decide (16 < m.gears) = false)  (ht : (m.turn != 1) = true) (htn : (m.turn != -1) = false) (n5 : decide (m.gears < m.sw.length) = false) (h5 : m.sw.length ≤ 16) (HV : Hid (macE m = swGo m none m.sw)) :
  Calls Tryz.prog 39 #[mV m ad cap] w fun r w' => r = .returned (.int .i64 (macE m)) ∧ Below w.heap.size w w' := by
 have hcap := hR.le
 have hmx := hR.max
 have HSh := hid (fun p w => shared_any m ad cap p w)
 unfold mV at HSh
 rw [hr] at HSh
 unfold mV
 rw [hr]
 clear hr
 go_enter Tryz.func39, Tryz.ntmps39
 go_wp2_with fail
 have hS := (SL.nil w).box (.cells #[.bool false, .int .i64 m.gears, .int .i64 m.turn, .slice ad m.sw.length cap] 24)
 have q1 := (hS.blk 0 rfl).1
 refine wp_region_qt 34 kR kR ?_
 simp only [List.take_succ_cons, List.take_zero, List.drop_succ_cons, List.drop_zero]
 repeat (first | ((with_reducible refine wpB_load F_boolM wU wU q1 wU ?_); (try simp only [Act.put, pA, pB, pC])) | ((with_reducible refine wpB_load F_sliceM wU wU q1 wU ?_); (try simp only [Act.put, pA, pB, pC])) | ((with_reducible refine wpB_when wU wU wU ?_); (try simp only [Act.put, pA, pB, pC])) | ((with_reducible refine wpQ_skip wU ?_); (try simp only [Act.put, pA, pB, pC])) |  ((with_reducible refine wpB_load (by first | exact F_int | exact F_u64s) wU wU (by assumption) wU ?_); (try simp only [Act.put, pA, pB, pC])) | ((refine wpQ_oneG ?_ wU (fun w' => ?_) ?_); rotate_left; (go_simp; rfl); (try simp only [Act.put, pA, pB, pC])))
 refine wpQuiet_nil ?_
 intro w1 hb1
 have hS1 := hS.mono hb1
 have hS2 := hS1.al (.cells #[.int .i64 0, .int .i64 0, .int .i64 0, .int .i64 0] 29)
 have q3 := (hS2.blk 0 rfl).1
 go_wp2_with (first | (go_at_call 56; refine (mfirst_any _ _ [_, _, _, _] _ (reps_newN cIntS [_, _, _, _] 4 rfl (by decide) _ _ (by simp) rfl)).mono ?_; rw [firstE_z, firstE_z, firstE_z, firstE_z, firstE_nil]; rintro e w' ⟨rfl, rfl⟩) | (with_reducible refine wpList_ldB F_sliceM wU wU q3 wU ?_))
 clear q1 q3 hS hS1
 go_loopw [49, 4, 5, 6] (fun i _ _ _ wr => ∃ (k : Nat) (o : Option Int), k ≤ m.sw.length ∧ i = .int .i64 k ∧ (o = if k = 0 then none else some (atD 0 m.sw ((k : Int) - 1))) ∧ swGo m o (m.sw.drop k) = swGo m none m.sw ∧ SL w.heap.size w wr [pBlk w.heap.size (.cells #[.bool false, .int .i64 m.gears, .int .i64 m.turn, .slice ad m.sw.length cap] 24)]) (fun i _ _ _ _ => m.sw.length - (intOf i).toNat)
 case atStart => exact ⟨0, none, by omega, rfl, rfl, rfl, hS2⟩
 case round =>
  clear hS2
  obtain ⟨k, o, hk, rfl, ho, hgo, hSr⟩ := hrel
  have q3 := (hSr.blk 0 rfl).1
  have hRr := hR.below hSr.b
  by_cases hlt : k < m.sw.length
  ·have hst := swGo_step m k hlt o
   rw [hgo] at hst
   obtain ⟨x, hxx⟩ : ∃ x, x = atD 0 m.sw k := ⟨_, rfl⟩
   rw [← hxx] at hst
   have HXX := hid hxx
   have CS := fun w => HSh.out x w
   clear hxx hgo
   cases hsh : sharedM m x
   ·rw [hsh] at CS hst
    rw [if_pos rfl] at hst
    have HC := hid CS; have HST := hid hst
    clear CS hst ho hsh
    by_cases hk0 : k = 0
    ·have hk1 : decide (0 < (k : Int)) = false := by simp [hk0]
     have hk2 : ¬ 0 < (k : Int) := by omega
     clear hk0
     go_wp2_with (first | ((with_reducible refine wpList_idx _ 0 E_ints F_int cInt1 wU wU (hRr) oD oD (fun _ => wU) (fun _ => ?_)); rw [← HXX.out]) | (with_reducible refine wpList_ldS (n := 4) (us := #[.bool false, .int .i64 m.gears, .int .i64 m.turn, .slice ad m.sw.length cap]) A_mach kR wU wU (by assumption) wU wU ?_))
     refine (HC.out _).mono ?_
     rintro e w4 ⟨rfl, b4⟩
     have hS4 := hSr.mono b4
     have q4 := (hS4.blk 0 rfl).1
     go_wp2_with (first | (go_at_call 55; refine (mwhen_any _ _ _).mono ?_; rintro e w' ⟨rfl, rfl⟩) | (go_at_call 56; refine (mfirst_any _ _ [_, _] _ (reps_newN cIntS [_, _] 2 rfl (by decide) _ _ (by simp) rfl)).mono ?_; (first | rw [firstE_head (by decide)] | rw [firstE_z, firstE_head (by decide)] | rw [firstE_z, firstE_z, firstE_nil]); rintro e w' ⟨rfl, rfl⟩))
     go_ret
     exact ⟨by rw [HV.out, HST.out]; rfl, bal hS4.b _⟩
    ·have hk1 : decide (0 < (k : Int)) = true := by simp; omega
     have hk2 : 0 < (k : Int) := by omega
     have hkm : max 0 ((k : Int) - 1) = (k : Int) - 1 := by omega
     have hkl : (k : Int) - 1 < m.sw.length := by omega
     go_wp2_with (first | ((with_reducible refine wpList_idx _ 0 E_ints F_int cInt1 wU wU (hRr) oD oD (fun _ => wU) (fun _ => ?_)); rw [← HXX.out]) | (with_reducible refine wpList_ldS (n := 4) (us := #[.bool false, .int .i64 m.gears, .int .i64 m.turn, .slice ad m.sw.length cap]) A_mach kR wU wU (by assumption) wU wU ?_))
     refine (HC.out _).mono ?_
     rintro e w4 ⟨rfl, b4⟩
     have hS4 := hSr.mono b4
     have q3 := (hS4.blk 0 rfl).1
     have hR4 := hR.below hS4.b
     go_wp2_with (first | (go_at_call 55; refine (mwhen_any _ _ _).mono ?_; rintro e w' ⟨rfl, rfl⟩) | (with_reducible refine wpList_ldB F_sliceM wU wU q3 wU ?_) | (with_reducible refine wpList_idxG 0 E_ints F_int cInt1 wU wU (hR4) (rfl) oD oD (fun _ => wU) wU (fun _ => wU) (fun _ => ?_)) | (go_at_call 56; refine (mfirst_any _ _ [_, _] _ (reps_newN cIntS [_, _] 2 rfl (by decide) _ _ (by simp) rfl)).mono ?_; (first | rw [firstE_head (by decide)] | rw [firstE_z, firstE_head (by decide)] | rw [firstE_z, firstE_z, firstE_nil]); rintro e w' ⟨rfl, rfl⟩))
     all_goals go_ret
     all_goals exact ⟨by rw [HV.out, HST.out]; rfl, bal hS4.b _⟩
   ·rw [hsh] at CS hst
    rw [if_neg (by decide)] at hst
    have HC := hid CS
    clear CS hsh
    by_cases hk0 : k = 0
    ·have hk1 : decide (0 < (k : Int)) = false := by simp [hk0]
     have hk2 : ¬ 0 < (k : Int) := by omega
     rw [ho, if_pos hk0] at hst
     have HST := hid hst; have HK0 := hid hk0
     clear hk0 hst ho
     go_wp2_with (first | ((with_reducible refine wpList_idx _ 0 E_ints F_int cInt1 wU wU (hRr) oD oD (fun _ => wU) (fun _ => ?_)); rw [← HXX.out]) | (with_reducible refine wpList_ldS (n := 4) (us := #[.bool false, .int .i64 m.gears, .int .i64 m.turn, .slice ad m.sw.length cap]) A_mach kR wU wU (by assumption) wU wU ?_))
     refine (HC.out _).mono ?_
     rintro e w4 ⟨rfl, b4⟩
     have hS4 := hSr.mono b4
     go_wp2_with (first | (go_at_call 55; refine (mwhen_any _ _ _).mono ?_; rintro e w' ⟨rfl, rfl⟩) | (go_at_call 56; refine (mfirst_any _ _ [_, _] _ (reps_newN cIntS [_, _] 2 rfl (by decide) _ _ (by simp) rfl)).mono ?_; (first | rw [firstE_head (by decide)] | rw [firstE_z, firstE_head (by decide)] | rw [firstE_z, firstE_z, firstE_nil]); rintro e w' ⟨rfl, rfl⟩))
     exact ⟨⟨k + 1, some x, by omega, by go_num, by rw [if_neg (by omega), HXX.out]; simp, HST.out.symm, hS4.al _⟩, by simp [intOf]; omega⟩
    ·have hk1 : decide (0 < (k : Int)) = true := by simp; omega
     have hk2 : 0 < (k : Int) := by omega
     have hkm : max 0 ((k : Int) - 1) = (k : Int) - 1 := by omega
     have hkl : (k : Int) - 1 < m.sw.length := by omega
     rw [ho, if_neg hk0] at hst
     simp only at hst
     obtain ⟨y, hyy⟩ : ∃ y, y = atD 0 m.sw ((k : Int) - 1) := ⟨_, rfl⟩
     rw [← hyy] at hst
     have HYY := hid hyy
     clear hyy ho
     by_cases hxy : x ≤ y
     ·rw [if_pos hxy] at hst
      have HST := hid hst
      clear hst
      go_wp2_with (first | ((with_reducible refine wpList_idx _ 0 E_ints F_int cInt1 wU wU (hRr) oD oD (fun _ => wU) (fun _ => ?_)); rw [← HXX.out]) | (with_reducible refine wpList_ldS (n := 4) (us := #[.bool false, .int .i64 m.gears, .int .i64 m.turn, .slice ad m.sw.length cap]) A_mach kR wU wU (by assumption) wU wU ?_))
      refine (HC.out _).mono ?_
      rintro e w4 ⟨rfl, b4⟩
      have hS4 := hSr.mono b4
      have q3 := (hS4.blk 0 rfl).1
      have hR4 := hR.below hS4.b
      go_wp2_with (first | (go_at_call 55; refine (mwhen_any _ _ _).mono ?_; rintro e w' ⟨rfl, rfl⟩) | (with_reducible refine wpList_ldB F_sliceM wU wU q3 wU ?_) | ((with_reducible refine wpList_idxG 0 E_ints F_int cInt1 wU wU (hR4) (rfl) oD oD (fun _ => wU) wU (fun _ => wU) (fun _ => ?_)); rw [← HYY.out]) | (go_at_call 56; refine (mfirst_any _ _ [_, _] _ (reps_newN cIntS [_, _] 2 rfl (by decide) _ _ (by simp) rfl)).mono ?_; (first | rw [firstE_head (by decide)] | rw [firstE_z, firstE_head (by decide)] | rw [firstE_z, firstE_z, firstE_nil]); rintro e w' ⟨rfl, rfl⟩))
      go_ret
      exact ⟨by rw [HV.out, HST.out]; rfl, bal hS4.b _⟩
     ·rw [if_neg hxy] at hst
      have HST := hid hst
      clear hst
      go_wp2_with (first | ((with_reducible refine wpList_idx _ 0 E_ints F_int cInt1 wU wU (hRr) oD oD (fun _ => wU) (fun _ => ?_)); rw [← HXX.out]) | (with_reducible refine wpList_ldS (n := 4) (us := #[.bool false, .int .i64 m.gears, .int .i64 m.turn, .slice ad m.sw.length cap]) A_mach kR wU wU (by assumption) wU wU ?_))
      refine (HC.out _).mono ?_
      rintro e w4 ⟨rfl, b4⟩
      have hS4 := hSr.mono b4
      have q3 := (hS4.blk 0 rfl).1
      have hR4 := hR.below hS4.b
      go_wp2_with (first | (go_at_call 55; refine (mwhen_any _ _ _).mono ?_; rintro e w' ⟨rfl, rfl⟩) | (with_reducible refine wpList_ldB F_sliceM wU wU q3 wU ?_) | ((with_reducible refine wpList_idxG 0 E_ints F_int cInt1 wU wU (hR4) (rfl) oD oD (fun _ => wU) wU (fun _ => wU) (fun _ => ?_)); rw [← HYY.out]) | (go_at_call 56; refine (mfirst_any _ _ [_, _] _ (reps_newN cIntS [_, _] 2 rfl (by decide) _ _ (by simp) rfl)).mono ?_; (first | rw [firstE_head (by decide)] | rw [firstE_z, firstE_head (by decide)] | rw [firstE_z, firstE_z, firstE_nil]); rintro e w' ⟨rfl, rfl⟩))
      exact ⟨⟨k + 1, some x, by omega, by go_num, by rw [if_neg (by omega), HXX.out]; simp, HST.out.symm, hS4.al _⟩, by simp [intOf]; omega⟩
  ·have hkl : k = m.sw.length := by omega
   subst hkl
   rw [List.drop_length] at hgo
   have hsw : swGo m none m.sw = 0 := by rw [← hgo]; cases o <;> rfl
   have HSW := hid hsw
   clear hsw hgo ho
   go_wp2_with fail
   go_ret
   exact ⟨by rw [HV.out, HSW.out]; rfl, hSr.b⟩
end Go.Proofs.YtndmeaoidihikaaGreatDoor

namespace Go.Proofs.YtndmeaoidihikaaGreatDoor
open Go.RowKit
set_option maxHeartbeats 8000000
set_option maxRecDepth 100000

theorem cm_f10 (m : MacV) (ad : Option Addr) (cap : Nat) (w : World) (hR : Ints w ad cap m.sw) (hI : -9223372036854775808 ≤ m.gears ∧ m.gears ≤ 9223372036854775807) (hr : m.ring = true) (q : Int) (hq : m.gears.tmod 2 = q) (r1 : 1 ≤ m.gears) (r2 : m.gears ≤ 16) (n1 : decide (m.gears < 1) = false) (n2 : decide (16 < m.gears) = false) (hqb : (q == 1) = false) (ht : (m.turn != 1) = false)  (n5 : decide (m.gears < m.sw.length) = false) (h5 : m.sw.length ≤ 16) (HV : Hid (macE m = swGo m none m.sw)) :
  Calls Tryz.prog 39 #[mV m ad cap] w fun r w' => r = .returned (.int .i64 (macE m)) ∧ Below w.heap.size w w' := by
 have hcap := hR.le
 have hmx := hR.max
 have HSh := hid (fun p w => shared_any m ad cap p w)
 unfold mV at HSh
 rw [hr] at HSh
 unfold mV
 rw [hr]
 clear hr
 go_enter Tryz.func39, Tryz.ntmps39
 go_wp2_with fail
 have hS := (SL.nil w).box (.cells #[.bool true, .int .i64 m.gears, .int .i64 m.turn, .slice ad m.sw.length cap] 24)
 have q1 := (hS.blk 0 rfl).1
 refine wp_region_qt 34 kR kR ?_
 simp only [List.take_succ_cons, List.take_zero, List.drop_succ_cons, List.drop_zero]
 repeat (first | ((with_reducible refine wpB_load F_boolM wU wU q1 wU ?_); (try simp only [Act.put, pA, pB, pC])) | ((with_reducible refine wpB_load F_sliceM wU wU q1 wU ?_); (try simp only [Act.put, pA, pB, pC])) | ((with_reducible refine wpB_when wU wU wU ?_); (try simp only [Act.put, pA, pB, pC])) | ((with_reducible refine wpQ_skip wU ?_); (try simp only [Act.put, pA, pB, pC])) |  ((with_reducible refine wpB_load (by first | exact F_int | exact F_u64s) wU wU (by assumption) wU ?_); (try simp only [Act.put, pA, pB, pC])) | ((refine wpQ_oneG ?_ wU (fun w' => ?_) ?_); rotate_left; (go_simp; rfl); (try simp only [Act.put, pA, pB, pC])))
 refine wpQuiet_nil ?_
 intro w1 hb1
 have hS1 := hS.mono hb1
 have hS2 := hS1.al (.cells #[.int .i64 0, .int .i64 0, .int .i64 0, .int .i64 0] 29)
 have q3 := (hS2.blk 0 rfl).1
 go_wp2_with (first | (go_at_call 56; refine (mfirst_any _ _ [_, _, _, _] _ (reps_newN cIntS [_, _, _, _] 4 rfl (by decide) _ _ (by simp) rfl)).mono ?_; rw [firstE_z, firstE_z, firstE_z, firstE_z, firstE_nil]; rintro e w' ⟨rfl, rfl⟩) | (with_reducible refine wpList_ldB F_sliceM wU wU q3 wU ?_))
 clear q1 q3 hS hS1
 go_loopw [49, 4, 5, 6] (fun i _ _ _ wr => ∃ (k : Nat) (o : Option Int), k ≤ m.sw.length ∧ i = .int .i64 k ∧ (o = if k = 0 then none else some (atD 0 m.sw ((k : Int) - 1))) ∧ swGo m o (m.sw.drop k) = swGo m none m.sw ∧ SL w.heap.size w wr [pBlk w.heap.size (.cells #[.bool true, .int .i64 m.gears, .int .i64 m.turn, .slice ad m.sw.length cap] 24)]) (fun i _ _ _ _ => m.sw.length - (intOf i).toNat)
 case atStart => exact ⟨0, none, by omega, rfl, rfl, rfl, hS2⟩
 case round =>
  clear hS2
  obtain ⟨k, o, hk, rfl, ho, hgo, hSr⟩ := hrel
  have q3 := (hSr.blk 0 rfl).1
  have hRr := hR.below hSr.b
  by_cases hlt : k < m.sw.length
  ·have hst := swGo_step m k hlt o
   rw [hgo] at hst
   obtain ⟨x, hxx⟩ : ∃ x, x = atD 0 m.sw k := ⟨_, rfl⟩
   rw [← hxx] at hst
   have HXX := hid hxx
   have CS := fun w => HSh.out x w
   clear hxx hgo
   cases hsh : sharedM m x
   ·rw [hsh] at CS hst
    rw [if_pos rfl] at hst
    have HC := hid CS; have HST := hid hst
    clear CS hst ho hsh
    by_cases hk0 : k = 0
    ·have hk1 : decide (0 < (k : Int)) = false := by simp [hk0]
     have hk2 : ¬ 0 < (k : Int) := by omega
     clear hk0
     go_wp2_with (first | ((with_reducible refine wpList_idx _ 0 E_ints F_int cInt1 wU wU (hRr) oD oD (fun _ => wU) (fun _ => ?_)); rw [← HXX.out]) | (with_reducible refine wpList_ldS (n := 4) (us := #[.bool true, .int .i64 m.gears, .int .i64 m.turn, .slice ad m.sw.length cap]) A_mach kR wU wU (by assumption) wU wU ?_))
     refine (HC.out _).mono ?_
     rintro e w4 ⟨rfl, b4⟩
     have hS4 := hSr.mono b4
     have q4 := (hS4.blk 0 rfl).1
     go_wp2_with (first | (go_at_call 55; refine (mwhen_any _ _ _).mono ?_; rintro e w' ⟨rfl, rfl⟩) | (go_at_call 56; refine (mfirst_any _ _ [_, _] _ (reps_newN cIntS [_, _] 2 rfl (by decide) _ _ (by simp) rfl)).mono ?_; (first | rw [firstE_head (by decide)] | rw [firstE_z, firstE_head (by decide)] | rw [firstE_z, firstE_z, firstE_nil]); rintro e w' ⟨rfl, rfl⟩))
     go_ret
     exact ⟨by rw [HV.out, HST.out]; rfl, bal hS4.b _⟩
    ·have hk1 : decide (0 < (k : Int)) = true := by simp; omega
     have hk2 : 0 < (k : Int) := by omega
     have hkm : max 0 ((k : Int) - 1) = (k : Int) - 1 := by omega
     have hkl : (k : Int) - 1 < m.sw.length := by omega
     go_wp2_with (first | ((with_reducible refine wpList_idx _ 0 E_ints F_int cInt1 wU wU (hRr) oD oD (fun _ => wU) (fun _ => ?_)); rw [← HXX.out]) | (with_reducible refine wpList_ldS (n := 4) (us := #[.bool true, .int .i64 m.gears, .int .i64 m.turn, .slice ad m.sw.length cap]) A_mach kR wU wU (by assumption) wU wU ?_))
     refine (HC.out _).mono ?_
     rintro e w4 ⟨rfl, b4⟩
     have hS4 := hSr.mono b4
     have q3 := (hS4.blk 0 rfl).1
     have hR4 := hR.below hS4.b
     go_wp2_with (first | (go_at_call 55; refine (mwhen_any _ _ _).mono ?_; rintro e w' ⟨rfl, rfl⟩) | (with_reducible refine wpList_ldB F_sliceM wU wU q3 wU ?_) | (with_reducible refine wpList_idxG 0 E_ints F_int cInt1 wU wU (hR4) (rfl) oD oD (fun _ => wU) wU (fun _ => wU) (fun _ => ?_)) | (go_at_call 56; refine (mfirst_any _ _ [_, _] _ (reps_newN cIntS [_, _] 2 rfl (by decide) _ _ (by simp) rfl)).mono ?_; (first | rw [firstE_head (by decide)] | rw [firstE_z, firstE_head (by decide)] | rw [firstE_z, firstE_z, firstE_nil]); rintro e w' ⟨rfl, rfl⟩))
     all_goals go_ret
     all_goals exact ⟨by rw [HV.out, HST.out]; rfl, bal hS4.b _⟩
   ·rw [hsh] at CS hst
    rw [if_neg (by decide)] at hst
    have HC := hid CS
    clear CS hsh
    by_cases hk0 : k = 0
    ·have hk1 : decide (0 < (k : Int)) = false := by simp [hk0]
     have hk2 : ¬ 0 < (k : Int) := by omega
     rw [ho, if_pos hk0] at hst
     have HST := hid hst; have HK0 := hid hk0
     clear hk0 hst ho
     go_wp2_with (first | ((with_reducible refine wpList_idx _ 0 E_ints F_int cInt1 wU wU (hRr) oD oD (fun _ => wU) (fun _ => ?_)); rw [← HXX.out]) | (with_reducible refine wpList_ldS (n := 4) (us := #[.bool true, .int .i64 m.gears, .int .i64 m.turn, .slice ad m.sw.length cap]) A_mach kR wU wU (by assumption) wU wU ?_))
     refine (HC.out _).mono ?_
     rintro e w4 ⟨rfl, b4⟩
     have hS4 := hSr.mono b4
     go_wp2_with (first | (go_at_call 55; refine (mwhen_any _ _ _).mono ?_; rintro e w' ⟨rfl, rfl⟩) | (go_at_call 56; refine (mfirst_any _ _ [_, _] _ (reps_newN cIntS [_, _] 2 rfl (by decide) _ _ (by simp) rfl)).mono ?_; (first | rw [firstE_head (by decide)] | rw [firstE_z, firstE_head (by decide)] | rw [firstE_z, firstE_z, firstE_nil]); rintro e w' ⟨rfl, rfl⟩))
     exact ⟨⟨k + 1, some x, by omega, by go_num, by rw [if_neg (by omega), HXX.out]; simp, HST.out.symm, hS4.al _⟩, by simp [intOf]; omega⟩
    ·have hk1 : decide (0 < (k : Int)) = true := by simp; omega
     have hk2 : 0 < (k : Int) := by omega
     have hkm : max 0 ((k : Int) - 1) = (k : Int) - 1 := by omega
     have hkl : (k : Int) - 1 < m.sw.length := by omega
     rw [ho, if_neg hk0] at hst
     simp only at hst
     obtain ⟨y, hyy⟩ : ∃ y, y = atD 0 m.sw ((k : Int) - 1) := ⟨_, rfl⟩
     rw [← hyy] at hst
     have HYY := hid hyy
     clear hyy ho
     by_cases hxy : x ≤ y
     ·rw [if_pos hxy] at hst
      have HST := hid hst
      clear hst
      go_wp2_with (first | ((with_reducible refine wpList_idx _ 0 E_ints F_int cInt1 wU wU (hRr) oD oD (fun _ => wU) (fun _ => ?_)); rw [← HXX.out]) | (with_reducible refine wpList_ldS (n := 4) (us := #[.bool true, .int .i64 m.gears, .int .i64 m.turn, .slice ad m.sw.length cap]) A_mach kR wU wU (by assumption) wU wU ?_))
      refine (HC.out _).mono ?_
      rintro e w4 ⟨rfl, b4⟩
      have hS4 := hSr.mono b4
      have q3 := (hS4.blk 0 rfl).1
      have hR4 := hR.below hS4.b
      go_wp2_with (first | (go_at_call 55; refine (mwhen_any _ _ _).mono ?_; rintro e w' ⟨rfl, rfl⟩) | (with_reducible refine wpList_ldB F_sliceM wU wU q3 wU ?_) | ((with_reducible refine wpList_idxG 0 E_ints F_int cInt1 wU wU (hR4) (rfl) oD oD (fun _ => wU) wU (fun _ => wU) (fun _ => ?_)); rw [← HYY.out]) | (go_at_call 56; refine (mfirst_any _ _ [_, _] _ (reps_newN cIntS [_, _] 2 rfl (by decide) _ _ (by simp) rfl)).mono ?_; (first | rw [firstE_head (by decide)] | rw [firstE_z, firstE_head (by decide)] | rw [firstE_z, firstE_z, firstE_nil]); rintro e w' ⟨rfl, rfl⟩))
      go_ret
      exact ⟨by rw [HV.out, HST.out]; rfl, bal hS4.b _⟩
     ·rw [if_neg hxy] at hst
      have HST := hid hst
      clear hst
      go_wp2_with (first | ((with_reducible refine wpList_idx _ 0 E_ints F_int cInt1 wU wU (hRr) oD oD (fun _ => wU) (fun _ => ?_)); rw [← HXX.out]) | (with_reducible refine wpList_ldS (n := 4) (us := #[.bool true, .int .i64 m.gears, .int .i64 m.turn, .slice ad m.sw.length cap]) A_mach kR wU wU (by assumption) wU wU ?_))
      refine (HC.out _).mono ?_
      rintro e w4 ⟨rfl, b4⟩
      have hS4 := hSr.mono b4
      have q3 := (hS4.blk 0 rfl).1
      have hR4 := hR.below hS4.b
      go_wp2_with (first | (go_at_call 55; refine (mwhen_any _ _ _).mono ?_; rintro e w' ⟨rfl, rfl⟩) | (with_reducible refine wpList_ldB F_sliceM wU wU q3 wU ?_) | ((with_reducible refine wpList_idxG 0 E_ints F_int cInt1 wU wU (hR4) (rfl) oD oD (fun _ => wU) wU (fun _ => wU) (fun _ => ?_)); rw [← HYY.out]) | (go_at_call 56; refine (mfirst_any _ _ [_, _] _ (reps_newN cIntS [_, _] 2 rfl (by decide) _ _ (by simp) rfl)).mono ?_; (first | rw [firstE_head (by decide)] | rw [firstE_z, firstE_head (by decide)] | rw [firstE_z, firstE_z, firstE_nil]); rintro e w' ⟨rfl, rfl⟩))
      exact ⟨⟨k + 1, some x, by omega, by go_num, by rw [if_neg (by omega), HXX.out]; simp, HST.out.symm, hS4.al _⟩, by simp [intOf]; omega⟩
  ·have hkl : k = m.sw.length := by omega
   subst hkl
   rw [List.drop_length] at hgo
   have hsw : swGo m none m.sw = 0 := by rw [← hgo]; cases o <;> rfl
   have HSW := hid hsw
   clear hsw hgo ho
   go_wp2_with fail
   go_ret
   exact ⟨by rw [HV.out, HSW.out]; rfl, hSr.b⟩
theorem cm_f11 (m : MacV) (ad : Option Addr) (cap : Nat) (w : World) (hR : Ints w ad cap m.sw) (hI : -9223372036854775808 ≤ m.gears ∧ m.gears ≤ 9223372036854775807) (hr : m.ring = true) (q : Int) (hq : m.gears.tmod 2 = q) (r1 : 1 ≤ m.gears) (r2 : m.gears ≤ 16) (n1 : decide (m.gears < 1) = false) (n2 : decide (16 < m.gears) = false) (hqb : (q == 1) = false) (ht : (m.turn != 1) = true) (htn : (m.turn != -1) = false) (n5 : decide (m.gears < m.sw.length) = false) (h5 : m.sw.length ≤ 16) (HV : Hid (macE m = swGo m none m.sw)) :
  Calls Tryz.prog 39 #[mV m ad cap] w fun r w' => r = .returned (.int .i64 (macE m)) ∧ Below w.heap.size w w' := by
 have hcap := hR.le
 have hmx := hR.max
 have HSh := hid (fun p w => shared_any m ad cap p w)
 unfold mV at HSh
 rw [hr] at HSh
 unfold mV
 rw [hr]
 clear hr
 go_enter Tryz.func39, Tryz.ntmps39
 go_wp2_with fail
 have hS := (SL.nil w).box (.cells #[.bool true, .int .i64 m.gears, .int .i64 m.turn, .slice ad m.sw.length cap] 24)
 have q1 := (hS.blk 0 rfl).1
 refine wp_region_qt 34 kR kR ?_
 simp only [List.take_succ_cons, List.take_zero, List.drop_succ_cons, List.drop_zero]
 repeat (first | ((with_reducible refine wpB_load F_boolM wU wU q1 wU ?_); (try simp only [Act.put, pA, pB, pC])) | ((with_reducible refine wpB_load F_sliceM wU wU q1 wU ?_); (try simp only [Act.put, pA, pB, pC])) | ((with_reducible refine wpB_when wU wU wU ?_); (try simp only [Act.put, pA, pB, pC])) | ((with_reducible refine wpQ_skip wU ?_); (try simp only [Act.put, pA, pB, pC])) |  ((with_reducible refine wpB_load (by first | exact F_int | exact F_u64s) wU wU (by assumption) wU ?_); (try simp only [Act.put, pA, pB, pC])) | ((refine wpQ_oneG ?_ wU (fun w' => ?_) ?_); rotate_left; (go_simp; rfl); (try simp only [Act.put, pA, pB, pC])))
 refine wpQuiet_nil ?_
 intro w1 hb1
 have hS1 := hS.mono hb1
 have hS2 := hS1.al (.cells #[.int .i64 0, .int .i64 0, .int .i64 0, .int .i64 0] 29)
 have q3 := (hS2.blk 0 rfl).1
 go_wp2_with (first | (go_at_call 56; refine (mfirst_any _ _ [_, _, _, _] _ (reps_newN cIntS [_, _, _, _] 4 rfl (by decide) _ _ (by simp) rfl)).mono ?_; rw [firstE_z, firstE_z, firstE_z, firstE_z, firstE_nil]; rintro e w' ⟨rfl, rfl⟩) | (with_reducible refine wpList_ldB F_sliceM wU wU q3 wU ?_))
 clear q1 q3 hS hS1
 go_loopw [49, 4, 5, 6] (fun i _ _ _ wr => ∃ (k : Nat) (o : Option Int), k ≤ m.sw.length ∧ i = .int .i64 k ∧ (o = if k = 0 then none else some (atD 0 m.sw ((k : Int) - 1))) ∧ swGo m o (m.sw.drop k) = swGo m none m.sw ∧ SL w.heap.size w wr [pBlk w.heap.size (.cells #[.bool true, .int .i64 m.gears, .int .i64 m.turn, .slice ad m.sw.length cap] 24)]) (fun i _ _ _ _ => m.sw.length - (intOf i).toNat)
 case atStart => exact ⟨0, none, by omega, rfl, rfl, rfl, hS2⟩
 case round =>
  clear hS2
  obtain ⟨k, o, hk, rfl, ho, hgo, hSr⟩ := hrel
  have q3 := (hSr.blk 0 rfl).1
  have hRr := hR.below hSr.b
  by_cases hlt : k < m.sw.length
  ·have hst := swGo_step m k hlt o
   rw [hgo] at hst
   obtain ⟨x, hxx⟩ : ∃ x, x = atD 0 m.sw k := ⟨_, rfl⟩
   rw [← hxx] at hst
   have HXX := hid hxx
   have CS := fun w => HSh.out x w
   clear hxx hgo
   cases hsh : sharedM m x
   ·rw [hsh] at CS hst
    rw [if_pos rfl] at hst
    have HC := hid CS; have HST := hid hst
    clear CS hst ho hsh
    by_cases hk0 : k = 0
    ·have hk1 : decide (0 < (k : Int)) = false := by simp [hk0]
     have hk2 : ¬ 0 < (k : Int) := by omega
     clear hk0
     go_wp2_with (first | ((with_reducible refine wpList_idx _ 0 E_ints F_int cInt1 wU wU (hRr) oD oD (fun _ => wU) (fun _ => ?_)); rw [← HXX.out]) | (with_reducible refine wpList_ldS (n := 4) (us := #[.bool true, .int .i64 m.gears, .int .i64 m.turn, .slice ad m.sw.length cap]) A_mach kR wU wU (by assumption) wU wU ?_))
     refine (HC.out _).mono ?_
     rintro e w4 ⟨rfl, b4⟩
     have hS4 := hSr.mono b4
     have q4 := (hS4.blk 0 rfl).1
     go_wp2_with (first | (go_at_call 55; refine (mwhen_any _ _ _).mono ?_; rintro e w' ⟨rfl, rfl⟩) | (go_at_call 56; refine (mfirst_any _ _ [_, _] _ (reps_newN cIntS [_, _] 2 rfl (by decide) _ _ (by simp) rfl)).mono ?_; (first | rw [firstE_head (by decide)] | rw [firstE_z, firstE_head (by decide)] | rw [firstE_z, firstE_z, firstE_nil]); rintro e w' ⟨rfl, rfl⟩))
     go_ret
     exact ⟨by rw [HV.out, HST.out]; rfl, bal hS4.b _⟩
    ·have hk1 : decide (0 < (k : Int)) = true := by simp; omega
     have hk2 : 0 < (k : Int) := by omega
     have hkm : max 0 ((k : Int) - 1) = (k : Int) - 1 := by omega
     have hkl : (k : Int) - 1 < m.sw.length := by omega
     go_wp2_with (first | ((with_reducible refine wpList_idx _ 0 E_ints F_int cInt1 wU wU (hRr) oD oD (fun _ => wU) (fun _ => ?_)); rw [← HXX.out]) | (with_reducible refine wpList_ldS (n := 4) (us := #[.bool true, .int .i64 m.gears, .int .i64 m.turn, .slice ad m.sw.length cap]) A_mach kR wU wU (by assumption) wU wU ?_))
     refine (HC.out _).mono ?_
     rintro e w4 ⟨rfl, b4⟩
     have hS4 := hSr.mono b4
     have q3 := (hS4.blk 0 rfl).1
     have hR4 := hR.below hS4.b
     go_wp2_with (first | (go_at_call 55; refine (mwhen_any _ _ _).mono ?_; rintro e w' ⟨rfl, rfl⟩) | (with_reducible refine wpList_ldB F_sliceM wU wU q3 wU ?_) | (with_reducible refine wpList_idxG 0 E_ints F_int cInt1 wU wU (hR4) (rfl) oD oD (fun _ => wU) wU (fun _ => wU) (fun _ => ?_)) | (go_at_call 56; refine (mfirst_any _ _ [_, _] _ (reps_newN cIntS [_, _] 2 rfl (by decide) _ _ (by simp) rfl)).mono ?_; (first | rw [firstE_head (by decide)] | rw [firstE_z, firstE_head (by decide)] | rw [firstE_z, firstE_z, firstE_nil]); rintro e w' ⟨rfl, rfl⟩))
     all_goals go_ret
     all_goals exact ⟨by rw [HV.out, HST.out]; rfl, bal hS4.b _⟩
   ·rw [hsh] at CS hst
    rw [if_neg (by decide)] at hst
    have HC := hid CS
    clear CS hsh
    by_cases hk0 : k = 0
    ·have hk1 : decide (0 < (k : Int)) = false := by simp [hk0]
     have hk2 : ¬ 0 < (k : Int) := by omega
     rw [ho, if_pos hk0] at hst
     have HST := hid hst; have HK0 := hid hk0
     clear hk0 hst ho
     go_wp2_with (first | ((with_reducible refine wpList_idx _ 0 E_ints F_int cInt1 wU wU (hRr) oD oD (fun _ => wU) (fun _ => ?_)); rw [← HXX.out]) | (with_reducible refine wpList_ldS (n := 4) (us := #[.bool true, .int .i64 m.gears, .int .i64 m.turn, .slice ad m.sw.length cap]) A_mach kR wU wU (by assumption) wU wU ?_))
     refine (HC.out _).mono ?_
     rintro e w4 ⟨rfl, b4⟩
     have hS4 := hSr.mono b4
     go_wp2_with (first | (go_at_call 55; refine (mwhen_any _ _ _).mono ?_; rintro e w' ⟨rfl, rfl⟩) | (go_at_call 56; refine (mfirst_any _ _ [_, _] _ (reps_newN cIntS [_, _] 2 rfl (by decide) _ _ (by simp) rfl)).mono ?_; (first | rw [firstE_head (by decide)] | rw [firstE_z, firstE_head (by decide)] | rw [firstE_z, firstE_z, firstE_nil]); rintro e w' ⟨rfl, rfl⟩))
     exact ⟨⟨k + 1, some x, by omega, by go_num, by rw [if_neg (by omega), HXX.out]; simp, HST.out.symm, hS4.al _⟩, by simp [intOf]; omega⟩
    ·have hk1 : decide (0 < (k : Int)) = true := by simp; omega
     have hk2 : 0 < (k : Int) := by omega
     have hkm : max 0 ((k : Int) - 1) = (k : Int) - 1 := by omega
     have hkl : (k : Int) - 1 < m.sw.length := by omega
     rw [ho, if_neg hk0] at hst
     simp only at hst
     obtain ⟨y, hyy⟩ : ∃ y, y = atD 0 m.sw ((k : Int) - 1) := ⟨_, rfl⟩
     rw [← hyy] at hst
     have HYY := hid hyy
     clear hyy ho
     by_cases hxy : x ≤ y
     ·rw [if_pos hxy] at hst
      have HST := hid hst
      clear hst
      go_wp2_with (first | ((with_reducible refine wpList_idx _ 0 E_ints F_int cInt1 wU wU (hRr) oD oD (fun _ => wU) (fun _ => ?_)); rw [← HXX.out]) | (with_reducible refine wpList_ldS (n := 4) (us := #[.bool true, .int .i64 m.gears, .int .i64 m.turn, .slice ad m.sw.length cap]) A_mach kR wU wU (by assumption) wU wU ?_))
      refine (HC.out _).mono ?_
      rintro e w4 ⟨rfl, b4⟩
      have hS4 := hSr.mono b4
      have q3 := (hS4.blk 0 rfl).1
      have hR4 := hR.below hS4.b
      go_wp2_with (first | (go_at_call 55; refine (mwhen_any _ _ _).mono ?_; rintro e w' ⟨rfl, rfl⟩) | (with_reducible refine wpList_ldB F_sliceM wU wU q3 wU ?_) | ((with_reducible refine wpList_idxG 0 E_ints F_int cInt1 wU wU (hR4) (rfl) oD oD (fun _ => wU) wU (fun _ => wU) (fun _ => ?_)); rw [← HYY.out]) | (go_at_call 56; refine (mfirst_any _ _ [_, _] _ (reps_newN cIntS [_, _] 2 rfl (by decide) _ _ (by simp) rfl)).mono ?_; (first | rw [firstE_head (by decide)] | rw [firstE_z, firstE_head (by decide)] | rw [firstE_z, firstE_z, firstE_nil]); rintro e w' ⟨rfl, rfl⟩))
      go_ret
      exact ⟨by rw [HV.out, HST.out]; rfl, bal hS4.b _⟩
     ·rw [if_neg hxy] at hst
      have HST := hid hst
      clear hst
      go_wp2_with (first | ((with_reducible refine wpList_idx _ 0 E_ints F_int cInt1 wU wU (hRr) oD oD (fun _ => wU) (fun _ => ?_)); rw [← HXX.out]) | (with_reducible refine wpList_ldS (n := 4) (us := #[.bool true, .int .i64 m.gears, .int .i64 m.turn, .slice ad m.sw.length cap]) A_mach kR wU wU (by assumption) wU wU ?_))
      refine (HC.out _).mono ?_
      rintro e w4 ⟨rfl, b4⟩
      have hS4 := hSr.mono b4
      have q3 := (hS4.blk 0 rfl).1
      have hR4 := hR.below hS4.b
      go_wp2_with (first | (go_at_call 55; refine (mwhen_any _ _ _).mono ?_; rintro e w' ⟨rfl, rfl⟩) | (with_reducible refine wpList_ldB F_sliceM wU wU q3 wU ?_) | ((with_reducible refine wpList_idxG 0 E_ints F_int cInt1 wU wU (hR4) (rfl) oD oD (fun _ => wU) wU (fun _ => wU) (fun _ => ?_)); rw [← HYY.out]) | (go_at_call 56; refine (mfirst_any _ _ [_, _] _ (reps_newN cIntS [_, _] 2 rfl (by decide) _ _ (by simp) rfl)).mono ?_; (first | rw [firstE_head (by decide)] | rw [firstE_z, firstE_head (by decide)] | rw [firstE_z, firstE_z, firstE_nil]); rintro e w' ⟨rfl, rfl⟩))
      exact ⟨⟨k + 1, some x, by omega, by go_num, by rw [if_neg (by omega), HXX.out]; simp, HST.out.symm, hS4.al _⟩, by simp [intOf]; omega⟩
  ·have hkl : k = m.sw.length := by omega
   subst hkl
   rw [List.drop_length] at hgo
   have hsw : swGo m none m.sw = 0 := by rw [← hgo]; cases o <;> rfl
   have HSW := hid hsw
   clear hsw hgo ho
   go_wp2_with fail
   go_ret
   exact ⟨by rw [HV.out, HSW.out]; rfl, hSr.b⟩
end Go.Proofs.YtndmeaoidihikaaGreatDoor

namespace Go.Proofs.YtndmeaoidihikaaGreatDoor
open Go.RowKit
set_option maxHeartbeats 8000000
set_option maxRecDepth 100000

theorem CheckMachine_any (m : MacV) (ad : Option Addr) (cap : Nat) (w : World) (hR : Ints w ad cap m.sw) (hI0 : InI m.gears) :
  Calls Tryz.prog 39 #[mV m ad cap] w fun r w' => r = .returned (.int .i64 (macE m)) ∧ Below w.heap.size w w' := by
 obtain ⟨q, hq⟩ : ∃ q, m.gears.tmod 2 = q := ⟨_, rfl⟩
 have hI : -9223372036854775808 ≤ m.gears ∧ m.gears ≤ 9223372036854775807 := by unfold InI at hI0; omega
 by_cases c1 : m.gears < 1
 ·have hv : macE m = 3 := by unfold macE; rw [if_pos (.inl c1)]
  have hd1 : decide (m.gears < 1) = true := decide_eq_true c1
  cases hr : m.ring <;> cases ht : (m.turn != 1)
  ·exact cm_a00 m ad cap w hR hI hr q hq hd1 ht (hid hv)
  ·exact cm_a01 m ad cap w hR hI hr q hq hd1 ht (hid hv)
  ·exact cm_a10 m ad cap w hR hI hr q hq hd1 ht (hid hv)
  ·exact cm_a11 m ad cap w hR hI hr q hq hd1 ht (hid hv)
 have n1 : decide (m.gears < 1) = false := decide_eq_false c1
 by_cases c2 : 16 < m.gears
 ·have hv : macE m = 3 := by unfold macE; rw [if_pos (.inr c2)]
  have hd2 : decide (16 < m.gears) = true := decide_eq_true c2
  cases hr : m.ring <;> cases ht : (m.turn != 1)
  ·exact cm_b00 m ad cap w hR hI hr q hq n1 hd2 ht (hid hv)
  ·exact cm_b01 m ad cap w hR hI hr q hq n1 hd2 ht (hid hv)
  ·exact cm_b10 m ad cap w hR hI hr q hq n1 hd2 ht (hid hv)
  ·exact cm_b11 m ad cap w hR hI hr q hq n1 hd2 ht (hid hv)
 have n2 : decide (16 < m.gears) = false := decide_eq_false c2
 have r1 : 1 ≤ m.gears := by omega
 have r2 : m.gears ≤ 16 := by omega
 have hq2 : q = m.gears % 2 := by rw [← hq, Int.tmod_eq_emod_of_nonneg (by omega)]
 by_cases c3 : m.ring = true ∧ q = 1
 ·have hv : macE m = 17 := by unfold macE; rw [if_neg (by omega), if_pos ⟨c3.1, by rw [← hq2]; exact c3.2⟩]
  have hr := c3.1
  have hq1 : (q == 1) = true := by simpa using c3.2
  cases ht : (m.turn != 1)
  ·exact cm_c0 m ad cap w hR hI hr q hq r1 r2 n1 n2 hq1 ht (hid hv)
  ·exact cm_c1 m ad cap w hR hI hr q hq r1 r2 n1 n2 hq1 ht (hid hv)
 have m3 : ¬ (m.ring = true ∧ m.gears % 2 = 1) := fun h => c3 ⟨h.1, by rw [hq2]; exact h.2⟩
 have hqb : m.ring = true → (q == 1) = false := fun hr => by
  have : ¬ q = 1 := fun e => c3 ⟨hr, e⟩
  simpa using this
 by_cases c4 : m.turn ≠ 1 ∧ m.turn ≠ -1
 ·have hv : macE m = 3 := by unfold macE; rw [if_neg (by omega), if_neg m3, if_pos c4]
  have ht : (m.turn != 1) = true := by simpa using c4.1
  have htn : (m.turn != -1) = true := by simpa using c4.2
  cases hr : m.ring
  ·exact cm_d0 m ad cap w hR hI hr q hq r1 r2 n1 n2 ht htn (hid hv)
  ·exact cm_d1 m ad cap w hR hI hr q hq r1 r2 n1 n2 (hqb hr) ht htn (hid hv)
 have htn : (m.turn != 1) = true → (m.turn != -1) = false := fun h => by
  have t1 : m.turn ≠ 1 := by simpa using h
  have t2 : m.turn = -1 := by
   by_cases t2 : m.turn = -1
   ·exact t2
   ·exact absurd ⟨t1, t2⟩ c4
  simp [t2]
 by_cases c5 : m.gears < m.sw.length
 ·have hv : macE m = 5 := by unfold macE; rw [if_neg (by omega), if_neg m3, if_neg c4, if_pos c5]
  have hd5 : decide (m.gears < m.sw.length) = true := decide_eq_true c5
  cases hr : m.ring <;> cases ht : (m.turn != 1)
  ·exact cm_e00 m ad cap w hR hI hr q hq r1 r2 n1 n2 ht hd5 (hid hv)
  ·exact cm_e01 m ad cap w hR hI hr q hq r1 r2 n1 n2 ht (htn ht) hd5 (hid hv)
  ·exact cm_e10 m ad cap w hR hI hr q hq r1 r2 n1 n2 (hqb hr) ht hd5 (hid hv)
  ·exact cm_e11 m ad cap w hR hI hr q hq r1 r2 n1 n2 (hqb hr) ht (htn ht) hd5 (hid hv)
 have n5 : decide (m.gears < m.sw.length) = false := decide_eq_false c5
 have h5 : m.sw.length ≤ 16 := by omega
 have hv : macE m = swGo m none m.sw := by unfold macE; rw [if_neg (by omega), if_neg m3, if_neg c4, if_neg c5]
 cases hr : m.ring <;> cases ht : (m.turn != 1)
 ·exact cm_f00 m ad cap w hR hI hr q hq r1 r2 n1 n2 ht n5 h5 (hid hv)
 ·exact cm_f01 m ad cap w hR hI hr q hq r1 r2 n1 n2 ht (htn ht) n5 h5 (hid hv)
 ·exact cm_f10 m ad cap w hR hI hr q hq r1 r2 n1 n2 (hqb hr) ht n5 h5 (hid hv)
 ·exact cm_f11 m ad cap w hR hI hr q hq r1 r2 n1 n2 (hqb hr) ht (htn ht) n5 h5 (hid hv)
end Go.Proofs.YtndmeaoidihikaaGreatDoor

namespace Go.Proofs.YtndmeaoidihikaaGreatDoor
open Go.RowKit
set_option maxRecDepth 100000
/-- a meeting found by a run of 64 ticks (enough for every machine of at most 16 carriers' slots: allC_of checks it). -/
def meetC (m : MacV) (a b : Int) : Option (Nat × Int) := (meetF m a b 64 0 a b).getD none
def InS (m : MacV) (x : Int) : Prop := 0 ≤ x ∧ x < 4 * m.gears
def AllC (m : MacV) : Prop := ∀ a b, InS m a → InS m b → meetM m a b = meetC m a b
theorem allC_of {m : MacV} {n : Nat} (hn : 4 * m.gears = (n : Int)) (h : (List.range n).all (fun a => (List.range n).all fun b => (meetF m a b 64 0 a b).isSome) = true) : AllC m := by
 intro a b ⟨a0, a1⟩ ⟨b0, b1⟩
 have ha : ((a.toNat : Nat) : Int) = a := Int.toNat_of_nonneg a0
 have hb : ((b.toNat : Nat) : Int) = b := Int.toNat_of_nonneg b0
 have h1 := List.all_eq_true.1 h a.toNat (List.mem_range.2 (by omega))
 have h2 := List.all_eq_true.1 h1 b.toNat (List.mem_range.2 (by omega))
 rw [ha, hb] at h2
 cases hf : meetF m a b 64 0 a b with
 | none => rw [hf] at h2; cases h2
 | some r => rw [meetF_ok a0 a1 b0 b1 hf]; unfold meetC; rw [hf]; rfl
def firstC (m : MacV) (l : List Int) : Option (Nat × Int) := (pairsTo l l.length).foldl (fun b p => bestS b (meetC m p.1 p.2)) none
theorem foldl_same {α β : Type} {f g : β → α → β} : ∀ {l : List α} (_ : ∀ b, ∀ a ∈ l, f b a = g b a) (b : β), l.foldl f b = l.foldl g b
 | [], _, _ => rfl
 | a :: r, h, b => by
   rw [List.foldl_cons, List.foldl_cons, h b a (by simp)]
   exact foldl_same (fun b x hx => h b x (List.mem_cons_of_mem _ hx)) _
theorem firstC_ok {m : MacV} (hC : AllC m) {l : List Int} (hl : ∀ x ∈ l, InS m x) : firstM m l = firstC m l := by
 refine foldl_same (fun b p hp => ?_) none
 obtain ⟨i, j, hji, hi, rfl⟩ := (pairsTo_mem (l := l) (Nat.le_refl _)).1 hp
 have e : ∀ k, k < l.length → InS m (atD 0 l k) := fun k hk => hl _ (by simp [atD, hk])
 show bestS b (meetM m (atD 0 l i) (atD 0 l j)) = bestS b (meetC m (atD 0 l i) (atD 0 l j))
 rw [hC _ _ (e i hi) (e j (by omega))]
def apartC (m : MacV) (s : Int) (l : List Int) : Bool := !l.any fun b => decide (b = s) || (meetC m s b).isSome
theorem apartC_ok {m : MacV} (hC : AllC m) {s : Int} (hs : InS m s) : ∀ {l : List Int} (_ : ∀ x ∈ l, InS m x), apartM m s l = apartC m s l := by
 intro l hl
 unfold apartM apartC
 congr 1
 induction l with
 | nil => rfl
 | cons b r ih =>
  rw [List.any_cons, List.any_cons, ih fun x hx => hl x (List.mem_cons_of_mem _ hx)]
  unfold hurtM
  rw [hC s b hs (hl b (by simp))]
theorem freeC_ok {m : MacV} (hC : AllC m) {l : List Int} (hl : ∀ x ∈ l, InS m x) (hs : ∀ x ∈ slotsL m, InS m x) : freeM m l = (slotsL m).filter fun s => apartC m s l := by
 unfold freeM
 exact List.filter_congr fun s h => apartC_ok hC (hs s h) hl
def extC (m : MacV) : Nat → List Int → List Int → Int → List Int
 | 0, best, _, _ => best
 | f + 1, best, l, s => if best.length < l.length + (f + 1) then extC m f (if apartC m s l then extC m f (bigger best (l ++ [s])) (l ++ [s]) (s + 1) else best) l (s + 1) else best
theorem extC_ok {m : MacV} (hC : AllC m) : ∀ (f : Nat) (best l : List Int) (s : Int) (_ : 0 ≤ s) (_ : s + f ≤ 4 * m.gears) (_ : ∀ x ∈ l, InS m x), extF m f best l s = extC m f best l s
 | 0, _, _, _, _, _, _ => rfl
 | f + 1, best, l, s, h0, h1, hl => by
   have hs : InS m s := ⟨h0, by omega⟩
   have hl2 : ∀ x ∈ l ++ [s], InS m x := fun x hx => by
     rcases List.mem_append.1 hx with h | h
     · exact hl x h
     · rw [List.mem_singleton.1 h]; exact hs
   rw [extF, extC, apartC_ok hC hs hl, extC_ok hC f _ (l ++ [s]) (s + 1) (by omega) (by omega) hl2, extC_ok hC f _ l (s + 1) (by omega) (by omega) hl]
def rowM : MacV := ⟨false, 2, 1, []⟩
theorem row_all : AllC rowM := allC_of (n := 8) rfl (by decide)
theorem row_in {l : List Int} (h : (l.all fun x => decide (0 ≤ x ∧ x < 8)) = true) : ∀ x ∈ l, InS rowM x := fun x hx => by
 have := of_decide_eq_true (List.all_eq_true.1 h x hx)
 exact ⟨this.1, by show x < 4 * 2; omega⟩
theorem row_first {l : List Int} (h : (l.all fun x => decide (0 ≤ x ∧ x < 8)) = true) : firstM rowM l = firstC rowM l := firstC_ok row_all (row_in h)
theorem rv_mac : macE rowM = 0 := by first | rfl | decide | kernel_rfl
theorem rv_perm : permM rowM = [1, 4, 3, 0, 7, 2, 5, 6] := by first | rfl | decide | kernel_rfl
theorem rv_cyc : cycK (permM rowM) (permM rowM).length = [[0, 1, 4, 7, 6, 5, 2, 3]] := by first | rfl | decide | kernel_rfl
theorem rv_per : perS (permM rowM) = ⟨#[56]⟩ := by first | rfl | decide | kernel_rfl
theorem rv_meet : meet3 rowM [0, 6] = (2, 1, 0) := by unfold meet3; rw [row_first rfl]; rfl
theorem rv_acc : accE rowM [0, 1] = 0 := by unfold accE; rw [row_first rfl]; rfl
theorem rv_fillE : fillE rowM = 0 := by first | rfl | decide | kernel_rfl
theorem rv_fill : fillM rowM = [0, 1, 2, 3] := by unfold fillM; rw [extC_ok row_all _ _ _ _ (by decide) (by decide) (by simp)]; rfl
theorem rv_acc3 : accE rowM [0, 1, 2] = 0 := by unfold accE; rw [row_first rfl]; rfl
theorem rv_free : freeM rowM [0, 1, 2] = [3, 7] := by rw [freeC_ok row_all (row_in rfl) (row_in rfl)]; rfl
theorem rv_ordE : orderE rowM [0, 4, 3] = 0 := by unfold orderE meetsM; rw [row_first rfl]; rfl
theorem rv_ord : orderM rowM [0, 4, 3] = [0, 2, 1] := by first | rfl | decide | kernel_rfl
theorem rv_crsE : crossE rowM [0, 4, 3] = 0 := by unfold crossE meetsM; rw [row_first rfl]; rfl
theorem rv_wrdE : wrdE rowM [0, 4, 3] 4 = 0 := by unfold wrdE weaveE meetsM; rw [row_first rfl]; rfl
theorem rv_wrd : wrdL rowM [0, 4, 3] 4 = [-1, 2, 1] := by first | rfl | decide | kernel_rfl
theorem rv_wvE : weaveE rowM [0, 4, 3] 4 = 0 := by unfold weaveE meetsM; rw [row_first rfl]; rfl
theorem rv_str : strandsL rowM [0, 4, 3] 4 = [2, 1, 0] := by first | rfl | decide | kernel_rfl
theorem rv_stE : stepsE rowM [0, 4, 3] 4 = 0 := by first | rfl | decide | kernel_rfl
theorem rv_st : ([0, 4, 3] : List Int).map (fun s => itM rowM s 4) = [6, 2, 7] := by first | rfl | decide | kernel_rfl
theorem rv_ldE : loadE rowM [0, 4, 3] = 0 := by first | rfl | decide | kernel_rfl
theorem rv_mir : ([0, 4, 3] : List Int).map mirM = [0, 4, 1] := by first | rfl | decide | kernel_rfl
theorem rv_mwE : wrdE (turnMac rowM) [0, 4, 1] 4 = 0 := by unfold wrdE weaveE meetsM; rw [firstC_ok (m := turnMac rowM) (l := [0, 4, 1]) (allC_of (n := 8) rfl (by decide)) (fun x hx => row_in (l := [0, 4, 1]) rfl x hx)]; rfl
theorem rv_mw : wrdL (turnMac rowM) [0, 4, 1] 4 = [1, -2, -1] := by first | rfl | decide | kernel_rfl
theorem rv_bkE : loadE rowM [4] = 0 := by first | rfl | decide | kernel_rfl
theorem rv_bk : ([4] : List Int).map (overM rowM) = [2] := by first | rfl | decide | kernel_rfl
theorem rv_print : printMB rowM = ⟨#[114, 111, 119, 32, 50, 32, 43, 32, 110, 111, 110, 101]⟩ := by first | rfl | decide | kernel_rfl
theorem rv_parse1 : parseMB [114, 105, 110, 103, 32, 50, 32, 45, 32, 48, 44, 49] = (⟨true, 2, -1, [0, 1]⟩, 0) := by first | rfl | decide | kernel_rfl
theorem rv_parse2 : (parseMB [114, 105, 110, 103, 32, 51, 32, 43, 32, 110, 111, 110, 101]).2 = 17 := by first | rfl | decide | kernel_rfl
end Go.Proofs.YtndmeaoidihikaaGreatDoor
