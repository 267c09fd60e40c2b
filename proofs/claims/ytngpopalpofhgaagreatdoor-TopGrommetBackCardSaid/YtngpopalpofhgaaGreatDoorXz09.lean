/- Contracts and plain facts that the claim uses (MaW MaX AwV MbK OnW AwA GpA). Conditions: as each one states. -/
import Derived.RangeFuncNested
import Derived.RangeFuncBound
import Derived.RangeFuncCalls
import Derived.RangeFuncLeaves
import Derived.RangeFuncFrom
import Derived.Shelf.Abstract
import Derived.Shelf.RegionOpen
import Derived.WalkKit
import Derived.OwnWalkIn
import Derived.TacticsInMore
import Derived.LoopNIn
import Derived.LoopIn
import Derived.Test.YtngpopalpofhgaaGreatDoorProg
import Derived.WalkSpells
import Derived.Maps.AppendAt
import Derived.Deep.Quiet
import Derived.Maps.Own
import Derived.Maps.OwnSet
import Derived.Maps.Views
import Derived.WalkLawsBesides
import Derived.Laws.EntriesVeiled
import Derived.Deep.QuietTactic
import Derived.BigQuiet
import Derived.Shelf.Strings.Trim
import Derived.Shelf.Strings.SlTrimAscii
import Derived.Shelf.Strings.Repeat
import Derived.Shelf.Strings.OnBuilder
import Derived.Shelf.Strconv.Itoa1
import Derived.Shelf.Strconv.Itoa3
import Derived.Shelf.LaysM
import Derived.Ground.Names2Prog
import Derived.Lib.OthersKept
import Derived.Deep.RegionHeld3
import Derived.Deep.AppendLies
import Derived.Deep.RegionHeldLaw
import Derived.Deep.RegionLaw
import Derived.StillTail
import Derived.Laws.Tables
import Derived.IntWalk
import Derived.Laws.CopyOwn
import Derived.BigRegion
import Derived.ChangeAlike
import Derived.Shelf.Bits.Mul64
import Derived.Lib.ItoaLen
import Derived.Lib.ItoaMem
import Derived.Sort.LoopGhostIn
import Derived.Maps.RangeWalk
import Derived.Sort.QuietThIn
import Derived.Maps.Ext
import Derived.Deep.LoopGhost
import Derived.Lib.Split
import Derived.Lib.AtoiAll
import Derived.Lib.AppendIntMem
import Derived.Lib.SmallJoins
import Derived.LaidSub
import Derived.Lib.LaidTab
import Derived.Lib.AtoiErrMem
import Derived.Stop.LaidErr
import Derived.ReadAgain
import Derived.ChangeSlices
import Derived.OpenShut
import Derived.ProofKit
import Derived.Deep.DeepHandedRow
import Derived.Deep.SlicePairs
import Derived.Test.YtngpopalpofhgaaGreatDoorXz01
import Derived.Test.YtngpopalpofhgaaGreatDoorXz02
import Derived.Test.YtngpopalpofhgaaGreatDoorXz03
import Derived.Test.YtngpopalpofhgaaGreatDoorXz04
import Derived.Test.YtngpopalpofhgaaGreatDoorXz05
import Derived.Test.YtngpopalpofhgaaGreatDoorXz06
import Derived.Test.YtngpopalpofhgaaGreatDoorXz07
import Derived.Test.YtngpopalpofhgaaGreatDoorXz08
set_option linter.all false

namespace Go.Proofs.YtngpopalpofhgaaGreatDoor
open Go.RowKit
set_option maxHeartbeats 8000000
set_option maxRecDepth 100000

theorem cm_f10 (m : MacV) (ad : Option Addr) (cap : Nat) (w : World) (hR : Ints w ad cap m.sw) (hI : -9223372036854775808 ≤ m.gears ∧ m.gears ≤ 9223372036854775807) (hr : m.ring = true) (q : Int) (hq : m.gears.tmod 2 = q) (r1 : 1 ≤ m.gears) (r2 : m.gears ≤ 16) (n1 : decide (m.gears < 1) = false) (n2 : decide (16 < m.gears) = false) (hqb : (q == 1) = false) (ht : (m.turn != 1) = false)  (n5 : decide (m.gears < m.sw.length) = false) (h5 : m.sw.length ≤ 16) (HV : Hid (macE m = swGo m none m.sw)) :
  Calls Tryz.prog 204 #[mV m ad cap] w fun r w' => r = .returned (.int .i64 (macE m)) ∧ Below w.heap.size w w' := by
 have hcap := hR.le
 have hmx := hR.max
 have HSh := hid (fun p w => shared_any m ad cap p w)
 unfold mV at HSh
 rw [hr] at HSh
 unfold mV
 rw [hr]
 clear hr
 go_enter Tryz.func204, Tryz.ntmps204
 go_wp2_with fail
 have hS := (SL.nil w).box (.cells #[.bool true, .int .i64 m.gears, .int .i64 m.turn, .slice ad m.sw.length cap] 76)
 have q1 := (hS.blk 0 rfl).1
 refine wp_region_qt 34 kR kR ?_
 simp only [List.take_succ_cons, List.take_zero, List.drop_succ_cons, List.drop_zero]
 repeat (first | ((with_reducible refine wpB_load F_boolM wU wU q1 wU ?_); (try simp only [Act.put, pA, pB, pC])) | ((with_reducible refine wpB_load F_sliceM wU wU q1 wU ?_); (try simp only [Act.put, pA, pB, pC])) | ((with_reducible refine wpB_when wU wU wU ?_); (try simp only [Act.put, pA, pB, pC])) | ((with_reducible refine wpQ_skip wU ?_); (try simp only [Act.put, pA, pB, pC])) |  ((with_reducible refine wpB_load (by first | exact F_int | exact F_u64s) wU wU (by assumption) wU ?_); (try simp only [Act.put, pA, pB, pC])) | ((refine wpQ_oneG ?_ wU (fun w' => ?_) ?_); rotate_left; (go_simp; rfl); (try simp only [Act.put, pA, pB, pC])))
 refine wpQuiet_nil ?_
 intro w1 hb1
 have hS1 := hS.mono hb1
 have hS2 := hS1.al (.cells #[.int .i64 0, .int .i64 0, .int .i64 0, .int .i64 0] 26)
 have q3 := (hS2.blk 0 rfl).1
 go_wp2_with (first | (go_at_call 152; refine (mfirst_any _ _ [_, _, _, _] _ (reps_newN cIntS [_, _, _, _] 4 rfl (by decide) _ _ (by simp) rfl)).mono ?_; rw [firstE_z, firstE_z, firstE_z, firstE_z, firstE_nil]; rintro e w' ⟨rfl, rfl⟩) | (with_reducible refine wpList_ldB F_sliceM wU wU q3 wU ?_))
 clear q1 q3 hS hS1
 go_loopw [49, 4, 5, 6] (fun i _ _ _ wr => ∃ (k : Nat) (o : Option Int), k ≤ m.sw.length ∧ i = .int .i64 k ∧ (o = if k = 0 then none else some (atD 0 m.sw ((k : Int) - 1))) ∧ swGo m o (m.sw.drop k) = swGo m none m.sw ∧ SL w.heap.size w wr [pBlk w.heap.size (.cells #[.bool true, .int .i64 m.gears, .int .i64 m.turn, .slice ad m.sw.length cap] 76)]) (fun i _ _ _ _ => m.sw.length - (intOf i).toNat)
 case atStart => exact ⟨0, none, by omega, rfl, rfl, rfl, hS2⟩
 case round =>
  clear hS2
  obtain ⟨k, o, hk, rfl, ho, hgo, hSr⟩ := hrel
  have q3 := (hSr.blk 0 rfl).1
  have hRr := hR.below hSr.b
  by_cases hlt : k < m.sw.length
  ·have hst := swGo_step m k hlt o
   rw [hgo] at hst
   obtain ⟨x, hxx⟩ : ∃ x, x = atD 0 m.sw k := ⟨_, rfl⟩
   rw [← hxx] at hst
   have HXX := hid hxx
   have CS := fun w => HSh.out x w
   clear hxx hgo
   cases hsh : sharedM m x
   ·rw [hsh] at CS hst
    rw [if_pos rfl] at hst
    have HC := hid CS; have HST := hid hst
    clear CS hst ho hsh
    by_cases hk0 : k = 0
    ·have hk1 : decide (0 < (k : Int)) = false := by simp [hk0]
     have hk2 : ¬ 0 < (k : Int) := by omega
     clear hk0
     go_wp2_with (first | ((with_reducible refine wpList_idx _ 0 E_ints F_int cInt1 wU wU (hRr) oD oD (fun _ => wU) (fun _ => ?_)); rw [← HXX.out]) | (with_reducible refine wpList_ldS (n := 4) (us := #[.bool true, .int .i64 m.gears, .int .i64 m.turn, .slice ad m.sw.length cap]) A_mach kR wU wU (by assumption) wU wU ?_))
     refine (HC.out _).mono ?_
     rintro e w4 ⟨rfl, b4⟩
     have hS4 := hSr.mono b4
     have q4 := (hS4.blk 0 rfl).1
     go_wp2_with (first | (go_at_call 154; refine (mwhen_any _ _ _).mono ?_; rintro e w' ⟨rfl, rfl⟩) | (go_at_call 152; refine (mfirst_any _ _ [_, _] _ (reps_newN cIntS [_, _] 2 rfl (by decide) _ _ (by simp) rfl)).mono ?_; (first | rw [firstE_head (by decide)] | rw [firstE_z, firstE_head (by decide)] | rw [firstE_z, firstE_z, firstE_nil]); rintro e w' ⟨rfl, rfl⟩))
     go_ret
     exact ⟨by rw [HV.out, HST.out]; rfl, bal hS4.b _⟩
    ·have hk1 : decide (0 < (k : Int)) = true := by simp; omega
     have hk2 : 0 < (k : Int) := by omega
     have hkm : max 0 ((k : Int) - 1) = (k : Int) - 1 := by omega
     have hkl : (k : Int) - 1 < m.sw.length := by omega
     go_wp2_with (first | ((with_reducible refine wpList_idx _ 0 E_ints F_int cInt1 wU wU (hRr) oD oD (fun _ => wU) (fun _ => ?_)); rw [← HXX.out]) | (with_reducible refine wpList_ldS (n := 4) (us := #[.bool true, .int .i64 m.gears, .int .i64 m.turn, .slice ad m.sw.length cap]) A_mach kR wU wU (by assumption) wU wU ?_))
     refine (HC.out _).mono ?_
     rintro e w4 ⟨rfl, b4⟩
     have hS4 := hSr.mono b4
     have q3 := (hS4.blk 0 rfl).1
     have hR4 := hR.below hS4.b
     go_wp2_with (first | (go_at_call 154; refine (mwhen_any _ _ _).mono ?_; rintro e w' ⟨rfl, rfl⟩) | (with_reducible refine wpList_ldB F_sliceM wU wU q3 wU ?_) | (with_reducible refine wpList_idxG 0 E_ints F_int cInt1 wU wU (hR4) (rfl) oD oD (fun _ => wU) wU (fun _ => wU) (fun _ => ?_)) | (go_at_call 152; refine (mfirst_any _ _ [_, _] _ (reps_newN cIntS [_, _] 2 rfl (by decide) _ _ (by simp) rfl)).mono ?_; (first | rw [firstE_head (by decide)] | rw [firstE_z, firstE_head (by decide)] | rw [firstE_z, firstE_z, firstE_nil]); rintro e w' ⟨rfl, rfl⟩))
     all_goals go_ret
     all_goals exact ⟨by rw [HV.out, HST.out]; rfl, bal hS4.b _⟩
   ·rw [hsh] at CS hst
    rw [if_neg (by decide)] at hst
    have HC := hid CS
    clear CS hsh
    by_cases hk0 : k = 0
    ·have hk1 : decide (0 < (k : Int)) = false := by simp [hk0]
     have hk2 : ¬ 0 < (k : Int) := by omega
     rw [ho, if_pos hk0] at hst
     have HST := hid hst; have HK0 := hid hk0
     clear hk0 hst ho
     go_wp2_with (first | ((with_reducible refine wpList_idx _ 0 E_ints F_int cInt1 wU wU (hRr) oD oD (fun _ => wU) (fun _ => ?_)); rw [← HXX.out]) | (with_reducible refine wpList_ldS (n := 4) (us := #[.bool true, .int .i64 m.gears, .int .i64 m.turn, .slice ad m.sw.length cap]) A_mach kR wU wU (by assumption) wU wU ?_))
     refine (HC.out _).mono ?_
     rintro e w4 ⟨rfl, b4⟩
     have hS4 := hSr.mono b4
     go_wp2_with (first | (go_at_call 154; refine (mwhen_any _ _ _).mono ?_; rintro e w' ⟨rfl, rfl⟩) | (go_at_call 152; refine (mfirst_any _ _ [_, _] _ (reps_newN cIntS [_, _] 2 rfl (by decide) _ _ (by simp) rfl)).mono ?_; (first | rw [firstE_head (by decide)] | rw [firstE_z, firstE_head (by decide)] | rw [firstE_z, firstE_z, firstE_nil]); rintro e w' ⟨rfl, rfl⟩))
     exact ⟨⟨k + 1, some x, by omega, by go_num, by rw [if_neg (by omega), HXX.out]; simp, HST.out.symm, hS4.al _⟩, by simp [intOf]; omega⟩
    ·have hk1 : decide (0 < (k : Int)) = true := by simp; omega
     have hk2 : 0 < (k : Int) := by omega
     have hkm : max 0 ((k : Int) - 1) = (k : Int) - 1 := by omega
     have hkl : (k : Int) - 1 < m.sw.length := by omega
     rw [ho, if_neg hk0] at hst
     simp only at hst
     obtain ⟨y, hyy⟩ : ∃ y, y = atD 0 m.sw ((k : Int) - 1) := ⟨_, rfl⟩
     rw [← hyy] at hst
     have HYY := hid hyy
     clear hyy ho
     by_cases hxy : x ≤ y
     ·rw [if_pos hxy] at hst
      have HST := hid hst
      clear hst
      go_wp2_with (first | ((with_reducible refine wpList_idx _ 0 E_ints F_int cInt1 wU wU (hRr) oD oD (fun _ => wU) (fun _ => ?_)); rw [← HXX.out]) | (with_reducible refine wpList_ldS (n := 4) (us := #[.bool true, .int .i64 m.gears, .int .i64 m.turn, .slice ad m.sw.length cap]) A_mach kR wU wU (by assumption) wU wU ?_))
      refine (HC.out _).mono ?_
      rintro e w4 ⟨rfl, b4⟩
      have hS4 := hSr.mono b4
      have q3 := (hS4.blk 0 rfl).1
      have hR4 := hR.below hS4.b
      go_wp2_with (first | (go_at_call 154; refine (mwhen_any _ _ _).mono ?_; rintro e w' ⟨rfl, rfl⟩) | (with_reducible refine wpList_ldB F_sliceM wU wU q3 wU ?_) | ((with_reducible refine wpList_idxG 0 E_ints F_int cInt1 wU wU (hR4) (rfl) oD oD (fun _ => wU) wU (fun _ => wU) (fun _ => ?_)); rw [← HYY.out]) | (go_at_call 152; refine (mfirst_any _ _ [_, _] _ (reps_newN cIntS [_, _] 2 rfl (by decide) _ _ (by simp) rfl)).mono ?_; (first | rw [firstE_head (by decide)] | rw [firstE_z, firstE_head (by decide)] | rw [firstE_z, firstE_z, firstE_nil]); rintro e w' ⟨rfl, rfl⟩))
      go_ret
      exact ⟨by rw [HV.out, HST.out]; rfl, bal hS4.b _⟩
     ·rw [if_neg hxy] at hst
      have HST := hid hst
      clear hst
      go_wp2_with (first | ((with_reducible refine wpList_idx _ 0 E_ints F_int cInt1 wU wU (hRr) oD oD (fun _ => wU) (fun _ => ?_)); rw [← HXX.out]) | (with_reducible refine wpList_ldS (n := 4) (us := #[.bool true, .int .i64 m.gears, .int .i64 m.turn, .slice ad m.sw.length cap]) A_mach kR wU wU (by assumption) wU wU ?_))
      refine (HC.out _).mono ?_
      rintro e w4 ⟨rfl, b4⟩
      have hS4 := hSr.mono b4
      have q3 := (hS4.blk 0 rfl).1
      have hR4 := hR.below hS4.b
      go_wp2_with (first | (go_at_call 154; refine (mwhen_any _ _ _).mono ?_; rintro e w' ⟨rfl, rfl⟩) | (with_reducible refine wpList_ldB F_sliceM wU wU q3 wU ?_) | ((with_reducible refine wpList_idxG 0 E_ints F_int cInt1 wU wU (hR4) (rfl) oD oD (fun _ => wU) wU (fun _ => wU) (fun _ => ?_)); rw [← HYY.out]) | (go_at_call 152; refine (mfirst_any _ _ [_, _] _ (reps_newN cIntS [_, _] 2 rfl (by decide) _ _ (by simp) rfl)).mono ?_; (first | rw [firstE_head (by decide)] | rw [firstE_z, firstE_head (by decide)] | rw [firstE_z, firstE_z, firstE_nil]); rintro e w' ⟨rfl, rfl⟩))
      exact ⟨⟨k + 1, some x, by omega, by go_num, by rw [if_neg (by omega), HXX.out]; simp, HST.out.symm, hS4.al _⟩, by simp [intOf]; omega⟩
  ·have hkl : k = m.sw.length := by omega
   subst hkl
   rw [List.drop_length] at hgo
   have hsw : swGo m none m.sw = 0 := by rw [← hgo]; cases o <;> rfl
   have HSW := hid hsw
   clear hsw hgo ho
   go_wp2_with fail
   go_ret
   exact ⟨by rw [HV.out, HSW.out]; rfl, hSr.b⟩
theorem cm_f11 (m : MacV) (ad : Option Addr) (cap : Nat) (w : World) (hR : Ints w ad cap m.sw) (hI : -9223372036854775808 ≤ m.gears ∧ m.gears ≤ 9223372036854775807) (hr : m.ring = true) (q : Int) (hq : m.gears.tmod 2 = q) (r1 : 1 ≤ m.gears) (r2 : m.gears ≤ 16) (n1 : decide (m.gears < 1) = false) (n2 : decide (16 < m.gears) = false) (hqb : (q == 1) = false) (ht : (m.turn != 1) = true) (htn : (m.turn != -1) = false) (n5 : decide (m.gears < m.sw.length) = false) (h5 : m.sw.length ≤ 16) (HV : Hid (macE m = swGo m none m.sw)) :
  Calls Tryz.prog 204 #[mV m ad cap] w fun r w' => r = .returned (.int .i64 (macE m)) ∧ Below w.heap.size w w' := by
 have hcap := hR.le
 have hmx := hR.max
 have HSh := hid (fun p w => shared_any m ad cap p w)
 unfold mV at HSh
 rw [hr] at HSh
 unfold mV
 rw [hr]
 clear hr
 go_enter Tryz.func204, Tryz.ntmps204
 go_wp2_with fail
 have hS := (SL.nil w).box (.cells #[.bool true, .int .i64 m.gears, .int .i64 m.turn, .slice ad m.sw.length cap] 76)
 have q1 := (hS.blk 0 rfl).1
 refine wp_region_qt 34 kR kR ?_
 simp only [List.take_succ_cons, List.take_zero, List.drop_succ_cons, List.drop_zero]
 repeat (first | ((with_reducible refine wpB_load F_boolM wU wU q1 wU ?_); (try simp only [Act.put, pA, pB, pC])) | ((with_reducible refine wpB_load F_sliceM wU wU q1 wU ?_); (try simp only [Act.put, pA, pB, pC])) | ((with_reducible refine wpB_when wU wU wU ?_); (try simp only [Act.put, pA, pB, pC])) | ((with_reducible refine wpQ_skip wU ?_); (try simp only [Act.put, pA, pB, pC])) |  ((with_reducible refine wpB_load (by first | exact F_int | exact F_u64s) wU wU (by assumption) wU ?_); (try simp only [Act.put, pA, pB, pC])) | ((refine wpQ_oneG ?_ wU (fun w' => ?_) ?_); rotate_left; (go_simp; rfl); (try simp only [Act.put, pA, pB, pC])))
 refine wpQuiet_nil ?_
 intro w1 hb1
 have hS1 := hS.mono hb1
 have hS2 := hS1.al (.cells #[.int .i64 0, .int .i64 0, .int .i64 0, .int .i64 0] 26)
 have q3 := (hS2.blk 0 rfl).1
 go_wp2_with (first | (go_at_call 152; refine (mfirst_any _ _ [_, _, _, _] _ (reps_newN cIntS [_, _, _, _] 4 rfl (by decide) _ _ (by simp) rfl)).mono ?_; rw [firstE_z, firstE_z, firstE_z, firstE_z, firstE_nil]; rintro e w' ⟨rfl, rfl⟩) | (with_reducible refine wpList_ldB F_sliceM wU wU q3 wU ?_))
 clear q1 q3 hS hS1
 go_loopw [49, 4, 5, 6] (fun i _ _ _ wr => ∃ (k : Nat) (o : Option Int), k ≤ m.sw.length ∧ i = .int .i64 k ∧ (o = if k = 0 then none else some (atD 0 m.sw ((k : Int) - 1))) ∧ swGo m o (m.sw.drop k) = swGo m none m.sw ∧ SL w.heap.size w wr [pBlk w.heap.size (.cells #[.bool true, .int .i64 m.gears, .int .i64 m.turn, .slice ad m.sw.length cap] 76)]) (fun i _ _ _ _ => m.sw.length - (intOf i).toNat)
 case atStart => exact ⟨0, none, by omega, rfl, rfl, rfl, hS2⟩
 case round =>
  clear hS2
  obtain ⟨k, o, hk, rfl, ho, hgo, hSr⟩ := hrel
  have q3 := (hSr.blk 0 rfl).1
  have hRr := hR.below hSr.b
  by_cases hlt : k < m.sw.length
  ·have hst := swGo_step m k hlt o
   rw [hgo] at hst
   obtain ⟨x, hxx⟩ : ∃ x, x = atD 0 m.sw k := ⟨_, rfl⟩
   rw [← hxx] at hst
   have HXX := hid hxx
   have CS := fun w => HSh.out x w
   clear hxx hgo
   cases hsh : sharedM m x
   ·rw [hsh] at CS hst
    rw [if_pos rfl] at hst
    have HC := hid CS; have HST := hid hst
    clear CS hst ho hsh
    by_cases hk0 : k = 0
    ·have hk1 : decide (0 < (k : Int)) = false := by simp [hk0]
     have hk2 : ¬ 0 < (k : Int) := by omega
     clear hk0
     go_wp2_with (first | ((with_reducible refine wpList_idx _ 0 E_ints F_int cInt1 wU wU (hRr) oD oD (fun _ => wU) (fun _ => ?_)); rw [← HXX.out]) | (with_reducible refine wpList_ldS (n := 4) (us := #[.bool true, .int .i64 m.gears, .int .i64 m.turn, .slice ad m.sw.length cap]) A_mach kR wU wU (by assumption) wU wU ?_))
     refine (HC.out _).mono ?_
     rintro e w4 ⟨rfl, b4⟩
     have hS4 := hSr.mono b4
     have q4 := (hS4.blk 0 rfl).1
     go_wp2_with (first | (go_at_call 154; refine (mwhen_any _ _ _).mono ?_; rintro e w' ⟨rfl, rfl⟩) | (go_at_call 152; refine (mfirst_any _ _ [_, _] _ (reps_newN cIntS [_, _] 2 rfl (by decide) _ _ (by simp) rfl)).mono ?_; (first | rw [firstE_head (by decide)] | rw [firstE_z, firstE_head (by decide)] | rw [firstE_z, firstE_z, firstE_nil]); rintro e w' ⟨rfl, rfl⟩))
     go_ret
     exact ⟨by rw [HV.out, HST.out]; rfl, bal hS4.b _⟩
    ·have hk1 : decide (0 < (k : Int)) = true := by simp; omega
     have hk2 : 0 < (k : Int) := by omega
     have hkm : max 0 ((k : Int) - 1) = (k : Int) - 1 := by omega
     have hkl : (k : Int) - 1 < m.sw.length := by omega
     go_wp2_with (first | ((with_reducible refine wpList_idx _ 0 E_ints F_int cInt1 wU wU (hRr) oD oD (fun _ => wU) (fun _ => ?_)); rw [← HXX.out]) | (with_reducible refine wpList_ldS (n := 4) (us := #[.bool true, .int .i64 m.gears, .int .i64 m.turn, .slice ad m.sw.length cap]) A_mach kR wU wU (by assumption) wU wU ?_))
     refine (HC.out _).mono ?_
     rintro e w4 ⟨rfl, b4⟩
     have hS4 := hSr.mono b4
     have q3 := (hS4.blk 0 rfl).1
     have hR4 := hR.below hS4.b
     go_wp2_with (first | (go_at_call 154; refine (mwhen_any _ _ _).mono ?_; rintro e w' ⟨rfl, rfl⟩) | (with_reducible refine wpList_ldB F_sliceM wU wU q3 wU ?_) | (with_reducible refine wpList_idxG 0 E_ints F_int cInt1 wU wU (hR4) (rfl) oD oD (fun _ => wU) wU (fun _ => wU) (fun _ => ?_)) | (go_at_call 152; refine (mfirst_any _ _ [_, _] _ (reps_newN cIntS [_, _] 2 rfl (by decide) _ _ (by simp) rfl)).mono ?_; (first | rw [firstE_head (by decide)] | rw [firstE_z, firstE_head (by decide)] | rw [firstE_z, firstE_z, firstE_nil]); rintro e w' ⟨rfl, rfl⟩))
     all_goals go_ret
     all_goals exact ⟨by rw [HV.out, HST.out]; rfl, bal hS4.b _⟩
   ·rw [hsh] at CS hst
    rw [if_neg (by decide)] at hst
    have HC := hid CS
    clear CS hsh
    by_cases hk0 : k = 0
    ·have hk1 : decide (0 < (k : Int)) = false := by simp [hk0]
     have hk2 : ¬ 0 < (k : Int) := by omega
     rw [ho, if_pos hk0] at hst
     have HST := hid hst; have HK0 := hid hk0
     clear hk0 hst ho
     go_wp2_with (first | ((with_reducible refine wpList_idx _ 0 E_ints F_int cInt1 wU wU (hRr) oD oD (fun _ => wU) (fun _ => ?_)); rw [← HXX.out]) | (with_reducible refine wpList_ldS (n := 4) (us := #[.bool true, .int .i64 m.gears, .int .i64 m.turn, .slice ad m.sw.length cap]) A_mach kR wU wU (by assumption) wU wU ?_))
     refine (HC.out _).mono ?_
     rintro e w4 ⟨rfl, b4⟩
     have hS4 := hSr.mono b4
     go_wp2_with (first | (go_at_call 154; refine (mwhen_any _ _ _).mono ?_; rintro e w' ⟨rfl, rfl⟩) | (go_at_call 152; refine (mfirst_any _ _ [_, _] _ (reps_newN cIntS [_, _] 2 rfl (by decide) _ _ (by simp) rfl)).mono ?_; (first | rw [firstE_head (by decide)] | rw [firstE_z, firstE_head (by decide)] | rw [firstE_z, firstE_z, firstE_nil]); rintro e w' ⟨rfl, rfl⟩))
     exact ⟨⟨k + 1, some x, by omega, by go_num, by rw [if_neg (by omega), HXX.out]; simp, HST.out.symm, hS4.al _⟩, by simp [intOf]; omega⟩
    ·have hk1 : decide (0 < (k : Int)) = true := by simp; omega
     have hk2 : 0 < (k : Int) := by omega
     have hkm : max 0 ((k : Int) - 1) = (k : Int) - 1 := by omega
     have hkl : (k : Int) - 1 < m.sw.length := by omega
     rw [ho, if_neg hk0] at hst
     simp only at hst
     obtain ⟨y, hyy⟩ : ∃ y, y = atD 0 m.sw ((k : Int) - 1) := ⟨_, rfl⟩
     rw [← hyy] at hst
     have HYY := hid hyy
     clear hyy ho
     by_cases hxy : x ≤ y
     ·rw [if_pos hxy] at hst
      have HST := hid hst
      clear hst
      go_wp2_with (first | ((with_reducible refine wpList_idx _ 0 E_ints F_int cInt1 wU wU (hRr) oD oD (fun _ => wU) (fun _ => ?_)); rw [← HXX.out]) | (with_reducible refine wpList_ldS (n := 4) (us := #[.bool true, .int .i64 m.gears, .int .i64 m.turn, .slice ad m.sw.length cap]) A_mach kR wU wU (by assumption) wU wU ?_))
      refine (HC.out _).mono ?_
      rintro e w4 ⟨rfl, b4⟩
      have hS4 := hSr.mono b4
      have q3 := (hS4.blk 0 rfl).1
      have hR4 := hR.below hS4.b
      go_wp2_with (first | (go_at_call 154; refine (mwhen_any _ _ _).mono ?_; rintro e w' ⟨rfl, rfl⟩) | (with_reducible refine wpList_ldB F_sliceM wU wU q3 wU ?_) | ((with_reducible refine wpList_idxG 0 E_ints F_int cInt1 wU wU (hR4) (rfl) oD oD (fun _ => wU) wU (fun _ => wU) (fun _ => ?_)); rw [← HYY.out]) | (go_at_call 152; refine (mfirst_any _ _ [_, _] _ (reps_newN cIntS [_, _] 2 rfl (by decide) _ _ (by simp) rfl)).mono ?_; (first | rw [firstE_head (by decide)] | rw [firstE_z, firstE_head (by decide)] | rw [firstE_z, firstE_z, firstE_nil]); rintro e w' ⟨rfl, rfl⟩))
      go_ret
      exact ⟨by rw [HV.out, HST.out]; rfl, bal hS4.b _⟩
     ·rw [if_neg hxy] at hst
      have HST := hid hst
      clear hst
      go_wp2_with (first | ((with_reducible refine wpList_idx _ 0 E_ints F_int cInt1 wU wU (hRr) oD oD (fun _ => wU) (fun _ => ?_)); rw [← HXX.out]) | (with_reducible refine wpList_ldS (n := 4) (us := #[.bool true, .int .i64 m.gears, .int .i64 m.turn, .slice ad m.sw.length cap]) A_mach kR wU wU (by assumption) wU wU ?_))
      refine (HC.out _).mono ?_
      rintro e w4 ⟨rfl, b4⟩
      have hS4 := hSr.mono b4
      have q3 := (hS4.blk 0 rfl).1
      have hR4 := hR.below hS4.b
      go_wp2_with (first | (go_at_call 154; refine (mwhen_any _ _ _).mono ?_; rintro e w' ⟨rfl, rfl⟩) | (with_reducible refine wpList_ldB F_sliceM wU wU q3 wU ?_) | ((with_reducible refine wpList_idxG 0 E_ints F_int cInt1 wU wU (hR4) (rfl) oD oD (fun _ => wU) wU (fun _ => wU) (fun _ => ?_)); rw [← HYY.out]) | (go_at_call 152; refine (mfirst_any _ _ [_, _] _ (reps_newN cIntS [_, _] 2 rfl (by decide) _ _ (by simp) rfl)).mono ?_; (first | rw [firstE_head (by decide)] | rw [firstE_z, firstE_head (by decide)] | rw [firstE_z, firstE_z, firstE_nil]); rintro e w' ⟨rfl, rfl⟩))
      exact ⟨⟨k + 1, some x, by omega, by go_num, by rw [if_neg (by omega), HXX.out]; simp, HST.out.symm, hS4.al _⟩, by simp [intOf]; omega⟩
  ·have hkl : k = m.sw.length := by omega
   subst hkl
   rw [List.drop_length] at hgo
   have hsw : swGo m none m.sw = 0 := by rw [← hgo]; cases o <;> rfl
   have HSW := hid hsw
   clear hsw hgo ho
   go_wp2_with fail
   go_ret
   exact ⟨by rw [HV.out, HSW.out]; rfl, hSr.b⟩
end Go.Proofs.YtngpopalpofhgaaGreatDoor

namespace Go.Proofs.YtngpopalpofhgaaGreatDoor
open Go.RowKit
set_option maxHeartbeats 8000000
set_option maxRecDepth 100000

theorem CheckMachine_any (m : MacV) (ad : Option Addr) (cap : Nat) (w : World) (hR : Ints w ad cap m.sw) (hI0 : InI m.gears) :
  Calls Tryz.prog 204 #[mV m ad cap] w fun r w' => r = .returned (.int .i64 (macE m)) ∧ Below w.heap.size w w' := by
 obtain ⟨q, hq⟩ : ∃ q, m.gears.tmod 2 = q := ⟨_, rfl⟩
 have hI : -9223372036854775808 ≤ m.gears ∧ m.gears ≤ 9223372036854775807 := by unfold InI at hI0; omega
 by_cases c1 : m.gears < 1
 ·have hv : macE m = 3 := by unfold macE; rw [if_pos (.inl c1)]
  have hd1 : decide (m.gears < 1) = true := decide_eq_true c1
  cases hr : m.ring <;> cases ht : (m.turn != 1)
  ·exact cm_a00 m ad cap w hR hI hr q hq hd1 ht (hid hv)
  ·exact cm_a01 m ad cap w hR hI hr q hq hd1 ht (hid hv)
  ·exact cm_a10 m ad cap w hR hI hr q hq hd1 ht (hid hv)
  ·exact cm_a11 m ad cap w hR hI hr q hq hd1 ht (hid hv)
 have n1 : decide (m.gears < 1) = false := decide_eq_false c1
 by_cases c2 : 16 < m.gears
 ·have hv : macE m = 3 := by unfold macE; rw [if_pos (.inr c2)]
  have hd2 : decide (16 < m.gears) = true := decide_eq_true c2
  cases hr : m.ring <;> cases ht : (m.turn != 1)
  ·exact cm_b00 m ad cap w hR hI hr q hq n1 hd2 ht (hid hv)
  ·exact cm_b01 m ad cap w hR hI hr q hq n1 hd2 ht (hid hv)
  ·exact cm_b10 m ad cap w hR hI hr q hq n1 hd2 ht (hid hv)
  ·exact cm_b11 m ad cap w hR hI hr q hq n1 hd2 ht (hid hv)
 have n2 : decide (16 < m.gears) = false := decide_eq_false c2
 have r1 : 1 ≤ m.gears := by omega
 have r2 : m.gears ≤ 16 := by omega
 have hq2 : q = m.gears % 2 := by rw [← hq, Int.tmod_eq_emod_of_nonneg (by omega)]
 by_cases c3 : m.ring = true ∧ q = 1
 ·have hv : macE m = 17 := by unfold macE; rw [if_neg (by omega), if_pos ⟨c3.1, by rw [← hq2]; exact c3.2⟩]
  have hr := c3.1
  have hq1 : (q == 1) = true := by simpa using c3.2
  cases ht : (m.turn != 1)
  ·exact cm_c0 m ad cap w hR hI hr q hq r1 r2 n1 n2 hq1 ht (hid hv)
  ·exact cm_c1 m ad cap w hR hI hr q hq r1 r2 n1 n2 hq1 ht (hid hv)
 have m3 : ¬ (m.ring = true ∧ m.gears % 2 = 1) := fun h => c3 ⟨h.1, by rw [hq2]; exact h.2⟩
 have hqb : m.ring = true → (q == 1) = false := fun hr => by
  have : ¬ q = 1 := fun e => c3 ⟨hr, e⟩
  simpa using this
 by_cases c4 : m.turn ≠ 1 ∧ m.turn ≠ -1
 ·have hv : macE m = 3 := by unfold macE; rw [if_neg (by omega), if_neg m3, if_pos c4]
  have ht : (m.turn != 1) = true := by simpa using c4.1
  have htn : (m.turn != -1) = true := by simpa using c4.2
  cases hr : m.ring
  ·exact cm_d0 m ad cap w hR hI hr q hq r1 r2 n1 n2 ht htn (hid hv)
  ·exact cm_d1 m ad cap w hR hI hr q hq r1 r2 n1 n2 (hqb hr) ht htn (hid hv)
 have htn : (m.turn != 1) = true → (m.turn != -1) = false := fun h => by
  have t1 : m.turn ≠ 1 := by simpa using h
  have t2 : m.turn = -1 := by
   by_cases t2 : m.turn = -1
   ·exact t2
   ·exact absurd ⟨t1, t2⟩ c4
  simp [t2]
 by_cases c5 : m.gears < m.sw.length
 ·have hv : macE m = 5 := by unfold macE; rw [if_neg (by omega), if_neg m3, if_neg c4, if_pos c5]
  have hd5 : decide (m.gears < m.sw.length) = true := decide_eq_true c5
  cases hr : m.ring <;> cases ht : (m.turn != 1)
  ·exact cm_e00 m ad cap w hR hI hr q hq r1 r2 n1 n2 ht hd5 (hid hv)
  ·exact cm_e01 m ad cap w hR hI hr q hq r1 r2 n1 n2 ht (htn ht) hd5 (hid hv)
  ·exact cm_e10 m ad cap w hR hI hr q hq r1 r2 n1 n2 (hqb hr) ht hd5 (hid hv)
  ·exact cm_e11 m ad cap w hR hI hr q hq r1 r2 n1 n2 (hqb hr) ht (htn ht) hd5 (hid hv)
 have n5 : decide (m.gears < m.sw.length) = false := decide_eq_false c5
 have h5 : m.sw.length ≤ 16 := by omega
 have hv : macE m = swGo m none m.sw := by unfold macE; rw [if_neg (by omega), if_neg m3, if_neg c4, if_neg c5]
 cases hr : m.ring <;> cases ht : (m.turn != 1)
 ·exact cm_f00 m ad cap w hR hI hr q hq r1 r2 n1 n2 ht n5 h5 (hid hv)
 ·exact cm_f01 m ad cap w hR hI hr q hq r1 r2 n1 n2 ht (htn ht) n5 h5 (hid hv)
 ·exact cm_f10 m ad cap w hR hI hr q hq r1 r2 n1 n2 (hqb hr) ht n5 h5 (hid hv)
 ·exact cm_f11 m ad cap w hR hI hr q hq r1 r2 n1 n2 (hqb hr) ht (htn ht) n5 h5 (hid hv)
end Go.Proofs.YtngpopalpofhgaaGreatDoor

namespace Go.Proofs.YtngpopalpofhgaaGreatDoor
open Go.RowKit
set_option maxRecDepth 100000
/-- a meeting found by a run of 64 ticks (enough for every machine of at most 16 carriers' slots: allC_of checks it). -/
def meetC (m : MacV) (a b : Int) : Option (Nat × Int) := (meetF m a b 64 0 a b).getD none
def InS (m : MacV) (x : Int) : Prop := 0 ≤ x ∧ x < 4 * m.gears
def AllC (m : MacV) : Prop := ∀ a b, InS m a → InS m b → meetM m a b = meetC m a b
theorem allC_of {m : MacV} {n : Nat} (hn : 4 * m.gears = (n : Int)) (h : (List.range n).all (fun a => (List.range n).all fun b => (meetF m a b 64 0 a b).isSome) = true) : AllC m := by
 intro a b ⟨a0, a1⟩ ⟨b0, b1⟩
 have ha : ((a.toNat : Nat) : Int) = a := Int.toNat_of_nonneg a0
 have hb : ((b.toNat : Nat) : Int) = b := Int.toNat_of_nonneg b0
 have h1 := List.all_eq_true.1 h a.toNat (List.mem_range.2 (by omega))
 have h2 := List.all_eq_true.1 h1 b.toNat (List.mem_range.2 (by omega))
 rw [ha, hb] at h2
 cases hf : meetF m a b 64 0 a b with
 | none => rw [hf] at h2; cases h2
 | some r => rw [meetF_ok a0 a1 b0 b1 hf]; unfold meetC; rw [hf]; rfl
def firstC (m : MacV) (l : List Int) : Option (Nat × Int) := (pairsTo l l.length).foldl (fun b p => bestS b (meetC m p.1 p.2)) none
theorem foldl_same {α β : Type} {f g : β → α → β} : ∀ {l : List α} (_ : ∀ b, ∀ a ∈ l, f b a = g b a) (b : β), l.foldl f b = l.foldl g b
 | [], _, _ => rfl
 | a :: r, h, b => by
   rw [List.foldl_cons, List.foldl_cons, h b a (by simp)]
   exact foldl_same (fun b x hx => h b x (List.mem_cons_of_mem _ hx)) _
theorem firstC_ok {m : MacV} (hC : AllC m) {l : List Int} (hl : ∀ x ∈ l, InS m x) : firstM m l = firstC m l := by
 refine foldl_same (fun b p hp => ?_) none
 obtain ⟨i, j, hji, hi, rfl⟩ := (pairsTo_mem (l := l) (Nat.le_refl _)).1 hp
 have e : ∀ k, k < l.length → InS m (atD 0 l k) := fun k hk => hl _ (by simp [atD, hk])
 show bestS b (meetM m (atD 0 l i) (atD 0 l j)) = bestS b (meetC m (atD 0 l i) (atD 0 l j))
 rw [hC _ _ (e i hi) (e j (by omega))]
end Go.Proofs.YtngpopalpofhgaaGreatDoor

namespace Go.Proofs.YtngpopalpofhgaaGreatDoor
open Go.RowKit
set_option maxHeartbeats 8000000
set_option maxRecDepth 100000

theorem RetMac.none {W w' : World} {e : Int} {r : Ending} {S : SL W.heap.size W w' []} (h : r = .returned (.tuple #[.agg #[.bool false, .int .i64 0, .int .i64 0, .slice none 0 0], .int .i64 e])) : RetMac W noM e r w' :=
 ⟨.none, 0, h, (S.nilS (α := Int) (c := cInt) (sz := 1) (e := 3) cIntS)⟩

section
variable {ops : Array Oper} {rest : List Oper} {a : Act} {Q : Exit → Act → World → Prop} {w0 w : World} {L : List Pc} {B : Nat} {ty : TypeId} {p : String} {af : Array Edge}
end

end Go.Proofs.YtngpopalpofhgaaGreatDoor

namespace Go.Proofs.YtngpopalpofhgaaGreatDoor
open Go.RowKit
set_option maxHeartbeats 8000000
set_option maxRecDepth 100000
def oneM : MacV := ⟨false, 1, 1, []⟩
theorem one_all : AllC oneM := allC_of (n := 4) rfl (by decide)
theorem one_in {l : List Int} (h : (l.all fun x => decide (0 ≤ x ∧ x < 4)) = true) : ∀ x ∈ l, InS oneM x := fun x hx => by
 have := List.all_eq_true.1 h x hx
 simp only [decide_eq_true_eq] at this
 exact ⟨this.1, by have : (4 : Int) * oneM.gears = 4 := rfl
                   omega⟩
theorem one_first {l : List Int} (h : (l.all fun x => decide (0 ≤ x ∧ x < 4)) = true) : firstM oneM l = firstC oneM l := firstC_ok one_all (one_in h)
theorem ov_wrdE : wrdE oneM [0, 2] 4 = 0 := by unfold wrdE weaveE meetsM; rw [one_first rfl]; rfl
theorem ov_wrd : wrdL oneM [0, 2] 4 = [-1, -1] := by first | rfl | decide | kernel_rfl
theorem one_ck : ChkM oneM none 0 := fun w h => CheckMachine_any oneM none 0 w h (by show InI (1 : Int); unfold InI; omega)
theorem one_word (w : World) (al : Option Addr) (hL : Ints w al 2 [0, 2]) : Calls Tryz.prog 43 #[mV oneM none 0, .slice al 2 2, .int .i64 4] w fun r w' => ∃ v, r = .returned (.tuple #[v, .int .i64 0]) ∧ OwnI w.heap.size w' v [-1, -1] ∧ Below w.heap.size w w' := by
 have h := mWord_any oneM none 0 al 2 [0, 2] 4 w (ints_nil _) hL (CheckLoad_any oneM none 0 al 2 [0, 2] one_ck)
 rw [ov_wrdE, if_pos rfl, ov_wrd] at h
 exact h
end Go.Proofs.YtngpopalpofhgaaGreatDoor

namespace Go.Proofs.YtngpopalpofhgaaGreatDoor
open Go.RowKit
set_option maxRecDepth 100000
deriving instance DecidableEq for PassV
def pO : ByteArray := ⟨#[111]⟩
def awP : List PassV := [⟨1, 2, pO⟩, ⟨3, 2, pO⟩]
theorem aw9 : wordErr 3 awP = 0 := by decide +kernel
theorem aw9b : wordL 3 awP = [1, -2] := by decide +kernel
/-- a slice and the error 0 came back. -/
def RetOk {α : Type} (c : α → Value) (sz : Nat) (W : World) (L : List α) (n : Nat) (r : Ending) (w' : World) : Prop :=
 ∃ a cap, r = .returned (.tuple #[.slice a n cap, .int .i64 0]) ∧ Reps c sz w' a cap L ∧ Below W.heap.size W w'
theorem RetOk.ofLE {W w' : World} {L L' : List Int} {e : Int} {r : Ending} (n : Nat) (h : RetLE W L e r w') (e1 : L = L') (e2 : e = 0) (e3 : L'.length = n) : RetOk cInt 1 W L' n r w' := by
 subst e1 e2 e3
 obtain ⟨a, cap, h1, h2, _, h4⟩ := h
 exact ⟨a, cap, h1, h2, h4⟩
theorem awWord (a : Option Addr) (cap : Nat) (w : World) (h : PassesR w a cap awP) : Calls Tryz.prog 12 #[.int .i64 3, .slice a 2 cap] w fun r w' => RetOk cInt 1 w [1, -2] 2 r w' :=
 (Word_any 3 a cap awP w h (by decide) (by decide)).mono fun _ _ h => .ofLE _ h aw9b aw9 rfl
theorem awSame (a a2 : Option Addr) (cap cap2 n : Nat) (l : List Int) (w : World) (h : Ints w a cap l) (h2 : Ints w a2 cap2 l) (hn : l.length = n) (hs : n ≤ 100) : Calls Tryz.prog 15 #[.slice a n cap, .slice a2 n cap2] w fun r w' => r = .returned (.bool true) ∧ Below w.heap.size w w' := by
 subst hn
 have := SameInts_any a a2 cap cap2 l l w h h2 (by omega)
 rw [decide_eq_true rfl] at this
 exact this
end Go.Proofs.YtngpopalpofhgaaGreatDoor

namespace Go.Proofs.YtngpopalpofhgaaGreatDoor
open Go.RowKit
set_option maxHeartbeats 2000000
set_option maxRecDepth 100000

end Go.Proofs.YtngpopalpofhgaaGreatDoor

namespace Go.Proofs.YtngpopalpofhgaaGreatDoor
open Go.RowKit
set_option maxHeartbeats 8000000
set_option maxRecDepth 100000
def threeW : List Int := [1, -2, 1, -2, 1, -2]
theorem gp1 : senE 3 2 = 0 := by decide +kernel
theorem gp1b : senL 3 2 = awP := by decide +kernel
theorem gp2 : wordE ((3 : Nat) : Int) [1, -2] = 0 := by decide +kernel
theorem gp2b : cyc [1, -2] ([1, -2].length * 3) = threeW := by decide +kernel
theorem gp3 : wordE ((3 : Nat) : Int) threeW = 0 := by decide +kernel
theorem gp3b : permB 3 threeW = [0, 1, 2] := by decide +kernel
theorem gp3c : (cycK (permB 3 threeW) 3).length = 3 := by decide +kernel
theorem gp4 : headE 3 3 = 0 := by decide +kernel
theorem gp4b : headL 3 3 = threeW := by decide +kernel
theorem gp5 : matE 3 3 = 0 := by decide +kernel
theorem gp5b : (Int.gcd 3 3 : Int) = 3 := by decide +kernel
theorem gpSennit (w : World) : Calls Tryz.prog 39 #[.int .i64 3, .int .i64 2] w fun r w' => RetOk cPass 3 w awP 2 r w' := by
 refine (Sennit_any 3 2 w).mono ?_
 rintro e w' ⟨a, cap, rfl, hr, _, hb⟩
 rw [gp1b] at hr ⊢
 rw [gp1]
 exact ⟨a, cap, rfl, hr, hb⟩
theorem gpPower (a : Option Addr) (c : Nat) (w : World) (h : Ints w a c [1, -2]) : Calls Tryz.prog 40 #[.int .i64 3, .slice a 2 c, .int .i64 3] w fun r w' => ∃ v, r = .returned (.tuple #[v, .int .i64 0]) ∧ OwnI w.heap.size w' v threeW ∧ Below w.heap.size w w' := by
 have h3 := bPower_any 3 a c 3 [1, -2] w h gp2 (by decide) (by decide) (by decide) (by decide)
 rw [gp2b] at h3
 exact h3
theorem gpPerm (a : Option Addr) (c : Nat) (w : World) (h : Ints w a c threeW) : Calls Tryz.prog 24 #[.int .i64 3, .slice a 6 c] w fun r w' => ∃ v, r = .returned (.tuple #[v, .int .i64 0]) ∧ OwnI w.heap.size w' v [0, 1, 2] ∧ Below w.heap.size w w' := by
 have h3 := bPerm_any 3 a c threeW w h gp3
 rw [gp3b] at h3
 exact h3
theorem gpHead (w : World) : Calls Tryz.prog 36 #[.int .i64 3, .int .i64 3] w fun r w' => RetOk cInt 1 w threeW 6 r w' :=
 (Head_any 3 3 w).mono fun e w' h => RetOk.ofLE 6 h gp4b gp4 rfl
theorem gpComp (a : Option Addr) (c : Nat) (w : World) (h : Ints w a c threeW) : Calls Tryz.prog 37 #[.int .i64 3, .slice a 6 c] w fun r w' => ∃ (v : Option Addr × Nat), r = .returned (.tuple #[.slice v.1 3 v.2, .int .i64 0]) ∧ Below w.heap.size w w' := by
 have h3 := bComponents_any 3 a c threeW w h gp3
 rw [gp3c] at h3
 exact h3
theorem gpStrands (w : World) : Calls Tryz.prog 38 #[.int .i64 3, .int .i64 3] w fun r w' => r = .returned (.tuple #[.int .i64 3, .int .i64 0]) ∧ Below w.heap.size w w' := by
 have h3 := Strands_any 3 3 w
 rw [gp5, if_pos rfl, gp5b] at h3
 exact h3
theorem grommetPlaits_any (w : World) : Calls Tryz.prog 8 #[] w fun r w' => r = .returned (.bool true) ∧ Below w.heap.size w w' := by
 go_enter Tryz.func8, Tryz.ntmps8
 go_wp2_with fail
 refine (gpSennit _).mono ?_
 rintro e w1 ⟨aS, cS, rfl, hS, b1⟩
 have t1 := b1
 clear b1
 go_wp2_with fail
 refine (awWord aS cS _ hS).mono ?_
 rintro e w2 ⟨aW, cW, rfl, hW, b2⟩
 replace hS := hS.below b2
 have t2 := bnext t1 b2
 clear t1 b2
 clear hS
 go_wp2_with fail
 refine (gpPower aW cW _ hW).mono ?_
 rintro e w3 ⟨v3, rfl, ho3, b3⟩
 obtain ⟨aP, cP, rfl, hP, _, _⟩ := ho3.reps
 clear ho3
 replace hW := hW.below b3
 have t3 := bnext t2 b3
 clear t2 b3
 go_wp2_with fail
 refine (gpPerm aP cP _ hP).mono ?_
 rintro e w4 ⟨v4, rfl, ho4, b4⟩
 obtain ⟨aQ, cQ, rfl, hQ, _, _⟩ := ho4.reps
 clear ho4
 replace hW := hW.below b4
 replace hP := hP.below b4
 have t4 := bnext t3 b4
 clear t3 b4
 go_wp2_with fail
 refine (gpHead _).mono ?_
 rintro e w5 ⟨aH, cH, rfl, hH, b5⟩
 replace hW := hW.below b5
 replace hP := hP.below b5
 replace hQ := hQ.below b5
 have t5 := bnext t4 b5
 clear t4 b5
 go_wp2_with fail
 refine (gpComp aH cH _ hH).mono ?_
 rintro e w6 ⟨⟨aC, cC⟩, rfl, b6⟩
 replace hW := hW.below b6
 replace hP := hP.below b6
 replace hQ := hQ.below b6
 replace hH := hH.below b6
 have t6 := bnext t5 b6
 clear t5 b6
 go_wp2_with fail
 refine (gpStrands _).mono ?_
 rintro e w7 ⟨rfl, b7⟩
 replace hW := hW.below b7
 replace hP := hP.below b7
 replace hQ := hQ.below b7
 replace hH := hH.below b7
 have t7 := bnext t6 b7
 clear t6 b7
 have hw0 := t7
 go_wp2_with fail
 refine (one_word _ _ (reps_of_own (own_newN cIntS [0, 2] 2 rfl (by decide) _ rfl (Nat.le_refl _) rfl) rfl)).mono ?_
 rintro e w8 ⟨v8, rfl, ho8, b8⟩
 obtain ⟨aM, cM, rfl, hM, _, _⟩ := ho8.reps
 clear ho8
 replace b8 := bnext (bal (Below.refl _ _) _) b8
 replace hW := hW.below b8
 replace hP := hP.below b8
 replace hQ := hQ.below b8
 replace hH := hH.below b8
 have t8 := bnext t7 b8
 clear t7 b8
 clear hw0
 go_wp2_with fail
 refine (awSame aW _ cW 2 2 [1, -2] _ (hW.below (bal (Below.refl _ _) _)) (reps_of_own (own_newN cIntS [1, -2] 2 rfl (by decide) _ rfl (Nat.le_refl _) rfl) rfl) rfl (by decide)).mono ?_
 rintro e w9 ⟨rfl, b9⟩
 replace b9 := bnext (bal (Below.refl _ _) _) b9
 replace hW := hW.below b9
 replace hP := hP.below b9
 replace hQ := hQ.below b9
 replace hH := hH.below b9
 replace hM := hM.below b9
 have t9 := bnext t8 b9
 clear t8 b9
 clear hW
 go_wp2_with fail
 refine (awSame aQ _ cQ 3 3 [0, 1, 2] _ (hQ.below (bal (Below.refl _ _) _)) (reps_of_own (own_newN cIntS [0, 1, 2] 3 rfl (by decide) _ rfl (Nat.le_refl _) rfl) rfl) rfl (by decide)).mono ?_
 rintro e w10 ⟨rfl, b10⟩
 replace b10 := bnext (bal (Below.refl _ _) _) b10
 replace hP := hP.below b10
 replace hQ := hQ.below b10
 replace hH := hH.below b10
 replace hM := hM.below b10
 have t10 := bnext t9 b10
 clear t9 b10
 clear hQ
 go_wp2_with fail
 refine (awSame aH aP cH cP 6 threeW _ hH hP rfl (by decide)).mono ?_
 rintro e w11 ⟨rfl, b11⟩
 replace hP := hP.below b11
 replace hH := hH.below b11
 replace hM := hM.below b11
 have t11 := bnext t10 b11
 clear t10 b11
 clear hH hP
 go_wp2_with fail
 refine (awSame aM _ cM 2 2 [-1, -1] _ (hM.below (bal (Below.refl _ _) _)) (reps_of_own (own_newN cIntS [-1, -1] 2 rfl (by decide) _ rfl (Nat.le_refl _) rfl) rfl) rfl (by decide)).mono ?_
 rintro e w12 ⟨rfl, b12⟩
 replace b12 := bnext (bal (Below.refl _ _) _) b12
 replace hM := hM.below b12
 have t12 := bnext t11 b12
 clear t11 b12
 go_wp2_with fail
 go_ret
 exact ⟨rfl, t12⟩
end Go.Proofs.YtngpopalpofhgaaGreatDoor
