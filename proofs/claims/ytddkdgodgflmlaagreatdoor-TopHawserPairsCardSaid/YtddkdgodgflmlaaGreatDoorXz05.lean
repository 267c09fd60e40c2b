/- Contracts and plain facts that the claim uses (MaU MaW MaX AwV MbK AwM SpB AwN QrF NuB HtB). Conditions: as each one states. -/
import Derived.RangeFuncNested
import Derived.RangeFuncBound
import Derived.RangeFuncCalls
import Derived.RangeFuncLeaves
import Derived.RangeFuncFrom
import Derived.Shelf.Abstract
import Derived.Shelf.RegionOpen
import Derived.WalkKit
import Derived.OwnWalkIn
import Derived.TacticsInMore
import Derived.LoopNIn
import Derived.LoopIn
import Derived.Test.YtddkdgodgflmlaaGreatDoorProg
import Derived.WalkSpells
import Derived.Maps.AppendAt
import Derived.Deep.Quiet
import Derived.Maps.Own
import Derived.Maps.OwnSet
import Derived.Maps.Views
import Derived.WalkLawsBesides
import Derived.Laws.EntriesVeiled
import Derived.Deep.QuietTactic
import Derived.BigQuiet
import Derived.Shelf.Strings.Trim
import Derived.Shelf.Strings.SlTrimAscii
import Derived.Shelf.Strings.Repeat
import Derived.Shelf.Strings.OnBuilder
import Derived.Shelf.Strconv.Itoa1
import Derived.Shelf.Strconv.Itoa3
import Derived.Shelf.LaysM
import Derived.Ground.Names2Prog
import Derived.Lib.OthersKept
import Derived.Deep.RegionHeld3
import Derived.Deep.AppendLies
import Derived.Deep.RegionHeldLaw
import Derived.Deep.RegionLaw
import Derived.StillTail
import Derived.Laws.Tables
import Derived.IntWalk
import Derived.Laws.CopyOwn
import Derived.BigRegion
import Derived.ChangeAlike
import Derived.Shelf.Bits.Mul64
import Derived.Lib.ItoaLen
import Derived.Lib.ItoaMem
import Derived.Sort.LoopGhostIn
import Derived.Maps.RangeWalk
import Derived.Sort.QuietThIn
import Derived.Maps.Ext
import Derived.Deep.LoopGhost
import Derived.Lib.Split
import Derived.Lib.AtoiAll
import Derived.Lib.AppendIntMem
import Derived.Lib.SmallJoins
import Derived.LaidSub
import Derived.Lib.LaidTab
import Derived.Lib.AtoiErrMem
import Derived.Stop.LaidErr
import Derived.ReadAgain
import Derived.ChangeSlices
import Derived.OpenShut
import Derived.ProofKit
import Derived.Deep.DeepHandedRow
import Derived.Deep.SlicePairs
import Derived.Test.YtddkdgodgflmlaaGreatDoorXz01
import Derived.Test.YtddkdgodgflmlaaGreatDoorXz02
import Derived.Test.YtddkdgodgflmlaaGreatDoorXz03
import Derived.Test.YtddkdgodgflmlaaGreatDoorXz04
set_option linter.all false

namespace Go.Proofs.YtddkdgodgflmlaaGreatDoor
open Go.RowKit
set_option maxHeartbeats 8000000
set_option maxRecDepth 100000

theorem cm_f00 (m : MacV) (ad : Option Addr) (cap : Nat) (w : World) (hR : Ints w ad cap m.sw) (hI : -9223372036854775808 ≤ m.gears ∧ m.gears ≤ 9223372036854775807) (hr : m.ring = false) (q : Int) (hq : m.gears.tmod 2 = q) (r1 : 1 ≤ m.gears) (r2 : m.gears ≤ 16) (n1 : decide (m.gears < 1) = false) (n2 : decide (16 < m.gears) = false)  (ht : (m.turn != 1) = false)  (n5 : decide (m.gears < m.sw.length) = false) (h5 : m.sw.length ≤ 16) (HV : Hid (macE m = swGo m none m.sw)) :
  Calls Tryz.prog 55 #[mV m ad cap] w fun r w' => r = .returned (.int .i64 (macE m)) ∧ Below w.heap.size w w' := by
 have hcap := hR.le
 have hmx := hR.max
 have HSh := hid (fun p w => shared_any m ad cap p w)
 unfold mV at HSh
 rw [hr] at HSh
 unfold mV
 rw [hr]
 clear hr
 go_enter Tryz.func55, Tryz.ntmps55
 go_wp2_with fail
 have hS := (SL.nil w).box (.cells #[.bool false, .int .i64 m.gears, .int .i64 m.turn, .slice ad m.sw.length cap] 45)
 have q1 := (hS.blk 0 rfl).1
 refine wp_region_qt 34 kR kR ?_
 simp only [List.take_succ_cons, List.take_zero, List.drop_succ_cons, List.drop_zero]
 repeat (first | ((with_reducible refine wpB_load F_boolM wU wU q1 wU ?_); (try simp only [Act.put, pA, pB, pC])) | ((with_reducible refine wpB_load F_sliceM wU wU q1 wU ?_); (try simp only [Act.put, pA, pB, pC])) | ((with_reducible refine wpB_when wU wU wU ?_); (try simp only [Act.put, pA, pB, pC])) | ((with_reducible refine wpQ_skip wU ?_); (try simp only [Act.put, pA, pB, pC])) |  ((with_reducible refine wpB_load (by first | exact F_int | exact F_u64s) wU wU (by assumption) wU ?_); (try simp only [Act.put, pA, pB, pC])) | ((refine wpQ_oneG ?_ wU (fun w' => ?_) ?_); rotate_left; (go_simp; rfl); (try simp only [Act.put, pA, pB, pC])))
 refine wpQuiet_nil ?_
 intro w1 hb1
 have hS1 := hS.mono hb1
 have hS2 := hS1.al (.cells #[.int .i64 0, .int .i64 0, .int .i64 0, .int .i64 0] 26)
 have q3 := (hS2.blk 0 rfl).1
 go_wp2_with (first | (go_at_call 66; refine (mfirst_any _ _ [_, _, _, _] _ (reps_newN cIntS [_, _, _, _] 4 rfl (by decide) _ _ (by simp) rfl)).mono ?_; rw [firstE_z, firstE_z, firstE_z, firstE_z, firstE_nil]; rintro e w' ⟨rfl, rfl⟩) | (with_reducible refine wpList_ldB F_sliceM wU wU q3 wU ?_))
 clear q1 q3 hS hS1
 go_loopw [49, 4, 5, 6] (fun i _ _ _ wr => ∃ (k : Nat) (o : Option Int), k ≤ m.sw.length ∧ i = .int .i64 k ∧ (o = if k = 0 then none else some (atD 0 m.sw ((k : Int) - 1))) ∧ swGo m o (m.sw.drop k) = swGo m none m.sw ∧ SL w.heap.size w wr [pBlk w.heap.size (.cells #[.bool false, .int .i64 m.gears, .int .i64 m.turn, .slice ad m.sw.length cap] 45)]) (fun i _ _ _ _ => m.sw.length - (intOf i).toNat)
 case atStart => exact ⟨0, none, by omega, rfl, rfl, rfl, hS2⟩
 case round =>
  clear hS2
  obtain ⟨k, o, hk, rfl, ho, hgo, hSr⟩ := hrel
  have q3 := (hSr.blk 0 rfl).1
  have hRr := hR.below hSr.b
  by_cases hlt : k < m.sw.length
  ·have hst := swGo_step m k hlt o
   rw [hgo] at hst
   obtain ⟨x, hxx⟩ : ∃ x, x = atD 0 m.sw k := ⟨_, rfl⟩
   rw [← hxx] at hst
   have HXX := hid hxx
   have CS := fun w => HSh.out x w
   clear hxx hgo
   cases hsh : sharedM m x
   ·rw [hsh] at CS hst
    rw [if_pos rfl] at hst
    have HC := hid CS; have HST := hid hst
    clear CS hst ho hsh
    by_cases hk0 : k = 0
    ·have hk1 : decide (0 < (k : Int)) = false := by simp [hk0]
     have hk2 : ¬ 0 < (k : Int) := by omega
     clear hk0
     go_wp2_with (first | ((with_reducible refine wpList_idx _ 0 E_ints F_int cInt1 wU wU (hRr) oD oD (fun _ => wU) (fun _ => ?_)); rw [← HXX.out]) | (with_reducible refine wpList_ldS (n := 4) (us := #[.bool false, .int .i64 m.gears, .int .i64 m.turn, .slice ad m.sw.length cap]) A_mach kR wU wU (by assumption) wU wU ?_))
     refine (HC.out _).mono ?_
     rintro e w4 ⟨rfl, b4⟩
     have hS4 := hSr.mono b4
     have q4 := (hS4.blk 0 rfl).1
     go_wp2_with (first | (go_at_call 68; refine (mwhen_any _ _ _).mono ?_; rintro e w' ⟨rfl, rfl⟩) | (go_at_call 66; refine (mfirst_any _ _ [_, _] _ (reps_newN cIntS [_, _] 2 rfl (by decide) _ _ (by simp) rfl)).mono ?_; (first | rw [firstE_head (by decide)] | rw [firstE_z, firstE_head (by decide)] | rw [firstE_z, firstE_z, firstE_nil]); rintro e w' ⟨rfl, rfl⟩))
     go_ret
     exact ⟨by rw [HV.out, HST.out]; rfl, bal hS4.b _⟩
    ·have hk1 : decide (0 < (k : Int)) = true := by simp; omega
     have hk2 : 0 < (k : Int) := by omega
     have hkm : max 0 ((k : Int) - 1) = (k : Int) - 1 := by omega
     have hkl : (k : Int) - 1 < m.sw.length := by omega
     go_wp2_with (first | ((with_reducible refine wpList_idx _ 0 E_ints F_int cInt1 wU wU (hRr) oD oD (fun _ => wU) (fun _ => ?_)); rw [← HXX.out]) | (with_reducible refine wpList_ldS (n := 4) (us := #[.bool false, .int .i64 m.gears, .int .i64 m.turn, .slice ad m.sw.length cap]) A_mach kR wU wU (by assumption) wU wU ?_))
     refine (HC.out _).mono ?_
     rintro e w4 ⟨rfl, b4⟩
     have hS4 := hSr.mono b4
     have q3 := (hS4.blk 0 rfl).1
     have hR4 := hR.below hS4.b
     go_wp2_with (first | (go_at_call 68; refine (mwhen_any _ _ _).mono ?_; rintro e w' ⟨rfl, rfl⟩) | (with_reducible refine wpList_ldB F_sliceM wU wU q3 wU ?_) | (with_reducible refine wpList_idxG 0 E_ints F_int cInt1 wU wU (hR4) (rfl) oD oD (fun _ => wU) wU (fun _ => wU) (fun _ => ?_)) | (go_at_call 66; refine (mfirst_any _ _ [_, _] _ (reps_newN cIntS [_, _] 2 rfl (by decide) _ _ (by simp) rfl)).mono ?_; (first | rw [firstE_head (by decide)] | rw [firstE_z, firstE_head (by decide)] | rw [firstE_z, firstE_z, firstE_nil]); rintro e w' ⟨rfl, rfl⟩))
     all_goals go_ret
     all_goals exact ⟨by rw [HV.out, HST.out]; rfl, bal hS4.b _⟩
   ·rw [hsh] at CS hst
    rw [if_neg (by decide)] at hst
    have HC := hid CS
    clear CS hsh
    by_cases hk0 : k = 0
    ·have hk1 : decide (0 < (k : Int)) = false := by simp [hk0]
     have hk2 : ¬ 0 < (k : Int) := by omega
     rw [ho, if_pos hk0] at hst
     have HST := hid hst; have HK0 := hid hk0
     clear hk0 hst ho
     go_wp2_with (first | ((with_reducible refine wpList_idx _ 0 E_ints F_int cInt1 wU wU (hRr) oD oD (fun _ => wU) (fun _ => ?_)); rw [← HXX.out]) | (with_reducible refine wpList_ldS (n := 4) (us := #[.bool false, .int .i64 m.gears, .int .i64 m.turn, .slice ad m.sw.length cap]) A_mach kR wU wU (by assumption) wU wU ?_))
     refine (HC.out _).mono ?_
     rintro e w4 ⟨rfl, b4⟩
     have hS4 := hSr.mono b4
     go_wp2_with (first | (go_at_call 68; refine (mwhen_any _ _ _).mono ?_; rintro e w' ⟨rfl, rfl⟩) | (go_at_call 66; refine (mfirst_any _ _ [_, _] _ (reps_newN cIntS [_, _] 2 rfl (by decide) _ _ (by simp) rfl)).mono ?_; (first | rw [firstE_head (by decide)] | rw [firstE_z, firstE_head (by decide)] | rw [firstE_z, firstE_z, firstE_nil]); rintro e w' ⟨rfl, rfl⟩))
     exact ⟨⟨k + 1, some x, by omega, by go_num, by rw [if_neg (by omega), HXX.out]; simp, HST.out.symm, hS4.al _⟩, by simp [intOf]; omega⟩
    ·have hk1 : decide (0 < (k : Int)) = true := by simp; omega
     have hk2 : 0 < (k : Int) := by omega
     have hkm : max 0 ((k : Int) - 1) = (k : Int) - 1 := by omega
     have hkl : (k : Int) - 1 < m.sw.length := by omega
     rw [ho, if_neg hk0] at hst
     simp only at hst
     obtain ⟨y, hyy⟩ : ∃ y, y = atD 0 m.sw ((k : Int) - 1) := ⟨_, rfl⟩
     rw [← hyy] at hst
     have HYY := hid hyy
     clear hyy ho
     by_cases hxy : x ≤ y
     ·rw [if_pos hxy] at hst
      have HST := hid hst
      clear hst
      go_wp2_with (first | ((with_reducible refine wpList_idx _ 0 E_ints F_int cInt1 wU wU (hRr) oD oD (fun _ => wU) (fun _ => ?_)); rw [← HXX.out]) | (with_reducible refine wpList_ldS (n := 4) (us := #[.bool false, .int .i64 m.gears, .int .i64 m.turn, .slice ad m.sw.length cap]) A_mach kR wU wU (by assumption) wU wU ?_))
      refine (HC.out _).mono ?_
      rintro e w4 ⟨rfl, b4⟩
      have hS4 := hSr.mono b4
      have q3 := (hS4.blk 0 rfl).1
      have hR4 := hR.below hS4.b
      go_wp2_with (first | (go_at_call 68; refine (mwhen_any _ _ _).mono ?_; rintro e w' ⟨rfl, rfl⟩) | (with_reducible refine wpList_ldB F_sliceM wU wU q3 wU ?_) | ((with_reducible refine wpList_idxG 0 E_ints F_int cInt1 wU wU (hR4) (rfl) oD oD (fun _ => wU) wU (fun _ => wU) (fun _ => ?_)); rw [← HYY.out]) | (go_at_call 66; refine (mfirst_any _ _ [_, _] _ (reps_newN cIntS [_, _] 2 rfl (by decide) _ _ (by simp) rfl)).mono ?_; (first | rw [firstE_head (by decide)] | rw [firstE_z, firstE_head (by decide)] | rw [firstE_z, firstE_z, firstE_nil]); rintro e w' ⟨rfl, rfl⟩))
      go_ret
      exact ⟨by rw [HV.out, HST.out]; rfl, bal hS4.b _⟩
     ·rw [if_neg hxy] at hst
      have HST := hid hst
      clear hst
      go_wp2_with (first | ((with_reducible refine wpList_idx _ 0 E_ints F_int cInt1 wU wU (hRr) oD oD (fun _ => wU) (fun _ => ?_)); rw [← HXX.out]) | (with_reducible refine wpList_ldS (n := 4) (us := #[.bool false, .int .i64 m.gears, .int .i64 m.turn, .slice ad m.sw.length cap]) A_mach kR wU wU (by assumption) wU wU ?_))
      refine (HC.out _).mono ?_
      rintro e w4 ⟨rfl, b4⟩
      have hS4 := hSr.mono b4
      have q3 := (hS4.blk 0 rfl).1
      have hR4 := hR.below hS4.b
      go_wp2_with (first | (go_at_call 68; refine (mwhen_any _ _ _).mono ?_; rintro e w' ⟨rfl, rfl⟩) | (with_reducible refine wpList_ldB F_sliceM wU wU q3 wU ?_) | ((with_reducible refine wpList_idxG 0 E_ints F_int cInt1 wU wU (hR4) (rfl) oD oD (fun _ => wU) wU (fun _ => wU) (fun _ => ?_)); rw [← HYY.out]) | (go_at_call 66; refine (mfirst_any _ _ [_, _] _ (reps_newN cIntS [_, _] 2 rfl (by decide) _ _ (by simp) rfl)).mono ?_; (first | rw [firstE_head (by decide)] | rw [firstE_z, firstE_head (by decide)] | rw [firstE_z, firstE_z, firstE_nil]); rintro e w' ⟨rfl, rfl⟩))
      exact ⟨⟨k + 1, some x, by omega, by go_num, by rw [if_neg (by omega), HXX.out]; simp, HST.out.symm, hS4.al _⟩, by simp [intOf]; omega⟩
  ·have hkl : k = m.sw.length := by omega
   subst hkl
   rw [List.drop_length] at hgo
   have hsw : swGo m none m.sw = 0 := by rw [← hgo]; cases o <;> rfl
   have HSW := hid hsw
   clear hsw hgo ho
   go_wp2_with fail
   go_ret
   exact ⟨by rw [HV.out, HSW.out]; rfl, hSr.b⟩
theorem cm_f01 (m : MacV) (ad : Option Addr) (cap : Nat) (w : World) (hR : Ints w ad cap m.sw) (hI : -9223372036854775808 ≤ m.gears ∧ m.gears ≤ 9223372036854775807) (hr : m.ring = false) (q : Int) (hq : m.gears.tmod 2 = q) (r1 : 1 ≤ m.gears) (r2 : m.gears ≤ 16) (n1 : decide (m.gears < 1) = false) (n2 : decide (16 < m.gears) = false)  (ht : (m.turn != 1) = true) (htn : (m.turn != -1) = false) (n5 : decide (m.gears < m.sw.length) = false) (h5 : m.sw.length ≤ 16) (HV : Hid (macE m = swGo m none m.sw)) :
  Calls Tryz.prog 55 #[mV m ad cap] w fun r w' => r = .returned (.int .i64 (macE m)) ∧ Below w.heap.size w w' := by
 have hcap := hR.le
 have hmx := hR.max
 have HSh := hid (fun p w => shared_any m ad cap p w)
 unfold mV at HSh
 rw [hr] at HSh
 unfold mV
 rw [hr]
 clear hr
 go_enter Tryz.func55, Tryz.ntmps55
 go_wp2_with fail
 have hS := (SL.nil w).box (.cells #[.bool false, .int .i64 m.gears, .int .i64 m.turn, .slice ad m.sw.length cap] 45)
 have q1 := (hS.blk 0 rfl).1
 refine wp_region_qt 34 kR kR ?_
 simp only [List.take_succ_cons, List.take_zero, List.drop_succ_cons, List.drop_zero]
 repeat (first | ((with_reducible refine wpB_load F_boolM wU wU q1 wU ?_); (try simp only [Act.put, pA, pB, pC])) | ((with_reducible refine wpB_load F_sliceM wU wU q1 wU ?_); (try simp only [Act.put, pA, pB, pC])) | ((with_reducible refine wpB_when wU wU wU ?_); (try simp only [Act.put, pA, pB, pC])) | ((with_reducible refine wpQ_skip wU ?_); (try simp only [Act.put, pA, pB, pC])) |  ((with_reducible refine wpB_load (by first | exact F_int | exact F_u64s) wU wU (by assumption) wU ?_); (try simp only [Act.put, pA, pB, pC])) | ((refine wpQ_oneG ?_ wU (fun w' => ?_) ?_); rotate_left; (go_simp; rfl); (try simp only [Act.put, pA, pB, pC])))
 refine wpQuiet_nil ?_
 intro w1 hb1
 have hS1 := hS.mono hb1
 have hS2 := hS1.al (.cells #[.int .i64 0, .int .i64 0, .int .i64 0, .int .i64 0] 26)
 have q3 := (hS2.blk 0 rfl).1
 go_wp2_with (first | (go_at_call 66; refine (mfirst_any _ _ [_, _, _, _] _ (reps_newN cIntS [_, _, _, _] 4 rfl (by decide) _ _ (by simp) rfl)).mono ?_; rw [firstE_z, firstE_z, firstE_z, firstE_z, firstE_nil]; rintro e w' ⟨rfl, rfl⟩) | (with_reducible refine wpList_ldB F_sliceM wU wU q3 wU ?_))
 clear q1 q3 hS hS1
 go_loopw [49, 4, 5, 6] (fun i _ _ _ wr => ∃ (k : Nat) (o : Option Int), k ≤ m.sw.length ∧ i = .int .i64 k ∧ (o = if k = 0 then none else some (atD 0 m.sw ((k : Int) - 1))) ∧ swGo m o (m.sw.drop k) = swGo m none m.sw ∧ SL w.heap.size w wr [pBlk w.heap.size (.cells #[.bool false, .int .i64 m.gears, .int .i64 m.turn, .slice ad m.sw.length cap] 45)]) (fun i _ _ _ _ => m.sw.length - (intOf i).toNat)
 case atStart => exact ⟨0, none, by omega, rfl, rfl, rfl, hS2⟩
 case round =>
  clear hS2
  obtain ⟨k, o, hk, rfl, ho, hgo, hSr⟩ := hrel
  have q3 := (hSr.blk 0 rfl).1
  have hRr := hR.below hSr.b
  by_cases hlt : k < m.sw.length
  ·have hst := swGo_step m k hlt o
   rw [hgo] at hst
   obtain ⟨x, hxx⟩ : ∃ x, x = atD 0 m.sw k := ⟨_, rfl⟩
   rw [← hxx] at hst
   have HXX := hid hxx
   have CS := fun w => HSh.out x w
   clear hxx hgo
   cases hsh : sharedM m x
   ·rw [hsh] at CS hst
    rw [if_pos rfl] at hst
    have HC := hid CS; have HST := hid hst
    clear CS hst ho hsh
    by_cases hk0 : k = 0
    ·have hk1 : decide (0 < (k : Int)) = false := by simp [hk0]
     have hk2 : ¬ 0 < (k : Int) := by omega
     clear hk0
     go_wp2_with (first | ((with_reducible refine wpList_idx _ 0 E_ints F_int cInt1 wU wU (hRr) oD oD (fun _ => wU) (fun _ => ?_)); rw [← HXX.out]) | (with_reducible refine wpList_ldS (n := 4) (us := #[.bool false, .int .i64 m.gears, .int .i64 m.turn, .slice ad m.sw.length cap]) A_mach kR wU wU (by assumption) wU wU ?_))
     refine (HC.out _).mono ?_
     rintro e w4 ⟨rfl, b4⟩
     have hS4 := hSr.mono b4
     have q4 := (hS4.blk 0 rfl).1
     go_wp2_with (first | (go_at_call 68; refine (mwhen_any _ _ _).mono ?_; rintro e w' ⟨rfl, rfl⟩) | (go_at_call 66; refine (mfirst_any _ _ [_, _] _ (reps_newN cIntS [_, _] 2 rfl (by decide) _ _ (by simp) rfl)).mono ?_; (first | rw [firstE_head (by decide)] | rw [firstE_z, firstE_head (by decide)] | rw [firstE_z, firstE_z, firstE_nil]); rintro e w' ⟨rfl, rfl⟩))
     go_ret
     exact ⟨by rw [HV.out, HST.out]; rfl, bal hS4.b _⟩
    ·have hk1 : decide (0 < (k : Int)) = true := by simp; omega
     have hk2 : 0 < (k : Int) := by omega
     have hkm : max 0 ((k : Int) - 1) = (k : Int) - 1 := by omega
     have hkl : (k : Int) - 1 < m.sw.length := by omega
     go_wp2_with (first | ((with_reducible refine wpList_idx _ 0 E_ints F_int cInt1 wU wU (hRr) oD oD (fun _ => wU) (fun _ => ?_)); rw [← HXX.out]) | (with_reducible refine wpList_ldS (n := 4) (us := #[.bool false, .int .i64 m.gears, .int .i64 m.turn, .slice ad m.sw.length cap]) A_mach kR wU wU (by assumption) wU wU ?_))
     refine (HC.out _).mono ?_
     rintro e w4 ⟨rfl, b4⟩
     have hS4 := hSr.mono b4
     have q3 := (hS4.blk 0 rfl).1
     have hR4 := hR.below hS4.b
     go_wp2_with (first | (go_at_call 68; refine (mwhen_any _ _ _).mono ?_; rintro e w' ⟨rfl, rfl⟩) | (with_reducible refine wpList_ldB F_sliceM wU wU q3 wU ?_) | (with_reducible refine wpList_idxG 0 E_ints F_int cInt1 wU wU (hR4) (rfl) oD oD (fun _ => wU) wU (fun _ => wU) (fun _ => ?_)) | (go_at_call 66; refine (mfirst_any _ _ [_, _] _ (reps_newN cIntS [_, _] 2 rfl (by decide) _ _ (by simp) rfl)).mono ?_; (first | rw [firstE_head (by decide)] | rw [firstE_z, firstE_head (by decide)] | rw [firstE_z, firstE_z, firstE_nil]); rintro e w' ⟨rfl, rfl⟩))
     all_goals go_ret
     all_goals exact ⟨by rw [HV.out, HST.out]; rfl, bal hS4.b _⟩
   ·rw [hsh] at CS hst
    rw [if_neg (by decide)] at hst
    have HC := hid CS
    clear CS hsh
    by_cases hk0 : k = 0
    ·have hk1 : decide (0 < (k : Int)) = false := by simp [hk0]
     have hk2 : ¬ 0 < (k : Int) := by omega
     rw [ho, if_pos hk0] at hst
     have HST := hid hst; have HK0 := hid hk0
     clear hk0 hst ho
     go_wp2_with (first | ((with_reducible refine wpList_idx _ 0 E_ints F_int cInt1 wU wU (hRr) oD oD (fun _ => wU) (fun _ => ?_)); rw [← HXX.out]) | (with_reducible refine wpList_ldS (n := 4) (us := #[.bool false, .int .i64 m.gears, .int .i64 m.turn, .slice ad m.sw.length cap]) A_mach kR wU wU (by assumption) wU wU ?_))
     refine (HC.out _).mono ?_
     rintro e w4 ⟨rfl, b4⟩
     have hS4 := hSr.mono b4
     go_wp2_with (first | (go_at_call 68; refine (mwhen_any _ _ _).mono ?_; rintro e w' ⟨rfl, rfl⟩) | (go_at_call 66; refine (mfirst_any _ _ [_, _] _ (reps_newN cIntS [_, _] 2 rfl (by decide) _ _ (by simp) rfl)).mono ?_; (first | rw [firstE_head (by decide)] | rw [firstE_z, firstE_head (by decide)] | rw [firstE_z, firstE_z, firstE_nil]); rintro e w' ⟨rfl, rfl⟩))
     exact ⟨⟨k + 1, some x, by omega, by go_num, by rw [if_neg (by omega), HXX.out]; simp, HST.out.symm, hS4.al _⟩, by simp [intOf]; omega⟩
    ·have hk1 : decide (0 < (k : Int)) = true := by simp; omega
     have hk2 : 0 < (k : Int) := by omega
     have hkm : max 0 ((k : Int) - 1) = (k : Int) - 1 := by omega
     have hkl : (k : Int) - 1 < m.sw.length := by omega
     rw [ho, if_neg hk0] at hst
     simp only at hst
     obtain ⟨y, hyy⟩ : ∃ y, y = atD 0 m.sw ((k : Int) - 1) := ⟨_, rfl⟩
     rw [← hyy] at hst
     have HYY := hid hyy
     clear hyy ho
     by_cases hxy : x ≤ y
     ·rw [if_pos hxy] at hst
      have HST := hid hst
      clear hst
      go_wp2_with (first | ((with_reducible refine wpList_idx _ 0 E_ints F_int cInt1 wU wU (hRr) oD oD (fun _ => wU) (fun _ => ?_)); rw [← HXX.out]) | (with_reducible refine wpList_ldS (n := 4) (us := #[.bool false, .int .i64 m.gears, .int .i64 m.turn, .slice ad m.sw.length cap]) A_mach kR wU wU (by assumption) wU wU ?_))
      refine (HC.out _).mono ?_
      rintro e w4 ⟨rfl, b4⟩
      have hS4 := hSr.mono b4
      have q3 := (hS4.blk 0 rfl).1
      have hR4 := hR.below hS4.b
      go_wp2_with (first | (go_at_call 68; refine (mwhen_any _ _ _).mono ?_; rintro e w' ⟨rfl, rfl⟩) | (with_reducible refine wpList_ldB F_sliceM wU wU q3 wU ?_) | ((with_reducible refine wpList_idxG 0 E_ints F_int cInt1 wU wU (hR4) (rfl) oD oD (fun _ => wU) wU (fun _ => wU) (fun _ => ?_)); rw [← HYY.out]) | (go_at_call 66; refine (mfirst_any _ _ [_, _] _ (reps_newN cIntS [_, _] 2 rfl (by decide) _ _ (by simp) rfl)).mono ?_; (first | rw [firstE_head (by decide)] | rw [firstE_z, firstE_head (by decide)] | rw [firstE_z, firstE_z, firstE_nil]); rintro e w' ⟨rfl, rfl⟩))
      go_ret
      exact ⟨by rw [HV.out, HST.out]; rfl, bal hS4.b _⟩
     ·rw [if_neg hxy] at hst
      have HST := hid hst
      clear hst
      go_wp2_with (first | ((with_reducible refine wpList_idx _ 0 E_ints F_int cInt1 wU wU (hRr) oD oD (fun _ => wU) (fun _ => ?_)); rw [← HXX.out]) | (with_reducible refine wpList_ldS (n := 4) (us := #[.bool false, .int .i64 m.gears, .int .i64 m.turn, .slice ad m.sw.length cap]) A_mach kR wU wU (by assumption) wU wU ?_))
      refine (HC.out _).mono ?_
      rintro e w4 ⟨rfl, b4⟩
      have hS4 := hSr.mono b4
      have q3 := (hS4.blk 0 rfl).1
      have hR4 := hR.below hS4.b
      go_wp2_with (first | (go_at_call 68; refine (mwhen_any _ _ _).mono ?_; rintro e w' ⟨rfl, rfl⟩) | (with_reducible refine wpList_ldB F_sliceM wU wU q3 wU ?_) | ((with_reducible refine wpList_idxG 0 E_ints F_int cInt1 wU wU (hR4) (rfl) oD oD (fun _ => wU) wU (fun _ => wU) (fun _ => ?_)); rw [← HYY.out]) | (go_at_call 66; refine (mfirst_any _ _ [_, _] _ (reps_newN cIntS [_, _] 2 rfl (by decide) _ _ (by simp) rfl)).mono ?_; (first | rw [firstE_head (by decide)] | rw [firstE_z, firstE_head (by decide)] | rw [firstE_z, firstE_z, firstE_nil]); rintro e w' ⟨rfl, rfl⟩))
      exact ⟨⟨k + 1, some x, by omega, by go_num, by rw [if_neg (by omega), HXX.out]; simp, HST.out.symm, hS4.al _⟩, by simp [intOf]; omega⟩
  ·have hkl : k = m.sw.length := by omega
   subst hkl
   rw [List.drop_length] at hgo
   have hsw : swGo m none m.sw = 0 := by rw [← hgo]; cases o <;> rfl
   have HSW := hid hsw
   clear hsw hgo ho
   go_wp2_with fail
   go_ret
   exact ⟨by rw [HV.out, HSW.out]; rfl, hSr.b⟩
end Go.Proofs.YtddkdgodgflmlaaGreatDoor

namespace Go.Proofs.YtddkdgodgflmlaaGreatDoor
open Go.RowKit
set_option maxHeartbeats 8000000
set_option maxRecDepth 100000

theorem cm_f10 (m : MacV) (ad : Option Addr) (cap : Nat) (w : World) (hR : Ints w ad cap m.sw) (hI : -9223372036854775808 ≤ m.gears ∧ m.gears ≤ 9223372036854775807) (hr : m.ring = true) (q : Int) (hq : m.gears.tmod 2 = q) (r1 : 1 ≤ m.gears) (r2 : m.gears ≤ 16) (n1 : decide (m.gears < 1) = false) (n2 : decide (16 < m.gears) = false) (hqb : (q == 1) = false) (ht : (m.turn != 1) = false)  (n5 : decide (m.gears < m.sw.length) = false) (h5 : m.sw.length ≤ 16) (HV : Hid (macE m = swGo m none m.sw)) :
  Calls Tryz.prog 55 #[mV m ad cap] w fun r w' => r = .returned (.int .i64 (macE m)) ∧ Below w.heap.size w w' := by
 have hcap := hR.le
 have hmx := hR.max
 have HSh := hid (fun p w => shared_any m ad cap p w)
 unfold mV at HSh
 rw [hr] at HSh
 unfold mV
 rw [hr]
 clear hr
 go_enter Tryz.func55, Tryz.ntmps55
 go_wp2_with fail
 have hS := (SL.nil w).box (.cells #[.bool true, .int .i64 m.gears, .int .i64 m.turn, .slice ad m.sw.length cap] 45)
 have q1 := (hS.blk 0 rfl).1
 refine wp_region_qt 34 kR kR ?_
 simp only [List.take_succ_cons, List.take_zero, List.drop_succ_cons, List.drop_zero]
 repeat (first | ((with_reducible refine wpB_load F_boolM wU wU q1 wU ?_); (try simp only [Act.put, pA, pB, pC])) | ((with_reducible refine wpB_load F_sliceM wU wU q1 wU ?_); (try simp only [Act.put, pA, pB, pC])) | ((with_reducible refine wpB_when wU wU wU ?_); (try simp only [Act.put, pA, pB, pC])) | ((with_reducible refine wpQ_skip wU ?_); (try simp only [Act.put, pA, pB, pC])) |  ((with_reducible refine wpB_load (by first | exact F_int | exact F_u64s) wU wU (by assumption) wU ?_); (try simp only [Act.put, pA, pB, pC])) | ((refine wpQ_oneG ?_ wU (fun w' => ?_) ?_); rotate_left; (go_simp; rfl); (try simp only [Act.put, pA, pB, pC])))
 refine wpQuiet_nil ?_
 intro w1 hb1
 have hS1 := hS.mono hb1
 have hS2 := hS1.al (.cells #[.int .i64 0, .int .i64 0, .int .i64 0, .int .i64 0] 26)
 have q3 := (hS2.blk 0 rfl).1
 go_wp2_with (first | (go_at_call 66; refine (mfirst_any _ _ [_, _, _, _] _ (reps_newN cIntS [_, _, _, _] 4 rfl (by decide) _ _ (by simp) rfl)).mono ?_; rw [firstE_z, firstE_z, firstE_z, firstE_z, firstE_nil]; rintro e w' ⟨rfl, rfl⟩) | (with_reducible refine wpList_ldB F_sliceM wU wU q3 wU ?_))
 clear q1 q3 hS hS1
 go_loopw [49, 4, 5, 6] (fun i _ _ _ wr => ∃ (k : Nat) (o : Option Int), k ≤ m.sw.length ∧ i = .int .i64 k ∧ (o = if k = 0 then none else some (atD 0 m.sw ((k : Int) - 1))) ∧ swGo m o (m.sw.drop k) = swGo m none m.sw ∧ SL w.heap.size w wr [pBlk w.heap.size (.cells #[.bool true, .int .i64 m.gears, .int .i64 m.turn, .slice ad m.sw.length cap] 45)]) (fun i _ _ _ _ => m.sw.length - (intOf i).toNat)
 case atStart => exact ⟨0, none, by omega, rfl, rfl, rfl, hS2⟩
 case round =>
  clear hS2
  obtain ⟨k, o, hk, rfl, ho, hgo, hSr⟩ := hrel
  have q3 := (hSr.blk 0 rfl).1
  have hRr := hR.below hSr.b
  by_cases hlt : k < m.sw.length
  ·have hst := swGo_step m k hlt o
   rw [hgo] at hst
   obtain ⟨x, hxx⟩ : ∃ x, x = atD 0 m.sw k := ⟨_, rfl⟩
   rw [← hxx] at hst
   have HXX := hid hxx
   have CS := fun w => HSh.out x w
   clear hxx hgo
   cases hsh : sharedM m x
   ·rw [hsh] at CS hst
    rw [if_pos rfl] at hst
    have HC := hid CS; have HST := hid hst
    clear CS hst ho hsh
    by_cases hk0 : k = 0
    ·have hk1 : decide (0 < (k : Int)) = false := by simp [hk0]
     have hk2 : ¬ 0 < (k : Int) := by omega
     clear hk0
     go_wp2_with (first | ((with_reducible refine wpList_idx _ 0 E_ints F_int cInt1 wU wU (hRr) oD oD (fun _ => wU) (fun _ => ?_)); rw [← HXX.out]) | (with_reducible refine wpList_ldS (n := 4) (us := #[.bool true, .int .i64 m.gears, .int .i64 m.turn, .slice ad m.sw.length cap]) A_mach kR wU wU (by assumption) wU wU ?_))
     refine (HC.out _).mono ?_
     rintro e w4 ⟨rfl, b4⟩
     have hS4 := hSr.mono b4
     have q4 := (hS4.blk 0 rfl).1
     go_wp2_with (first | (go_at_call 68; refine (mwhen_any _ _ _).mono ?_; rintro e w' ⟨rfl, rfl⟩) | (go_at_call 66; refine (mfirst_any _ _ [_, _] _ (reps_newN cIntS [_, _] 2 rfl (by decide) _ _ (by simp) rfl)).mono ?_; (first | rw [firstE_head (by decide)] | rw [firstE_z, firstE_head (by decide)] | rw [firstE_z, firstE_z, firstE_nil]); rintro e w' ⟨rfl, rfl⟩))
     go_ret
     exact ⟨by rw [HV.out, HST.out]; rfl, bal hS4.b _⟩
    ·have hk1 : decide (0 < (k : Int)) = true := by simp; omega
     have hk2 : 0 < (k : Int) := by omega
     have hkm : max 0 ((k : Int) - 1) = (k : Int) - 1 := by omega
     have hkl : (k : Int) - 1 < m.sw.length := by omega
     go_wp2_with (first | ((with_reducible refine wpList_idx _ 0 E_ints F_int cInt1 wU wU (hRr) oD oD (fun _ => wU) (fun _ => ?_)); rw [← HXX.out]) | (with_reducible refine wpList_ldS (n := 4) (us := #[.bool true, .int .i64 m.gears, .int .i64 m.turn, .slice ad m.sw.length cap]) A_mach kR wU wU (by assumption) wU wU ?_))
     refine (HC.out _).mono ?_
     rintro e w4 ⟨rfl, b4⟩
     have hS4 := hSr.mono b4
     have q3 := (hS4.blk 0 rfl).1
     have hR4 := hR.below hS4.b
     go_wp2_with (first | (go_at_call 68; refine (mwhen_any _ _ _).mono ?_; rintro e w' ⟨rfl, rfl⟩) | (with_reducible refine wpList_ldB F_sliceM wU wU q3 wU ?_) | (with_reducible refine wpList_idxG 0 E_ints F_int cInt1 wU wU (hR4) (rfl) oD oD (fun _ => wU) wU (fun _ => wU) (fun _ => ?_)) | (go_at_call 66; refine (mfirst_any _ _ [_, _] _ (reps_newN cIntS [_, _] 2 rfl (by decide) _ _ (by simp) rfl)).mono ?_; (first | rw [firstE_head (by decide)] | rw [firstE_z, firstE_head (by decide)] | rw [firstE_z, firstE_z, firstE_nil]); rintro e w' ⟨rfl, rfl⟩))
     all_goals go_ret
     all_goals exact ⟨by rw [HV.out, HST.out]; rfl, bal hS4.b _⟩
   ·rw [hsh] at CS hst
    rw [if_neg (by decide)] at hst
    have HC := hid CS
    clear CS hsh
    by_cases hk0 : k = 0
    ·have hk1 : decide (0 < (k : Int)) = false := by simp [hk0]
     have hk2 : ¬ 0 < (k : Int) := by omega
     rw [ho, if_pos hk0] at hst
     have HST := hid hst; have HK0 := hid hk0
     clear hk0 hst ho
     go_wp2_with (first | ((with_reducible refine wpList_idx _ 0 E_ints F_int cInt1 wU wU (hRr) oD oD (fun _ => wU) (fun _ => ?_)); rw [← HXX.out]) | (with_reducible refine wpList_ldS (n := 4) (us := #[.bool true, .int .i64 m.gears, .int .i64 m.turn, .slice ad m.sw.length cap]) A_mach kR wU wU (by assumption) wU wU ?_))
     refine (HC.out _).mono ?_
     rintro e w4 ⟨rfl, b4⟩
     have hS4 := hSr.mono b4
     go_wp2_with (first | (go_at_call 68; refine (mwhen_any _ _ _).mono ?_; rintro e w' ⟨rfl, rfl⟩) | (go_at_call 66; refine (mfirst_any _ _ [_, _] _ (reps_newN cIntS [_, _] 2 rfl (by decide) _ _ (by simp) rfl)).mono ?_; (first | rw [firstE_head (by decide)] | rw [firstE_z, firstE_head (by decide)] | rw [firstE_z, firstE_z, firstE_nil]); rintro e w' ⟨rfl, rfl⟩))
     exact ⟨⟨k + 1, some x, by omega, by go_num, by rw [if_neg (by omega), HXX.out]; simp, HST.out.symm, hS4.al _⟩, by simp [intOf]; omega⟩
    ·have hk1 : decide (0 < (k : Int)) = true := by simp; omega
     have hk2 : 0 < (k : Int) := by omega
     have hkm : max 0 ((k : Int) - 1) = (k : Int) - 1 := by omega
     have hkl : (k : Int) - 1 < m.sw.length := by omega
     rw [ho, if_neg hk0] at hst
     simp only at hst
     obtain ⟨y, hyy⟩ : ∃ y, y = atD 0 m.sw ((k : Int) - 1) := ⟨_, rfl⟩
     rw [← hyy] at hst
     have HYY := hid hyy
     clear hyy ho
     by_cases hxy : x ≤ y
     ·rw [if_pos hxy] at hst
      have HST := hid hst
      clear hst
      go_wp2_with (first | ((with_reducible refine wpList_idx _ 0 E_ints F_int cInt1 wU wU (hRr) oD oD (fun _ => wU) (fun _ => ?_)); rw [← HXX.out]) | (with_reducible refine wpList_ldS (n := 4) (us := #[.bool true, .int .i64 m.gears, .int .i64 m.turn, .slice ad m.sw.length cap]) A_mach kR wU wU (by assumption) wU wU ?_))
      refine (HC.out _).mono ?_
      rintro e w4 ⟨rfl, b4⟩
      have hS4 := hSr.mono b4
      have q3 := (hS4.blk 0 rfl).1
      have hR4 := hR.below hS4.b
      go_wp2_with (first | (go_at_call 68; refine (mwhen_any _ _ _).mono ?_; rintro e w' ⟨rfl, rfl⟩) | (with_reducible refine wpList_ldB F_sliceM wU wU q3 wU ?_) | ((with_reducible refine wpList_idxG 0 E_ints F_int cInt1 wU wU (hR4) (rfl) oD oD (fun _ => wU) wU (fun _ => wU) (fun _ => ?_)); rw [← HYY.out]) | (go_at_call 66; refine (mfirst_any _ _ [_, _] _ (reps_newN cIntS [_, _] 2 rfl (by decide) _ _ (by simp) rfl)).mono ?_; (first | rw [firstE_head (by decide)] | rw [firstE_z, firstE_head (by decide)] | rw [firstE_z, firstE_z, firstE_nil]); rintro e w' ⟨rfl, rfl⟩))
      go_ret
      exact ⟨by rw [HV.out, HST.out]; rfl, bal hS4.b _⟩
     ·rw [if_neg hxy] at hst
      have HST := hid hst
      clear hst
      go_wp2_with (first | ((with_reducible refine wpList_idx _ 0 E_ints F_int cInt1 wU wU (hRr) oD oD (fun _ => wU) (fun _ => ?_)); rw [← HXX.out]) | (with_reducible refine wpList_ldS (n := 4) (us := #[.bool true, .int .i64 m.gears, .int .i64 m.turn, .slice ad m.sw.length cap]) A_mach kR wU wU (by assumption) wU wU ?_))
      refine (HC.out _).mono ?_
      rintro e w4 ⟨rfl, b4⟩
      have hS4 := hSr.mono b4
      have q3 := (hS4.blk 0 rfl).1
      have hR4 := hR.below hS4.b
      go_wp2_with (first | (go_at_call 68; refine (mwhen_any _ _ _).mono ?_; rintro e w' ⟨rfl, rfl⟩) | (with_reducible refine wpList_ldB F_sliceM wU wU q3 wU ?_) | ((with_reducible refine wpList_idxG 0 E_ints F_int cInt1 wU wU (hR4) (rfl) oD oD (fun _ => wU) wU (fun _ => wU) (fun _ => ?_)); rw [← HYY.out]) | (go_at_call 66; refine (mfirst_any _ _ [_, _] _ (reps_newN cIntS [_, _] 2 rfl (by decide) _ _ (by simp) rfl)).mono ?_; (first | rw [firstE_head (by decide)] | rw [firstE_z, firstE_head (by decide)] | rw [firstE_z, firstE_z, firstE_nil]); rintro e w' ⟨rfl, rfl⟩))
      exact ⟨⟨k + 1, some x, by omega, by go_num, by rw [if_neg (by omega), HXX.out]; simp, HST.out.symm, hS4.al _⟩, by simp [intOf]; omega⟩
  ·have hkl : k = m.sw.length := by omega
   subst hkl
   rw [List.drop_length] at hgo
   have hsw : swGo m none m.sw = 0 := by rw [← hgo]; cases o <;> rfl
   have HSW := hid hsw
   clear hsw hgo ho
   go_wp2_with fail
   go_ret
   exact ⟨by rw [HV.out, HSW.out]; rfl, hSr.b⟩
theorem cm_f11 (m : MacV) (ad : Option Addr) (cap : Nat) (w : World) (hR : Ints w ad cap m.sw) (hI : -9223372036854775808 ≤ m.gears ∧ m.gears ≤ 9223372036854775807) (hr : m.ring = true) (q : Int) (hq : m.gears.tmod 2 = q) (r1 : 1 ≤ m.gears) (r2 : m.gears ≤ 16) (n1 : decide (m.gears < 1) = false) (n2 : decide (16 < m.gears) = false) (hqb : (q == 1) = false) (ht : (m.turn != 1) = true) (htn : (m.turn != -1) = false) (n5 : decide (m.gears < m.sw.length) = false) (h5 : m.sw.length ≤ 16) (HV : Hid (macE m = swGo m none m.sw)) :
  Calls Tryz.prog 55 #[mV m ad cap] w fun r w' => r = .returned (.int .i64 (macE m)) ∧ Below w.heap.size w w' := by
 have hcap := hR.le
 have hmx := hR.max
 have HSh := hid (fun p w => shared_any m ad cap p w)
 unfold mV at HSh
 rw [hr] at HSh
 unfold mV
 rw [hr]
 clear hr
 go_enter Tryz.func55, Tryz.ntmps55
 go_wp2_with fail
 have hS := (SL.nil w).box (.cells #[.bool true, .int .i64 m.gears, .int .i64 m.turn, .slice ad m.sw.length cap] 45)
 have q1 := (hS.blk 0 rfl).1
 refine wp_region_qt 34 kR kR ?_
 simp only [List.take_succ_cons, List.take_zero, List.drop_succ_cons, List.drop_zero]
 repeat (first | ((with_reducible refine wpB_load F_boolM wU wU q1 wU ?_); (try simp only [Act.put, pA, pB, pC])) | ((with_reducible refine wpB_load F_sliceM wU wU q1 wU ?_); (try simp only [Act.put, pA, pB, pC])) | ((with_reducible refine wpB_when wU wU wU ?_); (try simp only [Act.put, pA, pB, pC])) | ((with_reducible refine wpQ_skip wU ?_); (try simp only [Act.put, pA, pB, pC])) |  ((with_reducible refine wpB_load (by first | exact F_int | exact F_u64s) wU wU (by assumption) wU ?_); (try simp only [Act.put, pA, pB, pC])) | ((refine wpQ_oneG ?_ wU (fun w' => ?_) ?_); rotate_left; (go_simp; rfl); (try simp only [Act.put, pA, pB, pC])))
 refine wpQuiet_nil ?_
 intro w1 hb1
 have hS1 := hS.mono hb1
 have hS2 := hS1.al (.cells #[.int .i64 0, .int .i64 0, .int .i64 0, .int .i64 0] 26)
 have q3 := (hS2.blk 0 rfl).1
 go_wp2_with (first | (go_at_call 66; refine (mfirst_any _ _ [_, _, _, _] _ (reps_newN cIntS [_, _, _, _] 4 rfl (by decide) _ _ (by simp) rfl)).mono ?_; rw [firstE_z, firstE_z, firstE_z, firstE_z, firstE_nil]; rintro e w' ⟨rfl, rfl⟩) | (with_reducible refine wpList_ldB F_sliceM wU wU q3 wU ?_))
 clear q1 q3 hS hS1
 go_loopw [49, 4, 5, 6] (fun i _ _ _ wr => ∃ (k : Nat) (o : Option Int), k ≤ m.sw.length ∧ i = .int .i64 k ∧ (o = if k = 0 then none else some (atD 0 m.sw ((k : Int) - 1))) ∧ swGo m o (m.sw.drop k) = swGo m none m.sw ∧ SL w.heap.size w wr [pBlk w.heap.size (.cells #[.bool true, .int .i64 m.gears, .int .i64 m.turn, .slice ad m.sw.length cap] 45)]) (fun i _ _ _ _ => m.sw.length - (intOf i).toNat)
 case atStart => exact ⟨0, none, by omega, rfl, rfl, rfl, hS2⟩
 case round =>
  clear hS2
  obtain ⟨k, o, hk, rfl, ho, hgo, hSr⟩ := hrel
  have q3 := (hSr.blk 0 rfl).1
  have hRr := hR.below hSr.b
  by_cases hlt : k < m.sw.length
  ·have hst := swGo_step m k hlt o
   rw [hgo] at hst
   obtain ⟨x, hxx⟩ : ∃ x, x = atD 0 m.sw k := ⟨_, rfl⟩
   rw [← hxx] at hst
   have HXX := hid hxx
   have CS := fun w => HSh.out x w
   clear hxx hgo
   cases hsh : sharedM m x
   ·rw [hsh] at CS hst
    rw [if_pos rfl] at hst
    have HC := hid CS; have HST := hid hst
    clear CS hst ho hsh
    by_cases hk0 : k = 0
    ·have hk1 : decide (0 < (k : Int)) = false := by simp [hk0]
     have hk2 : ¬ 0 < (k : Int) := by omega
     clear hk0
     go_wp2_with (first | ((with_reducible refine wpList_idx _ 0 E_ints F_int cInt1 wU wU (hRr) oD oD (fun _ => wU) (fun _ => ?_)); rw [← HXX.out]) | (with_reducible refine wpList_ldS (n := 4) (us := #[.bool true, .int .i64 m.gears, .int .i64 m.turn, .slice ad m.sw.length cap]) A_mach kR wU wU (by assumption) wU wU ?_))
     refine (HC.out _).mono ?_
     rintro e w4 ⟨rfl, b4⟩
     have hS4 := hSr.mono b4
     have q4 := (hS4.blk 0 rfl).1
     go_wp2_with (first | (go_at_call 68; refine (mwhen_any _ _ _).mono ?_; rintro e w' ⟨rfl, rfl⟩) | (go_at_call 66; refine (mfirst_any _ _ [_, _] _ (reps_newN cIntS [_, _] 2 rfl (by decide) _ _ (by simp) rfl)).mono ?_; (first | rw [firstE_head (by decide)] | rw [firstE_z, firstE_head (by decide)] | rw [firstE_z, firstE_z, firstE_nil]); rintro e w' ⟨rfl, rfl⟩))
     go_ret
     exact ⟨by rw [HV.out, HST.out]; rfl, bal hS4.b _⟩
    ·have hk1 : decide (0 < (k : Int)) = true := by simp; omega
     have hk2 : 0 < (k : Int) := by omega
     have hkm : max 0 ((k : Int) - 1) = (k : Int) - 1 := by omega
     have hkl : (k : Int) - 1 < m.sw.length := by omega
     go_wp2_with (first | ((with_reducible refine wpList_idx _ 0 E_ints F_int cInt1 wU wU (hRr) oD oD (fun _ => wU) (fun _ => ?_)); rw [← HXX.out]) | (with_reducible refine wpList_ldS (n := 4) (us := #[.bool true, .int .i64 m.gears, .int .i64 m.turn, .slice ad m.sw.length cap]) A_mach kR wU wU (by assumption) wU wU ?_))
     refine (HC.out _).mono ?_
     rintro e w4 ⟨rfl, b4⟩
     have hS4 := hSr.mono b4
     have q3 := (hS4.blk 0 rfl).1
     have hR4 := hR.below hS4.b
     go_wp2_with (first | (go_at_call 68; refine (mwhen_any _ _ _).mono ?_; rintro e w' ⟨rfl, rfl⟩) | (with_reducible refine wpList_ldB F_sliceM wU wU q3 wU ?_) | (with_reducible refine wpList_idxG 0 E_ints F_int cInt1 wU wU (hR4) (rfl) oD oD (fun _ => wU) wU (fun _ => wU) (fun _ => ?_)) | (go_at_call 66; refine (mfirst_any _ _ [_, _] _ (reps_newN cIntS [_, _] 2 rfl (by decide) _ _ (by simp) rfl)).mono ?_; (first | rw [firstE_head (by decide)] | rw [firstE_z, firstE_head (by decide)] | rw [firstE_z, firstE_z, firstE_nil]); rintro e w' ⟨rfl, rfl⟩))
     all_goals go_ret
     all_goals exact ⟨by rw [HV.out, HST.out]; rfl, bal hS4.b _⟩
   ·rw [hsh] at CS hst
    rw [if_neg (by decide)] at hst
    have HC := hid CS
    clear CS hsh
    by_cases hk0 : k = 0
    ·have hk1 : decide (0 < (k : Int)) = false := by simp [hk0]
     have hk2 : ¬ 0 < (k : Int) := by omega
     rw [ho, if_pos hk0] at hst
     have HST := hid hst; have HK0 := hid hk0
     clear hk0 hst ho
     go_wp2_with (first | ((with_reducible refine wpList_idx _ 0 E_ints F_int cInt1 wU wU (hRr) oD oD (fun _ => wU) (fun _ => ?_)); rw [← HXX.out]) | (with_reducible refine wpList_ldS (n := 4) (us := #[.bool true, .int .i64 m.gears, .int .i64 m.turn, .slice ad m.sw.length cap]) A_mach kR wU wU (by assumption) wU wU ?_))
     refine (HC.out _).mono ?_
     rintro e w4 ⟨rfl, b4⟩
     have hS4 := hSr.mono b4
     go_wp2_with (first | (go_at_call 68; refine (mwhen_any _ _ _).mono ?_; rintro e w' ⟨rfl, rfl⟩) | (go_at_call 66; refine (mfirst_any _ _ [_, _] _ (reps_newN cIntS [_, _] 2 rfl (by decide) _ _ (by simp) rfl)).mono ?_; (first | rw [firstE_head (by decide)] | rw [firstE_z, firstE_head (by decide)] | rw [firstE_z, firstE_z, firstE_nil]); rintro e w' ⟨rfl, rfl⟩))
     exact ⟨⟨k + 1, some x, by omega, by go_num, by rw [if_neg (by omega), HXX.out]; simp, HST.out.symm, hS4.al _⟩, by simp [intOf]; omega⟩
    ·have hk1 : decide (0 < (k : Int)) = true := by simp; omega
     have hk2 : 0 < (k : Int) := by omega
     have hkm : max 0 ((k : Int) - 1) = (k : Int) - 1 := by omega
     have hkl : (k : Int) - 1 < m.sw.length := by omega
     rw [ho, if_neg hk0] at hst
     simp only at hst
     obtain ⟨y, hyy⟩ : ∃ y, y = atD 0 m.sw ((k : Int) - 1) := ⟨_, rfl⟩
     rw [← hyy] at hst
     have HYY := hid hyy
     clear hyy ho
     by_cases hxy : x ≤ y
     ·rw [if_pos hxy] at hst
      have HST := hid hst
      clear hst
      go_wp2_with (first | ((with_reducible refine wpList_idx _ 0 E_ints F_int cInt1 wU wU (hRr) oD oD (fun _ => wU) (fun _ => ?_)); rw [← HXX.out]) | (with_reducible refine wpList_ldS (n := 4) (us := #[.bool true, .int .i64 m.gears, .int .i64 m.turn, .slice ad m.sw.length cap]) A_mach kR wU wU (by assumption) wU wU ?_))
      refine (HC.out _).mono ?_
      rintro e w4 ⟨rfl, b4⟩
      have hS4 := hSr.mono b4
      have q3 := (hS4.blk 0 rfl).1
      have hR4 := hR.below hS4.b
      go_wp2_with (first | (go_at_call 68; refine (mwhen_any _ _ _).mono ?_; rintro e w' ⟨rfl, rfl⟩) | (with_reducible refine wpList_ldB F_sliceM wU wU q3 wU ?_) | ((with_reducible refine wpList_idxG 0 E_ints F_int cInt1 wU wU (hR4) (rfl) oD oD (fun _ => wU) wU (fun _ => wU) (fun _ => ?_)); rw [← HYY.out]) | (go_at_call 66; refine (mfirst_any _ _ [_, _] _ (reps_newN cIntS [_, _] 2 rfl (by decide) _ _ (by simp) rfl)).mono ?_; (first | rw [firstE_head (by decide)] | rw [firstE_z, firstE_head (by decide)] | rw [firstE_z, firstE_z, firstE_nil]); rintro e w' ⟨rfl, rfl⟩))
      go_ret
      exact ⟨by rw [HV.out, HST.out]; rfl, bal hS4.b _⟩
     ·rw [if_neg hxy] at hst
      have HST := hid hst
      clear hst
      go_wp2_with (first | ((with_reducible refine wpList_idx _ 0 E_ints F_int cInt1 wU wU (hRr) oD oD (fun _ => wU) (fun _ => ?_)); rw [← HXX.out]) | (with_reducible refine wpList_ldS (n := 4) (us := #[.bool true, .int .i64 m.gears, .int .i64 m.turn, .slice ad m.sw.length cap]) A_mach kR wU wU (by assumption) wU wU ?_))
      refine (HC.out _).mono ?_
      rintro e w4 ⟨rfl, b4⟩
      have hS4 := hSr.mono b4
      have q3 := (hS4.blk 0 rfl).1
      have hR4 := hR.below hS4.b
      go_wp2_with (first | (go_at_call 68; refine (mwhen_any _ _ _).mono ?_; rintro e w' ⟨rfl, rfl⟩) | (with_reducible refine wpList_ldB F_sliceM wU wU q3 wU ?_) | ((with_reducible refine wpList_idxG 0 E_ints F_int cInt1 wU wU (hR4) (rfl) oD oD (fun _ => wU) wU (fun _ => wU) (fun _ => ?_)); rw [← HYY.out]) | (go_at_call 66; refine (mfirst_any _ _ [_, _] _ (reps_newN cIntS [_, _] 2 rfl (by decide) _ _ (by simp) rfl)).mono ?_; (first | rw [firstE_head (by decide)] | rw [firstE_z, firstE_head (by decide)] | rw [firstE_z, firstE_z, firstE_nil]); rintro e w' ⟨rfl, rfl⟩))
      exact ⟨⟨k + 1, some x, by omega, by go_num, by rw [if_neg (by omega), HXX.out]; simp, HST.out.symm, hS4.al _⟩, by simp [intOf]; omega⟩
  ·have hkl : k = m.sw.length := by omega
   subst hkl
   rw [List.drop_length] at hgo
   have hsw : swGo m none m.sw = 0 := by rw [← hgo]; cases o <;> rfl
   have HSW := hid hsw
   clear hsw hgo ho
   go_wp2_with fail
   go_ret
   exact ⟨by rw [HV.out, HSW.out]; rfl, hSr.b⟩
end Go.Proofs.YtddkdgodgflmlaaGreatDoor

namespace Go.Proofs.YtddkdgodgflmlaaGreatDoor
open Go.RowKit
set_option maxHeartbeats 8000000
set_option maxRecDepth 100000

theorem CheckMachine_any (m : MacV) (ad : Option Addr) (cap : Nat) (w : World) (hR : Ints w ad cap m.sw) (hI0 : InI m.gears) :
  Calls Tryz.prog 55 #[mV m ad cap] w fun r w' => r = .returned (.int .i64 (macE m)) ∧ Below w.heap.size w w' := by
 obtain ⟨q, hq⟩ : ∃ q, m.gears.tmod 2 = q := ⟨_, rfl⟩
 have hI : -9223372036854775808 ≤ m.gears ∧ m.gears ≤ 9223372036854775807 := by unfold InI at hI0; omega
 by_cases c1 : m.gears < 1
 ·have hv : macE m = 3 := by unfold macE; rw [if_pos (.inl c1)]
  have hd1 : decide (m.gears < 1) = true := decide_eq_true c1
  cases hr : m.ring <;> cases ht : (m.turn != 1)
  ·exact cm_a00 m ad cap w hR hI hr q hq hd1 ht (hid hv)
  ·exact cm_a01 m ad cap w hR hI hr q hq hd1 ht (hid hv)
  ·exact cm_a10 m ad cap w hR hI hr q hq hd1 ht (hid hv)
  ·exact cm_a11 m ad cap w hR hI hr q hq hd1 ht (hid hv)
 have n1 : decide (m.gears < 1) = false := decide_eq_false c1
 by_cases c2 : 16 < m.gears
 ·have hv : macE m = 3 := by unfold macE; rw [if_pos (.inr c2)]
  have hd2 : decide (16 < m.gears) = true := decide_eq_true c2
  cases hr : m.ring <;> cases ht : (m.turn != 1)
  ·exact cm_b00 m ad cap w hR hI hr q hq n1 hd2 ht (hid hv)
  ·exact cm_b01 m ad cap w hR hI hr q hq n1 hd2 ht (hid hv)
  ·exact cm_b10 m ad cap w hR hI hr q hq n1 hd2 ht (hid hv)
  ·exact cm_b11 m ad cap w hR hI hr q hq n1 hd2 ht (hid hv)
 have n2 : decide (16 < m.gears) = false := decide_eq_false c2
 have r1 : 1 ≤ m.gears := by omega
 have r2 : m.gears ≤ 16 := by omega
 have hq2 : q = m.gears % 2 := by rw [← hq, Int.tmod_eq_emod_of_nonneg (by omega)]
 by_cases c3 : m.ring = true ∧ q = 1
 ·have hv : macE m = 17 := by unfold macE; rw [if_neg (by omega), if_pos ⟨c3.1, by rw [← hq2]; exact c3.2⟩]
  have hr := c3.1
  have hq1 : (q == 1) = true := by simpa using c3.2
  cases ht : (m.turn != 1)
  ·exact cm_c0 m ad cap w hR hI hr q hq r1 r2 n1 n2 hq1 ht (hid hv)
  ·exact cm_c1 m ad cap w hR hI hr q hq r1 r2 n1 n2 hq1 ht (hid hv)
 have m3 : ¬ (m.ring = true ∧ m.gears % 2 = 1) := fun h => c3 ⟨h.1, by rw [hq2]; exact h.2⟩
 have hqb : m.ring = true → (q == 1) = false := fun hr => by
  have : ¬ q = 1 := fun e => c3 ⟨hr, e⟩
  simpa using this
 by_cases c4 : m.turn ≠ 1 ∧ m.turn ≠ -1
 ·have hv : macE m = 3 := by unfold macE; rw [if_neg (by omega), if_neg m3, if_pos c4]
  have ht : (m.turn != 1) = true := by simpa using c4.1
  have htn : (m.turn != -1) = true := by simpa using c4.2
  cases hr : m.ring
  ·exact cm_d0 m ad cap w hR hI hr q hq r1 r2 n1 n2 ht htn (hid hv)
  ·exact cm_d1 m ad cap w hR hI hr q hq r1 r2 n1 n2 (hqb hr) ht htn (hid hv)
 have htn : (m.turn != 1) = true → (m.turn != -1) = false := fun h => by
  have t1 : m.turn ≠ 1 := by simpa using h
  have t2 : m.turn = -1 := by
   by_cases t2 : m.turn = -1
   ·exact t2
   ·exact absurd ⟨t1, t2⟩ c4
  simp [t2]
 by_cases c5 : m.gears < m.sw.length
 ·have hv : macE m = 5 := by unfold macE; rw [if_neg (by omega), if_neg m3, if_neg c4, if_pos c5]
  have hd5 : decide (m.gears < m.sw.length) = true := decide_eq_true c5
  cases hr : m.ring <;> cases ht : (m.turn != 1)
  ·exact cm_e00 m ad cap w hR hI hr q hq r1 r2 n1 n2 ht hd5 (hid hv)
  ·exact cm_e01 m ad cap w hR hI hr q hq r1 r2 n1 n2 ht (htn ht) hd5 (hid hv)
  ·exact cm_e10 m ad cap w hR hI hr q hq r1 r2 n1 n2 (hqb hr) ht hd5 (hid hv)
  ·exact cm_e11 m ad cap w hR hI hr q hq r1 r2 n1 n2 (hqb hr) ht (htn ht) hd5 (hid hv)
 have n5 : decide (m.gears < m.sw.length) = false := decide_eq_false c5
 have h5 : m.sw.length ≤ 16 := by omega
 have hv : macE m = swGo m none m.sw := by unfold macE; rw [if_neg (by omega), if_neg m3, if_neg c4, if_neg c5]
 cases hr : m.ring <;> cases ht : (m.turn != 1)
 ·exact cm_f00 m ad cap w hR hI hr q hq r1 r2 n1 n2 ht n5 h5 (hid hv)
 ·exact cm_f01 m ad cap w hR hI hr q hq r1 r2 n1 n2 ht (htn ht) n5 h5 (hid hv)
 ·exact cm_f10 m ad cap w hR hI hr q hq r1 r2 n1 n2 (hqb hr) ht n5 h5 (hid hv)
 ·exact cm_f11 m ad cap w hR hI hr q hq r1 r2 n1 n2 (hqb hr) ht (htn ht) n5 h5 (hid hv)
end Go.Proofs.YtddkdgodgflmlaaGreatDoor

namespace Go.Proofs.YtddkdgodgflmlaaGreatDoor
open Go.RowKit
set_option maxRecDepth 100000
def rowM : MacV := ⟨false, 2, 1, []⟩
theorem rv_mac : macE rowM = 0 := by first | rfl | decide | kernel_rfl
theorem rv_perm : permM rowM = [1, 4, 3, 0, 7, 2, 5, 6] := by first | rfl | decide | kernel_rfl
theorem rv_cyc : cycK (permM rowM) (permM rowM).length = [[0, 1, 4, 7, 6, 5, 2, 3]] := by first | rfl | decide | kernel_rfl
theorem rv_per : perS (permM rowM) = ⟨#[56]⟩ := by first | rfl | decide | kernel_rfl
end Go.Proofs.YtddkdgodgflmlaaGreatDoor

namespace Go.Proofs.YtddkdgodgflmlaaGreatDoor
open Go.RowKit
set_option maxHeartbeats 8000000
set_option maxRecDepth 100000

theorem RetMac.none {W w' : World} {e : Int} {r : Ending} {S : SL W.heap.size W w' []} (h : r = .returned (.tuple #[.agg #[.bool false, .int .i64 0, .int .i64 0, .slice none 0 0], .int .i64 e])) : RetMac W noM e r w' :=
 ⟨.none, 0, h, (S.nilS (α := Int) (c := cInt) (sz := 1) (e := 3) cIntS)⟩

section
variable {ops : Array Oper} {rest : List Oper} {a : Act} {Q : Exit → Act → World → Prop} {w0 w : World} {L : List Pc} {B : Nat} {ty : TypeId} {p : String} {af : Array Edge}
end

end Go.Proofs.YtddkdgodgflmlaaGreatDoor

namespace Go.Proofs.YtddkdgodgflmlaaGreatDoor
open Go.RowKit
set_option maxHeartbeats 8000000
set_option maxRecDepth 100000
theorem row_ck : ChkM rowM none 0 := fun w h => CheckMachine_any rowM none 0 w h (by show InI (2 : Int); unfold InI; omega)
theorem row_ckl (al : Option Addr) (cl : Nat) (l : List Int) : ChkL rowM none 0 al cl l := CheckLoad_any rowM none 0 al cl l row_ck
theorem am_perm (w : World) : Calls Tryz.prog 18 #[mV rowM none 0] w fun r w' => ∃ v, r = .returned (.tuple #[v, .int .i64 0]) ∧ OwnI w.heap.size w' v [1, 4, 3, 0, 7, 2, 5, 6] ∧ Below w.heap.size w w' := by
 have h := mPerm_any rowM none 0 w (ints_nil _) row_ck
 rw [rv_mac, if_pos rfl, rv_perm] at h
 exact h
end Go.Proofs.YtddkdgodgflmlaaGreatDoor

namespace Go.Proofs.YtddkdgodgflmlaaGreatDoor
open Go.RowKit
set_option maxHeartbeats 1000000
set_option maxRecDepth 100000
section
variable {P : Program} {ops : Array Oper} {rest : List Oper} {a : Act} {Qa : Act → Prop} {α : Type} {c : α → Value} {sz bytes : Nat} {t e : TypeId} {z : Value} {ad : Option Addr} {cap : Nat} {l : List α} {k : Int} {w : World}
 {d1 d2 : Tmp} {ty1 ty2 : TypeId} {p1 p2 : String} {s x : Operand} {af1 af2 : Array Edge}
end
/-- the handles H lead to the lists l. -/
def LeadsTo (w : World) (H : List SlH) (l : List (List Int)) : Prop := ∀ k : Nat, k < l.length → ∃ xa xc, atD ((none, 0, 0) : SlH) H k = (xa, (atD [] l k).length, xc) ∧ Ints w xa xc (atD [] l k) ∧ (atD [] l k).length ≤ 1048576
theorem LeadsTo.below {w w' : World} {H : List SlH} {l : List (List Int)} (h : LeadsTo w H l) (hb : Below w.heap.size w w') : LeadsTo w' H l := fun k hk => by
 obtain ⟨xa, xc, h1, h2, h3⟩ := h k hk
 exact ⟨xa, xc, h1, h2.below hb, h3⟩
end Go.Proofs.YtddkdgodgflmlaaGreatDoor

namespace Go.Proofs.YtddkdgodgflmlaaGreatDoor
open Go.RowKit
set_option maxHeartbeats 8000000
set_option maxRecDepth 100000
theorem amSame (a a2 : Option Addr) (cap cap2 n : Nat) (l : List Int) (w : World) (h : Ints w a cap l) (h2 : Ints w a2 cap2 l) (hn : l.length = n) (hs : n ≤ 1048576) : Calls Tryz.prog 15 #[.slice a n cap, .slice a2 n cap2] w fun r w' => r = .returned (.bool true) ∧ Below w.heap.size w w' := by
 subst hn
 have := SameInts_any a a2 cap cap2 l l w h h2 hs
 rw [decide_eq_true rfl] at this
 exact this
end Go.Proofs.YtddkdgodgflmlaaGreatDoor

namespace Go.Proofs.YtddkdgodgflmlaaGreatDoor
open Go.RowKit
set_option maxHeartbeats 4000000
set_option maxRecDepth 100000
theorem itP_modO {p : List Int} {s : Int} {d : Nat} (h : Ord p s d) (n : Nat) : itP p s (n % d) = itP p s n := by
 have e : n = n % d + n / d * d := by have := Nat.mod_add_div n d; rw [Nat.mul_comm] at this; omega
 conv => rhs; rw [e, itP_add, itP_mul h.back]
theorem pow_el {p : List Int} {s : Int} {d : Nat} (h : Ord p s d) (j K : Nat) : itP p s ((j + K % d) % d) = itP p (itP p s j) K := by
 rw [itP_modO h, Nat.add_comm, itP_add]
 have e := itP_modO (p := p) (s := s) h (K % d + j)
 rw [← itP_add, ← itP_modO h, Nat.mod_add_mod, itP_modO h, itP_add]
/-- the power of a permutation. -/
def powP (p : List Int) (n : Nat) : List Int := (List.range p.length).map fun (i : Nat) => itP p i n
theorem powP_len (p : List Int) (n : Nat) : (powP p n).length = p.length := by simp [powP]
theorem powP_at {p : List Int} {n : Nat} {x : Int} (h0 : 0 ≤ x) (h1 : x < p.length) : atD 0 (powP p n) x = itP p x n := by
 unfold powP atD
 have hs : x.toNat < p.length := by omega
 rw [List.getD_eq_getElem?_getD, List.getElem?_map, List.getElem?_range hs]
 simp [Int.toNat_of_nonneg h0]
theorem powP_of {p O : List Int} {n : Nat} (hl : O.length = p.length) (h : ∀ j : Nat, j < p.length → atD 0 O j = itP p j n) : O = powP p n := by
 refine List.ext_getElem (by rw [powP_len, hl]) fun i h1 h2 => ?_
 have e1 : atD 0 O i = O[i] := by simp [atD, h1]
 have e2 : atD 0 (powP p n) i = (powP p n)[i] := by simp [atD, h2]
 rw [← e1, ← e2, h i (by omega), powP_at (by omega) (by omega)]
theorem set_done {O : List Int} {x z y v : Int} (h0 : 0 ≤ x) (h1 : x < O.length) (hy : 0 ≤ y) (hz : y = x → z = v) (h : y ≠ x → atD 0 O y = v) : atD 0 (O.set x.toNat z) y = v := by
 rw [atD_set h0 h1 hy]
 by_cases e : y = x
 ·rw [if_pos e]; exact hz e
 ·rw [if_neg e]; exact h e
end Go.Proofs.YtddkdgodgflmlaaGreatDoor

namespace Go.Proofs.YtddkdgodgflmlaaGreatDoor
open Go.RowKit
set_option maxHeartbeats 4000000
set_option maxRecDepth 100000
theorem isP_inI {p : List Int} (hp : IsP p) (hn : p.length ≤ 256) : ∀ x ∈ p, InI x := fun x hx => by
 have := isP_mem hp x hx
 unfold InI
 omega
theorem CheckPermOk_any (a : Option Addr) (cap : Nat) (p : List Int) (w : World) (hS : Ints w a cap p) (hp : IsP p) (hn : p.length ≤ 256) :
  Calls Tryz.prog 59 #[.slice a p.length cap] w fun r w' => r = .returned (.int .i64 0) ∧ Below w.heap.size w w' := by
 have := CheckPerm_any a cap p w hS (isP_inI hp hn)
 rwa [permE_ok hp hn] at this
theorem Cycles_any (a : Option Addr) (cap : Nat) (p : List Int) (w : World) (hS : Ints w a cap p) (hp : IsP p) (hn : p.length ≤ 256) :
  Calls Tryz.prog 21 #[.slice a p.length cap] w fun r w' => ∃ (v : Value) (qs : List (SlH × List Int)), r = .returned (.tuple #[v, .int .i64 0]) ∧ qs.map Prod.snd = cycK p p.length ∧ SL w.heap.size w w' (pOwn cSl 1 22 v (qs.map Prod.fst) :: qs.map inP) := by
 have hcap := hS.le
 have HC := hid (fun w (h : Ints w a cap p) => CheckPermOk_any a cap p w h hp hn)
 have HY := hid (fun w (h : Ints w a cap p) => cycles_any a cap p w h hp (by omega))
 have hS0 := SL.nil w
 go_enter Tryz.func21, Tryz.ntmps21
 go_wp2_with fail
 refine (HC.out _ hS).mono ?_
 rintro e w1 ⟨rfl, b1⟩
 have hS1 := hS0.mono b1
 clear hS0
 go_wp2_with fail
 refine (HY.out _ (hS.below b1)).mono ?_
 rintro e w2 ⟨v, qs, rfl, hqs, hC2⟩
 have hS2 := hS1.call hC2
 rw [List.append_nil] at hS2
 clear hS1 hC2
 go_wp2_with fail
 go_ret2
 exact ⟨v, qs, rfl, hqs, hS2⟩
theorem Power_any (a : Option Addr) (cap : Nat) (p : List Int) (K : Nat) (w : World) (hS : Ints w a cap p) (hp : IsP p) (hn : p.length ≤ 64) (hK : K ≤ 9223372036854775000) :
  Calls Tryz.prog 23 #[.slice a p.length cap, .int .i64 K] w fun r w' => ∃ v, r = .returned (.tuple #[v, .int .i64 0]) ∧ OwnI w.heap.size w' v (powP p K) ∧ Below w.heap.size w w' := by
 have hcap := hS.le
 have hm0 := hS.max
 have CY := fun w h => cycles_any a cap p w h hp (by omega)
 have HCP := hid (fun w (h : Ints w a cap p) => CheckPermOk_any a cap p w h hp (by omega))
 have HC : Hid (∀ X ∈ cycK p p.length, ∃ (s : Nat) (d : Nat), s < p.length ∧ Ord p s d ∧ X.length = d ∧ ∀ j : Nat, j < d → atD 0 X j = itP p s j ∧ 0 ≤ atD 0 X j ∧ atD 0 X j < p.length) := by
  refine hid fun X hX => ?_
  obtain ⟨s, hs, rfl⟩ := cycK_orb hp (Nat.le_refl _) X hX
  obtain ⟨d, hd⟩ := ord_ex hp (i := (s : Int)) (by omega) (by omega)
  refine ⟨s, d, hs, hd, orb_len hd, fun j hj => ?_⟩
  have e : atD 0 (orb p s) j = itP p s j := by rw [orb_eq hd]; simp [atD, hj]
  rw [e]
  exact ⟨rfl, itP_rng hp (by omega) (by omega) j⟩
 have HALL : Hid (∀ j : Nat, j < p.length → (j : Int) ∈ (cycK p p.length).flatten) := hid (cycK_all hp (Nat.le_refl _))
 have hcl : (cycK p p.length).length ≤ 64 := by have := cycK_len p p.length; omega
 obtain ⟨C, hC⟩ : ∃ C, C = cycK p p.length := ⟨_, rfl⟩
 rw [← hC] at HC HALL hcl
 simp only [← hC] at CY
 clear hC
 obtain ⟨N, hN⟩ : ∃ N, N = p.length := ⟨_, rfl⟩
 have HNN := hid hN
 rw [← hN] at HC HALL hn hcap ⊢
 simp only [← hN] at CY HCP
 have HY := hid CY
 clear CY
 clear hN
 have hS0 := (SL.nil w)
 go_enter Tryz.func23, Tryz.ntmps23
 go_wp2_with fail
 refine (HCP.out _ hS).mono ?_
 rintro e wc ⟨rfl, bc⟩
 have hSc := hS0.mono bc
 have hS9 := hS.below bc
 clear hS0
 go_wp2_with ((with_reducible refine wpList_makeL (c := cInt) (N) (0) E_ints cInt1 wU wU (by omega) (by omega) (hSc) ?_); intro ad w1 hS1)
 refine (HY.out _ (hS.below hS1.b)).mono ?_
 rintro e w2 ⟨v2, qs, rfl, hqs, hC2⟩
 have hS2 := (hS1.call hC2).comm
 obtain ⟨a2, c2, rfl, _⟩ := hC2.slice 0 rfl
 rw [List.length_map] at hS2 ⊢
 have hqc : qs.length = C.length := by rw [← hqs, List.length_map]
 have HQ := hid hqs
 have hq64 : qs.length ≤ 64 := by omega
 have HQC := hid hqc
 clear hC2 hS1 hqs hqc
 have hS3 : SL w.heap.size w w2 (pOwn cInt 1 3 (.slice ad N N) (List.replicate N 0) :: pOwn cSl 1 22 (.slice a2 qs.length c2) (qs.map Prod.fst) :: qs.map inP) := hS2
 clear hS2
 go_wp2_with fail
 go_loopw [24, 9, 10, 40, 11, 12] (fun i _ _ _ _ _ wr => ∃ (k : Nat) (O : List Int), k ≤ qs.length ∧ i = .int .i64 k ∧ O.length = N ∧ (∀ j : Nat, j < N → (j : Int) ∈ (C.take k).flatten → atD 0 O j = itP p j K) ∧
  SL w.heap.size w wr (pOwn cInt 1 3 (.slice ad N N) O :: pOwn cSl 1 22 (.slice a2 qs.length c2) (qs.map Prod.fst) :: qs.map inP)) (fun i _ _ _ _ _ _ => qs.length - (intOf i).toNat)
 case atStart => exact ⟨0, List.replicate N 0, by omega, rfl, by simp, fun j _ h => by simp at h, hS3⟩
 case round =>
  clear hS3
  obtain ⟨k, O, hk, rfl, hOl, hdone, hSr⟩ := hrel
  have HD := hid hdone; have HOL := hid hOl
  clear hdone hOl
  by_cases hlt : k < qs.length
  ·have hkC : k < C.length := by rw [← HQC.out]; exact hlt
   obtain ⟨X, hX⟩ : ∃ X, X = C[k] := ⟨_, rfl⟩
   have hXm : X ∈ C := by rw [hX]; exact List.getElem_mem hkC
   obtain ⟨s, d, hs, hd, hXl, hel⟩ := HC.out X hXm
   have hXq : X = (qs[k]).2 := by
    rw [hX]
    have : C[k] = (qs.map Prod.snd)[k]'(by rw [List.length_map]; exact hlt) := by congr 1; exact HQ.out.symm
    rw [this, List.getElem_map]
   have htk : (C.take (k + 1)).flatten = (C.take k).flatten ++ X := by rw [List.take_succ_eq_append_getElem hkC, List.flatten_append, ← hX]; simp
   have HI : Hid (∀ {wr : World} {O : List Int}, SL w.heap.size w wr (pOwn cInt 1 3 (.slice ad N N) O :: pOwn cSl 1 22 (.slice a2 qs.length c2) (qs.map Prod.fst) :: qs.map inP) → Own cInt 1 w.heap.size 3 wr (cSl (qs[k]).1) X) :=
    hid fun h => h.own (k + 2) (by rw [hXq]; simp [hlt, inP])
   obtain ⟨xa, xc, hH⟩ : ∃ xa xc, (qs[k]).1 = (xa, d, xc) := by
    obtain ⟨a3, c3, ex, _⟩ := (HI.out hSr).reps
    obtain ⟨q0, hq0⟩ : ∃ q0, q0 = (qs[k]).1 := ⟨_, rfl⟩
    rw [← hq0] at ex ⊢
    obtain ⟨x1, x2, x3⟩ := q0
    have e3 : x1 = a3 ∧ x2 = X.length ∧ x3 = c3 := by simpa [cSl] using ex
    exact ⟨x1, x3, by rw [e3.2.1, hXl]⟩
   have hRX : Hid (∀ {wr : World} {O : List Int}, SL w.heap.size w wr (pOwn cInt 1 3 (.slice ad N N) O :: pOwn cSl 1 22 (.slice a2 qs.length c2) (qs.map Prod.fst) :: qs.map inP) → Ints wr xa xc X) := hid fun h => by
    have := HI.out h
    rw [hH] at this
    exact reps_of_own this hXl.symm
   have hat : atD ((none, 0, 0) : SlH) (qs.map Prod.fst) k = (xa, d, xc) := by rw [← hH]; simp [atD, hlt]
   have HXH := hid hat; have HXL := hid hXl; have HEL := hid hel; have HTK := hid htk
   obtain ⟨r, hr⟩ : ∃ r : Nat, r = K % d := ⟨_, rfl⟩
   have hd0 : 0 < d := hd.pos
   have hdN : d ≤ 64 := by have := hd.le; rw [← HNN.out] at this; omega
   have hrd : r < d := by rw [hr]; exact Nat.mod_lt _ hd0
   have hm1 : (K : Int).tmod (d : Int) = (r : Int) := by rw [Int.tmod_eq_emod_of_nonneg (by omega), hr]; rfl
   have hm2 : ((r : Int) + (d : Int)).tmod (d : Int) = (r : Int) := by rw [Int.tmod_eq_emod_of_nonneg (by omega), Int.add_emod_right]; exact Int.emod_eq_of_lt (by omega) (by omega)
   have hnz : ¬ (d : Int) = 0 := by omega
   have hnz2 : ¬ d = 0 := by omega
   have hwr : IntKind.i64.wrap (r : Int) = r := IntWalk.i64_in _ (by omega)
   have hwd : IntKind.i64.wrap ((r : Int) + d) = (r : Int) + d := IntWalk.i64_in _ (by omega)
   have HRD := hid hr
   have HOrd := hid hd
   have HHl : Hid ((qs.map Prod.fst).length = qs.length) := hid (List.length_map ..)
   have hkh : (k : Int) < (qs.map Prod.fst).length := by rw [HHl.out]; omega
   have hHr := hSr.rd 1 rfl
   clear hX hXm hs hd hXl hel hXq htk hH hat hr
   go_wp2_with ((with_reducible refine wpList_idxN _ ((none, 0, 0) : SlH) E_sls F_sl cSl1 wU wU (hHr) (HHl.out) oD oD (fun _ => wU) (fun _ => ?_)); rw [HXH.out])
   clear hHr hm1 hm2
   go_loopw [40, 11, 12] (fun i _ _ wr => ∃ (j : Nat) (O : List Int), j ≤ d ∧ i = .int .i64 j ∧ O.length = N ∧ (∀ y : Nat, y < N → ((y : Int) ∈ (C.take k).flatten ∨ ∃ j' : Nat, j' < j ∧ atD 0 X j' = y) → atD 0 O y = itP p y K) ∧
    SL w.heap.size w wr (pOwn cInt 1 3 (.slice ad N N) O :: pOwn cSl 1 22 (.slice a2 qs.length c2) (qs.map Prod.fst) :: qs.map inP)) (fun i _ _ _ => d - (intOf i).toNat)
   case atStart => exact ⟨0, O, by omega, rfl, HOL.out, fun y hy h => by
    rcases h with h | ⟨j', h, _⟩
    ·exact HD.out y hy h
    ·omega, hSr⟩
   case round =>
    clear hSr
    obtain ⟨j, O2, hj, rfl, hOl2, hdone2, hSr⟩ := hrel
    have HOL2 := hid hOl2; have HD2 := hid hdone2
    clear hOl2 hdone2
    by_cases hjd : j < d
    ·obtain ⟨q, hq⟩ : ∃ q : Nat, q = (j + r) % d := ⟨_, rfl⟩
     have hqd : q < d := by rw [hq]; exact Nat.mod_lt _ hd0
     have hm3 : ((j : Int) + (r : Int)).tmod (d : Int) = (q : Int) := by rw [Int.tmod_eq_emod_of_nonneg (by omega), hq]; rfl
     have hwj : IntKind.i64.wrap ((j : Int) + r) = (j : Int) + r := IntWalk.i64_in _ (by omega)
     have hwq : IntKind.i64.wrap (q : Int) = q := IntWalk.i64_in _ (by omega)
     obtain ⟨y, hy⟩ : ∃ y, y = atD 0 X (j : Int) := ⟨_, rfl⟩
     obtain ⟨z, hz⟩ : ∃ z, z = atD 0 X (q : Int) := ⟨_, rfl⟩
     have hye := HEL.out j hjd
     rw [← hy] at hye
     have hzv : z = itP p y K := by
      rw [hz, (HEL.out q hqd).1, hye.1, hq, HRD.out]
      exact pow_el HOrd.out j K
     have hy0 := hye.2.1
     have hy1 : y < N := hye.2.2
     have hyO : y < O2.length := by rw [HOL2.out]; exact hy1
     have HY := hid hy; have HZ := hid hz; have HZV := hid hzv
     have hX5 := hRX.out hSr
     have hjX : (j : Int) < X.length := by rw [HXL.out]; omega
     have hqX : (q : Int) < X.length := by rw [HXL.out]; omega
     clear hq hy hz hye hzv
     go_wp2_with (first | ((with_reducible refine wpList_idxN _ 0 E_ints F_int cInt1 wU wU (hX5) (HXL.out) oD oD (fun _ => wU) (fun _ => ?_)); first | rw [← HY.out] | rw [← HZ.out]) | ((with_reducible refine wpList_storeL (u := z) 0 E_ints cInt1 (sto_int) wU wU (hSr) wU (by first | omega | (simp; done) | (simp; omega)) (by first | omega | (simp; done) | (simp; omega)) (fun _ => wU) (fun _ => wU) ?_); intro _ w7 hS7))
     have hdone3 : ∀ x : Nat, x < N → ((x : Int) ∈ (C.take k).flatten ∨ ∃ j' : Nat, j' < j + 1 ∧ atD 0 X j' = x) → atD 0 (O2.set y.toNat z) x = itP p x K := fun x hx h => by
      refine set_done hy0 hyO (by omega) (fun e => by rw [e]; exact HZV.out) (fun e => HD2.out x hx ?_)
      rcases h with h | ⟨j', h1, h2⟩
      ·exact .inl h
      ·refine .inr ⟨j', ?_, h2⟩
       by_cases e2 : j' = j
       ·exact absurd (by rw [← h2, e2, ← HY.out]) e
       ·omega
     have hOl3 : (O2.set y.toNat z).length = N := by rw [List.length_set]; exact HOL2.out
     have H3 := hid hdone3; have H4 := hid hOl3
     clear hdone3 hOl3
     go_wp2_with fail
     exact ⟨⟨j + 1, O2.set y.toNat z, by omega, by go_num, H4.out, H3.out, hS7⟩, by simp [intOf]; omega⟩
    ·have hjd2 : j = d := by omega
     have hdone3 : ∀ x : Nat, x < N → (x : Int) ∈ (C.take (k + 1)).flatten → atD 0 O2 x = itP p x K := fun x hx h => by
      rw [HTK.out, List.mem_append] at h
      rcases h with h | h
      ·exact HD2.out x hx (.inl h)
      ·obtain ⟨j', hj', e⟩ := List.getElem_of_mem h
       refine HD2.out x hx (.inr ⟨j', by rw [hjd2, ← HXL.out]; exact hj', ?_⟩)
       rw [← e]; simp [atD, hj']
     have H3 := hid hdone3
     clear hdone3 hjd2
     go_wp2_with fail
     exact ⟨⟨k + 1, O2, by omega, by go_num, HOL2.out, H3.out, hSr⟩, by simp [intOf]; omega⟩
  ·have hkn : k = qs.length := by omega
   have hfin : O = powP p K := powP_of (by rw [HOL.out, HNN.out]) fun j hj => HD.out j (by rw [HNN.out]; exact hj) (by rw [hkn, HQC.out, List.take_length]; exact HALL.out j (by rw [HNN.out]; exact hj))
   have HFIN := hid hfin
   clear hfin
   go_wp2_with fail
   go_ret2
   exact ⟨_, rfl, by rw [← HFIN.out]; exact hSr.own 0 rfl, hSr.b⟩
end Go.Proofs.YtddkdgodgflmlaaGreatDoor

namespace Go.Proofs.YtddkdgodgflmlaaGreatDoor
open Go.RowKit
set_option maxHeartbeats 8000000
set_option maxRecDepth 100000
theorem hrow_any (w : World) : Calls Tryz.prog 54 #[] w fun r w' => r = .returned (mV rowM none 0) ∧ Below w.heap.size w w' := by
 have hS := (SL.nil w).box (.cells #[.bool false, .int .i64 2, .int .i64 1, .slice none 0 0] 45)
 go_enter Tryz.func54, Tryz.ntmps54
 go_wp2_with fail
 exact bodyPost_ret (results_cell rfl rfl A_mach kR (hS.blk 0 rfl).1) rfl ⟨rfl, hS.b⟩
def pRow : List Int := [1, 4, 3, 0, 7, 2, 5, 6]
theorem pRow_isP : IsP pRow := by
 have := permM_isP rowM
 rw [rv_perm] at this
 exact this
theorem pRow_cyc : cycK pRow pRow.length = [[0, 1, 4, 7, 6, 5, 2, 3]] := by
 have := rv_cyc
 rw [rv_perm] at this
 exact this
theorem pRow_per : periodN pRow = 8 := by decide +kernel
theorem pRow_S : perS pRow = ⟨#[56]⟩ := by
 have := rv_per
 rw [rv_perm] at this
 exact this
theorem pRow_pow : powP pRow 3 = [7, 6, 1, 4, 5, 0, 3, 2] := by decide +kernel
theorem ht_cyc (a : Option Addr) (c : Nat) (w : World) (h : Ints w a c pRow) : Calls Tryz.prog 21 #[.slice a 8 c] w fun r w' => ∃ v : Option Addr × Nat, r = .returned (.tuple #[.slice v.1 1 v.2, .int .i64 0]) ∧ Below w.heap.size w w' := by
 have h3 := Cycles_any a c pRow w h pRow_isP (by decide)
 rw [pRow_cyc] at h3
 refine h3.mono ?_
 rintro r w' ⟨v, qs, rfl, hq, hS⟩
 have hl : (qs.map Prod.fst).length = 1 := by
  have := congrArg List.length hq
  simpa using this
 obtain ⟨a4, c4, e, _⟩ := hS.slice 0 rfl
 rw [hl] at e
 exact ⟨(a4, c4), by rw [e], hS.b⟩
theorem ht_per (a : Option Addr) (c : Nat) (w : World) (h : Ints w a c pRow) : Calls Tryz.prog 22 #[.slice a 8 c] w fun r w' => r = .returned (.tuple #[.string ⟨#[56]⟩, .int .i64 0]) ∧ Below w.heap.size w w' := by
 have h3 := Period_any a c pRow w h (isP_inI pRow_isP (by decide)) (by decide) (fun _ => by rw [pRow_per]; exact itoaOk_small _ _ (by decide) (by decide))
 rw [pRow_S, permE_ok pRow_isP (by decide)] at h3
 exact h3
theorem ht_pow (a : Option Addr) (c : Nat) (w : World) (h : Ints w a c pRow) : Calls Tryz.prog 23 #[.slice a 8 c, .int .i64 3] w fun r w' => ∃ v, r = .returned (.tuple #[v, .int .i64 0]) ∧ OwnI w.heap.size w' v [7, 6, 1, 4, 5, 0, 3, 2] ∧ Below w.heap.size w w' := by
 have h3 := Power_any a c pRow 3 w h pRow_isP (by decide) (by decide)
 rw [pRow_pow] at h3
 exact h3
theorem ht_stE : stepsE rowM [0] 3 = 0 := by first | rfl | decide | kernel_rfl
theorem ht_st : ([0] : List Int).map (fun s => itM rowM s (3 : Int).toNat) = [7] := by first | rfl | decide | kernel_rfl
theorem ht_steps (w : World) (al : Option Addr) (hL : Ints w al 1 [0]) : Calls Tryz.prog 24 #[mV rowM none 0, .slice al 1 1, .int .i64 3] w fun r w' => ∃ v, r = .returned (.tuple #[v, .int .i64 0]) ∧ OwnI w.heap.size w' v [7] ∧ Below w.heap.size w w' := by
 have h := mSteps_any rowM none 0 al 1 [0] 3 w (ints_nil _) hL (row_ckl al 1 [0])
 rw [ht_stE, if_pos rfl, ht_st] at h
 exact h
theorem hawserTurns_any (w : World) : Calls Tryz.prog 17 #[] w fun r w' => r = .returned (.bool true) ∧ Below w.heap.size w w' := by
 go_enter Tryz.func17, Tryz.ntmps17
 go_wp2_with fail
 refine (hrow_any w).mono ?_
 rintro e w1 ⟨rfl, b1⟩
 go_wp2_with fail
 refine (am_perm w1).mono ?_
 rintro e w2 ⟨v2, rfl, h2, b2⟩
 obtain ⟨a2, c2, rfl, r2, _, _⟩ := h2.reps
 have hb2 := bnext b1 b2
 clear h2
 go_wp2_with fail
 refine (ht_cyc a2 c2 _ r2).mono ?_
 rintro e w3 ⟨⟨x3, y3⟩, rfl, b3⟩
 have r3 := r2.below b3
 have hb3 := bnext hb2 b3
 go_wp2_with fail
 refine (ht_per a2 c2 _ r3).mono ?_
 rintro e w4 ⟨rfl, b4⟩
 have r4 := r3.below b4
 have hb4 := bnext hb3 b4
 go_wp2_with fail
 refine (ht_pow a2 c2 _ r4).mono ?_
 rintro e w5 ⟨v5, rfl, h5, b5⟩
 obtain ⟨a5, c5, rfl, r5, _, _⟩ := h5.reps
 have hb5 := bnext hb4 b5
 clear h5 r4 r3 r2
 go_wp2_with fail
 refine (hrow_any w5).mono ?_
 rintro e w6 ⟨rfl, b6⟩
 have r6 := r5.below b6
 have hb6 := bnext hb5 b6
 clear r5
 go_wp2_with fail
 refine (ht_steps _ _ (reps_of_own (own_newN cIntS [0] 1 rfl (by decide) _ rfl (Nat.le_refl _) rfl) rfl)).mono ?_
 rintro e w7 ⟨v7, rfl, h7, b7⟩
 replace b7 := bnext (bal (Below.refl _ _) _) b7
 have r7 := r6.below b7
 have hb7 := bnext hb6 b7
 obtain ⟨a7, c7, rfl, q7, _, _⟩ := h7.reps
 clear h7 r6
 have z0 : atD 0 ([7, 6, 1, 4, 5, 0, 3, 2] : List Int) (0 : Nat) = 7 := rfl
 go_wp2_with ((first | (with_reducible refine wpList_idxG 0 E_ints F_int cInt1 wU wU (r7) (rfl) oD oD (fun _ => wU) wU (fun _ => wU) (fun _ => ?_)) | (with_reducible refine wpList_idxN _ 0 E_ints F_int cInt1 wU wU (r7) (rfl) oD oD (fun _ => wU) (fun _ => ?_))))
 refine (amSame a7 _ c7 1 1 _ _ (q7.below (bal (Below.refl _ _) _)) (reps_of_own (own_newN cIntS [7] 1 rfl (by decide) _ rfl (Nat.le_refl _) rfl) rfl) rfl (by decide)).mono ?_
 rintro e w8 ⟨rfl, b8⟩
 replace b8 := bnext (bal (Below.refl _ _) _) b8
 go_wp2_with fail
 go_ret
 exact ⟨rfl, bnext hb7 b8⟩
end Go.Proofs.YtddkdgodgflmlaaGreatDoor
