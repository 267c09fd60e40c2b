/- Contracts and plain facts that the claim uses (MaU MaW MaX AwV MbK OnW). Conditions: as each one states. -/
import Derived.RangeFuncNested
import Derived.RangeFuncBound
import Derived.RangeFuncCalls
import Derived.RangeFuncLeaves
import Derived.RangeFuncFrom
import Derived.Shelf.Abstract
import Derived.Shelf.RegionOpen
import Derived.WalkKit
import Derived.OwnWalkIn
import Derived.TacticsInMore
import Derived.LoopNIn
import Derived.LoopIn
import Derived.Test.YtglpfpdomnllkaaGreatProg
import Derived.WalkSpells
import Derived.Maps.AppendAt
import Derived.Deep.Quiet
import Derived.Maps.Own
import Derived.Maps.OwnSet
import Derived.Maps.Views
import Derived.WalkLawsBesides
import Derived.Laws.EntriesVeiled
import Derived.Deep.QuietTactic
import Derived.BigQuiet
import Derived.Shelf.Strings.Trim
import Derived.Shelf.Strings.SlTrimAscii
import Derived.Shelf.Strings.Repeat
import Derived.Shelf.Strings.OnBuilder
import Derived.Shelf.Strconv.Itoa1
import Derived.Shelf.Strconv.Itoa3
import Derived.Shelf.LaysM
import Derived.Ground.Names2Prog
import Derived.Lib.OthersKept
import Derived.Deep.RegionHeld3
import Derived.Deep.AppendLies
import Derived.Deep.RegionHeldLaw
import Derived.Deep.RegionLaw
import Derived.StillTail
import Derived.Laws.Tables
import Derived.IntWalk
import Derived.Laws.CopyOwn
import Derived.BigRegion
import Derived.ChangeAlike
import Derived.Shelf.Bits.Mul64
import Derived.Lib.ItoaLen
import Derived.Lib.ItoaMem
import Derived.Sort.LoopGhostIn
import Derived.Maps.RangeWalk
import Derived.Sort.QuietThIn
import Derived.Maps.Ext
import Derived.Deep.LoopGhost
import Derived.Lib.Split
import Derived.Lib.AtoiAll
import Derived.Lib.AppendIntMem
import Derived.Lib.SmallJoins
import Derived.LaidSub
import Derived.Lib.LaidTab
import Derived.Lib.AtoiErrMem
import Derived.Stop.LaidErr
import Derived.ReadAgain
import Derived.ChangeSlices
import Derived.OpenShut
import Derived.ProofKit
import Derived.Deep.DeepHandedRow
import Derived.Deep.SlicePairs
import Derived.Test.YtglpfpdomnllkaaGreatXt01
import Derived.Test.YtglpfpdomnllkaaGreatXt02
import Derived.Test.YtglpfpdomnllkaaGreatXt03
import Derived.Test.YtglpfpdomnllkaaGreatXt04
import Derived.Test.YtglpfpdomnllkaaGreatXt05
import Derived.Test.YtglpfpdomnllkaaGreatXt06
set_option linter.all false

namespace Go.Proofs.YtglpfpdomnllkaaGreat
open Go.RowKit
set_option maxHeartbeats 8000000
set_option maxRecDepth 100000

theorem cm_f00 (m : MacV) (ad : Option Addr) (cap : Nat) (w : World) (hR : Ints w ad cap m.sw) (hI : -9223372036854775808 ≤ m.gears ∧ m.gears ≤ 9223372036854775807) (hr : m.ring = false) (q : Int) (hq : m.gears.tmod 2 = q) (r1 : 1 ≤ m.gears) (r2 : m.gears ≤ 16) (n1 : decide (m.gears < 1) = false) (n2 : decide (16 < m.gears) = false)  (ht : (m.turn != 1) = false)  (n5 : decide (m.gears < m.sw.length) = false) (h5 : m.sw.length ≤ 16) (HV : Hid (macE m = swGo m none m.sw)) :
  Calls Tryz.prog 111 #[mV m ad cap] w fun r w' => r = .returned (.int .i64 (macE m)) ∧ Below w.heap.size w w' := by
 have hcap := hR.le
 have hmx := hR.max
 have HSh := hid (fun p w => shared_any m ad cap p w)
 unfold mV at HSh
 rw [hr] at HSh
 unfold mV
 rw [hr]
 clear hr
 go_enter Tryz.func111, Tryz.ntmps111
 go_wp2_with fail
 have hS := (SL.nil w).box (.cells #[.bool false, .int .i64 m.gears, .int .i64 m.turn, .slice ad m.sw.length cap] 24)
 have q1 := (hS.blk 0 rfl).1
 refine wp_region_qt 34 kR kR ?_
 simp only [List.take_succ_cons, List.take_zero, List.drop_succ_cons, List.drop_zero]
 repeat (first | ((with_reducible refine wpB_load F_boolM wU wU q1 wU ?_); (try simp only [Act.put, pA, pB, pC])) | ((with_reducible refine wpB_load F_sliceM wU wU q1 wU ?_); (try simp only [Act.put, pA, pB, pC])) | ((with_reducible refine wpB_when wU wU wU ?_); (try simp only [Act.put, pA, pB, pC])) | ((with_reducible refine wpQ_skip wU ?_); (try simp only [Act.put, pA, pB, pC])) |  ((with_reducible refine wpB_load (by first | exact F_int | fail) wU wU (by assumption) wU ?_); (try simp only [Act.put, pA, pB, pC])) | ((with_reducible refine wpB_loadS (n := 2) (us := #[_, _]) (by fail) kR wU wU (by assumption) wU wU ?_); (try simp only [Act.put, pA, pB, pC])) | ((with_reducible refine wpB_loadS (n := 4) (us := #[_, _, _, _]) (by fail) kR wU wU (by assumption) wU wU ?_); (try simp only [Act.put, pA, pB, pC])) | ((refine wpQ_oneG ?_ wU (fun w' => ?_) ?_); rotate_left; (go_simp; rfl); (try simp only [Act.put, pA, pB, pC])))
 refine wpQuiet_nil ?_
 intro w1 hb1
 have hS1 := hS.mono hb1
 have hS2 := hS1.al (.cells #[.int .i64 0, .int .i64 0, .int .i64 0, .int .i64 0] 34)
 have q3 := (hS2.blk 0 rfl).1
 go_wp2_with (first | (go_at_call 55; refine (mfirst_any _ _ [_, _, _, _] _ (reps_newN cIntS [_, _, _, _] 4 rfl (by decide) _ _ (by simp) rfl)).mono ?_; rw [firstE_z, firstE_z, firstE_z, firstE_z, firstE_nil]; rintro e w' ⟨rfl, rfl⟩) | (with_reducible refine wpList_ldB F_sliceM wU wU q3 wU ?_))
 clear q1 q3 hS hS1
 go_loopw [49, 4, 5, 6] (fun i _ _ _ wr => ∃ (k : Nat) (o : Option Int), k ≤ m.sw.length ∧ i = .int .i64 k ∧ (o = if k = 0 then none else some (atD 0 m.sw ((k : Int) - 1))) ∧ swGo m o (m.sw.drop k) = swGo m none m.sw ∧ SL w.heap.size w wr [pBlk w.heap.size (.cells #[.bool false, .int .i64 m.gears, .int .i64 m.turn, .slice ad m.sw.length cap] 24)]) (fun i _ _ _ _ => m.sw.length - (intOf i).toNat)
 case atStart => exact ⟨0, none, by omega, rfl, rfl, rfl, hS2⟩
 case round =>
  clear hS2
  obtain ⟨k, o, hk, rfl, ho, hgo, hSr⟩ := hrel
  have q3 := (hSr.blk 0 rfl).1
  have hRr := hR.below hSr.b
  by_cases hlt : k < m.sw.length
  ·have hst := swGo_step m k hlt o
   rw [hgo] at hst
   obtain ⟨x, hxx⟩ : ∃ x, x = atD 0 m.sw k := ⟨_, rfl⟩
   rw [← hxx] at hst
   have HXX := hid hxx
   have CS := fun w => HSh.out x w
   clear hxx hgo
   cases hsh : sharedM m x
   ·rw [hsh] at CS hst
    rw [if_pos rfl] at hst
    have HC := hid CS; have HST := hid hst
    clear CS hst ho hsh
    by_cases hk0 : k = 0
    ·have hk1 : decide (0 < (k : Int)) = false := by simp [hk0]
     have hk2 : ¬ 0 < (k : Int) := by omega
     clear hk0
     go_wp2_with (first | ((with_reducible refine wpList_idx _ 0 E_ints F_int cInt1 wU wU (hRr) oD oD (fun _ => wU) (fun _ => ?_)); rw [← HXX.out]) | (with_reducible refine wpList_ldS (n := 4) (us := #[.bool false, .int .i64 m.gears, .int .i64 m.turn, .slice ad m.sw.length cap]) A_mach kR wU wU (by assumption) wU wU ?_))
     refine (HC.out _).mono ?_
     rintro e w4 ⟨rfl, b4⟩
     have hS4 := hSr.mono b4
     have q4 := (hS4.blk 0 rfl).1
     go_wp2_with (first | (go_at_call 57; refine (mwhen_any _ _ _).mono ?_; rintro e w' ⟨rfl, rfl⟩) | (go_at_call 55; refine (mfirst_any _ _ [_, _] _ (reps_newN cIntS [_, _] 2 rfl (by decide) _ _ (by simp) rfl)).mono ?_; (first | rw [firstE_head (by decide)] | rw [firstE_z, firstE_head (by decide)] | rw [firstE_z, firstE_z, firstE_nil]); rintro e w' ⟨rfl, rfl⟩))
     go_ret
     exact ⟨by rw [HV.out, HST.out]; rfl, bal hS4.b _⟩
    ·have hk1 : decide (0 < (k : Int)) = true := by simp; omega
     have hk2 : 0 < (k : Int) := by omega
     have hkm : max 0 ((k : Int) - 1) = (k : Int) - 1 := by omega
     have hkl : (k : Int) - 1 < m.sw.length := by omega
     go_wp2_with (first | ((with_reducible refine wpList_idx _ 0 E_ints F_int cInt1 wU wU (hRr) oD oD (fun _ => wU) (fun _ => ?_)); rw [← HXX.out]) | (with_reducible refine wpList_ldS (n := 4) (us := #[.bool false, .int .i64 m.gears, .int .i64 m.turn, .slice ad m.sw.length cap]) A_mach kR wU wU (by assumption) wU wU ?_))
     refine (HC.out _).mono ?_
     rintro e w4 ⟨rfl, b4⟩
     have hS4 := hSr.mono b4
     have q3 := (hS4.blk 0 rfl).1
     have hR4 := hR.below hS4.b
     go_wp2_with (first | (go_at_call 57; refine (mwhen_any _ _ _).mono ?_; rintro e w' ⟨rfl, rfl⟩) | (with_reducible refine wpList_ldB F_sliceM wU wU q3 wU ?_) | (with_reducible refine wpList_idxG 0 E_ints F_int cInt1 wU wU (hR4) (rfl) oD oD (fun _ => wU) wU (fun _ => wU) (fun _ => ?_)) | (go_at_call 55; refine (mfirst_any _ _ [_, _] _ (reps_newN cIntS [_, _] 2 rfl (by decide) _ _ (by simp) rfl)).mono ?_; (first | rw [firstE_head (by decide)] | rw [firstE_z, firstE_head (by decide)] | rw [firstE_z, firstE_z, firstE_nil]); rintro e w' ⟨rfl, rfl⟩))
     all_goals go_ret
     all_goals exact ⟨by rw [HV.out, HST.out]; rfl, bal hS4.b _⟩
   ·rw [hsh] at CS hst
    rw [if_neg (by decide)] at hst
    have HC := hid CS
    clear CS hsh
    by_cases hk0 : k = 0
    ·have hk1 : decide (0 < (k : Int)) = false := by simp [hk0]
     have hk2 : ¬ 0 < (k : Int) := by omega
     rw [ho, if_pos hk0] at hst
     have HST := hid hst; have HK0 := hid hk0
     clear hk0 hst ho
     go_wp2_with (first | ((with_reducible refine wpList_idx _ 0 E_ints F_int cInt1 wU wU (hRr) oD oD (fun _ => wU) (fun _ => ?_)); rw [← HXX.out]) | (with_reducible refine wpList_ldS (n := 4) (us := #[.bool false, .int .i64 m.gears, .int .i64 m.turn, .slice ad m.sw.length cap]) A_mach kR wU wU (by assumption) wU wU ?_))
     refine (HC.out _).mono ?_
     rintro e w4 ⟨rfl, b4⟩
     have hS4 := hSr.mono b4
     go_wp2_with (first | (go_at_call 57; refine (mwhen_any _ _ _).mono ?_; rintro e w' ⟨rfl, rfl⟩) | (go_at_call 55; refine (mfirst_any _ _ [_, _] _ (reps_newN cIntS [_, _] 2 rfl (by decide) _ _ (by simp) rfl)).mono ?_; (first | rw [firstE_head (by decide)] | rw [firstE_z, firstE_head (by decide)] | rw [firstE_z, firstE_z, firstE_nil]); rintro e w' ⟨rfl, rfl⟩))
     exact ⟨⟨k + 1, some x, by omega, by go_num, by rw [if_neg (by omega), HXX.out]; simp, HST.out.symm, hS4.al _⟩, by simp [intOf]; omega⟩
    ·have hk1 : decide (0 < (k : Int)) = true := by simp; omega
     have hk2 : 0 < (k : Int) := by omega
     have hkm : max 0 ((k : Int) - 1) = (k : Int) - 1 := by omega
     have hkl : (k : Int) - 1 < m.sw.length := by omega
     rw [ho, if_neg hk0] at hst
     simp only at hst
     obtain ⟨y, hyy⟩ : ∃ y, y = atD 0 m.sw ((k : Int) - 1) := ⟨_, rfl⟩
     rw [← hyy] at hst
     have HYY := hid hyy
     clear hyy ho
     by_cases hxy : x ≤ y
     ·rw [if_pos hxy] at hst
      have HST := hid hst
      clear hst
      go_wp2_with (first | ((with_reducible refine wpList_idx _ 0 E_ints F_int cInt1 wU wU (hRr) oD oD (fun _ => wU) (fun _ => ?_)); rw [← HXX.out]) | (with_reducible refine wpList_ldS (n := 4) (us := #[.bool false, .int .i64 m.gears, .int .i64 m.turn, .slice ad m.sw.length cap]) A_mach kR wU wU (by assumption) wU wU ?_))
      refine (HC.out _).mono ?_
      rintro e w4 ⟨rfl, b4⟩
      have hS4 := hSr.mono b4
      have q3 := (hS4.blk 0 rfl).1
      have hR4 := hR.below hS4.b
      go_wp2_with (first | (go_at_call 57; refine (mwhen_any _ _ _).mono ?_; rintro e w' ⟨rfl, rfl⟩) | (with_reducible refine wpList_ldB F_sliceM wU wU q3 wU ?_) | ((with_reducible refine wpList_idxG 0 E_ints F_int cInt1 wU wU (hR4) (rfl) oD oD (fun _ => wU) wU (fun _ => wU) (fun _ => ?_)); rw [← HYY.out]) | (go_at_call 55; refine (mfirst_any _ _ [_, _] _ (reps_newN cIntS [_, _] 2 rfl (by decide) _ _ (by simp) rfl)).mono ?_; (first | rw [firstE_head (by decide)] | rw [firstE_z, firstE_head (by decide)] | rw [firstE_z, firstE_z, firstE_nil]); rintro e w' ⟨rfl, rfl⟩))
      go_ret
      exact ⟨by rw [HV.out, HST.out]; rfl, bal hS4.b _⟩
     ·rw [if_neg hxy] at hst
      have HST := hid hst
      clear hst
      go_wp2_with (first | ((with_reducible refine wpList_idx _ 0 E_ints F_int cInt1 wU wU (hRr) oD oD (fun _ => wU) (fun _ => ?_)); rw [← HXX.out]) | (with_reducible refine wpList_ldS (n := 4) (us := #[.bool false, .int .i64 m.gears, .int .i64 m.turn, .slice ad m.sw.length cap]) A_mach kR wU wU (by assumption) wU wU ?_))
      refine (HC.out _).mono ?_
      rintro e w4 ⟨rfl, b4⟩
      have hS4 := hSr.mono b4
      have q3 := (hS4.blk 0 rfl).1
      have hR4 := hR.below hS4.b
      go_wp2_with (first | (go_at_call 57; refine (mwhen_any _ _ _).mono ?_; rintro e w' ⟨rfl, rfl⟩) | (with_reducible refine wpList_ldB F_sliceM wU wU q3 wU ?_) | ((with_reducible refine wpList_idxG 0 E_ints F_int cInt1 wU wU (hR4) (rfl) oD oD (fun _ => wU) wU (fun _ => wU) (fun _ => ?_)); rw [← HYY.out]) | (go_at_call 55; refine (mfirst_any _ _ [_, _] _ (reps_newN cIntS [_, _] 2 rfl (by decide) _ _ (by simp) rfl)).mono ?_; (first | rw [firstE_head (by decide)] | rw [firstE_z, firstE_head (by decide)] | rw [firstE_z, firstE_z, firstE_nil]); rintro e w' ⟨rfl, rfl⟩))
      exact ⟨⟨k + 1, some x, by omega, by go_num, by rw [if_neg (by omega), HXX.out]; simp, HST.out.symm, hS4.al _⟩, by simp [intOf]; omega⟩
  ·have hkl : k = m.sw.length := by omega
   subst hkl
   rw [List.drop_length] at hgo
   have hsw : swGo m none m.sw = 0 := by rw [← hgo]; cases o <;> rfl
   have HSW := hid hsw
   clear hsw hgo ho
   go_wp2_with fail
   go_ret
   exact ⟨by rw [HV.out, HSW.out]; rfl, hSr.b⟩
theorem cm_f01 (m : MacV) (ad : Option Addr) (cap : Nat) (w : World) (hR : Ints w ad cap m.sw) (hI : -9223372036854775808 ≤ m.gears ∧ m.gears ≤ 9223372036854775807) (hr : m.ring = false) (q : Int) (hq : m.gears.tmod 2 = q) (r1 : 1 ≤ m.gears) (r2 : m.gears ≤ 16) (n1 : decide (m.gears < 1) = false) (n2 : decide (16 < m.gears) = false)  (ht : (m.turn != 1) = true) (htn : (m.turn != -1) = false) (n5 : decide (m.gears < m.sw.length) = false) (h5 : m.sw.length ≤ 16) (HV : Hid (macE m = swGo m none m.sw)) :
  Calls Tryz.prog 111 #[mV m ad cap] w fun r w' => r = .returned (.int .i64 (macE m)) ∧ Below w.heap.size w w' := by
 have hcap := hR.le
 have hmx := hR.max
 have HSh := hid (fun p w => shared_any m ad cap p w)
 unfold mV at HSh
 rw [hr] at HSh
 unfold mV
 rw [hr]
 clear hr
 go_enter Tryz.func111, Tryz.ntmps111
 go_wp2_with fail
 have hS := (SL.nil w).box (.cells #[.bool false, .int .i64 m.gears, .int .i64 m.turn, .slice ad m.sw.length cap] 24)
 have q1 := (hS.blk 0 rfl).1
 refine wp_region_qt 34 kR kR ?_
 simp only [List.take_succ_cons, List.take_zero, List.drop_succ_cons, List.drop_zero]
 repeat (first | ((with_reducible refine wpB_load F_boolM wU wU q1 wU ?_); (try simp only [Act.put, pA, pB, pC])) | ((with_reducible refine wpB_load F_sliceM wU wU q1 wU ?_); (try simp only [Act.put, pA, pB, pC])) | ((with_reducible refine wpB_when wU wU wU ?_); (try simp only [Act.put, pA, pB, pC])) | ((with_reducible refine wpQ_skip wU ?_); (try simp only [Act.put, pA, pB, pC])) |  ((with_reducible refine wpB_load (by first | exact F_int | fail) wU wU (by assumption) wU ?_); (try simp only [Act.put, pA, pB, pC])) | ((with_reducible refine wpB_loadS (n := 2) (us := #[_, _]) (by fail) kR wU wU (by assumption) wU wU ?_); (try simp only [Act.put, pA, pB, pC])) | ((with_reducible refine wpB_loadS (n := 4) (us := #[_, _, _, _]) (by fail) kR wU wU (by assumption) wU wU ?_); (try simp only [Act.put, pA, pB, pC])) | ((refine wpQ_oneG ?_ wU (fun w' => ?_) ?_); rotate_left; (go_simp; rfl); (try simp only [Act.put, pA, pB, pC])))
 refine wpQuiet_nil ?_
 intro w1 hb1
 have hS1 := hS.mono hb1
 have hS2 := hS1.al (.cells #[.int .i64 0, .int .i64 0, .int .i64 0, .int .i64 0] 34)
 have q3 := (hS2.blk 0 rfl).1
 go_wp2_with (first | (go_at_call 55; refine (mfirst_any _ _ [_, _, _, _] _ (reps_newN cIntS [_, _, _, _] 4 rfl (by decide) _ _ (by simp) rfl)).mono ?_; rw [firstE_z, firstE_z, firstE_z, firstE_z, firstE_nil]; rintro e w' ⟨rfl, rfl⟩) | (with_reducible refine wpList_ldB F_sliceM wU wU q3 wU ?_))
 clear q1 q3 hS hS1
 go_loopw [49, 4, 5, 6] (fun i _ _ _ wr => ∃ (k : Nat) (o : Option Int), k ≤ m.sw.length ∧ i = .int .i64 k ∧ (o = if k = 0 then none else some (atD 0 m.sw ((k : Int) - 1))) ∧ swGo m o (m.sw.drop k) = swGo m none m.sw ∧ SL w.heap.size w wr [pBlk w.heap.size (.cells #[.bool false, .int .i64 m.gears, .int .i64 m.turn, .slice ad m.sw.length cap] 24)]) (fun i _ _ _ _ => m.sw.length - (intOf i).toNat)
 case atStart => exact ⟨0, none, by omega, rfl, rfl, rfl, hS2⟩
 case round =>
  clear hS2
  obtain ⟨k, o, hk, rfl, ho, hgo, hSr⟩ := hrel
  have q3 := (hSr.blk 0 rfl).1
  have hRr := hR.below hSr.b
  by_cases hlt : k < m.sw.length
  ·have hst := swGo_step m k hlt o
   rw [hgo] at hst
   obtain ⟨x, hxx⟩ : ∃ x, x = atD 0 m.sw k := ⟨_, rfl⟩
   rw [← hxx] at hst
   have HXX := hid hxx
   have CS := fun w => HSh.out x w
   clear hxx hgo
   cases hsh : sharedM m x
   ·rw [hsh] at CS hst
    rw [if_pos rfl] at hst
    have HC := hid CS; have HST := hid hst
    clear CS hst ho hsh
    by_cases hk0 : k = 0
    ·have hk1 : decide (0 < (k : Int)) = false := by simp [hk0]
     have hk2 : ¬ 0 < (k : Int) := by omega
     clear hk0
     go_wp2_with (first | ((with_reducible refine wpList_idx _ 0 E_ints F_int cInt1 wU wU (hRr) oD oD (fun _ => wU) (fun _ => ?_)); rw [← HXX.out]) | (with_reducible refine wpList_ldS (n := 4) (us := #[.bool false, .int .i64 m.gears, .int .i64 m.turn, .slice ad m.sw.length cap]) A_mach kR wU wU (by assumption) wU wU ?_))
     refine (HC.out _).mono ?_
     rintro e w4 ⟨rfl, b4⟩
     have hS4 := hSr.mono b4
     have q4 := (hS4.blk 0 rfl).1
     go_wp2_with (first | (go_at_call 57; refine (mwhen_any _ _ _).mono ?_; rintro e w' ⟨rfl, rfl⟩) | (go_at_call 55; refine (mfirst_any _ _ [_, _] _ (reps_newN cIntS [_, _] 2 rfl (by decide) _ _ (by simp) rfl)).mono ?_; (first | rw [firstE_head (by decide)] | rw [firstE_z, firstE_head (by decide)] | rw [firstE_z, firstE_z, firstE_nil]); rintro e w' ⟨rfl, rfl⟩))
     go_ret
     exact ⟨by rw [HV.out, HST.out]; rfl, bal hS4.b _⟩
    ·have hk1 : decide (0 < (k : Int)) = true := by simp; omega
     have hk2 : 0 < (k : Int) := by omega
     have hkm : max 0 ((k : Int) - 1) = (k : Int) - 1 := by omega
     have hkl : (k : Int) - 1 < m.sw.length := by omega
     go_wp2_with (first | ((with_reducible refine wpList_idx _ 0 E_ints F_int cInt1 wU wU (hRr) oD oD (fun _ => wU) (fun _ => ?_)); rw [← HXX.out]) | (with_reducible refine wpList_ldS (n := 4) (us := #[.bool false, .int .i64 m.gears, .int .i64 m.turn, .slice ad m.sw.length cap]) A_mach kR wU wU (by assumption) wU wU ?_))
     refine (HC.out _).mono ?_
     rintro e w4 ⟨rfl, b4⟩
     have hS4 := hSr.mono b4
     have q3 := (hS4.blk 0 rfl).1
     have hR4 := hR.below hS4.b
     go_wp2_with (first | (go_at_call 57; refine (mwhen_any _ _ _).mono ?_; rintro e w' ⟨rfl, rfl⟩) | (with_reducible refine wpList_ldB F_sliceM wU wU q3 wU ?_) | (with_reducible refine wpList_idxG 0 E_ints F_int cInt1 wU wU (hR4) (rfl) oD oD (fun _ => wU) wU (fun _ => wU) (fun _ => ?_)) | (go_at_call 55; refine (mfirst_any _ _ [_, _] _ (reps_newN cIntS [_, _] 2 rfl (by decide) _ _ (by simp) rfl)).mono ?_; (first | rw [firstE_head (by decide)] | rw [firstE_z, firstE_head (by decide)] | rw [firstE_z, firstE_z, firstE_nil]); rintro e w' ⟨rfl, rfl⟩))
     all_goals go_ret
     all_goals exact ⟨by rw [HV.out, HST.out]; rfl, bal hS4.b _⟩
   ·rw [hsh] at CS hst
    rw [if_neg (by decide)] at hst
    have HC := hid CS
    clear CS hsh
    by_cases hk0 : k = 0
    ·have hk1 : decide (0 < (k : Int)) = false := by simp [hk0]
     have hk2 : ¬ 0 < (k : Int) := by omega
     rw [ho, if_pos hk0] at hst
     have HST := hid hst; have HK0 := hid hk0
     clear hk0 hst ho
     go_wp2_with (first | ((with_reducible refine wpList_idx _ 0 E_ints F_int cInt1 wU wU (hRr) oD oD (fun _ => wU) (fun _ => ?_)); rw [← HXX.out]) | (with_reducible refine wpList_ldS (n := 4) (us := #[.bool false, .int .i64 m.gears, .int .i64 m.turn, .slice ad m.sw.length cap]) A_mach kR wU wU (by assumption) wU wU ?_))
     refine (HC.out _).mono ?_
     rintro e w4 ⟨rfl, b4⟩
     have hS4 := hSr.mono b4
     go_wp2_with (first | (go_at_call 57; refine (mwhen_any _ _ _).mono ?_; rintro e w' ⟨rfl, rfl⟩) | (go_at_call 55; refine (mfirst_any _ _ [_, _] _ (reps_newN cIntS [_, _] 2 rfl (by decide) _ _ (by simp) rfl)).mono ?_; (first | rw [firstE_head (by decide)] | rw [firstE_z, firstE_head (by decide)] | rw [firstE_z, firstE_z, firstE_nil]); rintro e w' ⟨rfl, rfl⟩))
     exact ⟨⟨k + 1, some x, by omega, by go_num, by rw [if_neg (by omega), HXX.out]; simp, HST.out.symm, hS4.al _⟩, by simp [intOf]; omega⟩
    ·have hk1 : decide (0 < (k : Int)) = true := by simp; omega
     have hk2 : 0 < (k : Int) := by omega
     have hkm : max 0 ((k : Int) - 1) = (k : Int) - 1 := by omega
     have hkl : (k : Int) - 1 < m.sw.length := by omega
     rw [ho, if_neg hk0] at hst
     simp only at hst
     obtain ⟨y, hyy⟩ : ∃ y, y = atD 0 m.sw ((k : Int) - 1) := ⟨_, rfl⟩
     rw [← hyy] at hst
     have HYY := hid hyy
     clear hyy ho
     by_cases hxy : x ≤ y
     ·rw [if_pos hxy] at hst
      have HST := hid hst
      clear hst
      go_wp2_with (first | ((with_reducible refine wpList_idx _ 0 E_ints F_int cInt1 wU wU (hRr) oD oD (fun _ => wU) (fun _ => ?_)); rw [← HXX.out]) | (with_reducible refine wpList_ldS (n := 4) (us := #[.bool false, .int .i64 m.gears, .int .i64 m.turn, .slice ad m.sw.length cap]) A_mach kR wU wU (by assumption) wU wU ?_))
      refine (HC.out _).mono ?_
      rintro e w4 ⟨rfl, b4⟩
      have hS4 := hSr.mono b4
      have q3 := (hS4.blk 0 rfl).1
      have hR4 := hR.below hS4.b
      go_wp2_with (first | (go_at_call 57; refine (mwhen_any _ _ _).mono ?_; rintro e w' ⟨rfl, rfl⟩) | (with_reducible refine wpList_ldB F_sliceM wU wU q3 wU ?_) | ((with_reducible refine wpList_idxG 0 E_ints F_int cInt1 wU wU (hR4) (rfl) oD oD (fun _ => wU) wU (fun _ => wU) (fun _ => ?_)); rw [← HYY.out]) | (go_at_call 55; refine (mfirst_any _ _ [_, _] _ (reps_newN cIntS [_, _] 2 rfl (by decide) _ _ (by simp) rfl)).mono ?_; (first | rw [firstE_head (by decide)] | rw [firstE_z, firstE_head (by decide)] | rw [firstE_z, firstE_z, firstE_nil]); rintro e w' ⟨rfl, rfl⟩))
      go_ret
      exact ⟨by rw [HV.out, HST.out]; rfl, bal hS4.b _⟩
     ·rw [if_neg hxy] at hst
      have HST := hid hst
      clear hst
      go_wp2_with (first | ((with_reducible refine wpList_idx _ 0 E_ints F_int cInt1 wU wU (hRr) oD oD (fun _ => wU) (fun _ => ?_)); rw [← HXX.out]) | (with_reducible refine wpList_ldS (n := 4) (us := #[.bool false, .int .i64 m.gears, .int .i64 m.turn, .slice ad m.sw.length cap]) A_mach kR wU wU (by assumption) wU wU ?_))
      refine (HC.out _).mono ?_
      rintro e w4 ⟨rfl, b4⟩
      have hS4 := hSr.mono b4
      have q3 := (hS4.blk 0 rfl).1
      have hR4 := hR.below hS4.b
      go_wp2_with (first | (go_at_call 57; refine (mwhen_any _ _ _).mono ?_; rintro e w' ⟨rfl, rfl⟩) | (with_reducible refine wpList_ldB F_sliceM wU wU q3 wU ?_) | ((with_reducible refine wpList_idxG 0 E_ints F_int cInt1 wU wU (hR4) (rfl) oD oD (fun _ => wU) wU (fun _ => wU) (fun _ => ?_)); rw [← HYY.out]) | (go_at_call 55; refine (mfirst_any _ _ [_, _] _ (reps_newN cIntS [_, _] 2 rfl (by decide) _ _ (by simp) rfl)).mono ?_; (first | rw [firstE_head (by decide)] | rw [firstE_z, firstE_head (by decide)] | rw [firstE_z, firstE_z, firstE_nil]); rintro e w' ⟨rfl, rfl⟩))
      exact ⟨⟨k + 1, some x, by omega, by go_num, by rw [if_neg (by omega), HXX.out]; simp, HST.out.symm, hS4.al _⟩, by simp [intOf]; omega⟩
  ·have hkl : k = m.sw.length := by omega
   subst hkl
   rw [List.drop_length] at hgo
   have hsw : swGo m none m.sw = 0 := by rw [← hgo]; cases o <;> rfl
   have HSW := hid hsw
   clear hsw hgo ho
   go_wp2_with fail
   go_ret
   exact ⟨by rw [HV.out, HSW.out]; rfl, hSr.b⟩
end Go.Proofs.YtglpfpdomnllkaaGreat

namespace Go.Proofs.YtglpfpdomnllkaaGreat
open Go.RowKit
set_option maxHeartbeats 8000000
set_option maxRecDepth 100000

theorem cm_f10 (m : MacV) (ad : Option Addr) (cap : Nat) (w : World) (hR : Ints w ad cap m.sw) (hI : -9223372036854775808 ≤ m.gears ∧ m.gears ≤ 9223372036854775807) (hr : m.ring = true) (q : Int) (hq : m.gears.tmod 2 = q) (r1 : 1 ≤ m.gears) (r2 : m.gears ≤ 16) (n1 : decide (m.gears < 1) = false) (n2 : decide (16 < m.gears) = false) (hqb : (q == 1) = false) (ht : (m.turn != 1) = false)  (n5 : decide (m.gears < m.sw.length) = false) (h5 : m.sw.length ≤ 16) (HV : Hid (macE m = swGo m none m.sw)) :
  Calls Tryz.prog 111 #[mV m ad cap] w fun r w' => r = .returned (.int .i64 (macE m)) ∧ Below w.heap.size w w' := by
 have hcap := hR.le
 have hmx := hR.max
 have HSh := hid (fun p w => shared_any m ad cap p w)
 unfold mV at HSh
 rw [hr] at HSh
 unfold mV
 rw [hr]
 clear hr
 go_enter Tryz.func111, Tryz.ntmps111
 go_wp2_with fail
 have hS := (SL.nil w).box (.cells #[.bool true, .int .i64 m.gears, .int .i64 m.turn, .slice ad m.sw.length cap] 24)
 have q1 := (hS.blk 0 rfl).1
 refine wp_region_qt 34 kR kR ?_
 simp only [List.take_succ_cons, List.take_zero, List.drop_succ_cons, List.drop_zero]
 repeat (first | ((with_reducible refine wpB_load F_boolM wU wU q1 wU ?_); (try simp only [Act.put, pA, pB, pC])) | ((with_reducible refine wpB_load F_sliceM wU wU q1 wU ?_); (try simp only [Act.put, pA, pB, pC])) | ((with_reducible refine wpB_when wU wU wU ?_); (try simp only [Act.put, pA, pB, pC])) | ((with_reducible refine wpQ_skip wU ?_); (try simp only [Act.put, pA, pB, pC])) |  ((with_reducible refine wpB_load (by first | exact F_int | fail) wU wU (by assumption) wU ?_); (try simp only [Act.put, pA, pB, pC])) | ((with_reducible refine wpB_loadS (n := 2) (us := #[_, _]) (by fail) kR wU wU (by assumption) wU wU ?_); (try simp only [Act.put, pA, pB, pC])) | ((with_reducible refine wpB_loadS (n := 4) (us := #[_, _, _, _]) (by fail) kR wU wU (by assumption) wU wU ?_); (try simp only [Act.put, pA, pB, pC])) | ((refine wpQ_oneG ?_ wU (fun w' => ?_) ?_); rotate_left; (go_simp; rfl); (try simp only [Act.put, pA, pB, pC])))
 refine wpQuiet_nil ?_
 intro w1 hb1
 have hS1 := hS.mono hb1
 have hS2 := hS1.al (.cells #[.int .i64 0, .int .i64 0, .int .i64 0, .int .i64 0] 34)
 have q3 := (hS2.blk 0 rfl).1
 go_wp2_with (first | (go_at_call 55; refine (mfirst_any _ _ [_, _, _, _] _ (reps_newN cIntS [_, _, _, _] 4 rfl (by decide) _ _ (by simp) rfl)).mono ?_; rw [firstE_z, firstE_z, firstE_z, firstE_z, firstE_nil]; rintro e w' ⟨rfl, rfl⟩) | (with_reducible refine wpList_ldB F_sliceM wU wU q3 wU ?_))
 clear q1 q3 hS hS1
 go_loopw [49, 4, 5, 6] (fun i _ _ _ wr => ∃ (k : Nat) (o : Option Int), k ≤ m.sw.length ∧ i = .int .i64 k ∧ (o = if k = 0 then none else some (atD 0 m.sw ((k : Int) - 1))) ∧ swGo m o (m.sw.drop k) = swGo m none m.sw ∧ SL w.heap.size w wr [pBlk w.heap.size (.cells #[.bool true, .int .i64 m.gears, .int .i64 m.turn, .slice ad m.sw.length cap] 24)]) (fun i _ _ _ _ => m.sw.length - (intOf i).toNat)
 case atStart => exact ⟨0, none, by omega, rfl, rfl, rfl, hS2⟩
 case round =>
  clear hS2
  obtain ⟨k, o, hk, rfl, ho, hgo, hSr⟩ := hrel
  have q3 := (hSr.blk 0 rfl).1
  have hRr := hR.below hSr.b
  by_cases hlt : k < m.sw.length
  ·have hst := swGo_step m k hlt o
   rw [hgo] at hst
   obtain ⟨x, hxx⟩ : ∃ x, x = atD 0 m.sw k := ⟨_, rfl⟩
   rw [← hxx] at hst
   have HXX := hid hxx
   have CS := fun w => HSh.out x w
   clear hxx hgo
   cases hsh : sharedM m x
   ·rw [hsh] at CS hst
    rw [if_pos rfl] at hst
    have HC := hid CS; have HST := hid hst
    clear CS hst ho hsh
    by_cases hk0 : k = 0
    ·have hk1 : decide (0 < (k : Int)) = false := by simp [hk0]
     have hk2 : ¬ 0 < (k : Int) := by omega
     clear hk0
     go_wp2_with (first | ((with_reducible refine wpList_idx _ 0 E_ints F_int cInt1 wU wU (hRr) oD oD (fun _ => wU) (fun _ => ?_)); rw [← HXX.out]) | (with_reducible refine wpList_ldS (n := 4) (us := #[.bool true, .int .i64 m.gears, .int .i64 m.turn, .slice ad m.sw.length cap]) A_mach kR wU wU (by assumption) wU wU ?_))
     refine (HC.out _).mono ?_
     rintro e w4 ⟨rfl, b4⟩
     have hS4 := hSr.mono b4
     have q4 := (hS4.blk 0 rfl).1
     go_wp2_with (first | (go_at_call 57; refine (mwhen_any _ _ _).mono ?_; rintro e w' ⟨rfl, rfl⟩) | (go_at_call 55; refine (mfirst_any _ _ [_, _] _ (reps_newN cIntS [_, _] 2 rfl (by decide) _ _ (by simp) rfl)).mono ?_; (first | rw [firstE_head (by decide)] | rw [firstE_z, firstE_head (by decide)] | rw [firstE_z, firstE_z, firstE_nil]); rintro e w' ⟨rfl, rfl⟩))
     go_ret
     exact ⟨by rw [HV.out, HST.out]; rfl, bal hS4.b _⟩
    ·have hk1 : decide (0 < (k : Int)) = true := by simp; omega
     have hk2 : 0 < (k : Int) := by omega
     have hkm : max 0 ((k : Int) - 1) = (k : Int) - 1 := by omega
     have hkl : (k : Int) - 1 < m.sw.length := by omega
     go_wp2_with (first | ((with_reducible refine wpList_idx _ 0 E_ints F_int cInt1 wU wU (hRr) oD oD (fun _ => wU) (fun _ => ?_)); rw [← HXX.out]) | (with_reducible refine wpList_ldS (n := 4) (us := #[.bool true, .int .i64 m.gears, .int .i64 m.turn, .slice ad m.sw.length cap]) A_mach kR wU wU (by assumption) wU wU ?_))
     refine (HC.out _).mono ?_
     rintro e w4 ⟨rfl, b4⟩
     have hS4 := hSr.mono b4
     have q3 := (hS4.blk 0 rfl).1
     have hR4 := hR.below hS4.b
     go_wp2_with (first | (go_at_call 57; refine (mwhen_any _ _ _).mono ?_; rintro e w' ⟨rfl, rfl⟩) | (with_reducible refine wpList_ldB F_sliceM wU wU q3 wU ?_) | (with_reducible refine wpList_idxG 0 E_ints F_int cInt1 wU wU (hR4) (rfl) oD oD (fun _ => wU) wU (fun _ => wU) (fun _ => ?_)) | (go_at_call 55; refine (mfirst_any _ _ [_, _] _ (reps_newN cIntS [_, _] 2 rfl (by decide) _ _ (by simp) rfl)).mono ?_; (first | rw [firstE_head (by decide)] | rw [firstE_z, firstE_head (by decide)] | rw [firstE_z, firstE_z, firstE_nil]); rintro e w' ⟨rfl, rfl⟩))
     all_goals go_ret
     all_goals exact ⟨by rw [HV.out, HST.out]; rfl, bal hS4.b _⟩
   ·rw [hsh] at CS hst
    rw [if_neg (by decide)] at hst
    have HC := hid CS
    clear CS hsh
    by_cases hk0 : k = 0
    ·have hk1 : decide (0 < (k : Int)) = false := by simp [hk0]
     have hk2 : ¬ 0 < (k : Int) := by omega
     rw [ho, if_pos hk0] at hst
     have HST := hid hst; have HK0 := hid hk0
     clear hk0 hst ho
     go_wp2_with (first | ((with_reducible refine wpList_idx _ 0 E_ints F_int cInt1 wU wU (hRr) oD oD (fun _ => wU) (fun _ => ?_)); rw [← HXX.out]) | (with_reducible refine wpList_ldS (n := 4) (us := #[.bool true, .int .i64 m.gears, .int .i64 m.turn, .slice ad m.sw.length cap]) A_mach kR wU wU (by assumption) wU wU ?_))
     refine (HC.out _).mono ?_
     rintro e w4 ⟨rfl, b4⟩
     have hS4 := hSr.mono b4
     go_wp2_with (first | (go_at_call 57; refine (mwhen_any _ _ _).mono ?_; rintro e w' ⟨rfl, rfl⟩) | (go_at_call 55; refine (mfirst_any _ _ [_, _] _ (reps_newN cIntS [_, _] 2 rfl (by decide) _ _ (by simp) rfl)).mono ?_; (first | rw [firstE_head (by decide)] | rw [firstE_z, firstE_head (by decide)] | rw [firstE_z, firstE_z, firstE_nil]); rintro e w' ⟨rfl, rfl⟩))
     exact ⟨⟨k + 1, some x, by omega, by go_num, by rw [if_neg (by omega), HXX.out]; simp, HST.out.symm, hS4.al _⟩, by simp [intOf]; omega⟩
    ·have hk1 : decide (0 < (k : Int)) = true := by simp; omega
     have hk2 : 0 < (k : Int) := by omega
     have hkm : max 0 ((k : Int) - 1) = (k : Int) - 1 := by omega
     have hkl : (k : Int) - 1 < m.sw.length := by omega
     rw [ho, if_neg hk0] at hst
     simp only at hst
     obtain ⟨y, hyy⟩ : ∃ y, y = atD 0 m.sw ((k : Int) - 1) := ⟨_, rfl⟩
     rw [← hyy] at hst
     have HYY := hid hyy
     clear hyy ho
     by_cases hxy : x ≤ y
     ·rw [if_pos hxy] at hst
      have HST := hid hst
      clear hst
      go_wp2_with (first | ((with_reducible refine wpList_idx _ 0 E_ints F_int cInt1 wU wU (hRr) oD oD (fun _ => wU) (fun _ => ?_)); rw [← HXX.out]) | (with_reducible refine wpList_ldS (n := 4) (us := #[.bool true, .int .i64 m.gears, .int .i64 m.turn, .slice ad m.sw.length cap]) A_mach kR wU wU (by assumption) wU wU ?_))
      refine (HC.out _).mono ?_
      rintro e w4 ⟨rfl, b4⟩
      have hS4 := hSr.mono b4
      have q3 := (hS4.blk 0 rfl).1
      have hR4 := hR.below hS4.b
      go_wp2_with (first | (go_at_call 57; refine (mwhen_any _ _ _).mono ?_; rintro e w' ⟨rfl, rfl⟩) | (with_reducible refine wpList_ldB F_sliceM wU wU q3 wU ?_) | ((with_reducible refine wpList_idxG 0 E_ints F_int cInt1 wU wU (hR4) (rfl) oD oD (fun _ => wU) wU (fun _ => wU) (fun _ => ?_)); rw [← HYY.out]) | (go_at_call 55; refine (mfirst_any _ _ [_, _] _ (reps_newN cIntS [_, _] 2 rfl (by decide) _ _ (by simp) rfl)).mono ?_; (first | rw [firstE_head (by decide)] | rw [firstE_z, firstE_head (by decide)] | rw [firstE_z, firstE_z, firstE_nil]); rintro e w' ⟨rfl, rfl⟩))
      go_ret
      exact ⟨by rw [HV.out, HST.out]; rfl, bal hS4.b _⟩
     ·rw [if_neg hxy] at hst
      have HST := hid hst
      clear hst
      go_wp2_with (first | ((with_reducible refine wpList_idx _ 0 E_ints F_int cInt1 wU wU (hRr) oD oD (fun _ => wU) (fun _ => ?_)); rw [← HXX.out]) | (with_reducible refine wpList_ldS (n := 4) (us := #[.bool true, .int .i64 m.gears, .int .i64 m.turn, .slice ad m.sw.length cap]) A_mach kR wU wU (by assumption) wU wU ?_))
      refine (HC.out _).mono ?_
      rintro e w4 ⟨rfl, b4⟩
      have hS4 := hSr.mono b4
      have q3 := (hS4.blk 0 rfl).1
      have hR4 := hR.below hS4.b
      go_wp2_with (first | (go_at_call 57; refine (mwhen_any _ _ _).mono ?_; rintro e w' ⟨rfl, rfl⟩) | (with_reducible refine wpList_ldB F_sliceM wU wU q3 wU ?_) | ((with_reducible refine wpList_idxG 0 E_ints F_int cInt1 wU wU (hR4) (rfl) oD oD (fun _ => wU) wU (fun _ => wU) (fun _ => ?_)); rw [← HYY.out]) | (go_at_call 55; refine (mfirst_any _ _ [_, _] _ (reps_newN cIntS [_, _] 2 rfl (by decide) _ _ (by simp) rfl)).mono ?_; (first | rw [firstE_head (by decide)] | rw [firstE_z, firstE_head (by decide)] | rw [firstE_z, firstE_z, firstE_nil]); rintro e w' ⟨rfl, rfl⟩))
      exact ⟨⟨k + 1, some x, by omega, by go_num, by rw [if_neg (by omega), HXX.out]; simp, HST.out.symm, hS4.al _⟩, by simp [intOf]; omega⟩
  ·have hkl : k = m.sw.length := by omega
   subst hkl
   rw [List.drop_length] at hgo
   have hsw : swGo m none m.sw = 0 := by rw [← hgo]; cases o <;> rfl
   have HSW := hid hsw
   clear hsw hgo ho
   go_wp2_with fail
   go_ret
   exact ⟨by rw [HV.out, HSW.out]; rfl, hSr.b⟩
theorem cm_f11 (m : MacV) (ad : Option Addr) (cap : Nat) (w : World) (hR : Ints w ad cap m.sw) (hI : -9223372036854775808 ≤ m.gears ∧ m.gears ≤ 9223372036854775807) (hr : m.ring = true) (q : Int) (hq : m.gears.tmod 2 = q) (r1 : 1 ≤ m.gears) (r2 : m.gears ≤ 16) (n1 : decide (m.gears < 1) = false) (n2 : decide (16 < m.gears) = false) (hqb : (q == 1) = false) (ht : (m.turn != 1) = true) (htn : (m.turn != -1) = false) (n5 : decide (m.gears < m.sw.length) = false) (h5 : m.sw.length ≤ 16) (HV : Hid (macE m = swGo m none m.sw)) :
  Calls Tryz.prog 111 #[mV m ad cap] w fun r w' => r = .returned (.int .i64 (macE m)) ∧ Below w.heap.size w w' := by
 have hcap := hR.le
 have hmx := hR.max
 have HSh := hid (fun p w => shared_any m ad cap p w)
 unfold mV at HSh
 rw [hr] at HSh
 unfold mV
 rw [hr]
 clear hr
 go_enter Tryz.func111, Tryz.ntmps111
 go_wp2_with fail
 have hS := (SL.nil w).box (.cells #[.bool true, .int .i64 m.gears, .int .i64 m.turn, .slice ad m.sw.length cap] 24)
 have q1 := (hS.blk 0 rfl).1
 refine wp_region_qt 34 kR kR ?_
 simp only [List.take_succ_cons, List.take_zero, List.drop_succ_cons, List.drop_zero]
 repeat (first | ((with_reducible refine wpB_load F_boolM wU wU q1 wU ?_); (try simp only [Act.put, pA, pB, pC])) | ((with_reducible refine wpB_load F_sliceM wU wU q1 wU ?_); (try simp only [Act.put, pA, pB, pC])) | ((with_reducible refine wpB_when wU wU wU ?_); (try simp only [Act.put, pA, pB, pC])) | ((with_reducible refine wpQ_skip wU ?_); (try simp only [Act.put, pA, pB, pC])) |  ((with_reducible refine wpB_load (by first | exact F_int | fail) wU wU (by assumption) wU ?_); (try simp only [Act.put, pA, pB, pC])) | ((with_reducible refine wpB_loadS (n := 2) (us := #[_, _]) (by fail) kR wU wU (by assumption) wU wU ?_); (try simp only [Act.put, pA, pB, pC])) | ((with_reducible refine wpB_loadS (n := 4) (us := #[_, _, _, _]) (by fail) kR wU wU (by assumption) wU wU ?_); (try simp only [Act.put, pA, pB, pC])) | ((refine wpQ_oneG ?_ wU (fun w' => ?_) ?_); rotate_left; (go_simp; rfl); (try simp only [Act.put, pA, pB, pC])))
 refine wpQuiet_nil ?_
 intro w1 hb1
 have hS1 := hS.mono hb1
 have hS2 := hS1.al (.cells #[.int .i64 0, .int .i64 0, .int .i64 0, .int .i64 0] 34)
 have q3 := (hS2.blk 0 rfl).1
 go_wp2_with (first | (go_at_call 55; refine (mfirst_any _ _ [_, _, _, _] _ (reps_newN cIntS [_, _, _, _] 4 rfl (by decide) _ _ (by simp) rfl)).mono ?_; rw [firstE_z, firstE_z, firstE_z, firstE_z, firstE_nil]; rintro e w' ⟨rfl, rfl⟩) | (with_reducible refine wpList_ldB F_sliceM wU wU q3 wU ?_))
 clear q1 q3 hS hS1
 go_loopw [49, 4, 5, 6] (fun i _ _ _ wr => ∃ (k : Nat) (o : Option Int), k ≤ m.sw.length ∧ i = .int .i64 k ∧ (o = if k = 0 then none else some (atD 0 m.sw ((k : Int) - 1))) ∧ swGo m o (m.sw.drop k) = swGo m none m.sw ∧ SL w.heap.size w wr [pBlk w.heap.size (.cells #[.bool true, .int .i64 m.gears, .int .i64 m.turn, .slice ad m.sw.length cap] 24)]) (fun i _ _ _ _ => m.sw.length - (intOf i).toNat)
 case atStart => exact ⟨0, none, by omega, rfl, rfl, rfl, hS2⟩
 case round =>
  clear hS2
  obtain ⟨k, o, hk, rfl, ho, hgo, hSr⟩ := hrel
  have q3 := (hSr.blk 0 rfl).1
  have hRr := hR.below hSr.b
  by_cases hlt : k < m.sw.length
  ·have hst := swGo_step m k hlt o
   rw [hgo] at hst
   obtain ⟨x, hxx⟩ : ∃ x, x = atD 0 m.sw k := ⟨_, rfl⟩
   rw [← hxx] at hst
   have HXX := hid hxx
   have CS := fun w => HSh.out x w
   clear hxx hgo
   cases hsh : sharedM m x
   ·rw [hsh] at CS hst
    rw [if_pos rfl] at hst
    have HC := hid CS; have HST := hid hst
    clear CS hst ho hsh
    by_cases hk0 : k = 0
    ·have hk1 : decide (0 < (k : Int)) = false := by simp [hk0]
     have hk2 : ¬ 0 < (k : Int) := by omega
     clear hk0
     go_wp2_with (first | ((with_reducible refine wpList_idx _ 0 E_ints F_int cInt1 wU wU (hRr) oD oD (fun _ => wU) (fun _ => ?_)); rw [← HXX.out]) | (with_reducible refine wpList_ldS (n := 4) (us := #[.bool true, .int .i64 m.gears, .int .i64 m.turn, .slice ad m.sw.length cap]) A_mach kR wU wU (by assumption) wU wU ?_))
     refine (HC.out _).mono ?_
     rintro e w4 ⟨rfl, b4⟩
     have hS4 := hSr.mono b4
     have q4 := (hS4.blk 0 rfl).1
     go_wp2_with (first | (go_at_call 57; refine (mwhen_any _ _ _).mono ?_; rintro e w' ⟨rfl, rfl⟩) | (go_at_call 55; refine (mfirst_any _ _ [_, _] _ (reps_newN cIntS [_, _] 2 rfl (by decide) _ _ (by simp) rfl)).mono ?_; (first | rw [firstE_head (by decide)] | rw [firstE_z, firstE_head (by decide)] | rw [firstE_z, firstE_z, firstE_nil]); rintro e w' ⟨rfl, rfl⟩))
     go_ret
     exact ⟨by rw [HV.out, HST.out]; rfl, bal hS4.b _⟩
    ·have hk1 : decide (0 < (k : Int)) = true := by simp; omega
     have hk2 : 0 < (k : Int) := by omega
     have hkm : max 0 ((k : Int) - 1) = (k : Int) - 1 := by omega
     have hkl : (k : Int) - 1 < m.sw.length := by omega
     go_wp2_with (first | ((with_reducible refine wpList_idx _ 0 E_ints F_int cInt1 wU wU (hRr) oD oD (fun _ => wU) (fun _ => ?_)); rw [← HXX.out]) | (with_reducible refine wpList_ldS (n := 4) (us := #[.bool true, .int .i64 m.gears, .int .i64 m.turn, .slice ad m.sw.length cap]) A_mach kR wU wU (by assumption) wU wU ?_))
     refine (HC.out _).mono ?_
     rintro e w4 ⟨rfl, b4⟩
     have hS4 := hSr.mono b4
     have q3 := (hS4.blk 0 rfl).1
     have hR4 := hR.below hS4.b
     go_wp2_with (first | (go_at_call 57; refine (mwhen_any _ _ _).mono ?_; rintro e w' ⟨rfl, rfl⟩) | (with_reducible refine wpList_ldB F_sliceM wU wU q3 wU ?_) | (with_reducible refine wpList_idxG 0 E_ints F_int cInt1 wU wU (hR4) (rfl) oD oD (fun _ => wU) wU (fun _ => wU) (fun _ => ?_)) | (go_at_call 55; refine (mfirst_any _ _ [_, _] _ (reps_newN cIntS [_, _] 2 rfl (by decide) _ _ (by simp) rfl)).mono ?_; (first | rw [firstE_head (by decide)] | rw [firstE_z, firstE_head (by decide)] | rw [firstE_z, firstE_z, firstE_nil]); rintro e w' ⟨rfl, rfl⟩))
     all_goals go_ret
     all_goals exact ⟨by rw [HV.out, HST.out]; rfl, bal hS4.b _⟩
   ·rw [hsh] at CS hst
    rw [if_neg (by decide)] at hst
    have HC := hid CS
    clear CS hsh
    by_cases hk0 : k = 0
    ·have hk1 : decide (0 < (k : Int)) = false := by simp [hk0]
     have hk2 : ¬ 0 < (k : Int) := by omega
     rw [ho, if_pos hk0] at hst
     have HST := hid hst; have HK0 := hid hk0
     clear hk0 hst ho
     go_wp2_with (first | ((with_reducible refine wpList_idx _ 0 E_ints F_int cInt1 wU wU (hRr) oD oD (fun _ => wU) (fun _ => ?_)); rw [← HXX.out]) | (with_reducible refine wpList_ldS (n := 4) (us := #[.bool true, .int .i64 m.gears, .int .i64 m.turn, .slice ad m.sw.length cap]) A_mach kR wU wU (by assumption) wU wU ?_))
     refine (HC.out _).mono ?_
     rintro e w4 ⟨rfl, b4⟩
     have hS4 := hSr.mono b4
     go_wp2_with (first | (go_at_call 57; refine (mwhen_any _ _ _).mono ?_; rintro e w' ⟨rfl, rfl⟩) | (go_at_call 55; refine (mfirst_any _ _ [_, _] _ (reps_newN cIntS [_, _] 2 rfl (by decide) _ _ (by simp) rfl)).mono ?_; (first | rw [firstE_head (by decide)] | rw [firstE_z, firstE_head (by decide)] | rw [firstE_z, firstE_z, firstE_nil]); rintro e w' ⟨rfl, rfl⟩))
     exact ⟨⟨k + 1, some x, by omega, by go_num, by rw [if_neg (by omega), HXX.out]; simp, HST.out.symm, hS4.al _⟩, by simp [intOf]; omega⟩
    ·have hk1 : decide (0 < (k : Int)) = true := by simp; omega
     have hk2 : 0 < (k : Int) := by omega
     have hkm : max 0 ((k : Int) - 1) = (k : Int) - 1 := by omega
     have hkl : (k : Int) - 1 < m.sw.length := by omega
     rw [ho, if_neg hk0] at hst
     simp only at hst
     obtain ⟨y, hyy⟩ : ∃ y, y = atD 0 m.sw ((k : Int) - 1) := ⟨_, rfl⟩
     rw [← hyy] at hst
     have HYY := hid hyy
     clear hyy ho
     by_cases hxy : x ≤ y
     ·rw [if_pos hxy] at hst
      have HST := hid hst
      clear hst
      go_wp2_with (first | ((with_reducible refine wpList_idx _ 0 E_ints F_int cInt1 wU wU (hRr) oD oD (fun _ => wU) (fun _ => ?_)); rw [← HXX.out]) | (with_reducible refine wpList_ldS (n := 4) (us := #[.bool true, .int .i64 m.gears, .int .i64 m.turn, .slice ad m.sw.length cap]) A_mach kR wU wU (by assumption) wU wU ?_))
      refine (HC.out _).mono ?_
      rintro e w4 ⟨rfl, b4⟩
      have hS4 := hSr.mono b4
      have q3 := (hS4.blk 0 rfl).1
      have hR4 := hR.below hS4.b
      go_wp2_with (first | (go_at_call 57; refine (mwhen_any _ _ _).mono ?_; rintro e w' ⟨rfl, rfl⟩) | (with_reducible refine wpList_ldB F_sliceM wU wU q3 wU ?_) | ((with_reducible refine wpList_idxG 0 E_ints F_int cInt1 wU wU (hR4) (rfl) oD oD (fun _ => wU) wU (fun _ => wU) (fun _ => ?_)); rw [← HYY.out]) | (go_at_call 55; refine (mfirst_any _ _ [_, _] _ (reps_newN cIntS [_, _] 2 rfl (by decide) _ _ (by simp) rfl)).mono ?_; (first | rw [firstE_head (by decide)] | rw [firstE_z, firstE_head (by decide)] | rw [firstE_z, firstE_z, firstE_nil]); rintro e w' ⟨rfl, rfl⟩))
      go_ret
      exact ⟨by rw [HV.out, HST.out]; rfl, bal hS4.b _⟩
     ·rw [if_neg hxy] at hst
      have HST := hid hst
      clear hst
      go_wp2_with (first | ((with_reducible refine wpList_idx _ 0 E_ints F_int cInt1 wU wU (hRr) oD oD (fun _ => wU) (fun _ => ?_)); rw [← HXX.out]) | (with_reducible refine wpList_ldS (n := 4) (us := #[.bool true, .int .i64 m.gears, .int .i64 m.turn, .slice ad m.sw.length cap]) A_mach kR wU wU (by assumption) wU wU ?_))
      refine (HC.out _).mono ?_
      rintro e w4 ⟨rfl, b4⟩
      have hS4 := hSr.mono b4
      have q3 := (hS4.blk 0 rfl).1
      have hR4 := hR.below hS4.b
      go_wp2_with (first | (go_at_call 57; refine (mwhen_any _ _ _).mono ?_; rintro e w' ⟨rfl, rfl⟩) | (with_reducible refine wpList_ldB F_sliceM wU wU q3 wU ?_) | ((with_reducible refine wpList_idxG 0 E_ints F_int cInt1 wU wU (hR4) (rfl) oD oD (fun _ => wU) wU (fun _ => wU) (fun _ => ?_)); rw [← HYY.out]) | (go_at_call 55; refine (mfirst_any _ _ [_, _] _ (reps_newN cIntS [_, _] 2 rfl (by decide) _ _ (by simp) rfl)).mono ?_; (first | rw [firstE_head (by decide)] | rw [firstE_z, firstE_head (by decide)] | rw [firstE_z, firstE_z, firstE_nil]); rintro e w' ⟨rfl, rfl⟩))
      exact ⟨⟨k + 1, some x, by omega, by go_num, by rw [if_neg (by omega), HXX.out]; simp, HST.out.symm, hS4.al _⟩, by simp [intOf]; omega⟩
  ·have hkl : k = m.sw.length := by omega
   subst hkl
   rw [List.drop_length] at hgo
   have hsw : swGo m none m.sw = 0 := by rw [← hgo]; cases o <;> rfl
   have HSW := hid hsw
   clear hsw hgo ho
   go_wp2_with fail
   go_ret
   exact ⟨by rw [HV.out, HSW.out]; rfl, hSr.b⟩
end Go.Proofs.YtglpfpdomnllkaaGreat

namespace Go.Proofs.YtglpfpdomnllkaaGreat
open Go.RowKit
set_option maxHeartbeats 8000000
set_option maxRecDepth 100000

theorem CheckMachine_any (m : MacV) (ad : Option Addr) (cap : Nat) (w : World) (hR : Ints w ad cap m.sw) (hI0 : InI m.gears) :
  Calls Tryz.prog 111 #[mV m ad cap] w fun r w' => r = .returned (.int .i64 (macE m)) ∧ Below w.heap.size w w' := by
 obtain ⟨q, hq⟩ : ∃ q, m.gears.tmod 2 = q := ⟨_, rfl⟩
 have hI : -9223372036854775808 ≤ m.gears ∧ m.gears ≤ 9223372036854775807 := by unfold InI at hI0; omega
 by_cases c1 : m.gears < 1
 ·have hv : macE m = 3 := by unfold macE; rw [if_pos (.inl c1)]
  have hd1 : decide (m.gears < 1) = true := decide_eq_true c1
  cases hr : m.ring <;> cases ht : (m.turn != 1)
  ·exact cm_a00 m ad cap w hR hI hr q hq hd1 ht (hid hv)
  ·exact cm_a01 m ad cap w hR hI hr q hq hd1 ht (hid hv)
  ·exact cm_a10 m ad cap w hR hI hr q hq hd1 ht (hid hv)
  ·exact cm_a11 m ad cap w hR hI hr q hq hd1 ht (hid hv)
 have n1 : decide (m.gears < 1) = false := decide_eq_false c1
 by_cases c2 : 16 < m.gears
 ·have hv : macE m = 3 := by unfold macE; rw [if_pos (.inr c2)]
  have hd2 : decide (16 < m.gears) = true := decide_eq_true c2
  cases hr : m.ring <;> cases ht : (m.turn != 1)
  ·exact cm_b00 m ad cap w hR hI hr q hq n1 hd2 ht (hid hv)
  ·exact cm_b01 m ad cap w hR hI hr q hq n1 hd2 ht (hid hv)
  ·exact cm_b10 m ad cap w hR hI hr q hq n1 hd2 ht (hid hv)
  ·exact cm_b11 m ad cap w hR hI hr q hq n1 hd2 ht (hid hv)
 have n2 : decide (16 < m.gears) = false := decide_eq_false c2
 have r1 : 1 ≤ m.gears := by omega
 have r2 : m.gears ≤ 16 := by omega
 have hq2 : q = m.gears % 2 := by rw [← hq, Int.tmod_eq_emod_of_nonneg (by omega)]
 by_cases c3 : m.ring = true ∧ q = 1
 ·have hv : macE m = 17 := by unfold macE; rw [if_neg (by omega), if_pos ⟨c3.1, by rw [← hq2]; exact c3.2⟩]
  have hr := c3.1
  have hq1 : (q == 1) = true := by simpa using c3.2
  cases ht : (m.turn != 1)
  ·exact cm_c0 m ad cap w hR hI hr q hq r1 r2 n1 n2 hq1 ht (hid hv)
  ·exact cm_c1 m ad cap w hR hI hr q hq r1 r2 n1 n2 hq1 ht (hid hv)
 have m3 : ¬ (m.ring = true ∧ m.gears % 2 = 1) := fun h => c3 ⟨h.1, by rw [hq2]; exact h.2⟩
 have hqb : m.ring = true → (q == 1) = false := fun hr => by
  have : ¬ q = 1 := fun e => c3 ⟨hr, e⟩
  simpa using this
 by_cases c4 : m.turn ≠ 1 ∧ m.turn ≠ -1
 ·have hv : macE m = 3 := by unfold macE; rw [if_neg (by omega), if_neg m3, if_pos c4]
  have ht : (m.turn != 1) = true := by simpa using c4.1
  have htn : (m.turn != -1) = true := by simpa using c4.2
  cases hr : m.ring
  ·exact cm_d0 m ad cap w hR hI hr q hq r1 r2 n1 n2 ht htn (hid hv)
  ·exact cm_d1 m ad cap w hR hI hr q hq r1 r2 n1 n2 (hqb hr) ht htn (hid hv)
 have htn : (m.turn != 1) = true → (m.turn != -1) = false := fun h => by
  have t1 : m.turn ≠ 1 := by simpa using h
  have t2 : m.turn = -1 := by
   by_cases t2 : m.turn = -1
   ·exact t2
   ·exact absurd ⟨t1, t2⟩ c4
  simp [t2]
 by_cases c5 : m.gears < m.sw.length
 ·have hv : macE m = 5 := by unfold macE; rw [if_neg (by omega), if_neg m3, if_neg c4, if_pos c5]
  have hd5 : decide (m.gears < m.sw.length) = true := decide_eq_true c5
  cases hr : m.ring <;> cases ht : (m.turn != 1)
  ·exact cm_e00 m ad cap w hR hI hr q hq r1 r2 n1 n2 ht hd5 (hid hv)
  ·exact cm_e01 m ad cap w hR hI hr q hq r1 r2 n1 n2 ht (htn ht) hd5 (hid hv)
  ·exact cm_e10 m ad cap w hR hI hr q hq r1 r2 n1 n2 (hqb hr) ht hd5 (hid hv)
  ·exact cm_e11 m ad cap w hR hI hr q hq r1 r2 n1 n2 (hqb hr) ht (htn ht) hd5 (hid hv)
 have n5 : decide (m.gears < m.sw.length) = false := decide_eq_false c5
 have h5 : m.sw.length ≤ 16 := by omega
 have hv : macE m = swGo m none m.sw := by unfold macE; rw [if_neg (by omega), if_neg m3, if_neg c4, if_neg c5]
 cases hr : m.ring <;> cases ht : (m.turn != 1)
 ·exact cm_f00 m ad cap w hR hI hr q hq r1 r2 n1 n2 ht n5 h5 (hid hv)
 ·exact cm_f01 m ad cap w hR hI hr q hq r1 r2 n1 n2 ht (htn ht) n5 h5 (hid hv)
 ·exact cm_f10 m ad cap w hR hI hr q hq r1 r2 n1 n2 (hqb hr) ht n5 h5 (hid hv)
 ·exact cm_f11 m ad cap w hR hI hr q hq r1 r2 n1 n2 (hqb hr) ht (htn ht) n5 h5 (hid hv)
end Go.Proofs.YtglpfpdomnllkaaGreat

namespace Go.Proofs.YtglpfpdomnllkaaGreat
open Go.RowKit
set_option maxRecDepth 100000
/-- a meeting found by a run of 64 ticks (enough for every machine of at most 16 carriers' slots: allC_of checks it). -/
def meetC (m : MacV) (a b : Int) : Option (Nat × Int) := (meetF m a b 64 0 a b).getD none
def InS (m : MacV) (x : Int) : Prop := 0 ≤ x ∧ x < 4 * m.gears
def AllC (m : MacV) : Prop := ∀ a b, InS m a → InS m b → meetM m a b = meetC m a b
theorem allC_of {m : MacV} {n : Nat} (hn : 4 * m.gears = (n : Int)) (h : (List.range n).all (fun a => (List.range n).all fun b => (meetF m a b 64 0 a b).isSome) = true) : AllC m := by
 intro a b ⟨a0, a1⟩ ⟨b0, b1⟩
 have ha : ((a.toNat : Nat) : Int) = a := Int.toNat_of_nonneg a0
 have hb : ((b.toNat : Nat) : Int) = b := Int.toNat_of_nonneg b0
 have h1 := List.all_eq_true.1 h a.toNat (List.mem_range.2 (by omega))
 have h2 := List.all_eq_true.1 h1 b.toNat (List.mem_range.2 (by omega))
 rw [ha, hb] at h2
 cases hf : meetF m a b 64 0 a b with
 | none => rw [hf] at h2; cases h2
 | some r => rw [meetF_ok a0 a1 b0 b1 hf]; unfold meetC; rw [hf]; rfl
def firstC (m : MacV) (l : List Int) : Option (Nat × Int) := (pairsTo l l.length).foldl (fun b p => bestS b (meetC m p.1 p.2)) none
theorem foldl_same {α β : Type} {f g : β → α → β} : ∀ {l : List α} (_ : ∀ b, ∀ a ∈ l, f b a = g b a) (b : β), l.foldl f b = l.foldl g b
 | [], _, _ => rfl
 | a :: r, h, b => by
   rw [List.foldl_cons, List.foldl_cons, h b a (by simp)]
   exact foldl_same (fun b x hx => h b x (List.mem_cons_of_mem _ hx)) _
theorem firstC_ok {m : MacV} (hC : AllC m) {l : List Int} (hl : ∀ x ∈ l, InS m x) : firstM m l = firstC m l := by
 refine foldl_same (fun b p hp => ?_) none
 obtain ⟨i, j, hji, hi, rfl⟩ := (pairsTo_mem (l := l) (Nat.le_refl _)).1 hp
 have e : ∀ k, k < l.length → InS m (atD 0 l k) := fun k hk => hl _ (by simp [atD, hk])
 show bestS b (meetM m (atD 0 l i) (atD 0 l j)) = bestS b (meetC m (atD 0 l i) (atD 0 l j))
 rw [hC _ _ (e i hi) (e j (by omega))]
end Go.Proofs.YtglpfpdomnllkaaGreat

namespace Go.Proofs.YtglpfpdomnllkaaGreat
open Go.RowKit
set_option maxHeartbeats 8000000
set_option maxRecDepth 100000

theorem RetMac.none {W w' : World} {e : Int} {r : Ending} {S : SL W.heap.size W w' []} (h : r = .returned (.tuple #[.agg #[.bool false, .int .i64 0, .int .i64 0, .slice none 0 0], .int .i64 e])) : RetMac W noM e r w' :=
 ⟨.none, 0, h, (S.nilS (α := Int) (c := cInt) (sz := 1) (e := 3) cIntS)⟩

section
variable {ops : Array Oper} {rest : List Oper} {a : Act} {Q : Exit → Act → World → Prop} {w0 w : World} {L : List Pc} {B : Nat} {ty : TypeId} {p : String} {af : Array Edge}
end

end Go.Proofs.YtglpfpdomnllkaaGreat

namespace Go.Proofs.YtglpfpdomnllkaaGreat
open Go.RowKit
set_option maxHeartbeats 8000000
set_option maxRecDepth 100000
def oneM : MacV := ⟨false, 1, 1, []⟩
theorem one_all : AllC oneM := allC_of (n := 4) rfl (by decide)
theorem one_in {l : List Int} (h : (l.all fun x => decide (0 ≤ x ∧ x < 4)) = true) : ∀ x ∈ l, InS oneM x := fun x hx => by
 have := List.all_eq_true.1 h x hx
 simp only [decide_eq_true_eq] at this
 exact ⟨this.1, by have : (4 : Int) * oneM.gears = 4 := rfl
                   omega⟩
theorem one_first {l : List Int} (h : (l.all fun x => decide (0 ≤ x ∧ x < 4)) = true) : firstM oneM l = firstC oneM l := firstC_ok one_all (one_in h)
theorem ov_wrdE : wrdE oneM [0, 2] 4 = 0 := by unfold wrdE weaveE meetsM; rw [one_first rfl]; rfl
theorem ov_wrd : wrdL oneM [0, 2] 4 = [-1, -1] := by first | rfl | decide | kernel_rfl
theorem one_ck : ChkM oneM none 0 := fun w h => CheckMachine_any oneM none 0 w h (by show InI (1 : Int); unfold InI; omega)
theorem one_word (w : World) (al : Option Addr) (hL : Ints w al 2 [0, 2]) : Calls Tryz.prog 13 #[mV oneM none 0, .slice al 2 2, .int .i64 4] w fun r w' => ∃ v, r = .returned (.tuple #[v, .int .i64 0]) ∧ OwnI w.heap.size w' v [-1, -1] ∧ Below w.heap.size w w' := by
 have h := mWord_any oneM none 0 al 2 [0, 2] 4 w (ints_nil _) hL (CheckLoad_any oneM none 0 al 2 [0, 2] one_ck)
 rw [ov_wrdE, if_pos rfl, ov_wrd] at h
 exact h
end Go.Proofs.YtglpfpdomnllkaaGreat
