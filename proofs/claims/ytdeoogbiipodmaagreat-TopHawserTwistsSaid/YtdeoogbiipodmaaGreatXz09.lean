/- Contracts and plain facts that the claim uses (MaU MaW MaX AwV MbK AwN WoP ShP PtB BsG RfC BsI BxM OnW). Conditions: as each one states. -/
import Derived.RangeFuncNested
import Derived.RangeFuncBound
import Derived.RangeFuncCalls
import Derived.RangeFuncLeaves
import Derived.RangeFuncFrom
import Derived.Shelf.Abstract
import Derived.Shelf.RegionOpen
import Derived.WalkKit
import Derived.OwnWalkIn
import Derived.TacticsInMore
import Derived.LoopNIn
import Derived.LoopIn
import Derived.Test.YtdeoogbiipodmaaGreatProg
import Derived.WalkSpells
import Derived.Maps.AppendAt
import Derived.Deep.Quiet
import Derived.Maps.Own
import Derived.Maps.OwnSet
import Derived.Maps.Views
import Derived.WalkLawsBesides
import Derived.Laws.EntriesVeiled
import Derived.Deep.QuietTactic
import Derived.BigQuiet
import Derived.Shelf.Strings.Trim
import Derived.Shelf.Strings.SlTrimAscii
import Derived.Shelf.Strings.Repeat
import Derived.Shelf.Strings.OnBuilder
import Derived.Shelf.Strconv.Itoa1
import Derived.Shelf.Strconv.Itoa3
import Derived.Shelf.LaysM
import Derived.Ground.Names2Prog
import Derived.Lib.OthersKept
import Derived.Deep.RegionHeld3
import Derived.Deep.AppendLies
import Derived.Deep.RegionHeldLaw
import Derived.Deep.RegionLaw
import Derived.StillTail
import Derived.Laws.Tables
import Derived.IntWalk
import Derived.Laws.CopyOwn
import Derived.BigRegion
import Derived.ChangeAlike
import Derived.Shelf.Bits.Mul64
import Derived.Lib.ItoaLen
import Derived.Lib.ItoaMem
import Derived.Sort.LoopGhostIn
import Derived.Maps.RangeWalk
import Derived.Sort.QuietThIn
import Derived.Maps.Ext
import Derived.Deep.LoopGhost
import Derived.Lib.Split
import Derived.Lib.AtoiAll
import Derived.Lib.AppendIntMem
import Derived.Lib.SmallJoins
import Derived.LaidSub
import Derived.Lib.LaidTab
import Derived.Lib.AtoiErrMem
import Derived.Stop.LaidErr
import Derived.ReadAgain
import Derived.ChangeSlices
import Derived.OpenShut
import Derived.ProofKit
import Derived.Deep.DeepHandedRow
import Derived.Deep.SlicePairs
import Derived.Laws.IdiomStrings
import Derived.Test.YtdeoogbiipodmaaGreatXz01
import Derived.Test.YtdeoogbiipodmaaGreatXz02
import Derived.Test.YtdeoogbiipodmaaGreatXz03
import Derived.Test.YtdeoogbiipodmaaGreatXz04
import Derived.Test.YtdeoogbiipodmaaGreatXz05
import Derived.Test.YtdeoogbiipodmaaGreatXz06
import Derived.Test.YtdeoogbiipodmaaGreatXz07
import Derived.Test.YtdeoogbiipodmaaGreatXz08
set_option linter.all false

namespace Go.Proofs.YtdeoogbiipodmaaGreat
open Go.RowKit
set_option maxHeartbeats 8000000
set_option maxRecDepth 100000

theorem cm_f00 (m : MacV) (ad : Option Addr) (cap : Nat) (w : World) (hR : Ints w ad cap m.sw) (hI : -9223372036854775808 ≤ m.gears ∧ m.gears ≤ 9223372036854775807) (hr : m.ring = false) (q : Int) (hq : m.gears.tmod 2 = q) (r1 : 1 ≤ m.gears) (r2 : m.gears ≤ 16) (n1 : decide (m.gears < 1) = false) (n2 : decide (16 < m.gears) = false)  (ht : (m.turn != 1) = false)  (n5 : decide (m.gears < m.sw.length) = false) (h5 : m.sw.length ≤ 16) (HV : Hid (macE m = swGo m none m.sw)) :
  Calls Tryz.prog 84 #[mV m ad cap] w fun r w' => r = .returned (.int .i64 (macE m)) ∧ Below w.heap.size w w' := by
 have hcap := hR.le
 have hmx := hR.max
 have HSh := hid (fun p w => shared_any m ad cap p w)
 unfold mV at HSh
 rw [hr] at HSh
 unfold mV
 rw [hr]
 clear hr
 go_enter Tryz.func84, Tryz.ntmps84
 go_wp2_with fail
 have hS := (SL.nil w).box (.cells #[.bool false, .int .i64 m.gears, .int .i64 m.turn, .slice ad m.sw.length cap] 24)
 have q1 := (hS.blk 0 rfl).1
 refine wp_region_qt 34 kR kR ?_
 simp only [List.take_succ_cons, List.take_zero, List.drop_succ_cons, List.drop_zero]
 repeat (first | ((with_reducible refine wpB_load F_boolM wU wU q1 wU ?_); (try simp only [Act.put, pA, pB, pC])) | ((with_reducible refine wpB_load F_sliceM wU wU q1 wU ?_); (try simp only [Act.put, pA, pB, pC])) | ((with_reducible refine wpB_when wU wU wU ?_); (try simp only [Act.put, pA, pB, pC])) | ((with_reducible refine wpQ_skip wU ?_); (try simp only [Act.put, pA, pB, pC])) |  ((with_reducible refine wpB_load (by first | exact F_int | fail) wU wU (by assumption) wU ?_); (try simp only [Act.put, pA, pB, pC])) | ((with_reducible refine wpB_loadS (n := 2) (us := #[_, _]) (by fail) kR wU wU (by assumption) wU wU ?_); (try simp only [Act.put, pA, pB, pC])) | ((with_reducible refine wpB_loadS (n := 4) (us := #[_, _, _, _]) (by fail) kR wU wU (by assumption) wU wU ?_); (try simp only [Act.put, pA, pB, pC])) | ((refine wpQ_oneG ?_ wU (fun w' => ?_) ?_); rotate_left; (go_simp; rfl); (try simp only [Act.put, pA, pB, pC])))
 refine wpQuiet_nil ?_
 intro w1 hb1
 have hS1 := hS.mono hb1
 have hS2 := hS1.al (.cells #[.int .i64 0, .int .i64 0, .int .i64 0, .int .i64 0] 28)
 have q3 := (hS2.blk 0 rfl).1
 go_wp2_with (first | (go_at_call 51; refine (mfirst_any _ _ [_, _, _, _] _ (reps_newN cIntS [_, _, _, _] 4 rfl (by decide) _ _ (by simp) rfl)).mono ?_; rw [firstE_z, firstE_z, firstE_z, firstE_z, firstE_nil]; rintro e w' ⟨rfl, rfl⟩) | (with_reducible refine wpList_ldB F_sliceM wU wU q3 wU ?_))
 clear q1 q3 hS hS1
 go_loopw [49, 4, 5, 6] (fun i _ _ _ wr => ∃ (k : Nat) (o : Option Int), k ≤ m.sw.length ∧ i = .int .i64 k ∧ (o = if k = 0 then none else some (atD 0 m.sw ((k : Int) - 1))) ∧ swGo m o (m.sw.drop k) = swGo m none m.sw ∧ SL w.heap.size w wr [pBlk w.heap.size (.cells #[.bool false, .int .i64 m.gears, .int .i64 m.turn, .slice ad m.sw.length cap] 24)]) (fun i _ _ _ _ => m.sw.length - (intOf i).toNat)
 case atStart => exact ⟨0, none, by omega, rfl, rfl, rfl, hS2⟩
 case round =>
  clear hS2
  obtain ⟨k, o, hk, rfl, ho, hgo, hSr⟩ := hrel
  have q3 := (hSr.blk 0 rfl).1
  have hRr := hR.below hSr.b
  by_cases hlt : k < m.sw.length
  ·have hst := swGo_step m k hlt o
   rw [hgo] at hst
   obtain ⟨x, hxx⟩ : ∃ x, x = atD 0 m.sw k := ⟨_, rfl⟩
   rw [← hxx] at hst
   have HXX := hid hxx
   have CS := fun w => HSh.out x w
   clear hxx hgo
   cases hsh : sharedM m x
   ·rw [hsh] at CS hst
    rw [if_pos rfl] at hst
    have HC := hid CS; have HST := hid hst
    clear CS hst ho hsh
    by_cases hk0 : k = 0
    ·have hk1 : decide (0 < (k : Int)) = false := by simp [hk0]
     have hk2 : ¬ 0 < (k : Int) := by omega
     clear hk0
     go_wp2_with (first | ((with_reducible refine wpList_idx _ 0 E_ints F_int cInt1 wU wU (hRr) oD oD (fun _ => wU) (fun _ => ?_)); rw [← HXX.out]) | (with_reducible refine wpList_ldS (n := 4) (us := #[.bool false, .int .i64 m.gears, .int .i64 m.turn, .slice ad m.sw.length cap]) A_mach kR wU wU (by assumption) wU wU ?_))
     refine (HC.out _).mono ?_
     rintro e w4 ⟨rfl, b4⟩
     have hS4 := hSr.mono b4
     have q4 := (hS4.blk 0 rfl).1
     go_wp2_with (first | (go_at_call 53; refine (mwhen_any _ _ _).mono ?_; rintro e w' ⟨rfl, rfl⟩) | (go_at_call 51; refine (mfirst_any _ _ [_, _] _ (reps_newN cIntS [_, _] 2 rfl (by decide) _ _ (by simp) rfl)).mono ?_; (first | rw [firstE_head (by decide)] | rw [firstE_z, firstE_head (by decide)] | rw [firstE_z, firstE_z, firstE_nil]); rintro e w' ⟨rfl, rfl⟩))
     go_ret
     exact ⟨by rw [HV.out, HST.out]; rfl, bal hS4.b _⟩
    ·have hk1 : decide (0 < (k : Int)) = true := by simp; omega
     have hk2 : 0 < (k : Int) := by omega
     have hkm : max 0 ((k : Int) - 1) = (k : Int) - 1 := by omega
     have hkl : (k : Int) - 1 < m.sw.length := by omega
     go_wp2_with (first | ((with_reducible refine wpList_idx _ 0 E_ints F_int cInt1 wU wU (hRr) oD oD (fun _ => wU) (fun _ => ?_)); rw [← HXX.out]) | (with_reducible refine wpList_ldS (n := 4) (us := #[.bool false, .int .i64 m.gears, .int .i64 m.turn, .slice ad m.sw.length cap]) A_mach kR wU wU (by assumption) wU wU ?_))
     refine (HC.out _).mono ?_
     rintro e w4 ⟨rfl, b4⟩
     have hS4 := hSr.mono b4
     have q3 := (hS4.blk 0 rfl).1
     have hR4 := hR.below hS4.b
     go_wp2_with (first | (go_at_call 53; refine (mwhen_any _ _ _).mono ?_; rintro e w' ⟨rfl, rfl⟩) | (with_reducible refine wpList_ldB F_sliceM wU wU q3 wU ?_) | (with_reducible refine wpList_idxG 0 E_ints F_int cInt1 wU wU (hR4) (rfl) oD oD (fun _ => wU) wU (fun _ => wU) (fun _ => ?_)) | (go_at_call 51; refine (mfirst_any _ _ [_, _] _ (reps_newN cIntS [_, _] 2 rfl (by decide) _ _ (by simp) rfl)).mono ?_; (first | rw [firstE_head (by decide)] | rw [firstE_z, firstE_head (by decide)] | rw [firstE_z, firstE_z, firstE_nil]); rintro e w' ⟨rfl, rfl⟩))
     all_goals go_ret
     all_goals exact ⟨by rw [HV.out, HST.out]; rfl, bal hS4.b _⟩
   ·rw [hsh] at CS hst
    rw [if_neg (by decide)] at hst
    have HC := hid CS
    clear CS hsh
    by_cases hk0 : k = 0
    ·have hk1 : decide (0 < (k : Int)) = false := by simp [hk0]
     have hk2 : ¬ 0 < (k : Int) := by omega
     rw [ho, if_pos hk0] at hst
     have HST := hid hst; have HK0 := hid hk0
     clear hk0 hst ho
     go_wp2_with (first | ((with_reducible refine wpList_idx _ 0 E_ints F_int cInt1 wU wU (hRr) oD oD (fun _ => wU) (fun _ => ?_)); rw [← HXX.out]) | (with_reducible refine wpList_ldS (n := 4) (us := #[.bool false, .int .i64 m.gears, .int .i64 m.turn, .slice ad m.sw.length cap]) A_mach kR wU wU (by assumption) wU wU ?_))
     refine (HC.out _).mono ?_
     rintro e w4 ⟨rfl, b4⟩
     have hS4 := hSr.mono b4
     go_wp2_with (first | (go_at_call 53; refine (mwhen_any _ _ _).mono ?_; rintro e w' ⟨rfl, rfl⟩) | (go_at_call 51; refine (mfirst_any _ _ [_, _] _ (reps_newN cIntS [_, _] 2 rfl (by decide) _ _ (by simp) rfl)).mono ?_; (first | rw [firstE_head (by decide)] | rw [firstE_z, firstE_head (by decide)] | rw [firstE_z, firstE_z, firstE_nil]); rintro e w' ⟨rfl, rfl⟩))
     exact ⟨⟨k + 1, some x, by omega, by go_num, by rw [if_neg (by omega), HXX.out]; simp, HST.out.symm, hS4.al _⟩, by simp [intOf]; omega⟩
    ·have hk1 : decide (0 < (k : Int)) = true := by simp; omega
     have hk2 : 0 < (k : Int) := by omega
     have hkm : max 0 ((k : Int) - 1) = (k : Int) - 1 := by omega
     have hkl : (k : Int) - 1 < m.sw.length := by omega
     rw [ho, if_neg hk0] at hst
     simp only at hst
     obtain ⟨y, hyy⟩ : ∃ y, y = atD 0 m.sw ((k : Int) - 1) := ⟨_, rfl⟩
     rw [← hyy] at hst
     have HYY := hid hyy
     clear hyy ho
     by_cases hxy : x ≤ y
     ·rw [if_pos hxy] at hst
      have HST := hid hst
      clear hst
      go_wp2_with (first | ((with_reducible refine wpList_idx _ 0 E_ints F_int cInt1 wU wU (hRr) oD oD (fun _ => wU) (fun _ => ?_)); rw [← HXX.out]) | (with_reducible refine wpList_ldS (n := 4) (us := #[.bool false, .int .i64 m.gears, .int .i64 m.turn, .slice ad m.sw.length cap]) A_mach kR wU wU (by assumption) wU wU ?_))
      refine (HC.out _).mono ?_
      rintro e w4 ⟨rfl, b4⟩
      have hS4 := hSr.mono b4
      have q3 := (hS4.blk 0 rfl).1
      have hR4 := hR.below hS4.b
      go_wp2_with (first | (go_at_call 53; refine (mwhen_any _ _ _).mono ?_; rintro e w' ⟨rfl, rfl⟩) | (with_reducible refine wpList_ldB F_sliceM wU wU q3 wU ?_) | ((with_reducible refine wpList_idxG 0 E_ints F_int cInt1 wU wU (hR4) (rfl) oD oD (fun _ => wU) wU (fun _ => wU) (fun _ => ?_)); rw [← HYY.out]) | (go_at_call 51; refine (mfirst_any _ _ [_, _] _ (reps_newN cIntS [_, _] 2 rfl (by decide) _ _ (by simp) rfl)).mono ?_; (first | rw [firstE_head (by decide)] | rw [firstE_z, firstE_head (by decide)] | rw [firstE_z, firstE_z, firstE_nil]); rintro e w' ⟨rfl, rfl⟩))
      go_ret
      exact ⟨by rw [HV.out, HST.out]; rfl, bal hS4.b _⟩
     ·rw [if_neg hxy] at hst
      have HST := hid hst
      clear hst
      go_wp2_with (first | ((with_reducible refine wpList_idx _ 0 E_ints F_int cInt1 wU wU (hRr) oD oD (fun _ => wU) (fun _ => ?_)); rw [← HXX.out]) | (with_reducible refine wpList_ldS (n := 4) (us := #[.bool false, .int .i64 m.gears, .int .i64 m.turn, .slice ad m.sw.length cap]) A_mach kR wU wU (by assumption) wU wU ?_))
      refine (HC.out _).mono ?_
      rintro e w4 ⟨rfl, b4⟩
      have hS4 := hSr.mono b4
      have q3 := (hS4.blk 0 rfl).1
      have hR4 := hR.below hS4.b
      go_wp2_with (first | (go_at_call 53; refine (mwhen_any _ _ _).mono ?_; rintro e w' ⟨rfl, rfl⟩) | (with_reducible refine wpList_ldB F_sliceM wU wU q3 wU ?_) | ((with_reducible refine wpList_idxG 0 E_ints F_int cInt1 wU wU (hR4) (rfl) oD oD (fun _ => wU) wU (fun _ => wU) (fun _ => ?_)); rw [← HYY.out]) | (go_at_call 51; refine (mfirst_any _ _ [_, _] _ (reps_newN cIntS [_, _] 2 rfl (by decide) _ _ (by simp) rfl)).mono ?_; (first | rw [firstE_head (by decide)] | rw [firstE_z, firstE_head (by decide)] | rw [firstE_z, firstE_z, firstE_nil]); rintro e w' ⟨rfl, rfl⟩))
      exact ⟨⟨k + 1, some x, by omega, by go_num, by rw [if_neg (by omega), HXX.out]; simp, HST.out.symm, hS4.al _⟩, by simp [intOf]; omega⟩
  ·have hkl : k = m.sw.length := by omega
   subst hkl
   rw [List.drop_length] at hgo
   have hsw : swGo m none m.sw = 0 := by rw [← hgo]; cases o <;> rfl
   have HSW := hid hsw
   clear hsw hgo ho
   go_wp2_with fail
   go_ret
   exact ⟨by rw [HV.out, HSW.out]; rfl, hSr.b⟩
theorem cm_f01 (m : MacV) (ad : Option Addr) (cap : Nat) (w : World) (hR : Ints w ad cap m.sw) (hI : -9223372036854775808 ≤ m.gears ∧ m.gears ≤ 9223372036854775807) (hr : m.ring = false) (q : Int) (hq : m.gears.tmod 2 = q) (r1 : 1 ≤ m.gears) (r2 : m.gears ≤ 16) (n1 : decide (m.gears < 1) = false) (n2 : decide (16 < m.gears) = false)  (ht : (m.turn != 1) = true) (htn : (m.turn != -1) = false) (n5 : decide (m.gears < m.sw.length) = false) (h5 : m.sw.length ≤ 16) (HV : Hid (macE m = swGo m none m.sw)) :
  Calls Tryz.prog 84 #[mV m ad cap] w fun r w' => r = .returned (.int .i64 (macE m)) ∧ Below w.heap.size w w' := by
 have hcap := hR.le
 have hmx := hR.max
 have HSh := hid (fun p w => shared_any m ad cap p w)
 unfold mV at HSh
 rw [hr] at HSh
 unfold mV
 rw [hr]
 clear hr
 go_enter Tryz.func84, Tryz.ntmps84
 go_wp2_with fail
 have hS := (SL.nil w).box (.cells #[.bool false, .int .i64 m.gears, .int .i64 m.turn, .slice ad m.sw.length cap] 24)
 have q1 := (hS.blk 0 rfl).1
 refine wp_region_qt 34 kR kR ?_
 simp only [List.take_succ_cons, List.take_zero, List.drop_succ_cons, List.drop_zero]
 repeat (first | ((with_reducible refine wpB_load F_boolM wU wU q1 wU ?_); (try simp only [Act.put, pA, pB, pC])) | ((with_reducible refine wpB_load F_sliceM wU wU q1 wU ?_); (try simp only [Act.put, pA, pB, pC])) | ((with_reducible refine wpB_when wU wU wU ?_); (try simp only [Act.put, pA, pB, pC])) | ((with_reducible refine wpQ_skip wU ?_); (try simp only [Act.put, pA, pB, pC])) |  ((with_reducible refine wpB_load (by first | exact F_int | fail) wU wU (by assumption) wU ?_); (try simp only [Act.put, pA, pB, pC])) | ((with_reducible refine wpB_loadS (n := 2) (us := #[_, _]) (by fail) kR wU wU (by assumption) wU wU ?_); (try simp only [Act.put, pA, pB, pC])) | ((with_reducible refine wpB_loadS (n := 4) (us := #[_, _, _, _]) (by fail) kR wU wU (by assumption) wU wU ?_); (try simp only [Act.put, pA, pB, pC])) | ((refine wpQ_oneG ?_ wU (fun w' => ?_) ?_); rotate_left; (go_simp; rfl); (try simp only [Act.put, pA, pB, pC])))
 refine wpQuiet_nil ?_
 intro w1 hb1
 have hS1 := hS.mono hb1
 have hS2 := hS1.al (.cells #[.int .i64 0, .int .i64 0, .int .i64 0, .int .i64 0] 28)
 have q3 := (hS2.blk 0 rfl).1
 go_wp2_with (first | (go_at_call 51; refine (mfirst_any _ _ [_, _, _, _] _ (reps_newN cIntS [_, _, _, _] 4 rfl (by decide) _ _ (by simp) rfl)).mono ?_; rw [firstE_z, firstE_z, firstE_z, firstE_z, firstE_nil]; rintro e w' ⟨rfl, rfl⟩) | (with_reducible refine wpList_ldB F_sliceM wU wU q3 wU ?_))
 clear q1 q3 hS hS1
 go_loopw [49, 4, 5, 6] (fun i _ _ _ wr => ∃ (k : Nat) (o : Option Int), k ≤ m.sw.length ∧ i = .int .i64 k ∧ (o = if k = 0 then none else some (atD 0 m.sw ((k : Int) - 1))) ∧ swGo m o (m.sw.drop k) = swGo m none m.sw ∧ SL w.heap.size w wr [pBlk w.heap.size (.cells #[.bool false, .int .i64 m.gears, .int .i64 m.turn, .slice ad m.sw.length cap] 24)]) (fun i _ _ _ _ => m.sw.length - (intOf i).toNat)
 case atStart => exact ⟨0, none, by omega, rfl, rfl, rfl, hS2⟩
 case round =>
  clear hS2
  obtain ⟨k, o, hk, rfl, ho, hgo, hSr⟩ := hrel
  have q3 := (hSr.blk 0 rfl).1
  have hRr := hR.below hSr.b
  by_cases hlt : k < m.sw.length
  ·have hst := swGo_step m k hlt o
   rw [hgo] at hst
   obtain ⟨x, hxx⟩ : ∃ x, x = atD 0 m.sw k := ⟨_, rfl⟩
   rw [← hxx] at hst
   have HXX := hid hxx
   have CS := fun w => HSh.out x w
   clear hxx hgo
   cases hsh : sharedM m x
   ·rw [hsh] at CS hst
    rw [if_pos rfl] at hst
    have HC := hid CS; have HST := hid hst
    clear CS hst ho hsh
    by_cases hk0 : k = 0
    ·have hk1 : decide (0 < (k : Int)) = false := by simp [hk0]
     have hk2 : ¬ 0 < (k : Int) := by omega
     clear hk0
     go_wp2_with (first | ((with_reducible refine wpList_idx _ 0 E_ints F_int cInt1 wU wU (hRr) oD oD (fun _ => wU) (fun _ => ?_)); rw [← HXX.out]) | (with_reducible refine wpList_ldS (n := 4) (us := #[.bool false, .int .i64 m.gears, .int .i64 m.turn, .slice ad m.sw.length cap]) A_mach kR wU wU (by assumption) wU wU ?_))
     refine (HC.out _).mono ?_
     rintro e w4 ⟨rfl, b4⟩
     have hS4 := hSr.mono b4
     have q4 := (hS4.blk 0 rfl).1
     go_wp2_with (first | (go_at_call 53; refine (mwhen_any _ _ _).mono ?_; rintro e w' ⟨rfl, rfl⟩) | (go_at_call 51; refine (mfirst_any _ _ [_, _] _ (reps_newN cIntS [_, _] 2 rfl (by decide) _ _ (by simp) rfl)).mono ?_; (first | rw [firstE_head (by decide)] | rw [firstE_z, firstE_head (by decide)] | rw [firstE_z, firstE_z, firstE_nil]); rintro e w' ⟨rfl, rfl⟩))
     go_ret
     exact ⟨by rw [HV.out, HST.out]; rfl, bal hS4.b _⟩
    ·have hk1 : decide (0 < (k : Int)) = true := by simp; omega
     have hk2 : 0 < (k : Int) := by omega
     have hkm : max 0 ((k : Int) - 1) = (k : Int) - 1 := by omega
     have hkl : (k : Int) - 1 < m.sw.length := by omega
     go_wp2_with (first | ((with_reducible refine wpList_idx _ 0 E_ints F_int cInt1 wU wU (hRr) oD oD (fun _ => wU) (fun _ => ?_)); rw [← HXX.out]) | (with_reducible refine wpList_ldS (n := 4) (us := #[.bool false, .int .i64 m.gears, .int .i64 m.turn, .slice ad m.sw.length cap]) A_mach kR wU wU (by assumption) wU wU ?_))
     refine (HC.out _).mono ?_
     rintro e w4 ⟨rfl, b4⟩
     have hS4 := hSr.mono b4
     have q3 := (hS4.blk 0 rfl).1
     have hR4 := hR.below hS4.b
     go_wp2_with (first | (go_at_call 53; refine (mwhen_any _ _ _).mono ?_; rintro e w' ⟨rfl, rfl⟩) | (with_reducible refine wpList_ldB F_sliceM wU wU q3 wU ?_) | (with_reducible refine wpList_idxG 0 E_ints F_int cInt1 wU wU (hR4) (rfl) oD oD (fun _ => wU) wU (fun _ => wU) (fun _ => ?_)) | (go_at_call 51; refine (mfirst_any _ _ [_, _] _ (reps_newN cIntS [_, _] 2 rfl (by decide) _ _ (by simp) rfl)).mono ?_; (first | rw [firstE_head (by decide)] | rw [firstE_z, firstE_head (by decide)] | rw [firstE_z, firstE_z, firstE_nil]); rintro e w' ⟨rfl, rfl⟩))
     all_goals go_ret
     all_goals exact ⟨by rw [HV.out, HST.out]; rfl, bal hS4.b _⟩
   ·rw [hsh] at CS hst
    rw [if_neg (by decide)] at hst
    have HC := hid CS
    clear CS hsh
    by_cases hk0 : k = 0
    ·have hk1 : decide (0 < (k : Int)) = false := by simp [hk0]
     have hk2 : ¬ 0 < (k : Int) := by omega
     rw [ho, if_pos hk0] at hst
     have HST := hid hst; have HK0 := hid hk0
     clear hk0 hst ho
     go_wp2_with (first | ((with_reducible refine wpList_idx _ 0 E_ints F_int cInt1 wU wU (hRr) oD oD (fun _ => wU) (fun _ => ?_)); rw [← HXX.out]) | (with_reducible refine wpList_ldS (n := 4) (us := #[.bool false, .int .i64 m.gears, .int .i64 m.turn, .slice ad m.sw.length cap]) A_mach kR wU wU (by assumption) wU wU ?_))
     refine (HC.out _).mono ?_
     rintro e w4 ⟨rfl, b4⟩
     have hS4 := hSr.mono b4
     go_wp2_with (first | (go_at_call 53; refine (mwhen_any _ _ _).mono ?_; rintro e w' ⟨rfl, rfl⟩) | (go_at_call 51; refine (mfirst_any _ _ [_, _] _ (reps_newN cIntS [_, _] 2 rfl (by decide) _ _ (by simp) rfl)).mono ?_; (first | rw [firstE_head (by decide)] | rw [firstE_z, firstE_head (by decide)] | rw [firstE_z, firstE_z, firstE_nil]); rintro e w' ⟨rfl, rfl⟩))
     exact ⟨⟨k + 1, some x, by omega, by go_num, by rw [if_neg (by omega), HXX.out]; simp, HST.out.symm, hS4.al _⟩, by simp [intOf]; omega⟩
    ·have hk1 : decide (0 < (k : Int)) = true := by simp; omega
     have hk2 : 0 < (k : Int) := by omega
     have hkm : max 0 ((k : Int) - 1) = (k : Int) - 1 := by omega
     have hkl : (k : Int) - 1 < m.sw.length := by omega
     rw [ho, if_neg hk0] at hst
     simp only at hst
     obtain ⟨y, hyy⟩ : ∃ y, y = atD 0 m.sw ((k : Int) - 1) := ⟨_, rfl⟩
     rw [← hyy] at hst
     have HYY := hid hyy
     clear hyy ho
     by_cases hxy : x ≤ y
     ·rw [if_pos hxy] at hst
      have HST := hid hst
      clear hst
      go_wp2_with (first | ((with_reducible refine wpList_idx _ 0 E_ints F_int cInt1 wU wU (hRr) oD oD (fun _ => wU) (fun _ => ?_)); rw [← HXX.out]) | (with_reducible refine wpList_ldS (n := 4) (us := #[.bool false, .int .i64 m.gears, .int .i64 m.turn, .slice ad m.sw.length cap]) A_mach kR wU wU (by assumption) wU wU ?_))
      refine (HC.out _).mono ?_
      rintro e w4 ⟨rfl, b4⟩
      have hS4 := hSr.mono b4
      have q3 := (hS4.blk 0 rfl).1
      have hR4 := hR.below hS4.b
      go_wp2_with (first | (go_at_call 53; refine (mwhen_any _ _ _).mono ?_; rintro e w' ⟨rfl, rfl⟩) | (with_reducible refine wpList_ldB F_sliceM wU wU q3 wU ?_) | ((with_reducible refine wpList_idxG 0 E_ints F_int cInt1 wU wU (hR4) (rfl) oD oD (fun _ => wU) wU (fun _ => wU) (fun _ => ?_)); rw [← HYY.out]) | (go_at_call 51; refine (mfirst_any _ _ [_, _] _ (reps_newN cIntS [_, _] 2 rfl (by decide) _ _ (by simp) rfl)).mono ?_; (first | rw [firstE_head (by decide)] | rw [firstE_z, firstE_head (by decide)] | rw [firstE_z, firstE_z, firstE_nil]); rintro e w' ⟨rfl, rfl⟩))
      go_ret
      exact ⟨by rw [HV.out, HST.out]; rfl, bal hS4.b _⟩
     ·rw [if_neg hxy] at hst
      have HST := hid hst
      clear hst
      go_wp2_with (first | ((with_reducible refine wpList_idx _ 0 E_ints F_int cInt1 wU wU (hRr) oD oD (fun _ => wU) (fun _ => ?_)); rw [← HXX.out]) | (with_reducible refine wpList_ldS (n := 4) (us := #[.bool false, .int .i64 m.gears, .int .i64 m.turn, .slice ad m.sw.length cap]) A_mach kR wU wU (by assumption) wU wU ?_))
      refine (HC.out _).mono ?_
      rintro e w4 ⟨rfl, b4⟩
      have hS4 := hSr.mono b4
      have q3 := (hS4.blk 0 rfl).1
      have hR4 := hR.below hS4.b
      go_wp2_with (first | (go_at_call 53; refine (mwhen_any _ _ _).mono ?_; rintro e w' ⟨rfl, rfl⟩) | (with_reducible refine wpList_ldB F_sliceM wU wU q3 wU ?_) | ((with_reducible refine wpList_idxG 0 E_ints F_int cInt1 wU wU (hR4) (rfl) oD oD (fun _ => wU) wU (fun _ => wU) (fun _ => ?_)); rw [← HYY.out]) | (go_at_call 51; refine (mfirst_any _ _ [_, _] _ (reps_newN cIntS [_, _] 2 rfl (by decide) _ _ (by simp) rfl)).mono ?_; (first | rw [firstE_head (by decide)] | rw [firstE_z, firstE_head (by decide)] | rw [firstE_z, firstE_z, firstE_nil]); rintro e w' ⟨rfl, rfl⟩))
      exact ⟨⟨k + 1, some x, by omega, by go_num, by rw [if_neg (by omega), HXX.out]; simp, HST.out.symm, hS4.al _⟩, by simp [intOf]; omega⟩
  ·have hkl : k = m.sw.length := by omega
   subst hkl
   rw [List.drop_length] at hgo
   have hsw : swGo m none m.sw = 0 := by rw [← hgo]; cases o <;> rfl
   have HSW := hid hsw
   clear hsw hgo ho
   go_wp2_with fail
   go_ret
   exact ⟨by rw [HV.out, HSW.out]; rfl, hSr.b⟩
end Go.Proofs.YtdeoogbiipodmaaGreat

namespace Go.Proofs.YtdeoogbiipodmaaGreat
open Go.RowKit
set_option maxHeartbeats 8000000
set_option maxRecDepth 100000

theorem cm_f10 (m : MacV) (ad : Option Addr) (cap : Nat) (w : World) (hR : Ints w ad cap m.sw) (hI : -9223372036854775808 ≤ m.gears ∧ m.gears ≤ 9223372036854775807) (hr : m.ring = true) (q : Int) (hq : m.gears.tmod 2 = q) (r1 : 1 ≤ m.gears) (r2 : m.gears ≤ 16) (n1 : decide (m.gears < 1) = false) (n2 : decide (16 < m.gears) = false) (hqb : (q == 1) = false) (ht : (m.turn != 1) = false)  (n5 : decide (m.gears < m.sw.length) = false) (h5 : m.sw.length ≤ 16) (HV : Hid (macE m = swGo m none m.sw)) :
  Calls Tryz.prog 84 #[mV m ad cap] w fun r w' => r = .returned (.int .i64 (macE m)) ∧ Below w.heap.size w w' := by
 have hcap := hR.le
 have hmx := hR.max
 have HSh := hid (fun p w => shared_any m ad cap p w)
 unfold mV at HSh
 rw [hr] at HSh
 unfold mV
 rw [hr]
 clear hr
 go_enter Tryz.func84, Tryz.ntmps84
 go_wp2_with fail
 have hS := (SL.nil w).box (.cells #[.bool true, .int .i64 m.gears, .int .i64 m.turn, .slice ad m.sw.length cap] 24)
 have q1 := (hS.blk 0 rfl).1
 refine wp_region_qt 34 kR kR ?_
 simp only [List.take_succ_cons, List.take_zero, List.drop_succ_cons, List.drop_zero]
 repeat (first | ((with_reducible refine wpB_load F_boolM wU wU q1 wU ?_); (try simp only [Act.put, pA, pB, pC])) | ((with_reducible refine wpB_load F_sliceM wU wU q1 wU ?_); (try simp only [Act.put, pA, pB, pC])) | ((with_reducible refine wpB_when wU wU wU ?_); (try simp only [Act.put, pA, pB, pC])) | ((with_reducible refine wpQ_skip wU ?_); (try simp only [Act.put, pA, pB, pC])) |  ((with_reducible refine wpB_load (by first | exact F_int | fail) wU wU (by assumption) wU ?_); (try simp only [Act.put, pA, pB, pC])) | ((with_reducible refine wpB_loadS (n := 2) (us := #[_, _]) (by fail) kR wU wU (by assumption) wU wU ?_); (try simp only [Act.put, pA, pB, pC])) | ((with_reducible refine wpB_loadS (n := 4) (us := #[_, _, _, _]) (by fail) kR wU wU (by assumption) wU wU ?_); (try simp only [Act.put, pA, pB, pC])) | ((refine wpQ_oneG ?_ wU (fun w' => ?_) ?_); rotate_left; (go_simp; rfl); (try simp only [Act.put, pA, pB, pC])))
 refine wpQuiet_nil ?_
 intro w1 hb1
 have hS1 := hS.mono hb1
 have hS2 := hS1.al (.cells #[.int .i64 0, .int .i64 0, .int .i64 0, .int .i64 0] 28)
 have q3 := (hS2.blk 0 rfl).1
 go_wp2_with (first | (go_at_call 51; refine (mfirst_any _ _ [_, _, _, _] _ (reps_newN cIntS [_, _, _, _] 4 rfl (by decide) _ _ (by simp) rfl)).mono ?_; rw [firstE_z, firstE_z, firstE_z, firstE_z, firstE_nil]; rintro e w' ⟨rfl, rfl⟩) | (with_reducible refine wpList_ldB F_sliceM wU wU q3 wU ?_))
 clear q1 q3 hS hS1
 go_loopw [49, 4, 5, 6] (fun i _ _ _ wr => ∃ (k : Nat) (o : Option Int), k ≤ m.sw.length ∧ i = .int .i64 k ∧ (o = if k = 0 then none else some (atD 0 m.sw ((k : Int) - 1))) ∧ swGo m o (m.sw.drop k) = swGo m none m.sw ∧ SL w.heap.size w wr [pBlk w.heap.size (.cells #[.bool true, .int .i64 m.gears, .int .i64 m.turn, .slice ad m.sw.length cap] 24)]) (fun i _ _ _ _ => m.sw.length - (intOf i).toNat)
 case atStart => exact ⟨0, none, by omega, rfl, rfl, rfl, hS2⟩
 case round =>
  clear hS2
  obtain ⟨k, o, hk, rfl, ho, hgo, hSr⟩ := hrel
  have q3 := (hSr.blk 0 rfl).1
  have hRr := hR.below hSr.b
  by_cases hlt : k < m.sw.length
  ·have hst := swGo_step m k hlt o
   rw [hgo] at hst
   obtain ⟨x, hxx⟩ : ∃ x, x = atD 0 m.sw k := ⟨_, rfl⟩
   rw [← hxx] at hst
   have HXX := hid hxx
   have CS := fun w => HSh.out x w
   clear hxx hgo
   cases hsh : sharedM m x
   ·rw [hsh] at CS hst
    rw [if_pos rfl] at hst
    have HC := hid CS; have HST := hid hst
    clear CS hst ho hsh
    by_cases hk0 : k = 0
    ·have hk1 : decide (0 < (k : Int)) = false := by simp [hk0]
     have hk2 : ¬ 0 < (k : Int) := by omega
     clear hk0
     go_wp2_with (first | ((with_reducible refine wpList_idx _ 0 E_ints F_int cInt1 wU wU (hRr) oD oD (fun _ => wU) (fun _ => ?_)); rw [← HXX.out]) | (with_reducible refine wpList_ldS (n := 4) (us := #[.bool true, .int .i64 m.gears, .int .i64 m.turn, .slice ad m.sw.length cap]) A_mach kR wU wU (by assumption) wU wU ?_))
     refine (HC.out _).mono ?_
     rintro e w4 ⟨rfl, b4⟩
     have hS4 := hSr.mono b4
     have q4 := (hS4.blk 0 rfl).1
     go_wp2_with (first | (go_at_call 53; refine (mwhen_any _ _ _).mono ?_; rintro e w' ⟨rfl, rfl⟩) | (go_at_call 51; refine (mfirst_any _ _ [_, _] _ (reps_newN cIntS [_, _] 2 rfl (by decide) _ _ (by simp) rfl)).mono ?_; (first | rw [firstE_head (by decide)] | rw [firstE_z, firstE_head (by decide)] | rw [firstE_z, firstE_z, firstE_nil]); rintro e w' ⟨rfl, rfl⟩))
     go_ret
     exact ⟨by rw [HV.out, HST.out]; rfl, bal hS4.b _⟩
    ·have hk1 : decide (0 < (k : Int)) = true := by simp; omega
     have hk2 : 0 < (k : Int) := by omega
     have hkm : max 0 ((k : Int) - 1) = (k : Int) - 1 := by omega
     have hkl : (k : Int) - 1 < m.sw.length := by omega
     go_wp2_with (first | ((with_reducible refine wpList_idx _ 0 E_ints F_int cInt1 wU wU (hRr) oD oD (fun _ => wU) (fun _ => ?_)); rw [← HXX.out]) | (with_reducible refine wpList_ldS (n := 4) (us := #[.bool true, .int .i64 m.gears, .int .i64 m.turn, .slice ad m.sw.length cap]) A_mach kR wU wU (by assumption) wU wU ?_))
     refine (HC.out _).mono ?_
     rintro e w4 ⟨rfl, b4⟩
     have hS4 := hSr.mono b4
     have q3 := (hS4.blk 0 rfl).1
     have hR4 := hR.below hS4.b
     go_wp2_with (first | (go_at_call 53; refine (mwhen_any _ _ _).mono ?_; rintro e w' ⟨rfl, rfl⟩) | (with_reducible refine wpList_ldB F_sliceM wU wU q3 wU ?_) | (with_reducible refine wpList_idxG 0 E_ints F_int cInt1 wU wU (hR4) (rfl) oD oD (fun _ => wU) wU (fun _ => wU) (fun _ => ?_)) | (go_at_call 51; refine (mfirst_any _ _ [_, _] _ (reps_newN cIntS [_, _] 2 rfl (by decide) _ _ (by simp) rfl)).mono ?_; (first | rw [firstE_head (by decide)] | rw [firstE_z, firstE_head (by decide)] | rw [firstE_z, firstE_z, firstE_nil]); rintro e w' ⟨rfl, rfl⟩))
     all_goals go_ret
     all_goals exact ⟨by rw [HV.out, HST.out]; rfl, bal hS4.b _⟩
   ·rw [hsh] at CS hst
    rw [if_neg (by decide)] at hst
    have HC := hid CS
    clear CS hsh
    by_cases hk0 : k = 0
    ·have hk1 : decide (0 < (k : Int)) = false := by simp [hk0]
     have hk2 : ¬ 0 < (k : Int) := by omega
     rw [ho, if_pos hk0] at hst
     have HST := hid hst; have HK0 := hid hk0
     clear hk0 hst ho
     go_wp2_with (first | ((with_reducible refine wpList_idx _ 0 E_ints F_int cInt1 wU wU (hRr) oD oD (fun _ => wU) (fun _ => ?_)); rw [← HXX.out]) | (with_reducible refine wpList_ldS (n := 4) (us := #[.bool true, .int .i64 m.gears, .int .i64 m.turn, .slice ad m.sw.length cap]) A_mach kR wU wU (by assumption) wU wU ?_))
     refine (HC.out _).mono ?_
     rintro e w4 ⟨rfl, b4⟩
     have hS4 := hSr.mono b4
     go_wp2_with (first | (go_at_call 53; refine (mwhen_any _ _ _).mono ?_; rintro e w' ⟨rfl, rfl⟩) | (go_at_call 51; refine (mfirst_any _ _ [_, _] _ (reps_newN cIntS [_, _] 2 rfl (by decide) _ _ (by simp) rfl)).mono ?_; (first | rw [firstE_head (by decide)] | rw [firstE_z, firstE_head (by decide)] | rw [firstE_z, firstE_z, firstE_nil]); rintro e w' ⟨rfl, rfl⟩))
     exact ⟨⟨k + 1, some x, by omega, by go_num, by rw [if_neg (by omega), HXX.out]; simp, HST.out.symm, hS4.al _⟩, by simp [intOf]; omega⟩
    ·have hk1 : decide (0 < (k : Int)) = true := by simp; omega
     have hk2 : 0 < (k : Int) := by omega
     have hkm : max 0 ((k : Int) - 1) = (k : Int) - 1 := by omega
     have hkl : (k : Int) - 1 < m.sw.length := by omega
     rw [ho, if_neg hk0] at hst
     simp only at hst
     obtain ⟨y, hyy⟩ : ∃ y, y = atD 0 m.sw ((k : Int) - 1) := ⟨_, rfl⟩
     rw [← hyy] at hst
     have HYY := hid hyy
     clear hyy ho
     by_cases hxy : x ≤ y
     ·rw [if_pos hxy] at hst
      have HST := hid hst
      clear hst
      go_wp2_with (first | ((with_reducible refine wpList_idx _ 0 E_ints F_int cInt1 wU wU (hRr) oD oD (fun _ => wU) (fun _ => ?_)); rw [← HXX.out]) | (with_reducible refine wpList_ldS (n := 4) (us := #[.bool true, .int .i64 m.gears, .int .i64 m.turn, .slice ad m.sw.length cap]) A_mach kR wU wU (by assumption) wU wU ?_))
      refine (HC.out _).mono ?_
      rintro e w4 ⟨rfl, b4⟩
      have hS4 := hSr.mono b4
      have q3 := (hS4.blk 0 rfl).1
      have hR4 := hR.below hS4.b
      go_wp2_with (first | (go_at_call 53; refine (mwhen_any _ _ _).mono ?_; rintro e w' ⟨rfl, rfl⟩) | (with_reducible refine wpList_ldB F_sliceM wU wU q3 wU ?_) | ((with_reducible refine wpList_idxG 0 E_ints F_int cInt1 wU wU (hR4) (rfl) oD oD (fun _ => wU) wU (fun _ => wU) (fun _ => ?_)); rw [← HYY.out]) | (go_at_call 51; refine (mfirst_any _ _ [_, _] _ (reps_newN cIntS [_, _] 2 rfl (by decide) _ _ (by simp) rfl)).mono ?_; (first | rw [firstE_head (by decide)] | rw [firstE_z, firstE_head (by decide)] | rw [firstE_z, firstE_z, firstE_nil]); rintro e w' ⟨rfl, rfl⟩))
      go_ret
      exact ⟨by rw [HV.out, HST.out]; rfl, bal hS4.b _⟩
     ·rw [if_neg hxy] at hst
      have HST := hid hst
      clear hst
      go_wp2_with (first | ((with_reducible refine wpList_idx _ 0 E_ints F_int cInt1 wU wU (hRr) oD oD (fun _ => wU) (fun _ => ?_)); rw [← HXX.out]) | (with_reducible refine wpList_ldS (n := 4) (us := #[.bool true, .int .i64 m.gears, .int .i64 m.turn, .slice ad m.sw.length cap]) A_mach kR wU wU (by assumption) wU wU ?_))
      refine (HC.out _).mono ?_
      rintro e w4 ⟨rfl, b4⟩
      have hS4 := hSr.mono b4
      have q3 := (hS4.blk 0 rfl).1
      have hR4 := hR.below hS4.b
      go_wp2_with (first | (go_at_call 53; refine (mwhen_any _ _ _).mono ?_; rintro e w' ⟨rfl, rfl⟩) | (with_reducible refine wpList_ldB F_sliceM wU wU q3 wU ?_) | ((with_reducible refine wpList_idxG 0 E_ints F_int cInt1 wU wU (hR4) (rfl) oD oD (fun _ => wU) wU (fun _ => wU) (fun _ => ?_)); rw [← HYY.out]) | (go_at_call 51; refine (mfirst_any _ _ [_, _] _ (reps_newN cIntS [_, _] 2 rfl (by decide) _ _ (by simp) rfl)).mono ?_; (first | rw [firstE_head (by decide)] | rw [firstE_z, firstE_head (by decide)] | rw [firstE_z, firstE_z, firstE_nil]); rintro e w' ⟨rfl, rfl⟩))
      exact ⟨⟨k + 1, some x, by omega, by go_num, by rw [if_neg (by omega), HXX.out]; simp, HST.out.symm, hS4.al _⟩, by simp [intOf]; omega⟩
  ·have hkl : k = m.sw.length := by omega
   subst hkl
   rw [List.drop_length] at hgo
   have hsw : swGo m none m.sw = 0 := by rw [← hgo]; cases o <;> rfl
   have HSW := hid hsw
   clear hsw hgo ho
   go_wp2_with fail
   go_ret
   exact ⟨by rw [HV.out, HSW.out]; rfl, hSr.b⟩
theorem cm_f11 (m : MacV) (ad : Option Addr) (cap : Nat) (w : World) (hR : Ints w ad cap m.sw) (hI : -9223372036854775808 ≤ m.gears ∧ m.gears ≤ 9223372036854775807) (hr : m.ring = true) (q : Int) (hq : m.gears.tmod 2 = q) (r1 : 1 ≤ m.gears) (r2 : m.gears ≤ 16) (n1 : decide (m.gears < 1) = false) (n2 : decide (16 < m.gears) = false) (hqb : (q == 1) = false) (ht : (m.turn != 1) = true) (htn : (m.turn != -1) = false) (n5 : decide (m.gears < m.sw.length) = false) (h5 : m.sw.length ≤ 16) (HV : Hid (macE m = swGo m none m.sw)) :
  Calls Tryz.prog 84 #[mV m ad cap] w fun r w' => r = .returned (.int .i64 (macE m)) ∧ Below w.heap.size w w' := by
 have hcap := hR.le
 have hmx := hR.max
 have HSh := hid (fun p w => shared_any m ad cap p w)
 unfold mV at HSh
 rw [hr] at HSh
 unfold mV
 rw [hr]
 clear hr
 go_enter Tryz.func84, Tryz.ntmps84
 go_wp2_with fail
 have hS := (SL.nil w).box (.cells #[.bool true, .int .i64 m.gears, .int .i64 m.turn, .slice ad m.sw.length cap] 24)
 have q1 := (hS.blk 0 rfl).1
 refine wp_region_qt 34 kR kR ?_
 simp only [List.take_succ_cons, List.take_zero, List.drop_succ_cons, List.drop_zero]
 repeat (first | ((with_reducible refine wpB_load F_boolM wU wU q1 wU ?_); (try simp only [Act.put, pA, pB, pC])) | ((with_reducible refine wpB_load F_sliceM wU wU q1 wU ?_); (try simp only [Act.put, pA, pB, pC])) | ((with_reducible refine wpB_when wU wU wU ?_); (try simp only [Act.put, pA, pB, pC])) | ((with_reducible refine wpQ_skip wU ?_); (try simp only [Act.put, pA, pB, pC])) |  ((with_reducible refine wpB_load (by first | exact F_int | fail) wU wU (by assumption) wU ?_); (try simp only [Act.put, pA, pB, pC])) | ((with_reducible refine wpB_loadS (n := 2) (us := #[_, _]) (by fail) kR wU wU (by assumption) wU wU ?_); (try simp only [Act.put, pA, pB, pC])) | ((with_reducible refine wpB_loadS (n := 4) (us := #[_, _, _, _]) (by fail) kR wU wU (by assumption) wU wU ?_); (try simp only [Act.put, pA, pB, pC])) | ((refine wpQ_oneG ?_ wU (fun w' => ?_) ?_); rotate_left; (go_simp; rfl); (try simp only [Act.put, pA, pB, pC])))
 refine wpQuiet_nil ?_
 intro w1 hb1
 have hS1 := hS.mono hb1
 have hS2 := hS1.al (.cells #[.int .i64 0, .int .i64 0, .int .i64 0, .int .i64 0] 28)
 have q3 := (hS2.blk 0 rfl).1
 go_wp2_with (first | (go_at_call 51; refine (mfirst_any _ _ [_, _, _, _] _ (reps_newN cIntS [_, _, _, _] 4 rfl (by decide) _ _ (by simp) rfl)).mono ?_; rw [firstE_z, firstE_z, firstE_z, firstE_z, firstE_nil]; rintro e w' ⟨rfl, rfl⟩) | (with_reducible refine wpList_ldB F_sliceM wU wU q3 wU ?_))
 clear q1 q3 hS hS1
 go_loopw [49, 4, 5, 6] (fun i _ _ _ wr => ∃ (k : Nat) (o : Option Int), k ≤ m.sw.length ∧ i = .int .i64 k ∧ (o = if k = 0 then none else some (atD 0 m.sw ((k : Int) - 1))) ∧ swGo m o (m.sw.drop k) = swGo m none m.sw ∧ SL w.heap.size w wr [pBlk w.heap.size (.cells #[.bool true, .int .i64 m.gears, .int .i64 m.turn, .slice ad m.sw.length cap] 24)]) (fun i _ _ _ _ => m.sw.length - (intOf i).toNat)
 case atStart => exact ⟨0, none, by omega, rfl, rfl, rfl, hS2⟩
 case round =>
  clear hS2
  obtain ⟨k, o, hk, rfl, ho, hgo, hSr⟩ := hrel
  have q3 := (hSr.blk 0 rfl).1
  have hRr := hR.below hSr.b
  by_cases hlt : k < m.sw.length
  ·have hst := swGo_step m k hlt o
   rw [hgo] at hst
   obtain ⟨x, hxx⟩ : ∃ x, x = atD 0 m.sw k := ⟨_, rfl⟩
   rw [← hxx] at hst
   have HXX := hid hxx
   have CS := fun w => HSh.out x w
   clear hxx hgo
   cases hsh : sharedM m x
   ·rw [hsh] at CS hst
    rw [if_pos rfl] at hst
    have HC := hid CS; have HST := hid hst
    clear CS hst ho hsh
    by_cases hk0 : k = 0
    ·have hk1 : decide (0 < (k : Int)) = false := by simp [hk0]
     have hk2 : ¬ 0 < (k : Int) := by omega
     clear hk0
     go_wp2_with (first | ((with_reducible refine wpList_idx _ 0 E_ints F_int cInt1 wU wU (hRr) oD oD (fun _ => wU) (fun _ => ?_)); rw [← HXX.out]) | (with_reducible refine wpList_ldS (n := 4) (us := #[.bool true, .int .i64 m.gears, .int .i64 m.turn, .slice ad m.sw.length cap]) A_mach kR wU wU (by assumption) wU wU ?_))
     refine (HC.out _).mono ?_
     rintro e w4 ⟨rfl, b4⟩
     have hS4 := hSr.mono b4
     have q4 := (hS4.blk 0 rfl).1
     go_wp2_with (first | (go_at_call 53; refine (mwhen_any _ _ _).mono ?_; rintro e w' ⟨rfl, rfl⟩) | (go_at_call 51; refine (mfirst_any _ _ [_, _] _ (reps_newN cIntS [_, _] 2 rfl (by decide) _ _ (by simp) rfl)).mono ?_; (first | rw [firstE_head (by decide)] | rw [firstE_z, firstE_head (by decide)] | rw [firstE_z, firstE_z, firstE_nil]); rintro e w' ⟨rfl, rfl⟩))
     go_ret
     exact ⟨by rw [HV.out, HST.out]; rfl, bal hS4.b _⟩
    ·have hk1 : decide (0 < (k : Int)) = true := by simp; omega
     have hk2 : 0 < (k : Int) := by omega
     have hkm : max 0 ((k : Int) - 1) = (k : Int) - 1 := by omega
     have hkl : (k : Int) - 1 < m.sw.length := by omega
     go_wp2_with (first | ((with_reducible refine wpList_idx _ 0 E_ints F_int cInt1 wU wU (hRr) oD oD (fun _ => wU) (fun _ => ?_)); rw [← HXX.out]) | (with_reducible refine wpList_ldS (n := 4) (us := #[.bool true, .int .i64 m.gears, .int .i64 m.turn, .slice ad m.sw.length cap]) A_mach kR wU wU (by assumption) wU wU ?_))
     refine (HC.out _).mono ?_
     rintro e w4 ⟨rfl, b4⟩
     have hS4 := hSr.mono b4
     have q3 := (hS4.blk 0 rfl).1
     have hR4 := hR.below hS4.b
     go_wp2_with (first | (go_at_call 53; refine (mwhen_any _ _ _).mono ?_; rintro e w' ⟨rfl, rfl⟩) | (with_reducible refine wpList_ldB F_sliceM wU wU q3 wU ?_) | (with_reducible refine wpList_idxG 0 E_ints F_int cInt1 wU wU (hR4) (rfl) oD oD (fun _ => wU) wU (fun _ => wU) (fun _ => ?_)) | (go_at_call 51; refine (mfirst_any _ _ [_, _] _ (reps_newN cIntS [_, _] 2 rfl (by decide) _ _ (by simp) rfl)).mono ?_; (first | rw [firstE_head (by decide)] | rw [firstE_z, firstE_head (by decide)] | rw [firstE_z, firstE_z, firstE_nil]); rintro e w' ⟨rfl, rfl⟩))
     all_goals go_ret
     all_goals exact ⟨by rw [HV.out, HST.out]; rfl, bal hS4.b _⟩
   ·rw [hsh] at CS hst
    rw [if_neg (by decide)] at hst
    have HC := hid CS
    clear CS hsh
    by_cases hk0 : k = 0
    ·have hk1 : decide (0 < (k : Int)) = false := by simp [hk0]
     have hk2 : ¬ 0 < (k : Int) := by omega
     rw [ho, if_pos hk0] at hst
     have HST := hid hst; have HK0 := hid hk0
     clear hk0 hst ho
     go_wp2_with (first | ((with_reducible refine wpList_idx _ 0 E_ints F_int cInt1 wU wU (hRr) oD oD (fun _ => wU) (fun _ => ?_)); rw [← HXX.out]) | (with_reducible refine wpList_ldS (n := 4) (us := #[.bool true, .int .i64 m.gears, .int .i64 m.turn, .slice ad m.sw.length cap]) A_mach kR wU wU (by assumption) wU wU ?_))
     refine (HC.out _).mono ?_
     rintro e w4 ⟨rfl, b4⟩
     have hS4 := hSr.mono b4
     go_wp2_with (first | (go_at_call 53; refine (mwhen_any _ _ _).mono ?_; rintro e w' ⟨rfl, rfl⟩) | (go_at_call 51; refine (mfirst_any _ _ [_, _] _ (reps_newN cIntS [_, _] 2 rfl (by decide) _ _ (by simp) rfl)).mono ?_; (first | rw [firstE_head (by decide)] | rw [firstE_z, firstE_head (by decide)] | rw [firstE_z, firstE_z, firstE_nil]); rintro e w' ⟨rfl, rfl⟩))
     exact ⟨⟨k + 1, some x, by omega, by go_num, by rw [if_neg (by omega), HXX.out]; simp, HST.out.symm, hS4.al _⟩, by simp [intOf]; omega⟩
    ·have hk1 : decide (0 < (k : Int)) = true := by simp; omega
     have hk2 : 0 < (k : Int) := by omega
     have hkm : max 0 ((k : Int) - 1) = (k : Int) - 1 := by omega
     have hkl : (k : Int) - 1 < m.sw.length := by omega
     rw [ho, if_neg hk0] at hst
     simp only at hst
     obtain ⟨y, hyy⟩ : ∃ y, y = atD 0 m.sw ((k : Int) - 1) := ⟨_, rfl⟩
     rw [← hyy] at hst
     have HYY := hid hyy
     clear hyy ho
     by_cases hxy : x ≤ y
     ·rw [if_pos hxy] at hst
      have HST := hid hst
      clear hst
      go_wp2_with (first | ((with_reducible refine wpList_idx _ 0 E_ints F_int cInt1 wU wU (hRr) oD oD (fun _ => wU) (fun _ => ?_)); rw [← HXX.out]) | (with_reducible refine wpList_ldS (n := 4) (us := #[.bool true, .int .i64 m.gears, .int .i64 m.turn, .slice ad m.sw.length cap]) A_mach kR wU wU (by assumption) wU wU ?_))
      refine (HC.out _).mono ?_
      rintro e w4 ⟨rfl, b4⟩
      have hS4 := hSr.mono b4
      have q3 := (hS4.blk 0 rfl).1
      have hR4 := hR.below hS4.b
      go_wp2_with (first | (go_at_call 53; refine (mwhen_any _ _ _).mono ?_; rintro e w' ⟨rfl, rfl⟩) | (with_reducible refine wpList_ldB F_sliceM wU wU q3 wU ?_) | ((with_reducible refine wpList_idxG 0 E_ints F_int cInt1 wU wU (hR4) (rfl) oD oD (fun _ => wU) wU (fun _ => wU) (fun _ => ?_)); rw [← HYY.out]) | (go_at_call 51; refine (mfirst_any _ _ [_, _] _ (reps_newN cIntS [_, _] 2 rfl (by decide) _ _ (by simp) rfl)).mono ?_; (first | rw [firstE_head (by decide)] | rw [firstE_z, firstE_head (by decide)] | rw [firstE_z, firstE_z, firstE_nil]); rintro e w' ⟨rfl, rfl⟩))
      go_ret
      exact ⟨by rw [HV.out, HST.out]; rfl, bal hS4.b _⟩
     ·rw [if_neg hxy] at hst
      have HST := hid hst
      clear hst
      go_wp2_with (first | ((with_reducible refine wpList_idx _ 0 E_ints F_int cInt1 wU wU (hRr) oD oD (fun _ => wU) (fun _ => ?_)); rw [← HXX.out]) | (with_reducible refine wpList_ldS (n := 4) (us := #[.bool true, .int .i64 m.gears, .int .i64 m.turn, .slice ad m.sw.length cap]) A_mach kR wU wU (by assumption) wU wU ?_))
      refine (HC.out _).mono ?_
      rintro e w4 ⟨rfl, b4⟩
      have hS4 := hSr.mono b4
      have q3 := (hS4.blk 0 rfl).1
      have hR4 := hR.below hS4.b
      go_wp2_with (first | (go_at_call 53; refine (mwhen_any _ _ _).mono ?_; rintro e w' ⟨rfl, rfl⟩) | (with_reducible refine wpList_ldB F_sliceM wU wU q3 wU ?_) | ((with_reducible refine wpList_idxG 0 E_ints F_int cInt1 wU wU (hR4) (rfl) oD oD (fun _ => wU) wU (fun _ => wU) (fun _ => ?_)); rw [← HYY.out]) | (go_at_call 51; refine (mfirst_any _ _ [_, _] _ (reps_newN cIntS [_, _] 2 rfl (by decide) _ _ (by simp) rfl)).mono ?_; (first | rw [firstE_head (by decide)] | rw [firstE_z, firstE_head (by decide)] | rw [firstE_z, firstE_z, firstE_nil]); rintro e w' ⟨rfl, rfl⟩))
      exact ⟨⟨k + 1, some x, by omega, by go_num, by rw [if_neg (by omega), HXX.out]; simp, HST.out.symm, hS4.al _⟩, by simp [intOf]; omega⟩
  ·have hkl : k = m.sw.length := by omega
   subst hkl
   rw [List.drop_length] at hgo
   have hsw : swGo m none m.sw = 0 := by rw [← hgo]; cases o <;> rfl
   have HSW := hid hsw
   clear hsw hgo ho
   go_wp2_with fail
   go_ret
   exact ⟨by rw [HV.out, HSW.out]; rfl, hSr.b⟩
end Go.Proofs.YtdeoogbiipodmaaGreat

namespace Go.Proofs.YtdeoogbiipodmaaGreat
open Go.RowKit
set_option maxHeartbeats 8000000
set_option maxRecDepth 100000

theorem CheckMachine_any (m : MacV) (ad : Option Addr) (cap : Nat) (w : World) (hR : Ints w ad cap m.sw) (hI0 : InI m.gears) :
  Calls Tryz.prog 84 #[mV m ad cap] w fun r w' => r = .returned (.int .i64 (macE m)) ∧ Below w.heap.size w w' := by
 obtain ⟨q, hq⟩ : ∃ q, m.gears.tmod 2 = q := ⟨_, rfl⟩
 have hI : -9223372036854775808 ≤ m.gears ∧ m.gears ≤ 9223372036854775807 := by unfold InI at hI0; omega
 by_cases c1 : m.gears < 1
 ·have hv : macE m = 3 := by unfold macE; rw [if_pos (.inl c1)]
  have hd1 : decide (m.gears < 1) = true := decide_eq_true c1
  cases hr : m.ring <;> cases ht : (m.turn != 1)
  ·exact cm_a00 m ad cap w hR hI hr q hq hd1 ht (hid hv)
  ·exact cm_a01 m ad cap w hR hI hr q hq hd1 ht (hid hv)
  ·exact cm_a10 m ad cap w hR hI hr q hq hd1 ht (hid hv)
  ·exact cm_a11 m ad cap w hR hI hr q hq hd1 ht (hid hv)
 have n1 : decide (m.gears < 1) = false := decide_eq_false c1
 by_cases c2 : 16 < m.gears
 ·have hv : macE m = 3 := by unfold macE; rw [if_pos (.inr c2)]
  have hd2 : decide (16 < m.gears) = true := decide_eq_true c2
  cases hr : m.ring <;> cases ht : (m.turn != 1)
  ·exact cm_b00 m ad cap w hR hI hr q hq n1 hd2 ht (hid hv)
  ·exact cm_b01 m ad cap w hR hI hr q hq n1 hd2 ht (hid hv)
  ·exact cm_b10 m ad cap w hR hI hr q hq n1 hd2 ht (hid hv)
  ·exact cm_b11 m ad cap w hR hI hr q hq n1 hd2 ht (hid hv)
 have n2 : decide (16 < m.gears) = false := decide_eq_false c2
 have r1 : 1 ≤ m.gears := by omega
 have r2 : m.gears ≤ 16 := by omega
 have hq2 : q = m.gears % 2 := by rw [← hq, Int.tmod_eq_emod_of_nonneg (by omega)]
 by_cases c3 : m.ring = true ∧ q = 1
 ·have hv : macE m = 17 := by unfold macE; rw [if_neg (by omega), if_pos ⟨c3.1, by rw [← hq2]; exact c3.2⟩]
  have hr := c3.1
  have hq1 : (q == 1) = true := by simpa using c3.2
  cases ht : (m.turn != 1)
  ·exact cm_c0 m ad cap w hR hI hr q hq r1 r2 n1 n2 hq1 ht (hid hv)
  ·exact cm_c1 m ad cap w hR hI hr q hq r1 r2 n1 n2 hq1 ht (hid hv)
 have m3 : ¬ (m.ring = true ∧ m.gears % 2 = 1) := fun h => c3 ⟨h.1, by rw [hq2]; exact h.2⟩
 have hqb : m.ring = true → (q == 1) = false := fun hr => by
  have : ¬ q = 1 := fun e => c3 ⟨hr, e⟩
  simpa using this
 by_cases c4 : m.turn ≠ 1 ∧ m.turn ≠ -1
 ·have hv : macE m = 3 := by unfold macE; rw [if_neg (by omega), if_neg m3, if_pos c4]
  have ht : (m.turn != 1) = true := by simpa using c4.1
  have htn : (m.turn != -1) = true := by simpa using c4.2
  cases hr : m.ring
  ·exact cm_d0 m ad cap w hR hI hr q hq r1 r2 n1 n2 ht htn (hid hv)
  ·exact cm_d1 m ad cap w hR hI hr q hq r1 r2 n1 n2 (hqb hr) ht htn (hid hv)
 have htn : (m.turn != 1) = true → (m.turn != -1) = false := fun h => by
  have t1 : m.turn ≠ 1 := by simpa using h
  have t2 : m.turn = -1 := by
   by_cases t2 : m.turn = -1
   ·exact t2
   ·exact absurd ⟨t1, t2⟩ c4
  simp [t2]
 by_cases c5 : m.gears < m.sw.length
 ·have hv : macE m = 5 := by unfold macE; rw [if_neg (by omega), if_neg m3, if_neg c4, if_pos c5]
  have hd5 : decide (m.gears < m.sw.length) = true := decide_eq_true c5
  cases hr : m.ring <;> cases ht : (m.turn != 1)
  ·exact cm_e00 m ad cap w hR hI hr q hq r1 r2 n1 n2 ht hd5 (hid hv)
  ·exact cm_e01 m ad cap w hR hI hr q hq r1 r2 n1 n2 ht (htn ht) hd5 (hid hv)
  ·exact cm_e10 m ad cap w hR hI hr q hq r1 r2 n1 n2 (hqb hr) ht hd5 (hid hv)
  ·exact cm_e11 m ad cap w hR hI hr q hq r1 r2 n1 n2 (hqb hr) ht (htn ht) hd5 (hid hv)
 have n5 : decide (m.gears < m.sw.length) = false := decide_eq_false c5
 have h5 : m.sw.length ≤ 16 := by omega
 have hv : macE m = swGo m none m.sw := by unfold macE; rw [if_neg (by omega), if_neg m3, if_neg c4, if_neg c5]
 cases hr : m.ring <;> cases ht : (m.turn != 1)
 ·exact cm_f00 m ad cap w hR hI hr q hq r1 r2 n1 n2 ht n5 h5 (hid hv)
 ·exact cm_f01 m ad cap w hR hI hr q hq r1 r2 n1 n2 ht (htn ht) n5 h5 (hid hv)
 ·exact cm_f10 m ad cap w hR hI hr q hq r1 r2 n1 n2 (hqb hr) ht n5 h5 (hid hv)
 ·exact cm_f11 m ad cap w hR hI hr q hq r1 r2 n1 n2 (hqb hr) ht (htn ht) n5 h5 (hid hv)
end Go.Proofs.YtdeoogbiipodmaaGreat

namespace Go.Proofs.YtdeoogbiipodmaaGreat
open Go.RowKit
set_option maxRecDepth 100000
/-- a meeting found by a run of 64 ticks (enough for every machine of at most 16 carriers' slots: allC_of checks it). -/
def meetC (m : MacV) (a b : Int) : Option (Nat × Int) := (meetF m a b 64 0 a b).getD none
def InS (m : MacV) (x : Int) : Prop := 0 ≤ x ∧ x < 4 * m.gears
def AllC (m : MacV) : Prop := ∀ a b, InS m a → InS m b → meetM m a b = meetC m a b
theorem allC_of {m : MacV} {n : Nat} (hn : 4 * m.gears = (n : Int)) (h : (List.range n).all (fun a => (List.range n).all fun b => (meetF m a b 64 0 a b).isSome) = true) : AllC m := by
 intro a b ⟨a0, a1⟩ ⟨b0, b1⟩
 have ha : ((a.toNat : Nat) : Int) = a := Int.toNat_of_nonneg a0
 have hb : ((b.toNat : Nat) : Int) = b := Int.toNat_of_nonneg b0
 have h1 := List.all_eq_true.1 h a.toNat (List.mem_range.2 (by omega))
 have h2 := List.all_eq_true.1 h1 b.toNat (List.mem_range.2 (by omega))
 rw [ha, hb] at h2
 cases hf : meetF m a b 64 0 a b with
 | none => rw [hf] at h2; cases h2
 | some r => rw [meetF_ok a0 a1 b0 b1 hf]; unfold meetC; rw [hf]; rfl
def firstC (m : MacV) (l : List Int) : Option (Nat × Int) := (pairsTo l l.length).foldl (fun b p => bestS b (meetC m p.1 p.2)) none
theorem foldl_same {α β : Type} {f g : β → α → β} : ∀ {l : List α} (_ : ∀ b, ∀ a ∈ l, f b a = g b a) (b : β), l.foldl f b = l.foldl g b
 | [], _, _ => rfl
 | a :: r, h, b => by
   rw [List.foldl_cons, List.foldl_cons, h b a (by simp)]
   exact foldl_same (fun b x hx => h b x (List.mem_cons_of_mem _ hx)) _
theorem firstC_ok {m : MacV} (hC : AllC m) {l : List Int} (hl : ∀ x ∈ l, InS m x) : firstM m l = firstC m l := by
 refine foldl_same (fun b p hp => ?_) none
 obtain ⟨i, j, hji, hi, rfl⟩ := (pairsTo_mem (l := l) (Nat.le_refl _)).1 hp
 have e : ∀ k, k < l.length → InS m (atD 0 l k) := fun k hk => hl _ (by simp [atD, hk])
 show bestS b (meetM m (atD 0 l i) (atD 0 l j)) = bestS b (meetC m (atD 0 l i) (atD 0 l j))
 rw [hC _ _ (e i hi) (e j (by omega))]
end Go.Proofs.YtdeoogbiipodmaaGreat

namespace Go.Proofs.YtdeoogbiipodmaaGreat
open Go.RowKit
set_option maxHeartbeats 8000000
set_option maxRecDepth 100000

theorem RetMac.none {W w' : World} {e : Int} {r : Ending} {S : SL W.heap.size W w' []} (h : r = .returned (.tuple #[.agg #[.bool false, .int .i64 0, .int .i64 0, .slice none 0 0], .int .i64 e])) : RetMac W noM e r w' :=
 ⟨.none, 0, h, (S.nilS (α := Int) (c := cInt) (sz := 1) (e := 3) cIntS)⟩

section
variable {ops : Array Oper} {rest : List Oper} {a : Act} {Q : Exit → Act → World → Prop} {w0 w : World} {L : List Pc} {B : Nat} {ty : TypeId} {p : String} {af : Array Edge}
end

end Go.Proofs.YtdeoogbiipodmaaGreat

namespace Go.Proofs.YtdeoogbiipodmaaGreat
open Go.RowKit
set_option maxHeartbeats 8000000
set_option maxRecDepth 100000
theorem amSame (a a2 : Option Addr) (cap cap2 n : Nat) (l : List Int) (w : World) (h : Ints w a cap l) (h2 : Ints w a2 cap2 l) (hn : l.length = n) (hs : n ≤ 1048576) : Calls Tryz.prog 19 #[.slice a n cap, .slice a2 n cap2] w fun r w' => r = .returned (.bool true) ∧ Below w.heap.size w w' := by
 subst hn
 have := SameInts_any a a2 cap cap2 l l w h h2 hs
 rw [decide_eq_true rfl] at this
 exact this
end Go.Proofs.YtdeoogbiipodmaaGreat

namespace Go.Proofs.YtdeoogbiipodmaaGreat
set_option maxRecDepth 100000
section
variable {m : MacV} {l : List Int} {n : Int}
end
def expL (w : List Int) : Int := w.foldl (fun s x => s + sgnI x) 0
theorem expL_snoc (w : List Int) (x : Int) : expL (w ++ [x]) = expL w + sgnI x := by unfold expL; rw [List.foldl_append]; rfl
end Go.Proofs.YtdeoogbiipodmaaGreat

namespace Go.Proofs.YtdeoogbiipodmaaGreat
set_option maxRecDepth 100000
/-- carriers in the same slots: c of the first ones stands where τ c of the other ones does. -/
structure Ren (l l' : List Int) (τ : Int → Int) : Prop where
 len : l'.length = l.length
 at_ : ∀ c : Int, 0 ≤ c → c < l.length → (0 ≤ τ c ∧ τ c < l.length) ∧ atD 0 l' (τ c) = atD 0 l c
 mem : ∀ s, s ∈ l' → s ∈ l
theorem Ren.inj {l l' : List Int} {τ : Int → Int} (h : Ren l l' τ) (hn : l.Nodup) {a b : Int} (a0 : 0 ≤ a) (a1 : a < l.length) (b0 : 0 ≤ b) (b1 : b < l.length) (e : τ a = τ b) : a = b := by
 have h1 := (h.at_ a a0 a1).2
 have h2 := (h.at_ b b0 b1).2
 rw [e, h2] at h1
 obtain ⟨i, rfl⟩ : ∃ i : Nat, a = i := ⟨a.toNat, by omega⟩
 obtain ⟨j, rfl⟩ : ∃ j : Nat, b = j := ⟨b.toNat, by omega⟩
 rcases Nat.lt_trichotomy i j with hij | hij | hij
 ·exact absurd h1 (by first | exact nodup_ne hn hij (by omega) | exact (nodup_ne hn hij (by omega)).symm)
 ·rw [hij]
 ·exact absurd h1 (by first | exact nodup_ne hn hij (by omega) | exact (nodup_ne hn hij (by omega)).symm)
section
variable {m : MacV} {l l' : List Int} {τ : Int → Int} {n : Int}
end
end Go.Proofs.YtdeoogbiipodmaaGreat

namespace Go.Proofs.YtdeoogbiipodmaaGreat
open Go.RowKit
set_option maxHeartbeats 8000000
set_option maxRecDepth 100000
theorem isSl {α : Type} {c : α → Value} {sz B : Nat} {e : TypeId} {w0 w : World} {v : Value} {l : List α} {L : List Pc} (h : SL B w0 w L) (i : Nat) (hi : L[i]? = some (pOwn c sz e v l)) : ∃ a n c, v = .slice a n c := by
 obtain ⟨a, cap, e1, _⟩ := h.slice i hi
 exact ⟨a, _, cap, e1⟩
end Go.Proofs.YtdeoogbiipodmaaGreat

namespace Go.Proofs.YtdeoogbiipodmaaGreat
open Go.RowKit
set_option maxHeartbeats 8000000
set_option maxRecDepth 100000
theorem A_form : Aggr Tryz.prog 33 := ⟨_, Tryz.underlying33, rfl⟩
/-- a value that is a normal form. -/
def FormR (w : World) (n : Nat) (v : Value) (f : Int × List (List Int)) : Prop := ∃ a c H, v = .agg #[.int .i64 f.1, .slice a f.2.length c] ∧ Reps cSl 1 w a c H ∧ RowsR w n H f.2
theorem FormR.below {w w' : World} {n : Nat} {v : Value} {f : Int × List (List Int)} (h : FormR w n v f) (hb : Below w.heap.size w w') : FormR w' n v f := by
 obtain ⟨a, c, H, e, r, q⟩ := h
 exact ⟨a, c, H, e, r.below hb, q.below hb⟩
abbrev zForm : Obj := .cells #[.int .i64 0, .slice none 0 0] 33
noncomputable abbrev facW (n : Nat) (W : List Int) : List (List Int) := facL (garN n) [] W
theorem facW_vs {n : Nat} {W : List Int} (h : WordOk n W) (k : Nat) : Vs (garN n).toGar (facW n (W.take k)) := word_vs fun x hx => h x (List.mem_of_mem_take hx)
theorem facW_len (n : Nat) (W : List Int) {k : Nat} (h : k ≤ W.length) : (facW n (W.take k)).length = k := by
 show (facL _ _ _).length = k
 rw [fac_len, List.length_take]; simp; omega
theorem form_nilR (w : World) : FormR w 1 (.agg #[.int .i64 0, .slice none 0 0]) (0, []) := by
 obtain ⟨a, c, e, r⟩ := ((SL.nil w).nilS (α := SlH) (c := cSl) (sz := 1) (e := 67) cSlS).slice 0 rfl
 cases e
 exact ⟨none, 0, [], rfl, r, rfl, fun k hk => by cases hk⟩
theorem normal_one (ad : Option Addr) (cap : Nat) (w : World) : Calls Tryz.prog 27 #[.int .i64 1, .slice ad 0 cap] w fun r w' => r = .returned (.agg #[.int .i64 0, .slice none 0 0]) ∧ Below w.heap.size w w' := by
 have hS := ((SL.nil w).box zForm).box zForm
 simp only [World.size_alloc] at hS
 obtain ⟨B, hB⟩ : ∃ B, B = w.heap.size := ⟨_, rfl⟩
 obtain ⟨w1, hw1⟩ : ∃ w1, w1 = (w.alloc zForm).alloc zForm := ⟨_, rfl⟩
 rw [← hw1, ← hB] at hS
 have q0 := (hS.blk 0 rfl).1
 go_enter Tryz.func27, Tryz.ntmps27
 go_wp2_with fail
 rw [← hB, ← hw1]
 clear hw1 hB
 go_wp2_with (first | (with_reducible refine wpList_ldS (n := 2) (us := #[.int .i64 0, .slice none 0 0]) A_form kR wU wU (by assumption) wU wU ?_) | ((with_reducible refine wpList_stoR (us := #[.int .i64 0, .slice none 0 0]) 1 wU wU (hS) wU kR wU wU ?_); intro w3 hS3))
 refine bodyPost_ret (results_cell rfl rfl A_form kR (hS.blk 1 rfl).1) rfl ⟨rfl, hS.b⟩
theorem SL.dropA {B : Nat} {w0 w : World} {L : List Pc} : ∀ {A : List Pc}, SL B w0 w (A ++ L) → SL B w0 w L
 | [], h => h
 | _ :: A, h => SL.dropA (A := A) (SL.tail h)
/-- new rows in the place of old ones. -/
theorem SL.renew {B : Nat} {w0 w : World} {v o d b : Pc} {R1 R2 : List Pc} (h : SL B w0 w (([v] ++ R2) ++ ([o, d, b] ++ R1))) : SL B w0 w ([v, d, b] ++ R2) := by
 have h1 : SL B w0 w ([o] ++ ([d, b] ++ (R1 ++ ([v] ++ R2)))) := by have := h.comm; simpa only [List.append_assoc, List.cons_append, List.nil_append] using this
 have h2 : SL B w0 w (([d, b] ++ R1) ++ ([v] ++ R2)) := by rw [List.append_assoc]; exact SL.tail h1
 have h4 : SL B w0 w ((([v] ++ R2) ++ [d, b]) ++ R1) := by have := h2.comm; simpa only [List.append_assoc, List.cons_append, List.nil_append] using this
 have h3 := (SL.dropA h4.comm).comm
 exact SL.pickA (K := [d, b, v]) (M := R2) (by simpa using h3) [2, 0, 1] (by decide) (fun i hi => by simp at hi; simp; omega) [v, d, b] rfl
/-- two early blocks put aside, and taken back. -/
theorem SL.rebase {B : Nat} {w0 w : World} {o1 o2 : Obj} {R : List Pc} (h : SL B w0 w ([pBlk (B + 1) o1, pBlk B o2] ++ R)) : SL (B + 2) w w R := by
 have hz := (h.blk 0 rfl).2.2
 obtain ⟨hb, _, f, h1, h2⟩ := h
 have f0 : f 0 = some (B + 1) := (h1 0 _ rfl).1.1
 have f1 : f 1 = some B := (h1 1 _ rfl).1.1
 refine ⟨Below.refl _ _, by omega, fun i => f (i + 2), fun i p hi => ?_, fun i j k hij hj e => ?_⟩
 ·have h3 := h1 (i + 2) p (by simpa using hi)
  refine ⟨h3.1, fun k hk => ?_⟩
  have h4 := h3.2 k hk
  have hl : i < R.length := by
   rcases Nat.lt_or_ge i R.length with h5 | h5
   ·exact h5
   ·rw [List.getElem?_eq_none h5] at hi; cases hi
  have h6 := h2 0 (i + 2) (B + 1) (by omega) (by simp; omega) f0
  have h7 := h2 1 (i + 2) B (by omega) (by simp; omega) f1
  have h8 : k ≠ B + 1 := fun e => h6 (by rw [← e]; exact hk)
  have h9 : k ≠ B := fun e => h7 (by rw [← e]; exact hk)
  omega
 ·exact h2 (i + 2) (j + 2) k (by omega) (by simp; omega) e
theorem SL.around {B : Nat} {w0 w w' : World} {o1 o2 : Obj} {R L : List Pc} (h : SL B w0 w ([pBlk (B + 1) o1, pBlk B o2] ++ R)) (hk : SL (B + 2) w w' L) : SL B w0 w' ([pBlk (B + 1) o1, pBlk B o2] ++ L) := by
 have q0 := (h.blk 0 rfl).1
 have q1 := (h.blk 1 rfl).1
 have hz := (h.blk 0 rfl).2.2
 obtain ⟨kb, kz, g, g1, g2⟩ := hk
 refine ⟨h.b.trans (kb.mono (by omega)), by omega, fun i => if i = 0 then some (B + 1) else if i = 1 then some B else g (i - 2), fun i p hi => ?_, fun i j k hij hj e e2 => ?_⟩
 ·rcases i with _ | _ | i
  ·simp at hi; subst hi
   exact ⟨⟨rfl, by rw [kb.block _ (by omega)]; exact q0⟩, fun k hk => by cases hk; omega⟩
  ·simp at hi; subst hi
   exact ⟨⟨rfl, by rw [kb.block _ (by omega)]; exact q1⟩, fun k hk => by cases hk; omega⟩
  ·have h3 := g1 i p (by simpa using hi)
   exact ⟨h3.1, fun k hk => by have := h3.2 k hk; omega⟩
 ·have hlen : ∀ i k, i < L.length → g i = some k → B + 2 ≤ k := fun i k hi e => (g1 i L[i] (List.getElem?_eq_getElem hi)).2 k e
  simp only [List.length_append, List.length_cons, List.length_nil] at hj
  rcases i with _ | _ | i <;> rcases j with _ | _ | j
  ·omega
  ·cases e; cases e2
  ·cases e; have := hlen j _ (by omega) e2; omega
  ·omega
  ·omega
  ·cases e; have := hlen j _ (by omega) e2; omega
  ·omega
  ·omega
  ·exact g2 i j k (by omega) (by omega) e e2
/-- the rows that are kept, with their handles. -/
def selH (g : List Int → Bool) (H : List SlH) (X : List (List Int)) (j : Nat) : List SlH := (((H.zip X).take j).filter fun q => g q.2).map Prod.fst
theorem selH_succ {g : List Int → Bool} {H : List SlH} {X : List (List Int)} {j : Nat} {x : SlH} (hH : H.length = X.length) (hj : j < X.length) (e : atD ((none, 0, 0) : SlH) H (j : Int) = x) : selH g H X (j + 1) = selH g H X j ++ (if g (nth X j) then [x] else []) := by
 have h1 : j < H.length := by omega
 have h2 : j < (H.zip X).length := by rw [List.length_zip]; omega
 have e1 : (H.zip X)[j] = (x, nth X j) := by
  rw [List.getElem_zip]
  refine Prod.ext ?_ ?_
  ·rw [← e]; simp [atD, h1]
  ·simp [nth, atD, hj]
 unfold selH
 rw [List.take_succ_eq_append_getElem h2, e1, List.filter_append, List.map_append]
 congr 1
 cases hg : g (nth X j) <;> simp [hg]
theorem selH_len {g : List Int → Bool} {H : List SlH} {X : List (List Int)} (j : Nat) : (selH g H X j).length ≤ j := by
 unfold selH
 rw [List.length_map]
 refine Nat.le_trans (List.length_filter_le _ _) ?_
 rw [List.length_take]; omega
theorem filt_snd (g : List Int → Bool) : ∀ (H : List SlH) (X : List (List Int)), H.length = X.length → (((H.zip X).filter fun q => g q.2).map Prod.snd) = X.filter g
 | [], [], _ => rfl
 | h :: H, x :: X, e => by
   have ih := filt_snd g H X (by simpa using e)
   rw [List.zip_cons_cons, List.filter_cons, List.filter_cons]
   cases hg : g x
   · simpa using ih
   · simp [ih]
 | [], x :: X, e => by simp at e
 | h :: H, [], e => by simp at e
theorem rowsR_zip {w : World} {n : Nat} {H : List SlH} {X : List (List Int)} (h : RowsR w n H X) : ∀ q ∈ H.zip X, ∃ a c, q.1 = (a, n, c) ∧ Ints w a c q.2 := fun q hq => by
 obtain ⟨i, hi, rfl⟩ := List.mem_iff_getElem.1 hq
 have h1 : i < X.length := by rw [List.length_zip] at hi; omega
 have h2 : i < H.length := by rw [List.length_zip] at hi; omega
 obtain ⟨a, c, e, r⟩ := h.2 i h1
 refine ⟨a, c, ?_, ?_⟩
 ·rw [List.getElem_zip, ← e]; simp [atD, h2]
 ·rw [List.getElem_zip]; simpa [nth, atD, h1] using r
theorem rowsR_of {w : World} {n : Nat} {Z : List (SlH × List Int)} (h : ∀ q ∈ Z, ∃ a c, q.1 = (a, n, c) ∧ Ints w a c q.2) : RowsR w n (Z.map Prod.fst) (Z.map Prod.snd) := ⟨by simp, fun k hk => by
 have hk1 : k < Z.length := by simpa using hk
 obtain ⟨a, c, e, r⟩ := h Z[k] (List.getElem_mem hk1)
 exact ⟨a, c, by rw [← e]; simp [atD, hk1], by simpa [nth, atD, hk1] using r⟩⟩
theorem RowsR.sel {w : World} {n : Nat} {H : List SlH} {X : List (List Int)} (h : RowsR w n H X) (g : List Int → Bool) : RowsR w n (selH g H X X.length) (X.filter g) := by
 have h1 := rowsR_zip h
 have h2 : (H.zip X).take X.length = H.zip X := List.take_of_length_le (by rw [List.length_zip]; omega)
 have h3 := rowsR_of (Z := (H.zip X).filter fun q => g q.2) (fun q hq => h1 q (List.mem_filter.1 hq).1)
 rw [filt_snd g H X h.1] at h3
 unfold selH
 rw [h2]
 exact h3
theorem sto_slsV (v : Value) (hv : ∃ a n c, v = .slice a n c) (w : World) (p : Addr) (h1 : (w.cell? p).isSome = true) (h2 : w.frozen? p = false) : (Instr.storeAt 31 (.pointer (some p)) v).run Tryz.prog w = .ok () (w.setCell p v) := by
 obtain ⟨a, n, c, rfl⟩ := hv
 obtain ⟨u, hu⟩ := Option.isSome_iff_exists.1 h1
 simp [go_sem, hu, h2]
/-- what is left of a list in which nothing can be pulled. -/
def notED (n : Nat) (p : List Int) : Bool := !(isE n p) && !(isD n p)
theorem fac_pos {n : Nat} {W : List Int} {k : Nat} {x : Int} (h : k < W.length) (e : atD 0 W k = x) (hx : 0 < x) : facW n (W.take (k + 1)) = facW n (W.take k) ++ [swpL (idL n) (ltrI x)] := by
 show facL _ _ _ = _
 rw [fac_take n h, e]
 unfold facG
 rw [if_pos hx]; rfl
theorem fac_neg {n : Nat} {W : List Int} {k : Nat} {x : Int} (h : k < W.length) (e : atD 0 W k = x) (hx : ¬ 0 < x) : facW n (W.take (k + 1)) = (facW n (W.take k)).map flP ++ [bkP (revP n) (ltrI x)] := by
 show facL _ _ _ = _
 rw [fac_take n h, e]
 unfold facG
 rw [if_neg hx]; rfl
theorem normal_any (n m : Nat) (ad : Option Addr) (cap : Nat) (W : List Int) (w : World) (hS : Ints w ad cap W) (hok : WordOk n W) (hm : W.length = m) (hn2 : 2 ≤ n) (hn : n ≤ 1000) (hm1 : m ≤ 1000) :
  Calls Tryz.prog 27 #[.int .i64 n, .slice ad m cap] w fun r w' => ∃ v L, r = .returned v ∧ SL w.heap.size w w' L ∧ ∀ B0 w0 V, SL B0 w0 V L → FormR V n v (formW n W) := by
 have hcap := hS.le
 have hmx := hS.max
 rw [hm] at hcap
 have hFL := fun k (hk : k ≤ m) => facW_len n W (k := k) (by omega)
 have hFV := fun k => facW_vs hok k
 have hLT := fun (k : Nat) (hk : k < m) => hok (atD 0 W k) (atD_mem (by omega))
 have hFP := fun (k : Nat) (hk : k < m) x e hx => fac_pos (n := n) (W := W) (k := k) (x := x) (by omega) e hx
 have hFN := fun (k : Nat) (hk : k < m) x e hx => fac_neg (n := n) (W := W) (k := k) (x := x) (by omega) e hx
 have hNG := fun (k : Nat) (hk : k < m) => neg_take (w := W) (k := k) (by omega)
 have hNL : ∀ k, negC (W.take k) ≤ 1000 := fun k => by
  unfold negC
  have := List.length_filter_le (fun x => decide (x < 0)) (W.take k)
  rw [List.length_take] at this
  omega
 have hZ : facW n (W.take 0) = [] ∧ negC (W.take 0) = 0 := ⟨rfl, rfl⟩
 have hFin : ∀ Y, NfW (garN n) W Y → formW n W = formY n W Y := fun Y h => formW_eq hok h
 obtain ⟨X, hX⟩ : ∃ X : Nat → List (List Int), ∀ k, X k = facW n (W.take k) := ⟨_, fun _ => rfl⟩
 obtain ⟨C, hC⟩ : ∃ C : Nat → Nat, ∀ k, C k = negC (W.take k) := ⟨_, fun _ => rfl⟩
 simp only [← hX] at hFL hFV hFP hFN hZ
 simp only [← hC] at hNG hNL hZ
 have HFL := hid hFL; have HFV := hid hFV; have HFP := hid hFP; have HFN := hid hFN; have HNG := hid hNG; have HNL := hid hNL; have HFI := hid hFin; have HLT := hid hLT
 have HXE := hid (hX m); have HCE := hid (hC m); have HW := hid hm
 have HS := hid hS; have HML : Hid (W.length = m) := hid hm
 have hSL := (((SL.nil w).box zForm).box zForm).nilS (α := SlH) (e := 67) cSlS
 simp only [World.size_alloc] at hSL
 have dn : decide ((n : Int) = 1) = false := decide_eq_false (by omega)
 obtain ⟨B, hB⟩ : ∃ B, B = w.heap.size := ⟨_, rfl⟩
 obtain ⟨w1, hw1⟩ : ∃ w1, w1 = (w.alloc zForm).alloc zForm := ⟨_, rfl⟩
 rw [← hw1, ← hB] at hSL
 obtain ⟨D, hD⟩ : ∃ D, D = B + 1 := ⟨_, rfl⟩
 rw [← hD] at hSL
 clear hFL hFV hFP hFN hNG hNL hFin hX hC hS hLT hok
 go_enter Tryz.func27, Tryz.ntmps27
 go_wp2_with fail
 rw [← hB, ← hw1]
 simp only [← hD]
 have HB := hid hB; have HD := hid hD
 clear hw1 hD hB
 go_wp2_with fail
 go_loopw [17, 8, 9, 6] (fun iv _ _ ov wr => ∃ (k : Nat) (H : List SlH), k ≤ m ∧ iv = .int .i64 k ∧ (k = 0 → ov = .slice none 0 0) ∧ H.length = k ∧ SL B w wr ([pOwn cSl 1 67 ov H, pBlk D (.cells #[.int .i64 (-(C k : Int)), .slice none 0 0] 33), pBlk B zForm] ++ (mxQ H (X k)).map inP)) (fun iv _ _ _ _ => m - (intOf iv).toNat)
 case atStart => exact ⟨0, [], by omega, rfl, fun _ => rfl, rfl, by rw [hZ.1, hZ.2]; exact hSL⟩
 case round =>
  clear hSL hZ
  obtain ⟨k, H, hk, rfl, h00, hH, hSr⟩ := hrel
  by_cases hlt : k < m
  ·clear h00
   have hWr := HS.out.below (by rw [← HB.out]; exact hSr.b)
   obtain ⟨x, hx⟩ : ∃ x, atD 0 W k = x := ⟨_, rfl⟩
   have hl := HLT.out k hlt
   rw [hx] at hl
   obtain ⟨p, hp⟩ : ∃ p : Nat, p = ltrI x := ⟨_, rfl⟩
   have hpn : p + 1 < n := by have := ltrI_lt hl; omega
   have hxr : x ≠ 0 ∧ absI x = (p : Int) + 1 ∧ -1000 ≤ x ∧ x ≤ 1000 := by
    have h1 := hl.1
    have h2 := hl.2
    unfold ltrI at hp
    unfold absI
    split at h2 <;> split at hp <;> split <;> omega
   obtain ⟨hx1, hab, hx2, hx3⟩ := hxr
   have HAB := hid (fun w => babs_any x w (by omega) (by omega))
   rw [hab] at HAB
   have hng := HNG.out k hlt
   rw [hx] at hng
   have HX := hid hx
   have hwp : IntKind.i64.wrap ((p : Int) + 1 - 1) = p := by rw [Int.add_sub_cancel]; exact IntWalk.i64_in _ (by omega)
   have HXL := hid (HFL.out k (by omega)); have HXV := hid (HFV.out k); have hH1 : H.length ≤ 1000 := by omega
   have hkW : (k : Int) < (W.length : Int) := by omega
   have HH := hid hH
   by_cases hx0 : 0 < x
   ·have dx : decide (0 < x) = true := decide_eq_true hx0
    have HFK := hid (HFP.out k hlt x hx hx0)
    rw [← hp] at HFK
    rw [if_neg (by omega), Nat.add_zero] at hng
    have HNK := hid hng
    clear hx hl hp hab hng hx0 hx1 hx2 hx3 hH
    go_wp2_with ((with_reducible refine wpList_idxN _ 0 E_ints F_int cInt1 wU wU (hWr) (HML.out) oD oD (fun _ => wU) (fun _ => ?_)); rw [HX.out])
    refine (HAB.out _).mono ?_
    rintro e w2 ⟨rfl, rfl⟩
    go_wp2_with fail
    refine (bidentity_any n _ hn).mono ?_
    rintro e w2 ⟨v2, rfl, ho, b2⟩
    have hS2 := hSr.call (SL.ofOwn ho b2)
    obtain ⟨a2, c2, hv2, hr2⟩ := hS2.slice (c := cInt) 0 rfl
    have hil := idL_len n
    rw [hil] at hv2
    subst hv2
    have HC := hid (fronted_any a2 c2 (idL n) p w2 hr2 (by rw [hil]; exact hpn) (by rw [hil]; exact hn))
    rw [hil] at HC
    clear ho b2 hSr hr2 hil
    go_wp2_with fail
    refine HC.out.mono ?_
    rintro e w3 ⟨v3, rfl, ho, b3⟩
    have hS3 := (hS2.call (SL.ofOwn ho b3)).comm (K := [pOwn cInt 1 3 v3 (swpL (idL n) p)])
    have hS4 := (SL.tail hS3).comm
    obtain ⟨a3, c3, hv3, hr3⟩ := hS4.slice (c := cInt) 0 rfl
    rw [swp_length, idL_len] at hv3
    subst hv3
    clear ho b3 hS2 hS3 HC hr3 hpn
    simp only [List.cons_append, List.nil_append] at hS4
    go_wp2_with ((with_reducible refine wpList_pushL (y := ((a3, n, c3) : SlH)) 1 E_smps wU wU (hS4) wU cSlO ⟨rfl, rfl⟩ (by first | with_unfolding_all rfl | simp) wU (by first | omega | (simp; omega)) (by first | omega | (simp; omega)) ?_); intro v4 w4 hS5)
    have hS6 := hS5.comm (K := [pOwn cInt 1 3 (.slice a3 n c3) (swpL (idL n) p)])
    exact ⟨⟨k + 1, H ++ [(a3, n, c3)], by omega, by go_num, fun e => by omega, by rw [List.length_append, HH.out]; rfl, by
     rw [HFK.out, HNK.out, mxQ_snoc (by rw [HH.out, HXL.out]), List.map_append]
     exact hS6⟩, by simp [intOf]; omega⟩
   ·have dx : decide (0 < x) = false := decide_eq_false hx0
    have HFK := hid (HFN.out k hlt x hx (by omega))
    rw [← hp] at HFK
    rw [if_pos (by omega)] at hng
    have HNK := hid hng
    have hCk := HNL.out k
    have hws : IntKind.i64.wrap (-(C k : Int) - 1) = -((C (k + 1) : Nat) : Int) := by rw [hng, IntWalk.i64_in _ (by omega)]; omega
    obtain ⟨N1, hN1⟩ : ∃ N1 : Int, N1 = -((C (k + 1) : Nat) : Int) := ⟨_, rfl⟩
    rw [← hN1] at hws
    have HN1 := hid hN1
    clear hx hl hp hab hng hx0 hx1 hx2 hx3 hH hN1 hCk
    go_wp2_with ((with_reducible refine wpList_idxN _ 0 E_ints F_int cInt1 wU wU (hWr) (HML.out) oD oD (fun _ => wU) (fun _ => ?_)); rw [HX.out])
    refine (HAB.out _).mono ?_
    rintro e w2 ⟨rfl, rfl⟩
    have cD := hSr.cell 1 rfl 0 rfl
    have fD := hSr.frozen 1 rfl 0
    go_wp2_with fail
    have hS1 : SL B w (wr.setCell ⟨D, 0, none⟩ (.int .i64 N1)) ([pOwn cSl 1 67 u6 H, pBlk D (.cells #[.int .i64 N1, .slice none 0 0] 33), pBlk B zForm] ++ (mxQ H (X k)).map inP) := hSr.set 1 rfl 0 (.int .i64 N1)
    obtain ⟨w3, hw3⟩ : ∃ w3, w3 = wr.setCell ⟨D, 0, none⟩ (.int .i64 N1) := ⟨_, rfl⟩
    rw [← hw3] at hS1 ⊢
    clear hw3 cD fD hSr hWr
    obtain ⟨a1, c1, hv1, hr1⟩ := hS1.slice (c := cSl) 0 rfl
    rw [HH.out] at hv1
    subst hv1
    have hrw := hS1.rowsR (pre := [pOwn cSl 1 67 (.slice a1 k c1) H, pBlk D (.cells #[.int .i64 N1, .slice none 0 0] 33), pBlk B zForm]) (n := n) (by rw [HH.out, HXL.out]) (fun r hr => (HXV.out r hr).2)
    refine (mappedF_any a1 c1 n k H (X k) w3 hr1 hrw HXL.out HXV.out hn (by omega)).mono ?_
    rintro e w4 ⟨v4, Ho, rfl, hHo, hS2⟩
    have hS3 := (hS1.call hS2).renew
    have HHO := hid hHo
    have hHo1 : Ho.length ≤ 1000 := by omega
    have HXM : Hid (((X k).map flP).length = k) := hid (by rw [List.length_map, HXL.out])
    clear hS1 hS2 hr1 hrw hHo
    go_wp2_with fail
    refine (half_any n _ (by omega) hn).mono ?_
    rintro e w2 ⟨v2, rfl, ho, b2⟩
    have hS2 := hS3.call (SL.ofOwn ho b2)
    obtain ⟨a2, c2, hv2, hr2⟩ := hS2.slice (c := cInt) 0 rfl
    have hil := rev_len n
    rw [hil] at hv2
    subst hv2
    have HC := hid (backed_any a2 c2 (revP n) p w2 hr2 (rev_VP n).1 (by rw [hil]; exact hpn) (by rw [hil]; exact hn))
    rw [hil] at HC
    clear ho b2 hr2 hil hS3
    go_wp2_with fail
    refine HC.out.mono ?_
    rintro e w3 ⟨v3, rfl, ho, b3⟩
    have hS3 := (hS2.call (SL.ofOwn ho b3)).comm (K := [pOwn cInt 1 3 v3 (bkP (revP n) p)])
    have hS4 := (SL.tail hS3).comm
    obtain ⟨a3, c3, hv3, hr3⟩ := hS4.slice (c := cInt) 0 rfl
    rw [((rev_VP n).bk hpn).2] at hv3
    subst hv3
    clear ho b3 hS2 hS3 HC hr3 hpn
    simp only [List.cons_append, List.nil_append] at hS4
    go_wp2_with ((with_reducible refine wpList_pushL (y := ((a3, n, c3) : SlH)) 1 E_smps wU wU (hS4) wU cSlO ⟨rfl, rfl⟩ (by first | with_unfolding_all rfl | simp) wU (by first | omega | (simp; omega)) (by first | omega | (simp; omega)) ?_); intro v5 w5 hS5)
    have hS6 := hS5.comm (K := [pOwn cInt 1 3 (.slice a3 n c3) (bkP (revP n) p)])
    exact ⟨⟨k + 1, Ho ++ [(a3, n, c3)], by omega, by go_num, fun e => by omega, by rw [List.length_append, HHO.out]; rfl, by
     rw [HFK.out, ← HN1.out, mxQ_snoc (by rw [HHO.out, HXM.out]), List.map_append]
     exact hS6⟩, by simp [intOf]; omega⟩
  ·have hkk : k = m := by omega
   subst hkk
   have hkn : ¬ ((k : Int) < (k : Int)) := by omega
   have hB2 : SL B w wr ([pBlk (B + 1) (.cells #[.int .i64 (-(C k : Int)), .slice none 0 0] 33), pBlk B zForm] ++ (pOwn cSl 1 67 u6 H :: (mxQ H (X k)).map inP)) := by
    rw [← HD.out]
    exact SL.pickA (K := [pOwn cSl 1 67 u6 H, pBlk D (.cells #[.int .i64 (-(C k : Int)), .slice none 0 0] 33), pBlk B zForm]) hSr [1, 2, 0] (by decide) (fun i hi => by simp at hi; simp; omega) [pBlk D (.cells #[.int .i64 (-(C k : Int)), .slice none 0 0] 33), pBlk B zForm, pOwn cSl 1 67 u6 H] rfl
   have hXk : X k = facL (garN n) [] W := by rw [HXE.out, ← HW.out, List.take_length]
   obtain ⟨ad6, c6, hv6, -⟩ := hSr.slice 0 rfl
   rw [hH] at hv6
   have HP : Hid (Calls Tryz.prog 67 #[u6] wr fun r w' => (∃ v, r = .returned v) ∧ ∃ H' Y, H'.length = k ∧ NfW (garN n) W Y ∧ Vs (garN n).toGar Y ∧ Y.length = k ∧ SL B w w' ([pBlk (B + 1) (.cells #[.int .i64 (-(C k : Int)), .slice none 0 0] 33), pBlk B zForm] ++ (pOwn cSl 1 67 u6 H' :: (mxQ H' Y).map inP))) := hid (by
    by_cases h0 : k = 0
    ·rw [h00 h0] at hB2 ⊢
     refine (push_nil wr).mono ?_
     rintro r w' ⟨hv, hb⟩
     have hX0 : X k = [] := List.length_eq_zero_iff.1 (by rw [HFL.out k (Nat.le_refl _), h0])
     refine ⟨hv, H, X k, hH, ⟨?_, ?_⟩, HFV.out k, HFL.out k (Nat.le_refl _), hB2.mono hb⟩
     ·rw [hXk]; exact .refl _
     ·rw [hX0]; intro Y hY; cases hY
    ·rw [hv6] at hB2 hSr ⊢
     rw [← hH] at hSr
     obtain ⟨G, hG, -⟩ := hSr.setOwn cSl1 0 rfl 0 (by omega) (by omega) (none, 0, 0)
     subst hG
     refine (push_any (G := G) (cp := c6) (H0 := H) (X0 := X k) (n := n) hB2.rebase hH (HFL.out k (Nat.le_refl _)) (HFV.out k) (by omega) hn hm1).mono ?_
     rintro r w' ⟨hv, H', Y, hH', hP, hN, hS'⟩
     exact ⟨hv, H', Y, hH', ⟨by rw [← hXk]; exact hP.star, hN⟩, hP.vs, by rw [hP.len]; exact HFL.out k (Nat.le_refl _), hB2.around hS'⟩)
   have HV6 := hid hv6
   clear hlt hk hSr hB2 hXk h00 hH hv6 H
   go_wp2_with fail
   refine HP.out.mono ?_
   rintro e w2 ⟨⟨v2, rfl⟩, H, Y, hH, hNf, hVs, hYl, hS2⟩
   clear HP
   have hv6 := HV6.out
   subst hv6
   have hS3 : SL B w w2 ([pOwn cSl 1 22 (.slice none 0 0) (selH (notED n) H Y 0), pBlk D (.cells #[.int .i64 (-(C k : Int) + halfN n (Y.take 0)), .slice none 0 0] 33), pBlk B zForm, pOwn cSl 1 67 (.slice ad6 k c6) H] ++ (mxQ H Y).map inP) := by
    have := hS2.nilS (α := SlH) (c := cSl) (sz := 1) (e := 22) cSlS
    rw [← HD.out] at this
    have e : (-(C k : Int) + halfN n (Y.take 0)) = -(C k : Int) := by rw [List.take_zero]; simp [halfN]
    rw [e]
    exact this
   have HNF := hid hNf; have HVS := hid hVs; have HYL := hid hYl; have HH := hid hH
   have HFIN := hid (HFI.out Y hNf)
   obtain ⟨hf, hhf⟩ : ∃ hf : Nat → Int, ∀ j, hf j = -(C k : Int) + halfN n (Y.take j) := ⟨_, fun _ => rfl⟩
   obtain ⟨sf, hsf⟩ : ∃ sf : Nat → List SlH, ∀ j, sf j = selH (notED n) H Y j := ⟨_, fun _ => rfl⟩
   have hS3b : SL B w w2 ([pOwn cSl 1 22 (.slice none 0 0) (sf 0), pBlk D (.cells #[.int .i64 (hf 0), .slice none 0 0] 33), pBlk B zForm, pOwn cSl 1 67 (.slice ad6 k c6) H] ++ (mxQ H Y).map inP) := by rw [hhf, hsf]; exact hS3
   have HHF := hid hhf; have HSF := hid hsf
   clear hS3 hS2 hNf hVs hYl hhf hsf hH HFI
   go_wp2_with fail
   go_loopw [50, 11, 60, 63] (fun iv _ _ _ wr => ∃ (j : Nat) (fv : Value), j ≤ k ∧ iv = .int .i64 j ∧ SL B w wr ([pOwn cSl 1 22 fv (sf j), pBlk D (.cells #[.int .i64 (hf j), fv] 33), pBlk B zForm, pOwn cSl 1 67 (.slice ad6 k c6) H] ++ (mxQ H Y).map inP)) (fun iv _ _ _ _ => k - (intOf iv).toNat)
   case atStart => exact ⟨0, .slice none 0 0, by omega, rfl, hS3b⟩
   case round =>
    clear hS3b hkn
    obtain ⟨j, fv, hj, rfl, hSr⟩ := hrel
    by_cases hlt : j < k
    ·have hrw := hSr.rowsR (pre := [pOwn cSl 1 22 fv (sf j), pBlk D (.cells #[.int .i64 (hf j), fv] 33), pBlk B zForm, pOwn cSl 1 67 (.slice ad6 k c6) H]) (n := n) (by rw [HH.out, HYL.out]) (fun r hr => (HVS.out r hr).2)
     obtain ⟨a1, c1, e1, h1⟩ := hrw.2 j (by rw [HYL.out]; exact hlt)
     have hRr := hSr.rd (c := cSl) 3 rfl
     have HE1 := hid e1
     have hvp := vs_nth HVS.out (k := j) (by rw [HYL.out]; exact hlt)
     have hse := selH_succ (g := notED n) (H := H) (X := Y) (j := j) (by rw [HH.out, HYL.out]) (by rw [HYL.out]; exact hlt) e1
     rw [← HSF.out, ← HSF.out] at hse
     have hfs : hf (j + 1) = hf j + (if isD n (nth Y j) then 1 else 0) := by rw [HHF.out, HHF.out, halfN_take (by rw [HYL.out]; exact hlt)]; omega
     have hsl : (sf j).length ≤ 1000 := by rw [HSF.out]; have := selH_len (g := notED n) (H := H) (X := Y) j; omega
     have hfb : -1000 ≤ hf j ∧ hf j ≤ 1000 := by
      rw [HHF.out]
      have h2 := HNL.out k
      have h3 : 0 ≤ halfN n (Y.take j) ∧ halfN n (Y.take j) ≤ 1000 := by
       unfold halfN
       have := List.length_filter_le (isD n) (Y.take j)
       rw [List.length_take] at this
       omega
      omega
     obtain ⟨T, hT⟩ : ∃ T, T = nth Y j := ⟨_, rfl⟩
     rw [← hT] at h1 hvp hse hfs
     have HPL := hid (fun w h => plain_any a1 c1 n T w h hvp hn)
     have HEQ := hid (fun a2 c2 w h h2 => equalS_any a1 a2 c1 c2 n T (revP n) w h h2 hvp.2 (rev_len n) hn)
     obtain ⟨bE, hbE⟩ : ∃ b, b = isE n T := ⟨_, rfl⟩
     obtain ⟨bD, hbD⟩ : ∃ b, b = decide (T = revP n) := ⟨_, rfl⟩
     have HED : Hid (bE = true → bD = false) := hid fun h => by
      rw [hbE] at h
      have h1 : T = idL n := of_decide_eq_true h
      rw [hbD, h1]
      exact decide_eq_false (e_ne_D hn2)
     have hse2 : sf (j + 1) = sf j ++ if (!bE && !bD) = true then [(a1, n, c1)] else [] := by rw [hbE, hbD]; exact hse
     have hfs2 : hf (j + 1) = hf j + if bD = true then 1 else 0 := by rw [hbD]; exact hfs
     rw [← hbE] at HPL
     rw [← hbD] at HEQ
     have HSE := hid hse2; have HFS := hid hfs2; have HJ := hid (show sf (j + 1) = sf (j + 1) from rfl)
     have hkH : (j : Int) < (H.length : Int) := by rw [HH.out]; omega
     obtain ⟨hb1, hb2⟩ := hfb
     obtain ⟨F, hF⟩ : ∃ F : Int, F = hf j := ⟨_, rfl⟩
     obtain ⟨S, hS⟩ : ∃ S, S = sf j := ⟨_, rfl⟩
     rw [← hF] at hSr hb1 hb2 HFS
     rw [← hS] at hSr hsl HSE
     clear hse2 hfs2 hse hfs hbE hbD hvp hT e1 hrw HJ hF hS
     go_wp2_with ((with_reducible refine wpList_idxN _ ((none, 0, 0) : SlH) E_smps F_smp cSl1 wU wU (hRr) (HH.out) oD oD (fun _ => wU) (fun _ => ?_)); rw [HE1.out])
     refine (HPL.out _ h1).mono ?_
     rintro e w3 ⟨rfl, b3⟩
     have hS1 := hSr.mono b3
     have h1b := h1.below b3
     have htl : IntKind.i64.wrap (F + 1) = F + 1 := IntWalk.i64_in _ (by omega)
     clear hRr hSr h1 b3 HPL
     cases bE with
     | true =>
      clear HEQ h1b
      have e2 : bD = false := HED.out rfl
      subst e2
      go_wp2_with fail
      exact ⟨⟨j + 1, fv, by omega, by go_num, by rw [HSE.out, HFS.out]; simpa using hS1⟩, by simp [intOf]; omega⟩
     | false =>
      go_wp2_with fail
      refine (half_any n _ (by omega) hn).mono ?_
      rintro e w4 ⟨v4, rfl, ho, b4⟩
      obtain ⟨a2, c2, hv2, hr2, -⟩ := ho.reps
      rw [rev_len] at hv2
      subst hv2
      have HC := hid (HEQ.out a2 c2 w4 (h1b.below b4) hr2)
      have hS2 := hS1.mono b4
      clear HEQ ho hr2 hS1 h1b b4
      go_wp2_with fail
      refine HC.out.mono ?_
      rintro e w5 ⟨rfl, b5⟩
      have hS1 := hS2.mono b5
      clear HC hS2 b5
      cases bD with
      | true =>
       have cD := hS1.cell 1 rfl 0 rfl
       have fD := hS1.frozen 1 rfl 0
       go_wp2_with fail
       have hS3 := hS1.set 1 rfl 0 (.int .i64 (F + 1))
       exact ⟨⟨j + 1, fv, by omega, by go_num, by rw [HSE.out, HFS.out]; simpa using hS3⟩, by simp [intOf]; omega⟩
      | false =>
       have cD := hS1.cell 1 rfl 1 rfl
       go_wp2_with (first | ((with_reducible refine wpList_pushL (y := ((a1, n, c1) : SlH)) 0 E_sls wU wU (hS1) wU cSlO ⟨rfl, rfl⟩ (by first | with_unfolding_all rfl | simp) wU (by first | omega | (simp; omega)) (by first | omega | (simp; omega)) ?_); intro v6 w6 hS3) | (with_reducible refine wpList_stoAt (sto_slsV v6 (isSl hS3 0 rfl) _ _) wU wU (hS3.cell 1 rfl 1 rfl) (hS3.frozen 1 rfl 1) ?_))
       have hS4 := hS3.set 1 rfl 1 v6
       exact ⟨⟨j + 1, v6, by omega, by go_num, by rw [HSE.out, HFS.out]; simpa using hS4⟩, by simp [intOf]; omega⟩
    ·have hjk : j = k := by omega
     subst hjk
     obtain ⟨af, cf, hfv, hRf⟩ := hSr.slice 0 rfl
     subst hfv
     have q0 := (hSr.blk 1 rfl).1
     have hjn : ¬ ((j : Int) < (j : Int)) := by omega
     clear hlt hj
     go_wp2_with (first | (with_reducible refine wpList_ldS (n := 2) (us := #[.int .i64 (hf j), .slice af (sf j).length cf]) A_form kR wU wU (by assumption) wU wU ?_) | ((with_reducible refine wpList_stoR (us := #[.int .i64 (hf j), .slice af (sf j).length cf]) 2 wU wU (hSr) wU kR wU wU ?_); intro w3 hS3))
     have hC : C j = negC W := by rw [HCE.out, ← HW.out, List.take_length]
     have hh : hf j = (formY n W Y).1 := by
      rw [HHF.out, hC, List.take_of_length_le (by rw [HYL.out]; exact Nat.le_refl _)]
      show _ = halfN n Y - (negC W : Int)
      omega
     have hS4 : SL w.heap.size w w3 ([pOwn cSl 1 22 (.slice af (sf j).length cf) (sf j), pBlk D (.cells #[.int .i64 (hf j), .slice af (sf j).length cf] 33), pBlk B (.cells #[.int .i64 (hf j), .slice af (sf j).length cf] 33), pOwn cSl 1 67 (.slice ad6 j c6) H] ++ (mxQ H Y).map inP) := by rw [← HB.out]; exact hS3
     refine bodyPost_ret (results_cell rfl rfl A_form kR (hS3.blk 2 rfl).1) rfl ⟨_, rfl, _, hS4, fun B0 w0 V hV => ?_⟩
     have hrw := (hV.rowsR (n := n) (by rw [HH.out, HYL.out]) (fun r hr => (HVS.out r hr).2)).sel (notED n)
     rw [HYL.out, ← HSF.out] at hrw
     rw [HFIN.out]
     refine ⟨af, cf, sf j, ?_, hV.rd 0 rfl, hrw⟩
     rw [hrw.1, hh]
     rfl
theorem form_one {W : List Int} (h : WordOk 1 W) : W = [] ∧ formW 1 W = (0, []) := by
 have h1 : W = [] := by
  cases W with
  | nil => rfl
  | cons x W =>
   have h2 := h x List.mem_cons_self
   have h3 := h2.1
   have h4 := h2.2
   split at h4 <;> omega
 refine ⟨h1, ?_⟩
 rw [formW_eq h (Y := []) ⟨by rw [h1]; exact .refl _, fun Y hY => by cases hY⟩, h1]
 rfl
/-- the form, and the pieces that it lies in. -/
theorem normal_allS (n m : Nat) (ad : Option Addr) (cap : Nat) (W : List Int) (w : World) (hS : Ints w ad cap W) (hok : WordOk n W) (hm : W.length = m) (h1 : 1 ≤ n) (hn : n ≤ 1000) (hm1 : m ≤ 1000) :
  Calls Tryz.prog 27 #[.int .i64 n, .slice ad m cap] w fun r w' => ∃ v L, r = .returned v ∧ SL w.heap.size w w' L ∧ ∀ B0 w0 V, SL B0 w0 V L → FormR V n v (formW n W) := by
 by_cases h2 : n = 1
 ·subst h2
  obtain ⟨h3, h4⟩ := form_one hok
  subst h3
  rw [h4, ← hm]
  refine (normal_one ad cap w).mono ?_
  rintro e w1 ⟨rfl, b⟩
  exact ⟨_, [], rfl, SL.of_below b, fun B0 w0 V hV => form_nilR V⟩
 ·exact normal_any n m ad cap W w hS hok hm (by omega) hn hm1
end Go.Proofs.YtdeoogbiipodmaaGreat

namespace Go.Proofs.YtdeoogbiipodmaaGreat
open Go.RowKit
set_option maxRecDepth 100000
/-- all blocks from B on stay as they are, and those of K. -/
structure KeepNew (K : Nat → Prop) (B : Nat) (W W' : World) : Prop where
 size : W.heap.size ≤ W'.heap.size
 same : ∀ k, (B ≤ k ∨ K k) → k < W.heap.size → W'.heap[k]? = W.heap[k]?
theorem KeepNew.refl (K : Nat → Prop) (B : Nat) (W : World) : KeepNew K B W W := ⟨Nat.le_refl _, fun _ _ _ => rfl⟩
theorem KeepNew.trans {K : Nat → Prop} {B : Nat} {X Y Z : World} (h : KeepNew K B X Y) (k : KeepNew K B Y Z) : KeepNew K B X Z := ⟨Nat.le_trans h.size k.size, fun i h0 h1 => (k.same i h0 (Nat.lt_of_lt_of_le h1 h.size)).trans (h.same i h0 h1)⟩
theorem KeepNew.le {K : Nat → Prop} {B C : Nat} {X Y : World} (h : KeepNew K B X Y) (hB : B ≤ C) : KeepNew K C X Y := ⟨h.size, fun i h0 h1 => h.same i (h0.imp (fun e => Nat.le_trans hB e) id) h1⟩
theorem KeepNew.put {K : Nat → Prop} {C : Nat} {X : World} {l : Nat} (o : Obj) (hl : l < C) (hk : ¬ K l) : KeepNew K C X (X.putObj l o) := ⟨by simp [World.putObj], fun i h0 h1 => World.putObj_heap_other (fun e => by subst e; rcases h0 with h0 | h0; omega; exact hk h0)⟩
theorem KeepNew.grown {K : Nat → Prop} {C : Nat} {X Y : World} {row : Option Nat} (h : X.grownBy Y row) (hr : ∀ r, row = some r → r < C ∧ ¬ K r) : KeepNew K C X Y :=
 ⟨h.size, fun i h0 h1 => h.block i h1 (fun e => by obtain ⟨a, b⟩ := hr i e.symm; rcases h0 with h0 | h0; omega; exact b h0)⟩
section
variable {F : Fence} {n : Nat} {P : Program}
end
end Go.Proofs.YtdeoogbiipodmaaGreat

namespace Go.Proofs.YtdeoogbiipodmaaGreat
open Go.RowKit
set_option maxHeartbeats 8000000
set_option maxRecDepth 100000
theorem word_okE {n : Nat} {l : List Int} (h : wordE (n : Int) l = 0) : WordOk n l := fun x hx => by
 obtain ⟨h1, h2, _, h4⟩ := wordE_fits h
 have h5 := h4 x hx
 refine ⟨h5.1, ?_⟩
 split <;> omega
end Go.Proofs.YtdeoogbiipodmaaGreat

namespace Go.Proofs.YtdeoogbiipodmaaGreat
open Go.RowKit
set_option maxHeartbeats 8000000
set_option maxRecDepth 100000
theorem expL_rng {w : List Int} : ∀ k : Nat, -(k : Int) ≤ expL (w.take k) ∧ expL (w.take k) ≤ k := fun k => by
 induction k with
 | zero => simp [expL]
 | succ k ih =>
  by_cases h : k < w.length
  ·have e : w.take (k + 1) = w.take k ++ [w[k]] := List.take_succ_eq_append_getElem h
   rw [e, expL_snoc]
   have : -1 ≤ sgnI w[k] ∧ sgnI w[k] ≤ 1 := by unfold sgnI; split <;> omega
   omega
  ·rw [List.take_of_length_le (by omega)]
   rw [List.take_of_length_le (by omega)] at ih
   omega
theorem exponent_any (a : Option Addr) (cap : Nat) (l : List Int) (w : World) (hS : Ints w a cap l) (hl : l.length ≤ 1000) (hr : ∀ x ∈ l, x ≠ 0 ∧ -1000 ≤ x ∧ x ≤ 1000) :
  Calls Tryz.prog 50 #[.slice a l.length cap] w fun r w' => r = .returned (.int .i64 (expL l)) ∧ Below w.heap.size w w' := by
 have hcap := hS.le
 have hmx := hS.max
 have HSG : Hid (∀ x ∈ l, ∀ W, Calls Tryz.prog 83 #[.int .i64 x] W fun r w' => r = .returned (.int .i64 (sgnI x)) ∧ W = w') := hid fun x hx W => bsign_any x W (hr x hx).1
 obtain ⟨F, hF⟩ : ∃ F : Nat → Int, ∀ k, F k = expL (l.take k) := ⟨_, fun _ => rfl⟩
 have hF0 : F 0 = 0 := by rw [hF]; rfl
 have hFm : F l.length = expL l := by rw [hF, List.take_length]
 have hFs : ∀ k, k < l.length → F (k + 1) = F k + sgnI (atD 0 l k) := fun k hk => by
  have e : l.take (k + 1) = l.take k ++ [atD 0 l k] := by rw [List.take_succ_eq_append_getElem hk]; simp [atD, hk]
  rw [hF, hF, e, expL_snoc]
 have hFr : ∀ k : Nat, -(k : Int) ≤ F k ∧ F k ≤ k := fun k => by rw [hF]; exact expL_rng k
 rw [← hFm]
 have HFS := hid hFs; have HFR := hid hFr; have HF0 := hid hF0
 clear hF hF0 hFm hFs hFr hr
 go_enter Tryz.func50, Tryz.ntmps50
 go_wp2_with fail
 go_loopw [8, 5, 3] (fun iv _ sv wr => ∃ k : Nat, iv = .int .i64 k ∧ sv = .int .i64 (F k) ∧ k ≤ l.length ∧ Below w.heap.size w wr) (fun iv _ _ _ => l.length - (intOf iv).toNat)
 case atStart => exact ⟨0, rfl, by rw [HF0.out], by omega, Below.refl _ _⟩
 case round =>
  obtain ⟨k, rfl, rfl, hk, hbr⟩ := hrel
  by_cases hlt : k < l.length
  ·have hSr := hS.below hbr
   have hmem := atD_mem hlt
   have hst := HFS.out k hlt
   have h1 := HFR.out k
   have h2 := HFR.out (k + 1)
   obtain ⟨x, hx⟩ : ∃ x, x = atD 0 l k := ⟨_, rfl⟩
   rw [← hx] at hmem hst
   obtain ⟨G, hG⟩ : ∃ G, G = F k := ⟨_, rfl⟩
   rw [← hG] at hst h1 ⊢
   have hw : IntKind.i64.wrap (G + sgnI x) = F (k + 1) := by rw [hst] at h2 ⊢; exact IntWalk.i64_in _ (by omega)
   have HX := hid hx
   have HC := hid (HSG.out x hmem)
   clear hx hG hst h1 h2 hmem
   go_wp2_with ((with_reducible refine wpList_idx _ 0 E_ints F_int cInt1 wU wU (hSr) oD oD (fun _ => wU) (fun _ => ?_)); rw [← HX.out])
   refine (HC.out _).mono ?_
   rintro e w1 ⟨rfl, rfl⟩
   go_wp2_with fail
   exact ⟨⟨k + 1, by go_num, rfl, by omega, hbr⟩, by simp [intOf]; omega⟩
  ·have hkk : k = l.length := by omega
   subst hkk
   have hkn : ¬ ((l.length : Int) < (l.length : Int)) := by omega
   clear hlt hk
   go_wp2_with fail
   go_ret
   exact ⟨rfl, hbr⟩
theorem Exponent_any (n : Nat) (a : Option Addr) (cap : Nat) (l : List Int) (w : World) (hS : Ints w a cap l) (h : wordE (n : Int) l = 0) :
  Calls Tryz.prog 18 #[.int .i64 n, .slice a l.length cap] w fun r w' => r = .returned (.tuple #[.int .i64 (expL l), .int .i64 0]) ∧ Below w.heap.size w w' := by
 obtain ⟨hn1, hn2, hl, hx⟩ := wordE_fits h
 have CW := fun w (hS : Ints w a cap l) => CheckWord_any n a cap l w hS (by omega)
 rw [h] at CW
 have HW := hid CW
 have HP := hid (fun w (hS : Ints w a cap l) => exponent_any a cap l w hS (by omega) (fun x hm => by have := hx x hm; omega))
 clear CW h hx
 go_enter Tryz.func18, Tryz.ntmps18
 go_wp2_with fail
 refine (HW.out _ hS).mono ?_
 rintro e w1 ⟨rfl, b1⟩
 go_wp2_with fail
 refine (HP.out _ (hS.below b1)).mono ?_
 rintro e w2 ⟨rfl, b2⟩
 go_wp2_with fail
 go_ret2
 exact ⟨rfl, bnext b1 b2⟩
end Go.Proofs.YtdeoogbiipodmaaGreat

namespace Go.Proofs.YtdeoogbiipodmaaGreat
open Go.RowKit
set_option maxHeartbeats 8000000
set_option maxRecDepth 100000
def oneM : MacV := ⟨false, 1, 1, []⟩
theorem one_all : AllC oneM := allC_of (n := 4) rfl (by decide)
theorem one_in {l : List Int} (h : (l.all fun x => decide (0 ≤ x ∧ x < 4)) = true) : ∀ x ∈ l, InS oneM x := fun x hx => by
 have := List.all_eq_true.1 h x hx
 simp only [decide_eq_true_eq] at this
 exact ⟨this.1, by have : (4 : Int) * oneM.gears = 4 := rfl
                   omega⟩
theorem one_first {l : List Int} (h : (l.all fun x => decide (0 ≤ x ∧ x < 4)) = true) : firstM oneM l = firstC oneM l := firstC_ok one_all (one_in h)
theorem ov_wrdE : wrdE oneM [0, 2] 4 = 0 := by unfold wrdE weaveE meetsM; rw [one_first rfl]; rfl
theorem ov_wrd : wrdL oneM [0, 2] 4 = [-1, -1] := by first | rfl | decide | kernel_rfl
theorem one_ck : ChkM oneM none 0 := fun w h => CheckMachine_any oneM none 0 w h (by show InI (1 : Int); unfold InI; omega)
theorem one_word (w : World) (al : Option Addr) (hL : Ints w al 2 [0, 2]) : Calls Tryz.prog 7 #[mV oneM none 0, .slice al 2 2, .int .i64 4] w fun r w' => ∃ v, r = .returned (.tuple #[v, .int .i64 0]) ∧ OwnI w.heap.size w' v [-1, -1] ∧ Below w.heap.size w w' := by
 have h := mWord_any oneM none 0 al 2 [0, 2] 4 w (ints_nil _) hL (CheckLoad_any oneM none 0 al 2 [0, 2] one_ck)
 rw [ov_wrdE, if_pos rfl, ov_wrd] at h
 exact h
end Go.Proofs.YtdeoogbiipodmaaGreat
