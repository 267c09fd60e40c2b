/- Contracts and plain facts that the claim uses (QrY K5a K5). Conditions: as each one states. -/
import Derived.RangeFuncNested
import Derived.RangeFuncBound
import Derived.RangeFuncCalls
import Derived.RangeFuncLeaves
import Derived.RangeFuncFrom
import Derived.Shelf.Abstract
import Derived.Shelf.RegionOpen
import Derived.WalkKit
import Derived.OwnWalkIn
import Derived.TacticsInMore
import Derived.LoopNIn
import Derived.LoopIn
import Derived.Test.YtoebgfgihfjnnaaGreatDoorProg
import Derived.WalkSpells
import Derived.Maps.AppendAt
import Derived.Deep.Quiet
import Derived.Maps.Own
import Derived.Maps.OwnSet
import Derived.Maps.Views
import Derived.WalkLawsBesides
import Derived.Laws.EntriesVeiled
import Derived.Deep.QuietTactic
import Derived.BigQuiet
import Derived.Shelf.Strings.Trim
import Derived.Shelf.Strings.SlTrimAscii
import Derived.Shelf.Strings.Repeat
import Derived.Shelf.Strings.OnBuilder
import Derived.Shelf.Strconv.Itoa1
import Derived.Shelf.Strconv.Itoa3
import Derived.Shelf.LaysM
import Derived.Ground.Names2Prog
import Derived.Lib.OthersKept
import Derived.Deep.RegionHeld3
import Derived.Deep.AppendLies
import Derived.Deep.RegionHeldLaw
import Derived.Deep.RegionLaw
import Derived.StillTail
import Derived.Laws.Tables
import Derived.IntWalk
import Derived.Laws.CopyOwn
import Derived.BigRegion
import Derived.ChangeAlike
import Derived.Shelf.Bits.Mul64
import Derived.Lib.ItoaLen
import Derived.Lib.ItoaMem
import Derived.Sort.LoopGhostIn
import Derived.Maps.RangeWalk
import Derived.Maps.Ext
import Derived.Deep.LoopGhost
import Derived.Lib.Split
import Derived.Lib.AtoiAll
import Derived.Shelf.Strconv.ErrVarAll
import Derived.Shelf.Strconv.AtoiAll
import Derived.Shelf.Strings.Cut
import Derived.Shelf.Strings.Split
import Derived.Shelf.Strings.SplitShaped
import Derived.Lib.AppendIntMem
import Derived.Lib.SmallJoins
import Derived.LaidSub
import Derived.Lib.LaidTab
import Derived.Lib.AtoiErrMem
import Derived.Stop.LaidErr
import Derived.ReadAgain
import Derived.ChangeSlices
import Derived.OpenShut
import Derived.ProofKit
import Derived.Deep.DeepHandedRow
import Derived.Deep.SlicePairs
import Derived.Sort.QuietThIn
import Derived.Test.YtoebgfgihfjnnaaGreatDoorXz01
import Derived.Test.YtoebgfgihfjnnaaGreatDoorXz02
import Derived.Test.YtoebgfgihfjnnaaGreatDoorXz03
import Derived.Test.YtoebgfgihfjnnaaGreatDoorXz04
import Derived.Test.YtoebgfgihfjnnaaGreatDoorXz05
import Derived.Test.YtoebgfgihfjnnaaGreatDoorXz06
import Derived.Test.YtoebgfgihfjnnaaGreatDoorXz07
import Derived.Test.YtoebgfgihfjnnaaGreatDoorXz08
import Derived.Test.YtoebgfgihfjnnaaGreatDoorXz09
import Derived.Test.YtoebgfgihfjnnaaGreatDoorXz10
import Derived.Test.YtoebgfgihfjnnaaGreatDoorXz11
import Derived.Test.YtoebgfgihfjnnaaGreatDoorXz12
import Derived.Test.YtoebgfgihfjnnaaGreatDoorY4501
import Derived.Test.YtoebgfgihfjnnaaGreatDoorY4502
import Derived.Test.YtoebgfgihfjnnaaGreatDoorY4503
import Derived.Test.YtoebgfgihfjnnaaGreatDoorY4504
import Derived.Test.YtoebgfgihfjnnaaGreatDoorY4505
set_option linter.all false

namespace Go.Proofs.YtoebgfgihfjnnaaGreatDoor
open Go.RowKit
set_option maxHeartbeats 4000000
set_option maxRecDepth 100000
theorem rSame_same (m : MacV) (a b : Option Addr) (c d : Nat) (w : World) (hA : Ints w a c m.sw) (hB : Ints w b d m.sw) (hl : m.sw.length ≤ 1048576) :
  Calls Tryz.prog 35 #[mV m a c, mV m b d] w fun r w' => r = .returned (.bool true) ∧ Below w.heap.size w w' := by
 have CS := fun w h h2 => SameInts_any a b c d m.sw m.sw w h h2 hl
 rw [decide_eq_true rfl] at CS
 have HS := hid CS
 have hS := ((SL.nil w).box (.cells (mC m a c) 25)).box (.cells (mC m b d) 25)
 clear CS
 go_enter Tryz.func35, Tryz.ntmps35
 go_wp2_with fail
 refine (HS.out _ (hA.below hS.b) (hB.below hS.b)).mono ?_
 rintro e w1 ⟨rfl, b1⟩
 go_wp2_with fail
 go_ret
 exact ⟨rfl, bnext hS.b b1⟩
end Go.Proofs.YtoebgfgihfjnnaaGreatDoor

namespace Go.Proofs.YtoebgfgihfjnnaaGreatDoor
open Go.RowKit
set_option maxHeartbeats 8000000
set_option maxRecDepth 100000
theorem swGo_shared (m : MacV) : ∀ (l : List Int) (o : Option Int), swGo m o l = 0 → ∀ x ∈ l, sharedM m x = true
 | [], _, _, x, hx => by cases hx
 | s :: r, o, h, x, hx => by
   unfold swGo at h
   cases hs : sharedM m s with
   | false => rw [hs] at h; simp at h
   | true =>
     rw [hs, if_neg (by decide)] at h
     have hr : ∃ o2, swGo m o2 r = 0 := by
       cases o with
       | none => exact ⟨_, h⟩
       | some b =>
         simp only at h
         split at h
         · omega
         · exact ⟨_, h⟩
     obtain ⟨o2, hr⟩ := hr
     rcases List.mem_cons.1 hx with rfl | hx
     · exact hs
     · exact swGo_shared m r o2 hr x hx
theorem sw_small {m : MacV} (h : macE m = 0) : ∀ x ∈ m.sw, 0 ≤ x ∧ x < 100 := fun x hx => by
 obtain ⟨hok, hs⟩ := macE_zero h
 obtain ⟨a, b, _⟩ := shared_iff.1 (swGo_shared m m.sw none hs x hx)
 have := hok.hi
 omega
theorem parse_small (S : List UInt8) : (parseMB S).1.sw.length ≤ 1048576 := by
 by_cases h : (parseMB S).2 = 0
 ·have h2 : parseMB S = ((parseMB S).1, 0) := by rw [← h]
  have := (macE_zero (parse_print h2).2.1).1
  have a := this.many
  have b := this.hi
  omega
 ·have key : ∀ P : MacV × Int, (P.2 = 0 ∨ P.1 = noM) → P.2 ≠ 0 → P.1.sw.length ≤ 1048576 := fun P h1 h2 => by
   rcases h1 with h1 | h1
   ·exact absurd h1 h2
   ·rw [h1]; decide
  refine key _ ?_ h
  unfold parseMB
  split
  ·exact .inr rfl
  ·generalize spl 32 S = L
   match L with
   | [] => exact .inr rfl
   | [_] => exact .inr rfl
   | [_, _] => exact .inr rfl
   | [_, _, _] => exact .inr rfl
   | _ :: _ :: _ :: _ :: _ :: _ => exact .inr rfl
   | [k, g, t, w] =>
    rw [parseGo]
    split
    ·exact .inr rfl
    ·split
     ·rename_i n v _ _
      by_cases hq : macE ⟨decide (k = ringT), n, if t = [45] then -1 else 1, v⟩ ≠ 0
      ·rw [if_pos hq]; exact .inr rfl
      ·rw [if_neg hq]; exact .inl rfl
     ·exact .inr rfl
theorem mt_mac (m : MacV) (ad al : Option Addr) (cap cl : Nat) (l : List Int) (S : List UInt8) (w : World) (hR : Ints w ad cap m.sw) (hL : Ints w al cl l) (hI : InI m.gears) (hw : LibW w) (hsb : (decide (m.sw.length ≤ 19) && decide (l.length ≤ 67)) = true) (hS100 : S.length ≤ 100) (he : macE m ≠ 0) :
  Calls Tryz.prog 4 #[mV m ad cap, .slice al l.length cl, .string (bT S)] w fun r w' => r = .returned (.bool true) ∧ Below w.heap.size w w' := by
 have hS0 := ((SL.nil w).box (.cells (mC m ad cap) 24)).box (.cells (mC m ad cap) 25)
 simp only [World.size_alloc] at hS0
 have HA := hid awake4_any
 have hlc := hL.le
 have CSh := fun w => rShort_any m ad cap al cl l.length w
 rw [hsb] at CSh
 have HSh := hid CSh
 clear CSh
 have hsz := bT_size S
 have KM : ChkM m ad cap := fun w h => CheckMachine_any m ad cap w h hI
 have KL : ChkL m ad cap al cl l := CheckLoad_any m ad cap al cl l KM
 have CP := fun w h => mPrint_any m ad cap w h KM sw_small
 have CPA := fun w (h : LibW w) => mParse_any S w h (by omega)
 have CRA := fun w => rParse4_any S w (by omega)
 have CM := fun w h => rCheckMachine_any m ad cap w h
 have CK := fun w h h2 => lcheck_any m ad cap al cl l w h h2
 have CMI := fun w h h2 => mMirrored_any m ad cap al cl l w h h2 KL
 have CBA := fun w h h2 => mBackwards_any m ad cap al cl l w h h2 KL
 have hys := parse_small S
 obtain ⟨Y, hY⟩ : ∃ Y, Y = (parseMB S).1 := ⟨_, rfl⟩
 obtain ⟨EY, hEY⟩ : ∃ EY, EY = (parseMB S).2 := ⟨_, rfl⟩
 rw [← hY, ← hEY] at CPA CRA
 rw [← hY] at hys
 unfold RetMac at CPA CRA
 obtain ⟨s, hs⟩ : ∃ s, s = bT S := ⟨_, rfl⟩
 rw [← hs] at CPA CRA hsz ⊢
 have h100 : ¬ 100 < s.size := by omega
 have HPA := hid CPA; have HRA := hid CRA
 clear KM KL CPA CRA hY hEY hs hsz hS100 hsb
 have hle : loadE m l = macE m := by unfold loadE; rw [if_pos he]
 have hl0 : loadE m l ≠ 0 := by rw [hle]; exact he
 rw [if_neg he] at CP
 rw [if_neg hl0, if_neg hl0, if_neg hl0, hle] at CMI CBA
 rw [hle] at CK
 obtain ⟨E, hE⟩ : ∃ E, E = macE m := ⟨_, rfl⟩
 rw [← hE] at CP CM CK CMI CBA he
 have hne : (E != 0) = true := by simpa using he
 have hne2 : (E == 0) = false := by simpa using he
 have HP := hid CP; have HM := hid CM; have HCK := hid CK; have HMI := hid CMI; have HBA := hid CBA
 clear CP CM CK CMI CBA hE he hle hl0 hI
 go_enter Tryz.func4, Tryz.ntmps4
 go_wp2_with fail
 refine (HA.out _ (hw.below hS0.b)).mono ?_
 rintro e w1 ⟨rfl, b1⟩
 have hS1 := hS0.mono b1
 have q1_rm := (hS1.blk 0 rfl).1
 have q1_m := (hS1.blk 1 rfl).1
 clear hS0
 go_wp2_with (with_reducible refine wpList_ldS (n := 4) (us := mC m ad cap) A_rmach kR wU wU (by assumption) wU wU ?_)
 refine (HSh.out _).mono ?_
 rintro e w2 ⟨rfl, b2⟩
 have hS2 := hS1.mono b2
 have q2_rm := (hS2.blk 0 rfl).1
 have q2_m := (hS2.blk 1 rfl).1
 clear hS1 q1_rm q1_m
 go_wp2_with (with_reducible refine wpList_ldS (n := 4) (us := mC m ad cap) A_mach kR wU wU (by assumption) wU wU ?_)
 refine (HP.out _ (hR.below hS2.b)).mono ?_
 rintro e w3 ⟨rfl, b3⟩
 have hS3 := hS2.mono b3
 have q3_rm := (hS3.blk 0 rfl).1
 have q3_m := (hS3.blk 1 rfl).1
 clear hS2 q2_rm q2_m
 go_wp2_with fail
 refine (HPA.out _ (hw.below hS3.b)).mono ?_
 rintro e w4 ⟨aY, cY, rfl, ho4⟩
 have hS4 := hS3.call ho4
 simp only [List.cons_append, List.nil_append] at hS4
 have q4_rm := (hS4.blk 1 rfl).1
 have q4_m := (hS4.blk 2 rfl).1
 clear hS3 q3_rm q3_m
 clear ho4
 have hS5 := hS4.box (.cells (mC Y aY cY) 24)
 have q5_y := (hS5.blk 0 rfl).1
 have q5_rm := (hS5.blk 2 rfl).1
 have q5_m := (hS5.blk 3 rfl).1
 clear hS4 q4_rm q4_m
 go_wp2_with (with_reducible refine wpList_ldS (n := 4) (us := mC m ad cap) A_rmach kR wU wU (by assumption) wU wU ?_)
 refine (HM.out _ (hR.below hS5.b)).mono ?_
 rintro e w6 ⟨rfl, b6⟩
 have hS6 := hS5.mono b6
 have q6_y := (hS6.blk 0 rfl).1
 have q6_rm := (hS6.blk 2 rfl).1
 have q6_m := (hS6.blk 3 rfl).1
 clear hS5 q5_y q5_rm q5_m
 go_wp2_with fail
 go_wp2_with fail
 refine (HRA.out _).mono ?_
 rintro e w7 ⟨aZ, cZ, rfl, ho7⟩
 have hS7 := hS6.call ho7
 simp only [List.cons_append, List.nil_append] at hS7
 have q7_y := (hS7.blk 1 rfl).1
 have q7_rm := (hS7.blk 3 rfl).1
 have q7_m := (hS7.blk 4 rfl).1
 clear hS6 q6_y q6_rm q6_m
 clear ho7
 have hS8 := hS7.box (.cells (mC Y aZ cZ) 25)
 have q8_z := (hS8.blk 0 rfl).1
 have q8_y := (hS8.blk 2 rfl).1
 have q8_rm := (hS8.blk 4 rfl).1
 have q8_m := (hS8.blk 5 rfl).1
 clear hS7 q7_y q7_rm q7_m
 go_wp2_with (first | (with_reducible refine wpList_ldS (n := 4) (us := mC Y aY cY) A_mach kR wU wU (by assumption) wU wU ?_) | (with_reducible refine wpList_ldS (n := 4) (us := mC Y aZ cZ) A_rmach kR wU wU (by assumption) wU wU ?_))
 refine (rSame_same Y aY aZ cY cZ _ (hS8.rd 3 rfl) (hS8.rd 1 rfl) hys).mono ?_
 rintro e w9 ⟨rfl, b9⟩
 have hS9 := hS8.mono b9
 have q9_z := (hS9.blk 0 rfl).1
 have q9_y := (hS9.blk 2 rfl).1
 have q9_rm := (hS9.blk 4 rfl).1
 have q9_m := (hS9.blk 5 rfl).1
 clear hS8 q8_z q8_y q8_rm q8_m
 go_wp2_with (with_reducible refine wpList_ldS (n := 4) (us := mC m ad cap) A_mach kR wU wU (by assumption) wU wU ?_)
 refine (HMI.out _ (hR.below hS9.b) (hL.below hS9.b)).mono ?_
 rintro e w10 ⟨aI, cI, vI, rfl, ho10⟩
 have hS10 := hS9.call ho10
 simp only [List.cons_append, List.nil_append] at hS10
 have q10_z := (hS10.blk 2 rfl).1
 have q10_y := (hS10.blk 4 rfl).1
 have q10_rm := (hS10.blk 6 rfl).1
 have q10_m := (hS10.blk 7 rfl).1
 clear hS9 q9_z q9_y q9_rm q9_m
 clear ho10
 obtain ⟨aP, cP, rfl, _⟩ := hS10.slice 1 rfl
 have hS11 := hS10.box (.cells (mC noM aI cI) 24)
 have q11_i := (hS11.blk 0 rfl).1
 have q11_z := (hS11.blk 3 rfl).1
 have q11_y := (hS11.blk 5 rfl).1
 have q11_rm := (hS11.blk 7 rfl).1
 have q11_m := (hS11.blk 8 rfl).1
 clear hS10 q10_z q10_y q10_rm q10_m
 go_wp2_with (with_reducible refine wpList_ldS (n := 4) (us := mC m ad cap) A_mach kR wU wU (by assumption) wU wU ?_)
 refine (HBA.out _ (hR.below hS11.b) (hL.below hS11.b)).mono ?_
 rintro e w12 ⟨aJ, cJ, vJ, rfl, ho12⟩
 have hS12 := hS11.call ho12
 simp only [List.cons_append, List.nil_append] at hS12
 have q12_i := (hS12.blk 2 rfl).1
 have q12_z := (hS12.blk 5 rfl).1
 have q12_y := (hS12.blk 7 rfl).1
 have q12_rm := (hS12.blk 9 rfl).1
 have q12_m := (hS12.blk 10 rfl).1
 clear hS11 q11_i q11_z q11_y q11_rm q11_m
 clear ho12
 obtain ⟨aQ, cQ, rfl, _⟩ := hS12.slice 1 rfl
 have hS13 := hS12.box (.cells (mC noM aJ cJ) 24)
 have q13_j := (hS13.blk 0 rfl).1
 have q13_i := (hS13.blk 3 rfl).1
 have q13_z := (hS13.blk 6 rfl).1
 have q13_y := (hS13.blk 8 rfl).1
 have q13_rm := (hS13.blk 10 rfl).1
 have q13_m := (hS13.blk 11 rfl).1
 clear hS12 q12_i q12_z q12_y q12_rm q12_m
 go_wp2_with (with_reducible refine wpList_ldS (n := 4) (us := mC m ad cap) A_rmach kR wU wU (by assumption) wU wU ?_)
 refine (HCK.out _ (hR.below hS13.b) (hL.below hS13.b)).mono ?_
 rintro e w14 ⟨rfl, b14⟩
 have hS14 := hS13.mono b14
 have q14_j := (hS14.blk 0 rfl).1
 have q14_i := (hS14.blk 3 rfl).1
 have q14_z := (hS14.blk 6 rfl).1
 have q14_y := (hS14.blk 8 rfl).1
 have q14_rm := (hS14.blk 10 rfl).1
 have q14_m := (hS14.blk 11 rfl).1
 clear hS13 q13_j q13_i q13_z q13_y q13_rm q13_m
 have hS15 := hS14.box (.cells #[.bool false, .int .i64 0, .int .i64 0, .slice none 0 0] 25)
 have q15_n := (hS15.blk 0 rfl).1
 have q15_j := (hS15.blk 1 rfl).1
 have q15_i := (hS15.blk 4 rfl).1
 have q15_z := (hS15.blk 7 rfl).1
 have q15_y := (hS15.blk 9 rfl).1
 have q15_rm := (hS15.blk 11 rfl).1
 have q15_m := (hS15.blk 12 rfl).1
 clear hS14 q14_j q14_i q14_z q14_y q14_rm q14_m
 go_wp2_with (first | (with_reducible refine wpList_ldS (n := 4) (us := mC noM aI cI) A_mach kR wU wU (by assumption) wU wU ?_) | (with_reducible refine wpList_ldS (n := 4) (us := #[.bool false, .int .i64 0, .int .i64 0, .slice none 0 0]) A_rmach kR wU wU (by assumption) wU wU ?_))
 refine (rSame_same noM aI none cI 0 _ (hS15.rd 5 rfl) (ints_nil _) (by decide)).mono ?_
 rintro e w16 ⟨rfl, b16⟩
 have hS16 := hS15.mono b16
 have q16_n := (hS16.blk 0 rfl).1
 have q16_j := (hS16.blk 1 rfl).1
 have q16_i := (hS16.blk 4 rfl).1
 have q16_z := (hS16.blk 7 rfl).1
 have q16_y := (hS16.blk 9 rfl).1
 have q16_rm := (hS16.blk 11 rfl).1
 have q16_m := (hS16.blk 12 rfl).1
 clear hS15 q15_n q15_j q15_i q15_z q15_y q15_rm q15_m
 go_wp2_with fail
 refine (llistBad_any aP none cP 0 0 E _ hne).mono ?_
 rintro e w17 ⟨rfl, b17⟩
 have hS17 := hS16.mono b17
 have q17_n := (hS17.blk 0 rfl).1
 have q17_j := (hS17.blk 1 rfl).1
 have q17_i := (hS17.blk 4 rfl).1
 have q17_z := (hS17.blk 7 rfl).1
 have q17_y := (hS17.blk 9 rfl).1
 have q17_rm := (hS17.blk 11 rfl).1
 have q17_m := (hS17.blk 12 rfl).1
 clear hS16 q16_n q16_j q16_i q16_z q16_y q16_rm q16_m
 go_wp2_with (first | (with_reducible refine wpList_ldS (n := 4) (us := mC noM aJ cJ) A_mach kR wU wU (by assumption) wU wU ?_) | (with_reducible refine wpList_ldS (n := 4) (us := #[.bool false, .int .i64 0, .int .i64 0, .slice none 0 0]) A_rmach kR wU wU (by assumption) wU wU ?_))
 refine (rSame_same noM aJ none cJ 0 _ (hS17.rd 2 rfl) (ints_nil _) (by decide)).mono ?_
 rintro e w18 ⟨rfl, b18⟩
 have hS18 := hS17.mono b18
 have q18_n := (hS18.blk 0 rfl).1
 have q18_j := (hS18.blk 1 rfl).1
 have q18_i := (hS18.blk 4 rfl).1
 have q18_z := (hS18.blk 7 rfl).1
 have q18_y := (hS18.blk 9 rfl).1
 have q18_rm := (hS18.blk 11 rfl).1
 have q18_m := (hS18.blk 12 rfl).1
 clear hS17 q17_n q17_j q17_i q17_z q17_y q17_rm q17_m
 go_wp2_with fail
 refine (llistBad_any aQ none cQ 0 0 E _ hne).mono ?_
 rintro e w19 ⟨rfl, b19⟩
 have hS19 := hS18.mono b19
 have q19_n := (hS19.blk 0 rfl).1
 have q19_j := (hS19.blk 1 rfl).1
 have q19_i := (hS19.blk 4 rfl).1
 have q19_z := (hS19.blk 7 rfl).1
 have q19_y := (hS19.blk 9 rfl).1
 have q19_rm := (hS19.blk 11 rfl).1
 have q19_m := (hS19.blk 12 rfl).1
 clear hS18 q18_n q18_j q18_i q18_z q18_y q18_rm q18_m
 go_wp2_with fail
 go_ret
 exact ⟨rfl, hS19.b⟩
theorem mt_load (m : MacV) (ad al : Option Addr) (cap cl : Nat) (l : List Int) (S : List UInt8) (w : World) (hR : Ints w ad cap m.sw) (hL : Ints w al cl l) (hI : InI m.gears) (hw : LibW w) (hsb : (decide (m.sw.length ≤ 19) && decide (l.length ≤ 67)) = true) (hS100 : S.length ≤ 100) (hm : macE m = 0) (he : loadE m l ≠ 0) :
  Calls Tryz.prog 4 #[mV m ad cap, .slice al l.length cl, .string (bT S)] w fun r w' => r = .returned (.bool true) ∧ Below w.heap.size w w' := by
 have hS0 := ((SL.nil w).box (.cells (mC m ad cap) 24)).box (.cells (mC m ad cap) 25)
 simp only [World.size_alloc] at hS0
 have HA := hid awake4_any
 have hlc := hL.le
 have CSh := fun w => rShort_any m ad cap al cl l.length w
 rw [hsb] at CSh
 have HSh := hid CSh
 clear CSh
 have hsz := bT_size S
 have KM : ChkM m ad cap := fun w h => CheckMachine_any m ad cap w h hI
 have KL : ChkL m ad cap al cl l := CheckLoad_any m ad cap al cl l KM
 have CP := fun w h => mPrint_any m ad cap w h KM sw_small
 have CPA := fun w (h : LibW w) => mParse_any S w h (by omega)
 have CRA := fun w => rParse4_any S w (by omega)
 have CM := fun w h => rCheckMachine_any m ad cap w h
 have CK := fun w h h2 => lcheck_any m ad cap al cl l w h h2
 have CMI := fun w h h2 => mMirrored_any m ad cap al cl l w h h2 KL
 have CBA := fun w h h2 => mBackwards_any m ad cap al cl l w h h2 KL
 have hys := parse_small S
 obtain ⟨Y, hY⟩ : ∃ Y, Y = (parseMB S).1 := ⟨_, rfl⟩
 obtain ⟨EY, hEY⟩ : ∃ EY, EY = (parseMB S).2 := ⟨_, rfl⟩
 rw [← hY, ← hEY] at CPA CRA
 rw [← hY] at hys
 unfold RetMac at CPA CRA
 obtain ⟨s, hs⟩ : ∃ s, s = bT S := ⟨_, rfl⟩
 rw [← hs] at CPA CRA hsz ⊢
 have h100 : ¬ 100 < s.size := by omega
 have HPA := hid CPA; have HRA := hid CRA
 clear KM KL CPA CRA hY hEY hs hsz hS100 hsb
 have hok := (macE_zero hm).1
 have hlo := hok.lo
 have hhi := hok.hi
 have CRP := fun w h => rPrint4_any m ad cap w h (by omega) hhi hok.turn (sw_small hm) (by have := hok.many; omega)
 rw [if_pos hm, hm] at CP
 rw [hm] at CM
 rw [if_neg he, if_neg he, if_neg he] at CMI CBA
 obtain ⟨E, hE⟩ : ∃ E, E = loadE m l := ⟨_, rfl⟩
 rw [← hE] at CK CMI CBA he
 have hne : (E != 0) = true := by simpa using he
 have hne2 : (E == 0) = false := by simpa using he
 obtain ⟨PM, hPM⟩ : ∃ PM, PM = printMB m := ⟨_, rfl⟩
 rw [← hPM] at CP CRP
 have HP := hid CP; have HM := hid CM; have HCK := hid CK; have HMI := hid CMI; have HBA := hid CBA; have HRP := hid CRP
 clear CP CM CK CMI CBA CRP hE he hI hPM hok hm
 go_enter Tryz.func4, Tryz.ntmps4
 go_wp2_with fail
 refine (HA.out _ (hw.below hS0.b)).mono ?_
 rintro e w1 ⟨rfl, b1⟩
 have hS1 := hS0.mono b1
 have q1_rm := (hS1.blk 0 rfl).1
 have q1_m := (hS1.blk 1 rfl).1
 clear hS0
 go_wp2_with (with_reducible refine wpList_ldS (n := 4) (us := mC m ad cap) A_rmach kR wU wU (by assumption) wU wU ?_)
 refine (HSh.out _).mono ?_
 rintro e w2 ⟨rfl, b2⟩
 have hS2 := hS1.mono b2
 have q2_rm := (hS2.blk 0 rfl).1
 have q2_m := (hS2.blk 1 rfl).1
 clear hS1 q1_rm q1_m
 go_wp2_with (with_reducible refine wpList_ldS (n := 4) (us := mC m ad cap) A_mach kR wU wU (by assumption) wU wU ?_)
 refine (HP.out _ (hR.below hS2.b)).mono ?_
 rintro e w3 ⟨rfl, b3⟩
 have hS3 := hS2.mono b3
 have q3_rm := (hS3.blk 0 rfl).1
 have q3_m := (hS3.blk 1 rfl).1
 clear hS2 q2_rm q2_m
 go_wp2_with fail
 refine (HPA.out _ (hw.below hS3.b)).mono ?_
 rintro e w4 ⟨aY, cY, rfl, ho4⟩
 have hS4 := hS3.call ho4
 simp only [List.cons_append, List.nil_append] at hS4
 have q4_rm := (hS4.blk 1 rfl).1
 have q4_m := (hS4.blk 2 rfl).1
 clear hS3 q3_rm q3_m
 clear ho4
 have hS5 := hS4.box (.cells (mC Y aY cY) 24)
 have q5_y := (hS5.blk 0 rfl).1
 have q5_rm := (hS5.blk 2 rfl).1
 have q5_m := (hS5.blk 3 rfl).1
 clear hS4 q4_rm q4_m
 go_wp2_with (with_reducible refine wpList_ldS (n := 4) (us := mC m ad cap) A_rmach kR wU wU (by assumption) wU wU ?_)
 refine (HM.out _ (hR.below hS5.b)).mono ?_
 rintro e w6 ⟨rfl, b6⟩
 have hS6 := hS5.mono b6
 have q6_y := (hS6.blk 0 rfl).1
 have q6_rm := (hS6.blk 2 rfl).1
 have q6_m := (hS6.blk 3 rfl).1
 clear hS5 q5_y q5_rm q5_m
 go_wp2_with (with_reducible refine wpList_ldS (n := 4) (us := mC m ad cap) A_rmach kR wU wU (by assumption) wU wU ?_)
 refine (HRP.out _ (hR.below hS6.b)).mono ?_
 rintro e w7 ⟨rfl, b7⟩
 have hS7 := hS6.mono b7
 have q7_y := (hS7.blk 0 rfl).1
 have q7_rm := (hS7.blk 2 rfl).1
 have q7_m := (hS7.blk 3 rfl).1
 clear hS6 q6_y q6_rm q6_m
 go_wp2_with fail
 refine (HRA.out _).mono ?_
 rintro e w8 ⟨aZ, cZ, rfl, ho8⟩
 have hS8 := hS7.call ho8
 simp only [List.cons_append, List.nil_append] at hS8
 have q8_y := (hS8.blk 1 rfl).1
 have q8_rm := (hS8.blk 3 rfl).1
 have q8_m := (hS8.blk 4 rfl).1
 clear hS7 q7_y q7_rm q7_m
 clear ho8
 have hS9 := hS8.box (.cells (mC Y aZ cZ) 25)
 have q9_z := (hS9.blk 0 rfl).1
 have q9_y := (hS9.blk 2 rfl).1
 have q9_rm := (hS9.blk 4 rfl).1
 have q9_m := (hS9.blk 5 rfl).1
 clear hS8 q8_y q8_rm q8_m
 go_wp2_with (first | (with_reducible refine wpList_ldS (n := 4) (us := mC Y aY cY) A_mach kR wU wU (by assumption) wU wU ?_) | (with_reducible refine wpList_ldS (n := 4) (us := mC Y aZ cZ) A_rmach kR wU wU (by assumption) wU wU ?_))
 refine (rSame_same Y aY aZ cY cZ _ (hS9.rd 3 rfl) (hS9.rd 1 rfl) hys).mono ?_
 rintro e w10 ⟨rfl, b10⟩
 have hS10 := hS9.mono b10
 have q10_z := (hS10.blk 0 rfl).1
 have q10_y := (hS10.blk 2 rfl).1
 have q10_rm := (hS10.blk 4 rfl).1
 have q10_m := (hS10.blk 5 rfl).1
 clear hS9 q9_z q9_y q9_rm q9_m
 go_wp2_with (with_reducible refine wpList_ldS (n := 4) (us := mC m ad cap) A_mach kR wU wU (by assumption) wU wU ?_)
 refine (HMI.out _ (hR.below hS10.b) (hL.below hS10.b)).mono ?_
 rintro e w11 ⟨aI, cI, vI, rfl, ho11⟩
 have hS11 := hS10.call ho11
 simp only [List.cons_append, List.nil_append] at hS11
 have q11_z := (hS11.blk 2 rfl).1
 have q11_y := (hS11.blk 4 rfl).1
 have q11_rm := (hS11.blk 6 rfl).1
 have q11_m := (hS11.blk 7 rfl).1
 clear hS10 q10_z q10_y q10_rm q10_m
 clear ho11
 obtain ⟨aP, cP, rfl, _⟩ := hS11.slice 1 rfl
 have hS12 := hS11.box (.cells (mC noM aI cI) 24)
 have q12_i := (hS12.blk 0 rfl).1
 have q12_z := (hS12.blk 3 rfl).1
 have q12_y := (hS12.blk 5 rfl).1
 have q12_rm := (hS12.blk 7 rfl).1
 have q12_m := (hS12.blk 8 rfl).1
 clear hS11 q11_z q11_y q11_rm q11_m
 go_wp2_with (with_reducible refine wpList_ldS (n := 4) (us := mC m ad cap) A_mach kR wU wU (by assumption) wU wU ?_)
 refine (HBA.out _ (hR.below hS12.b) (hL.below hS12.b)).mono ?_
 rintro e w13 ⟨aJ, cJ, vJ, rfl, ho13⟩
 have hS13 := hS12.call ho13
 simp only [List.cons_append, List.nil_append] at hS13
 have q13_i := (hS13.blk 2 rfl).1
 have q13_z := (hS13.blk 5 rfl).1
 have q13_y := (hS13.blk 7 rfl).1
 have q13_rm := (hS13.blk 9 rfl).1
 have q13_m := (hS13.blk 10 rfl).1
 clear hS12 q12_i q12_z q12_y q12_rm q12_m
 clear ho13
 obtain ⟨aQ, cQ, rfl, _⟩ := hS13.slice 1 rfl
 have hS14 := hS13.box (.cells (mC noM aJ cJ) 24)
 have q14_j := (hS14.blk 0 rfl).1
 have q14_i := (hS14.blk 3 rfl).1
 have q14_z := (hS14.blk 6 rfl).1
 have q14_y := (hS14.blk 8 rfl).1
 have q14_rm := (hS14.blk 10 rfl).1
 have q14_m := (hS14.blk 11 rfl).1
 clear hS13 q13_i q13_z q13_y q13_rm q13_m
 go_wp2_with (with_reducible refine wpList_ldS (n := 4) (us := mC m ad cap) A_rmach kR wU wU (by assumption) wU wU ?_)
 refine (HCK.out _ (hR.below hS14.b) (hL.below hS14.b)).mono ?_
 rintro e w15 ⟨rfl, b15⟩
 have hS15 := hS14.mono b15
 have q15_j := (hS15.blk 0 rfl).1
 have q15_i := (hS15.blk 3 rfl).1
 have q15_z := (hS15.blk 6 rfl).1
 have q15_y := (hS15.blk 8 rfl).1
 have q15_rm := (hS15.blk 10 rfl).1
 have q15_m := (hS15.blk 11 rfl).1
 clear hS14 q14_j q14_i q14_z q14_y q14_rm q14_m
 have hS16 := hS15.box (.cells #[.bool false, .int .i64 0, .int .i64 0, .slice none 0 0] 25)
 have q16_n := (hS16.blk 0 rfl).1
 have q16_j := (hS16.blk 1 rfl).1
 have q16_i := (hS16.blk 4 rfl).1
 have q16_z := (hS16.blk 7 rfl).1
 have q16_y := (hS16.blk 9 rfl).1
 have q16_rm := (hS16.blk 11 rfl).1
 have q16_m := (hS16.blk 12 rfl).1
 clear hS15 q15_j q15_i q15_z q15_y q15_rm q15_m
 go_wp2_with (first | (with_reducible refine wpList_ldS (n := 4) (us := mC noM aI cI) A_mach kR wU wU (by assumption) wU wU ?_) | (with_reducible refine wpList_ldS (n := 4) (us := #[.bool false, .int .i64 0, .int .i64 0, .slice none 0 0]) A_rmach kR wU wU (by assumption) wU wU ?_))
 refine (rSame_same noM aI none cI 0 _ (hS16.rd 5 rfl) (ints_nil _) (by decide)).mono ?_
 rintro e w17 ⟨rfl, b17⟩
 have hS17 := hS16.mono b17
 have q17_n := (hS17.blk 0 rfl).1
 have q17_j := (hS17.blk 1 rfl).1
 have q17_i := (hS17.blk 4 rfl).1
 have q17_z := (hS17.blk 7 rfl).1
 have q17_y := (hS17.blk 9 rfl).1
 have q17_rm := (hS17.blk 11 rfl).1
 have q17_m := (hS17.blk 12 rfl).1
 clear hS16 q16_n q16_j q16_i q16_z q16_y q16_rm q16_m
 go_wp2_with fail
 refine (llistBad_any aP none cP 0 0 E _ hne).mono ?_
 rintro e w18 ⟨rfl, b18⟩
 have hS18 := hS17.mono b18
 have q18_n := (hS18.blk 0 rfl).1
 have q18_j := (hS18.blk 1 rfl).1
 have q18_i := (hS18.blk 4 rfl).1
 have q18_z := (hS18.blk 7 rfl).1
 have q18_y := (hS18.blk 9 rfl).1
 have q18_rm := (hS18.blk 11 rfl).1
 have q18_m := (hS18.blk 12 rfl).1
 clear hS17 q17_n q17_j q17_i q17_z q17_y q17_rm q17_m
 go_wp2_with (first | (with_reducible refine wpList_ldS (n := 4) (us := mC noM aJ cJ) A_mach kR wU wU (by assumption) wU wU ?_) | (with_reducible refine wpList_ldS (n := 4) (us := #[.bool false, .int .i64 0, .int .i64 0, .slice none 0 0]) A_rmach kR wU wU (by assumption) wU wU ?_))
 refine (rSame_same noM aJ none cJ 0 _ (hS18.rd 2 rfl) (ints_nil _) (by decide)).mono ?_
 rintro e w19 ⟨rfl, b19⟩
 have hS19 := hS18.mono b19
 have q19_n := (hS19.blk 0 rfl).1
 have q19_j := (hS19.blk 1 rfl).1
 have q19_i := (hS19.blk 4 rfl).1
 have q19_z := (hS19.blk 7 rfl).1
 have q19_y := (hS19.blk 9 rfl).1
 have q19_rm := (hS19.blk 11 rfl).1
 have q19_m := (hS19.blk 12 rfl).1
 clear hS18 q18_n q18_j q18_i q18_z q18_y q18_rm q18_m
 go_wp2_with fail
 refine (llistBad_any aQ none cQ 0 0 E _ hne).mono ?_
 rintro e w20 ⟨rfl, b20⟩
 have hS20 := hS19.mono b20
 have q20_n := (hS20.blk 0 rfl).1
 have q20_j := (hS20.blk 1 rfl).1
 have q20_i := (hS20.blk 4 rfl).1
 have q20_z := (hS20.blk 7 rfl).1
 have q20_y := (hS20.blk 9 rfl).1
 have q20_rm := (hS20.blk 11 rfl).1
 have q20_m := (hS20.blk 12 rfl).1
 clear hS19 q19_n q19_j q19_i q19_z q19_y q19_rm q19_m
 go_wp2_with fail
 go_ret
 exact ⟨rfl, hS20.b⟩
theorem mt_good (m : MacV) (ad al : Option Addr) (cap cl : Nat) (l : List Int) (S : List UInt8) (w : World) (hR : Ints w ad cap m.sw) (hL : Ints w al cl l) (hI : InI m.gears) (hw : LibW w) (hsb : (decide (m.sw.length ≤ 19) && decide (l.length ≤ 67)) = true) (hS100 : S.length ≤ 100) (he : loadE m l = 0) :
  Calls Tryz.prog 4 #[mV m ad cap, .slice al l.length cl, .string (bT S)] w fun r w' => r = .returned (.bool true) ∧ Below w.heap.size w w' := by
 have hS0 := ((SL.nil w).box (.cells (mC m ad cap) 24)).box (.cells (mC m ad cap) 25)
 simp only [World.size_alloc] at hS0
 have HA := hid awake4_any
 have hlc := hL.le
 have CSh := fun w => rShort_any m ad cap al cl l.length w
 rw [hsb] at CSh
 have HSh := hid CSh
 clear CSh
 have hsz := bT_size S
 have KM : ChkM m ad cap := fun w h => CheckMachine_any m ad cap w h hI
 have KL : ChkL m ad cap al cl l := CheckLoad_any m ad cap al cl l KM
 have CP := fun w h => mPrint_any m ad cap w h KM sw_small
 have CPA := fun w (h : LibW w) => mParse_any S w h (by omega)
 have CRA := fun w => rParse4_any S w (by omega)
 have CM := fun w h => rCheckMachine_any m ad cap w h
 have CK := fun w h h2 => lcheck_any m ad cap al cl l w h h2
 have CMI := fun w h h2 => mMirrored_any m ad cap al cl l w h h2 KL
 have CBA := fun w h h2 => mBackwards_any m ad cap al cl l w h h2 KL
 have hys := parse_small S
 obtain ⟨Y, hY⟩ : ∃ Y, Y = (parseMB S).1 := ⟨_, rfl⟩
 obtain ⟨EY, hEY⟩ : ∃ EY, EY = (parseMB S).2 := ⟨_, rfl⟩
 rw [← hY, ← hEY] at CPA CRA
 rw [← hY] at hys
 unfold RetMac at CPA CRA
 obtain ⟨s, hs⟩ : ∃ s, s = bT S := ⟨_, rfl⟩
 rw [← hs] at CPA CRA hsz ⊢
 have h100 : ¬ 100 < s.size := by omega
 have HPA := hid CPA; have HRA := hid CRA
 clear KM KL CPA CRA hY hEY hs hsz hS100 hsb
 have hm := (loadE_zero he).mac
 have hlk := loadE_zero he
 have hok := hlk.ok
 have hlo := hok.lo
 have hhi := hok.hi
 have hfw := hlk.few
 have CRP := fun w h => rPrint4_any m ad cap w h (by omega) hhi hok.turn (sw_small hm) (by have := hok.many; omega)
 have CRM := fun w h h2 => rMirrored_any m ad cap al cl l w h h2 hok.turn (by have := hok.many; omega) (by omega) hlk.rng hhi
 have CRB := fun w h h2 => rBackwards_any m ad cap al cl l w h h2 hlo hok.turn (by have := hok.many; omega) (by omega) hlk.rng hhi
 rw [if_pos hm, hm] at CP
 rw [hm] at CM
 rw [if_pos he, if_pos he, if_pos he, he] at CMI CBA
 rw [he] at CK
 have hsl : m.sw.length ≤ 1048576 := by have := hok.many; omega
 have hml : (l.map mirM).length ≤ 1048576 := by simp; omega
 have hbl : (l.map (overM m)).length ≤ 1048576 := by simp; omega
 obtain ⟨PM, hPM⟩ : ∃ PM, PM = printMB m := ⟨_, rfl⟩
 rw [← hPM] at CP CRP
 obtain ⟨ML, hML⟩ : ∃ ML, ML = l.map mirM := ⟨_, rfl⟩
 rw [← hML] at CMI CRM hml
 obtain ⟨BL, hBL⟩ : ∃ BL, BL = l.map (overM m) := ⟨_, rfl⟩
 rw [← hBL] at CBA CRB hbl
 have HP := hid CP; have HM := hid CM; have HCK := hid CK; have HMI := hid CMI; have HBA := hid CBA; have HRP := hid CRP; have HRM := hid CRM; have HRB := hid CRB
 clear CP CM CK CMI CBA CRP CRM CRB hI hPM hML hBL hok hlk hm he hlo hhi hfw
 go_enter Tryz.func4, Tryz.ntmps4
 go_wp2_with fail
 refine (HA.out _ (hw.below hS0.b)).mono ?_
 rintro e w1 ⟨rfl, b1⟩
 have hS1 := hS0.mono b1
 have q1_rm := (hS1.blk 0 rfl).1
 have q1_m := (hS1.blk 1 rfl).1
 clear hS0
 go_wp2_with (with_reducible refine wpList_ldS (n := 4) (us := mC m ad cap) A_rmach kR wU wU (by assumption) wU wU ?_)
 refine (HSh.out _).mono ?_
 rintro e w2 ⟨rfl, b2⟩
 have hS2 := hS1.mono b2
 have q2_rm := (hS2.blk 0 rfl).1
 have q2_m := (hS2.blk 1 rfl).1
 clear hS1 q1_rm q1_m
 go_wp2_with (with_reducible refine wpList_ldS (n := 4) (us := mC m ad cap) A_mach kR wU wU (by assumption) wU wU ?_)
 refine (HP.out _ (hR.below hS2.b)).mono ?_
 rintro e w3 ⟨rfl, b3⟩
 have hS3 := hS2.mono b3
 have q3_rm := (hS3.blk 0 rfl).1
 have q3_m := (hS3.blk 1 rfl).1
 clear hS2 q2_rm q2_m
 go_wp2_with fail
 refine (HPA.out _ (hw.below hS3.b)).mono ?_
 rintro e w4 ⟨aY, cY, rfl, ho4⟩
 have hS4 := hS3.call ho4
 simp only [List.cons_append, List.nil_append] at hS4
 have q4_rm := (hS4.blk 1 rfl).1
 have q4_m := (hS4.blk 2 rfl).1
 clear hS3 q3_rm q3_m
 clear ho4
 have hS5 := hS4.box (.cells (mC Y aY cY) 24)
 have q5_y := (hS5.blk 0 rfl).1
 have q5_rm := (hS5.blk 2 rfl).1
 have q5_m := (hS5.blk 3 rfl).1
 clear hS4 q4_rm q4_m
 go_wp2_with (with_reducible refine wpList_ldS (n := 4) (us := mC m ad cap) A_rmach kR wU wU (by assumption) wU wU ?_)
 refine (HM.out _ (hR.below hS5.b)).mono ?_
 rintro e w6 ⟨rfl, b6⟩
 have hS6 := hS5.mono b6
 have q6_y := (hS6.blk 0 rfl).1
 have q6_rm := (hS6.blk 2 rfl).1
 have q6_m := (hS6.blk 3 rfl).1
 clear hS5 q5_y q5_rm q5_m
 go_wp2_with (with_reducible refine wpList_ldS (n := 4) (us := mC m ad cap) A_rmach kR wU wU (by assumption) wU wU ?_)
 refine (HRP.out _ (hR.below hS6.b)).mono ?_
 rintro e w7 ⟨rfl, b7⟩
 have hS7 := hS6.mono b7
 have q7_y := (hS7.blk 0 rfl).1
 have q7_rm := (hS7.blk 2 rfl).1
 have q7_m := (hS7.blk 3 rfl).1
 clear hS6 q6_y q6_rm q6_m
 go_wp2_with fail
 refine (HRA.out _).mono ?_
 rintro e w8 ⟨aZ, cZ, rfl, ho8⟩
 have hS8 := hS7.call ho8
 simp only [List.cons_append, List.nil_append] at hS8
 have q8_y := (hS8.blk 1 rfl).1
 have q8_rm := (hS8.blk 3 rfl).1
 have q8_m := (hS8.blk 4 rfl).1
 clear hS7 q7_y q7_rm q7_m
 clear ho8
 have hS9 := hS8.box (.cells (mC Y aZ cZ) 25)
 have q9_z := (hS9.blk 0 rfl).1
 have q9_y := (hS9.blk 2 rfl).1
 have q9_rm := (hS9.blk 4 rfl).1
 have q9_m := (hS9.blk 5 rfl).1
 clear hS8 q8_y q8_rm q8_m
 go_wp2_with (first | (with_reducible refine wpList_ldS (n := 4) (us := mC Y aY cY) A_mach kR wU wU (by assumption) wU wU ?_) | (with_reducible refine wpList_ldS (n := 4) (us := mC Y aZ cZ) A_rmach kR wU wU (by assumption) wU wU ?_))
 refine (rSame_same Y aY aZ cY cZ _ (hS9.rd 3 rfl) (hS9.rd 1 rfl) hys).mono ?_
 rintro e w10 ⟨rfl, b10⟩
 have hS10 := hS9.mono b10
 have q10_z := (hS10.blk 0 rfl).1
 have q10_y := (hS10.blk 2 rfl).1
 have q10_rm := (hS10.blk 4 rfl).1
 have q10_m := (hS10.blk 5 rfl).1
 clear hS9 q9_z q9_y q9_rm q9_m
 go_wp2_with (with_reducible refine wpList_ldS (n := 4) (us := mC m ad cap) A_mach kR wU wU (by assumption) wU wU ?_)
 refine (HMI.out _ (hR.below hS10.b) (hL.below hS10.b)).mono ?_
 rintro e w11 ⟨aI, cI, vI, rfl, ho11⟩
 have hS11 := hS10.call ho11
 simp only [List.cons_append, List.nil_append] at hS11
 have q11_z := (hS11.blk 2 rfl).1
 have q11_y := (hS11.blk 4 rfl).1
 have q11_rm := (hS11.blk 6 rfl).1
 have q11_m := (hS11.blk 7 rfl).1
 clear hS10 q10_z q10_y q10_rm q10_m
 clear ho11
 obtain ⟨aP, cP, rfl, _⟩ := hS11.slice 1 rfl
 have hS12 := hS11.box (.cells (mC (turnMac m) aI cI) 24)
 have q12_i := (hS12.blk 0 rfl).1
 have q12_z := (hS12.blk 3 rfl).1
 have q12_y := (hS12.blk 5 rfl).1
 have q12_rm := (hS12.blk 7 rfl).1
 have q12_m := (hS12.blk 8 rfl).1
 clear hS11 q11_z q11_y q11_rm q11_m
 go_wp2_with (with_reducible refine wpList_ldS (n := 4) (us := mC m ad cap) A_mach kR wU wU (by assumption) wU wU ?_)
 refine (HBA.out _ (hR.below hS12.b) (hL.below hS12.b)).mono ?_
 rintro e w13 ⟨aJ, cJ, vJ, rfl, ho13⟩
 have hS13 := hS12.call ho13
 simp only [List.cons_append, List.nil_append] at hS13
 have q13_i := (hS13.blk 2 rfl).1
 have q13_z := (hS13.blk 5 rfl).1
 have q13_y := (hS13.blk 7 rfl).1
 have q13_rm := (hS13.blk 9 rfl).1
 have q13_m := (hS13.blk 10 rfl).1
 clear hS12 q12_i q12_z q12_y q12_rm q12_m
 clear ho13
 obtain ⟨aQ, cQ, rfl, _⟩ := hS13.slice 1 rfl
 have hS14 := hS13.box (.cells (mC (turnMac m) aJ cJ) 24)
 have q14_j := (hS14.blk 0 rfl).1
 have q14_i := (hS14.blk 3 rfl).1
 have q14_z := (hS14.blk 6 rfl).1
 have q14_y := (hS14.blk 8 rfl).1
 have q14_rm := (hS14.blk 10 rfl).1
 have q14_m := (hS14.blk 11 rfl).1
 clear hS13 q13_i q13_z q13_y q13_rm q13_m
 go_wp2_with (with_reducible refine wpList_ldS (n := 4) (us := mC m ad cap) A_rmach kR wU wU (by assumption) wU wU ?_)
 refine (HCK.out _ (hR.below hS14.b) (hL.below hS14.b)).mono ?_
 rintro e w15 ⟨rfl, b15⟩
 have hS15 := hS14.mono b15
 have q15_j := (hS15.blk 0 rfl).1
 have q15_i := (hS15.blk 3 rfl).1
 have q15_z := (hS15.blk 6 rfl).1
 have q15_y := (hS15.blk 8 rfl).1
 have q15_rm := (hS15.blk 10 rfl).1
 have q15_m := (hS15.blk 11 rfl).1
 clear hS14 q14_j q14_i q14_z q14_y q14_rm q14_m
 have hS16 := hS15.box (.cells #[.bool false, .int .i64 0, .int .i64 0, .slice none 0 0] 25)
 have q16_n := (hS16.blk 0 rfl).1
 have q16_j := (hS16.blk 1 rfl).1
 have q16_i := (hS16.blk 4 rfl).1
 have q16_z := (hS16.blk 7 rfl).1
 have q16_y := (hS16.blk 9 rfl).1
 have q16_rm := (hS16.blk 11 rfl).1
 have q16_m := (hS16.blk 12 rfl).1
 clear hS15 q15_j q15_i q15_z q15_y q15_rm q15_m
 go_wp2_with (with_reducible refine wpList_ldS (n := 4) (us := mC m ad cap) A_rmach kR wU wU (by assumption) wU wU ?_)
 refine (HRM.out _ (hR.below hS16.b) (hL.below hS16.b)).mono ?_
 rintro e w17 ⟨aU, cU, vU, rfl, ho17⟩
 have hS17 := hS16.call ho17
 simp only [List.cons_append, List.nil_append] at hS17
 have q17_n := (hS17.blk 2 rfl).1
 have q17_j := (hS17.blk 3 rfl).1
 have q17_i := (hS17.blk 6 rfl).1
 have q17_z := (hS17.blk 9 rfl).1
 have q17_y := (hS17.blk 11 rfl).1
 have q17_rm := (hS17.blk 13 rfl).1
 have q17_m := (hS17.blk 14 rfl).1
 clear hS16 q16_n q16_j q16_i q16_z q16_y q16_rm q16_m
 clear ho17
 obtain ⟨aF, cF, rfl, _⟩ := hS17.slice 1 rfl
 have hS18 := hS17.box (.cells (mC (turnMac m) aU cU) 25)
 have q18_u := (hS18.blk 0 rfl).1
 have q18_n := (hS18.blk 3 rfl).1
 have q18_j := (hS18.blk 4 rfl).1
 have q18_i := (hS18.blk 7 rfl).1
 have q18_z := (hS18.blk 10 rfl).1
 have q18_y := (hS18.blk 12 rfl).1
 have q18_rm := (hS18.blk 14 rfl).1
 have q18_m := (hS18.blk 15 rfl).1
 clear hS17 q17_n q17_j q17_i q17_z q17_y q17_rm q17_m
 go_wp2_with (with_reducible refine wpList_ldS (n := 4) (us := mC m ad cap) A_rmach kR wU wU (by assumption) wU wU ?_)
 refine (HRB.out _ (hR.below hS18.b) (hL.below hS18.b)).mono ?_
 rintro e w19 ⟨aV, cV, vV, rfl, ho19⟩
 have hS19 := hS18.call ho19
 simp only [List.cons_append, List.nil_append] at hS19
 have q19_u := (hS19.blk 2 rfl).1
 have q19_n := (hS19.blk 5 rfl).1
 have q19_j := (hS19.blk 6 rfl).1
 have q19_i := (hS19.blk 9 rfl).1
 have q19_z := (hS19.blk 12 rfl).1
 have q19_y := (hS19.blk 14 rfl).1
 have q19_rm := (hS19.blk 16 rfl).1
 have q19_m := (hS19.blk 17 rfl).1
 clear hS18 q18_u q18_n q18_j q18_i q18_z q18_y q18_rm q18_m
 clear ho19
 obtain ⟨aG, cG, rfl, _⟩ := hS19.slice 1 rfl
 have hS20 := hS19.box (.cells (mC (turnMac m) aV cV) 25)
 have q20_v := (hS20.blk 0 rfl).1
 have q20_u := (hS20.blk 3 rfl).1
 have q20_n := (hS20.blk 6 rfl).1
 have q20_j := (hS20.blk 7 rfl).1
 have q20_i := (hS20.blk 10 rfl).1
 have q20_z := (hS20.blk 13 rfl).1
 have q20_y := (hS20.blk 15 rfl).1
 have q20_rm := (hS20.blk 17 rfl).1
 have q20_m := (hS20.blk 18 rfl).1
 clear hS19 q19_u q19_n q19_j q19_i q19_z q19_y q19_rm q19_m
 go_wp2_with (first | (with_reducible refine wpList_ldS (n := 4) (us := mC (turnMac m) aI cI) A_mach kR wU wU (by assumption) wU wU ?_) | (with_reducible refine wpList_ldS (n := 4) (us := mC (turnMac m) aU cU) A_rmach kR wU wU (by assumption) wU wU ?_))
 refine (rSame_same (turnMac m) aI aU cI cU _ (hS20.rd 11 rfl) (hS20.rd 4 rfl) hsl).mono ?_
 rintro e w21 ⟨rfl, b21⟩
 have hS21 := hS20.mono b21
 have q21_v := (hS21.blk 0 rfl).1
 have q21_u := (hS21.blk 3 rfl).1
 have q21_n := (hS21.blk 6 rfl).1
 have q21_j := (hS21.blk 7 rfl).1
 have q21_i := (hS21.blk 10 rfl).1
 have q21_z := (hS21.blk 13 rfl).1
 have q21_y := (hS21.blk 15 rfl).1
 have q21_rm := (hS21.blk 17 rfl).1
 have q21_m := (hS21.blk 18 rfl).1
 clear hS20 q20_v q20_u q20_n q20_j q20_i q20_z q20_y q20_rm q20_m
 go_wp2_with fail
 refine (llistOk_any aP aF cP cF _ ML _ (hS21.rd 12 rfl) (hS21.rd 5 rfl) rfl hml).mono ?_
 rintro e w22 ⟨rfl, b22⟩
 have hS22 := hS21.mono b22
 have q22_v := (hS22.blk 0 rfl).1
 have q22_u := (hS22.blk 3 rfl).1
 have q22_n := (hS22.blk 6 rfl).1
 have q22_j := (hS22.blk 7 rfl).1
 have q22_i := (hS22.blk 10 rfl).1
 have q22_z := (hS22.blk 13 rfl).1
 have q22_y := (hS22.blk 15 rfl).1
 have q22_rm := (hS22.blk 17 rfl).1
 have q22_m := (hS22.blk 18 rfl).1
 clear hS21 q21_v q21_u q21_n q21_j q21_i q21_z q21_y q21_rm q21_m
 go_wp2_with (first | (with_reducible refine wpList_ldS (n := 4) (us := mC (turnMac m) aJ cJ) A_mach kR wU wU (by assumption) wU wU ?_) | (with_reducible refine wpList_ldS (n := 4) (us := mC (turnMac m) aV cV) A_rmach kR wU wU (by assumption) wU wU ?_))
 refine (rSame_same (turnMac m) aJ aV cJ cV _ (hS22.rd 8 rfl) (hS22.rd 1 rfl) hsl).mono ?_
 rintro e w23 ⟨rfl, b23⟩
 have hS23 := hS22.mono b23
 have q23_v := (hS23.blk 0 rfl).1
 have q23_u := (hS23.blk 3 rfl).1
 have q23_n := (hS23.blk 6 rfl).1
 have q23_j := (hS23.blk 7 rfl).1
 have q23_i := (hS23.blk 10 rfl).1
 have q23_z := (hS23.blk 13 rfl).1
 have q23_y := (hS23.blk 15 rfl).1
 have q23_rm := (hS23.blk 17 rfl).1
 have q23_m := (hS23.blk 18 rfl).1
 clear hS22 q22_v q22_u q22_n q22_j q22_i q22_z q22_y q22_rm q22_m
 go_wp2_with fail
 refine (llistOk_any aQ aG cQ cG _ BL _ (hS23.rd 9 rfl) (hS23.rd 2 rfl) rfl hbl).mono ?_
 rintro e w24 ⟨rfl, b24⟩
 have hS24 := hS23.mono b24
 have q24_v := (hS24.blk 0 rfl).1
 have q24_u := (hS24.blk 3 rfl).1
 have q24_n := (hS24.blk 6 rfl).1
 have q24_j := (hS24.blk 7 rfl).1
 have q24_i := (hS24.blk 10 rfl).1
 have q24_z := (hS24.blk 13 rfl).1
 have q24_y := (hS24.blk 15 rfl).1
 have q24_rm := (hS24.blk 17 rfl).1
 have q24_m := (hS24.blk 18 rfl).1
 clear hS23 q23_v q23_u q23_n q23_j q23_i q23_z q23_y q23_rm q23_m
 go_wp2_with fail
 go_ret
 exact ⟨rfl, hS24.b⟩
end Go.Proofs.YtoebgfgihfjnnaaGreatDoor

namespace Go.Proofs.YtoebgfgihfjnnaaGreatDoor
open Go.RowKit
set_option maxHeartbeats 8000000
set_option maxRecDepth 100000
theorem mt_short (m : MacV) (ad al : Option Addr) (cap cl : Nat) (l : List Int) (S : List UInt8) (w : World) (hR : Ints w ad cap m.sw) (hL : Ints w al cl l) (hI : InI m.gears) (hw : LibW w) (hsb : (decide (m.sw.length ≤ 19) && decide (l.length ≤ 67)) = false) :
  Calls Tryz.prog 4 #[mV m ad cap, .slice al l.length cl, .string (bT S)] w fun r w' => r = .returned (.bool true) ∧ Below w.heap.size w w' := by
 have hS0 := ((SL.nil w).box (.cells (mC m ad cap) 24)).box (.cells (mC m ad cap) 25)
 simp only [World.size_alloc] at hS0
 have HA := hid awake4_any
 have hlc := hL.le
 have CSh := fun w => rShort_any m ad cap al cl l.length w
 rw [hsb] at CSh
 have HSh := hid CSh
 clear CSh
 have hsz := bT_size S
 obtain ⟨s, hs⟩ : ∃ s, s = bT S := ⟨_, rfl⟩
 rw [← hs] at hsz ⊢
 clear hs hsz hsb
 go_enter Tryz.func4, Tryz.ntmps4
 go_wp2_with fail
 refine (HA.out _ (hw.below hS0.b)).mono ?_
 rintro e w1 ⟨rfl, b1⟩
 have hS1 := hS0.mono b1
 have q1_rm := (hS1.blk 0 rfl).1
 have q1_m := (hS1.blk 1 rfl).1
 clear hS0
 go_wp2_with (with_reducible refine wpList_ldS (n := 4) (us := mC m ad cap) A_rmach kR wU wU (by assumption) wU wU ?_)
 refine (HSh.out _).mono ?_
 rintro e w2 ⟨rfl, b2⟩
 have hS2 := hS1.mono b2
 have q2_rm := (hS2.blk 0 rfl).1
 have q2_m := (hS2.blk 1 rfl).1
 clear hS1 q1_rm q1_m
 go_wp2_with fail
 refine (HA.out _ (hw.below hS2.b)).mono ?_
 rintro e w3 ⟨rfl, b3⟩
 have hS3 := hS2.mono b3
 have q3_rm := (hS3.blk 0 rfl).1
 have q3_m := (hS3.blk 1 rfl).1
 clear hS2 q2_rm q2_m
 go_wp2_with fail
 go_ret
 exact ⟨rfl, hS3.b⟩
theorem mt_long (m : MacV) (ad al : Option Addr) (cap cl : Nat) (l : List Int) (S : List UInt8) (w : World) (hR : Ints w ad cap m.sw) (hL : Ints w al cl l) (hI : InI m.gears) (hw : LibW w) (hsb : (decide (m.sw.length ≤ 19) && decide (l.length ≤ 67)) = true) (hS100 : 100 < S.length) :
  Calls Tryz.prog 4 #[mV m ad cap, .slice al l.length cl, .string (bT S)] w fun r w' => r = .returned (.bool true) ∧ Below w.heap.size w w' := by
 have hS0 := ((SL.nil w).box (.cells (mC m ad cap) 24)).box (.cells (mC m ad cap) 25)
 simp only [World.size_alloc] at hS0
 have HA := hid awake4_any
 have hlc := hL.le
 have CSh := fun w => rShort_any m ad cap al cl l.length w
 rw [hsb] at CSh
 have HSh := hid CSh
 clear CSh
 have hsz := bT_size S
 obtain ⟨s, hs⟩ : ∃ s, s = bT S := ⟨_, rfl⟩
 rw [← hs] at hsz ⊢
 have h100 : 100 < s.size := by omega
 clear hs hsz hsb hS100
 go_enter Tryz.func4, Tryz.ntmps4
 go_wp2_with fail
 refine (HA.out _ (hw.below hS0.b)).mono ?_
 rintro e w1 ⟨rfl, b1⟩
 have hS1 := hS0.mono b1
 have q1_rm := (hS1.blk 0 rfl).1
 have q1_m := (hS1.blk 1 rfl).1
 clear hS0
 go_wp2_with (with_reducible refine wpList_ldS (n := 4) (us := mC m ad cap) A_rmach kR wU wU (by assumption) wU wU ?_)
 refine (HSh.out _).mono ?_
 rintro e w2 ⟨rfl, b2⟩
 have hS2 := hS1.mono b2
 have q2_rm := (hS2.blk 0 rfl).1
 have q2_m := (hS2.blk 1 rfl).1
 clear hS1 q1_rm q1_m
 go_wp2_with fail
 refine (HA.out _ (hw.below hS2.b)).mono ?_
 rintro e w3 ⟨rfl, b3⟩
 have hS3 := hS2.mono b3
 have q3_rm := (hS3.blk 0 rfl).1
 have q3_m := (hS3.blk 1 rfl).1
 clear hS2 q2_rm q2_m
 go_wp2_with fail
 go_ret
 exact ⟨rfl, hS3.b⟩
theorem MachineTexts_any (m : MacV) (ad al : Option Addr) (cap cl : Nat) (l : List Int) (s : ByteArray) (w : World) (hR : Ints w ad cap m.sw) (hL : Ints w al cl l) (hI : InI m.gears) (hw : LibW w) :
  Calls Tryz.prog 4 #[mV m ad cap, .slice al l.length cl, .string s] w fun r w' => r = .returned (.bool true) ∧ Below w.heap.size w w' := by
 obtain ⟨S, rfl⟩ : ∃ S, s = bT S := ⟨s.data.toList, by simp [bT]⟩
 cases hsb : (decide (m.sw.length ≤ 19) && decide (l.length ≤ 67))
 ·exact mt_short m ad al cap cl l S w hR hL hI hw hsb
 ·by_cases h100 : S.length ≤ 100
  ·by_cases he : loadE m l = 0
   ·exact mt_good m ad al cap cl l S w hR hL hI hw hsb h100 he
   ·by_cases hm : macE m = 0
    ·exact mt_load m ad al cap cl l S w hR hL hI hw hsb h100 hm he
    ·exact mt_mac m ad al cap cl l S w hR hL hI hw hsb h100 hm
  ·exact mt_long m ad al cap cl l S w hR hL hI hw hsb (by omega)
end Go.Proofs.YtoebgfgihfjnnaaGreatDoor
