/- Contracts and plain facts that the claim uses (K10a K10). Conditions: as each one states. -/
import Derived.RangeFuncNested
import Derived.RangeFuncBound
import Derived.RangeFuncCalls
import Derived.RangeFuncLeaves
import Derived.RangeFuncFrom
import Derived.Shelf.Abstract
import Derived.Shelf.RegionOpen
import Derived.WalkKit
import Derived.OwnWalkIn
import Derived.TacticsInMore
import Derived.LoopNIn
import Derived.LoopIn
import Derived.Test.YtoebgfgihfjnnaaGreatDoorProg
import Derived.WalkSpells
import Derived.Maps.AppendAt
import Derived.Deep.Quiet
import Derived.Maps.Own
import Derived.Maps.OwnSet
import Derived.Maps.Views
import Derived.WalkLawsBesides
import Derived.Laws.EntriesVeiled
import Derived.Deep.QuietTactic
import Derived.BigQuiet
import Derived.Shelf.Strings.Trim
import Derived.Shelf.Strings.SlTrimAscii
import Derived.Shelf.Strings.Repeat
import Derived.Shelf.Strings.OnBuilder
import Derived.Shelf.Strconv.Itoa1
import Derived.Shelf.Strconv.Itoa3
import Derived.Shelf.LaysM
import Derived.Ground.Names2Prog
import Derived.Lib.OthersKept
import Derived.Deep.RegionHeld3
import Derived.Deep.AppendLies
import Derived.Deep.RegionHeldLaw
import Derived.Deep.RegionLaw
import Derived.StillTail
import Derived.Laws.Tables
import Derived.IntWalk
import Derived.Laws.CopyOwn
import Derived.BigRegion
import Derived.ChangeAlike
import Derived.Shelf.Bits.Mul64
import Derived.Lib.ItoaLen
import Derived.Lib.ItoaMem
import Derived.Sort.LoopGhostIn
import Derived.Maps.RangeWalk
import Derived.Maps.Ext
import Derived.Deep.LoopGhost
import Derived.Lib.Split
import Derived.Lib.AtoiAll
import Derived.Shelf.Strconv.ErrVarAll
import Derived.Shelf.Strconv.AtoiAll
import Derived.Shelf.Strings.Cut
import Derived.Shelf.Strings.Split
import Derived.Shelf.Strings.SplitShaped
import Derived.Lib.AppendIntMem
import Derived.Lib.SmallJoins
import Derived.LaidSub
import Derived.Lib.LaidTab
import Derived.Lib.AtoiErrMem
import Derived.Stop.LaidErr
import Derived.ReadAgain
import Derived.ChangeSlices
import Derived.OpenShut
import Derived.ProofKit
import Derived.Deep.DeepHandedRow
import Derived.Deep.SlicePairs
import Derived.Sort.QuietThIn
import Derived.Test.YtoebgfgihfjnnaaGreatDoorXz01
import Derived.Test.YtoebgfgihfjnnaaGreatDoorXz02
import Derived.Test.YtoebgfgihfjnnaaGreatDoorXz03
import Derived.Test.YtoebgfgihfjnnaaGreatDoorXz04
import Derived.Test.YtoebgfgihfjnnaaGreatDoorXz05
import Derived.Test.YtoebgfgihfjnnaaGreatDoorXz06
import Derived.Test.YtoebgfgihfjnnaaGreatDoorXz07
import Derived.Test.YtoebgfgihfjnnaaGreatDoorXz08
import Derived.Test.YtoebgfgihfjnnaaGreatDoorXz09
import Derived.Test.YtoebgfgihfjnnaaGreatDoorXz10
import Derived.Test.YtoebgfgihfjnnaaGreatDoorXz11
import Derived.Test.YtoebgfgihfjnnaaGreatDoorXz12
import Derived.Test.YtoebgfgihfjnnaaGreatDoorY5001
set_option linter.all false

namespace Go.Proofs.YtoebgfgihfjnnaaGreatDoor
open Go.RowKit
set_option maxHeartbeats 8000000
set_option maxRecDepth 100000
theorem printT_pos (m : MacV) : 0 < (printT m).length := by
 rw [printT_head, List.length_append]
 unfold headT
 rw [List.length_append, List.length_cons]
 omega
theorem printT_small {m : MacV} (h : macE m = 0) : (printT m).length ≤ 4000 := by
 obtain ⟨hok, _⟩ := macE_zero h
 have hlo := hok.lo
 have hhi := hok.hi
 have hmy := hok.many
 have h1 := swB_size2 m.sw (by omega) (sw_small h)
 rw [printT_head, List.length_append]
 have e1 : (swT m.sw).length = (swB m.sw).size := by rw [← swB_T]; rfl
 obtain ⟨g, hg⟩ : ∃ g : Nat, m.gears = g := ⟨m.gears.toNat, by omega⟩
 have h2 := (itoaB_len (p := g) (by omega)).1
 have e2 : (itoaD m.gears).length = (itoaB (g : Int)).size := by rw [hg]; rfl
 have h3 : (headT m).length ≤ 30 := by
  unfold headT
  simp only [List.length_append, List.length_cons, List.length_nil, e2]
  split <;> split <;> simp [ringT, rowT] <;> omega
 have h4 : (swT m.sw).length ≤ 200 := by
  by_cases h0 : m.sw = []
  ·rw [h0]; decide
  ·have h5 := swK_len (sw_small h) (k := m.sw.length) (Nat.le_refl _)
   unfold swK at h5
   rw [List.take_length] at h5
   unfold swT
   rw [if_neg h0]
   omega
 omega
theorem mr_000 (m : MacV) (ad : Option Addr) (cap : Nat) (S : List UInt8) (c : Int) (w : World) (hR : Ints w ad cap m.sw) (hI : InI m.gears) (c0 : 0 ≤ c) (c1 : c ≤ 255) (hw : LibW w) (hsb : (decide (m.sw.length ≤ 19) && decide (0 ≤ 67)) = true) (hS100 : S.length ≤ 100) (hy : (parseMB S).2 ≠ 0) (he : macE m ≠ 0) :
  Calls Tryz.prog 10 #[mV m ad cap, .string (bT S), .int .u8 c] w fun r w' => r = .returned (.bool true) ∧ Below w.heap.size w w' := by
 have hS0 := ((SL.nil w).box (.cells (mC m ad cap) 24)).box (.cells (mC m ad cap) 25)
 simp only [World.size_alloc] at hS0
 have HA := hid awake4_any
 have CSh := fun w => rShort_any m ad cap none 0 0 w
 rw [hsb] at CSh
 have HSh := hid CSh
 clear CSh
 have hsz := bT_size S
 have CPA := fun w (h : LibW w) => mParse_any S w h (by omega)
 have CM := fun w h => rCheckMachine_any m ad cap w h
 unfold RetMac at CPA
 obtain ⟨Y, hY⟩ : ∃ Y, Y = (parseMB S).1 := ⟨_, rfl⟩
 obtain ⟨EY, hEY⟩ : ∃ EY, EY = (parseMB S).2 := ⟨_, rfl⟩
 rw [← hY, ← hEY] at CPA
 rw [← hEY] at hy
 have hyb : (EY == 0) = false := by simpa using hy
 obtain ⟨s, hs⟩ : ∃ s, s = bT S := ⟨_, rfl⟩
 rw [← hs] at CPA hsz ⊢
 have h100 : ¬ 100 < s.size := by omega
 have HPA := hid CPA; have HPY := hid (Nat.zero_le 0)
 clear CPA hs hsz hS100 hsb hY hy hEY
 obtain ⟨E, hE⟩ : ∃ E, E = macE m := ⟨_, rfl⟩
 rw [← hE] at CM he
 have hne : (E != 0) = true := by simpa using he
 have HM := hid CM
 clear CM hE he hI
 go_enter Tryz.func10, Tryz.ntmps10
 go_wp2_with fail
 refine (HA.out _ (hw.below hS0.b)).mono ?_
 rintro e w1 ⟨rfl, b1⟩
 have hS1 := hS0.mono b1
 have q1_rm := (hS1.blk 0 rfl).1
 have q1_m := (hS1.blk 1 rfl).1
 clear hS0
 go_wp2_with (with_reducible refine wpList_ldS (n := 4) (us := mC m ad cap) A_rmach kR wU wU (by assumption) wU wU ?_)
 refine (HSh.out _).mono ?_
 rintro e w2 ⟨rfl, b2⟩
 have hS2 := hS1.mono b2
 have q2_rm := (hS2.blk 0 rfl).1
 have q2_m := (hS2.blk 1 rfl).1
 clear hS1 q1_rm q1_m
 go_wp2_with fail
 refine (HPA.out _ (hw.below hS2.b)).mono ?_
 rintro e w3 ⟨aY, cY, rfl, ho3⟩
 have hS3 := hS2.call ho3
 simp only [List.cons_append, List.nil_append] at hS3
 have q3_rm := (hS3.blk 1 rfl).1
 have q3_m := (hS3.blk 2 rfl).1
 clear hS2 q2_rm q2_m
 clear ho3
 have hS4 := hS3.box (.cells (mC Y aY cY) 24)
 have q4_y := (hS4.blk 0 rfl).1
 have q4_rm := (hS4.blk 2 rfl).1
 have q4_m := (hS4.blk 3 rfl).1
 clear hS3 q3_rm q3_m
 go_wp2_with (with_reducible refine wpList_ldS (n := 4) (us := mC m ad cap) A_rmach kR wU wU (by assumption) wU wU ?_)
 refine (HM.out _ (hR.below hS4.b)).mono ?_
 rintro e w5 ⟨rfl, b5⟩
 have hS5 := hS4.mono b5
 have q5_y := (hS5.blk 0 rfl).1
 have q5_rm := (hS5.blk 2 rfl).1
 have q5_m := (hS5.blk 3 rfl).1
 clear hS4 q4_y q4_rm q4_m
 go_wp2_with fail
 go_ret
 exact ⟨rfl, hS5.b⟩
theorem mr_010 (m : MacV) (ad : Option Addr) (cap : Nat) (S : List UInt8) (c : Int) (w : World) (hR : Ints w ad cap m.sw) (hI : InI m.gears) (c0 : 0 ≤ c) (c1 : c ≤ 255) (hw : LibW w) (hsb : (decide (m.sw.length ≤ 19) && decide (0 ≤ 67)) = true) (hS100 : S.length ≤ 100) (hy : (parseMB S).2 ≠ 0) (hm : macE m = 0) (hz : (parseMB ((printT m).take (c % ((printT m).length : Int)).toNat)).2 ≠ 0) :
  Calls Tryz.prog 10 #[mV m ad cap, .string (bT S), .int .u8 c] w fun r w' => r = .returned (.bool true) ∧ Below w.heap.size w w' := by
 have hS0 := ((SL.nil w).box (.cells (mC m ad cap) 24)).box (.cells (mC m ad cap) 25)
 simp only [World.size_alloc] at hS0
 have HA := hid awake4_any
 have CSh := fun w => rShort_any m ad cap none 0 0 w
 rw [hsb] at CSh
 have HSh := hid CSh
 clear CSh
 have hsz := bT_size S
 have CPA := fun w (h : LibW w) => mParse_any S w h (by omega)
 have CM := fun w h => rCheckMachine_any m ad cap w h
 unfold RetMac at CPA
 obtain ⟨Y, hY⟩ : ∃ Y, Y = (parseMB S).1 := ⟨_, rfl⟩
 obtain ⟨EY, hEY⟩ : ∃ EY, EY = (parseMB S).2 := ⟨_, rfl⟩
 rw [← hY, ← hEY] at CPA
 rw [← hEY] at hy
 have hyb : (EY == 0) = false := by simpa using hy
 obtain ⟨s, hs⟩ : ∃ s, s = bT S := ⟨_, rfl⟩
 rw [← hs] at CPA hsz ⊢
 have h100 : ¬ 100 < s.size := by omega
 have HPA := hid CPA; have HPY := hid (Nat.zero_le 0)
 clear CPA hs hsz hS100 hsb hY hy hEY
 have hok := (macE_zero hm).1
 have CP := fun w h => mPrint_any m ad cap w h (fun w h => CheckMachine_any m ad cap w h hI) sw_small
 rw [if_pos hm, hm, print_bT] at CP
 rw [hm] at CM
 have hlt := printT_small hm
 have hpt := print_parse hm (sw_small hm) (by omega)
 obtain ⟨P, hP⟩ : ∃ P, P = printT m := ⟨_, rfl⟩
 rw [← hP] at CP hlt hpt hz
 have hpos : 0 < P.length := by rw [hP]; exact printT_pos m
 have CPT := fun w (h : LibW w) => mParse_any P w h (by omega)
 unfold RetMac at CPT
 rw [hpt] at CPT
 obtain ⟨q, hq⟩ : ∃ q : Nat, q = (c % (P.length : Int)).toNat := ⟨_, rfl⟩
 rw [← hq] at hz
 have hm0 := Int.emod_nonneg c (b := (P.length : Int)) (by omega)
 have hm1 := Int.emod_lt_of_pos c (b := (P.length : Int)) (by omega)
 have hq1 : q < P.length := by omega
 have htm : c.tmod (P.length : Int) = q := by rw [Int.tmod_eq_emod_of_nonneg c0]; omega
 have CPQ := fun w (h : LibW w) => mParse_any (P.take q) w h (by rw [List.length_take]; omega)
 unfold RetMac at CPQ
 have hex : (bT P).extract 0 q = bT (P.take q) := by rw [bT_extract]; rfl
 have hzne : (parseMB (P.take q)).2 = 0 → (parseMB (P.take q)).1 ≠ m := fun h e => by
  have h2 := (parse_print (m := m) (s := P.take q) (by rw [← e, ← h])).1
  have h3 := congrArg List.length h2
  rw [← hP, List.length_take] at h3
  omega
 have hzs := parse_small (P.take q)
 obtain ⟨Z, hZ⟩ : ∃ Z, Z = (parseMB (P.take q)).1 := ⟨_, rfl⟩
 obtain ⟨EZ, hEZ⟩ : ∃ EZ, EZ = (parseMB (P.take q)).2 := ⟨_, rfl⟩
 rw [← hZ, ← hEZ] at CPQ hzne
 rw [← hZ] at hzs
 rw [← hEZ] at hz
 have hPz := bT_size P
 obtain ⟨pt, hpt2⟩ : ∃ s, s = bT P := ⟨_, rfl⟩
 obtain ⟨pq, hpq⟩ : ∃ s, s = bT (P.take q) := ⟨_, rfl⟩
 rw [← hpt2] at CP CPT hex hPz
 rw [← hpq] at CPQ hex
 rw [← hPz] at htm hq1 hpos
 have hp4 : pt.size ≤ 4096 := by omega
 have hsl : m.sw.length ≤ 1048576 := by have := hok.many; have := hok.hi; omega
 have hwq : IntKind.i64.wrap (q : Int) = q := IntWalk.i64_in _ (by omega)
 have hwc : IntKind.i64.wrap c = c := IntWalk.i64_in _ (by omega)
 have hnz : ¬ (pt.size : Int) = 0 := by omega
 have hnz2 : ((pt.size : Int) == 0) = false := beq_eq_false_iff_ne.2 hnz
 have hnz3 : ¬ pt = ByteArray.empty := by rintro rfl; simp at hpos
 have hb1 : (0 : Int) ≤ q := by omega
 have hb2 : (q : Int) ≤ pt.size := by omega
 have HEX := hid hex
 have HP := hid CP; have HM := hid CM; have HPT := hid CPT; have HPQ := hid CPQ
 have hzb : (EZ != 0) = true := by simpa using hz
 clear CP CM CPT CPQ hZ hEZ hP hpt hpt2 hpq hex hlt hPz hq hm0 hm1 hok hm hI hpos hzne hz
 go_enter Tryz.func10, Tryz.ntmps10
 go_wp2_with fail
 refine (HA.out _ (hw.below hS0.b)).mono ?_
 rintro e w1 ⟨rfl, b1⟩
 have hS1 := hS0.mono b1
 have q1_rm := (hS1.blk 0 rfl).1
 have q1_m := (hS1.blk 1 rfl).1
 clear hS0
 go_wp2_with (with_reducible refine wpList_ldS (n := 4) (us := mC m ad cap) A_rmach kR wU wU (by assumption) wU wU ?_)
 refine (HSh.out _).mono ?_
 rintro e w2 ⟨rfl, b2⟩
 have hS2 := hS1.mono b2
 have q2_rm := (hS2.blk 0 rfl).1
 have q2_m := (hS2.blk 1 rfl).1
 clear hS1 q1_rm q1_m
 go_wp2_with fail
 refine (HPA.out _ (hw.below hS2.b)).mono ?_
 rintro e w3 ⟨aY, cY, rfl, ho3⟩
 have hS3 := hS2.call ho3
 simp only [List.cons_append, List.nil_append] at hS3
 have q3_rm := (hS3.blk 1 rfl).1
 have q3_m := (hS3.blk 2 rfl).1
 clear hS2 q2_rm q2_m
 clear ho3
 have hS4 := hS3.box (.cells (mC Y aY cY) 24)
 have q4_y := (hS4.blk 0 rfl).1
 have q4_rm := (hS4.blk 2 rfl).1
 have q4_m := (hS4.blk 3 rfl).1
 clear hS3 q3_rm q3_m
 go_wp2_with (with_reducible refine wpList_ldS (n := 4) (us := mC m ad cap) A_rmach kR wU wU (by assumption) wU wU ?_)
 refine (HM.out _ (hR.below hS4.b)).mono ?_
 rintro e w5 ⟨rfl, b5⟩
 have hS5 := hS4.mono b5
 have q5_y := (hS5.blk 0 rfl).1
 have q5_rm := (hS5.blk 2 rfl).1
 have q5_m := (hS5.blk 3 rfl).1
 clear hS4 q4_y q4_rm q4_m
 go_wp2_with (with_reducible refine wpList_ldS (n := 4) (us := mC m ad cap) A_mach kR wU wU (by assumption) wU wU ?_)
 refine (HP.out _ (hR.below hS5.b)).mono ?_
 rintro e w6 ⟨rfl, b6⟩
 have hS6 := hS5.mono b6
 have q6_y := (hS6.blk 0 rfl).1
 have q6_rm := (hS6.blk 2 rfl).1
 have q6_m := (hS6.blk 3 rfl).1
 clear hS5 q5_y q5_rm q5_m
 go_wp2_with fail
 refine (HPT.out _ (hw.below hS6.b)).mono ?_
 rintro e w7 ⟨aT, cT, rfl, ho7⟩
 have hS7 := hS6.call ho7
 simp only [List.cons_append, List.nil_append] at hS7
 have q7_y := (hS7.blk 1 rfl).1
 have q7_rm := (hS7.blk 3 rfl).1
 have q7_m := (hS7.blk 4 rfl).1
 clear hS6 q6_y q6_rm q6_m
 clear ho7
 have hS8 := hS7.box (.cells (mC m aT cT) 24)
 have q8_t := (hS8.blk 0 rfl).1
 have q8_y := (hS8.blk 2 rfl).1
 have q8_rm := (hS8.blk 4 rfl).1
 have q8_m := (hS8.blk 5 rfl).1
 clear hS7 q7_y q7_rm q7_m
 go_wp2_with (first | (with_reducible refine wpList_ldS (n := 4) (us := mC m aT cT) A_mach kR wU wU (by assumption) wU wU ?_) | (with_reducible refine wpList_ldS (n := 4) (us := mC m ad cap) A_rmach kR wU wU (by assumption) wU wU ?_))
 refine (rSame_same m aT ad cT cap _ (hS8.rd 1 rfl) (hR.below hS8.b) hsl).mono ?_
 rintro e w9 ⟨rfl, b9⟩
 have hS9 := hS8.mono b9
 have q9_t := (hS9.blk 0 rfl).1
 have q9_y := (hS9.blk 2 rfl).1
 have q9_rm := (hS9.blk 4 rfl).1
 have q9_m := (hS9.blk 5 rfl).1
 clear hS8 q8_t q8_y q8_rm q8_m
 go_wp2_with (rw [HEX.out])
 refine (HPQ.out _ (hw.below hS9.b)).mono ?_
 rintro e w10 ⟨aZ, cZ, rfl, ho10⟩
 have hS10 := hS9.call ho10
 simp only [List.cons_append, List.nil_append] at hS10
 have q10_t := (hS10.blk 1 rfl).1
 have q10_y := (hS10.blk 3 rfl).1
 have q10_rm := (hS10.blk 5 rfl).1
 have q10_m := (hS10.blk 6 rfl).1
 clear hS9 q9_t q9_y q9_rm q9_m
 clear ho10
 have hS11 := hS10.box (.cells (mC Z aZ cZ) 24)
 have q11_z := (hS11.blk 0 rfl).1
 have q11_t := (hS11.blk 2 rfl).1
 have q11_y := (hS11.blk 4 rfl).1
 have q11_rm := (hS11.blk 6 rfl).1
 have q11_m := (hS11.blk 7 rfl).1
 clear hS10 q10_t q10_y q10_rm q10_m
 go_wp2_with fail
 go_ret
 exact ⟨rfl, hS11.b⟩
theorem mr_011 (m : MacV) (ad : Option Addr) (cap : Nat) (S : List UInt8) (c : Int) (w : World) (hR : Ints w ad cap m.sw) (hI : InI m.gears) (c0 : 0 ≤ c) (c1 : c ≤ 255) (hw : LibW w) (hsb : (decide (m.sw.length ≤ 19) && decide (0 ≤ 67)) = true) (hS100 : S.length ≤ 100) (hy : (parseMB S).2 ≠ 0) (hm : macE m = 0) (hz : (parseMB ((printT m).take (c % ((printT m).length : Int)).toNat)).2 = 0) :
  Calls Tryz.prog 10 #[mV m ad cap, .string (bT S), .int .u8 c] w fun r w' => r = .returned (.bool true) ∧ Below w.heap.size w w' := by
 have hS0 := ((SL.nil w).box (.cells (mC m ad cap) 24)).box (.cells (mC m ad cap) 25)
 simp only [World.size_alloc] at hS0
 have HA := hid awake4_any
 have CSh := fun w => rShort_any m ad cap none 0 0 w
 rw [hsb] at CSh
 have HSh := hid CSh
 clear CSh
 have hsz := bT_size S
 have CPA := fun w (h : LibW w) => mParse_any S w h (by omega)
 have CM := fun w h => rCheckMachine_any m ad cap w h
 unfold RetMac at CPA
 obtain ⟨Y, hY⟩ : ∃ Y, Y = (parseMB S).1 := ⟨_, rfl⟩
 obtain ⟨EY, hEY⟩ : ∃ EY, EY = (parseMB S).2 := ⟨_, rfl⟩
 rw [← hY, ← hEY] at CPA
 rw [← hEY] at hy
 have hyb : (EY == 0) = false := by simpa using hy
 obtain ⟨s, hs⟩ : ∃ s, s = bT S := ⟨_, rfl⟩
 rw [← hs] at CPA hsz ⊢
 have h100 : ¬ 100 < s.size := by omega
 have HPA := hid CPA; have HPY := hid (Nat.zero_le 0)
 clear CPA hs hsz hS100 hsb hY hy hEY
 have hok := (macE_zero hm).1
 have CP := fun w h => mPrint_any m ad cap w h (fun w h => CheckMachine_any m ad cap w h hI) sw_small
 rw [if_pos hm, hm, print_bT] at CP
 rw [hm] at CM
 have hlt := printT_small hm
 have hpt := print_parse hm (sw_small hm) (by omega)
 obtain ⟨P, hP⟩ : ∃ P, P = printT m := ⟨_, rfl⟩
 rw [← hP] at CP hlt hpt hz
 have hpos : 0 < P.length := by rw [hP]; exact printT_pos m
 have CPT := fun w (h : LibW w) => mParse_any P w h (by omega)
 unfold RetMac at CPT
 rw [hpt] at CPT
 obtain ⟨q, hq⟩ : ∃ q : Nat, q = (c % (P.length : Int)).toNat := ⟨_, rfl⟩
 rw [← hq] at hz
 have hm0 := Int.emod_nonneg c (b := (P.length : Int)) (by omega)
 have hm1 := Int.emod_lt_of_pos c (b := (P.length : Int)) (by omega)
 have hq1 : q < P.length := by omega
 have htm : c.tmod (P.length : Int) = q := by rw [Int.tmod_eq_emod_of_nonneg c0]; omega
 have CPQ := fun w (h : LibW w) => mParse_any (P.take q) w h (by rw [List.length_take]; omega)
 unfold RetMac at CPQ
 have hex : (bT P).extract 0 q = bT (P.take q) := by rw [bT_extract]; rfl
 have hzne : (parseMB (P.take q)).2 = 0 → (parseMB (P.take q)).1 ≠ m := fun h e => by
  have h2 := (parse_print (m := m) (s := P.take q) (by rw [← e, ← h])).1
  have h3 := congrArg List.length h2
  rw [← hP, List.length_take] at h3
  omega
 have hzs := parse_small (P.take q)
 obtain ⟨Z, hZ⟩ : ∃ Z, Z = (parseMB (P.take q)).1 := ⟨_, rfl⟩
 obtain ⟨EZ, hEZ⟩ : ∃ EZ, EZ = (parseMB (P.take q)).2 := ⟨_, rfl⟩
 rw [← hZ, ← hEZ] at CPQ hzne
 rw [← hZ] at hzs
 rw [← hEZ] at hz
 clear hEZ
 have hPz := bT_size P
 obtain ⟨pt, hpt2⟩ : ∃ s, s = bT P := ⟨_, rfl⟩
 obtain ⟨pq, hpq⟩ : ∃ s, s = bT (P.take q) := ⟨_, rfl⟩
 rw [← hpt2] at CP CPT hex hPz
 rw [← hpq] at CPQ hex
 rw [← hPz] at htm hq1 hpos
 have hp4 : pt.size ≤ 4096 := by omega
 have hsl : m.sw.length ≤ 1048576 := by have := hok.many; have := hok.hi; omega
 have hwq : IntKind.i64.wrap (q : Int) = q := IntWalk.i64_in _ (by omega)
 have hwc : IntKind.i64.wrap c = c := IntWalk.i64_in _ (by omega)
 have hnz : ¬ (pt.size : Int) = 0 := by omega
 have hnz2 : ((pt.size : Int) == 0) = false := beq_eq_false_iff_ne.2 hnz
 have hnz3 : ¬ pt = ByteArray.empty := by rintro rfl; simp at hpos
 have hb1 : (0 : Int) ≤ q := by omega
 have hb2 : (q : Int) ≤ pt.size := by omega
 have HEX := hid hex
 have HP := hid CP; have HM := hid CM; have HPT := hid CPT; have HPQ := hid CPQ
 subst hz
 have HZN := hid (hzne rfl)
 clear CP CM CPT CPQ hZ hP hpt hpt2 hpq hex hlt hPz hq hm0 hm1 hok hm hI hpos hzne
 go_enter Tryz.func10, Tryz.ntmps10
 go_wp2_with fail
 refine (HA.out _ (hw.below hS0.b)).mono ?_
 rintro e w1 ⟨rfl, b1⟩
 have hS1 := hS0.mono b1
 have q1_rm := (hS1.blk 0 rfl).1
 have q1_m := (hS1.blk 1 rfl).1
 clear hS0
 go_wp2_with (with_reducible refine wpList_ldS (n := 4) (us := mC m ad cap) A_rmach kR wU wU (by assumption) wU wU ?_)
 refine (HSh.out _).mono ?_
 rintro e w2 ⟨rfl, b2⟩
 have hS2 := hS1.mono b2
 have q2_rm := (hS2.blk 0 rfl).1
 have q2_m := (hS2.blk 1 rfl).1
 clear hS1 q1_rm q1_m
 go_wp2_with fail
 refine (HPA.out _ (hw.below hS2.b)).mono ?_
 rintro e w3 ⟨aY, cY, rfl, ho3⟩
 have hS3 := hS2.call ho3
 simp only [List.cons_append, List.nil_append] at hS3
 have q3_rm := (hS3.blk 1 rfl).1
 have q3_m := (hS3.blk 2 rfl).1
 clear hS2 q2_rm q2_m
 clear ho3
 have hS4 := hS3.box (.cells (mC Y aY cY) 24)
 have q4_y := (hS4.blk 0 rfl).1
 have q4_rm := (hS4.blk 2 rfl).1
 have q4_m := (hS4.blk 3 rfl).1
 clear hS3 q3_rm q3_m
 go_wp2_with (with_reducible refine wpList_ldS (n := 4) (us := mC m ad cap) A_rmach kR wU wU (by assumption) wU wU ?_)
 refine (HM.out _ (hR.below hS4.b)).mono ?_
 rintro e w5 ⟨rfl, b5⟩
 have hS5 := hS4.mono b5
 have q5_y := (hS5.blk 0 rfl).1
 have q5_rm := (hS5.blk 2 rfl).1
 have q5_m := (hS5.blk 3 rfl).1
 clear hS4 q4_y q4_rm q4_m
 go_wp2_with (with_reducible refine wpList_ldS (n := 4) (us := mC m ad cap) A_mach kR wU wU (by assumption) wU wU ?_)
 refine (HP.out _ (hR.below hS5.b)).mono ?_
 rintro e w6 ⟨rfl, b6⟩
 have hS6 := hS5.mono b6
 have q6_y := (hS6.blk 0 rfl).1
 have q6_rm := (hS6.blk 2 rfl).1
 have q6_m := (hS6.blk 3 rfl).1
 clear hS5 q5_y q5_rm q5_m
 go_wp2_with fail
 refine (HPT.out _ (hw.below hS6.b)).mono ?_
 rintro e w7 ⟨aT, cT, rfl, ho7⟩
 have hS7 := hS6.call ho7
 simp only [List.cons_append, List.nil_append] at hS7
 have q7_y := (hS7.blk 1 rfl).1
 have q7_rm := (hS7.blk 3 rfl).1
 have q7_m := (hS7.blk 4 rfl).1
 clear hS6 q6_y q6_rm q6_m
 clear ho7
 have hS8 := hS7.box (.cells (mC m aT cT) 24)
 have q8_t := (hS8.blk 0 rfl).1
 have q8_y := (hS8.blk 2 rfl).1
 have q8_rm := (hS8.blk 4 rfl).1
 have q8_m := (hS8.blk 5 rfl).1
 clear hS7 q7_y q7_rm q7_m
 go_wp2_with (first | (with_reducible refine wpList_ldS (n := 4) (us := mC m aT cT) A_mach kR wU wU (by assumption) wU wU ?_) | (with_reducible refine wpList_ldS (n := 4) (us := mC m ad cap) A_rmach kR wU wU (by assumption) wU wU ?_))
 refine (rSame_same m aT ad cT cap _ (hS8.rd 1 rfl) (hR.below hS8.b) hsl).mono ?_
 rintro e w9 ⟨rfl, b9⟩
 have hS9 := hS8.mono b9
 have q9_t := (hS9.blk 0 rfl).1
 have q9_y := (hS9.blk 2 rfl).1
 have q9_rm := (hS9.blk 4 rfl).1
 have q9_m := (hS9.blk 5 rfl).1
 clear hS8 q8_t q8_y q8_rm q8_m
 go_wp2_with (rw [HEX.out])
 refine (HPQ.out _ (hw.below hS9.b)).mono ?_
 rintro e w10 ⟨aZ, cZ, rfl, ho10⟩
 have hS10 := hS9.call ho10
 simp only [List.cons_append, List.nil_append] at hS10
 have q10_t := (hS10.blk 1 rfl).1
 have q10_y := (hS10.blk 3 rfl).1
 have q10_rm := (hS10.blk 5 rfl).1
 have q10_m := (hS10.blk 6 rfl).1
 clear hS9 q9_t q9_y q9_rm q9_m
 clear ho10
 have hS11 := hS10.box (.cells (mC Z aZ cZ) 24)
 have q11_z := (hS11.blk 0 rfl).1
 have q11_t := (hS11.blk 2 rfl).1
 have q11_y := (hS11.blk 4 rfl).1
 have q11_rm := (hS11.blk 6 rfl).1
 have q11_m := (hS11.blk 7 rfl).1
 clear hS10 q10_t q10_y q10_rm q10_m
 go_wp2_with (first | (with_reducible refine wpList_ldS (n := 4) (us := mC Z aZ cZ) A_mach kR wU wU (by assumption) wU wU ?_) | (with_reducible refine wpList_ldS (n := 4) (us := mC m ad cap) A_rmach kR wU wU (by assumption) wU wU ?_))
 refine (rSame_ne Z m aZ ad cZ cap _ (hS11.rd 1 rfl) (hR.below hS11.b) hzs HZN.out).mono ?_
 rintro e w12 ⟨rfl, b12⟩
 have hS12 := hS11.mono b12
 have q12_z := (hS12.blk 0 rfl).1
 have q12_t := (hS12.blk 2 rfl).1
 have q12_y := (hS12.blk 4 rfl).1
 have q12_rm := (hS12.blk 6 rfl).1
 have q12_m := (hS12.blk 7 rfl).1
 clear hS11 q11_z q11_t q11_y q11_rm q11_m
 go_wp2_with fail
 go_ret
 exact ⟨rfl, hS12.b⟩
theorem mr_100 (m : MacV) (ad : Option Addr) (cap : Nat) (S : List UInt8) (c : Int) (w : World) (hR : Ints w ad cap m.sw) (hI : InI m.gears) (c0 : 0 ≤ c) (c1 : c ≤ 255) (hw : LibW w) (hsb : (decide (m.sw.length ≤ 19) && decide (0 ≤ 67)) = true) (hS100 : S.length ≤ 100) (hy : parseMB S = ((parseMB S).1, 0)) (he : macE m ≠ 0) :
  Calls Tryz.prog 10 #[mV m ad cap, .string (bT S), .int .u8 c] w fun r w' => r = .returned (.bool true) ∧ Below w.heap.size w w' := by
 have hS0 := ((SL.nil w).box (.cells (mC m ad cap) 24)).box (.cells (mC m ad cap) 25)
 simp only [World.size_alloc] at hS0
 have HA := hid awake4_any
 have CSh := fun w => rShort_any m ad cap none 0 0 w
 rw [hsb] at CSh
 have HSh := hid CSh
 clear CSh
 have hsz := bT_size S
 have CPA := fun w (h : LibW w) => mParse_any S w h (by omega)
 have CM := fun w h => rCheckMachine_any m ad cap w h
 unfold RetMac at CPA
 have hpp := parse_print (m := (parseMB S).1) (s := S) hy
 obtain ⟨Y, hY⟩ : ∃ Y, Y = (parseMB S).1 := ⟨_, rfl⟩
 rw [show (parseMB S).2 = 0 by rw [hy], ← hY] at CPA
 rw [← hY] at hpp
 have hym := (macE_zero hpp.2.1).1
 have CPY := fun (a : Option Addr) (c : Nat) w h => mPrint_any Y a c w h (fun w h => CheckMachine_any Y a c w h (by have := hym.lo; have := hym.hi; unfold InI; omega)) sw_small
 have hps : printMB Y = bT S := by rw [print_bT, hpp.1]
 rw [if_pos hpp.2.1, hpp.2.1, hps] at CPY
 obtain ⟨s, hs⟩ : ∃ s, s = bT S := ⟨_, rfl⟩
 rw [← hs] at CPA hsz CPY ⊢
 have h100 : ¬ 100 < s.size := by omega
 have HPA := hid CPA; have HPY := hid CPY
 clear CPA hs hsz hS100 hsb hY hy CPY hpp hym hps
 obtain ⟨E, hE⟩ : ∃ E, E = macE m := ⟨_, rfl⟩
 rw [← hE] at CM he
 have hne : (E != 0) = true := by simpa using he
 have HM := hid CM
 clear CM hE he hI
 go_enter Tryz.func10, Tryz.ntmps10
 go_wp2_with fail
 refine (HA.out _ (hw.below hS0.b)).mono ?_
 rintro e w1 ⟨rfl, b1⟩
 have hS1 := hS0.mono b1
 have q1_rm := (hS1.blk 0 rfl).1
 have q1_m := (hS1.blk 1 rfl).1
 clear hS0
 go_wp2_with (with_reducible refine wpList_ldS (n := 4) (us := mC m ad cap) A_rmach kR wU wU (by assumption) wU wU ?_)
 refine (HSh.out _).mono ?_
 rintro e w2 ⟨rfl, b2⟩
 have hS2 := hS1.mono b2
 have q2_rm := (hS2.blk 0 rfl).1
 have q2_m := (hS2.blk 1 rfl).1
 clear hS1 q1_rm q1_m
 go_wp2_with fail
 refine (HPA.out _ (hw.below hS2.b)).mono ?_
 rintro e w3 ⟨aY, cY, rfl, ho3⟩
 have hS3 := hS2.call ho3
 simp only [List.cons_append, List.nil_append] at hS3
 have q3_rm := (hS3.blk 1 rfl).1
 have q3_m := (hS3.blk 2 rfl).1
 clear hS2 q2_rm q2_m
 clear ho3
 have hS4 := hS3.box (.cells (mC Y aY cY) 24)
 have q4_y := (hS4.blk 0 rfl).1
 have q4_rm := (hS4.blk 2 rfl).1
 have q4_m := (hS4.blk 3 rfl).1
 clear hS3 q3_rm q3_m
 go_wp2_with (with_reducible refine wpList_ldS (n := 4) (us := mC Y aY cY) A_mach kR wU wU (by assumption) wU wU ?_)
 refine (HPY.out aY cY _ (hS4.rd 1 rfl)).mono ?_
 rintro e w5 ⟨rfl, b5⟩
 have hS5 := hS4.mono b5
 have q5_y := (hS5.blk 0 rfl).1
 have q5_rm := (hS5.blk 2 rfl).1
 have q5_m := (hS5.blk 3 rfl).1
 clear hS4 q4_y q4_rm q4_m
 go_wp2_with (with_reducible refine wpList_ldS (n := 4) (us := mC m ad cap) A_rmach kR wU wU (by assumption) wU wU ?_)
 refine (HM.out _ (hR.below hS5.b)).mono ?_
 rintro e w6 ⟨rfl, b6⟩
 have hS6 := hS5.mono b6
 have q6_y := (hS6.blk 0 rfl).1
 have q6_rm := (hS6.blk 2 rfl).1
 have q6_m := (hS6.blk 3 rfl).1
 clear hS5 q5_y q5_rm q5_m
 go_wp2_with fail
 go_ret
 exact ⟨rfl, hS6.b⟩
theorem mr_110 (m : MacV) (ad : Option Addr) (cap : Nat) (S : List UInt8) (c : Int) (w : World) (hR : Ints w ad cap m.sw) (hI : InI m.gears) (c0 : 0 ≤ c) (c1 : c ≤ 255) (hw : LibW w) (hsb : (decide (m.sw.length ≤ 19) && decide (0 ≤ 67)) = true) (hS100 : S.length ≤ 100) (hy : parseMB S = ((parseMB S).1, 0)) (hm : macE m = 0) (hz : (parseMB ((printT m).take (c % ((printT m).length : Int)).toNat)).2 ≠ 0) :
  Calls Tryz.prog 10 #[mV m ad cap, .string (bT S), .int .u8 c] w fun r w' => r = .returned (.bool true) ∧ Below w.heap.size w w' := by
 have hS0 := ((SL.nil w).box (.cells (mC m ad cap) 24)).box (.cells (mC m ad cap) 25)
 simp only [World.size_alloc] at hS0
 have HA := hid awake4_any
 have CSh := fun w => rShort_any m ad cap none 0 0 w
 rw [hsb] at CSh
 have HSh := hid CSh
 clear CSh
 have hsz := bT_size S
 have CPA := fun w (h : LibW w) => mParse_any S w h (by omega)
 have CM := fun w h => rCheckMachine_any m ad cap w h
 unfold RetMac at CPA
 have hpp := parse_print (m := (parseMB S).1) (s := S) hy
 obtain ⟨Y, hY⟩ : ∃ Y, Y = (parseMB S).1 := ⟨_, rfl⟩
 rw [show (parseMB S).2 = 0 by rw [hy], ← hY] at CPA
 rw [← hY] at hpp
 have hym := (macE_zero hpp.2.1).1
 have CPY := fun (a : Option Addr) (c : Nat) w h => mPrint_any Y a c w h (fun w h => CheckMachine_any Y a c w h (by have := hym.lo; have := hym.hi; unfold InI; omega)) sw_small
 have hps : printMB Y = bT S := by rw [print_bT, hpp.1]
 rw [if_pos hpp.2.1, hpp.2.1, hps] at CPY
 obtain ⟨s, hs⟩ : ∃ s, s = bT S := ⟨_, rfl⟩
 rw [← hs] at CPA hsz CPY ⊢
 have h100 : ¬ 100 < s.size := by omega
 have HPA := hid CPA; have HPY := hid CPY
 clear CPA hs hsz hS100 hsb hY hy CPY hpp hym hps
 have hok := (macE_zero hm).1
 have CP := fun w h => mPrint_any m ad cap w h (fun w h => CheckMachine_any m ad cap w h hI) sw_small
 rw [if_pos hm, hm, print_bT] at CP
 rw [hm] at CM
 have hlt := printT_small hm
 have hpt := print_parse hm (sw_small hm) (by omega)
 obtain ⟨P, hP⟩ : ∃ P, P = printT m := ⟨_, rfl⟩
 rw [← hP] at CP hlt hpt hz
 have hpos : 0 < P.length := by rw [hP]; exact printT_pos m
 have CPT := fun w (h : LibW w) => mParse_any P w h (by omega)
 unfold RetMac at CPT
 rw [hpt] at CPT
 obtain ⟨q, hq⟩ : ∃ q : Nat, q = (c % (P.length : Int)).toNat := ⟨_, rfl⟩
 rw [← hq] at hz
 have hm0 := Int.emod_nonneg c (b := (P.length : Int)) (by omega)
 have hm1 := Int.emod_lt_of_pos c (b := (P.length : Int)) (by omega)
 have hq1 : q < P.length := by omega
 have htm : c.tmod (P.length : Int) = q := by rw [Int.tmod_eq_emod_of_nonneg c0]; omega
 have CPQ := fun w (h : LibW w) => mParse_any (P.take q) w h (by rw [List.length_take]; omega)
 unfold RetMac at CPQ
 have hex : (bT P).extract 0 q = bT (P.take q) := by rw [bT_extract]; rfl
 have hzne : (parseMB (P.take q)).2 = 0 → (parseMB (P.take q)).1 ≠ m := fun h e => by
  have h2 := (parse_print (m := m) (s := P.take q) (by rw [← e, ← h])).1
  have h3 := congrArg List.length h2
  rw [← hP, List.length_take] at h3
  omega
 have hzs := parse_small (P.take q)
 obtain ⟨Z, hZ⟩ : ∃ Z, Z = (parseMB (P.take q)).1 := ⟨_, rfl⟩
 obtain ⟨EZ, hEZ⟩ : ∃ EZ, EZ = (parseMB (P.take q)).2 := ⟨_, rfl⟩
 rw [← hZ, ← hEZ] at CPQ hzne
 rw [← hZ] at hzs
 rw [← hEZ] at hz
 have hPz := bT_size P
 obtain ⟨pt, hpt2⟩ : ∃ s, s = bT P := ⟨_, rfl⟩
 obtain ⟨pq, hpq⟩ : ∃ s, s = bT (P.take q) := ⟨_, rfl⟩
 rw [← hpt2] at CP CPT hex hPz
 rw [← hpq] at CPQ hex
 rw [← hPz] at htm hq1 hpos
 have hp4 : pt.size ≤ 4096 := by omega
 have hsl : m.sw.length ≤ 1048576 := by have := hok.many; have := hok.hi; omega
 have hwq : IntKind.i64.wrap (q : Int) = q := IntWalk.i64_in _ (by omega)
 have hwc : IntKind.i64.wrap c = c := IntWalk.i64_in _ (by omega)
 have hnz : ¬ (pt.size : Int) = 0 := by omega
 have hnz2 : ((pt.size : Int) == 0) = false := beq_eq_false_iff_ne.2 hnz
 have hnz3 : ¬ pt = ByteArray.empty := by rintro rfl; simp at hpos
 have hb1 : (0 : Int) ≤ q := by omega
 have hb2 : (q : Int) ≤ pt.size := by omega
 have HEX := hid hex
 have HP := hid CP; have HM := hid CM; have HPT := hid CPT; have HPQ := hid CPQ
 have hzb : (EZ != 0) = true := by simpa using hz
 clear CP CM CPT CPQ hZ hEZ hP hpt hpt2 hpq hex hlt hPz hq hm0 hm1 hok hm hI hpos hzne hz
 go_enter Tryz.func10, Tryz.ntmps10
 go_wp2_with fail
 refine (HA.out _ (hw.below hS0.b)).mono ?_
 rintro e w1 ⟨rfl, b1⟩
 have hS1 := hS0.mono b1
 have q1_rm := (hS1.blk 0 rfl).1
 have q1_m := (hS1.blk 1 rfl).1
 clear hS0
 go_wp2_with (with_reducible refine wpList_ldS (n := 4) (us := mC m ad cap) A_rmach kR wU wU (by assumption) wU wU ?_)
 refine (HSh.out _).mono ?_
 rintro e w2 ⟨rfl, b2⟩
 have hS2 := hS1.mono b2
 have q2_rm := (hS2.blk 0 rfl).1
 have q2_m := (hS2.blk 1 rfl).1
 clear hS1 q1_rm q1_m
 go_wp2_with fail
 refine (HPA.out _ (hw.below hS2.b)).mono ?_
 rintro e w3 ⟨aY, cY, rfl, ho3⟩
 have hS3 := hS2.call ho3
 simp only [List.cons_append, List.nil_append] at hS3
 have q3_rm := (hS3.blk 1 rfl).1
 have q3_m := (hS3.blk 2 rfl).1
 clear hS2 q2_rm q2_m
 clear ho3
 have hS4 := hS3.box (.cells (mC Y aY cY) 24)
 have q4_y := (hS4.blk 0 rfl).1
 have q4_rm := (hS4.blk 2 rfl).1
 have q4_m := (hS4.blk 3 rfl).1
 clear hS3 q3_rm q3_m
 go_wp2_with (with_reducible refine wpList_ldS (n := 4) (us := mC Y aY cY) A_mach kR wU wU (by assumption) wU wU ?_)
 refine (HPY.out aY cY _ (hS4.rd 1 rfl)).mono ?_
 rintro e w5 ⟨rfl, b5⟩
 have hS5 := hS4.mono b5
 have q5_y := (hS5.blk 0 rfl).1
 have q5_rm := (hS5.blk 2 rfl).1
 have q5_m := (hS5.blk 3 rfl).1
 clear hS4 q4_y q4_rm q4_m
 go_wp2_with (with_reducible refine wpList_ldS (n := 4) (us := mC m ad cap) A_rmach kR wU wU (by assumption) wU wU ?_)
 refine (HM.out _ (hR.below hS5.b)).mono ?_
 rintro e w6 ⟨rfl, b6⟩
 have hS6 := hS5.mono b6
 have q6_y := (hS6.blk 0 rfl).1
 have q6_rm := (hS6.blk 2 rfl).1
 have q6_m := (hS6.blk 3 rfl).1
 clear hS5 q5_y q5_rm q5_m
 go_wp2_with (with_reducible refine wpList_ldS (n := 4) (us := mC m ad cap) A_mach kR wU wU (by assumption) wU wU ?_)
 refine (HP.out _ (hR.below hS6.b)).mono ?_
 rintro e w7 ⟨rfl, b7⟩
 have hS7 := hS6.mono b7
 have q7_y := (hS7.blk 0 rfl).1
 have q7_rm := (hS7.blk 2 rfl).1
 have q7_m := (hS7.blk 3 rfl).1
 clear hS6 q6_y q6_rm q6_m
 go_wp2_with fail
 refine (HPT.out _ (hw.below hS7.b)).mono ?_
 rintro e w8 ⟨aT, cT, rfl, ho8⟩
 have hS8 := hS7.call ho8
 simp only [List.cons_append, List.nil_append] at hS8
 have q8_y := (hS8.blk 1 rfl).1
 have q8_rm := (hS8.blk 3 rfl).1
 have q8_m := (hS8.blk 4 rfl).1
 clear hS7 q7_y q7_rm q7_m
 clear ho8
 have hS9 := hS8.box (.cells (mC m aT cT) 24)
 have q9_t := (hS9.blk 0 rfl).1
 have q9_y := (hS9.blk 2 rfl).1
 have q9_rm := (hS9.blk 4 rfl).1
 have q9_m := (hS9.blk 5 rfl).1
 clear hS8 q8_y q8_rm q8_m
 go_wp2_with (first | (with_reducible refine wpList_ldS (n := 4) (us := mC m aT cT) A_mach kR wU wU (by assumption) wU wU ?_) | (with_reducible refine wpList_ldS (n := 4) (us := mC m ad cap) A_rmach kR wU wU (by assumption) wU wU ?_))
 refine (rSame_same m aT ad cT cap _ (hS9.rd 1 rfl) (hR.below hS9.b) hsl).mono ?_
 rintro e w10 ⟨rfl, b10⟩
 have hS10 := hS9.mono b10
 have q10_t := (hS10.blk 0 rfl).1
 have q10_y := (hS10.blk 2 rfl).1
 have q10_rm := (hS10.blk 4 rfl).1
 have q10_m := (hS10.blk 5 rfl).1
 clear hS9 q9_t q9_y q9_rm q9_m
 go_wp2_with (rw [HEX.out])
 refine (HPQ.out _ (hw.below hS10.b)).mono ?_
 rintro e w11 ⟨aZ, cZ, rfl, ho11⟩
 have hS11 := hS10.call ho11
 simp only [List.cons_append, List.nil_append] at hS11
 have q11_t := (hS11.blk 1 rfl).1
 have q11_y := (hS11.blk 3 rfl).1
 have q11_rm := (hS11.blk 5 rfl).1
 have q11_m := (hS11.blk 6 rfl).1
 clear hS10 q10_t q10_y q10_rm q10_m
 clear ho11
 have hS12 := hS11.box (.cells (mC Z aZ cZ) 24)
 have q12_z := (hS12.blk 0 rfl).1
 have q12_t := (hS12.blk 2 rfl).1
 have q12_y := (hS12.blk 4 rfl).1
 have q12_rm := (hS12.blk 6 rfl).1
 have q12_m := (hS12.blk 7 rfl).1
 clear hS11 q11_t q11_y q11_rm q11_m
 go_wp2_with fail
 go_ret
 exact ⟨rfl, hS12.b⟩
theorem mr_111 (m : MacV) (ad : Option Addr) (cap : Nat) (S : List UInt8) (c : Int) (w : World) (hR : Ints w ad cap m.sw) (hI : InI m.gears) (c0 : 0 ≤ c) (c1 : c ≤ 255) (hw : LibW w) (hsb : (decide (m.sw.length ≤ 19) && decide (0 ≤ 67)) = true) (hS100 : S.length ≤ 100) (hy : parseMB S = ((parseMB S).1, 0)) (hm : macE m = 0) (hz : (parseMB ((printT m).take (c % ((printT m).length : Int)).toNat)).2 = 0) :
  Calls Tryz.prog 10 #[mV m ad cap, .string (bT S), .int .u8 c] w fun r w' => r = .returned (.bool true) ∧ Below w.heap.size w w' := by
 have hS0 := ((SL.nil w).box (.cells (mC m ad cap) 24)).box (.cells (mC m ad cap) 25)
 simp only [World.size_alloc] at hS0
 have HA := hid awake4_any
 have CSh := fun w => rShort_any m ad cap none 0 0 w
 rw [hsb] at CSh
 have HSh := hid CSh
 clear CSh
 have hsz := bT_size S
 have CPA := fun w (h : LibW w) => mParse_any S w h (by omega)
 have CM := fun w h => rCheckMachine_any m ad cap w h
 unfold RetMac at CPA
 have hpp := parse_print (m := (parseMB S).1) (s := S) hy
 obtain ⟨Y, hY⟩ : ∃ Y, Y = (parseMB S).1 := ⟨_, rfl⟩
 rw [show (parseMB S).2 = 0 by rw [hy], ← hY] at CPA
 rw [← hY] at hpp
 have hym := (macE_zero hpp.2.1).1
 have CPY := fun (a : Option Addr) (c : Nat) w h => mPrint_any Y a c w h (fun w h => CheckMachine_any Y a c w h (by have := hym.lo; have := hym.hi; unfold InI; omega)) sw_small
 have hps : printMB Y = bT S := by rw [print_bT, hpp.1]
 rw [if_pos hpp.2.1, hpp.2.1, hps] at CPY
 obtain ⟨s, hs⟩ : ∃ s, s = bT S := ⟨_, rfl⟩
 rw [← hs] at CPA hsz CPY ⊢
 have h100 : ¬ 100 < s.size := by omega
 have HPA := hid CPA; have HPY := hid CPY
 clear CPA hs hsz hS100 hsb hY hy CPY hpp hym hps
 have hok := (macE_zero hm).1
 have CP := fun w h => mPrint_any m ad cap w h (fun w h => CheckMachine_any m ad cap w h hI) sw_small
 rw [if_pos hm, hm, print_bT] at CP
 rw [hm] at CM
 have hlt := printT_small hm
 have hpt := print_parse hm (sw_small hm) (by omega)
 obtain ⟨P, hP⟩ : ∃ P, P = printT m := ⟨_, rfl⟩
 rw [← hP] at CP hlt hpt hz
 have hpos : 0 < P.length := by rw [hP]; exact printT_pos m
 have CPT := fun w (h : LibW w) => mParse_any P w h (by omega)
 unfold RetMac at CPT
 rw [hpt] at CPT
 obtain ⟨q, hq⟩ : ∃ q : Nat, q = (c % (P.length : Int)).toNat := ⟨_, rfl⟩
 rw [← hq] at hz
 have hm0 := Int.emod_nonneg c (b := (P.length : Int)) (by omega)
 have hm1 := Int.emod_lt_of_pos c (b := (P.length : Int)) (by omega)
 have hq1 : q < P.length := by omega
 have htm : c.tmod (P.length : Int) = q := by rw [Int.tmod_eq_emod_of_nonneg c0]; omega
 have CPQ := fun w (h : LibW w) => mParse_any (P.take q) w h (by rw [List.length_take]; omega)
 unfold RetMac at CPQ
 have hex : (bT P).extract 0 q = bT (P.take q) := by rw [bT_extract]; rfl
 have hzne : (parseMB (P.take q)).2 = 0 → (parseMB (P.take q)).1 ≠ m := fun h e => by
  have h2 := (parse_print (m := m) (s := P.take q) (by rw [← e, ← h])).1
  have h3 := congrArg List.length h2
  rw [← hP, List.length_take] at h3
  omega
 have hzs := parse_small (P.take q)
 obtain ⟨Z, hZ⟩ : ∃ Z, Z = (parseMB (P.take q)).1 := ⟨_, rfl⟩
 obtain ⟨EZ, hEZ⟩ : ∃ EZ, EZ = (parseMB (P.take q)).2 := ⟨_, rfl⟩
 rw [← hZ, ← hEZ] at CPQ hzne
 rw [← hZ] at hzs
 rw [← hEZ] at hz
 clear hEZ
 have hPz := bT_size P
 obtain ⟨pt, hpt2⟩ : ∃ s, s = bT P := ⟨_, rfl⟩
 obtain ⟨pq, hpq⟩ : ∃ s, s = bT (P.take q) := ⟨_, rfl⟩
 rw [← hpt2] at CP CPT hex hPz
 rw [← hpq] at CPQ hex
 rw [← hPz] at htm hq1 hpos
 have hp4 : pt.size ≤ 4096 := by omega
 have hsl : m.sw.length ≤ 1048576 := by have := hok.many; have := hok.hi; omega
 have hwq : IntKind.i64.wrap (q : Int) = q := IntWalk.i64_in _ (by omega)
 have hwc : IntKind.i64.wrap c = c := IntWalk.i64_in _ (by omega)
 have hnz : ¬ (pt.size : Int) = 0 := by omega
 have hnz2 : ((pt.size : Int) == 0) = false := beq_eq_false_iff_ne.2 hnz
 have hnz3 : ¬ pt = ByteArray.empty := by rintro rfl; simp at hpos
 have hb1 : (0 : Int) ≤ q := by omega
 have hb2 : (q : Int) ≤ pt.size := by omega
 have HEX := hid hex
 have HP := hid CP; have HM := hid CM; have HPT := hid CPT; have HPQ := hid CPQ
 subst hz
 have HZN := hid (hzne rfl)
 clear CP CM CPT CPQ hZ hP hpt hpt2 hpq hex hlt hPz hq hm0 hm1 hok hm hI hpos hzne
 go_enter Tryz.func10, Tryz.ntmps10
 go_wp2_with fail
 refine (HA.out _ (hw.below hS0.b)).mono ?_
 rintro e w1 ⟨rfl, b1⟩
 have hS1 := hS0.mono b1
 have q1_rm := (hS1.blk 0 rfl).1
 have q1_m := (hS1.blk 1 rfl).1
 clear hS0
 go_wp2_with (with_reducible refine wpList_ldS (n := 4) (us := mC m ad cap) A_rmach kR wU wU (by assumption) wU wU ?_)
 refine (HSh.out _).mono ?_
 rintro e w2 ⟨rfl, b2⟩
 have hS2 := hS1.mono b2
 have q2_rm := (hS2.blk 0 rfl).1
 have q2_m := (hS2.blk 1 rfl).1
 clear hS1 q1_rm q1_m
 go_wp2_with fail
 refine (HPA.out _ (hw.below hS2.b)).mono ?_
 rintro e w3 ⟨aY, cY, rfl, ho3⟩
 have hS3 := hS2.call ho3
 simp only [List.cons_append, List.nil_append] at hS3
 have q3_rm := (hS3.blk 1 rfl).1
 have q3_m := (hS3.blk 2 rfl).1
 clear hS2 q2_rm q2_m
 clear ho3
 have hS4 := hS3.box (.cells (mC Y aY cY) 24)
 have q4_y := (hS4.blk 0 rfl).1
 have q4_rm := (hS4.blk 2 rfl).1
 have q4_m := (hS4.blk 3 rfl).1
 clear hS3 q3_rm q3_m
 go_wp2_with (with_reducible refine wpList_ldS (n := 4) (us := mC Y aY cY) A_mach kR wU wU (by assumption) wU wU ?_)
 refine (HPY.out aY cY _ (hS4.rd 1 rfl)).mono ?_
 rintro e w5 ⟨rfl, b5⟩
 have hS5 := hS4.mono b5
 have q5_y := (hS5.blk 0 rfl).1
 have q5_rm := (hS5.blk 2 rfl).1
 have q5_m := (hS5.blk 3 rfl).1
 clear hS4 q4_y q4_rm q4_m
 go_wp2_with (with_reducible refine wpList_ldS (n := 4) (us := mC m ad cap) A_rmach kR wU wU (by assumption) wU wU ?_)
 refine (HM.out _ (hR.below hS5.b)).mono ?_
 rintro e w6 ⟨rfl, b6⟩
 have hS6 := hS5.mono b6
 have q6_y := (hS6.blk 0 rfl).1
 have q6_rm := (hS6.blk 2 rfl).1
 have q6_m := (hS6.blk 3 rfl).1
 clear hS5 q5_y q5_rm q5_m
 go_wp2_with (with_reducible refine wpList_ldS (n := 4) (us := mC m ad cap) A_mach kR wU wU (by assumption) wU wU ?_)
 refine (HP.out _ (hR.below hS6.b)).mono ?_
 rintro e w7 ⟨rfl, b7⟩
 have hS7 := hS6.mono b7
 have q7_y := (hS7.blk 0 rfl).1
 have q7_rm := (hS7.blk 2 rfl).1
 have q7_m := (hS7.blk 3 rfl).1
 clear hS6 q6_y q6_rm q6_m
 go_wp2_with fail
 refine (HPT.out _ (hw.below hS7.b)).mono ?_
 rintro e w8 ⟨aT, cT, rfl, ho8⟩
 have hS8 := hS7.call ho8
 simp only [List.cons_append, List.nil_append] at hS8
 have q8_y := (hS8.blk 1 rfl).1
 have q8_rm := (hS8.blk 3 rfl).1
 have q8_m := (hS8.blk 4 rfl).1
 clear hS7 q7_y q7_rm q7_m
 clear ho8
 have hS9 := hS8.box (.cells (mC m aT cT) 24)
 have q9_t := (hS9.blk 0 rfl).1
 have q9_y := (hS9.blk 2 rfl).1
 have q9_rm := (hS9.blk 4 rfl).1
 have q9_m := (hS9.blk 5 rfl).1
 clear hS8 q8_y q8_rm q8_m
 go_wp2_with (first | (with_reducible refine wpList_ldS (n := 4) (us := mC m aT cT) A_mach kR wU wU (by assumption) wU wU ?_) | (with_reducible refine wpList_ldS (n := 4) (us := mC m ad cap) A_rmach kR wU wU (by assumption) wU wU ?_))
 refine (rSame_same m aT ad cT cap _ (hS9.rd 1 rfl) (hR.below hS9.b) hsl).mono ?_
 rintro e w10 ⟨rfl, b10⟩
 have hS10 := hS9.mono b10
 have q10_t := (hS10.blk 0 rfl).1
 have q10_y := (hS10.blk 2 rfl).1
 have q10_rm := (hS10.blk 4 rfl).1
 have q10_m := (hS10.blk 5 rfl).1
 clear hS9 q9_t q9_y q9_rm q9_m
 go_wp2_with (rw [HEX.out])
 refine (HPQ.out _ (hw.below hS10.b)).mono ?_
 rintro e w11 ⟨aZ, cZ, rfl, ho11⟩
 have hS11 := hS10.call ho11
 simp only [List.cons_append, List.nil_append] at hS11
 have q11_t := (hS11.blk 1 rfl).1
 have q11_y := (hS11.blk 3 rfl).1
 have q11_rm := (hS11.blk 5 rfl).1
 have q11_m := (hS11.blk 6 rfl).1
 clear hS10 q10_t q10_y q10_rm q10_m
 clear ho11
 have hS12 := hS11.box (.cells (mC Z aZ cZ) 24)
 have q12_z := (hS12.blk 0 rfl).1
 have q12_t := (hS12.blk 2 rfl).1
 have q12_y := (hS12.blk 4 rfl).1
 have q12_rm := (hS12.blk 6 rfl).1
 have q12_m := (hS12.blk 7 rfl).1
 clear hS11 q11_t q11_y q11_rm q11_m
 go_wp2_with (first | (with_reducible refine wpList_ldS (n := 4) (us := mC Z aZ cZ) A_mach kR wU wU (by assumption) wU wU ?_) | (with_reducible refine wpList_ldS (n := 4) (us := mC m ad cap) A_rmach kR wU wU (by assumption) wU wU ?_))
 refine (rSame_ne Z m aZ ad cZ cap _ (hS12.rd 1 rfl) (hR.below hS12.b) hzs HZN.out).mono ?_
 rintro e w13 ⟨rfl, b13⟩
 have hS13 := hS12.mono b13
 have q13_z := (hS13.blk 0 rfl).1
 have q13_t := (hS13.blk 2 rfl).1
 have q13_y := (hS13.blk 4 rfl).1
 have q13_rm := (hS13.blk 6 rfl).1
 have q13_m := (hS13.blk 7 rfl).1
 clear hS12 q12_z q12_t q12_y q12_rm q12_m
 go_wp2_with fail
 go_ret
 exact ⟨rfl, hS13.b⟩
end Go.Proofs.YtoebgfgihfjnnaaGreatDoor

namespace Go.Proofs.YtoebgfgihfjnnaaGreatDoor
open Go.RowKit
set_option maxHeartbeats 8000000
set_option maxRecDepth 100000
theorem mr_short (m : MacV) (ad : Option Addr) (cap : Nat) (S : List UInt8) (c : Int) (w : World) (hR : Ints w ad cap m.sw) (hI : InI m.gears) (c0 : 0 ≤ c) (c1 : c ≤ 255) (hw : LibW w) (hsb : (decide (m.sw.length ≤ 19) && decide (0 ≤ 67)) = false) :
  Calls Tryz.prog 10 #[mV m ad cap, .string (bT S), .int .u8 c] w fun r w' => r = .returned (.bool true) ∧ Below w.heap.size w w' := by
 have hS0 := ((SL.nil w).box (.cells (mC m ad cap) 24)).box (.cells (mC m ad cap) 25)
 simp only [World.size_alloc] at hS0
 have HA := hid awake4_any
 have CSh := fun w => rShort_any m ad cap none 0 0 w
 rw [hsb] at CSh
 have HSh := hid CSh
 clear CSh
 have hsz := bT_size S
 obtain ⟨s, hs⟩ : ∃ s, s = bT S := ⟨_, rfl⟩
 rw [← hs] at hsz ⊢
 clear hs hsz hsb
 go_enter Tryz.func10, Tryz.ntmps10
 go_wp2_with fail
 refine (HA.out _ (hw.below hS0.b)).mono ?_
 rintro e w1 ⟨rfl, b1⟩
 have hS1 := hS0.mono b1
 have q1_rm := (hS1.blk 0 rfl).1
 have q1_m := (hS1.blk 1 rfl).1
 clear hS0
 go_wp2_with (with_reducible refine wpList_ldS (n := 4) (us := mC m ad cap) A_rmach kR wU wU (by assumption) wU wU ?_)
 refine (HSh.out _).mono ?_
 rintro e w2 ⟨rfl, b2⟩
 have hS2 := hS1.mono b2
 have q2_rm := (hS2.blk 0 rfl).1
 have q2_m := (hS2.blk 1 rfl).1
 clear hS1 q1_rm q1_m
 go_wp2_with fail
 refine (HA.out _ (hw.below hS2.b)).mono ?_
 rintro e w3 ⟨rfl, b3⟩
 have hS3 := hS2.mono b3
 have q3_rm := (hS3.blk 0 rfl).1
 have q3_m := (hS3.blk 1 rfl).1
 clear hS2 q2_rm q2_m
 go_wp2_with fail
 go_ret
 exact ⟨rfl, hS3.b⟩
theorem mr_long (m : MacV) (ad : Option Addr) (cap : Nat) (S : List UInt8) (c : Int) (w : World) (hR : Ints w ad cap m.sw) (hI : InI m.gears) (c0 : 0 ≤ c) (c1 : c ≤ 255) (hw : LibW w) (hsb : (decide (m.sw.length ≤ 19) && decide (0 ≤ 67)) = true) (hS100 : 100 < S.length) :
  Calls Tryz.prog 10 #[mV m ad cap, .string (bT S), .int .u8 c] w fun r w' => r = .returned (.bool true) ∧ Below w.heap.size w w' := by
 have hS0 := ((SL.nil w).box (.cells (mC m ad cap) 24)).box (.cells (mC m ad cap) 25)
 simp only [World.size_alloc] at hS0
 have HA := hid awake4_any
 have CSh := fun w => rShort_any m ad cap none 0 0 w
 rw [hsb] at CSh
 have HSh := hid CSh
 clear CSh
 have hsz := bT_size S
 obtain ⟨s, hs⟩ : ∃ s, s = bT S := ⟨_, rfl⟩
 rw [← hs] at hsz ⊢
 have h100 : 100 < s.size := by omega
 clear hs hsz hsb hS100
 go_enter Tryz.func10, Tryz.ntmps10
 go_wp2_with fail
 refine (HA.out _ (hw.below hS0.b)).mono ?_
 rintro e w1 ⟨rfl, b1⟩
 have hS1 := hS0.mono b1
 have q1_rm := (hS1.blk 0 rfl).1
 have q1_m := (hS1.blk 1 rfl).1
 clear hS0
 go_wp2_with (with_reducible refine wpList_ldS (n := 4) (us := mC m ad cap) A_rmach kR wU wU (by assumption) wU wU ?_)
 refine (HSh.out _).mono ?_
 rintro e w2 ⟨rfl, b2⟩
 have hS2 := hS1.mono b2
 have q2_rm := (hS2.blk 0 rfl).1
 have q2_m := (hS2.blk 1 rfl).1
 clear hS1 q1_rm q1_m
 go_wp2_with fail
 refine (HA.out _ (hw.below hS2.b)).mono ?_
 rintro e w3 ⟨rfl, b3⟩
 have hS3 := hS2.mono b3
 have q3_rm := (hS3.blk 0 rfl).1
 have q3_m := (hS3.blk 1 rfl).1
 clear hS2 q2_rm q2_m
 go_wp2_with fail
 go_ret
 exact ⟨rfl, hS3.b⟩
theorem MachineReads_any (m : MacV) (ad : Option Addr) (cap : Nat) (s : ByteArray) (c : Int) (w : World) (hR : Ints w ad cap m.sw) (hI : InI m.gears) (c0 : 0 ≤ c) (c1 : c ≤ 255) (hw : LibW w) :
  Calls Tryz.prog 10 #[mV m ad cap, .string s, .int .u8 c] w fun r w' => r = .returned (.bool true) ∧ Below w.heap.size w w' := by
 obtain ⟨S, rfl⟩ : ∃ S, s = bT S := ⟨s.data.toList, by simp [bT]⟩
 cases hsb : (decide (m.sw.length ≤ 19) && decide (0 ≤ 67))
 ·exact mr_short m ad cap S c w hR hI c0 c1 hw hsb
 ·by_cases h100 : S.length ≤ 100
  ·by_cases hm : macE m = 0
   ·by_cases hz : (parseMB ((printT m).take (c % ((printT m).length : Int)).toNat)).2 = 0
    ·by_cases hy : (parseMB S).2 = 0
     ·exact mr_111 m ad cap S c w hR hI c0 c1 hw hsb h100 (by rw [← hy]) hm hz
     ·exact mr_011 m ad cap S c w hR hI c0 c1 hw hsb h100 hy hm hz
    ·by_cases hy : (parseMB S).2 = 0
     ·exact mr_110 m ad cap S c w hR hI c0 c1 hw hsb h100 (by rw [← hy]) hm hz
     ·exact mr_010 m ad cap S c w hR hI c0 c1 hw hsb h100 hy hm hz
   ·by_cases hy : (parseMB S).2 = 0
    ·exact mr_100 m ad cap S c w hR hI c0 c1 hw hsb h100 (by rw [← hy]) hm
    ·exact mr_000 m ad cap S c w hR hI c0 c1 hw hsb h100 hy hm
  ·exact mr_long m ad cap S c w hR hI c0 c1 hw hsb (by omega)
end Go.Proofs.YtoebgfgihfjnnaaGreatDoor
