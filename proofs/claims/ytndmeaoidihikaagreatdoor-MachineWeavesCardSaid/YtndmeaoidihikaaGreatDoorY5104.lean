/- Contracts and plain facts that the claim uses (K11a K11). Conditions: as each one states. -/
import Derived.RangeFuncNested
import Derived.RangeFuncBound
import Derived.RangeFuncCalls
import Derived.RangeFuncLeaves
import Derived.RangeFuncFrom
import Derived.Shelf.Abstract
import Derived.Shelf.RegionOpen
import Derived.WalkKit
import Derived.OwnWalkIn
import Derived.TacticsInMore
import Derived.LoopNIn
import Derived.LoopIn
import Derived.Test.YtndmeaoidihikaaGreatDoorProg
import Derived.WalkSpells
import Derived.Maps.AppendAt
import Derived.Deep.Quiet
import Derived.Maps.Own
import Derived.Maps.OwnSet
import Derived.Maps.Views
import Derived.WalkLawsBesides
import Derived.Laws.EntriesVeiled
import Derived.Deep.QuietTactic
import Derived.BigQuiet
import Derived.Shelf.Strings.Trim
import Derived.Shelf.Strings.SlTrimAscii
import Derived.Shelf.Strings.Repeat
import Derived.Shelf.Strings.OnBuilder
import Derived.Shelf.Strconv.Itoa1
import Derived.Shelf.Strconv.Itoa3
import Derived.Shelf.LaysM
import Derived.Ground.Names2Prog
import Derived.Lib.OthersKept
import Derived.Deep.RegionHeld3
import Derived.Deep.AppendLies
import Derived.Deep.RegionHeldLaw
import Derived.Deep.RegionLaw
import Derived.StillTail
import Derived.Laws.Tables
import Derived.IntWalk
import Derived.Laws.CopyOwn
import Derived.BigRegion
import Derived.ChangeAlike
import Derived.Shelf.Bits.Mul64
import Derived.Lib.ItoaLen
import Derived.Lib.ItoaMem
import Derived.Sort.LoopGhostIn
import Derived.Maps.RangeWalk
import Derived.Maps.Ext
import Derived.Sort.QuietThIn
import Derived.Deep.LoopGhost
import Derived.Lib.Split
import Derived.Lib.AtoiAll
import Derived.Shelf.Strconv.ErrVarAll
import Derived.Shelf.Strconv.AtoiAll
import Derived.Shelf.Strings.Cut
import Derived.Shelf.Strings.Split
import Derived.Shelf.Strings.SplitShaped
import Derived.Lib.AppendIntMem
import Derived.Lib.SmallJoins
import Derived.LaidSub
import Derived.Lib.LaidTab
import Derived.Lib.AtoiErrMem
import Derived.Stop.LaidErr
import Derived.ReadAgain
import Derived.ChangeSlices
import Derived.OpenShut
import Derived.ProofKit
import Derived.Deep.DeepHandedRow
import Derived.Deep.SlicePairs
import Derived.Test.YtndmeaoidihikaaGreatDoorXz01
import Derived.Test.YtndmeaoidihikaaGreatDoorXz02
import Derived.Test.YtndmeaoidihikaaGreatDoorXz03
import Derived.Test.YtndmeaoidihikaaGreatDoorXz04
import Derived.Test.YtndmeaoidihikaaGreatDoorXz05
import Derived.Test.YtndmeaoidihikaaGreatDoorXz06
import Derived.Test.YtndmeaoidihikaaGreatDoorXz07
import Derived.Test.YtndmeaoidihikaaGreatDoorXz08
import Derived.Test.YtndmeaoidihikaaGreatDoorXz09
import Derived.Test.YtndmeaoidihikaaGreatDoorXz10
import Derived.Test.YtndmeaoidihikaaGreatDoorXz11
import Derived.Test.YtndmeaoidihikaaGreatDoorXz12
import Derived.Test.YtndmeaoidihikaaGreatDoorY5101
import Derived.Test.YtndmeaoidihikaaGreatDoorY5102
import Derived.Test.YtndmeaoidihikaaGreatDoorY5103
set_option linter.all false

namespace Go.Proofs.YtndmeaoidihikaaGreatDoor
open Go.RowKit
set_option maxHeartbeats 8000000
set_option maxRecDepth 100000
theorem we_main (m : MacV) (ad al : Option Addr) (cap cl : Nat) (l : List Int) (A B N : Nat) (w : World) (hR : Ints w ad cap m.sw) (hL : Ints w al cl l) (hI : InI m.gears) (hw : LibW w) (hf : Fits m l 6 6) (hr : m.ring = false) (hA : A ≤ 12) (hB : B ≤ 12) (hN : N = A + B) (hme : meetsM m l N = false) :
  Calls Tryz.prog 5 #[mV m ad cap, .slice al l.length cl, .agg #[.int .i64 (A : Int), .int .i64 (B : Int)]] w fun r w' => r = .returned (.bool true) ∧ Below w.heap.size w w' := by
 have hS0 := ((SL.nil w).box (.cells (mC m ad cap) 24)).box (.cells #[.int .i64 (A : Int), .int .i64 (B : Int)] 53)
 simp only [World.size_alloc] at hS0
 have HA := hid awake4_any
 have hlc := hL.le
 have hlm := hL.max
 have he := hf.2.2.2
 have hlk := loadE_zero he
 have hok := hlk.ok
 have hl6 := hf.2.2.1
 have hlo := hok.lo
 have hhi := hok.hi
 have W9 := wv_ok hf hr hA hB hN hme
 have hAB : IntKind.i64.wrap ((A : Int) + (B : Int)) = (N : Int) := by rw [show (A : Int) + (B : Int) = (N : Int) by omega]; exact IntWalk.i64_in _ (by omega)
 have KL : ∀ (a : Option Addr) (c : Nat) (q : List Int), ChkL m ad cap a c q := fun a c q => CheckLoad_any m ad cap a c q fun w h => CheckMachine_any m ad cap w h hI
 have CME := fun w h h2 => rMeets_any m ad cap al cl l N w h h2 hlo hhi hlk.rng (by omega) hlk.nodup
 rw [hme] at CME
 have CO : ∀ w, Ints w ad cap m.sw → Ints w al cl l → Calls Tryz.prog 24 #[mV m ad cap, .slice al l.length cl] w fun r w' => ∃ v, r = .returned (.tuple #[v, .int .i64 0]) ∧ OwnI w.heap.size w' v (orderM m l) ∧ Below w.heap.size w w' := by
  intro w h h2; have h3 := mOrder_any m ad cap al cl l w h h2 (KL _ _ _); have e := W9.ordE 0 (by omega); rw [atL_zero] at e; rw [e, if_pos rfl] at h3; exact h3
 have CW : ∀ w, Ints w ad cap m.sw → Ints w al cl l → Calls Tryz.prog 25 #[mV m ad cap, .slice al l.length cl, .int .i64 N] w fun r w' => ∃ v, r = .returned (.tuple #[v, .int .i64 0]) ∧ OwnI w.heap.size w' v (wrdL m l N) ∧ Below w.heap.size w w' := by
  intro w h h2; have h3 := mWord_any m ad cap al cl l N w h h2 (KL _ _ _); rw [W9.wN, if_pos rfl] at h3; exact h3
 have CT : ∀ w, Ints w ad cap m.sw → Ints w al cl l → Calls Tryz.prog 26 #[mV m ad cap, .slice al l.length cl, .int .i64 N] w fun r w' => ∃ v, r = .returned (.tuple #[v, .int .i64 0]) ∧ OwnI w.heap.size w' v (strandsL m l N) ∧ Below w.heap.size w w' := by
  intro w h h2; have h3 := mStrands_any m ad cap al cl l N w h h2 (KL _ _ _); rw [W9.vN, if_pos rfl] at h3; exact h3
 have CCP := fun a c w h => rCheckPerm_any a c (orderM m l) w h W9.ip (by rw [W9.olen]; omega)
 have CX : ∀ k : Nat, k ≤ N → ∀ (a : Option Addr) (c : Nat) w, Ints w ad cap m.sw → Ints w a c (atL m l k) → Calls Tryz.prog 27 #[mV m ad cap, .slice a (atL m l k).length c] w fun r w' => ∃ v, r = .returned (.tuple #[v, .int .i64 0]) ∧ Own cX 3 w.heap.size 60 w' v (crossM m (atL m l k)) ∧ Below w.heap.size w w' := by
  intro k hk a c w h h2; have h3 := mCrossings_any m ad cap a c (atL m l k) w h h2 (KL _ _ _); rw [W9.crE k hk, if_pos rfl] at h3; exact h3
 have CS : ∀ k : Nat, ∀ (a : Option Addr) (c : Nat) w, Ints w ad cap m.sw → Ints w a c (atL m l k) → Calls Tryz.prog 21 #[mV m ad cap, .slice a (atL m l k).length c, .int .i64 1] w fun r w' => ∃ v, r = .returned (.tuple #[v, .int .i64 0]) ∧ OwnI w.heap.size w' v ((atL m l (k + 1))) ∧ Below w.heap.size w w' := by
  intro k a c w h h2; have h3 := mSteps_any m ad cap a c (atL m l k) 1 w h h2 (KL _ _ _); rw [W9.st1 k, if_pos rfl, W9.map1 k] at h3; exact h3
 have CQ : ∀ k : Nat, k ≤ N → ∀ (a : Option Addr) (c : Nat) w, Ints w ad cap m.sw → Ints w a c (atL m l k) → Calls Tryz.prog 24 #[mV m ad cap, .slice a (atL m l k).length c] w fun r w' => ∃ v, r = .returned (.tuple #[v, .int .i64 0]) ∧ OwnI w.heap.size w' v ((wvM m l k).1) ∧ Below w.heap.size w w' := by
  intro k hk a c w h h2; have h3 := mOrder_any m ad cap a c (atL m l k) w h h2 (KL _ _ _); rw [W9.ordE k hk, if_pos rfl, W9.row k hk] at h3; exact h3
 have CRL : ∀ k : Nat, ∀ (a : Option Addr) (c : Nat) w, Ints w a c (atL m l k) → Calls Tryz.prog 22 #[mV m ad cap, .slice a (atL m l k).length c] w fun r w' => r = .returned (.int .i64 0) ∧ Below w.heap.size w w' := by
  intro k a c w h; have h3 := rCheckLoad_any m ad cap a c (atL m l k) w h hlo hhi; rw [W9.chk k] at h3; exact h3
 have CSA : ∀ w, Ints w ad cap m.sw → Ints w al cl l → Calls Tryz.prog 21 #[mV m ad cap, .slice al l.length cl, .int .i64 A] w fun r w' => ∃ v, r = .returned (.tuple #[v, .int .i64 0]) ∧ OwnI w.heap.size w' v (atL m l A) ∧ Below w.heap.size w w' := by
  intro w h h2; have h3 := mSteps_any m ad cap al cl l A w h h2 (KL _ _ _); rw [W9.sA, if_pos rfl] at h3; exact h3
 have CWA : ∀ w, Ints w ad cap m.sw → Ints w al cl l → Calls Tryz.prog 25 #[mV m ad cap, .slice al l.length cl, .int .i64 A] w fun r w' => ∃ v, r = .returned (.tuple #[v, .int .i64 0]) ∧ OwnI w.heap.size w' v (wrdL m l A) ∧ Below w.heap.size w w' := by
  intro w h h2; have h3 := mWord_any m ad cap al cl l A w h h2 (KL _ _ _); rw [W9.wA, if_pos rfl] at h3; exact h3
 have CWB : ∀ (a : Option Addr) (c : Nat) w, Ints w ad cap m.sw → Ints w a c (atL m l A) → Calls Tryz.prog 25 #[mV m ad cap, .slice a (atL m l A).length c, .int .i64 B] w fun r w' => ∃ v, r = .returned (.tuple #[v, .int .i64 0]) ∧ OwnI w.heap.size w' v (wrdL m (atL m l A) B) ∧ Below w.heap.size w w' := by
  intro a c w h h2; have h3 := mWord_any m ad cap a c (atL m l A) B w h h2 (KL _ _ _); rw [W9.wB, if_pos rfl] at h3; exact h3
 have hol := W9.olen
 have hwl := W9.wS
 have htl : (strandsL m l N).length = (orderM m l).length := by simp [strandsL]
 have htwo := W9.two
 have hal : ∀ k, (atL m l k).length = l.length := fun k => atL_len m l k
 have hstep := fun (k i : Nat) (hk : k < N) (hi : i < (crossM m (atL m l k)).length) => stC_step hr hlk hme (k := k) (i := i) (N := N) (by omega) hk hi
 have hlast := fun (k : Nat) => stC_last m l k
 have hgear := fun (k : Nat) => cross_gear (m := m) (l := atL m l k)
 have hcl := fun (k : Nat) => crossM_len m (atL m l k)
 have hlat := fun (i : Nat) (h : i < (orderM m l).length) => later_at (n := (N : Int)) (by omega) hlk.rng hlk.nodup (atL_rng hlk.rng N) (atL_nodup hlk.rng hlk.nodup N) h
 have hrowN := W9.row N (Nat.le_refl _)
 have HOM0 : (wvM m l 0).1 = orderM m l := rfl
 have HW0 : (wvM m l N).2 = wrdL m l N := rfl
 obtain ⟨OM, hOM⟩ : ∃ OM, OM = orderM m l := ⟨_, rfl⟩
 rw [← hOM] at CO CCP hol htl HOM0
 simp only [← hOM] at hlat
 obtain ⟨WL, hWL⟩ : ∃ WL, WL = wrdL m l N := ⟨_, rfl⟩
 rw [← hWL] at CW hwl htwo HW0
 obtain ⟨TL, hTL⟩ : ∃ TL, TL = strandsL m l N := ⟨_, rfl⟩
 rw [← hTL] at CT htl
 simp only [← hTL] at hlat
 obtain ⟨UA, hUA⟩ : ∃ UA, UA = wrdL m l A := ⟨_, rfl⟩
 rw [← hUA] at CWA htwo
 obtain ⟨UB, hUB⟩ : ∃ UB, UB = wrdL m (atL m l A) B := ⟨_, rfl⟩
 rw [← hUB] at CWB htwo
 simp only [HW0] at hstep
 have dO : ((OM.length : Int) != (l.length : Int)) = false := by simp [hol]
 have dT : ((TL.length : Int) != (l.length : Int)) = false := by simp [hol, htl]
 have HDS := hid (fun k : Nat => (show (((atL m l k).length : Int) != (l.length : Int)) = false by simp [hal]))
 have hom6 : OM.length ≤ 6 := by rw [hol]; omega
 have HRG := hid hr
 have hN24 : N ≤ 24 := by omega
 have hll : l.length ≤ 6 := by omega
 have HF := hid (fun w h h2 => lfits_ok m ad al cap cl l 6 6 w h h2 hf)
 have HM := hid CME; have HO := hid CO; have HW := hid CW; have HT := hid CT; have HCP := hid CCP; have HX := hid CX; have HS := hid CS; have HQ := hid CQ; have HRL := hid CRL; have HSA := hid CSA; have HWA := hid CWA; have HWB := hid CWB
 have HOL := hid hol; have HTL := hid htl; have HTWO := hid htwo; have HAL := hid hal; have HSTEP := hid hstep; have HLAST := hid hlast; have HGEAR := hid hgear; have HCL := hid hcl; have HLAT := hid hlat; have HROWN := hid hrowN; have HOM := hid HOM0; have HWW := hid HW0
 have dA0 : decide ((A : Int) < 0) = false := decide_eq_false (by omega)
 have dB0 : decide ((B : Int) < 0) = false := decide_eq_false (by omega)
 have dA1 : decide (12 < (A : Int)) = false := decide_eq_false (by omega)
 have dB1 : decide (12 < (B : Int)) = false := decide_eq_false (by omega)
 clear CME CO CW CT CCP CX CS CQ CRL CSA CWA CWB hol htl htwo hal hstep hlast hgear hcl hlat hrowN HOM0 HW0 hOM hWL hTL hUA hUB W9 KL hlk hok he hf hI hme hl6 hr hN
 go_enter Tryz.func5, Tryz.ntmps5
 go_wp2_with fail
 refine (HA.out _ (hw.below hS0.b)).mono ?_
 rintro e w1 ⟨rfl, b1⟩
 have hS1 := hS0.mono b1
 have q1_p := (hS1.blk 0 rfl).1
 have q1_m := (hS1.blk 1 rfl).1
 clear hS0
 go_wp2_with (first | (with_reducible refine wpList_ldS (n := 4) (us := mC m ad cap) A_mach kR wU wU (by assumption) wU wU ?_) | (with_reducible refine wpList_ldB (v := .bool false) F_boolM wU wU (by assumption) (by have h : (mC m ad cap)[0]? = some (.bool m.ring) := rfl; rw [HRG.out] at h; exact h) ?_) | (with_reducible refine wpList_ldB (by first | exact F_int | exact F_u64s) wU wU (by assumption) wU ?_))
 refine (HF.out _ (hR.below hS1.b) (hL.below hS1.b)).mono ?_
 rintro e w2 ⟨rfl, b2⟩
 have hS2 := hS1.mono b2
 have q2_p := (hS2.blk 0 rfl).1
 have q2_m := (hS2.blk 1 rfl).1
 clear hS1 q1_p q1_m
 go_wp2_with (first | (with_reducible refine wpList_ldS (n := 4) (us := mC m ad cap) A_mach kR wU wU (by assumption) wU wU ?_) | (with_reducible refine wpList_ldB (v := .bool false) F_boolM wU wU (by assumption) (by have h : (mC m ad cap)[0]? = some (.bool m.ring) := rfl; rw [HRG.out] at h; exact h) ?_) | (with_reducible refine wpList_ldB (by first | exact F_int | exact F_u64s) wU wU (by assumption) wU ?_))
 refine (HM.out _ (hR.below hS2.b) (hL.below hS2.b)).mono ?_
 rintro e w3 ⟨rfl, b3⟩
 have hS3 := hS2.mono b3
 have q3_p := (hS3.blk 0 rfl).1
 have q3_m := (hS3.blk 1 rfl).1
 clear hS2 q2_p q2_m
 have qpre := q3_m
 have hS4 := hS3.box (.cells (mC m ad cap) 25)
 have q4_r := (hS4.blk 0 rfl).1
 have q4_p := (hS4.blk 1 rfl).1
 have q4_m := (hS4.blk 2 rfl).1
 clear hS3 q3_p q3_m
 go_wp2_with (first | (with_reducible refine wpList_ldS (n := 4) (us := mC m ad cap) A_mach kR wU wU (by assumption) wU wU ?_) | (with_reducible refine wpList_ldB (v := .bool false) F_boolM wU wU (by assumption) (by have h : (mC m ad cap)[0]? = some (.bool m.ring) := rfl; rw [HRG.out] at h; exact h) ?_) | (with_reducible refine wpList_ldB (by first | exact F_int | exact F_u64s) wU wU (by assumption) wU ?_))
 refine (HO.out _ (hR.below hS4.b) (hL.below hS4.b)).mono ?_
 rintro e w5 ⟨v5, rfl, ho5, b5⟩
 have hS5 := hS4.call (SL.ofOwn ho5 b5)
 simp only [List.cons_append, List.nil_append] at hS5
 have q5_r := (hS5.blk 1 rfl).1
 have q5_p := (hS5.blk 2 rfl).1
 have q5_m := (hS5.blk 3 rfl).1
 clear hS4 q4_r q4_p q4_m
 clear ho5 b5
 obtain ⟨aO, cO, rfl, _⟩ := hS5.slice 0 rfl
 clear qpre
 go_wp2_with (first | (with_reducible refine wpList_ldS (n := 4) (us := mC m ad cap) A_mach kR wU wU (by assumption) wU wU ?_) | (with_reducible refine wpList_ldB (v := .bool false) F_boolM wU wU (by assumption) (by have h : (mC m ad cap)[0]? = some (.bool m.ring) := rfl; rw [HRG.out] at h; exact h) ?_) | (with_reducible refine wpList_ldB (by first | exact F_int | exact F_u64s) wU wU (by assumption) wU ?_))
 refine (HW.out _ (hR.below hS5.b) (hL.below hS5.b)).mono ?_
 rintro e w6 ⟨v6, rfl, ho6, b6⟩
 have hS6 := hS5.call (SL.ofOwn ho6 b6)
 simp only [List.cons_append, List.nil_append] at hS6
 have q6_r := (hS6.blk 2 rfl).1
 have q6_p := (hS6.blk 3 rfl).1
 have q6_m := (hS6.blk 4 rfl).1
 clear hS5 q5_r q5_p q5_m
 clear ho6 b6
 obtain ⟨aW, cW, rfl, _⟩ := hS6.slice 0 rfl
 go_wp2_with (first | (with_reducible refine wpList_ldS (n := 4) (us := mC m ad cap) A_mach kR wU wU (by assumption) wU wU ?_) | (with_reducible refine wpList_ldB (v := .bool false) F_boolM wU wU (by assumption) (by have h : (mC m ad cap)[0]? = some (.bool m.ring) := rfl; rw [HRG.out] at h; exact h) ?_) | (with_reducible refine wpList_ldB (by first | exact F_int | exact F_u64s) wU wU (by assumption) wU ?_))
 refine (HT.out _ (hR.below hS6.b) (hL.below hS6.b)).mono ?_
 rintro e w7 ⟨v7, rfl, ho7, b7⟩
 have hS7 := hS6.call (SL.ofOwn ho7 b7)
 simp only [List.cons_append, List.nil_append] at hS7
 have q7_r := (hS7.blk 3 rfl).1
 have q7_p := (hS7.blk 4 rfl).1
 have q7_m := (hS7.blk 5 rfl).1
 clear hS6 q6_r q6_p q6_m
 clear ho7 b7
 obtain ⟨aT, cT, rfl, _⟩ := hS7.slice 0 rfl
 go_wp2_with fail
 refine (HCP.out aO cO _ (hS7.rd 2 rfl)).mono ?_
 rintro e w8 ⟨rfl, b8⟩
 have hS8 := hS7.mono b8
 have q8_r := (hS8.blk 3 rfl).1
 have q8_p := (hS8.blk 4 rfl).1
 have q8_m := (hS8.blk 5 rfl).1
 clear hS7 q7_r q7_p q7_m
 have hB1 := hS8.call (SL.ofOwn (own_newN (e := 3) (w := w8) cIntS [] 0 rfl (by decide) #[] rfl (Nat.le_refl _) rfl) (bal (Below.refl _ _) _))
 simp only [List.cons_append, List.nil_append] at hB1
 go_wp2_with (first | (((with_reducible refine wpList_appL 0 E_ints wU wU (hB1) wU ((hB1.rd 3 rfl)) (rfl) cIntO (by first | omega | (simp; omega)) (by first | omega | (simp; omega)) ?_); intro vA wA hA1)) | ((have hB2 := hA1.call (SL.ofOwn (own_newN (e := 3) (w := wA) cIntS [] 0 rfl (by decide) #[] rfl (Nat.le_refl _) rfl) (bal (Below.refl _ _) _))); (simp only [List.set_cons_zero, List.cons_append, List.nil_append] at hB2); ((with_reducible refine wpList_appL 0 E_ints wU wU (hB2) wU ((hL.below hB2.b)) (rfl) cIntO (by first | omega | (simp; omega)) (by first | omega | (simp; omega)) ?_); intro vC wC hC1); have qC := (hC1.blk 6 rfl).1) | (with_reducible refine wpList_ldB (by first | exact F_int | exact F_u64s) wU wU (by assumption) wU ?_))
 clear qC
 simp only [List.set_cons_zero, List.nil_append] at hC1
 clear hA1 hB1 hS8 q8_r q8_p q8_m
 obtain ⟨aC, cC, rfl, _⟩ := hC1.slice 1 rfl
 obtain ⟨wB, hwB⟩ : ∃ wB, wB = w3 := ⟨_, rfl⟩
 rw [← hwB] at hC1 ⊢
 clear hwB
 go_loopw [144, 15, 16] (fun iv nv av wr => ∃ k : Nat, k ≤ N ∧ iv = .int .i64 k ∧ av = .int .i64 ((wvM m l k).2.length : Nat) ∧ SL w.heap.size w wr [pOwn cInt 1 3 nv ((atL m l k)), pOwn cInt 1 3 (.slice aC OM.length cC) (OM), pOwn cInt 1 3 (.slice aT TL.length cT) (TL), pOwn cInt 1 3 (.slice aW WL.length cW) (WL), pOwn cInt 1 3 (.slice aO OM.length cO) ((wvM m l k).1), pBlk wB.heap.size (.cells (mC m ad cap) 25), pBlk (w.heap.size + 1) (.cells #[.int .i64 (A : Int), .int .i64 (B : Int)] 53), pBlk w.heap.size (.cells (mC m ad cap) 24)]) (fun iv _ _ _ => N - (intOf iv).toNat)
 case atStart => exact ⟨0, by omega, rfl, rfl, by rw [HOM.out, atL_zero]; exact hC1⟩
 case round =>
  clear hC1
  obtain ⟨k, hk, rfl, rfl, hSr⟩ := hrel
  obtain ⟨aN, cN, rfl, _⟩ := hSr.slice 0 rfl
  have qr := (hSr.blk 5 rfl).1
  have qp := (hSr.blk 6 rfl).1
  have qm := (hSr.blk 7 rfl).1
  by_cases hlt : k < N
  ·as_aux_lemma =>
    have HXk := hid (HX.out k hk)
    have HCk := HCL.out k
    have HGk := HGEAR.out k
    have HSk := HSTEP.out k
    have hLk := HLAST.out k
    obtain ⟨cs, hcs⟩ : ∃ cs, cs = crossM m (atL m l k) := ⟨_, rfl⟩
    rw [← hcs] at HXk HCk HGk hLk
    simp only [← hcs] at HSk
    have hc48 : cs.length ≤ 48 := by omega
    have HG := hid HGk; have HST := hid (fun i hi => HSk i hlt hi); have HLk := hid hLk
    clear hcs HCk HGk HSk hLk
    go_wp2_with (with_reducible refine wpList_ldS (n := 4) (us := mC m ad cap) A_mach kR wU wU (by assumption) wU wU ?_)
    refine (HXk.out aN cN _ (hR.below hSr.b) (hSr.rd 0 rfl)).mono ?_
    rintro e w21 ⟨v21, rfl, ho21, b21⟩
    have hS21 := hSr.call (SL.ofOwn ho21 b21)
    simp only [List.cons_append, List.nil_append] at hS21
    clear ho21 b21 hSr qr qp qm
    obtain ⟨aX, cX_, rfl, _⟩ := hS21.slice 0 rfl
    have qm := (hS21.blk 8 rfl).1
    go_wp2_with (with_reducible refine wpList_ldS (n := 4) (us := mC m ad cap) A_mach kR wU wU (by assumption) wU wU ?_)
    refine (HS.out k aN cN _ (hR.below hS21.b) (hS21.rd 1 rfl)).mono ?_
    rintro e w22 ⟨v22, rfl, ho22, b22⟩
    have hS22 := hS21.call (SL.ofOwn ho22 b22)
    simp only [List.cons_append, List.nil_append] at hS22
    clear ho22 b22 hS21 qm
    obtain ⟨aS, cS, rfl, _⟩ := hS22.slice 0 rfl
    have qr := (hS22.blk 7 rfl).1
    have dS := HDS.out (k + 1)
    go_wp2_with (first | (with_reducible refine wpList_ldS (n := 4) (us := mC m ad cap) A_mach kR wU wU (by assumption) wU wU ?_) | (with_reducible refine wpList_ldS (n := 4) (us := mC m ad cap) A_rmach kR wU wU (by assumption) wU wU ?_))
    refine (HRL.out (k + 1) aS cS _ (hS22.rd 0 rfl)).mono ?_
    rintro e w23 ⟨rfl, b23⟩
    have hS23 := hS22.mono b23
    clear b23 hS22 qr dS
    go_wp2_with fail
    go_loopw [177, 16] (fun jv av wq => ∃ i : Nat, i ≤ cs.length ∧ jv = .int .i64 i ∧ av = .int .i64 ((stC m l k i).2.length : Nat) ∧ SL w.heap.size w wq [pOwn cInt 1 3 (.slice aS (atL m l (k + 1)).length cS) ((atL m l (k + 1))), pOwn cX 3 60 (.slice aX cs.length cX_) cs, pOwn cInt 1 3 (.slice aN (atL m l k).length cN) ((atL m l k)), pOwn cInt 1 3 (.slice aC OM.length cC) (OM), pOwn cInt 1 3 (.slice aT TL.length cT) (TL), pOwn cInt 1 3 (.slice aW WL.length cW) (WL), pOwn cInt 1 3 (.slice aO OM.length cO) ((stC m l k i).1), pBlk wB.heap.size (.cells (mC m ad cap) 25), pBlk (w.heap.size + 1) (.cells #[.int .i64 (A : Int), .int .i64 (B : Int)] 53), pBlk w.heap.size (.cells (mC m ad cap) 24)]) (fun jv _ _ => cs.length - (intOf jv).toNat)
    case atStart => exact ⟨0, by omega, rfl, rfl, hS23⟩
    case round =>
     clear hS23
     obtain ⟨i, hi, rfl, rfl, hSq⟩ := hrel
     by_cases hic : i < cs.length
     ·obtain ⟨p, hp1, hst, hZ, hlet⟩ := HST.out i hic
      have hs1 := congrArg Prod.fst hst
      have hs2 := congrArg (fun st => st.2.length) hst
      dsimp only at hs1 hs2
      rw [List.length_append, List.length_singleton] at hs2
      obtain ⟨R, hRr⟩ : ∃ R, R = (stC m l k i).1 := ⟨_, rfl⟩
      obtain ⟨Z, hZz⟩ : ∃ Z, Z = (stC m l k i).2.length := ⟨_, rfl⟩
      rw [← hRr] at hSq hp1 hlet hs1
      rw [← hZz] at hZ hlet hs2 ⊢
      clear hst hRr hZz
      have hg2 := HG.out _ (atD_memC (d := (⟨0, 0, 0, 0⟩ : CrM)) hic)
      obtain ⟨⟨xg, xo, xu, xw⟩, hx⟩ : ∃ x, x = atD (⟨0, 0, 0, 0⟩ : CrM) cs i := ⟨_, rfl⟩
      rw [← hx] at hlet hg2
      dsimp only at hlet hg2
      obtain ⟨hg0, hg1⟩ := hg2
      have HX2 := hid hx; have HS1 := hid hs1; have HS2 := hid hs2
      clear hx hs1 hs2
      obtain ⟨a', c', eK, _⟩ := hSq.slice 6 rfl
      have hKR : OM.length = R.length := by simp only [Value.slice.injEq] at eK; exact eK.2.1
      clear eK
      have hpK : p + 1 < OM.length := by rw [hKR]; exact hp1
      have HKR := hid hKR
      clear hKR hp1
      have hXr := hSq.rd 1 rfl
      have hSc := hSq.box (.cells #[.int .i64 xg, .int .i64 xo, .int .i64 xu] 60)
      have hWv := hSc.rd 6 rfl
      have dZ : ((Z : Int) == (WL.length : Int)) = false := by rw [beq_eq_false_iff_ne]; omega
      have hnO : IntKind.i64.wrap (-(OM.length : Int)) = -(OM.length : Int) := IntWalk.i64_in _ (by omega)
      have dg0 : decide (xg < 0) = false := decide_eq_false (by omega)
      have dg1 : decide (m.gears ≤ xg) = false := decide_eq_false (by omega)
      have dxo : (xo != xo) = false := by simp
      have dxu : (xu != xu) = false := by simp
      rcases hlet with ⟨hl1, hl2, hl3⟩ | ⟨hl1, hl2, hl3⟩
      ·as_aux_lemma =>
        obtain ⟨lam, hlam⟩ : ∃ x : Int, x = ((p : Int) + 1) := ⟨_, rfl⟩
        rw [← hlam] at hl1
        have HLT := hid hl1; have HP0 := hid hl2.symm; have HP1 := hid hl3.symm
        clear hl1 hl2 hl3
        have e0 : (lam == 0) = false := by rw [beq_eq_false_iff_ne]; omega
        have e1 : decide (lam ≤ -(OM.length : Int)) = false := decide_eq_false (by omega)
        have e2 : decide ((OM.length : Int) ≤ lam) = false := decide_eq_false (by omega)
        have e3 : decide (lam < 0) = false := decide_eq_false (by omega)
        have e4 : IntKind.i64.wrap (-lam) = -lam := IntWalk.i64_in _ (by omega)
        have e5 : IntKind.i64.wrap ((p : Int) + 1 - 1) = p := by rw [IntWalk.i64_in _ (by omega)]; omega
        have e7 : IntKind.i64.wrap (p : Int) = p := IntWalk.i64_in _ (by omega)
        have e8 : IntKind.i64.wrap ((p : Int) + 1) = (p : Int) + 1 := IntWalk.i64_in _ (by omega)
        have e6 : max lam (-lam) = (p : Int) + 1 := by omega
        have HLAM := hid hlam
        clear hlam
        go_wp2_with (first | ((with_reducible refine wpList_idxS _ ⟨0, 0, 0, 0⟩ E_xs A_xs cX1 wU wU (hXr) oD oD (fun _ => wU) (fun _ => ?_)); rw [← HX2.out]) | ((first | (with_reducible refine wpList_idxG 0 E_ints F_int cInt1 wU wU (hWv) (rfl) oD oD (fun _ => wU) wU (fun _ => wU) (fun _ => ?_)) | (with_reducible refine wpList_idxN _ 0 E_ints F_int cInt1 wU wU (hWv) (rfl) oD oD (fun _ => wU) (fun _ => ?_))); rw [HLT.out]))
        obtain ⟨V0, hV0⟩ : ∃ V, V = wr.alloc (.cells #[.int .i64 xg, .int .i64 xo, .int .i64 xu] 60) := ⟨_, rfl⟩
        obtain ⟨b12, hb12⟩ : ∃ b, b = wr.heap.size := ⟨_, rfl⟩
        rw [← hV0] at hSc hWv
        rw [← hb12] at hSc
        rw [← hV0, ← hb12]
        have hRv := hSc.rd 7 rfl
        have hpR : p + 1 < R.length := by rw [← HKR.out]; exact hpK
        clear hV0 hb12 hXr hSq
        refine wp_region_q kR kR ?_
        repeat (first | (((with_reducible refine wpB_idx2 0 E_ints F_int cInt1 wU (rfl) wU (hWv) oD oD (fun _ => wU) (fun _ => ?_)); (try simp only [Act.put, pA, pB, pC]); (try simp only [cInt])); rw [HLT.out]) |  ((with_reducible refine wpB_load (by first | exact F_int | exact F_u64s) wU wU (by assumption) wU ?_); (try simp only [Act.put, pA, pB, pC])) | ((refine wpQ_oneG ?_ wU (fun w' => ?_) ?_); rotate_left; (go_simp; rfl); (try simp only [Act.put, pA, pB, pC])))
        refine wpQuiet_nil ?_
        intro V1 hb1
        have hRv1 := hRv.below hb1
        clear hRv hWv
        go_wp2_with fail
        refine wp_region_q kR kR ?_
        repeat (first | (((with_reducible refine wpB_idx2 0 E_ints F_int cInt1 wU (HKR.out.symm) wU (hRv1) oD oD (fun _ => wU) (fun _ => ?_)); (try simp only [Act.put, pA, pB, pC]); (try simp only [cInt])); first | rw [HP0.out] | rw [HP1.out]) |  ((with_reducible refine wpB_load (by first | exact F_int | exact F_u64s) wU wU (by assumption) wU ?_); (try simp only [Act.put, pA, pB, pC])) | ((refine wpQ_oneG ?_ wU (fun w' => ?_) ?_); rotate_left; (go_simp; rfl); (try simp only [Act.put, pA, pB, pC])))
        refine wpQuiet_nil ?_
        intro V hb2
        have hSc2 := hSc.mono (bnext hb1 hb2)
        clear hSc hRv1 hb1 hb2
        have hSc := hSc2
        clear hSc2
        have hWv := hSc.rd 6 rfl
        have qc := (hSc.blk 0 rfl).1
        have qm := (hSc.blk 10 rfl).1
        go_wp2_with (first | ((first | (with_reducible refine wpList_idxG 0 E_ints F_int cInt1 wU wU (hWv) (rfl) oD oD (fun _ => wU) wU (fun _ => wU) (fun _ => ?_)) | (with_reducible refine wpList_idxN _ 0 E_ints F_int cInt1 wU wU (hWv) (rfl) oD oD (fun _ => wU) (fun _ => ?_))); rw [HLT.out]) | (with_reducible refine wpList_ldB (by first | exact F_int | exact F_u64s) wU wU (by assumption) wU ?_))
        clear hWv qc qm
        have hKR := HKR.out
        have hSU := hSc.drew
        obtain ⟨U, hU⟩ : ∃ U, U = V.drew := ⟨_, rfl⟩
        rw [← hU] at hSU
        obtain ⟨g, hg, -, hcA, hfA, hS5⟩ := hSU.setOwn cInt1 7 rfl (p : Int) (by omega) (by omega) (atD 0 R ((p : Int) + 1))
        subst hg
        obtain ⟨g', hg', -, hcB, hfB, hS6⟩ := hS5.setOwn cInt1 7 rfl ((p : Int) + 1) (by omega) (by simp; omega) (atD 0 R (p : Int))
        cases hg'
        obtain ⟨g', hg', -, hcC, hfC, -⟩ := hSU.setOwn cInt1 7 rfl ((p : Int) + 1) (by omega) (by omega) 0
        cases hg'
        have eP : (p : Int).toNat = p := by simp
        have eP1 : ((p : Int) + 1).toNat = p + 1 := by omega
        have vA : R[p]?.map cInt = some (.int .i64 (atD 0 R (p : Int))) := by
         have : p < R.length := by omega
         simp [atD, this, cInt]
        have vB : R[p + 1]?.map cInt = some (.int .i64 (atD 0 R ((p : Int) + 1))) := by
         have : p + 1 < R.length := by omega
         simp [atD, eP1, this, cInt]
        simp only [eP, eP1] at hcA hfA hcB hfB hcC hfC hS5 hS6
        rw [vA] at hcA
        rw [vB] at hcC
        have hcB2 : (R.set p (atD 0 R ((p : Int) + 1)))[p + 1]?.map cInt = some (.int .i64 (atD 0 R ((p : Int) + 1))) := by
         rw [List.getElem?_set_ne (by omega)]; exact vB
        rw [hcB2] at hcB
        have hsw : (R.set p (atD 0 R ((p : Int) + 1))).set (p + 1) (atD 0 R (p : Int)) = swpL R p := by
         unfold swpL atD
         rw [eP1, eP]
        rw [hsw] at hS6
        obtain ⟨A0, hA0⟩ : ∃ A, A = atD 0 R (p : Int) := ⟨_, rfl⟩
        obtain ⟨A1, hA1⟩ : ∃ A, A = atD 0 R ((p : Int) + 1) := ⟨_, rfl⟩
        rw [← hA0] at hcA hS6
        rw [← hA1] at hcC hcB hfB hS5 hS6
        simp only [cInt] at hcB hfB hS5 hS6
        obtain ⟨hp9, hkA, hkB, hkC, hkD, hkE, hkF⟩ := pkB p OM.length hpK (by omega)
        have hw1 := wrapQ1 p hp9
        have hw2 := wrapP1 p hp9
        have hUb := hSU.b
        clear hcB2 vA vB hA0 hA1 hsw hKR hSc eP eP1
        go_wp2_with fail
        refine wp_regionK (C := (fun V' => Below w.heap.size w V')) [0, 1, 2, 3, 4, 5, 6, 7, 8, 10, 11, 12] [_, _, _, _, _, _, _, _, _, _, _, _] 6 (by simp only [List.map_cons, List.map_nil, List.getElem?_toArray]; rfl) rfl kR kR kR ((by rw [hU] at hUb; exact hUb)) ?_
        refine ⟨_, yieldsK_val wU (fun w' => by with_unfolding_all exact rfl), ?_⟩
        go_frame
        refine ⟨_, yieldsK_val wU (fun w' => by with_unfolding_all exact rfl), ?_⟩
        go_frame
        refine ⟨_, yieldsK_val wU (fun w' => by with_unfolding_all exact rfl), ?_⟩
        go_frame
        refine ⟨_, yieldsK_val wU (fun w' => by with_unfolding_all exact rfl), ?_⟩
        go_frame
        refine ⟨.int .i64 ((p : Int) + 1), yieldsK_val wU (fun w' => by first | (go_simp; done) | (go_simp; rfl)), ?_⟩
        go_frame
        refine ⟨_, yieldsK_val wU (fun w' => by with_unfolding_all exact rfl), ?_⟩
        go_frame
        refine ⟨_, yieldsK_val wU (fun w' => by with_unfolding_all exact rfl), ?_⟩
        go_frame
        refine ⟨.int .i64 ((p : Int) + 1), yieldsK_val wU (fun w' => by first | (go_simp; done) | (go_simp; rfl)), ?_⟩
        go_frame
        refine ⟨.pointer (some ⟨g, p + 1, none⟩), yieldsK_val wU (fun w' => by first | (go_simp; done) | (go_simp; rfl)), ?_⟩
        go_frame
        refine ⟨_, yieldsK_val wU (fun w' => by with_unfolding_all exact rfl), ?_⟩
        go_frame
        refine ⟨_, yieldsK_val wU (fun w' => by with_unfolding_all exact rfl), ?_⟩
        go_frame
        refine ⟨.pointer (some ⟨g, p, none⟩), yieldsK_val wU (fun w' => by first | (go_simp; done) | (go_simp; rfl)), ?_⟩
        go_frame
        unfold wpPureK
        have hVd : ({ V with drawn := V.drawn + 1 } : World) = V.drew := rfl
        rw [hVd, ← hU]
        clear hVd hU
        refine wpAnyC_on [9, 13] kR (by simp) ?_
        simp only [List.forall_mem_cons, List.not_mem_nil, false_implies, implies_true, and_true]
        refine ⟨?_, ?_⟩
        ·as_aux_lemma =>
          refine wpOp_value (v := .int .i64 A1) (w' := U) (by rw [List.getElem?_toArray]; rfl) wU (by first | (go_simp; done) | (go_simp; rfl) | (simp [execOp, Act.eval, Result.andThen]; done)) ?_
          refine ⟨hSU.b, ?_⟩
          go_frame
          refine wpAnyC_on [13] kR (by simp) ?_
          simp only [List.forall_mem_cons, List.not_mem_nil, false_implies, implies_true, and_true]
          refine wpOp_value (v := .int .i64 A0) (w' := U) (by rw [List.getElem?_toArray]; rfl) wU (by first | (go_simp; done) | (go_simp; rfl) | (simp [execOp, Act.eval, Result.andThen]; done)) ?_
          refine ⟨hSU.b, ?_⟩
          go_frame
          refine wpAnyC_on [14] kR (by simp) ?_
          simp only [List.forall_mem_cons, List.not_mem_nil, false_implies, implies_true, and_true]
          refine wpOp_value (v := .pointer (some ⟨g, p, none⟩)) (w' := U) (by rw [List.getElem?_toArray]; rfl) wU (by first | (go_simp; done) | (go_simp; rfl) | (simp [execOp, Act.eval, Result.andThen]; done)) ?_
          refine ⟨hSU.b, ?_⟩
          go_frame
          refine wpAnyC_on [15] kR (by simp) ?_
          simp only [List.forall_mem_cons, List.not_mem_nil, false_implies, implies_true, and_true]
          refine wpOp_of_list (by rw [List.getElem?_toArray]; rfl) ?_
          refine wpList_stoI (v := A1) wU wU hcA hfA ?_
          refine ⟨hS5.b, ?_⟩
          go_frame
          refine wpAnyC_on [16] kR (by simp) ?_
          simp only [List.forall_mem_cons, List.not_mem_nil, false_implies, implies_true, and_true]
          refine wpOp_value (v := .pointer (some ⟨g, p + 1, none⟩)) (w' := (U.setCell ⟨g, p, none⟩ (.int .i64 A1))) (by rw [List.getElem?_toArray]; rfl) wU (by first | (go_simp; done) | (go_simp; rfl) | (simp [execOp, Act.eval, Result.andThen]; done)) ?_
          refine ⟨hS5.b, ?_⟩
          go_frame
          refine wpAnyC_on [17] kR (by simp) ?_
          simp only [List.forall_mem_cons, List.not_mem_nil, false_implies, implies_true, and_true]
          refine wpOp_of_list (by rw [List.getElem?_toArray]; rfl) ?_
          refine wpList_stoI (v := A0) wU wU hcB hfB ?_
          refine ⟨hS6.b, ?_⟩
          go_frame
          refine wpAnyC_rest [] [] rfl rfl kR kR kR hS6.b ?_
          unfold wpPure
          refine of_wpList_nil (P := Tryz.prog) (ops := #[]) ?_
          obtain ⟨U2, hU2⟩ : ∃ U2, U2 = (U.setCell ⟨g, p, none⟩ (.int .i64 A1)).setCell ⟨g, p + 1, none⟩ (.int .i64 A0) := ⟨_, rfl⟩
          rw [← hU2] at hS6 ⊢
          clear hU2 hS5 hcA hcB hcC hfA hfB hfC hkA hkB hkC hkD hkE hkF hw1
          go_wp2_with fail
          exact ⟨⟨i + 1, by omega, by go_num, by rw [HS2.out]; go_num, by rw [HS1.out]; exact hS6.tail⟩, by simp [intOf]; omega⟩
        ·as_aux_lemma =>
          refine wpOp_value (v := .int .i64 A0) (w' := U) (by rw [List.getElem?_toArray]; rfl) wU (by first | (go_simp; done) | (go_simp; rfl) | (simp [execOp, Act.eval, Result.andThen]; done)) ?_
          refine ⟨hSU.b, ?_⟩
          go_frame
          refine wpAnyC_on [9] kR (by simp) ?_
          simp only [List.forall_mem_cons, List.not_mem_nil, false_implies, implies_true, and_true]
          refine wpOp_value (v := .int .i64 A1) (w' := U) (by rw [List.getElem?_toArray]; rfl) wU (by first | (go_simp; done) | (go_simp; rfl) | (simp [execOp, Act.eval, Result.andThen]; done)) ?_
          refine ⟨hSU.b, ?_⟩
          go_frame
          refine wpAnyC_on [14] kR (by simp) ?_
          simp only [List.forall_mem_cons, List.not_mem_nil, false_implies, implies_true, and_true]
          refine wpOp_value (v := .pointer (some ⟨g, p, none⟩)) (w' := U) (by rw [List.getElem?_toArray]; rfl) wU (by first | (go_simp; done) | (go_simp; rfl) | (simp [execOp, Act.eval, Result.andThen]; done)) ?_
          refine ⟨hSU.b, ?_⟩
          go_frame
          refine wpAnyC_on [15] kR (by simp) ?_
          simp only [List.forall_mem_cons, List.not_mem_nil, false_implies, implies_true, and_true]
          refine wpOp_of_list (by rw [List.getElem?_toArray]; rfl) ?_
          refine wpList_stoI (v := A1) wU wU hcA hfA ?_
          refine ⟨hS5.b, ?_⟩
          go_frame
          refine wpAnyC_on [16] kR (by simp) ?_
          simp only [List.forall_mem_cons, List.not_mem_nil, false_implies, implies_true, and_true]
          refine wpOp_value (v := .pointer (some ⟨g, p + 1, none⟩)) (w' := (U.setCell ⟨g, p, none⟩ (.int .i64 A1))) (by rw [List.getElem?_toArray]; rfl) wU (by first | (go_simp; done) | (go_simp; rfl) | (simp [execOp, Act.eval, Result.andThen]; done)) ?_
          refine ⟨hS5.b, ?_⟩
          go_frame
          refine wpAnyC_on [17] kR (by simp) ?_
          simp only [List.forall_mem_cons, List.not_mem_nil, false_implies, implies_true, and_true]
          refine wpOp_of_list (by rw [List.getElem?_toArray]; rfl) ?_
          refine wpList_stoI (v := A0) wU wU hcB hfB ?_
          refine ⟨hS6.b, ?_⟩
          go_frame
          refine wpAnyC_rest [] [] rfl rfl kR kR kR hS6.b ?_
          unfold wpPure
          refine of_wpList_nil (P := Tryz.prog) (ops := #[]) ?_
          obtain ⟨U2, hU2⟩ : ∃ U2, U2 = (U.setCell ⟨g, p, none⟩ (.int .i64 A1)).setCell ⟨g, p + 1, none⟩ (.int .i64 A0) := ⟨_, rfl⟩
          rw [← hU2] at hS6 ⊢
          clear hU2 hS5 hcA hcB hcC hfA hfB hfC hkA hkB hkC hkD hkE hkF hw1
          go_wp2_with fail
          exact ⟨⟨i + 1, by omega, by go_num, by rw [HS2.out]; go_num, by rw [HS1.out]; exact hS6.tail⟩, by simp [intOf]; omega⟩
      ·as_aux_lemma =>
        obtain ⟨lam, hlam⟩ : ∃ x : Int, x = (-(p : Int) - 1) := ⟨_, rfl⟩
        rw [← hlam] at hl1
        have HLT := hid hl1; have HP0 := hid hl2.symm; have HP1 := hid hl3.symm
        clear hl1 hl2 hl3
        have e0 : (lam == 0) = false := by rw [beq_eq_false_iff_ne]; omega
        have e1 : decide (lam ≤ -(OM.length : Int)) = false := decide_eq_false (by omega)
        have e2 : decide ((OM.length : Int) ≤ lam) = false := decide_eq_false (by omega)
        have e3 : decide (lam < 0) = true := decide_eq_true (by omega)
        have e4 : IntKind.i64.wrap (-lam) = -lam := IntWalk.i64_in _ (by omega)
        have e5 : IntKind.i64.wrap ((p : Int) + 1 - 1) = p := by rw [IntWalk.i64_in _ (by omega)]; omega
        have e7 : IntKind.i64.wrap (p : Int) = p := IntWalk.i64_in _ (by omega)
        have e8 : IntKind.i64.wrap ((p : Int) + 1) = (p : Int) + 1 := IntWalk.i64_in _ (by omega)
        have e6 : max lam (-lam) = (p : Int) + 1 := by omega
        have HLAM := hid hlam
        clear hlam
        go_wp2_with (first | ((with_reducible refine wpList_idxS _ ⟨0, 0, 0, 0⟩ E_xs A_xs cX1 wU wU (hXr) oD oD (fun _ => wU) (fun _ => ?_)); rw [← HX2.out]) | ((first | (with_reducible refine wpList_idxG 0 E_ints F_int cInt1 wU wU (hWv) (rfl) oD oD (fun _ => wU) wU (fun _ => wU) (fun _ => ?_)) | (with_reducible refine wpList_idxN _ 0 E_ints F_int cInt1 wU wU (hWv) (rfl) oD oD (fun _ => wU) (fun _ => ?_))); rw [HLT.out]))
        obtain ⟨V0, hV0⟩ : ∃ V, V = wr.alloc (.cells #[.int .i64 xg, .int .i64 xo, .int .i64 xu] 60) := ⟨_, rfl⟩
        obtain ⟨b12, hb12⟩ : ∃ b, b = wr.heap.size := ⟨_, rfl⟩
        rw [← hV0] at hSc hWv
        rw [← hb12] at hSc
        rw [← hV0, ← hb12]
        have hRv := hSc.rd 7 rfl
        have hpR : p + 1 < R.length := by rw [← HKR.out]; exact hpK
        clear hV0 hb12 hXr hSq
        refine wp_region_q kR kR ?_
        repeat (first | (((with_reducible refine wpB_idx2 0 E_ints F_int cInt1 wU (rfl) wU (hWv) oD oD (fun _ => wU) (fun _ => ?_)); (try simp only [Act.put, pA, pB, pC]); (try simp only [cInt])); rw [HLT.out]) |  ((with_reducible refine wpB_load (by first | exact F_int | exact F_u64s) wU wU (by assumption) wU ?_); (try simp only [Act.put, pA, pB, pC])) | ((refine wpQ_oneG ?_ wU (fun w' => ?_) ?_); rotate_left; (go_simp; rfl); (try simp only [Act.put, pA, pB, pC])))
        refine wpQuiet_nil ?_
        intro V1 hb1
        have hRv1 := hRv.below hb1
        clear hRv hWv
        go_wp2_with fail
        refine wp_region_q kR kR ?_
        repeat (first | (((with_reducible refine wpB_idx2 0 E_ints F_int cInt1 wU (HKR.out.symm) wU (hRv1) oD oD (fun _ => wU) (fun _ => ?_)); (try simp only [Act.put, pA, pB, pC]); (try simp only [cInt])); first | rw [HP0.out] | rw [HP1.out]) |  ((with_reducible refine wpB_load (by first | exact F_int | exact F_u64s) wU wU (by assumption) wU ?_); (try simp only [Act.put, pA, pB, pC])) | ((refine wpQ_oneG ?_ wU (fun w' => ?_) ?_); rotate_left; (go_simp; rfl); (try simp only [Act.put, pA, pB, pC])))
        refine wpQuiet_nil ?_
        intro V hb2
        have hSc2 := hSc.mono (bnext hb1 hb2)
        clear hSc hRv1 hb1 hb2
        have hSc := hSc2
        clear hSc2
        have hWv := hSc.rd 6 rfl
        have qc := (hSc.blk 0 rfl).1
        have qm := (hSc.blk 10 rfl).1
        go_wp2_with (first | ((first | (with_reducible refine wpList_idxG 0 E_ints F_int cInt1 wU wU (hWv) (rfl) oD oD (fun _ => wU) wU (fun _ => wU) (fun _ => ?_)) | (with_reducible refine wpList_idxN _ 0 E_ints F_int cInt1 wU wU (hWv) (rfl) oD oD (fun _ => wU) (fun _ => ?_))); rw [HLT.out]) | (with_reducible refine wpList_ldB (by first | exact F_int | exact F_u64s) wU wU (by assumption) wU ?_))
        clear hWv qc qm
        have hKR := HKR.out
        have hSU := hSc.drew
        obtain ⟨U, hU⟩ : ∃ U, U = V.drew := ⟨_, rfl⟩
        rw [← hU] at hSU
        obtain ⟨g, hg, -, hcA, hfA, hS5⟩ := hSU.setOwn cInt1 7 rfl (p : Int) (by omega) (by omega) (atD 0 R ((p : Int) + 1))
        subst hg
        obtain ⟨g', hg', -, hcB, hfB, hS6⟩ := hS5.setOwn cInt1 7 rfl ((p : Int) + 1) (by omega) (by simp; omega) (atD 0 R (p : Int))
        cases hg'
        obtain ⟨g', hg', -, hcC, hfC, -⟩ := hSU.setOwn cInt1 7 rfl ((p : Int) + 1) (by omega) (by omega) 0
        cases hg'
        have eP : (p : Int).toNat = p := by simp
        have eP1 : ((p : Int) + 1).toNat = p + 1 := by omega
        have vA : R[p]?.map cInt = some (.int .i64 (atD 0 R (p : Int))) := by
         have : p < R.length := by omega
         simp [atD, this, cInt]
        have vB : R[p + 1]?.map cInt = some (.int .i64 (atD 0 R ((p : Int) + 1))) := by
         have : p + 1 < R.length := by omega
         simp [atD, eP1, this, cInt]
        simp only [eP, eP1] at hcA hfA hcB hfB hcC hfC hS5 hS6
        rw [vA] at hcA
        rw [vB] at hcC
        have hcB2 : (R.set p (atD 0 R ((p : Int) + 1)))[p + 1]?.map cInt = some (.int .i64 (atD 0 R ((p : Int) + 1))) := by
         rw [List.getElem?_set_ne (by omega)]; exact vB
        rw [hcB2] at hcB
        have hsw : (R.set p (atD 0 R ((p : Int) + 1))).set (p + 1) (atD 0 R (p : Int)) = swpL R p := by
         unfold swpL atD
         rw [eP1, eP]
        rw [hsw] at hS6
        obtain ⟨A0, hA0⟩ : ∃ A, A = atD 0 R (p : Int) := ⟨_, rfl⟩
        obtain ⟨A1, hA1⟩ : ∃ A, A = atD 0 R ((p : Int) + 1) := ⟨_, rfl⟩
        rw [← hA0] at hcA hS6
        rw [← hA1] at hcC hcB hfB hS5 hS6
        simp only [cInt] at hcB hfB hS5 hS6
        obtain ⟨hp9, hkA, hkB, hkC, hkD, hkE, hkF⟩ := pkB p OM.length hpK (by omega)
        have hw1 := wrapQ1 p hp9
        have hw2 := wrapP1 p hp9
        have hUb := hSU.b
        clear hcB2 vA vB hA0 hA1 hsw hKR hSc eP eP1
        go_wp2_with fail
        refine wp_regionK (C := (fun V' => Below w.heap.size w V')) [0, 1, 2, 3, 4, 5, 6, 7, 8, 10, 11, 12] [_, _, _, _, _, _, _, _, _, _, _, _] 6 (by simp only [List.map_cons, List.map_nil, List.getElem?_toArray]; rfl) rfl kR kR kR ((by rw [hU] at hUb; exact hUb)) ?_
        refine ⟨_, yieldsK_val wU (fun w' => by with_unfolding_all exact rfl), ?_⟩
        go_frame
        refine ⟨_, yieldsK_val wU (fun w' => by with_unfolding_all exact rfl), ?_⟩
        go_frame
        refine ⟨_, yieldsK_val wU (fun w' => by with_unfolding_all exact rfl), ?_⟩
        go_frame
        refine ⟨_, yieldsK_val wU (fun w' => by with_unfolding_all exact rfl), ?_⟩
        go_frame
        refine ⟨.int .i64 ((p : Int) + 1), yieldsK_val wU (fun w' => by first | (go_simp; done) | (go_simp; rfl)), ?_⟩
        go_frame
        refine ⟨_, yieldsK_val wU (fun w' => by with_unfolding_all exact rfl), ?_⟩
        go_frame
        refine ⟨_, yieldsK_val wU (fun w' => by with_unfolding_all exact rfl), ?_⟩
        go_frame
        refine ⟨.int .i64 ((p : Int) + 1), yieldsK_val wU (fun w' => by first | (go_simp; done) | (go_simp; rfl)), ?_⟩
        go_frame
        refine ⟨.pointer (some ⟨g, p + 1, none⟩), yieldsK_val wU (fun w' => by first | (go_simp; done) | (go_simp; rfl)), ?_⟩
        go_frame
        refine ⟨_, yieldsK_val wU (fun w' => by with_unfolding_all exact rfl), ?_⟩
        go_frame
        refine ⟨_, yieldsK_val wU (fun w' => by with_unfolding_all exact rfl), ?_⟩
        go_frame
        refine ⟨.pointer (some ⟨g, p, none⟩), yieldsK_val wU (fun w' => by first | (go_simp; done) | (go_simp; rfl)), ?_⟩
        go_frame
        unfold wpPureK
        have hVd : ({ V with drawn := V.drawn + 1 } : World) = V.drew := rfl
        rw [hVd, ← hU]
        clear hVd hU
        refine wpAnyC_on [9, 13] kR (by simp) ?_
        simp only [List.forall_mem_cons, List.not_mem_nil, false_implies, implies_true, and_true]
        refine ⟨?_, ?_⟩
        ·as_aux_lemma =>
          refine wpOp_value (v := .int .i64 A1) (w' := U) (by rw [List.getElem?_toArray]; rfl) wU (by first | (go_simp; done) | (go_simp; rfl) | (simp [execOp, Act.eval, Result.andThen]; done)) ?_
          refine ⟨hSU.b, ?_⟩
          go_frame
          refine wpAnyC_on [13] kR (by simp) ?_
          simp only [List.forall_mem_cons, List.not_mem_nil, false_implies, implies_true, and_true]
          refine wpOp_value (v := .int .i64 A0) (w' := U) (by rw [List.getElem?_toArray]; rfl) wU (by first | (go_simp; done) | (go_simp; rfl) | (simp [execOp, Act.eval, Result.andThen]; done)) ?_
          refine ⟨hSU.b, ?_⟩
          go_frame
          refine wpAnyC_on [14] kR (by simp) ?_
          simp only [List.forall_mem_cons, List.not_mem_nil, false_implies, implies_true, and_true]
          refine wpOp_value (v := .pointer (some ⟨g, p, none⟩)) (w' := U) (by rw [List.getElem?_toArray]; rfl) wU (by first | (go_simp; done) | (go_simp; rfl) | (simp [execOp, Act.eval, Result.andThen]; done)) ?_
          refine ⟨hSU.b, ?_⟩
          go_frame
          refine wpAnyC_on [15] kR (by simp) ?_
          simp only [List.forall_mem_cons, List.not_mem_nil, false_implies, implies_true, and_true]
          refine wpOp_of_list (by rw [List.getElem?_toArray]; rfl) ?_
          refine wpList_stoI (v := A1) wU wU hcA hfA ?_
          refine ⟨hS5.b, ?_⟩
          go_frame
          refine wpAnyC_on [16] kR (by simp) ?_
          simp only [List.forall_mem_cons, List.not_mem_nil, false_implies, implies_true, and_true]
          refine wpOp_value (v := .pointer (some ⟨g, p + 1, none⟩)) (w' := (U.setCell ⟨g, p, none⟩ (.int .i64 A1))) (by rw [List.getElem?_toArray]; rfl) wU (by first | (go_simp; done) | (go_simp; rfl) | (simp [execOp, Act.eval, Result.andThen]; done)) ?_
          refine ⟨hS5.b, ?_⟩
          go_frame
          refine wpAnyC_on [17] kR (by simp) ?_
          simp only [List.forall_mem_cons, List.not_mem_nil, false_implies, implies_true, and_true]
          refine wpOp_of_list (by rw [List.getElem?_toArray]; rfl) ?_
          refine wpList_stoI (v := A0) wU wU hcB hfB ?_
          refine ⟨hS6.b, ?_⟩
          go_frame
          refine wpAnyC_rest [] [] rfl rfl kR kR kR hS6.b ?_
          unfold wpPure
          refine of_wpList_nil (P := Tryz.prog) (ops := #[]) ?_
          obtain ⟨U2, hU2⟩ : ∃ U2, U2 = (U.setCell ⟨g, p, none⟩ (.int .i64 A1)).setCell ⟨g, p + 1, none⟩ (.int .i64 A0) := ⟨_, rfl⟩
          rw [← hU2] at hS6 ⊢
          clear hU2 hS5 hcA hcB hcC hfA hfB hfC hkA hkB hkC hkD hkE hkF hw1
          go_wp2_with fail
          exact ⟨⟨i + 1, by omega, by go_num, by rw [HS2.out]; go_num, by rw [HS1.out]; exact hS6.tail⟩, by simp [intOf]; omega⟩
        ·as_aux_lemma =>
          refine wpOp_value (v := .int .i64 A0) (w' := U) (by rw [List.getElem?_toArray]; rfl) wU (by first | (go_simp; done) | (go_simp; rfl) | (simp [execOp, Act.eval, Result.andThen]; done)) ?_
          refine ⟨hSU.b, ?_⟩
          go_frame
          refine wpAnyC_on [9] kR (by simp) ?_
          simp only [List.forall_mem_cons, List.not_mem_nil, false_implies, implies_true, and_true]
          refine wpOp_value (v := .int .i64 A1) (w' := U) (by rw [List.getElem?_toArray]; rfl) wU (by first | (go_simp; done) | (go_simp; rfl) | (simp [execOp, Act.eval, Result.andThen]; done)) ?_
          refine ⟨hSU.b, ?_⟩
          go_frame
          refine wpAnyC_on [14] kR (by simp) ?_
          simp only [List.forall_mem_cons, List.not_mem_nil, false_implies, implies_true, and_true]
          refine wpOp_value (v := .pointer (some ⟨g, p, none⟩)) (w' := U) (by rw [List.getElem?_toArray]; rfl) wU (by first | (go_simp; done) | (go_simp; rfl) | (simp [execOp, Act.eval, Result.andThen]; done)) ?_
          refine ⟨hSU.b, ?_⟩
          go_frame
          refine wpAnyC_on [15] kR (by simp) ?_
          simp only [List.forall_mem_cons, List.not_mem_nil, false_implies, implies_true, and_true]
          refine wpOp_of_list (by rw [List.getElem?_toArray]; rfl) ?_
          refine wpList_stoI (v := A1) wU wU hcA hfA ?_
          refine ⟨hS5.b, ?_⟩
          go_frame
          refine wpAnyC_on [16] kR (by simp) ?_
          simp only [List.forall_mem_cons, List.not_mem_nil, false_implies, implies_true, and_true]
          refine wpOp_value (v := .pointer (some ⟨g, p + 1, none⟩)) (w' := (U.setCell ⟨g, p, none⟩ (.int .i64 A1))) (by rw [List.getElem?_toArray]; rfl) wU (by first | (go_simp; done) | (go_simp; rfl) | (simp [execOp, Act.eval, Result.andThen]; done)) ?_
          refine ⟨hS5.b, ?_⟩
          go_frame
          refine wpAnyC_on [17] kR (by simp) ?_
          simp only [List.forall_mem_cons, List.not_mem_nil, false_implies, implies_true, and_true]
          refine wpOp_of_list (by rw [List.getElem?_toArray]; rfl) ?_
          refine wpList_stoI (v := A0) wU wU hcB hfB ?_
          refine ⟨hS6.b, ?_⟩
          go_frame
          refine wpAnyC_rest [] [] rfl rfl kR kR kR hS6.b ?_
          unfold wpPure
          refine of_wpList_nil (P := Tryz.prog) (ops := #[]) ?_
          obtain ⟨U2, hU2⟩ : ∃ U2, U2 = (U.setCell ⟨g, p, none⟩ (.int .i64 A1)).setCell ⟨g, p + 1, none⟩ (.int .i64 A0) := ⟨_, rfl⟩
          rw [← hU2] at hS6 ⊢
          clear hU2 hS5 hcA hcB hcC hfA hfB hfC hkA hkB hkC hkD hkE hkF hw1
          go_wp2_with fail
          exact ⟨⟨i + 1, by omega, by go_num, by rw [HS2.out]; go_num, by rw [HS1.out]; exact hS6.tail⟩, by simp [intOf]; omega⟩
     ·as_aux_lemma =>
       have hic2 : cs.length = i := by omega
       subst hic2
       rw [HLk.out] at hSq ⊢
       have qm := (hSq.blk 9 rfl).1
       obtain ⟨a', c', eK, _⟩ := hSq.slice 6 rfl
       have hKR : OM.length = (wvM m l (k + 1)).1.length := by simp only [Value.slice.injEq] at eK; exact eK.2.1
       clear eK
       go_wp2_with (with_reducible refine wpList_ldS (n := 4) (us := mC m ad cap) A_mach kR wU wU (by assumption) wU wU ?_)
       refine (HQ.out (k + 1) (by omega) aS cS _ (hR.below hSq.b) (hSq.rd 0 rfl)).mono ?_
       rintro e w31 ⟨v31, rfl, ho31, b31⟩
       have hS31 := hSq.call (SL.ofOwn ho31 b31)
       simp only [List.cons_append, List.nil_append] at hS31
       clear ho31 b31 hSq qm
       obtain ⟨aQ, cQ, rfl, _⟩ := hS31.slice 0 rfl
       rw [← hKR] at hS31 ⊢
       have HKR := hid hKR
       clear hKR
       go_wp2_with fail
       refine (amSame aQ aO cQ cO _ (wvM m l (k + 1)).1 _ (hS31.rd 0 rfl) (hS31.rd 7 rfl) HKR.out.symm (by omega)).mono ?_
       rintro e w32 ⟨rfl, b32⟩
       have hS32 := (hS31.mono b32).pick [1, 4, 5, 6, 7, 8, 9, 10] (by decide) [pOwn cInt 1 3 (.slice aS (atL m l (k + 1)).length cS) ((atL m l (k + 1))), pOwn cInt 1 3 (.slice aC OM.length cC) (OM), pOwn cInt 1 3 (.slice aT TL.length cT) (TL), pOwn cInt 1 3 (.slice aW WL.length cW) (WL), pOwn cInt 1 3 (.slice aO OM.length cO) ((wvM m l (k + 1)).1), pBlk wB.heap.size (.cells (mC m ad cap) 25), pBlk (w.heap.size + 1) (.cells #[.int .i64 (A : Int), .int .i64 (B : Int)] 53), pBlk w.heap.size (.cells (mC m ad cap) 24)] rfl
       go_wp2_with fail
       exact ⟨⟨k + 1, by omega, by go_num, rfl, hS32⟩, by simp [intOf]; omega⟩
  ·as_aux_lemma =>
    have hkN : N = k := by omega
    subst hkN
    obtain ⟨a', c', eK, _⟩ := hSr.slice 4 rfl
    have hKR : OM.length = (wvM m l N).1.length := by simp only [Value.slice.injEq] at eK; exact eK.2.1
    clear eK qr qp qm
    have hrn := HROWN.out
    rw [HWW.out]
    obtain ⟨OE, hOE⟩ : ∃ OE, OE = (wvM m l N).1 := ⟨_, rfl⟩
    rw [← hOE] at hSr hKR hrn
    have HRN := hid hrn; have HKR := hid hKR
    clear hOE hrn hKR
    obtain ⟨wz, hwz⟩ : ∃ wz, wz = wr := ⟨_, rfl⟩
    rw [← hwz] at hSr ⊢
    clear hwz
    go_wp2_with fail
    go_loopw [295] (fun iv wq => ∃ i : Nat, i ≤ TL.length ∧ iv = .int .i64 i ∧ Below wz.heap.size wz wq) (fun iv _ => TL.length - (intOf iv).toNat)
    case atStart => exact ⟨0, by omega, rfl, Below.refl _ _⟩
    case round =>
     obtain ⟨i, hi, rfl, hbr⟩ := hrel
     have hS40 := hSr.mono hbr
     have htl6 : TL.length ≤ 6 := by rw [HTL.out]; omega
     by_cases hic : i < TL.length
     ·obtain ⟨K, k0, k1, k2, -⟩ := HLAT.out i (by rw [← HTL.out]; exact hic)
      replace k0 : K < (orderM m (atL m l N)).length := k0
      replace k2 : atD 0 (orderM m (atL m l N)) (K : Int) = atD 0 OM i := k2
      rw [HRN.out] at k0 k2
      have hK1 : K < OM.length := by rw [HKR.out]; exact k0
      have hio : i < OM.length := by rw [← HTL.out]; exact hic
      have hTr := hS40.rd 2 rfl
      have hOr := hS40.rd 4 rfl
      have hCr := hS40.rd 1 rfl
      obtain ⟨v, hv⟩ : ∃ v, v = atD 0 OM i := ⟨_, rfl⟩
      rw [← hv] at k2
      have HK1 := hid k1; have HK2 := hid k2; have HV := hid hv
      have d1 : decide ((K : Int) < 0) = false := decide_eq_false (by omega)
      have d2 : decide ((OM.length : Int) ≤ (K : Int)) = false := decide_eq_false (by omega)
      have d2n : decide (OM.length ≤ K) = false := decide_eq_false (by omega)
      have d3 : (v != v) = false := by simp
      clear k1 k2 hv hS40
      go_wp2_with ((first | (with_reducible refine wpList_idxG 0 E_ints F_int cInt1 wU wU (hTr) (rfl) oD oD (fun _ => wU) wU (fun _ => wU) (fun _ => ?_)) | (with_reducible refine wpList_idxN _ 0 E_ints F_int cInt1 wU wU (hTr) (rfl) oD oD (fun _ => wU) (fun _ => ?_))); rw [HK1.out])
      refine wp_region_q kR kR ?_
      repeat (first | (((with_reducible refine wpB_idxW 0 E_ints F_int cInt1 wU (by first | exact HKR.out | exact HKR.out.symm) wU (hOr) oD oD (fun _ => wU) wU (fun _ => wU) (fun _ => ?_)); (try simp only [Act.put, pA, pB, pC]); (try simp only [cInt])); rw [HK2.out]) | (((with_reducible refine wpB_idxW 0 E_ints F_int cInt1 wU (rfl) wU (hCr) oD oD (fun _ => wU) wU (fun _ => wU) (fun _ => ?_)); (try simp only [Act.put, pA, pB, pC]); (try simp only [cInt])); rw [← HV.out]) | (((refine wpQ_oneG ?_ wU (fun w' => ?_) ?_); rotate_left; (go_simp; rfl); (try simp only [Act.put, pA, pB, pC])); first | rw [d1] | rw [d2] | rw [d2n] | rw [d3] | skip) |  ((with_reducible refine wpB_load (by first | exact F_int | exact F_u64s) wU wU (by assumption) wU ?_); (try simp only [Act.put, pA, pB, pC])) | ((refine wpQ_oneG ?_ wU (fun w' => ?_) ?_); rotate_left; (go_simp; rfl); (try simp only [Act.put, pA, pB, pC])))
      refine wpQuiet_nil ?_
      intro wy hby
      go_wp2_with fail
      exact ⟨⟨i + 1, by omega, by go_num, bnext hbr hby⟩, by simp [intOf]; omega⟩
     ·clear hSr hbr
      have qp := (hS40.blk 6 rfl).1
      have qm := (hS40.blk 7 rfl).1
      go_wp2_with (first | (with_reducible refine wpList_ldS (n := 4) (us := mC m ad cap) A_mach kR wU wU (by assumption) wU wU ?_) | (with_reducible refine wpList_ldB (by first | exact F_int | exact F_u64s) wU wU (by assumption) wU ?_))
      refine (HSA.out _ (hR.below hS40.b) (hL.below hS40.b)).mono ?_
      rintro e w41 ⟨v41, rfl, ho41, b41⟩
      have hS41 := hS40.call (SL.ofOwn ho41 b41)
      simp only [List.cons_append, List.nil_append] at hS41
      clear ho41 b41 hS40 qp qm
      obtain ⟨aD, cD, rfl, _⟩ := hS41.slice 0 rfl
      have qp := (hS41.blk 7 rfl).1
      have qm := (hS41.blk 8 rfl).1
      go_wp2_with (first | (with_reducible refine wpList_ldS (n := 4) (us := mC m ad cap) A_mach kR wU wU (by assumption) wU wU ?_) | (with_reducible refine wpList_ldB (by first | exact F_int | exact F_u64s) wU wU (by assumption) wU ?_))
      refine (HWA.out _ (hR.below hS41.b) (hL.below hS41.b)).mono ?_
      rintro e w42 ⟨v42, rfl, ho42, b42⟩
      have hS42 := hS41.call (SL.ofOwn ho42 b42)
      simp only [List.cons_append, List.nil_append] at hS42
      clear ho42 b42 hS41 qp qm
      obtain ⟨aU, cU, rfl, _⟩ := hS42.slice 0 rfl
      have qp := (hS42.blk 8 rfl).1
      have qm := (hS42.blk 9 rfl).1
      go_wp2_with (first | (with_reducible refine wpList_ldS (n := 4) (us := mC m ad cap) A_mach kR wU wU (by assumption) wU wU ?_) | (with_reducible refine wpList_ldB (by first | exact F_int | exact F_u64s) wU wU (by assumption) wU ?_))
      refine (HWB.out aD cD _ (hR.below hS42.b) (hS42.rd 1 rfl)).mono ?_
      rintro e w43 ⟨v43, rfl, ho43, b43⟩
      have hS43 := hS42.call (SL.ofOwn ho43 b43)
      simp only [List.cons_append, List.nil_append] at hS43
      clear ho43 b43 hS42 qp qm
      obtain ⟨aV, cV, rfl, _⟩ := hS43.slice 0 rfl
      have dW : ((WL.length : Int) == (WL.length : Int)) = true := by simp
      have hlen := congrArg List.length HTWO.out
      rw [List.length_append] at hlen
      have hua : UA.length ≤ 144 := by omega
      have hub : UB.length ≤ 144 := by omega
      clear hlen
      have hB1 := hS43.call (SL.ofOwn (own_newN (e := 3) (w := w43) cIntS [] 0 rfl (by decide) #[] rfl (Nat.le_refl _) rfl) (bal (Below.refl _ _) _))
      simp only [List.cons_append, List.nil_append] at hB1
      go_wp2_with (first | (((with_reducible refine wpList_appL 0 E_ints wU wU (hB1) wU ((hB1.rd 2 rfl)) (rfl) cIntO (by first | omega | (simp; omega)) (by first | omega | (simp; omega)) ?_); intro vA wA hA1)) | (refine wpList_unguard wU ?_; ((with_reducible refine wpList_appL 0 E_ints wU wU (hB1) wU ((hB1.rd 2 rfl)) (rfl) cIntO (by first | omega | (simp; omega)) (by first | omega | (simp; omega)) ?_); intro vA wA hA1)) | (((with_reducible refine wpList_appL 0 E_ints wU wU (hA1) wU ((hA1.rd 1 rfl)) (rfl) cIntO (by first | omega | (simp; omega)) (by first | omega | (simp; omega)) ?_); intro vC wC hC1)) | (refine wpList_unguard wU ?_; ((with_reducible refine wpList_appL 0 E_ints wU wU (hA1) wU ((hA1.rd 1 rfl)) (rfl) cIntO (by first | omega | (simp; omega)) (by first | omega | (simp; omega)) ?_); intro vC wC hC1)))
      simp only [List.set_cons_zero, List.nil_append] at hC1
      rw [← HTWO.out] at hC1
      obtain ⟨aE, cE, rfl, _⟩ := hC1.slice 0 rfl
      go_wp2_with fail
      refine (amSame aE aW cE cW _ WL _ (hC1.rd 0 rfl) (hC1.rd 7 rfl) rfl (by omega)).mono ?_
      rintro e w44 ⟨rfl, b44⟩
      have hS44 := hC1.mono b44
      go_wp2_with fail
      go_ret
      exact ⟨rfl, hS44.b⟩
end Go.Proofs.YtndmeaoidihikaaGreatDoor

namespace Go.Proofs.YtndmeaoidihikaaGreatDoor
open Go.RowKit
set_option maxHeartbeats 8000000
set_option maxRecDepth 100000
theorem we_nofit (m : MacV) (ad al : Option Addr) (cap cl : Nat) (l : List Int) (x y : Int) (w : World) (hR : Ints w ad cap m.sw) (hL : Ints w al cl l) (hI : InI m.gears) (hx : InI x) (hy : InI y) (hw : LibW w) (hf : ¬ Fits m l 6 6) :
  Calls Tryz.prog 5 #[mV m ad cap, .slice al l.length cl, .agg #[.int .i64 x, .int .i64 y]] w fun r w' => r = .returned (.bool true) ∧ Below w.heap.size w w' := by
 have hS0 := ((SL.nil w).box (.cells (mC m ad cap) 24)).box (.cells #[.int .i64 x, .int .i64 y] 53)
 simp only [World.size_alloc] at hS0
 have HA := hid awake4_any
 have hlc := hL.le
 have hlm := hL.max
 have HF := hid (fun w h h2 => lfits_no m ad al cap cl l 6 6 w h h2 hf)
 clear hf
 go_enter Tryz.func5, Tryz.ntmps5
 go_wp2_with fail
 refine (HA.out _ (hw.below hS0.b)).mono ?_
 rintro e w1 ⟨rfl, b1⟩
 have hS1 := hS0.mono b1
 have q1_p := (hS1.blk 0 rfl).1
 have q1_m := (hS1.blk 1 rfl).1
 clear hS0
 go_wp2_with (first | (with_reducible refine wpList_ldS (n := 4) (us := mC m ad cap) A_mach kR wU wU (by assumption) wU wU ?_) | (with_reducible refine wpList_ldB (v := .bool false) F_boolM wU wU (by assumption) (by have h : (mC m ad cap)[0]? = some (.bool m.ring) := rfl; rw [HRG.out] at h; exact h) ?_) | (with_reducible refine wpList_ldB (by first | exact F_int | exact F_u64s) wU wU (by assumption) wU ?_))
 refine (HF.out _ (hR.below hS1.b) (hL.below hS1.b)).mono ?_
 rintro e w2 ⟨rfl, b2⟩
 have hS2 := hS1.mono b2
 have q2_p := (hS2.blk 0 rfl).1
 have q2_m := (hS2.blk 1 rfl).1
 clear hS1 q1_p q1_m
 go_wp2_with (first | (with_reducible refine wpList_ldS (n := 4) (us := mC m ad cap) A_mach kR wU wU (by assumption) wU wU ?_) | (with_reducible refine wpList_ldB (v := .bool false) F_boolM wU wU (by assumption) (by have h : (mC m ad cap)[0]? = some (.bool m.ring) := rfl; rw [HRG.out] at h; exact h) ?_) | (with_reducible refine wpList_ldB (by first | exact F_int | exact F_u64s) wU wU (by assumption) wU ?_))
 refine (HA.out _ (hw.below hS2.b)).mono ?_
 rintro e w3 ⟨rfl, b3⟩
 have hS3 := hS2.mono b3
 have q3_p := (hS3.blk 0 rfl).1
 have q3_m := (hS3.blk 1 rfl).1
 clear hS2 q2_p q2_m
 go_wp2_with fail
 go_ret
 exact ⟨rfl, hS3.b⟩
theorem we_ring (m : MacV) (ad al : Option Addr) (cap cl : Nat) (l : List Int) (x y : Int) (w : World) (hR : Ints w ad cap m.sw) (hL : Ints w al cl l) (hI : InI m.gears) (hx : InI x) (hy : InI y) (hw : LibW w) (hf : Fits m l 6 6) (hr : m.ring = true) :
  Calls Tryz.prog 5 #[mV m ad cap, .slice al l.length cl, .agg #[.int .i64 x, .int .i64 y]] w fun r w' => r = .returned (.bool true) ∧ Below w.heap.size w w' := by
 have hS0 := ((SL.nil w).box (.cells (mC m ad cap) 24)).box (.cells #[.int .i64 x, .int .i64 y] 53)
 simp only [World.size_alloc] at hS0
 have HA := hid awake4_any
 have hlc := hL.le
 have hlm := hL.max
 have HF := hid (fun w h h2 => lfits_ok m ad al cap cl l 6 6 w h h2 hf)
 have HRG := hid hr
 clear hf hr
 go_enter Tryz.func5, Tryz.ntmps5
 go_wp2_with fail
 refine (HA.out _ (hw.below hS0.b)).mono ?_
 rintro e w1 ⟨rfl, b1⟩
 have hS1 := hS0.mono b1
 have q1_p := (hS1.blk 0 rfl).1
 have q1_m := (hS1.blk 1 rfl).1
 clear hS0
 go_wp2_with (first | (with_reducible refine wpList_ldS (n := 4) (us := mC m ad cap) A_mach kR wU wU (by assumption) wU wU ?_) | (with_reducible refine wpList_ldB (v := .bool true) F_boolM wU wU (by assumption) (by have h : (mC m ad cap)[0]? = some (.bool m.ring) := rfl; rw [HRG.out] at h; exact h) ?_) | (with_reducible refine wpList_ldB (by first | exact F_int | exact F_u64s) wU wU (by assumption) wU ?_))
 refine (HF.out _ (hR.below hS1.b) (hL.below hS1.b)).mono ?_
 rintro e w2 ⟨rfl, b2⟩
 have hS2 := hS1.mono b2
 have q2_p := (hS2.blk 0 rfl).1
 have q2_m := (hS2.blk 1 rfl).1
 clear hS1 q1_p q1_m
 go_wp2_with (first | (with_reducible refine wpList_ldS (n := 4) (us := mC m ad cap) A_mach kR wU wU (by assumption) wU wU ?_) | (with_reducible refine wpList_ldB (v := .bool true) F_boolM wU wU (by assumption) (by have h : (mC m ad cap)[0]? = some (.bool m.ring) := rfl; rw [HRG.out] at h; exact h) ?_) | (with_reducible refine wpList_ldB (by first | exact F_int | exact F_u64s) wU wU (by assumption) wU ?_))
 refine (HA.out _ (hw.below hS2.b)).mono ?_
 rintro e w3 ⟨rfl, b3⟩
 have hS3 := hS2.mono b3
 have q3_p := (hS3.blk 0 rfl).1
 have q3_m := (hS3.blk 1 rfl).1
 clear hS2 q2_p q2_m
 go_wp2_with fail
 go_ret
 exact ⟨rfl, hS3.b⟩
theorem we_out0 (m : MacV) (ad al : Option Addr) (cap cl : Nat) (l : List Int) (x y : Int) (w : World) (hR : Ints w ad cap m.sw) (hL : Ints w al cl l) (hI : InI m.gears) (hx : InI x) (hy : InI y) (hw : LibW w) (hf : Fits m l 6 6) (hr : m.ring = false) (h0 : x < 0) :
  Calls Tryz.prog 5 #[mV m ad cap, .slice al l.length cl, .agg #[.int .i64 x, .int .i64 y]] w fun r w' => r = .returned (.bool true) ∧ Below w.heap.size w w' := by
 have hS0 := ((SL.nil w).box (.cells (mC m ad cap) 24)).box (.cells #[.int .i64 x, .int .i64 y] 53)
 simp only [World.size_alloc] at hS0
 have HA := hid awake4_any
 have hlc := hL.le
 have hlm := hL.max
 have HF := hid (fun w h h2 => lfits_ok m ad al cap cl l 6 6 w h h2 hf)
 have HRG := hid hr
 have d0 : decide (x < 0) = true := decide_eq_true (by omega)
 clear hf hr h0
 go_enter Tryz.func5, Tryz.ntmps5
 go_wp2_with fail
 refine (HA.out _ (hw.below hS0.b)).mono ?_
 rintro e w1 ⟨rfl, b1⟩
 have hS1 := hS0.mono b1
 have q1_p := (hS1.blk 0 rfl).1
 have q1_m := (hS1.blk 1 rfl).1
 clear hS0
 go_wp2_with (first | (with_reducible refine wpList_ldS (n := 4) (us := mC m ad cap) A_mach kR wU wU (by assumption) wU wU ?_) | (with_reducible refine wpList_ldB (v := .bool false) F_boolM wU wU (by assumption) (by have h : (mC m ad cap)[0]? = some (.bool m.ring) := rfl; rw [HRG.out] at h; exact h) ?_) | (with_reducible refine wpList_ldB (by first | exact F_int | exact F_u64s) wU wU (by assumption) wU ?_))
 refine (HF.out _ (hR.below hS1.b) (hL.below hS1.b)).mono ?_
 rintro e w2 ⟨rfl, b2⟩
 have hS2 := hS1.mono b2
 have q2_p := (hS2.blk 0 rfl).1
 have q2_m := (hS2.blk 1 rfl).1
 clear hS1 q1_p q1_m
 go_wp2_with (first | (with_reducible refine wpList_ldS (n := 4) (us := mC m ad cap) A_mach kR wU wU (by assumption) wU wU ?_) | (with_reducible refine wpList_ldB (v := .bool false) F_boolM wU wU (by assumption) (by have h : (mC m ad cap)[0]? = some (.bool m.ring) := rfl; rw [HRG.out] at h; exact h) ?_) | (with_reducible refine wpList_ldB (by first | exact F_int | exact F_u64s) wU wU (by assumption) wU ?_))
 refine (HA.out _ (hw.below hS2.b)).mono ?_
 rintro e w3 ⟨rfl, b3⟩
 have hS3 := hS2.mono b3
 have q3_p := (hS3.blk 0 rfl).1
 have q3_m := (hS3.blk 1 rfl).1
 clear hS2 q2_p q2_m
 go_wp2_with fail
 go_ret
 exact ⟨rfl, hS3.b⟩
theorem we_out1 (m : MacV) (ad al : Option Addr) (cap cl : Nat) (l : List Int) (x y : Int) (w : World) (hR : Ints w ad cap m.sw) (hL : Ints w al cl l) (hI : InI m.gears) (hx : InI x) (hy : InI y) (hw : LibW w) (hf : Fits m l 6 6) (hr : m.ring = false) (h0 : ¬ x < 0) (h1 : y < 0) :
  Calls Tryz.prog 5 #[mV m ad cap, .slice al l.length cl, .agg #[.int .i64 x, .int .i64 y]] w fun r w' => r = .returned (.bool true) ∧ Below w.heap.size w w' := by
 have hS0 := ((SL.nil w).box (.cells (mC m ad cap) 24)).box (.cells #[.int .i64 x, .int .i64 y] 53)
 simp only [World.size_alloc] at hS0
 have HA := hid awake4_any
 have hlc := hL.le
 have hlm := hL.max
 have HF := hid (fun w h h2 => lfits_ok m ad al cap cl l 6 6 w h h2 hf)
 have HRG := hid hr
 have d0 : decide (x < 0) = false := decide_eq_false (by omega)
 have d1 : decide (y < 0) = true := decide_eq_true (by omega)
 clear hf hr h0 h1
 go_enter Tryz.func5, Tryz.ntmps5
 go_wp2_with fail
 refine (HA.out _ (hw.below hS0.b)).mono ?_
 rintro e w1 ⟨rfl, b1⟩
 have hS1 := hS0.mono b1
 have q1_p := (hS1.blk 0 rfl).1
 have q1_m := (hS1.blk 1 rfl).1
 clear hS0
 go_wp2_with (first | (with_reducible refine wpList_ldS (n := 4) (us := mC m ad cap) A_mach kR wU wU (by assumption) wU wU ?_) | (with_reducible refine wpList_ldB (v := .bool false) F_boolM wU wU (by assumption) (by have h : (mC m ad cap)[0]? = some (.bool m.ring) := rfl; rw [HRG.out] at h; exact h) ?_) | (with_reducible refine wpList_ldB (by first | exact F_int | exact F_u64s) wU wU (by assumption) wU ?_))
 refine (HF.out _ (hR.below hS1.b) (hL.below hS1.b)).mono ?_
 rintro e w2 ⟨rfl, b2⟩
 have hS2 := hS1.mono b2
 have q2_p := (hS2.blk 0 rfl).1
 have q2_m := (hS2.blk 1 rfl).1
 clear hS1 q1_p q1_m
 go_wp2_with (first | (with_reducible refine wpList_ldS (n := 4) (us := mC m ad cap) A_mach kR wU wU (by assumption) wU wU ?_) | (with_reducible refine wpList_ldB (v := .bool false) F_boolM wU wU (by assumption) (by have h : (mC m ad cap)[0]? = some (.bool m.ring) := rfl; rw [HRG.out] at h; exact h) ?_) | (with_reducible refine wpList_ldB (by first | exact F_int | exact F_u64s) wU wU (by assumption) wU ?_))
 refine (HA.out _ (hw.below hS2.b)).mono ?_
 rintro e w3 ⟨rfl, b3⟩
 have hS3 := hS2.mono b3
 have q3_p := (hS3.blk 0 rfl).1
 have q3_m := (hS3.blk 1 rfl).1
 clear hS2 q2_p q2_m
 go_wp2_with fail
 go_ret
 exact ⟨rfl, hS3.b⟩
theorem we_out2 (m : MacV) (ad al : Option Addr) (cap cl : Nat) (l : List Int) (x y : Int) (w : World) (hR : Ints w ad cap m.sw) (hL : Ints w al cl l) (hI : InI m.gears) (hx : InI x) (hy : InI y) (hw : LibW w) (hf : Fits m l 6 6) (hr : m.ring = false) (h0 : ¬ x < 0) (h1 : ¬ y < 0) (h2 : 12 < x) :
  Calls Tryz.prog 5 #[mV m ad cap, .slice al l.length cl, .agg #[.int .i64 x, .int .i64 y]] w fun r w' => r = .returned (.bool true) ∧ Below w.heap.size w w' := by
 have hS0 := ((SL.nil w).box (.cells (mC m ad cap) 24)).box (.cells #[.int .i64 x, .int .i64 y] 53)
 simp only [World.size_alloc] at hS0
 have HA := hid awake4_any
 have hlc := hL.le
 have hlm := hL.max
 have HF := hid (fun w h h2 => lfits_ok m ad al cap cl l 6 6 w h h2 hf)
 have HRG := hid hr
 have d0 : decide (x < 0) = false := decide_eq_false (by omega)
 have d1 : decide (y < 0) = false := decide_eq_false (by omega)
 have d2 : decide (12 < x) = true := decide_eq_true (by omega)
 clear hf hr h0 h1 h2
 go_enter Tryz.func5, Tryz.ntmps5
 go_wp2_with fail
 refine (HA.out _ (hw.below hS0.b)).mono ?_
 rintro e w1 ⟨rfl, b1⟩
 have hS1 := hS0.mono b1
 have q1_p := (hS1.blk 0 rfl).1
 have q1_m := (hS1.blk 1 rfl).1
 clear hS0
 go_wp2_with (first | (with_reducible refine wpList_ldS (n := 4) (us := mC m ad cap) A_mach kR wU wU (by assumption) wU wU ?_) | (with_reducible refine wpList_ldB (v := .bool false) F_boolM wU wU (by assumption) (by have h : (mC m ad cap)[0]? = some (.bool m.ring) := rfl; rw [HRG.out] at h; exact h) ?_) | (with_reducible refine wpList_ldB (by first | exact F_int | exact F_u64s) wU wU (by assumption) wU ?_))
 refine (HF.out _ (hR.below hS1.b) (hL.below hS1.b)).mono ?_
 rintro e w2 ⟨rfl, b2⟩
 have hS2 := hS1.mono b2
 have q2_p := (hS2.blk 0 rfl).1
 have q2_m := (hS2.blk 1 rfl).1
 clear hS1 q1_p q1_m
 go_wp2_with (first | (with_reducible refine wpList_ldS (n := 4) (us := mC m ad cap) A_mach kR wU wU (by assumption) wU wU ?_) | (with_reducible refine wpList_ldB (v := .bool false) F_boolM wU wU (by assumption) (by have h : (mC m ad cap)[0]? = some (.bool m.ring) := rfl; rw [HRG.out] at h; exact h) ?_) | (with_reducible refine wpList_ldB (by first | exact F_int | exact F_u64s) wU wU (by assumption) wU ?_))
 refine (HA.out _ (hw.below hS2.b)).mono ?_
 rintro e w3 ⟨rfl, b3⟩
 have hS3 := hS2.mono b3
 have q3_p := (hS3.blk 0 rfl).1
 have q3_m := (hS3.blk 1 rfl).1
 clear hS2 q2_p q2_m
 go_wp2_with fail
 go_ret
 exact ⟨rfl, hS3.b⟩
theorem we_out3 (m : MacV) (ad al : Option Addr) (cap cl : Nat) (l : List Int) (x y : Int) (w : World) (hR : Ints w ad cap m.sw) (hL : Ints w al cl l) (hI : InI m.gears) (hx : InI x) (hy : InI y) (hw : LibW w) (hf : Fits m l 6 6) (hr : m.ring = false) (h0 : ¬ x < 0) (h1 : ¬ y < 0) (h2 : ¬ 12 < x) (h3 : 12 < y) :
  Calls Tryz.prog 5 #[mV m ad cap, .slice al l.length cl, .agg #[.int .i64 x, .int .i64 y]] w fun r w' => r = .returned (.bool true) ∧ Below w.heap.size w w' := by
 have hS0 := ((SL.nil w).box (.cells (mC m ad cap) 24)).box (.cells #[.int .i64 x, .int .i64 y] 53)
 simp only [World.size_alloc] at hS0
 have HA := hid awake4_any
 have hlc := hL.le
 have hlm := hL.max
 have HF := hid (fun w h h2 => lfits_ok m ad al cap cl l 6 6 w h h2 hf)
 have HRG := hid hr
 have d0 : decide (x < 0) = false := decide_eq_false (by omega)
 have d1 : decide (y < 0) = false := decide_eq_false (by omega)
 have d2 : decide (12 < x) = false := decide_eq_false (by omega)
 have d3 : decide (12 < y) = true := decide_eq_true (by omega)
 clear hf hr h0 h1 h2 h3
 go_enter Tryz.func5, Tryz.ntmps5
 go_wp2_with fail
 refine (HA.out _ (hw.below hS0.b)).mono ?_
 rintro e w1 ⟨rfl, b1⟩
 have hS1 := hS0.mono b1
 have q1_p := (hS1.blk 0 rfl).1
 have q1_m := (hS1.blk 1 rfl).1
 clear hS0
 go_wp2_with (first | (with_reducible refine wpList_ldS (n := 4) (us := mC m ad cap) A_mach kR wU wU (by assumption) wU wU ?_) | (with_reducible refine wpList_ldB (v := .bool false) F_boolM wU wU (by assumption) (by have h : (mC m ad cap)[0]? = some (.bool m.ring) := rfl; rw [HRG.out] at h; exact h) ?_) | (with_reducible refine wpList_ldB (by first | exact F_int | exact F_u64s) wU wU (by assumption) wU ?_))
 refine (HF.out _ (hR.below hS1.b) (hL.below hS1.b)).mono ?_
 rintro e w2 ⟨rfl, b2⟩
 have hS2 := hS1.mono b2
 have q2_p := (hS2.blk 0 rfl).1
 have q2_m := (hS2.blk 1 rfl).1
 clear hS1 q1_p q1_m
 go_wp2_with (first | (with_reducible refine wpList_ldS (n := 4) (us := mC m ad cap) A_mach kR wU wU (by assumption) wU wU ?_) | (with_reducible refine wpList_ldB (v := .bool false) F_boolM wU wU (by assumption) (by have h : (mC m ad cap)[0]? = some (.bool m.ring) := rfl; rw [HRG.out] at h; exact h) ?_) | (with_reducible refine wpList_ldB (by first | exact F_int | exact F_u64s) wU wU (by assumption) wU ?_))
 refine (HA.out _ (hw.below hS2.b)).mono ?_
 rintro e w3 ⟨rfl, b3⟩
 have hS3 := hS2.mono b3
 have q3_p := (hS3.blk 0 rfl).1
 have q3_m := (hS3.blk 1 rfl).1
 clear hS2 q2_p q2_m
 go_wp2_with fail
 go_ret
 exact ⟨rfl, hS3.b⟩
theorem we_meet (m : MacV) (ad al : Option Addr) (cap cl : Nat) (l : List Int) (A B N : Nat) (w : World) (hR : Ints w ad cap m.sw) (hL : Ints w al cl l) (hI : InI m.gears) (hw : LibW w) (hf : Fits m l 6 6) (hr : m.ring = false) (hA : A ≤ 12) (hB : B ≤ 12) (hN : N = A + B) (hme : meetsM m l N = true) :
  Calls Tryz.prog 5 #[mV m ad cap, .slice al l.length cl, .agg #[.int .i64 (A : Int), .int .i64 (B : Int)]] w fun r w' => r = .returned (.bool true) ∧ Below w.heap.size w w' := by
 have hS0 := ((SL.nil w).box (.cells (mC m ad cap) 24)).box (.cells #[.int .i64 (A : Int), .int .i64 (B : Int)] 53)
 simp only [World.size_alloc] at hS0
 have HA := hid awake4_any
 have hlc := hL.le
 have hlm := hL.max
 have hlk := loadE_zero hf.2.2.2
 have hlo := hlk.ok.lo
 have hhi := hlk.ok.hi
 have hl6 := hf.2.2.1
 have hAB : IntKind.i64.wrap ((A : Int) + (B : Int)) = (N : Int) := by rw [show (A : Int) + (B : Int) = (N : Int) by omega]; exact IntWalk.i64_in _ (by omega)
 have CME := fun w h h2 => rMeets_any m ad cap al cl l N w h h2 hlo hhi hlk.rng (by omega) hlk.nodup
 rw [hme] at CME
 have HM := hid CME
 have HF := hid (fun w h h2 => lfits_ok m ad al cap cl l 6 6 w h h2 hf)
 have HRG := hid hr
 have dA0 : decide ((A : Int) < 0) = false := decide_eq_false (by omega)
 have dB0 : decide ((B : Int) < 0) = false := decide_eq_false (by omega)
 have dA1 : decide (12 < (A : Int)) = false := decide_eq_false (by omega)
 have dB1 : decide (12 < (B : Int)) = false := decide_eq_false (by omega)
 clear CME hlk hlo hhi hl6 hf hr hN hme
 go_enter Tryz.func5, Tryz.ntmps5
 go_wp2_with fail
 refine (HA.out _ (hw.below hS0.b)).mono ?_
 rintro e w1 ⟨rfl, b1⟩
 have hS1 := hS0.mono b1
 have q1_p := (hS1.blk 0 rfl).1
 have q1_m := (hS1.blk 1 rfl).1
 clear hS0
 go_wp2_with (first | (with_reducible refine wpList_ldS (n := 4) (us := mC m ad cap) A_mach kR wU wU (by assumption) wU wU ?_) | (with_reducible refine wpList_ldB (v := .bool false) F_boolM wU wU (by assumption) (by have h : (mC m ad cap)[0]? = some (.bool m.ring) := rfl; rw [HRG.out] at h; exact h) ?_) | (with_reducible refine wpList_ldB (by first | exact F_int | exact F_u64s) wU wU (by assumption) wU ?_))
 refine (HF.out _ (hR.below hS1.b) (hL.below hS1.b)).mono ?_
 rintro e w2 ⟨rfl, b2⟩
 have hS2 := hS1.mono b2
 have q2_p := (hS2.blk 0 rfl).1
 have q2_m := (hS2.blk 1 rfl).1
 clear hS1 q1_p q1_m
 go_wp2_with (first | (with_reducible refine wpList_ldS (n := 4) (us := mC m ad cap) A_mach kR wU wU (by assumption) wU wU ?_) | (with_reducible refine wpList_ldB (v := .bool false) F_boolM wU wU (by assumption) (by have h : (mC m ad cap)[0]? = some (.bool m.ring) := rfl; rw [HRG.out] at h; exact h) ?_) | (with_reducible refine wpList_ldB (by first | exact F_int | exact F_u64s) wU wU (by assumption) wU ?_))
 refine (HM.out _ (hR.below hS2.b) (hL.below hS2.b)).mono ?_
 rintro e w3 ⟨rfl, b3⟩
 have hS3 := hS2.mono b3
 have q3_p := (hS3.blk 0 rfl).1
 have q3_m := (hS3.blk 1 rfl).1
 clear hS2 q2_p q2_m
 go_wp2_with (first | (with_reducible refine wpList_ldS (n := 4) (us := mC m ad cap) A_mach kR wU wU (by assumption) wU wU ?_) | (with_reducible refine wpList_ldB (v := .bool false) F_boolM wU wU (by assumption) (by have h : (mC m ad cap)[0]? = some (.bool m.ring) := rfl; rw [HRG.out] at h; exact h) ?_) | (with_reducible refine wpList_ldB (by first | exact F_int | exact F_u64s) wU wU (by assumption) wU ?_))
 refine (HA.out _ (hw.below hS3.b)).mono ?_
 rintro e w4 ⟨rfl, b4⟩
 have hS4 := hS3.mono b4
 have q4_p := (hS4.blk 0 rfl).1
 have q4_m := (hS4.blk 1 rfl).1
 clear hS3 q3_p q3_m
 go_wp2_with fail
 go_ret
 exact ⟨rfl, hS4.b⟩
theorem MachineWeaves_any (m : MacV) (ad al : Option Addr) (cap cl : Nat) (l : List Int) (x y : Int) (w : World) (hR : Ints w ad cap m.sw) (hL : Ints w al cl l) (hI : InI m.gears) (hx : InI x) (hy : InI y) (hw : LibW w) :
  Calls Tryz.prog 5 #[mV m ad cap, .slice al l.length cl, .agg #[.int .i64 x, .int .i64 y]] w fun r w' => r = .returned (.bool true) ∧ Below w.heap.size w w' := by
 by_cases hf : Fits m l 6 6
 ·cases hr : m.ring
  ·by_cases h0 : x < 0
   ·exact we_out0 m ad al cap cl l x y w hR hL hI hx hy hw hf hr h0
   ·by_cases h1 : y < 0
    ·exact we_out1 m ad al cap cl l x y w hR hL hI hx hy hw hf hr h0 h1
    ·by_cases h2 : 12 < x
     ·exact we_out2 m ad al cap cl l x y w hR hL hI hx hy hw hf hr h0 h1 h2
     ·by_cases h3 : 12 < y
      ·exact we_out3 m ad al cap cl l x y w hR hL hI hx hy hw hf hr h0 h1 h2 h3
      ·obtain ⟨A, rfl⟩ : ∃ A : Nat, x = A := ⟨x.toNat, by omega⟩
       obtain ⟨B, rfl⟩ : ∃ B : Nat, y = B := ⟨y.toNat, by omega⟩
       cases hme : meetsM m l ((A + B : Nat) : Int)
       ·exact we_main m ad al cap cl l A B (A + B) w hR hL hI hw hf hr (by omega) (by omega) rfl hme
       ·exact we_meet m ad al cap cl l A B (A + B) w hR hL hI hw hf hr (by omega) (by omega) rfl hme
  ·exact we_ring m ad al cap cl l x y w hR hL hI hx hy hw hf hr
 ·exact we_nofit m ad al cap cl l x y w hR hL hI hx hy hw hf
end Go.Proofs.YtndmeaoidihikaaGreatDoor
