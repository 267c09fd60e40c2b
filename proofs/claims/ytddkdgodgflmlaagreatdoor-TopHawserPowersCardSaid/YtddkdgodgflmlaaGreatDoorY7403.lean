/- Contracts and plain facts that the claim uses (Hw1 Hw). Conditions: as each one states. -/
import Derived.RangeFuncNested
import Derived.RangeFuncBound
import Derived.RangeFuncCalls
import Derived.RangeFuncLeaves
import Derived.RangeFuncFrom
import Derived.Shelf.Abstract
import Derived.Shelf.RegionOpen
import Derived.WalkKit
import Derived.OwnWalkIn
import Derived.TacticsInMore
import Derived.LoopNIn
import Derived.LoopIn
import Derived.Test.YtddkdgodgflmlaaGreatDoorProg
import Derived.WalkSpells
import Derived.Maps.AppendAt
import Derived.Deep.Quiet
import Derived.Maps.Own
import Derived.Maps.OwnSet
import Derived.Maps.Views
import Derived.WalkLawsBesides
import Derived.Laws.EntriesVeiled
import Derived.Deep.QuietTactic
import Derived.BigQuiet
import Derived.Shelf.Strings.Trim
import Derived.Shelf.Strings.SlTrimAscii
import Derived.Shelf.Strings.Repeat
import Derived.Shelf.Strings.OnBuilder
import Derived.Shelf.Strconv.Itoa1
import Derived.Shelf.Strconv.Itoa3
import Derived.Shelf.LaysM
import Derived.Ground.Names2Prog
import Derived.Lib.OthersKept
import Derived.Deep.RegionHeld3
import Derived.Deep.AppendLies
import Derived.Deep.RegionHeldLaw
import Derived.Deep.RegionLaw
import Derived.StillTail
import Derived.Laws.Tables
import Derived.IntWalk
import Derived.Laws.CopyOwn
import Derived.BigRegion
import Derived.ChangeAlike
import Derived.Shelf.Bits.Mul64
import Derived.Lib.ItoaLen
import Derived.Lib.ItoaMem
import Derived.Sort.LoopGhostIn
import Derived.Maps.RangeWalk
import Derived.Maps.Ext
import Derived.Sort.QuietThIn
import Derived.Deep.LoopGhost
import Derived.Lib.Split
import Derived.Lib.AtoiAll
import Derived.Lib.AppendIntMem
import Derived.Lib.SmallJoins
import Derived.LaidSub
import Derived.Lib.LaidTab
import Derived.Lib.AtoiErrMem
import Derived.Stop.LaidErr
import Derived.ReadAgain
import Derived.ChangeSlices
import Derived.OpenShut
import Derived.ProofKit
import Derived.Deep.DeepHandedRow
import Derived.Deep.SlicePairs
import Derived.Test.YtddkdgodgflmlaaGreatDoorXz01
import Derived.Test.YtddkdgodgflmlaaGreatDoorXz02
import Derived.Test.YtddkdgodgflmlaaGreatDoorXz03
import Derived.Test.YtddkdgodgflmlaaGreatDoorXz04
import Derived.Test.YtddkdgodgflmlaaGreatDoorXz05
import Derived.Test.YtddkdgodgflmlaaGreatDoorY7401
import Derived.Test.YtddkdgodgflmlaaGreatDoorY7402
set_option linter.all false

namespace Go.Proofs.YtddkdgodgflmlaaGreatDoor
open Go.RowKit
set_option maxHeartbeats 8000000
set_option maxRecDepth 100000
theorem hw_main (m : MacV) (ad al : Option Addr) (cap cl : Nat) (l : List Int) (n : Int) (w : World) (hR : Ints w ad cap m.sw) (hL : Ints w al cl l) (hI : InI m.gears) (hw : TabW w) (hf : Fits m l 8 40) (hn0 : 0 ≤ n) (hn1 : n ≤ 999999999) :
  Calls Tryz.prog 4 #[mV m ad cap, .slice al l.length cl, .int .i64 n] w fun r w' => r = .returned (.bool true) ∧ Below w.heap.size w w' := by
 have hS0 := (SL.nil w).box (.cells (mC m ad cap) 45)
 have HT := hid hawserTurns_any
 have hlc := hL.le
 have hlm := hL.max
 obtain ⟨N, rfl⟩ : ∃ N : Nat, n = N := ⟨n.toNat, by omega⟩
 have he := hf.2.2.2
 have hlk := loadE_zero he
 have hm := hlk.mac
 have hok := hlk.ok
 have hg8 := hf.2.1
 have hl40 := hf.2.2.1
 have hlo := hok.lo
 have hhi := hok.hi
 have hll : l.length ≤ 40 := by omega
 obtain ⟨G, hG⟩ : ∃ G : Nat, 4 * m.gears = G := ⟨(4 * m.gears).toNat, by omega⟩
 have hG32 : G ≤ 32 := by omega
 have hG4 : 4 ≤ G := by omega
 have hisP := permM_isP m
 have hpl := all_len hG
 have KM : ∀ (a : Option Addr) (c : Nat), ChkM m a c := fun a c w h => CheckMachine_any m a c w h hI
 have KL : ∀ (a : Option Addr) (c : Nat) (q : List Int), ChkL m ad cap a c q := fun a c q => CheckLoad_any m ad cap a c q (KM _ _)
 have CP := fun w h => mPerm_any m ad cap w h (KM _ _)
 have CC := fun w h => mPaths_any m ad cap w h (KM _ _)
 have hps := period_small hisP (by omega : (permM m).length ≤ 64)
 have hpp := period_pos hisP
 have CN := fun w h (hw : TabW w) => mPeriod_any m ad cap w h (KM _ _) (fun w' hb => itoaOk_tab (hw.below hb) _ (by omega) (by omega))
 have hper : perS (permM m) = itoaB (periodN (permM m)) := by unfold perS; rw [if_pos (permE_ok hisP (by omega))]
 rw [hm, if_pos rfl] at CP CC CN
 rw [hper] at CN
 have CY := fun (a : Option Addr) (c : Nat) w h => Cycles_any a c (permM m) w h hisP (by omega)
 have CPe := fun (a : Option Addr) (c : Nat) w h (hw : TabW w) => Period_any a c (permM m) w h (isP_inI hisP (by omega)) (by omega) (fun _ => itoaOk_tab hw _ (by omega) (by omega))
 rw [hper, permE_ok hisP (by omega)] at CPe
 have CPw := fun (a : Option Addr) (c : Nat) w h => Power_any a c (permM m) N w h hisP (by omega) (by omega)
 have CCo := fun (a : Option Addr) (c : Nat) w h => Compose_any a c (permM m) w h hisP (by omega)
 rw [twice_pow hisP] at CCo
 have hs : ∀ (q : List Int) (k : Nat), k ≤ 999999999 → loadE m q = 0 → stepsE m q (k : Int) = 0 := fun q k hk h => by unfold stepsE; rw [if_neg (by simp [h]), if_neg (by omega)]
 have CS : ∀ (k : Nat), k ≤ 999999999 → ∀ w, Ints w ad cap m.sw → Ints w al cl l → Calls Tryz.prog 24 #[mV m ad cap, .slice al l.length cl, .int .i64 k] w fun r w' => ∃ v, r = .returned (.tuple #[v, .int .i64 0]) ∧ OwnI w.heap.size w' v (l.map fun s => itM m s k) ∧ Below w.heap.size w w' := by
  intro k hk w h h2
  have h3 := mSteps_any m ad cap al cl l k w h h2 (KL _ _ _)
  rw [hs l k hk he, if_pos rfl] at h3
  exact h3
 have CA : ∀ (a : Option Addr) (c : Nat) (k : Nat), k ≤ 999999999 → ∀ w, Ints w ad cap m.sw → Ints w a c (idL G) → Calls Tryz.prog 24 #[mV m ad cap, .slice a G c, .int .i64 k] w fun r w' => ∃ v, r = .returned (.tuple #[v, .int .i64 0]) ∧ OwnI w.heap.size w' v (atL m (idL G) k) ∧ Below w.heap.size w w' := by
  intro a c k hk w h h2
  have h3 := mSteps_any m ad cap a c (idL G) k w h h2 (KL _ _ _)
  rw [hs (idL G) k hk (all_load hm hG), if_pos rfl, idL_len] at h3
  exact h3
 have CI := fun w => rIdentity_any G w (by omega)
 have CT := fun w => rToInt_any (periodN (permM m)) w hpp (by omega)
 have CCk := fun w => rCheck_any (periodN (permM m)) w hpp (by omega)
 have hcl : ∀ x ∈ cycK (permM m) (permM m).length, x.length ≤ 1048576 := fun x hx => by have := cycK_le hisP hx; omega
 have hcn : (cycK (permM m) (permM m).length).length ≤ 1048576 := by have := cycK_len (permM m) (permM m).length; omega
 have hat1 := fun (k : Nat) (hk : k < l.length) => steps_pow hG hlk.rng hk N
 have hat2 := fun (k : Nat) (hk : k < l.length) => steps_pow hG hlk.rng hk 2
 have hfirst := fun (i : Nat) (h0 : 0 < i) (h1 : i ≤ periodN (permM m)) => all_first hG h0 h1
 have hal : ∀ i, (atL m (idL G) i).length = G := fun i => by rw [atL_len, idL_len]
 obtain ⟨Cy, hCy⟩ : ∃ Cy, Cy = cycK (permM m) (permM m).length := ⟨_, rfl⟩
 rw [← hCy] at CC hcl hcn
 simp only [← hCy] at CY
 obtain ⟨P, hP⟩ : ∃ P, P = periodN (permM m) := ⟨_, rfl⟩
 rw [← hP] at hps hpp CN CT CCk
 simp only [← hP] at CPe hfirst
 obtain ⟨Pw, hPw⟩ : ∃ Pw, Pw = powP (permM m) N := ⟨_, rfl⟩
 obtain ⟨Tw, hTw⟩ : ∃ Tw, Tw = powP (permM m) 2 := ⟨_, rfl⟩
 have hPwl : Pw.length = G := by rw [hPw, powP_len, hpl]
 have hTwl : Tw.length = G := by rw [hTw, powP_len, hpl]
 simp only [← hPw] at CPw hat1
 simp only [← hTw] at CCo hat2
 obtain ⟨SN, hSN⟩ : ∃ SN, SN = l.map fun s => itM m s N := ⟨_, rfl⟩
 obtain ⟨S2, hS2⟩ : ∃ S2, S2 = l.map fun s => itM m s 2 := ⟨_, rfl⟩
 have hSNl : SN.length = l.length := by rw [hSN, List.length_map]
 have hS2l : S2.length = l.length := by rw [hS2, List.length_map]
 have CSN := CS N (by omega)
 have CS2 := CS 2 (by omega)
 rw [← hSN] at CSN
 rw [← hS2] at CS2
 simp only [← hSN] at hat1
 simp only [← hS2] at hat2
 obtain ⟨Pm, hPm⟩ : ∃ Pm, Pm = permM m := ⟨_, rfl⟩
 rw [← hPm] at hpl CP
 try simp only [← hPm, hpl] at CY
 try simp only [← hPm, hpl] at CPe
 try simp only [← hPm, hpl] at CPw
 try simp only [← hPm, hpl] at CCo
 obtain ⟨Z, hZ⟩ : ∃ Z, Z = itoaB (P : Int) := ⟨_, rfl⟩
 rw [← hZ] at CN CT CCk
 try simp only [← hZ] at CPe
 have hgw : IntKind.i64.wrap (4 * m.gears) = (G : Int) := by rw [hG]; exact IntWalk.i64_in _ (by omega)
 have HPL := hid hpl; have HPWL := hid hPwl; have HTWL := hid hTwl; have HSNL := hid hSNl; have HS2L := hid hS2l
 have HAT1 := hid hat1; have HAT2 := hid hat2; have HFI := hid hfirst; have HAL := hid hal; have HCL := hid hcl; have HCN := hid hcn
 have HF := hid (fun w h h2 => tfits_ok m ad al cap cl l 8 40 w h h2 hf)
 have HP := hid CP; have HC := hid CC; have HN := hid CN; have HY := hid CY; have HPe := hid CPe; have HPw := hid CPw; have HCo := hid CCo; have HSN := hid CSN; have HS2 := hid CS2; have HA := hid CA; have HId := hid CI; have HTI := hid CT; have HCk := hid CCk
 have HGW := hid hgw
 clear CP CC CN CY CPe CPw CCo CS CSN CS2 CA CI CT CCk hcl hcn hat1 hat2 hfirst hal hpl hPwl hTwl hSNl hS2l hCy hP hPw hTw hSN hS2 hPm hZ hper hisP hs he hlk hm hok hg8 hl40 hlo hhi hf hI KM KL hG
 go_enter Tryz.func4, Tryz.ntmps4
 go_wp2_with (first | (with_reducible refine wpList_ldS (n := 4) (us := mC m ad cap) A_mach kR wU wU (by assumption) wU wU ?_) | (with_reducible refine wpList_ldB (by first | exact F_int | exact F_u64s) wU wU (by assumption) wU ?_))
 refine (HF.out _ (hR.below hS0.b) (hL.below hS0.b)).mono ?_
 rintro e w1 ⟨rfl, b1⟩
 have hS1 := hS0.mono b1
 have q1 := (hS1.blk 0 rfl).1
 clear hS0
 go_wp2_with (first | (with_reducible refine wpList_ldS (n := 4) (us := mC m ad cap) A_mach kR wU wU (by assumption) wU wU ?_) | (with_reducible refine wpList_ldB (by first | exact F_int | exact F_u64s) wU wU (by assumption) wU ?_))
 refine (HP.out _ (hR.below hS1.b)).mono ?_
 rintro e w2 ⟨v2, rfl, ho2, b2⟩
 obtain ⟨aP, cP, rfl, hP, _, _⟩ := ho2.reps
 clear ho2
 have hS2 := hS1.mono b2
 have q2 := (hS2.blk 0 rfl).1
 clear hS1 q1
 rw [HPL.out]
 go_wp2_with (first | (with_reducible refine wpList_ldS (n := 4) (us := mC m ad cap) A_mach kR wU wU (by assumption) wU wU ?_) | (with_reducible refine wpList_ldB (by first | exact F_int | exact F_u64s) wU wU (by assumption) wU ?_))
 refine (HC.out _ (hR.below hS2.b)).mono ?_
 rintro e w3 ⟨v3, qsC, rfl, hqsC, hCC⟩
 have b3 := hCC.b
 obtain ⟨aC, cC, rfl, rC, lC⟩ := leads_of hCC (by rw [hqsC]; exact HCL.out)
 rw [hqsC] at lC
 have hlC : qsC.length = Cy.length := by rw [← hqsC, List.length_map]
 have hHC : (qsC.map Prod.fst).length = Cy.length := by rw [List.length_map]; exact hlC
 rw [hlC]
 clear hCC hqsC
 have hS3 := hS2.mono b3
 have q3 := (hS3.blk 0 rfl).1
 clear hS2 q2
 replace hP := hP.below b3
 go_wp2_with (first | (with_reducible refine wpList_ldS (n := 4) (us := mC m ad cap) A_mach kR wU wU (by assumption) wU wU ?_) | (with_reducible refine wpList_ldB (by first | exact F_int | exact F_u64s) wU wU (by assumption) wU ?_))
 refine (HN.out _ (hR.below hS3.b) (hw.below hS3.b)).mono ?_
 rintro e w4 ⟨rfl, b4⟩
 have hS4 := hS3.mono b4
 have q4 := (hS4.blk 0 rfl).1
 clear hS3 q3
 replace hP := hP.below b4
 replace rC := rC.below b4
 replace lC := lC.below b4
 go_wp2_with fail
 refine (HY.out aP cP _ hP).mono ?_
 rintro e w5 ⟨v5, qsD, rfl, hqsD, hCD⟩
 have b5 := hCD.b
 obtain ⟨aD, cD, rfl, rD, lD⟩ := leads_of hCD (by rw [hqsD]; exact HCL.out)
 rw [hqsD] at lD
 have hlD : qsD.length = Cy.length := by rw [← hqsD, List.length_map]
 have hHD : (qsD.map Prod.fst).length = Cy.length := by rw [List.length_map]; exact hlD
 rw [hlD]
 clear hCD hqsD
 have hS5 := hS4.mono b5
 have q5 := (hS5.blk 0 rfl).1
 clear hS4 q4
 replace hP := hP.below b5
 replace rC := rC.below b5
 replace lC := lC.below b5
 go_wp2_with fail
 refine (HPe.out aP cP _ hP (hw.below hS5.b)).mono ?_
 rintro e w6 ⟨rfl, b6⟩
 have hS6 := hS5.mono b6
 have q6 := (hS6.blk 0 rfl).1
 clear hS5 q5
 replace hP := hP.below b6
 replace rC := rC.below b6
 replace lC := lC.below b6
 replace rD := rD.below b6
 replace lD := lD.below b6
 go_wp2_with fail
 refine (HPw.out aP cP _ hP).mono ?_
 rintro e w7 ⟨v7, rfl, ho7, b7⟩
 obtain ⟨aW, cW, rfl, hW, _, _⟩ := ho7.reps
 clear ho7
 have hS7 := hS6.mono b7
 have q7 := (hS7.blk 0 rfl).1
 clear hS6 q6
 replace hP := hP.below b7
 replace rC := rC.below b7
 replace lC := lC.below b7
 replace rD := rD.below b7
 replace lD := lD.below b7
 rw [HPWL.out]
 go_wp2_with (first | (with_reducible refine wpList_ldS (n := 4) (us := mC m ad cap) A_mach kR wU wU (by assumption) wU wU ?_) | (with_reducible refine wpList_ldB (by first | exact F_int | exact F_u64s) wU wU (by assumption) wU ?_))
 refine (HSN.out _ (hR.below hS7.b) (hL.below hS7.b)).mono ?_
 rintro e w8 ⟨v8, rfl, ho8, b8⟩
 obtain ⟨aS, cS, rfl, hS, _, _⟩ := ho8.reps
 clear ho8
 have hS8 := hS7.mono b8
 have q8 := (hS8.blk 0 rfl).1
 clear hS7 q7
 replace hP := hP.below b8
 replace rC := rC.below b8
 replace lC := lC.below b8
 replace rD := rD.below b8
 replace lD := lD.below b8
 replace hW := hW.below b8
 rw [HSNL.out]
 go_wp2_with fail
 refine (HCo.out aP cP _ hP).mono ?_
 rintro e w9 ⟨v9, rfl, ho9, b9⟩
 obtain ⟨aT, cT, rfl, hT, _, _⟩ := ho9.reps
 clear ho9
 have hS9 := hS8.mono b9
 have q9 := (hS9.blk 0 rfl).1
 clear hS8 q8
 replace hP := hP.below b9
 replace rC := rC.below b9
 replace lC := lC.below b9
 replace rD := rD.below b9
 replace lD := lD.below b9
 replace hW := hW.below b9
 replace hS := hS.below b9
 rw [HTWL.out]
 go_wp2_with (first | (with_reducible refine wpList_ldS (n := 4) (us := mC m ad cap) A_mach kR wU wU (by assumption) wU wU ?_) | (with_reducible refine wpList_ldB (by first | exact F_int | exact F_u64s) wU wU (by assumption) wU ?_))
 refine (HS2.out _ (hR.below hS9.b) (hL.below hS9.b)).mono ?_
 rintro e w10 ⟨v10, rfl, ho10, b10⟩
 obtain ⟨aU, cU, rfl, hU, _, _⟩ := ho10.reps
 clear ho10
 have hS10 := hS9.mono b10
 have q10 := (hS10.blk 0 rfl).1
 clear hS9 q9
 replace hP := hP.below b10
 replace rC := rC.below b10
 replace lC := lC.below b10
 replace rD := rD.below b10
 replace lD := lD.below b10
 replace hW := hW.below b10
 replace hS := hS.below b10
 replace hT := hT.below b10
 rw [HS2L.out]
 have hgw := HGW.out
 go_wp2_with fail
 refine (SamePerms_any aC aD cC cD (qsC.map Prod.fst) (qsD.map Prod.fst) Cy Cy.length _ rC rD hHC hHD rfl lC lD HCN.out).mono ?_
 rintro e w11 ⟨rfl, b11⟩
 have hS11 := hS10.mono b11
 have q11 := (hS11.blk 0 rfl).1
 clear hS10 q10
 replace hP := hP.below b11
 replace rC := rC.below b11
 replace lC := lC.below b11
 replace rD := rD.below b11
 replace lD := lD.below b11
 replace hW := hW.below b11
 replace hS := hS.below b11
 replace hT := hT.below b11
 replace hU := hU.below b11
 clear rC lC rD lD hHC hHD hlC hlD
 go_wp2_with (first | (with_reducible refine wpList_ldS (n := 4) (us := mC m ad cap) A_mach kR wU wU (by assumption) wU wU ?_) | (with_reducible refine wpList_ldB (by first | exact F_int | exact F_u64s) wU wU (by assumption) wU ?_))
 refine (HCk.out _).mono ?_
 rintro e w12 ⟨rfl, b12⟩
 have hS12 := hS11.mono b12
 have q12 := (hS12.blk 0 rfl).1
 clear hS11 q11
 replace hP := hP.below b12
 replace hW := hW.below b12
 replace hS := hS.below b12
 replace hT := hT.below b12
 replace hU := hU.below b12
 clear hgw
 go_wp2_with fail
 have hb0 := hS12.b
 obtain ⟨wz, hwz⟩ : ∃ wz, wz = w12 := ⟨_, rfl⟩
 rw [← hwz] at hS12 hb0 hP hW hS hT hU q12 ⊢
 clear hwz
 have hltz : w.heap.size < wz.heap.size := (Array.getElem?_eq_some_iff.1 q12).1
 have hLz := hL.below hb0
 have hRz := hR.below hb0
 clear hS12 hP
 go_loopw [162, 25, 26] (fun iv _ _ wr => ∃ k : Nat, k ≤ l.length ∧ iv = .int .i64 k ∧ Below wz.heap.size wz wr) (fun iv _ _ _ => l.length - (intOf iv).toNat)
 case atStart => exact ⟨0, by omega, rfl, Below.refl _ _⟩
 case round =>
  obtain ⟨k, hk, rfl, hbr⟩ := hrel
  by_cases hlt : k < l.length
  ·have hLr := hLz.below hbr
   have hSr := hS.below hbr
   have hWr := hW.below hbr
   have hTr := hT.below hbr
   have hUr := hU.below hbr
   obtain ⟨h1, h2⟩ := HAT1.out k hlt
   have h3 := (HAT2.out k hlt).2
   obtain ⟨X, hX⟩ : ∃ X, X = atD 0 l k := ⟨_, rfl⟩
   rw [← hX] at h1 h2 h3
   obtain ⟨Y, hY⟩ : ∃ Y, Y = atD 0 SN k := ⟨_, rfl⟩
   obtain ⟨V, hV⟩ : ∃ V, V = atD 0 S2 k := ⟨_, rfl⟩
   rw [← hY] at h2
   rw [← hV] at h3
   obtain ⟨h10, h11⟩ := h1
   have HX := hid hX; have HY2 := hid hY; have HV := hid hV; have HA1 := hid h2; have HA2 := hid h3
   have dY : (Y != Y) = false := by simp
   have dV : (V != V) = false := by simp
   have kS : k < SN.length := by rw [HSNL.out]; exact hlt
   have kU : k < S2.length := by rw [HS2L.out]; exact hlt
   have kW : X < (Pw.length : Int) := by rw [HPWL.out]; exact h11
   have kT : X < (Tw.length : Int) := by rw [HTWL.out]; exact h11
   clear hX hY hV h2 h3
   go_wp2_with ((with_reducible refine wpList_idxN _ 0 E_ints F_int cInt1 wU wU (hLr) (rfl) oD oD (fun _ => wU) (fun _ => ?_)); rw [← HX.out])
   refine wp_region_q kR kR ?_
   repeat (first | (((with_reducible refine wpB_idx2 0 E_ints F_int cInt1 wU (HSNL.out) wU (hSr) oD oD (fun _ => wU) (fun _ => ?_)); (try simp only [Act.put, pA, pB, pC]); (try simp only [cInt])); rw [← HY2.out]) | (((with_reducible refine wpB_idx2 0 E_ints F_int cInt1 wU (HPWL.out) wU (hWr) oD oD (fun _ => wU) (fun _ => ?_)); (try simp only [Act.put, pA, pB, pC]); (try simp only [cInt])); rw [HA1.out]) | (((with_reducible refine wpB_idxW 0 E_ints F_int cInt1 wU (HS2L.out) wU (hUr) oD oD (fun _ => wU) wU (fun _ => wU) (fun _ => ?_)); (try simp only [Act.put, pA, pB, pC]); (try simp only [cInt])); rw [← HV.out]) | (((with_reducible refine wpB_idxW 0 E_ints F_int cInt1 wU (HTWL.out) wU (hTr) oD oD (fun _ => wU) wU (fun _ => wU) (fun _ => ?_)); (try simp only [Act.put, pA, pB, pC]); (try simp only [cInt])); rw [HA2.out]) | (((refine wpQ_oneG ?_ wU (fun w' => ?_) ?_); rotate_left; (go_simp; rfl); (try simp only [Act.put, pA, pB, pC])); first | rw [dY] | rw [dV] | skip) |  ((with_reducible refine wpB_load (by first | exact F_int | exact F_u64s) wU wU (by assumption) wU ?_); (try simp only [Act.put, pA, pB, pC])) | ((with_reducible refine wpB_loadS (n := 2) (us := #[_, _]) A_int kR wU wU (by assumption) wU wU ?_); (try simp only [Act.put, pA, pB, pC])) | ((with_reducible refine wpB_loadS (n := 4) (us := #[_, _, _, _]) A_frac kR wU wU (by assumption) wU wU ?_); (try simp only [Act.put, pA, pB, pC])) | ((refine wpQ_oneG ?_ wU (fun w' => ?_) ?_); rotate_left; (go_simp; rfl); (try simp only [Act.put, pA, pB, pC])))
   refine wpQuiet_nil ?_
   intro wy hby
   go_wp2_with fail
   exact ⟨⟨k + 1, by omega, by go_num, bnext hbr hby⟩, by simp [intOf]; omega⟩
  ·have hb1 := bnext hb0 hbr
   have hR1 := hRz.below hbr
   have qz := (hbr.block _ hltz).trans q12
   have hkk : k = l.length := by omega
   subst hkk
   clear hS hW hT hU hLz hRz q12 hltz hlt
   as_aux_lemma =>
    go_wp2_with fail
    refine (HTI.out _).mono ?_
    rintro e w20 ⟨rfl, b20⟩
    have hb20 := bnext hb1 b20
    have hlt1 : w.heap.size < wr.heap.size := (Array.getElem?_eq_some_iff.1 qz).1
    have q20 := (b20.block _ hlt1).trans qz
    have hR20 := hR1.below b20
    have hlt20 : w.heap.size < w20.heap.size := (Array.getElem?_eq_some_iff.1 q20).1
    have dp1 : decide ((P : Int) < 1) = false := decide_eq_false (by omega)
    clear qz hlt1 hR1
    by_cases hbig : 1000 < P
    ·have dp2 : decide (1000 < (P : Int)) = true := decide_eq_true (by omega)
     go_wp2_with fail
     refine (HT.out _).mono ?_
     rintro e w21 ⟨rfl, b21⟩
     go_wp2_with fail
     go_ret
     exact ⟨rfl, bnext hb20 b21⟩
    ·have dp2 : decide (1000 < (P : Int)) = false := decide_eq_false (by omega)
     have hgw := HGW.out
     go_wp2_with (with_reducible refine wpList_ldB (by first | exact F_int | exact F_u64s) wU wU (by assumption) wU ?_)
     refine (HId.out _).mono ?_
     rintro e w21 ⟨v21, rfl, ho21, b21⟩
     obtain ⟨aI, cI, rfl, hId, _, _⟩ := ho21.reps
     rw [idL_len]
     have hb21 := bnext hb20 b21
     have q21 := (b21.block _ hlt20).trans q20
     have hR21 := hR20.below b21
     have hlt21 : w.heap.size < w21.heap.size := (Array.getElem?_eq_some_iff.1 q21).1
     clear ho21 q20 hR20 hlt20 hgw dp1 dp2
     have hP1000 : P ≤ 1000 := by omega
     go_wp2_with fail
     go_loopw [30, 31, 32] (fun iv _ _ wr => ∃ i : Nat, 1 ≤ i ∧ i ≤ P + 1 ∧ iv = .int .i64 i ∧ Below w21.heap.size w21 wr) (fun iv _ _ _ => P + 1 - (intOf iv).toNat)
     case atStart => exact ⟨1, by omega, by omega, rfl, Below.refl _ _⟩
     case round =>
      obtain ⟨i, hi0, hi1, rfl, hbi⟩ := hrel
      by_cases hip : i ≤ P
      ·have hfi := HFI.out i hi0 hip
       have qi := (hbi.block _ hlt21).trans q21
       have hRi := hR21.below hbi
       have hIi := hId.below hbi
       have CAi := HA.out aI cI i (by omega) _ hRi hIi
       have hali := HAL.out i
       obtain ⟨XL, hXL⟩ : ∃ XL, XL = atL m (idL G) i := ⟨_, rfl⟩
       rw [← hXL] at hfi CAi hali
       have HALI := hid hali; have HCA := hid CAi
       have heq : ((i : Int) == (P : Int)) = decide (i = P) := by
        by_cases e : i = P
        ·rw [decide_eq_true e, e]; simp
        ·rw [decide_eq_false e, beq_eq_false_iff_ne]; omega
       obtain ⟨bb, hbb⟩ : ∃ bb, bb = decide (i = P) := ⟨_, rfl⟩
       rw [← hbb] at hfi heq
       have dle : decide ((i : Int) ≤ (P : Int)) = true := decide_eq_true (by omega)
       have dbb : (bb != bb) = false := by simp
       have HFI2 := hid hfi
       clear hXL hali CAi hbb hfi
       go_wp2_with (with_reducible refine wpList_ldS (n := 4) (us := mC m ad cap) A_mach kR wU wU (by assumption) wU wU ?_)
       refine HCA.out.mono ?_
       rintro e w22 ⟨v22, rfl, ho22, b22⟩
       obtain ⟨aX, cX, rfl, hX22, _, _⟩ := ho22.reps
       rw [HALI.out]
       clear ho22
       have CSm := SameInts_any aX aI cX cI XL (idL G) w22 hX22 (hIi.below b22) (by rw [HALI.out]; omega)
       rw [HALI.out, idL_len, HFI2.out] at CSm
       have HSm := hid CSm
       clear CSm
       go_wp2_with fail
       refine HSm.out.mono ?_
       rintro e w23 ⟨rfl, b23⟩
       go_wp2_with fail
       exact ⟨⟨i + 1, by omega, by omega, by go_num, bnext hbi (bnext b22 b23)⟩, by simp [intOf]; omega⟩
      ·have dle : decide ((i : Int) ≤ (P : Int)) = false := decide_eq_false (by omega)
       go_wp2_with fail
       refine (HT.out _).mono ?_
       rintro e w24 ⟨rfl, b24⟩
       go_wp2_with fail
       go_ret
       exact ⟨rfl, bnext hb21 (bnext hbi b24)⟩
end Go.Proofs.YtddkdgodgflmlaaGreatDoor

namespace Go.Proofs.YtddkdgodgflmlaaGreatDoor
open Go.RowKit
set_option maxHeartbeats 8000000
set_option maxRecDepth 100000
theorem hw_nofit (m : MacV) (ad al : Option Addr) (cap cl : Nat) (l : List Int) (n : Int) (w : World) (hR : Ints w ad cap m.sw) (hL : Ints w al cl l) (hI : InI m.gears) (hw : TabW w) (hf : ¬ Fits m l 8 40) :
  Calls Tryz.prog 4 #[mV m ad cap, .slice al l.length cl, .int .i64 n] w fun r w' => r = .returned (.bool true) ∧ Below w.heap.size w w' := by
 have hS0 := (SL.nil w).box (.cells (mC m ad cap) 45)
 have HT := hid hawserTurns_any
 have hlc := hL.le
 have hlm := hL.max
 have HF := hid (fun w h h2 => tfits_no m ad al cap cl l 8 40 w h h2 hf)
 clear hf
 go_enter Tryz.func4, Tryz.ntmps4
 go_wp2_with (first | (with_reducible refine wpList_ldS (n := 4) (us := mC m ad cap) A_mach kR wU wU (by assumption) wU wU ?_) | (with_reducible refine wpList_ldB (by first | exact F_int | exact F_u64s) wU wU (by assumption) wU ?_))
 refine (HF.out _ (hR.below hS0.b) (hL.below hS0.b)).mono ?_
 rintro e w1 ⟨rfl, b1⟩
 have hS1 := hS0.mono b1
 have q1_m := (hS1.blk 0 rfl).1
 clear hS0
 go_wp2_with fail
 refine (HT.out _).mono ?_
 rintro e w2 ⟨rfl, b2⟩
 have hS2 := hS1.mono b2
 have q2_m := (hS2.blk 0 rfl).1
 clear hS1 q1_m
 go_wp2_with fail
 go_ret
 exact ⟨rfl, hS2.b⟩
theorem hw_out (m : MacV) (ad al : Option Addr) (cap cl : Nat) (l : List Int) (n : Int) (w : World) (hR : Ints w ad cap m.sw) (hL : Ints w al cl l) (hI : InI m.gears) (hw : TabW w) (hf : Fits m l 8 40) (hn : n < 0 ∨ 999999999 < n) :
  Calls Tryz.prog 4 #[mV m ad cap, .slice al l.length cl, .int .i64 n] w fun r w' => r = .returned (.bool true) ∧ Below w.heap.size w w' := by
 have hS0 := (SL.nil w).box (.cells (mC m ad cap) 45)
 have HT := hid hawserTurns_any
 have hlc := hL.le
 have hlm := hL.max
 have HF := hid (fun w h h2 => tfits_ok m ad al cap cl l 8 40 w h h2 hf)
 clear hf
 rcases hn with hn | hn
 ·have d0 : decide (n < 0) = true := decide_eq_true hn
  clear hn
  go_enter Tryz.func4, Tryz.ntmps4
  go_wp2_with (first | (with_reducible refine wpList_ldS (n := 4) (us := mC m ad cap) A_mach kR wU wU (by assumption) wU wU ?_) | (with_reducible refine wpList_ldB (by first | exact F_int | exact F_u64s) wU wU (by assumption) wU ?_))
  refine (HF.out _ (hR.below hS0.b) (hL.below hS0.b)).mono ?_
  rintro e w1 ⟨rfl, b1⟩
  have hS1 := hS0.mono b1
  have q1_m := (hS1.blk 0 rfl).1
  clear hS0
  go_wp2_with fail
  refine (HT.out _).mono ?_
  rintro e w2 ⟨rfl, b2⟩
  have hS2 := hS1.mono b2
  have q2_m := (hS2.blk 0 rfl).1
  clear hS1 q1_m
  go_wp2_with fail
  go_ret
  exact ⟨rfl, hS2.b⟩
 ·have d0 : decide (n < 0) = false := decide_eq_false (by omega)
  have d1 : decide (999999999 < n) = true := decide_eq_true hn
  clear hn
  go_enter Tryz.func4, Tryz.ntmps4
  go_wp2_with (first | (with_reducible refine wpList_ldS (n := 4) (us := mC m ad cap) A_mach kR wU wU (by assumption) wU wU ?_) | (with_reducible refine wpList_ldB (by first | exact F_int | exact F_u64s) wU wU (by assumption) wU ?_))
  refine (HF.out _ (hR.below hS0.b) (hL.below hS0.b)).mono ?_
  rintro e w1 ⟨rfl, b1⟩
  have hS1 := hS0.mono b1
  have q1_m := (hS1.blk 0 rfl).1
  clear hS0
  go_wp2_with fail
  refine (HT.out _).mono ?_
  rintro e w2 ⟨rfl, b2⟩
  have hS2 := hS1.mono b2
  have q2_m := (hS2.blk 0 rfl).1
  clear hS1 q1_m
  go_wp2_with fail
  go_ret
  exact ⟨rfl, hS2.b⟩
theorem TopHawserPowers_any (m : MacV) (ad al : Option Addr) (cap cl : Nat) (l : List Int) (n : Int) (w : World) (hR : Ints w ad cap m.sw) (hL : Ints w al cl l) (hI : InI m.gears) (hw : TabW w) :
  Calls Tryz.prog 4 #[mV m ad cap, .slice al l.length cl, .int .i64 n] w fun r w' => r = .returned (.bool true) ∧ Below w.heap.size w w' := by
 by_cases hf : Fits m l 8 40
 ·by_cases hn : n < 0 ∨ 999999999 < n
  ·exact hw_out m ad al cap cl l n w hR hL hI hw hf hn
  ·exact hw_main m ad al cap cl l n w hR hL hI hw hf (by omega) (by omega)
 ·exact hw_nofit m ad al cap cl l n w hR hL hI hw hf
end Go.Proofs.YtddkdgodgflmlaaGreatDoor
