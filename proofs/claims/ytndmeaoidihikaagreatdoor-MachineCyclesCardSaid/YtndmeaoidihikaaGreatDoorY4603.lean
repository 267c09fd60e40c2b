/- Contracts and plain facts that the claim uses (K6q K6a K6b K6c). Conditions: as each one states. -/
import Derived.Test.YtndmeaoidihikaaGreatDoorProg
import Derived.WalkKit
import Derived.WalkSpells
import Derived.Maps.AppendAt
import Derived.Deep.Quiet
import Derived.Maps.Own
import Derived.Maps.OwnSet
import Derived.Maps.Views
import Derived.WalkLawsBesides
import Derived.Laws.EntriesVeiled
import Derived.Deep.QuietTactic
import Derived.BigQuiet
import Derived.RangeFuncNested
import Derived.RangeFuncBound
import Derived.RangeFuncCalls
import Derived.RangeFuncLeaves
import Derived.RangeFuncFrom
import Derived.Shelf.Abstract
import Derived.Shelf.RegionOpen
import Derived.OwnWalkIn
import Derived.TacticsInMore
import Derived.LoopNIn
import Derived.LoopIn
import Derived.Shelf.Strings.Trim
import Derived.Shelf.Strings.SlTrimAscii
import Derived.Shelf.Strings.Repeat
import Derived.Shelf.Strings.OnBuilder
import Derived.Shelf.Strconv.Itoa1
import Derived.Shelf.Strconv.Itoa3
import Derived.Shelf.LaysM
import Derived.Ground.Names2Prog
import Derived.Lib.OthersKept
import Derived.Deep.RegionHeld3
import Derived.Deep.AppendLies
import Derived.Deep.RegionHeldLaw
import Derived.Deep.RegionLaw
import Derived.StillTail
import Derived.Laws.Tables
import Derived.IntWalk
import Derived.Laws.CopyOwn
import Derived.BigRegion
import Derived.ChangeAlike
import Derived.Shelf.Bits.Mul64
import Derived.Lib.ItoaLen
import Derived.Lib.ItoaMem
import Derived.Sort.LoopGhostIn
import Derived.Maps.RangeWalk
import Derived.Maps.Ext
import Derived.Sort.QuietThIn
import Derived.Deep.LoopGhost
import Derived.Lib.Split
import Derived.Lib.AtoiAll
import Derived.Shelf.Strconv.ErrVarAll
import Derived.Shelf.Strconv.AtoiAll
import Derived.Shelf.Strings.Cut
import Derived.Shelf.Strings.Split
import Derived.Shelf.Strings.SplitShaped
import Derived.Lib.AppendIntMem
import Derived.Lib.SmallJoins
import Derived.LaidSub
import Derived.Lib.LaidTab
import Derived.Lib.AtoiErrMem
import Derived.Stop.LaidErr
import Derived.ReadAgain
import Derived.ChangeSlices
import Derived.OpenShut
import Derived.ProofKit
import Derived.Deep.DeepHandedRow
import Derived.Deep.SlicePairs
import Derived.Test.YtndmeaoidihikaaGreatDoorXz01
import Derived.Test.YtndmeaoidihikaaGreatDoorXz02
import Derived.Test.YtndmeaoidihikaaGreatDoorXz03
import Derived.Test.YtndmeaoidihikaaGreatDoorXz04
import Derived.Test.YtndmeaoidihikaaGreatDoorXz05
import Derived.Test.YtndmeaoidihikaaGreatDoorXz06
import Derived.Test.YtndmeaoidihikaaGreatDoorXz07
import Derived.Test.YtndmeaoidihikaaGreatDoorXz08
import Derived.Test.YtndmeaoidihikaaGreatDoorXz09
import Derived.Test.YtndmeaoidihikaaGreatDoorXz10
import Derived.Test.YtndmeaoidihikaaGreatDoorXz11
import Derived.Test.YtndmeaoidihikaaGreatDoorXz12
import Derived.Test.YtndmeaoidihikaaGreatDoorY4601
import Derived.Test.YtndmeaoidihikaaGreatDoorY4602
set_option linter.all false

namespace Go.Proofs.YtndmeaoidihikaaGreatDoor
open Go.RowKit
set_option maxHeartbeats 8000000
set_option maxRecDepth 100000
/-- the place that is switched. -/
def placeC (m : MacV) (a : Int) : Int := 1 + (a.tmod (m.gears - 1) + m.gears - 1).tmod (m.gears - 1)
theorem tmod_bd {a b : Int} (hb : 0 < b) : -b < a.tmod b ∧ a.tmod b < b := by
 by_cases h : 0 ≤ a
 ·rw [Int.tmod_eq_emod_of_nonneg h]
  have h1 := Int.emod_nonneg a (b := b) (by omega)
  have h2 := Int.emod_lt_of_pos a hb
  omega
 ·have e : a.tmod b = -((-a).tmod b) := by rw [Int.neg_tmod]; omega
  rw [e, Int.tmod_eq_emod_of_nonneg (by omega)]
  have h1 := Int.emod_nonneg (-a) (b := b) (by omega)
  have h2 := Int.emod_lt_of_pos (-a) hb
  omega
theorem lessS_out {l : List Int} {p : Int} (h : p ∉ l) : lessS l p = l := by
 unfold lessS
 rw [List.filter_eq_self]
 intro x hx
 simp only [bne_iff_ne, ne_eq]
 intro e
 subst e
 exact h hx
theorem moreS_len {l : List Int} {p : Int} (hn : l.Nodup) (hp : p ∉ l) (k : Nat) : (moreS l p k).length ≤ k :=
 nodup_le k _ (asc_nodup (moreS_asc hn hp k)) fun x hx => by have := (moreS_mem.1 hx).1; omega
theorem filt_step {l : List Int} {i : Int} {k : Nat} (h : k < l.length) : (l.take (k + 1)).filter (fun x => x == i) = (l.take k).filter (fun x => x == i) ++ (if atD 0 l k = i then [i] else []) := by
 rw [take_snoc h, List.filter_append]
 by_cases e : atD 0 l k = i <;> simp [e]
end Go.Proofs.YtndmeaoidihikaaGreatDoor

namespace Go.Proofs.YtndmeaoidihikaaGreatDoor
open Go.RowKit
set_option maxHeartbeats 8000000
set_option maxRecDepth 100000
theorem my_one (m : MacV) (ad : Option Addr) (cap : Nat) (at_ : Int) (w : World) (hR : Ints w ad cap m.sw) (hI : InI m.gears) (hat : InI at_) (hw : LibW w) (hsb : (decide (m.sw.length ≤ 19) && decide (0 ≤ 67)) = true) (hm : macE m = 0) (hg1 : m.gears = 1) :
  Calls Tryz.prog 3 #[mV m ad cap, .int .i64 at_] w fun r w' => r = .returned (.bool true) ∧ Below w.heap.size w w' := by
 have hS0 := ((SL.nil w).box (.cells (mC m ad cap) 24)).box (.cells (mC m ad cap) 25)
 simp only [World.size_alloc] at hS0
 have HA := hid awake4_any
 have CSh := fun w => rShort_any m ad cap none 0 0 w
 rw [hsb] at CSh
 have HSh := hid CSh
 clear CSh hsb
 have hok := (macE_zero hm).1
 have hlo := hok.lo
 have hhi := hok.hi
 have hsl := hok.many
 obtain ⟨N, hN⟩ : ∃ N : Nat, 4 * m.gears = N := ⟨(4 * m.gears).toNat, by omega⟩
 have hN64 : N ≤ 64 := by omega
 have hN0 : 0 < N := by omega
 have hpl : (permM m).length = N := by rw [permM_len]; omega
 have hip := permM_isP m
 have hwN : IntKind.i64.wrap (4 * m.gears) = (N : Int) := by rw [hN]; exact IntWalk.i64_in _ (by omega)
 have hps := period_small hip (by omega)
 have hpp0 := period_pos hip
 have KM : ∀ (a : Option Addr) (c : Nat), ChkM m a c := fun a c w h => CheckMachine_any m a c w h hI
 have CM := fun w h => rCheckMachine_any m ad cap w h
 have CP := fun w h => mPerm_any m ad cap w h (KM _ _)
 have CC := fun w h => mPaths_any m ad cap w h (KM _ _)
 have CN := fun w h (hw : LibW w) => mPeriod_any m ad cap w h (KM _ _) (fun w' hb => itoaOk_tab (hw.tab.below hb) _ (by omega) (by omega))
 have hper : perS (permM m) = itoaB (periodN (permM m)) := by unfold perS; rw [if_pos (permE_ok hip (by omega))]
 rw [if_pos hm] at CP CC CN
 rw [hper] at CN
 rw [hm] at CM CP CC CN
 have CCP := fun a c w h => rCheckPerm_any a c (permM m) w h hip (by omega)
 have CCK := fun w => rCheck_any (periodN (permM m)) w hpp0 (by omega)
 have hcl : ∀ x ∈ cycK (permM m) (permM m).length, x.length ≤ 1048576 := fun x hx => by have := cycK_le hip hx; omega
 have hcn : (cycK (permM m) (permM m).length).length ≤ 64 := by have := cycK_len (permM m) (permM m).length; omega
 have hpos : ∀ x ∈ cycK (permM m) (permM m).length, 0 < x.length ∧ x.length ≤ 64 := fun x hx => ⟨cycK_pos hip (Nat.le_refl _) x hx, by have := cycK_le hip hx; omega⟩
 have hpa := fun (x : List Int) (hx : x ∈ cycK (permM m) (permM m).length) (i : Nat) (hi : i < x.length) => path_at hip hx hi
 have hne := fun (s : Int) (h0 : 0 ≤ s) (h1 : s < N) => (show atD 0 (permM m) s ≠ s by rw [permM_at h0 (by omega)]; exact next_ne h0 (by omega))
 have hnd := (cycK_ok hip (permM m).length (Nat.le_refl _)).1
 have hsum := cyc_all_len hip
 have hdv := fun (x : List Int) (hx : x ∈ cycK (permM m) (permM m).length) => path_dvd hx
 have CDV := fun (x : List Int) (hx : x ∈ cycK (permM m) (permM m).length) w => (show Calls Tryz.prog 15 #[.string (itoaB (periodN (permM m))), .string (itoaB (x.length : Int))] w fun e w' => e = .returned (.string (itoaB ((periodN (permM m) / x.length : Nat)))) ∧ Below w.heap.size w w' by
  have h := rDiv_any (periodN (permM m)) x.length w (by omega) (by have := hpos x hx; omega) (hpos x hx).1
  have hg : Nat.gcd (periodN (permM m)) x.length = x.length := Nat.gcd_eq_right (hdv x hx)
  rw [hg, Nat.div_self (hpos x hx).1, textQ_one] at h
  exact h)
 have CIW := fun (x : List Int) (hx : x ∈ cycK (permM m) (permM m).length) w => rIsWhole_any (periodN (permM m) / x.length) w (Nat.lt_of_le_of_lt (Nat.div_le_self _ _) (by omega))
 have hring : m.ring = false := by
  cases h : m.ring with
  | false => rfl
  | true => have := hok.even h; omega
 have hsw : m.sw = [] := by
  cases h : m.sw with
  | nil => rfl
  | cons x r =>
   obtain ⟨a, b, c⟩ := shared_iff.1 (swGo_shared m m.sw none (macE_zero hm).2 x (by rw [h]; simp))
   rw [hring] at c
   rcases c with c | c
   ·cases c
   ·omega
 have hbc := bare_cyc hok hsw
 rw [hring] at hbc
 have hd1 : (m.gears == 1) = true := by simp [hg1]
 obtain ⟨PE, hPE⟩ : ∃ P, P = periodN (permM m) := ⟨_, rfl⟩
 rw [← hPE] at CN CCK
 simp only [← hPE] at CDV CIW
 obtain ⟨Cy, hCy⟩ : ∃ Cy, Cy = cycK (permM m) (permM m).length := ⟨_, rfl⟩
 rw [← hCy] at CC hcl hcn hnd hsum hbc
 simp only [← hCy] at hpos hpa CDV CIW
 obtain ⟨PM, hPM⟩ : ∃ P, P = permM m := ⟨_, rfl⟩
 rw [← hPM] at CP CCP hpl hsum
 simp only [← hPM] at hpa hne
 rw [hpl] at hsum
 simp only [hpl] at hpa
 obtain ⟨Z, hZ⟩ : ∃ Z, Z = itoaB (PE : Int) := ⟨_, rfl⟩
 rw [← hZ] at CN CCK
 simp only [← hZ] at CDV
 have hpn : ((PM.length : Int) != (N : Int)) = false := by rw [hpl]; simp
 have HM := hid CM; have HP := hid CP; have HC := hid CC; have HN := hid CN; have HCP := hid CCP; have HCK := hid CCK; have HCL := hid hcl; have HPOS := hid hpos; have HPA := hid hpa; have HNE := hid hne; have HND := hid hnd; have HSUM := hid hsum; have HDV := hid CDV; have HIW := hid CIW; have HPL := hid hpl
 have HRG := hid hring; have HSW := hid hsw; have HBC := hid hbc
 clear hring hsw hbc hok hm hlo hhi hsl hg1 CM CP CC CN CCP CCK hcl hpos hpa hne hnd hsum CDV CIW hdv hZ hPE hCy hPM hper hps hpp0 hip KM hpl
 go_enter Tryz.func3, Tryz.ntmps3
 go_wp2_with fail
 refine (HA.out _ (hw.below hS0.b)).mono ?_
 rintro e w1 ⟨rfl, b1⟩
 have hS1 := hS0.mono b1
 have q1_rm := (hS1.blk 0 rfl).1
 have q1_m := (hS1.blk 1 rfl).1
 clear hS0
 go_wp2_with (with_reducible refine wpList_ldS (n := 4) (us := mC m ad cap) A_rmach kR wU wU (by assumption) wU wU ?_)
 refine (HSh.out _).mono ?_
 rintro e w2 ⟨rfl, b2⟩
 have hS2 := hS1.mono b2
 have q2_rm := (hS2.blk 0 rfl).1
 have q2_m := (hS2.blk 1 rfl).1
 clear hS1 q1_rm q1_m
 go_wp2_with (with_reducible refine wpList_ldS (n := 4) (us := mC m ad cap) A_rmach kR wU wU (by assumption) wU wU ?_)
 refine (HM.out _ (hR.below hS2.b)).mono ?_
 rintro e w3 ⟨rfl, b3⟩
 have hS3 := hS2.mono b3
 have q3_rm := (hS3.blk 0 rfl).1
 have q3_m := (hS3.blk 1 rfl).1
 clear hS2 q2_rm q2_m
 go_wp2_with (first | (with_reducible refine wpList_ldB (by first | exact F_boolM | exact F_int | exact F_sliceM) wU wU (by assumption) wU ?_) | (with_reducible refine wpList_ldS (n := 4) (us := mC m ad cap) A_mach kR wU wU (by assumption) wU wU ?_))
 refine (HP.out _ (hR.below hS3.b)).mono ?_
 rintro e w4 ⟨v4, rfl, ho4, b4⟩
 have hS4 := hS3.call (SL.ofOwn ho4 b4)
 simp only [List.cons_append, List.nil_append] at hS4
 have q4_rm := (hS4.blk 1 rfl).1
 have q4_m := (hS4.blk 2 rfl).1
 clear hS3 q3_rm q3_m
 clear ho4 b4
 obtain ⟨aP, cP, rfl, _⟩ := hS4.slice 0 rfl
 go_wp2_with (with_reducible refine wpList_ldS (n := 4) (us := mC m ad cap) A_mach kR wU wU (by assumption) wU wU ?_)
 refine (HC.out _ (hR.below hS4.b)).mono ?_
 rintro e w5 ⟨v5, qs, rfl, hqs, hSq⟩
 obtain ⟨a6, c6, rfl, r6, l6⟩ := leads_of hSq (by rw [hqs]; exact HCL.out)
 rw [hqs] at l6
 have hS5 := hS4.mono hSq.b
 have q5_rm := (hS5.blk 1 rfl).1
 have q5_m := (hS5.blk 2 rfl).1
 clear hS4 q4_rm q4_m
 have hql : qs.length = Cy.length := by rw [← hqs, List.length_map]
 obtain ⟨QL, hQL⟩ : ∃ QL, QL = qs.map Prod.fst := ⟨_, rfl⟩
 have hqll : QL.length = Cy.length := by rw [hQL, List.length_map]; exact hql
 rw [← hQL] at r6 l6
 rw [hql]
 have HQL := hid hqll
 clear hqs hSq hql hQL hqll
 go_wp2_with (with_reducible refine wpList_ldS (n := 4) (us := mC m ad cap) A_mach kR wU wU (by assumption) wU wU ?_)
 refine (HN.out _ (hR.below hS5.b) (hw.below hS5.b)).mono ?_
 rintro e w6 ⟨rfl, b6⟩
 have hS6 := hS5.mono b6
 have q6_rm := (hS6.blk 1 rfl).1
 have q6_m := (hS6.blk 2 rfl).1
 clear hS5 q5_rm q5_m
 replace r6 := r6.below b6
 replace l6 := l6.below b6
 go_wp2_with fail
 refine (HCP.out aP cP _ (hS6.rd 0 rfl)).mono ?_
 rintro e w7 ⟨rfl, b7⟩
 have hS7 := hS6.mono b7
 have q7_rm := (hS7.blk 1 rfl).1
 have q7_m := (hS7.blk 2 rfl).1
 clear hS6 q6_rm q6_m
 replace r6 := r6.below b7
 replace l6 := l6.below b7
 go_wp2_with fail
 refine (HCK.out _).mono ?_
 rintro e w8 ⟨rfl, b8⟩
 have hS8 := hS7.mono b8
 have q8_rm := (hS8.blk 1 rfl).1
 have q8_m := (hS8.blk 2 rfl).1
 clear hS7 q7_rm q7_m
 replace r6 := r6.below b8
 replace l6 := l6.below b8
 have hPz := (hS8.rd 0 rfl)
 have hbz := hS8.b
 have qmz := q8_m
 obtain ⟨wz, hwz⟩ : ∃ wz, wz = w8 := ⟨_, rfl⟩
 rw [← hwz] at hPz hbz qmz r6 l6 ⊢
 clear hS8 q8_rm q8_m hwz
 have hltz : w.heap.size < wz.heap.size := (Array.getElem?_eq_some_iff.1 qmz).1
 have hSz := SL.nil wz
 go_wp2_with ((with_reducible refine wpList_makeL (c := cBool) (N) (false) E_bools cBool1 wU wU (by omega) (by omega) (hSz) ?_); intro aS w1 hS1)
 go_loopw [88, 16, 94, 17, 18, 14] (fun jv _ _ _ _ tv wr => ∃ (j tj : Nat) (SB : List Bool), j ≤ Cy.length ∧ jv = .int .i64 j ∧ tv = .int .i64 tj ∧ tj = ((Cy.take j).map List.length).sum ∧ SB.length = N ∧ (∀ x : Int, 0 ≤ x → x < N → atD false SB x = decide (x ∈ (Cy.take j).flatten)) ∧ SL wz.heap.size wz wr [pOwn cBool 1 4 (.slice aS N N) SB]) (fun jv _ _ _ _ _ _ => Cy.length - (intOf jv).toNat)
 case atStart =>
  refine ⟨0, 0, List.replicate N false, by omega, rfl, rfl, by simp, by simp, fun x h0 h1 => ?_, hS1⟩
  have : x.toNat < N := by omega
  simp [atD, this]
 case round =>
  clear hS1
  obtain ⟨j, tt, SB, hj, rfl, rfl, htt, hsb, hsn, hSr⟩ := hrel
  have HTT := hid htt
  clear htt
  have HSB := hid hsb; have HSN := hid hsn
  clear hsb hsn
  by_cases hlt : j < Cy.length
  ·obtain ⟨xa, xc, hx1, hx2, -⟩ := l6 j hlt
   have hptc : Cy[j] = atD [] Cy j := by simp [atD, hlt]
   have hmem : atD [] Cy j ∈ Cy := by rw [← hptc]; exact List.getElem_mem hlt
   have hpos := HPOS.out _ hmem
   have hpa := HPA.out _ hmem
   have hfn := fun (i : Nat) (hi : i < Cy[j].length) => flat_new HND.out hlt hi
   have hft := flat_take hlt
   have CDV := HDV.out _ hmem
   have CIW := HIW.out _ hmem
   have hms : ((Cy.take (j + 1)).map List.length).sum = ((Cy.take j).map List.length).sum + (atD [] Cy j).length := by
    rw [← hptc, List.take_succ_eq_append_getElem hlt, List.map_append, List.sum_append]; simp
   have hle : ((Cy.take (j + 1)).map List.length).sum ≤ 64 := by
    have h1 : ((Cy.take (j + 1)).map List.length).sum ≤ (Cy.map List.length).sum := by
     conv => rhs; rw [← List.take_append_drop (j + 1) Cy]
     rw [List.map_append, List.sum_append]; omega
    rw [HSUM.out] at h1; omega
   simp only [hptc] at hfn hft
   obtain ⟨PT, hPT⟩ : ∃ P, P = atD [] Cy j := ⟨_, rfl⟩
   rw [← hPT] at hx1 hx2 hpos hft CDV CIW hms
   simp only [← hPT] at hpa hfn
   have hx1k : (j : Int) < QL.length := by rw [HQL.out]; omega
   have r6r := r6.below hSr.b
   have HX1 := hid hx1; have HPA2 := hid hpa; have HFN := hid hfn; have HFT := hid hft; have HDV2 := hid CDV; have HIW2 := hid CIW; have HMS := hid hms
   obtain ⟨d, hd⟩ : ∃ d, d = PT.length := ⟨_, rfl⟩
   have hd0 : 0 < d := by rw [hd]; exact hpos.1
   have hd64 : d ≤ 64 := by rw [hd]; exact hpos.2
   have HD := hid hd.symm
   have CFI := fun w => rFromInt_any d w (by omega)
   have HFI := hid CFI
   clear hx1 hpa hfn hft CDV CIW hms hPT hptc hmem hpos hd CFI
   go_wp2_with ((with_reducible refine wpList_idxN _ ((none, 0, 0) : SlH) E_sls F_sl cSl1 wU wU (r6r) (HQL.out) oD oD (fun _ => wU) (fun _ => ?_)); rw [HX1.out, HD.out]; simp only [cSl])
   go_loopw [94, 17, 18] (fun iv _ _ wq => ∃ (i : Nat) (SC : List Bool), i ≤ d ∧ iv = .int .i64 i ∧ SC.length = N ∧ (∀ x : Int, 0 ≤ x → x < N → atD false SC x = decide (x ∈ (Cy.take j).flatten ++ PT.take i)) ∧ SL wz.heap.size wz wq [pOwn cBool 1 4 (.slice aS N N) SC]) (fun iv _ _ _ => d - (intOf iv).toNat)
   case atStart => exact ⟨0, SB, by omega, rfl, HSB.out, by rw [List.take_zero, List.append_nil]; exact HSN.out, hSr⟩
   case round =>
    clear hSr r6r
    obtain ⟨i, SC, hi, rfl, hsc, hsm, hSq⟩ := hrel
    have HSC := hid hsc; have HSM := hid hsm
    clear hsc hsm
    have hPT := hx2.below hSq.b
    have hPr := hPz.below hSq.b
    have hRB := hSq.rd 0 rfl
    by_cases hid_ : i < d
    ·have hiP : i < PT.length := by rw [HD.out]; exact hid_
     obtain ⟨⟨x0, x1⟩, hpx⟩ := HPA2.out i hiP
     have hnew := HFN.out i hiP
     have hne := HNE.out _ x0 x1
     have hsm := HSM.out _ x0 x1
     rw [decide_eq_false hnew] at hsm
     have htk := take_snoc hiP
     rw [HD.out] at hpx
     obtain ⟨X, hX⟩ : ∃ X, X = atD 0 PT i := ⟨_, rfl⟩
     obtain ⟨r, hr⟩ : ∃ r, r = (i + 1) % d := ⟨_, rfl⟩
     rw [← hX] at x0 x1 hpx hne hsm htk
     rw [← hr] at hpx
     have hrl : r < d := by rw [hr]; exact Nat.mod_lt _ hd0
     have hrP : (r : Int) < PT.length := by rw [HD.out]; omega
     have htm : ((i : Int) + 1).tmod (d : Int) = (r : Int) := by
      rw [Int.tmod_eq_emod_of_nonneg (by omega), hr]
      first | exact (Int.natCast_emod _ _).symm | exact (Int.natCast_mod _ _).symm | simp
     have hw1 : IntKind.i64.wrap ((i : Int) + 1) = (i : Int) + 1 := IntWalk.i64_in _ (by omega)
     have hw2 : IntKind.i64.wrap (r : Int) = (r : Int) := IntWalk.i64_in _ (by omega)
     have hdz : ¬ (d : Int) = 0 := by omega
     have hdz2 : ¬ d = 0 := by omega
     obtain ⟨Y, hY⟩ : ∃ Y, Y = atD 0 PT r := ⟨_, rfl⟩
     rw [← hY] at hpx
     rw [hpx] at hne
     have hyx : (Y == X) = false := by simpa using hne
     have hx0 : ¬ X < 0 := by omega
     have hxN : ¬ (N : Int) ≤ X := by omega
     have hdx : decide (X < 0) = false := decide_eq_false hx0
     have hdN : decide ((N : Int) ≤ X) = false := decide_eq_false hxN
     have hXP : X < PM.length := by rw [HPL.out]; exact x1
     have hXS : X < SC.length := by rw [HSC.out]; exact x1
     have hiPz : (i : Int) < PT.length := by omega
     have HX := hid hX; have HY := hid hY; have HPX := hid hpx; have HAT := hid hsm; have HTK := hid htk
     clear hX hY hpx hsm htk hne hnew hr
     go_wp2_with ((first | (with_reducible refine wpList_idx _ 0 E_ints F_int cInt1 wU wU (hPT) oD oD (fun _ => wU) (fun _ => ?_)) | (with_reducible refine wpList_idxN _ 0 E_ints F_int cInt1 wU wU (hPT) (HD.out) oD oD (fun _ => wU) (fun _ => ?_))); rw [← HX.out])
     refine wp_region_q kR kR ?_
     repeat (first | (((with_reducible refine wpB_idxW false E_bools F_bool cBool1 wU (HSC.out) wU (hRB) oD oD (fun _ => wU) wU (fun _ => wU) (fun _ => ?_)); (try simp only [Act.put, pA, pB, pC]); (try simp only [cInt])); rw [HAT.out]) | (((with_reducible refine wpB_idxW 0 E_ints F_int cInt1 wU (rfl) wU (hPr) oD oD (fun _ => wU) wU (fun _ => wU) (fun _ => ?_)); (try simp only [Act.put, pA, pB, pC]); (try simp only [cInt])); rw [HPX.out]) | (((with_reducible refine wpB_idxW 0 E_ints F_int cInt1 wU (HD.out) wU (hPT) oD oD (fun _ => wU) wU (fun _ => wU) (fun _ => ?_)); (try simp only [Act.put, pA, pB, pC]); (try simp only [cInt])); rw [← HY.out]) | (((refine wpQ_oneG ?_ wU (fun w' => ?_) ?_); rotate_left; (go_simp; rfl); (try simp only [Act.put, pA, pB, pC])); first | rw [hdx] | rw [hdN] | rw [hyx] | skip) |  ((with_reducible refine wpB_load (by first | exact F_int | exact F_u64s) wU wU (by assumption) wU ?_); (try simp only [Act.put, pA, pB, pC])) | ((refine wpQ_oneG ?_ wU (fun w' => ?_) ?_); rotate_left; (go_simp; rfl); (try simp only [Act.put, pA, pB, pC])))
     refine wpQuiet_nil ?_
     intro w5 hb5
     have hS5 := hSq.mono hb5
     go_wp2_with ((with_reducible refine wpList_storeL (u := true) 0 E_bools cBool1 (sto_bool) wU wU (hS5) wU (by first | omega | (simp; done) | (simp; omega)) (by first | omega | (simp; done) | (simp; omega)) (fun _ => wU) (fun _ => wU) ?_); intro _ w6 hS6)
     refine ⟨⟨i + 1, SC.set X.toNat true, by omega, by go_num, by rw [List.length_set]; exact HSC.out, fun x h0 h1 => ?_, hS6⟩, by simp [intOf]; omega⟩
     rw [atB_set x0 hXS h0, HTK.out]
     by_cases e : x = X
     ·rw [if_pos e, decide_eq_true (List.mem_append_right _ (List.mem_append_right _ (by simp [e])))]
     ·rw [if_neg e, HSM.out x h0 h1]
      congr 1
      simp [e]
    ·have hie : i = d := by omega
     have htk : PT.take i = PT := List.take_of_length_le (by rw [HD.out]; omega)
     subst hie
     have hmt : ((Cy.take (j + 1)).map List.length).sum = tt + i := by rw [HMS.out, HD.out, HTT.out]
     have hwt : IntKind.i64.wrap ((tt : Int) + (i : Int)) = ((tt + i : Nat) : Int) := by
      rw [IntWalk.i64_in _ (by omega)]; omega
     have HTK := hid htk
     have hdz : ((i : Int) == 0) = false := beq_eq_false_iff_ne.2 (by omega)
     have CDV := HDV2.out
     have CIW := HIW2.out
     rw [HD.out] at CDV CIW
     have HDV3 := hid CDV; have HIW3 := hid CIW
     have HMT := hid hmt.symm
     clear htk CDV CIW hmt
     go_wp2_with fail
     refine (HFI.out _).mono ?_
     rintro e w5 ⟨rfl, b5⟩
     go_wp2_with fail
     refine (HDV3.out _).mono ?_
     rintro e w6 ⟨rfl, b6⟩
     go_wp2_with fail
     refine (HIW3.out _).mono ?_
     rintro e w7 ⟨rfl, b7⟩
     have hS7 := ((hSq.mono b5).mono b6).mono b7
     go_wp2_with fail
     refine ⟨⟨j + 1, tt + i, SC, by omega, by go_num, rfl, HMT.out, HSC.out, fun x h0 h1 => ?_, hS7⟩, by simp [intOf]; omega⟩
     rw [HSM.out x h0 h1, HTK.out, HFT.out]
  ·have hje : j = Cy.length := by omega
   subst hje
   have htt := HTT.out
   rw [List.take_length, HSUM.out] at htt
   subst htt
   have hb1 := bnext hbz hSr.b
   have q1 := (hSr.b.block _ hltz).trans qmz
   obtain ⟨we, rfl⟩ : ∃ we, we = wr := ⟨_, rfl⟩
   clear hSr hPz r6 l6 hbz qmz hltz HSB HSN
   have q2 : we.heap[w.heap.size]? = some (.cells #[.bool false, .int .i64 m.gears, .int .i64 m.turn, .slice ad 0 cap] 24) := by rw [q1]; show some (Obj.cells #[.bool m.ring, _, _, .slice ad m.sw.length cap] _) = _; rw [HRG.out, HSW.out]; rfl
   clear q1
   have hc1 : ((Cy.length : Int) != 1) = false := by rw [HBC.out]; rfl
   go_wp2_with (with_reducible refine wpList_ldB (by first | exact F_boolM | exact F_int | exact F_sliceM) wU wU (by assumption) wU ?_)
   go_ret
   exact ⟨rfl, hb1⟩
end Go.Proofs.YtndmeaoidihikaaGreatDoor

namespace Go.Proofs.YtndmeaoidihikaaGreatDoor
open Go.RowKit
set_option maxHeartbeats 8000000
set_option maxRecDepth 100000
theorem my_gone_ring (m : MacV) (ad : Option Addr) (cap : Nat) (at_ : Int) (w : World) (hR : Ints w ad cap m.sw) (hI : InI m.gears) (hat : InI at_) (hw : LibW w) (hsb : (decide (m.sw.length ≤ 19) && decide (0 ≤ 67)) = true) (hm : macE m = 0) (hg2 : 2 ≤ m.gears) (hring : m.ring = true) (hp : placeC m at_ ∈ m.sw) :
  Calls Tryz.prog 3 #[mV m ad cap, .int .i64 at_] w fun r w' => r = .returned (.bool true) ∧ Below w.heap.size w w' := by
 have hS0 := ((SL.nil w).box (.cells (mC m ad cap) 24)).box (.cells (mC m ad cap) 25)
 simp only [World.size_alloc] at hS0
 have HA := hid awake4_any
 have CSh := fun w => rShort_any m ad cap none 0 0 w
 rw [hsb] at CSh
 have HSh := hid CSh
 clear CSh hsb
 have hok := (macE_zero hm).1
 have hlo := hok.lo
 have hhi := hok.hi
 have hsl := hok.many
 obtain ⟨N, hN⟩ : ∃ N : Nat, 4 * m.gears = N := ⟨(4 * m.gears).toNat, by omega⟩
 have hN64 : N ≤ 64 := by omega
 have hN0 : 0 < N := by omega
 have hpl : (permM m).length = N := by rw [permM_len]; omega
 have hip := permM_isP m
 have hwN : IntKind.i64.wrap (4 * m.gears) = (N : Int) := by rw [hN]; exact IntWalk.i64_in _ (by omega)
 have hps := period_small hip (by omega)
 have hpp0 := period_pos hip
 have KM : ∀ (a : Option Addr) (c : Nat), ChkM m a c := fun a c w h => CheckMachine_any m a c w h hI
 have CM := fun w h => rCheckMachine_any m ad cap w h
 have CP := fun w h => mPerm_any m ad cap w h (KM _ _)
 have CC := fun w h => mPaths_any m ad cap w h (KM _ _)
 have CN := fun w h (hw : LibW w) => mPeriod_any m ad cap w h (KM _ _) (fun w' hb => itoaOk_tab (hw.tab.below hb) _ (by omega) (by omega))
 have hper : perS (permM m) = itoaB (periodN (permM m)) := by unfold perS; rw [if_pos (permE_ok hip (by omega))]
 rw [if_pos hm] at CP CC CN
 rw [hper] at CN
 rw [hm] at CM CP CC CN
 have CCP := fun a c w h => rCheckPerm_any a c (permM m) w h hip (by omega)
 have CCK := fun w => rCheck_any (periodN (permM m)) w hpp0 (by omega)
 have hcl : ∀ x ∈ cycK (permM m) (permM m).length, x.length ≤ 1048576 := fun x hx => by have := cycK_le hip hx; omega
 have hcn : (cycK (permM m) (permM m).length).length ≤ 64 := by have := cycK_len (permM m) (permM m).length; omega
 have hpos : ∀ x ∈ cycK (permM m) (permM m).length, 0 < x.length ∧ x.length ≤ 64 := fun x hx => ⟨cycK_pos hip (Nat.le_refl _) x hx, by have := cycK_le hip hx; omega⟩
 have hpa := fun (x : List Int) (hx : x ∈ cycK (permM m) (permM m).length) (i : Nat) (hi : i < x.length) => path_at hip hx hi
 have hne := fun (s : Int) (h0 : 0 ≤ s) (h1 : s < N) => (show atD 0 (permM m) s ≠ s by rw [permM_at h0 (by omega)]; exact next_ne h0 (by omega))
 have hnd := (cycK_ok hip (permM m).length (Nat.le_refl _)).1
 have hsum := cyc_all_len hip
 have hdv := fun (x : List Int) (hx : x ∈ cycK (permM m) (permM m).length) => path_dvd hx
 have CDV := fun (x : List Int) (hx : x ∈ cycK (permM m) (permM m).length) w => (show Calls Tryz.prog 15 #[.string (itoaB (periodN (permM m))), .string (itoaB (x.length : Int))] w fun e w' => e = .returned (.string (itoaB ((periodN (permM m) / x.length : Nat)))) ∧ Below w.heap.size w w' by
  have h := rDiv_any (periodN (permM m)) x.length w (by omega) (by have := hpos x hx; omega) (hpos x hx).1
  have hg : Nat.gcd (periodN (permM m)) x.length = x.length := Nat.gcd_eq_right (hdv x hx)
  rw [hg, Nat.div_self (hpos x hx).1, textQ_one] at h
  exact h)
 have CIW := fun (x : List Int) (hx : x ∈ cycK (permM m) (permM m).length) w => rIsWhole_any (periodN (permM m) / x.length) w (Nat.lt_of_le_of_lt (Nat.div_le_self _ _) (by omega))
 have hg1b : (m.gears == 1) = false := by simp; omega
 have hg1n : ¬ m.gears = 1 := by omega
 have hg2n : ¬ m.gears < 2 := by omega
 have hg2b : decide (m.gears < 2) = false := decide_eq_false hg2n
 obtain ⟨r1, hr1⟩ : ∃ r, r = at_.tmod (m.gears - 1) := ⟨_, rfl⟩
 obtain ⟨b1, b2⟩ := tmod_bd (a := at_) (b := m.gears - 1) (by omega)
 rw [← hr1] at b1 b2
 obtain ⟨r2, hr2⟩ : ∃ r, r = (r1 + m.gears - 1).tmod (m.gears - 1) := ⟨_, rfl⟩
 have b3 : 0 ≤ r2 ∧ r2 < m.gears - 1 := by
  rw [hr2, Int.tmod_eq_emod_of_nonneg (by omega)]
  exact ⟨Int.emod_nonneg _ (by omega), Int.emod_lt_of_pos _ (by omega)⟩
 have x1 : at_.tmod (m.gears - 1) = r1 := hr1.symm
 have x2 : (r1 + m.gears - 1).tmod (m.gears - 1) = r2 := hr2.symm
 have y1 : IntKind.i64.wrap (m.gears - 1) = m.gears - 1 := IntWalk.i64_in _ (by omega)
 have y2 : IntKind.i64.wrap r1 = r1 := IntWalk.i64_in _ (by omega)
 have y3 : IntKind.i64.wrap (r1 + m.gears) = r1 + m.gears := IntWalk.i64_in _ (by omega)
 have y4 : IntKind.i64.wrap (r1 + m.gears - 1) = r1 + m.gears - 1 := IntWalk.i64_in _ (by omega)
 have y5 : IntKind.i64.wrap r2 = r2 := IntWalk.i64_in _ (by omega)
 have hPd : placeC m at_ = 1 + r2 := by unfold placeC; rw [← hr1, ← hr2]
 obtain ⟨P, hP⟩ : ∃ P, P = placeC m at_ := ⟨_, rfl⟩
 rw [← hP] at hp hPd
 have y6 : IntKind.i64.wrap (1 + r2) = P := by rw [hPd]; exact IntWalk.i64_in _ (by omega)
 have z1 : ¬ m.gears - 1 = 0 := by omega
 have hsh : sharedM m P = true := shared_iff.2 ⟨by omega, by omega, .inr (by omega)⟩
 have hbc0 : m.sw = [] → (cycK (permM m) (permM m).length).length = 2 := fun h => by rw [bare_cyc hok h, hring]; rfl
 have hwp := less_paths hm hsh hp
 obtain ⟨OL, hOL⟩ : ∃ O, O = lessS m.sw P := ⟨_, rfl⟩
 have hgn : decide (P ∈ m.sw) = true := decide_eq_true hp
 have hsl0 : ((m.sw.length : Int) == 0) = false := beq_eq_false_iff_ne.2 (by have := List.length_pos_iff.2 (List.ne_nil_of_mem hp); omega)
 have HSL := hid hsl0
 rw [← hOL] at hwp
 have hrr : (withS m OL).ring = true := hring
 obtain ⟨hm2, hct⟩ := hwp
 obtain ⟨C2, hC2⟩ : ∃ C, C = cycK (permM (withS m OL)) (permM (withS m OL)).length := ⟨_, rfl⟩
 rw [← hC2] at hct
 have hc2n : C2.length ≤ 64 := by rw [hC2]; have h3 := cycK_len (permM (withS m OL)) (permM (withS m OL)).length; have h4 : (permM (withS m OL)).length = N := by { rw [permM_len]; show (4 * m.gears).toNat = N; omega }; omega
 have CPO := fun (a : Option Addr) (c : Nat) w (hh : Ints w a c OL) => mPaths_any (withS m OL) a c w hh (fun w h => CheckMachine_any (withS m OL) a c w h hI)
 rw [if_pos hm2, hm2, ← hC2] at CPO
 have HPO : Hid (∀ (a : Option Addr) (c : Nat) w, Ints w a c OL → Calls Tryz.prog 10 #[.agg #[.bool true, .int .i64 m.gears, .int .i64 m.turn, .slice a OL.length c]] w fun r w' => ∃ (v : Value) (qs : List (SlH × List Int)), r = .returned (.tuple #[v, .int .i64 0]) ∧ qs.map Prod.snd = C2 ∧ SL w.heap.size w w' (pOwn cSl 1 22 v (qs.map Prod.fst) :: qs.map inP)) := hid fun a c w h => by
  have := CPO a c w h
  rw [show mV (withS m OL) a c = .agg #[.bool true, .int .i64 m.gears, .int .i64 m.turn, .slice a OL.length c] by show Value.agg #[.bool (withS m OL).ring, _, _, _] = _; rw [hrr]; rfl] at this
  exact this
 rw [hOL] at HPO
 obtain ⟨PE, hPE⟩ : ∃ P, P = periodN (permM m) := ⟨_, rfl⟩
 rw [← hPE] at CN CCK
 simp only [← hPE] at CDV CIW
 obtain ⟨Cy, hCy⟩ : ∃ Cy, Cy = cycK (permM m) (permM m).length := ⟨_, rfl⟩
 rw [← hCy] at CC hcl hcn hnd hsum hct hbc0
 simp only [← hCy] at hpos hpa CDV CIW
 obtain ⟨PM, hPM⟩ : ∃ P, P = permM m := ⟨_, rfl⟩
 rw [← hPM] at CP CCP hpl hsum
 simp only [← hPM] at hpa hne
 rw [hpl] at hsum
 simp only [hpl] at hpa
 obtain ⟨Z, hZ⟩ : ∃ Z, Z = itoaB (PE : Int) := ⟨_, rfl⟩
 rw [← hZ] at CN CCK
 simp only [← hZ] at CDV
 have hpn : ((PM.length : Int) != (N : Int)) = false := by rw [hpl]; simp
 have hslC : True := trivial
 have HCT := hid hct; have HGN := hid hgn; have HRG := hid hring; have HSLC := hid hslC
 clear hct hgn hring hslC hbc0 hp hm2 hrr hsh hP hPd hr1 hr2 b1 b2 b3 hok hm CPO hOL hC2 hsl0
 have HM := hid CM; have HP := hid CP; have HC := hid CC; have HN := hid CN; have HCP := hid CCP; have HCK := hid CCK; have HCL := hid hcl; have HPOS := hid hpos; have HPA := hid hpa; have HNE := hid hne; have HND := hid hnd; have HSUM := hid hsum; have HDV := hid CDV; have HIW := hid CIW; have HPL := hid hpl
 clear CM CP CC CN CCP CCK hcl hpos hpa hne hnd hsum CDV CIW hdv hZ hPE hCy hPM hper hps hpp0 hip KM hpl
 go_enter Tryz.func3, Tryz.ntmps3
 go_wp2_with fail
 refine (HA.out _ (hw.below hS0.b)).mono ?_
 rintro e w1 ⟨rfl, b1⟩
 have hS1 := hS0.mono b1
 have q1_rm := (hS1.blk 0 rfl).1
 have q1_m := (hS1.blk 1 rfl).1
 clear hS0
 go_wp2_with (with_reducible refine wpList_ldS (n := 4) (us := mC m ad cap) A_rmach kR wU wU (by assumption) wU wU ?_)
 refine (HSh.out _).mono ?_
 rintro e w2 ⟨rfl, b2⟩
 have hS2 := hS1.mono b2
 have q2_rm := (hS2.blk 0 rfl).1
 have q2_m := (hS2.blk 1 rfl).1
 clear hS1 q1_rm q1_m
 go_wp2_with (with_reducible refine wpList_ldS (n := 4) (us := mC m ad cap) A_rmach kR wU wU (by assumption) wU wU ?_)
 refine (HM.out _ (hR.below hS2.b)).mono ?_
 rintro e w3 ⟨rfl, b3⟩
 have hS3 := hS2.mono b3
 have q3_rm := (hS3.blk 0 rfl).1
 have q3_m := (hS3.blk 1 rfl).1
 clear hS2 q2_rm q2_m
 go_wp2_with (first | (with_reducible refine wpList_ldB (by first | exact F_boolM | exact F_int | exact F_sliceM) wU wU (by assumption) wU ?_) | (with_reducible refine wpList_ldS (n := 4) (us := mC m ad cap) A_mach kR wU wU (by assumption) wU wU ?_))
 refine (HP.out _ (hR.below hS3.b)).mono ?_
 rintro e w4 ⟨v4, rfl, ho4, b4⟩
 have hS4 := hS3.call (SL.ofOwn ho4 b4)
 simp only [List.cons_append, List.nil_append] at hS4
 have q4_rm := (hS4.blk 1 rfl).1
 have q4_m := (hS4.blk 2 rfl).1
 clear hS3 q3_rm q3_m
 clear ho4 b4
 obtain ⟨aP, cP, rfl, _⟩ := hS4.slice 0 rfl
 go_wp2_with (with_reducible refine wpList_ldS (n := 4) (us := mC m ad cap) A_mach kR wU wU (by assumption) wU wU ?_)
 refine (HC.out _ (hR.below hS4.b)).mono ?_
 rintro e w5 ⟨v5, qs, rfl, hqs, hSq⟩
 obtain ⟨a6, c6, rfl, r6, l6⟩ := leads_of hSq (by rw [hqs]; exact HCL.out)
 rw [hqs] at l6
 have hS5 := hS4.mono hSq.b
 have q5_rm := (hS5.blk 1 rfl).1
 have q5_m := (hS5.blk 2 rfl).1
 clear hS4 q4_rm q4_m
 have hql : qs.length = Cy.length := by rw [← hqs, List.length_map]
 obtain ⟨QL, hQL⟩ : ∃ QL, QL = qs.map Prod.fst := ⟨_, rfl⟩
 have hqll : QL.length = Cy.length := by rw [hQL, List.length_map]; exact hql
 rw [← hQL] at r6 l6
 rw [hql]
 have HQL := hid hqll
 clear hqs hSq hql hQL hqll
 go_wp2_with (with_reducible refine wpList_ldS (n := 4) (us := mC m ad cap) A_mach kR wU wU (by assumption) wU wU ?_)
 refine (HN.out _ (hR.below hS5.b) (hw.below hS5.b)).mono ?_
 rintro e w6 ⟨rfl, b6⟩
 have hS6 := hS5.mono b6
 have q6_rm := (hS6.blk 1 rfl).1
 have q6_m := (hS6.blk 2 rfl).1
 clear hS5 q5_rm q5_m
 replace r6 := r6.below b6
 replace l6 := l6.below b6
 go_wp2_with fail
 refine (HCP.out aP cP _ (hS6.rd 0 rfl)).mono ?_
 rintro e w7 ⟨rfl, b7⟩
 have hS7 := hS6.mono b7
 have q7_rm := (hS7.blk 1 rfl).1
 have q7_m := (hS7.blk 2 rfl).1
 clear hS6 q6_rm q6_m
 replace r6 := r6.below b7
 replace l6 := l6.below b7
 go_wp2_with fail
 refine (HCK.out _).mono ?_
 rintro e w8 ⟨rfl, b8⟩
 have hS8 := hS7.mono b8
 have q8_rm := (hS8.blk 1 rfl).1
 have q8_m := (hS8.blk 2 rfl).1
 clear hS7 q7_rm q7_m
 replace r6 := r6.below b8
 replace l6 := l6.below b8
 have hPz := (hS8.rd 0 rfl)
 have hbz := hS8.b
 have qmz := q8_m
 obtain ⟨wz, hwz⟩ : ∃ wz, wz = w8 := ⟨_, rfl⟩
 rw [← hwz] at hPz hbz qmz r6 l6 ⊢
 clear hS8 q8_rm q8_m hwz
 have hltz : w.heap.size < wz.heap.size := (Array.getElem?_eq_some_iff.1 qmz).1
 have hSz := SL.nil wz
 go_wp2_with ((with_reducible refine wpList_makeL (c := cBool) (N) (false) E_bools cBool1 wU wU (by omega) (by omega) (hSz) ?_); intro aS w1 hS1)
 go_loopw [88, 16, 94, 17, 18, 14] (fun jv _ _ _ _ tv wr => ∃ (j tj : Nat) (SB : List Bool), j ≤ Cy.length ∧ jv = .int .i64 j ∧ tv = .int .i64 tj ∧ tj = ((Cy.take j).map List.length).sum ∧ SB.length = N ∧ (∀ x : Int, 0 ≤ x → x < N → atD false SB x = decide (x ∈ (Cy.take j).flatten)) ∧ SL wz.heap.size wz wr [pOwn cBool 1 4 (.slice aS N N) SB]) (fun jv _ _ _ _ _ _ => Cy.length - (intOf jv).toNat)
 case atStart =>
  refine ⟨0, 0, List.replicate N false, by omega, rfl, rfl, by simp, by simp, fun x h0 h1 => ?_, hS1⟩
  have : x.toNat < N := by omega
  simp [atD, this]
 case round =>
  clear hS1
  obtain ⟨j, tt, SB, hj, rfl, rfl, htt, hsb, hsn, hSr⟩ := hrel
  have HTT := hid htt
  clear htt
  have HSB := hid hsb; have HSN := hid hsn
  clear hsb hsn
  by_cases hlt : j < Cy.length
  ·obtain ⟨xa, xc, hx1, hx2, -⟩ := l6 j hlt
   have hptc : Cy[j] = atD [] Cy j := by simp [atD, hlt]
   have hmem : atD [] Cy j ∈ Cy := by rw [← hptc]; exact List.getElem_mem hlt
   have hpos := HPOS.out _ hmem
   have hpa := HPA.out _ hmem
   have hfn := fun (i : Nat) (hi : i < Cy[j].length) => flat_new HND.out hlt hi
   have hft := flat_take hlt
   have CDV := HDV.out _ hmem
   have CIW := HIW.out _ hmem
   have hms : ((Cy.take (j + 1)).map List.length).sum = ((Cy.take j).map List.length).sum + (atD [] Cy j).length := by
    rw [← hptc, List.take_succ_eq_append_getElem hlt, List.map_append, List.sum_append]; simp
   have hle : ((Cy.take (j + 1)).map List.length).sum ≤ 64 := by
    have h1 : ((Cy.take (j + 1)).map List.length).sum ≤ (Cy.map List.length).sum := by
     conv => rhs; rw [← List.take_append_drop (j + 1) Cy]
     rw [List.map_append, List.sum_append]; omega
    rw [HSUM.out] at h1; omega
   simp only [hptc] at hfn hft
   obtain ⟨PT, hPT⟩ : ∃ P, P = atD [] Cy j := ⟨_, rfl⟩
   rw [← hPT] at hx1 hx2 hpos hft CDV CIW hms
   simp only [← hPT] at hpa hfn
   have hx1k : (j : Int) < QL.length := by rw [HQL.out]; omega
   have r6r := r6.below hSr.b
   have HX1 := hid hx1; have HPA2 := hid hpa; have HFN := hid hfn; have HFT := hid hft; have HDV2 := hid CDV; have HIW2 := hid CIW; have HMS := hid hms
   obtain ⟨d, hd⟩ : ∃ d, d = PT.length := ⟨_, rfl⟩
   have hd0 : 0 < d := by rw [hd]; exact hpos.1
   have hd64 : d ≤ 64 := by rw [hd]; exact hpos.2
   have HD := hid hd.symm
   have CFI := fun w => rFromInt_any d w (by omega)
   have HFI := hid CFI
   clear hx1 hpa hfn hft CDV CIW hms hPT hptc hmem hpos hd CFI
   go_wp2_with ((with_reducible refine wpList_idxN _ ((none, 0, 0) : SlH) E_sls F_sl cSl1 wU wU (r6r) (HQL.out) oD oD (fun _ => wU) (fun _ => ?_)); rw [HX1.out, HD.out]; simp only [cSl])
   go_loopw [94, 17, 18] (fun iv _ _ wq => ∃ (i : Nat) (SC : List Bool), i ≤ d ∧ iv = .int .i64 i ∧ SC.length = N ∧ (∀ x : Int, 0 ≤ x → x < N → atD false SC x = decide (x ∈ (Cy.take j).flatten ++ PT.take i)) ∧ SL wz.heap.size wz wq [pOwn cBool 1 4 (.slice aS N N) SC]) (fun iv _ _ _ => d - (intOf iv).toNat)
   case atStart => exact ⟨0, SB, by omega, rfl, HSB.out, by rw [List.take_zero, List.append_nil]; exact HSN.out, hSr⟩
   case round =>
    clear hSr r6r
    obtain ⟨i, SC, hi, rfl, hsc, hsm, hSq⟩ := hrel
    have HSC := hid hsc; have HSM := hid hsm
    clear hsc hsm
    have hPT := hx2.below hSq.b
    have hPr := hPz.below hSq.b
    have hRB := hSq.rd 0 rfl
    by_cases hid_ : i < d
    ·have hiP : i < PT.length := by rw [HD.out]; exact hid_
     obtain ⟨⟨x0, x1⟩, hpx⟩ := HPA2.out i hiP
     have hnew := HFN.out i hiP
     have hne := HNE.out _ x0 x1
     have hsm := HSM.out _ x0 x1
     rw [decide_eq_false hnew] at hsm
     have htk := take_snoc hiP
     rw [HD.out] at hpx
     obtain ⟨X, hX⟩ : ∃ X, X = atD 0 PT i := ⟨_, rfl⟩
     obtain ⟨r, hr⟩ : ∃ r, r = (i + 1) % d := ⟨_, rfl⟩
     rw [← hX] at x0 x1 hpx hne hsm htk
     rw [← hr] at hpx
     have hrl : r < d := by rw [hr]; exact Nat.mod_lt _ hd0
     have hrP : (r : Int) < PT.length := by rw [HD.out]; omega
     have htm : ((i : Int) + 1).tmod (d : Int) = (r : Int) := by
      rw [Int.tmod_eq_emod_of_nonneg (by omega), hr]
      first | exact (Int.natCast_emod _ _).symm | exact (Int.natCast_mod _ _).symm | simp
     have hw1 : IntKind.i64.wrap ((i : Int) + 1) = (i : Int) + 1 := IntWalk.i64_in _ (by omega)
     have hw2 : IntKind.i64.wrap (r : Int) = (r : Int) := IntWalk.i64_in _ (by omega)
     have hdz : ¬ (d : Int) = 0 := by omega
     have hdz2 : ¬ d = 0 := by omega
     obtain ⟨Y, hY⟩ : ∃ Y, Y = atD 0 PT r := ⟨_, rfl⟩
     rw [← hY] at hpx
     rw [hpx] at hne
     have hyx : (Y == X) = false := by simpa using hne
     have hx0 : ¬ X < 0 := by omega
     have hxN : ¬ (N : Int) ≤ X := by omega
     have hdx : decide (X < 0) = false := decide_eq_false hx0
     have hdN : decide ((N : Int) ≤ X) = false := decide_eq_false hxN
     have hXP : X < PM.length := by rw [HPL.out]; exact x1
     have hXS : X < SC.length := by rw [HSC.out]; exact x1
     have hiPz : (i : Int) < PT.length := by omega
     have HX := hid hX; have HY := hid hY; have HPX := hid hpx; have HAT := hid hsm; have HTK := hid htk
     clear hX hY hpx hsm htk hne hnew hr
     go_wp2_with ((first | (with_reducible refine wpList_idx _ 0 E_ints F_int cInt1 wU wU (hPT) oD oD (fun _ => wU) (fun _ => ?_)) | (with_reducible refine wpList_idxN _ 0 E_ints F_int cInt1 wU wU (hPT) (HD.out) oD oD (fun _ => wU) (fun _ => ?_))); rw [← HX.out])
     refine wp_region_q kR kR ?_
     repeat (first | (((with_reducible refine wpB_idxW false E_bools F_bool cBool1 wU (HSC.out) wU (hRB) oD oD (fun _ => wU) wU (fun _ => wU) (fun _ => ?_)); (try simp only [Act.put, pA, pB, pC]); (try simp only [cInt])); rw [HAT.out]) | (((with_reducible refine wpB_idxW 0 E_ints F_int cInt1 wU (rfl) wU (hPr) oD oD (fun _ => wU) wU (fun _ => wU) (fun _ => ?_)); (try simp only [Act.put, pA, pB, pC]); (try simp only [cInt])); rw [HPX.out]) | (((with_reducible refine wpB_idxW 0 E_ints F_int cInt1 wU (HD.out) wU (hPT) oD oD (fun _ => wU) wU (fun _ => wU) (fun _ => ?_)); (try simp only [Act.put, pA, pB, pC]); (try simp only [cInt])); rw [← HY.out]) | (((refine wpQ_oneG ?_ wU (fun w' => ?_) ?_); rotate_left; (go_simp; rfl); (try simp only [Act.put, pA, pB, pC])); first | rw [hdx] | rw [hdN] | rw [hyx] | skip) |  ((with_reducible refine wpB_load (by first | exact F_int | exact F_u64s) wU wU (by assumption) wU ?_); (try simp only [Act.put, pA, pB, pC])) | ((refine wpQ_oneG ?_ wU (fun w' => ?_) ?_); rotate_left; (go_simp; rfl); (try simp only [Act.put, pA, pB, pC])))
     refine wpQuiet_nil ?_
     intro w5 hb5
     have hS5 := hSq.mono hb5
     go_wp2_with ((with_reducible refine wpList_storeL (u := true) 0 E_bools cBool1 (sto_bool) wU wU (hS5) wU (by first | omega | (simp; done) | (simp; omega)) (by first | omega | (simp; done) | (simp; omega)) (fun _ => wU) (fun _ => wU) ?_); intro _ w6 hS6)
     refine ⟨⟨i + 1, SC.set X.toNat true, by omega, by go_num, by rw [List.length_set]; exact HSC.out, fun x h0 h1 => ?_, hS6⟩, by simp [intOf]; omega⟩
     rw [atB_set x0 hXS h0, HTK.out]
     by_cases e : x = X
     ·rw [if_pos e, decide_eq_true (List.mem_append_right _ (List.mem_append_right _ (by simp [e])))]
     ·rw [if_neg e, HSM.out x h0 h1]
      congr 1
      simp [e]
    ·have hie : i = d := by omega
     have htk : PT.take i = PT := List.take_of_length_le (by rw [HD.out]; omega)
     subst hie
     have hmt : ((Cy.take (j + 1)).map List.length).sum = tt + i := by rw [HMS.out, HD.out, HTT.out]
     have hwt : IntKind.i64.wrap ((tt : Int) + (i : Int)) = ((tt + i : Nat) : Int) := by
      rw [IntWalk.i64_in _ (by omega)]; omega
     have HTK := hid htk
     have hdz : ((i : Int) == 0) = false := beq_eq_false_iff_ne.2 (by omega)
     have CDV := HDV2.out
     have CIW := HIW2.out
     rw [HD.out] at CDV CIW
     have HDV3 := hid CDV; have HIW3 := hid CIW
     have HMT := hid hmt.symm
     clear htk CDV CIW hmt
     go_wp2_with fail
     refine (HFI.out _).mono ?_
     rintro e w5 ⟨rfl, b5⟩
     go_wp2_with fail
     refine (HDV3.out _).mono ?_
     rintro e w6 ⟨rfl, b6⟩
     go_wp2_with fail
     refine (HIW3.out _).mono ?_
     rintro e w7 ⟨rfl, b7⟩
     have hS7 := ((hSq.mono b5).mono b6).mono b7
     go_wp2_with fail
     refine ⟨⟨j + 1, tt + i, SC, by omega, by go_num, rfl, HMT.out, HSC.out, fun x h0 h1 => ?_, hS7⟩, by simp [intOf]; omega⟩
     rw [HSM.out x h0 h1, HTK.out, HFT.out]
  ·have hje : j = Cy.length := by omega
   subst hje
   have htt := HTT.out
   rw [List.take_length, HSUM.out] at htt
   subst htt
   have hb1 := bnext hbz hSr.b
   have q1 := (hSr.b.block _ hltz).trans qmz
   obtain ⟨we, rfl⟩ : ∃ we, we = wr := ⟨_, rfl⟩
   clear hSr hPz r6 l6 hbz qmz hltz HSB HSN
   have q2 : we.heap[w.heap.size]? = some (.cells #[.bool true, .int .i64 m.gears, .int .i64 m.turn, .slice ad m.sw.length cap] 24) := by rw [q1]; show some (Obj.cells #[.bool m.ring, _, _, _] _) = _; rw [HRG.out]
   clear q1
   have hlte : w.heap.size < we.heap.size := (Array.getElem?_eq_some_iff.1 q2).1
   have h0 := HSL.out
   all_goals
    go_wp2_with (with_reducible refine wpList_ldB (by first | exact F_boolM | exact F_int | exact F_sliceM) wU wU (by assumption) wU ?_)
    refine wp_region_q kR kR ?_
    repeat (first | ((with_reducible refine wpB_load F_int wU wU (by assumption) wU ?_); (try simp only [Act.put, pA, pB, pC])) |  ((with_reducible refine wpB_load (by first | exact F_int | exact F_u64s) wU wU (by assumption) wU ?_); (try simp only [Act.put, pA, pB, pC])) | ((refine wpQ_oneG ?_ wU (fun w' => ?_) ?_); rotate_left; (go_simp; rfl); (try simp only [Act.put, pA, pB, pC])))
    refine wpQuiet_nil ?_
    intro w5 hb5
    have q3 := (hb5.block _ hlte).trans q2
    have hlt5 : w.heap.size < w5.heap.size := (Array.getElem?_eq_some_iff.1 q3).1
    have hB := (SL.nil w5).box (.cells #[.bool true, .int .i64 m.gears, .int .i64 m.turn, .slice none 0 0] 24)
    have q4 := (hB.b.block _ hlt5).trans q3
    have hR5 := hR.below (bnext hb1 hb5)
    obtain ⟨b20, hb20⟩ : ∃ b, b = w5.heap.size := ⟨_, rfl⟩
    have hS3 := (hB.nilS (α := Int) (c := cInt) (sz := 1) (e := 3) cIntS).pick [1, 0] (by decide) [pBlk b20 (.cells #[.bool true, .int .i64 m.gears, .int .i64 m.turn, .slice none 0 0] 24), pOwn cInt 1 3 (.slice none 0 0) []] (by rw [hb20]; rfl)
    go_wp2_with (with_reducible refine wpList_ldB (by first | exact F_boolM | exact F_int | exact F_sliceM) wU wU (by assumption) wU ?_)
    rw [← hb20]
    clear hb20 q4
    go_loopw [220, 23, 21] (fun kv _ gv wr => ∃ (k : Nat) (sv : Value), k ≤ m.sw.length ∧ kv = .int .i64 k ∧ gv = .bool (decide (P ∈ m.sw.take k)) ∧ SL w5.heap.size w5 wr [pBlk b20 (.cells #[.bool true, .int .i64 m.gears, .int .i64 m.turn, sv] 24), pOwn cInt 1 3 sv (lessS (m.sw.take k) P)]) (fun kv _ _ _ => m.sw.length - (intOf kv).toNat)
    case atStart => exact ⟨0, .slice none 0 0, by omega, rfl, by simp, hS3⟩
    case round =>
     clear hS3 hB
     obtain ⟨k, sv, hk, rfl, rfl, hSr⟩ := hrel
     have hRr := hR5.below hSr.b
     by_cases hlt : k < m.sw.length
     ·have hls := lessS_step (p := P) hlt
      have hth := take_has (s := P) hlt
      have hll : (lessS (m.sw.take k) P).length ≤ 64 := by
       unfold lessS
       refine Nat.le_trans (List.length_filter_le _ _) ?_
       rw [List.length_take]; omega
      obtain ⟨X, hX⟩ : ∃ X, X = atD 0 m.sw k := ⟨_, rfl⟩
      rw [← hX] at hls hth
      have HX := hid hX
      clear hX
      by_cases hxp : X = P
      ·have hxb : (X == P) = true := by simp [hxp]
       rw [hxb, Bool.or_true] at hth
       rw [if_pos hxp, List.append_nil] at hls
       have HLS := hid hls; have HTH := hid hth
       clear hls hth hxp
       go_wp2_with ((with_reducible refine wpList_idx _ 0 E_ints F_int cInt1 wU wU (hRr) oD oD (fun _ => wU) (fun _ => ?_)); rw [← HX.out])
       exact ⟨⟨k + 1, sv, by omega, by go_num, by rw [HTH.out], by rw [HLS.out]; exact hSr⟩, by simp [intOf]; omega⟩
      ·have hxb : (X == P) = false := by simp [hxp]
       rw [hxb, Bool.or_false] at hth
       rw [if_neg hxp] at hls
       have HLS := hid hls; have HTH := hid hth
       clear hls hth hxp
       obtain ⟨av, cv, rfl, _⟩ := hSr.slice 1 rfl
       have q5 := (hSr.blk 0 rfl).1
       go_wp2_with (first | ((with_reducible refine wpList_idx _ 0 E_ints F_int cInt1 wU wU (hRr) oD oD (fun _ => wU) (fun _ => ?_)); rw [← HX.out]) | (with_reducible refine wpList_ldB F_sliceM wU wU q5 wU ?_) | (((with_reducible refine wpList_pushL (y := X) 1 E_ints wU wU (hSr) wU cIntO ⟨rfl, rfl⟩ (by first | with_unfolding_all rfl | simp) wU (by first | omega | (simp; omega)) (by first | omega | (simp; omega)) ?_); intro v6 w6 hS6); obtain ⟨a6b, c6b, rfl, _⟩ := hS6.slice 1 rfl) | ((with_reducible refine wpList_stoF 0 wU wU hS6 rfl rfl ?_); intro w7 hS7))
       simp only [List.set_cons_zero, List.set_cons_succ, List.setIfInBounds_toArray] at hS7
       have eL : (lessS (m.sw.take k) P ++ [X]).length = (lessS (m.sw.take k) P).length + 1 := by simp
       simp only [eL] at hS7
       exact ⟨⟨k + 1, .slice a6b ((lessS (m.sw.take k) P).length + 1) c6b, by omega, by go_num, by rw [HTH.out], by rw [HLS.out]; exact hS7⟩, by simp [intOf]; omega⟩
     ·have hke : k = m.sw.length := by omega
      subst hke
      rw [List.take_length, HGN.out]
      rw [List.take_length] at hSr
      obtain ⟨av, cv, rfl, hvR⟩ := hSr.slice 1 rfl
      have q9 : wr.heap[b20]? = some (.cells #[.bool true, .int .i64 m.gears, .int .i64 m.turn, .slice av (lessS m.sw P).length cv] 24) := (hSr.blk 0 rfl).1
      go_wp2_with (with_reducible refine wpList_ldS (n := 4) (us := #[.bool true, .int .i64 m.gears, .int .i64 m.turn, .slice av (lessS m.sw P).length cv]) A_mach kR wU wU (by assumption) wU wU ?_)
      refine (HPO.out _ _ _ (hSr.rd 1 rfl)).mono ?_
      rintro e w9 ⟨v9, qs, rfl, hqs, hSq⟩
      obtain ⟨a9, c9, rfl, _⟩ := hSq.slice 0 rfl
      have hl2 : (qs.map Prod.fst).length = C2.length := by rw [← hqs, List.length_map, List.length_map]
      rw [hl2]
      have hb9 := bnext (bnext hb1 (bnext hb5 hSr.b)) hSq.b
      clear hqs hSq hl2 q9
      have v1 : IntKind.i64.wrap ((Cy.length : Int) + 1) = (Cy.length : Int) + 1 := IntWalk.i64_in _ (by omega)
      have v2 : IntKind.i64.wrap ((Cy.length : Int) - 1) = (Cy.length : Int) - 1 := IntWalk.i64_in _ (by omega)
      rcases HCT.out with hct | hct
      ·have u1 : ((C2.length : Int) == (Cy.length : Int) + 1) = true := by simp; omega
       clear hct
       go_wp2_with fail
       go_ret
       exact ⟨rfl, hb9⟩
      ·have u1 : ((C2.length : Int) == (Cy.length : Int) + 1) = false := beq_eq_false_iff_ne.2 (by omega)
       have u2 : ((C2.length : Int) == (Cy.length : Int) - 1) = true := beq_iff_eq.2 (by omega)
       clear hct
       go_wp2_with fail
       go_ret
       exact ⟨rfl, hb9⟩
end Go.Proofs.YtndmeaoidihikaaGreatDoor

namespace Go.Proofs.YtndmeaoidihikaaGreatDoor
open Go.RowKit
set_option maxHeartbeats 8000000
set_option maxRecDepth 100000
theorem my_gone_row (m : MacV) (ad : Option Addr) (cap : Nat) (at_ : Int) (w : World) (hR : Ints w ad cap m.sw) (hI : InI m.gears) (hat : InI at_) (hw : LibW w) (hsb : (decide (m.sw.length ≤ 19) && decide (0 ≤ 67)) = true) (hm : macE m = 0) (hg2 : 2 ≤ m.gears) (hring : m.ring = false) (hp : placeC m at_ ∈ m.sw) :
  Calls Tryz.prog 3 #[mV m ad cap, .int .i64 at_] w fun r w' => r = .returned (.bool true) ∧ Below w.heap.size w w' := by
 have hS0 := ((SL.nil w).box (.cells (mC m ad cap) 24)).box (.cells (mC m ad cap) 25)
 simp only [World.size_alloc] at hS0
 have HA := hid awake4_any
 have CSh := fun w => rShort_any m ad cap none 0 0 w
 rw [hsb] at CSh
 have HSh := hid CSh
 clear CSh hsb
 have hok := (macE_zero hm).1
 have hlo := hok.lo
 have hhi := hok.hi
 have hsl := hok.many
 obtain ⟨N, hN⟩ : ∃ N : Nat, 4 * m.gears = N := ⟨(4 * m.gears).toNat, by omega⟩
 have hN64 : N ≤ 64 := by omega
 have hN0 : 0 < N := by omega
 have hpl : (permM m).length = N := by rw [permM_len]; omega
 have hip := permM_isP m
 have hwN : IntKind.i64.wrap (4 * m.gears) = (N : Int) := by rw [hN]; exact IntWalk.i64_in _ (by omega)
 have hps := period_small hip (by omega)
 have hpp0 := period_pos hip
 have KM : ∀ (a : Option Addr) (c : Nat), ChkM m a c := fun a c w h => CheckMachine_any m a c w h hI
 have CM := fun w h => rCheckMachine_any m ad cap w h
 have CP := fun w h => mPerm_any m ad cap w h (KM _ _)
 have CC := fun w h => mPaths_any m ad cap w h (KM _ _)
 have CN := fun w h (hw : LibW w) => mPeriod_any m ad cap w h (KM _ _) (fun w' hb => itoaOk_tab (hw.tab.below hb) _ (by omega) (by omega))
 have hper : perS (permM m) = itoaB (periodN (permM m)) := by unfold perS; rw [if_pos (permE_ok hip (by omega))]
 rw [if_pos hm] at CP CC CN
 rw [hper] at CN
 rw [hm] at CM CP CC CN
 have CCP := fun a c w h => rCheckPerm_any a c (permM m) w h hip (by omega)
 have CCK := fun w => rCheck_any (periodN (permM m)) w hpp0 (by omega)
 have hcl : ∀ x ∈ cycK (permM m) (permM m).length, x.length ≤ 1048576 := fun x hx => by have := cycK_le hip hx; omega
 have hcn : (cycK (permM m) (permM m).length).length ≤ 64 := by have := cycK_len (permM m) (permM m).length; omega
 have hpos : ∀ x ∈ cycK (permM m) (permM m).length, 0 < x.length ∧ x.length ≤ 64 := fun x hx => ⟨cycK_pos hip (Nat.le_refl _) x hx, by have := cycK_le hip hx; omega⟩
 have hpa := fun (x : List Int) (hx : x ∈ cycK (permM m) (permM m).length) (i : Nat) (hi : i < x.length) => path_at hip hx hi
 have hne := fun (s : Int) (h0 : 0 ≤ s) (h1 : s < N) => (show atD 0 (permM m) s ≠ s by rw [permM_at h0 (by omega)]; exact next_ne h0 (by omega))
 have hnd := (cycK_ok hip (permM m).length (Nat.le_refl _)).1
 have hsum := cyc_all_len hip
 have hdv := fun (x : List Int) (hx : x ∈ cycK (permM m) (permM m).length) => path_dvd hx
 have CDV := fun (x : List Int) (hx : x ∈ cycK (permM m) (permM m).length) w => (show Calls Tryz.prog 15 #[.string (itoaB (periodN (permM m))), .string (itoaB (x.length : Int))] w fun e w' => e = .returned (.string (itoaB ((periodN (permM m) / x.length : Nat)))) ∧ Below w.heap.size w w' by
  have h := rDiv_any (periodN (permM m)) x.length w (by omega) (by have := hpos x hx; omega) (hpos x hx).1
  have hg : Nat.gcd (periodN (permM m)) x.length = x.length := Nat.gcd_eq_right (hdv x hx)
  rw [hg, Nat.div_self (hpos x hx).1, textQ_one] at h
  exact h)
 have CIW := fun (x : List Int) (hx : x ∈ cycK (permM m) (permM m).length) w => rIsWhole_any (periodN (permM m) / x.length) w (Nat.lt_of_le_of_lt (Nat.div_le_self _ _) (by omega))
 have hg1b : (m.gears == 1) = false := by simp; omega
 have hg1n : ¬ m.gears = 1 := by omega
 have hg2n : ¬ m.gears < 2 := by omega
 have hg2b : decide (m.gears < 2) = false := decide_eq_false hg2n
 obtain ⟨r1, hr1⟩ : ∃ r, r = at_.tmod (m.gears - 1) := ⟨_, rfl⟩
 obtain ⟨b1, b2⟩ := tmod_bd (a := at_) (b := m.gears - 1) (by omega)
 rw [← hr1] at b1 b2
 obtain ⟨r2, hr2⟩ : ∃ r, r = (r1 + m.gears - 1).tmod (m.gears - 1) := ⟨_, rfl⟩
 have b3 : 0 ≤ r2 ∧ r2 < m.gears - 1 := by
  rw [hr2, Int.tmod_eq_emod_of_nonneg (by omega)]
  exact ⟨Int.emod_nonneg _ (by omega), Int.emod_lt_of_pos _ (by omega)⟩
 have x1 : at_.tmod (m.gears - 1) = r1 := hr1.symm
 have x2 : (r1 + m.gears - 1).tmod (m.gears - 1) = r2 := hr2.symm
 have y1 : IntKind.i64.wrap (m.gears - 1) = m.gears - 1 := IntWalk.i64_in _ (by omega)
 have y2 : IntKind.i64.wrap r1 = r1 := IntWalk.i64_in _ (by omega)
 have y3 : IntKind.i64.wrap (r1 + m.gears) = r1 + m.gears := IntWalk.i64_in _ (by omega)
 have y4 : IntKind.i64.wrap (r1 + m.gears - 1) = r1 + m.gears - 1 := IntWalk.i64_in _ (by omega)
 have y5 : IntKind.i64.wrap r2 = r2 := IntWalk.i64_in _ (by omega)
 have hPd : placeC m at_ = 1 + r2 := by unfold placeC; rw [← hr1, ← hr2]
 obtain ⟨P, hP⟩ : ∃ P, P = placeC m at_ := ⟨_, rfl⟩
 rw [← hP] at hp hPd
 have y6 : IntKind.i64.wrap (1 + r2) = P := by rw [hPd]; exact IntWalk.i64_in _ (by omega)
 have z1 : ¬ m.gears - 1 = 0 := by omega
 have hsh : sharedM m P = true := shared_iff.2 ⟨by omega, by omega, .inr (by omega)⟩
 have hbc0 : m.sw = [] → (cycK (permM m) (permM m).length).length = 1 := fun h => by rw [bare_cyc hok h, hring]; rfl
 have hwp := less_paths hm hsh hp
 obtain ⟨OL, hOL⟩ : ∃ O, O = lessS m.sw P := ⟨_, rfl⟩
 have hgn : decide (P ∈ m.sw) = true := decide_eq_true hp
 have hsl0 : ((m.sw.length : Int) == 0) = false := beq_eq_false_iff_ne.2 (by have := List.length_pos_iff.2 (List.ne_nil_of_mem hp); omega)
 have HSL := hid hsl0
 rw [← hOL] at hwp
 have hrr : (withS m OL).ring = false := hring
 obtain ⟨hm2, hct⟩ := hwp
 obtain ⟨C2, hC2⟩ : ∃ C, C = cycK (permM (withS m OL)) (permM (withS m OL)).length := ⟨_, rfl⟩
 rw [← hC2] at hct
 have hc2n : C2.length ≤ 64 := by rw [hC2]; have h3 := cycK_len (permM (withS m OL)) (permM (withS m OL)).length; have h4 : (permM (withS m OL)).length = N := by { rw [permM_len]; show (4 * m.gears).toNat = N; omega }; omega
 have CPO := fun (a : Option Addr) (c : Nat) w (hh : Ints w a c OL) => mPaths_any (withS m OL) a c w hh (fun w h => CheckMachine_any (withS m OL) a c w h hI)
 rw [if_pos hm2, hm2, ← hC2] at CPO
 have HPO : Hid (∀ (a : Option Addr) (c : Nat) w, Ints w a c OL → Calls Tryz.prog 10 #[.agg #[.bool false, .int .i64 m.gears, .int .i64 m.turn, .slice a OL.length c]] w fun r w' => ∃ (v : Value) (qs : List (SlH × List Int)), r = .returned (.tuple #[v, .int .i64 0]) ∧ qs.map Prod.snd = C2 ∧ SL w.heap.size w w' (pOwn cSl 1 22 v (qs.map Prod.fst) :: qs.map inP)) := hid fun a c w h => by
  have := CPO a c w h
  rw [show mV (withS m OL) a c = .agg #[.bool false, .int .i64 m.gears, .int .i64 m.turn, .slice a OL.length c] by show Value.agg #[.bool (withS m OL).ring, _, _, _] = _; rw [hrr]; rfl] at this
  exact this
 rw [hOL] at HPO
 obtain ⟨PE, hPE⟩ : ∃ P, P = periodN (permM m) := ⟨_, rfl⟩
 rw [← hPE] at CN CCK
 simp only [← hPE] at CDV CIW
 obtain ⟨Cy, hCy⟩ : ∃ Cy, Cy = cycK (permM m) (permM m).length := ⟨_, rfl⟩
 rw [← hCy] at CC hcl hcn hnd hsum hct hbc0
 simp only [← hCy] at hpos hpa CDV CIW
 obtain ⟨PM, hPM⟩ : ∃ P, P = permM m := ⟨_, rfl⟩
 rw [← hPM] at CP CCP hpl hsum
 simp only [← hPM] at hpa hne
 rw [hpl] at hsum
 simp only [hpl] at hpa
 obtain ⟨Z, hZ⟩ : ∃ Z, Z = itoaB (PE : Int) := ⟨_, rfl⟩
 rw [← hZ] at CN CCK
 simp only [← hZ] at CDV
 have hpn : ((PM.length : Int) != (N : Int)) = false := by rw [hpl]; simp
 have hslC : True := trivial
 have HCT := hid hct; have HGN := hid hgn; have HRG := hid hring; have HSLC := hid hslC
 clear hct hgn hring hslC hbc0 hp hm2 hrr hsh hP hPd hr1 hr2 b1 b2 b3 hok hm CPO hOL hC2 hsl0
 have HM := hid CM; have HP := hid CP; have HC := hid CC; have HN := hid CN; have HCP := hid CCP; have HCK := hid CCK; have HCL := hid hcl; have HPOS := hid hpos; have HPA := hid hpa; have HNE := hid hne; have HND := hid hnd; have HSUM := hid hsum; have HDV := hid CDV; have HIW := hid CIW; have HPL := hid hpl
 clear CM CP CC CN CCP CCK hcl hpos hpa hne hnd hsum CDV CIW hdv hZ hPE hCy hPM hper hps hpp0 hip KM hpl
 go_enter Tryz.func3, Tryz.ntmps3
 go_wp2_with fail
 refine (HA.out _ (hw.below hS0.b)).mono ?_
 rintro e w1 ⟨rfl, b1⟩
 have hS1 := hS0.mono b1
 have q1_rm := (hS1.blk 0 rfl).1
 have q1_m := (hS1.blk 1 rfl).1
 clear hS0
 go_wp2_with (with_reducible refine wpList_ldS (n := 4) (us := mC m ad cap) A_rmach kR wU wU (by assumption) wU wU ?_)
 refine (HSh.out _).mono ?_
 rintro e w2 ⟨rfl, b2⟩
 have hS2 := hS1.mono b2
 have q2_rm := (hS2.blk 0 rfl).1
 have q2_m := (hS2.blk 1 rfl).1
 clear hS1 q1_rm q1_m
 go_wp2_with (with_reducible refine wpList_ldS (n := 4) (us := mC m ad cap) A_rmach kR wU wU (by assumption) wU wU ?_)
 refine (HM.out _ (hR.below hS2.b)).mono ?_
 rintro e w3 ⟨rfl, b3⟩
 have hS3 := hS2.mono b3
 have q3_rm := (hS3.blk 0 rfl).1
 have q3_m := (hS3.blk 1 rfl).1
 clear hS2 q2_rm q2_m
 go_wp2_with (first | (with_reducible refine wpList_ldB (by first | exact F_boolM | exact F_int | exact F_sliceM) wU wU (by assumption) wU ?_) | (with_reducible refine wpList_ldS (n := 4) (us := mC m ad cap) A_mach kR wU wU (by assumption) wU wU ?_))
 refine (HP.out _ (hR.below hS3.b)).mono ?_
 rintro e w4 ⟨v4, rfl, ho4, b4⟩
 have hS4 := hS3.call (SL.ofOwn ho4 b4)
 simp only [List.cons_append, List.nil_append] at hS4
 have q4_rm := (hS4.blk 1 rfl).1
 have q4_m := (hS4.blk 2 rfl).1
 clear hS3 q3_rm q3_m
 clear ho4 b4
 obtain ⟨aP, cP, rfl, _⟩ := hS4.slice 0 rfl
 go_wp2_with (with_reducible refine wpList_ldS (n := 4) (us := mC m ad cap) A_mach kR wU wU (by assumption) wU wU ?_)
 refine (HC.out _ (hR.below hS4.b)).mono ?_
 rintro e w5 ⟨v5, qs, rfl, hqs, hSq⟩
 obtain ⟨a6, c6, rfl, r6, l6⟩ := leads_of hSq (by rw [hqs]; exact HCL.out)
 rw [hqs] at l6
 have hS5 := hS4.mono hSq.b
 have q5_rm := (hS5.blk 1 rfl).1
 have q5_m := (hS5.blk 2 rfl).1
 clear hS4 q4_rm q4_m
 have hql : qs.length = Cy.length := by rw [← hqs, List.length_map]
 obtain ⟨QL, hQL⟩ : ∃ QL, QL = qs.map Prod.fst := ⟨_, rfl⟩
 have hqll : QL.length = Cy.length := by rw [hQL, List.length_map]; exact hql
 rw [← hQL] at r6 l6
 rw [hql]
 have HQL := hid hqll
 clear hqs hSq hql hQL hqll
 go_wp2_with (with_reducible refine wpList_ldS (n := 4) (us := mC m ad cap) A_mach kR wU wU (by assumption) wU wU ?_)
 refine (HN.out _ (hR.below hS5.b) (hw.below hS5.b)).mono ?_
 rintro e w6 ⟨rfl, b6⟩
 have hS6 := hS5.mono b6
 have q6_rm := (hS6.blk 1 rfl).1
 have q6_m := (hS6.blk 2 rfl).1
 clear hS5 q5_rm q5_m
 replace r6 := r6.below b6
 replace l6 := l6.below b6
 go_wp2_with fail
 refine (HCP.out aP cP _ (hS6.rd 0 rfl)).mono ?_
 rintro e w7 ⟨rfl, b7⟩
 have hS7 := hS6.mono b7
 have q7_rm := (hS7.blk 1 rfl).1
 have q7_m := (hS7.blk 2 rfl).1
 clear hS6 q6_rm q6_m
 replace r6 := r6.below b7
 replace l6 := l6.below b7
 go_wp2_with fail
 refine (HCK.out _).mono ?_
 rintro e w8 ⟨rfl, b8⟩
 have hS8 := hS7.mono b8
 have q8_rm := (hS8.blk 1 rfl).1
 have q8_m := (hS8.blk 2 rfl).1
 clear hS7 q7_rm q7_m
 replace r6 := r6.below b8
 replace l6 := l6.below b8
 have hPz := (hS8.rd 0 rfl)
 have hbz := hS8.b
 have qmz := q8_m
 obtain ⟨wz, hwz⟩ : ∃ wz, wz = w8 := ⟨_, rfl⟩
 rw [← hwz] at hPz hbz qmz r6 l6 ⊢
 clear hS8 q8_rm q8_m hwz
 have hltz : w.heap.size < wz.heap.size := (Array.getElem?_eq_some_iff.1 qmz).1
 have hSz := SL.nil wz
 go_wp2_with ((with_reducible refine wpList_makeL (c := cBool) (N) (false) E_bools cBool1 wU wU (by omega) (by omega) (hSz) ?_); intro aS w1 hS1)
 go_loopw [88, 16, 94, 17, 18, 14] (fun jv _ _ _ _ tv wr => ∃ (j tj : Nat) (SB : List Bool), j ≤ Cy.length ∧ jv = .int .i64 j ∧ tv = .int .i64 tj ∧ tj = ((Cy.take j).map List.length).sum ∧ SB.length = N ∧ (∀ x : Int, 0 ≤ x → x < N → atD false SB x = decide (x ∈ (Cy.take j).flatten)) ∧ SL wz.heap.size wz wr [pOwn cBool 1 4 (.slice aS N N) SB]) (fun jv _ _ _ _ _ _ => Cy.length - (intOf jv).toNat)
 case atStart =>
  refine ⟨0, 0, List.replicate N false, by omega, rfl, rfl, by simp, by simp, fun x h0 h1 => ?_, hS1⟩
  have : x.toNat < N := by omega
  simp [atD, this]
 case round =>
  clear hS1
  obtain ⟨j, tt, SB, hj, rfl, rfl, htt, hsb, hsn, hSr⟩ := hrel
  have HTT := hid htt
  clear htt
  have HSB := hid hsb; have HSN := hid hsn
  clear hsb hsn
  by_cases hlt : j < Cy.length
  ·obtain ⟨xa, xc, hx1, hx2, -⟩ := l6 j hlt
   have hptc : Cy[j] = atD [] Cy j := by simp [atD, hlt]
   have hmem : atD [] Cy j ∈ Cy := by rw [← hptc]; exact List.getElem_mem hlt
   have hpos := HPOS.out _ hmem
   have hpa := HPA.out _ hmem
   have hfn := fun (i : Nat) (hi : i < Cy[j].length) => flat_new HND.out hlt hi
   have hft := flat_take hlt
   have CDV := HDV.out _ hmem
   have CIW := HIW.out _ hmem
   have hms : ((Cy.take (j + 1)).map List.length).sum = ((Cy.take j).map List.length).sum + (atD [] Cy j).length := by
    rw [← hptc, List.take_succ_eq_append_getElem hlt, List.map_append, List.sum_append]; simp
   have hle : ((Cy.take (j + 1)).map List.length).sum ≤ 64 := by
    have h1 : ((Cy.take (j + 1)).map List.length).sum ≤ (Cy.map List.length).sum := by
     conv => rhs; rw [← List.take_append_drop (j + 1) Cy]
     rw [List.map_append, List.sum_append]; omega
    rw [HSUM.out] at h1; omega
   simp only [hptc] at hfn hft
   obtain ⟨PT, hPT⟩ : ∃ P, P = atD [] Cy j := ⟨_, rfl⟩
   rw [← hPT] at hx1 hx2 hpos hft CDV CIW hms
   simp only [← hPT] at hpa hfn
   have hx1k : (j : Int) < QL.length := by rw [HQL.out]; omega
   have r6r := r6.below hSr.b
   have HX1 := hid hx1; have HPA2 := hid hpa; have HFN := hid hfn; have HFT := hid hft; have HDV2 := hid CDV; have HIW2 := hid CIW; have HMS := hid hms
   obtain ⟨d, hd⟩ : ∃ d, d = PT.length := ⟨_, rfl⟩
   have hd0 : 0 < d := by rw [hd]; exact hpos.1
   have hd64 : d ≤ 64 := by rw [hd]; exact hpos.2
   have HD := hid hd.symm
   have CFI := fun w => rFromInt_any d w (by omega)
   have HFI := hid CFI
   clear hx1 hpa hfn hft CDV CIW hms hPT hptc hmem hpos hd CFI
   go_wp2_with ((with_reducible refine wpList_idxN _ ((none, 0, 0) : SlH) E_sls F_sl cSl1 wU wU (r6r) (HQL.out) oD oD (fun _ => wU) (fun _ => ?_)); rw [HX1.out, HD.out]; simp only [cSl])
   go_loopw [94, 17, 18] (fun iv _ _ wq => ∃ (i : Nat) (SC : List Bool), i ≤ d ∧ iv = .int .i64 i ∧ SC.length = N ∧ (∀ x : Int, 0 ≤ x → x < N → atD false SC x = decide (x ∈ (Cy.take j).flatten ++ PT.take i)) ∧ SL wz.heap.size wz wq [pOwn cBool 1 4 (.slice aS N N) SC]) (fun iv _ _ _ => d - (intOf iv).toNat)
   case atStart => exact ⟨0, SB, by omega, rfl, HSB.out, by rw [List.take_zero, List.append_nil]; exact HSN.out, hSr⟩
   case round =>
    clear hSr r6r
    obtain ⟨i, SC, hi, rfl, hsc, hsm, hSq⟩ := hrel
    have HSC := hid hsc; have HSM := hid hsm
    clear hsc hsm
    have hPT := hx2.below hSq.b
    have hPr := hPz.below hSq.b
    have hRB := hSq.rd 0 rfl
    by_cases hid_ : i < d
    ·have hiP : i < PT.length := by rw [HD.out]; exact hid_
     obtain ⟨⟨x0, x1⟩, hpx⟩ := HPA2.out i hiP
     have hnew := HFN.out i hiP
     have hne := HNE.out _ x0 x1
     have hsm := HSM.out _ x0 x1
     rw [decide_eq_false hnew] at hsm
     have htk := take_snoc hiP
     rw [HD.out] at hpx
     obtain ⟨X, hX⟩ : ∃ X, X = atD 0 PT i := ⟨_, rfl⟩
     obtain ⟨r, hr⟩ : ∃ r, r = (i + 1) % d := ⟨_, rfl⟩
     rw [← hX] at x0 x1 hpx hne hsm htk
     rw [← hr] at hpx
     have hrl : r < d := by rw [hr]; exact Nat.mod_lt _ hd0
     have hrP : (r : Int) < PT.length := by rw [HD.out]; omega
     have htm : ((i : Int) + 1).tmod (d : Int) = (r : Int) := by
      rw [Int.tmod_eq_emod_of_nonneg (by omega), hr]
      first | exact (Int.natCast_emod _ _).symm | exact (Int.natCast_mod _ _).symm | simp
     have hw1 : IntKind.i64.wrap ((i : Int) + 1) = (i : Int) + 1 := IntWalk.i64_in _ (by omega)
     have hw2 : IntKind.i64.wrap (r : Int) = (r : Int) := IntWalk.i64_in _ (by omega)
     have hdz : ¬ (d : Int) = 0 := by omega
     have hdz2 : ¬ d = 0 := by omega
     obtain ⟨Y, hY⟩ : ∃ Y, Y = atD 0 PT r := ⟨_, rfl⟩
     rw [← hY] at hpx
     rw [hpx] at hne
     have hyx : (Y == X) = false := by simpa using hne
     have hx0 : ¬ X < 0 := by omega
     have hxN : ¬ (N : Int) ≤ X := by omega
     have hdx : decide (X < 0) = false := decide_eq_false hx0
     have hdN : decide ((N : Int) ≤ X) = false := decide_eq_false hxN
     have hXP : X < PM.length := by rw [HPL.out]; exact x1
     have hXS : X < SC.length := by rw [HSC.out]; exact x1
     have hiPz : (i : Int) < PT.length := by omega
     have HX := hid hX; have HY := hid hY; have HPX := hid hpx; have HAT := hid hsm; have HTK := hid htk
     clear hX hY hpx hsm htk hne hnew hr
     go_wp2_with ((first | (with_reducible refine wpList_idx _ 0 E_ints F_int cInt1 wU wU (hPT) oD oD (fun _ => wU) (fun _ => ?_)) | (with_reducible refine wpList_idxN _ 0 E_ints F_int cInt1 wU wU (hPT) (HD.out) oD oD (fun _ => wU) (fun _ => ?_))); rw [← HX.out])
     refine wp_region_q kR kR ?_
     repeat (first | (((with_reducible refine wpB_idxW false E_bools F_bool cBool1 wU (HSC.out) wU (hRB) oD oD (fun _ => wU) wU (fun _ => wU) (fun _ => ?_)); (try simp only [Act.put, pA, pB, pC]); (try simp only [cInt])); rw [HAT.out]) | (((with_reducible refine wpB_idxW 0 E_ints F_int cInt1 wU (rfl) wU (hPr) oD oD (fun _ => wU) wU (fun _ => wU) (fun _ => ?_)); (try simp only [Act.put, pA, pB, pC]); (try simp only [cInt])); rw [HPX.out]) | (((with_reducible refine wpB_idxW 0 E_ints F_int cInt1 wU (HD.out) wU (hPT) oD oD (fun _ => wU) wU (fun _ => wU) (fun _ => ?_)); (try simp only [Act.put, pA, pB, pC]); (try simp only [cInt])); rw [← HY.out]) | (((refine wpQ_oneG ?_ wU (fun w' => ?_) ?_); rotate_left; (go_simp; rfl); (try simp only [Act.put, pA, pB, pC])); first | rw [hdx] | rw [hdN] | rw [hyx] | skip) |  ((with_reducible refine wpB_load (by first | exact F_int | exact F_u64s) wU wU (by assumption) wU ?_); (try simp only [Act.put, pA, pB, pC])) | ((refine wpQ_oneG ?_ wU (fun w' => ?_) ?_); rotate_left; (go_simp; rfl); (try simp only [Act.put, pA, pB, pC])))
     refine wpQuiet_nil ?_
     intro w5 hb5
     have hS5 := hSq.mono hb5
     go_wp2_with ((with_reducible refine wpList_storeL (u := true) 0 E_bools cBool1 (sto_bool) wU wU (hS5) wU (by first | omega | (simp; done) | (simp; omega)) (by first | omega | (simp; done) | (simp; omega)) (fun _ => wU) (fun _ => wU) ?_); intro _ w6 hS6)
     refine ⟨⟨i + 1, SC.set X.toNat true, by omega, by go_num, by rw [List.length_set]; exact HSC.out, fun x h0 h1 => ?_, hS6⟩, by simp [intOf]; omega⟩
     rw [atB_set x0 hXS h0, HTK.out]
     by_cases e : x = X
     ·rw [if_pos e, decide_eq_true (List.mem_append_right _ (List.mem_append_right _ (by simp [e])))]
     ·rw [if_neg e, HSM.out x h0 h1]
      congr 1
      simp [e]
    ·have hie : i = d := by omega
     have htk : PT.take i = PT := List.take_of_length_le (by rw [HD.out]; omega)
     subst hie
     have hmt : ((Cy.take (j + 1)).map List.length).sum = tt + i := by rw [HMS.out, HD.out, HTT.out]
     have hwt : IntKind.i64.wrap ((tt : Int) + (i : Int)) = ((tt + i : Nat) : Int) := by
      rw [IntWalk.i64_in _ (by omega)]; omega
     have HTK := hid htk
     have hdz : ((i : Int) == 0) = false := beq_eq_false_iff_ne.2 (by omega)
     have CDV := HDV2.out
     have CIW := HIW2.out
     rw [HD.out] at CDV CIW
     have HDV3 := hid CDV; have HIW3 := hid CIW
     have HMT := hid hmt.symm
     clear htk CDV CIW hmt
     go_wp2_with fail
     refine (HFI.out _).mono ?_
     rintro e w5 ⟨rfl, b5⟩
     go_wp2_with fail
     refine (HDV3.out _).mono ?_
     rintro e w6 ⟨rfl, b6⟩
     go_wp2_with fail
     refine (HIW3.out _).mono ?_
     rintro e w7 ⟨rfl, b7⟩
     have hS7 := ((hSq.mono b5).mono b6).mono b7
     go_wp2_with fail
     refine ⟨⟨j + 1, tt + i, SC, by omega, by go_num, rfl, HMT.out, HSC.out, fun x h0 h1 => ?_, hS7⟩, by simp [intOf]; omega⟩
     rw [HSM.out x h0 h1, HTK.out, HFT.out]
  ·have hje : j = Cy.length := by omega
   subst hje
   have htt := HTT.out
   rw [List.take_length, HSUM.out] at htt
   subst htt
   have hb1 := bnext hbz hSr.b
   have q1 := (hSr.b.block _ hltz).trans qmz
   obtain ⟨we, rfl⟩ : ∃ we, we = wr := ⟨_, rfl⟩
   clear hSr hPz r6 l6 hbz qmz hltz HSB HSN
   have q2 : we.heap[w.heap.size]? = some (.cells #[.bool false, .int .i64 m.gears, .int .i64 m.turn, .slice ad m.sw.length cap] 24) := by rw [q1]; show some (Obj.cells #[.bool m.ring, _, _, _] _) = _; rw [HRG.out]
   clear q1
   have hlte : w.heap.size < we.heap.size := (Array.getElem?_eq_some_iff.1 q2).1
   have h0 := HSL.out
   all_goals
    go_wp2_with (with_reducible refine wpList_ldB (by first | exact F_boolM | exact F_int | exact F_sliceM) wU wU (by assumption) wU ?_)
    refine wp_region_q kR kR ?_
    repeat (first | ((with_reducible refine wpB_load F_int wU wU (by assumption) wU ?_); (try simp only [Act.put, pA, pB, pC])) |  ((with_reducible refine wpB_load (by first | exact F_int | exact F_u64s) wU wU (by assumption) wU ?_); (try simp only [Act.put, pA, pB, pC])) | ((refine wpQ_oneG ?_ wU (fun w' => ?_) ?_); rotate_left; (go_simp; rfl); (try simp only [Act.put, pA, pB, pC])))
    refine wpQuiet_nil ?_
    intro w5 hb5
    have q3 := (hb5.block _ hlte).trans q2
    have hlt5 : w.heap.size < w5.heap.size := (Array.getElem?_eq_some_iff.1 q3).1
    have hB := (SL.nil w5).box (.cells #[.bool false, .int .i64 m.gears, .int .i64 m.turn, .slice none 0 0] 24)
    have q4 := (hB.b.block _ hlt5).trans q3
    have hR5 := hR.below (bnext hb1 hb5)
    obtain ⟨b20, hb20⟩ : ∃ b, b = w5.heap.size := ⟨_, rfl⟩
    have hS3 := (hB.nilS (α := Int) (c := cInt) (sz := 1) (e := 3) cIntS).pick [1, 0] (by decide) [pBlk b20 (.cells #[.bool false, .int .i64 m.gears, .int .i64 m.turn, .slice none 0 0] 24), pOwn cInt 1 3 (.slice none 0 0) []] (by rw [hb20]; rfl)
    go_wp2_with (with_reducible refine wpList_ldB (by first | exact F_boolM | exact F_int | exact F_sliceM) wU wU (by assumption) wU ?_)
    rw [← hb20]
    clear hb20 q4
    go_loopw [220, 23, 21] (fun kv _ gv wr => ∃ (k : Nat) (sv : Value), k ≤ m.sw.length ∧ kv = .int .i64 k ∧ gv = .bool (decide (P ∈ m.sw.take k)) ∧ SL w5.heap.size w5 wr [pBlk b20 (.cells #[.bool false, .int .i64 m.gears, .int .i64 m.turn, sv] 24), pOwn cInt 1 3 sv (lessS (m.sw.take k) P)]) (fun kv _ _ _ => m.sw.length - (intOf kv).toNat)
    case atStart => exact ⟨0, .slice none 0 0, by omega, rfl, by simp, hS3⟩
    case round =>
     clear hS3 hB
     obtain ⟨k, sv, hk, rfl, rfl, hSr⟩ := hrel
     have hRr := hR5.below hSr.b
     by_cases hlt : k < m.sw.length
     ·have hls := lessS_step (p := P) hlt
      have hth := take_has (s := P) hlt
      have hll : (lessS (m.sw.take k) P).length ≤ 64 := by
       unfold lessS
       refine Nat.le_trans (List.length_filter_le _ _) ?_
       rw [List.length_take]; omega
      obtain ⟨X, hX⟩ : ∃ X, X = atD 0 m.sw k := ⟨_, rfl⟩
      rw [← hX] at hls hth
      have HX := hid hX
      clear hX
      by_cases hxp : X = P
      ·have hxb : (X == P) = true := by simp [hxp]
       rw [hxb, Bool.or_true] at hth
       rw [if_pos hxp, List.append_nil] at hls
       have HLS := hid hls; have HTH := hid hth
       clear hls hth hxp
       go_wp2_with ((with_reducible refine wpList_idx _ 0 E_ints F_int cInt1 wU wU (hRr) oD oD (fun _ => wU) (fun _ => ?_)); rw [← HX.out])
       exact ⟨⟨k + 1, sv, by omega, by go_num, by rw [HTH.out], by rw [HLS.out]; exact hSr⟩, by simp [intOf]; omega⟩
      ·have hxb : (X == P) = false := by simp [hxp]
       rw [hxb, Bool.or_false] at hth
       rw [if_neg hxp] at hls
       have HLS := hid hls; have HTH := hid hth
       clear hls hth hxp
       obtain ⟨av, cv, rfl, _⟩ := hSr.slice 1 rfl
       have q5 := (hSr.blk 0 rfl).1
       go_wp2_with (first | ((with_reducible refine wpList_idx _ 0 E_ints F_int cInt1 wU wU (hRr) oD oD (fun _ => wU) (fun _ => ?_)); rw [← HX.out]) | (with_reducible refine wpList_ldB F_sliceM wU wU q5 wU ?_) | (((with_reducible refine wpList_pushL (y := X) 1 E_ints wU wU (hSr) wU cIntO ⟨rfl, rfl⟩ (by first | with_unfolding_all rfl | simp) wU (by first | omega | (simp; omega)) (by first | omega | (simp; omega)) ?_); intro v6 w6 hS6); obtain ⟨a6b, c6b, rfl, _⟩ := hS6.slice 1 rfl) | ((with_reducible refine wpList_stoF 0 wU wU hS6 rfl rfl ?_); intro w7 hS7))
       simp only [List.set_cons_zero, List.set_cons_succ, List.setIfInBounds_toArray] at hS7
       have eL : (lessS (m.sw.take k) P ++ [X]).length = (lessS (m.sw.take k) P).length + 1 := by simp
       simp only [eL] at hS7
       exact ⟨⟨k + 1, .slice a6b ((lessS (m.sw.take k) P).length + 1) c6b, by omega, by go_num, by rw [HTH.out], by rw [HLS.out]; exact hS7⟩, by simp [intOf]; omega⟩
     ·have hke : k = m.sw.length := by omega
      subst hke
      rw [List.take_length, HGN.out]
      rw [List.take_length] at hSr
      obtain ⟨av, cv, rfl, hvR⟩ := hSr.slice 1 rfl
      have q9 : wr.heap[b20]? = some (.cells #[.bool false, .int .i64 m.gears, .int .i64 m.turn, .slice av (lessS m.sw P).length cv] 24) := (hSr.blk 0 rfl).1
      go_wp2_with (with_reducible refine wpList_ldS (n := 4) (us := #[.bool false, .int .i64 m.gears, .int .i64 m.turn, .slice av (lessS m.sw P).length cv]) A_mach kR wU wU (by assumption) wU wU ?_)
      refine (HPO.out _ _ _ (hSr.rd 1 rfl)).mono ?_
      rintro e w9 ⟨v9, qs, rfl, hqs, hSq⟩
      obtain ⟨a9, c9, rfl, _⟩ := hSq.slice 0 rfl
      have hl2 : (qs.map Prod.fst).length = C2.length := by rw [← hqs, List.length_map, List.length_map]
      rw [hl2]
      have hb9 := bnext (bnext hb1 (bnext hb5 hSr.b)) hSq.b
      clear hqs hSq hl2 q9
      have v1 : IntKind.i64.wrap ((Cy.length : Int) + 1) = (Cy.length : Int) + 1 := IntWalk.i64_in _ (by omega)
      have v2 : IntKind.i64.wrap ((Cy.length : Int) - 1) = (Cy.length : Int) - 1 := IntWalk.i64_in _ (by omega)
      rcases HCT.out with hct | hct
      ·have u1 : ((C2.length : Int) == (Cy.length : Int) + 1) = true := by simp; omega
       clear hct
       go_wp2_with fail
       go_ret
       exact ⟨rfl, hb9⟩
      ·have u1 : ((C2.length : Int) == (Cy.length : Int) + 1) = false := beq_eq_false_iff_ne.2 (by omega)
       have u2 : ((C2.length : Int) == (Cy.length : Int) - 1) = true := beq_iff_eq.2 (by omega)
       clear hct
       go_wp2_with fail
       go_ret
       exact ⟨rfl, hb9⟩
end Go.Proofs.YtndmeaoidihikaaGreatDoor
