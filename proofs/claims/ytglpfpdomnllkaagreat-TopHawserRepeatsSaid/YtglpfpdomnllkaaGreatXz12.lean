/- Contracts and plain facts that the claim uses (BxM OnW FtP BxN HtA HvA). Conditions: as each one states. -/
import Derived.Test.YtglpfpdomnllkaaGreatProg
import Derived.WalkKit
import Derived.WalkSpells
import Derived.Maps.AppendAt
import Derived.Deep.Quiet
import Derived.Maps.Own
import Derived.Maps.OwnSet
import Derived.Maps.Views
import Derived.WalkLawsBesides
import Derived.Laws.EntriesVeiled
import Derived.Deep.QuietTactic
import Derived.BigQuiet
import Derived.Deep.RegionHeld3
import Derived.Deep.AppendLies
import Derived.Deep.RegionHeldLaw
import Derived.Deep.RegionLaw
import Derived.RangeFuncNested
import Derived.RangeFuncBound
import Derived.RangeFuncCalls
import Derived.RangeFuncLeaves
import Derived.RangeFuncFrom
import Derived.Shelf.Abstract
import Derived.Shelf.RegionOpen
import Derived.OwnWalkIn
import Derived.TacticsInMore
import Derived.LoopNIn
import Derived.LoopIn
import Derived.Shelf.Strings.Trim
import Derived.Shelf.Strings.SlTrimAscii
import Derived.Shelf.Strings.Repeat
import Derived.Shelf.Strings.OnBuilder
import Derived.Shelf.Strconv.Itoa1
import Derived.Shelf.Strconv.Itoa3
import Derived.Shelf.LaysM
import Derived.Ground.Names2Prog
import Derived.Lib.OthersKept
import Derived.StillTail
import Derived.Laws.Tables
import Derived.IntWalk
import Derived.Laws.CopyOwn
import Derived.BigRegion
import Derived.ChangeAlike
import Derived.Shelf.Bits.Mul64
import Derived.Lib.ItoaLen
import Derived.Lib.ItoaMem
import Derived.Sort.LoopGhostIn
import Derived.Maps.RangeWalk
import Derived.Maps.Ext
import Derived.Deep.LoopGhost
import Derived.Laws.IdiomStrings
import Derived.Sort.QuietThIn
import Derived.Lib.Split
import Derived.Lib.AtoiAll
import Derived.Lib.AppendIntMem
import Derived.Lib.SmallJoins
import Derived.LaidSub
import Derived.Lib.LaidTab
import Derived.Lib.AtoiErrMem
import Derived.Stop.LaidErr
import Derived.ReadAgain
import Derived.ChangeSlices
import Derived.OpenShut
import Derived.ProofKit
import Derived.Deep.DeepHandedRow
import Derived.Deep.SlicePairs
import Derived.Test.YtglpfpdomnllkaaGreatXz01
import Derived.Test.YtglpfpdomnllkaaGreatXz02
import Derived.Test.YtglpfpdomnllkaaGreatXz03
import Derived.Test.YtglpfpdomnllkaaGreatXz04
import Derived.Test.YtglpfpdomnllkaaGreatXz05
import Derived.Test.YtglpfpdomnllkaaGreatXz06
import Derived.Test.YtglpfpdomnllkaaGreatXz07
import Derived.Test.YtglpfpdomnllkaaGreatXz08
import Derived.Test.YtglpfpdomnllkaaGreatXz09
import Derived.Test.YtglpfpdomnllkaaGreatXz10
import Derived.Test.YtglpfpdomnllkaaGreatXz11
set_option linter.all false

namespace Go.Proofs.YtglpfpdomnllkaaGreat
open Go.RowKit
set_option maxHeartbeats 8000000
set_option maxRecDepth 100000
theorem expL_rng {w : List Int} : ∀ k : Nat, -(k : Int) ≤ expL (w.take k) ∧ expL (w.take k) ≤ k := fun k => by
 induction k with
 | zero => simp [expL]
 | succ k ih =>
  by_cases h : k < w.length
  ·have e : w.take (k + 1) = w.take k ++ [w[k]] := List.take_succ_eq_append_getElem h
   rw [e, expL_snoc]
   have : -1 ≤ sgnI w[k] ∧ sgnI w[k] ≤ 1 := by unfold sgnI; split <;> omega
   omega
  ·rw [List.take_of_length_le (by omega)]
   rw [List.take_of_length_le (by omega)] at ih
   omega
theorem exponent_any (a : Option Addr) (cap : Nat) (l : List Int) (w : World) (hS : Ints w a cap l) (hl : l.length ≤ 1000) (hr : ∀ x ∈ l, x ≠ 0 ∧ -1000 ≤ x ∧ x ≤ 1000) :
  Calls Tryz.prog 71 #[.slice a l.length cap] w fun r w' => r = .returned (.int .i64 (expL l)) ∧ Below w.heap.size w w' := by
 have hcap := hS.le
 have hmx := hS.max
 have HSG : Hid (∀ x ∈ l, ∀ W, Calls Tryz.prog 124 #[.int .i64 x] W fun r w' => r = .returned (.int .i64 (sgnI x)) ∧ W = w') := hid fun x hx W => bsign_any x W (hr x hx).1
 obtain ⟨F, hF⟩ : ∃ F : Nat → Int, ∀ k, F k = expL (l.take k) := ⟨_, fun _ => rfl⟩
 have hF0 : F 0 = 0 := by rw [hF]; rfl
 have hFm : F l.length = expL l := by rw [hF, List.take_length]
 have hFs : ∀ k, k < l.length → F (k + 1) = F k + sgnI (atD 0 l k) := fun k hk => by
  have e : l.take (k + 1) = l.take k ++ [atD 0 l k] := by rw [List.take_succ_eq_append_getElem hk]; simp [atD, hk]
  rw [hF, hF, e, expL_snoc]
 have hFr : ∀ k : Nat, -(k : Int) ≤ F k ∧ F k ≤ k := fun k => by rw [hF]; exact expL_rng k
 rw [← hFm]
 have HFS := hid hFs; have HFR := hid hFr; have HF0 := hid hF0
 clear hF hF0 hFm hFs hFr hr
 go_enter Tryz.func71, Tryz.ntmps71
 go_wp2_with fail
 go_loopw [8, 5, 3] (fun iv _ sv wr => ∃ k : Nat, iv = .int .i64 k ∧ sv = .int .i64 (F k) ∧ k ≤ l.length ∧ Below w.heap.size w wr) (fun iv _ _ _ => l.length - (intOf iv).toNat)
 case atStart => exact ⟨0, rfl, by rw [HF0.out], by omega, Below.refl _ _⟩
 case round =>
  obtain ⟨k, rfl, rfl, hk, hbr⟩ := hrel
  by_cases hlt : k < l.length
  ·have hSr := hS.below hbr
   have hmem := atD_mem hlt
   have hst := HFS.out k hlt
   have h1 := HFR.out k
   have h2 := HFR.out (k + 1)
   obtain ⟨x, hx⟩ : ∃ x, x = atD 0 l k := ⟨_, rfl⟩
   rw [← hx] at hmem hst
   obtain ⟨G, hG⟩ : ∃ G, G = F k := ⟨_, rfl⟩
   rw [← hG] at hst h1 ⊢
   have hw : IntKind.i64.wrap (G + sgnI x) = F (k + 1) := by rw [hst] at h2 ⊢; exact IntWalk.i64_in _ (by omega)
   have HX := hid hx
   have HC := hid (HSG.out x hmem)
   clear hx hG hst h1 h2 hmem
   go_wp2_with ((with_reducible refine wpList_idx _ 0 E_ints F_int cInt1 wU wU (hSr) oD oD (fun _ => wU) (fun _ => ?_)); rw [← HX.out])
   refine (HC.out _).mono ?_
   rintro e w1 ⟨rfl, rfl⟩
   go_wp2_with fail
   exact ⟨⟨k + 1, by go_num, rfl, by omega, hbr⟩, by simp [intOf]; omega⟩
  ·have hkk : k = l.length := by omega
   subst hkk
   have hkn : ¬ ((l.length : Int) < (l.length : Int)) := by omega
   clear hlt hk
   go_wp2_with fail
   go_ret
   exact ⟨rfl, hbr⟩
theorem Exponent_any (n : Nat) (a : Option Addr) (cap : Nat) (l : List Int) (w : World) (hS : Ints w a cap l) (h : wordE (n : Int) l = 0) :
  Calls Tryz.prog 26 #[.int .i64 n, .slice a l.length cap] w fun r w' => r = .returned (.tuple #[.int .i64 (expL l), .int .i64 0]) ∧ Below w.heap.size w w' := by
 obtain ⟨hn1, hn2, hl, hx⟩ := wordE_fits h
 have CW := fun w (hS : Ints w a cap l) => CheckWord_any n a cap l w hS (by omega)
 rw [h] at CW
 have HW := hid CW
 have HP := hid (fun w (hS : Ints w a cap l) => exponent_any a cap l w hS (by omega) (fun x hm => by have := hx x hm; omega))
 clear CW h hx
 go_enter Tryz.func26, Tryz.ntmps26
 go_wp2_with fail
 refine (HW.out _ hS).mono ?_
 rintro e w1 ⟨rfl, b1⟩
 go_wp2_with fail
 refine (HP.out _ (hS.below b1)).mono ?_
 rintro e w2 ⟨rfl, b2⟩
 go_wp2_with fail
 go_ret2
 exact ⟨rfl, bnext b1 b2⟩
end Go.Proofs.YtglpfpdomnllkaaGreat

namespace Go.Proofs.YtglpfpdomnllkaaGreat
open Go.RowKit
set_option maxHeartbeats 8000000
set_option maxRecDepth 100000
def oneM : MacV := ⟨false, 1, 1, []⟩
theorem one_all : AllC oneM := allC_of (n := 4) rfl (by decide)
theorem one_in {l : List Int} (h : (l.all fun x => decide (0 ≤ x ∧ x < 4)) = true) : ∀ x ∈ l, InS oneM x := fun x hx => by
 have := List.all_eq_true.1 h x hx
 simp only [decide_eq_true_eq] at this
 exact ⟨this.1, by have : (4 : Int) * oneM.gears = 4 := rfl
                   omega⟩
theorem one_first {l : List Int} (h : (l.all fun x => decide (0 ≤ x ∧ x < 4)) = true) : firstM oneM l = firstC oneM l := firstC_ok one_all (one_in h)
theorem ov_wrdE : wrdE oneM [0, 2] 4 = 0 := by unfold wrdE weaveE meetsM; rw [one_first rfl]; rfl
theorem ov_wrd : wrdL oneM [0, 2] 4 = [-1, -1] := by first | rfl | decide | kernel_rfl
theorem one_ck : ChkM oneM none 0 := fun w h => CheckMachine_any oneM none 0 w h (by show InI (1 : Int); unfold InI; omega)
theorem one_word (w : World) (al : Option Addr) (hL : Ints w al 2 [0, 2]) : Calls Tryz.prog 13 #[mV oneM none 0, .slice al 2 2, .int .i64 4] w fun r w' => ∃ v, r = .returned (.tuple #[v, .int .i64 0]) ∧ OwnI w.heap.size w' v [-1, -1] ∧ Below w.heap.size w w' := by
 have h := mWord_any oneM none 0 al 2 [0, 2] 4 w (ints_nil _) hL (CheckLoad_any oneM none 0 al 2 [0, 2] one_ck)
 rw [ov_wrdE, if_pos rfl, ov_wrd] at h
 exact h
end Go.Proofs.YtglpfpdomnllkaaGreat

namespace Go.Proofs.YtglpfpdomnllkaaGreat
set_option maxRecDepth 100000
theorem form_two : formW 2 [-1, -1] = (-2, []) := by
 have hok : WordOk 2 [-1, -1] := fun x hx => by
  simp only [List.mem_cons, List.not_mem_nil, or_false, or_self] at hx
  subst hx
  exact ⟨by decide, by decide⟩
 have e : facL (garN 2) [] [-1, -1] = [[0, 1], [0, 1]] := by
  show facG (garN 2) (facG (garN 2) [] (-1)) (-1) = _
  unfold facG
  rw [if_neg (by decide), if_neg (by decide)]
  show [flP (bkP (revP 2) 0)] ++ [bkP (revP 2) 0] = _
  decide
 rw [formW_eq hok (Y := [[0, 1], [0, 1]]) ⟨by rw [e]; exact .refl _, noPull_of fun j a b h1 h2 => ?_⟩]
 ·decide
 ·intro i hi hb
  have hi0 : i = 0 := by have : i < 1 := hi; omega
  subst hi0
  have hbm := List.mem_of_getElem? h2
  simp only [List.mem_cons, List.not_mem_nil, or_false, or_self] at hbm
  subst hbm
  exact absurd hb (by decide)
end Go.Proofs.YtglpfpdomnllkaaGreat

namespace Go.Proofs.YtglpfpdomnllkaaGreat
open Go.RowKit
set_option maxHeartbeats 8000000
set_option maxRecDepth 100000
theorem Normal_any (n : Nat) (a : Option Addr) (cap : Nat) (l : List Int) (w : World) (hS : Ints w a cap l) (h : wordE (n : Int) l = 0) :
  Calls Tryz.prog 39 #[.int .i64 n, .slice a l.length cap] w fun r w' => ∃ v, r = .returned (.tuple #[v, .int .i64 0]) ∧ FormR w' n v (formW n l) ∧ Below w.heap.size w w' := by
 obtain ⟨hn1, hn2, hl, hx⟩ := wordE_fits h
 have CW := fun w (hS : Ints w a cap l) => CheckWord_any n a cap l w hS (by omega)
 rw [h] at CW
 have HW := hid CW
 have HP := hid (fun w (hS : Ints w a cap l) => normal_allS n l.length a cap l w hS (word_okE h) rfl (by omega) (by omega) (by omega))
 obtain ⟨f, hf⟩ : ∃ f, f = formW n l := ⟨_, rfl⟩
 rw [← hf] at HP ⊢
 have hb0 := bal (Below.refl w.heap.size w) zForm
 have hS0 := (SL.nil w).box zForm
 obtain ⟨B, hB⟩ : ∃ B, B = w.heap.size := ⟨_, rfl⟩
 obtain ⟨w0, hw0⟩ : ∃ w0, w0 = w.alloc zForm := ⟨_, rfl⟩
 rw [← hw0] at hS0 hb0
 have hA := hS.below hb0
 rw [← hB] at hS0 hb0
 have HB := hid hB
 clear CW h hx hf hS
 go_enter Tryz.func39, Tryz.ntmps39
 go_wp2_with fail
 rw [← hB, ← hw0]
 clear hB hw0 hb0
 go_wp2_with fail
 refine (HW.out _ hA).mono ?_
 rintro e w1 ⟨rfl, b1⟩
 have hS1 := hS0.mono b1
 have hA1 := hA.below b1
 clear hS0 hA b1
 go_wp2_with fail
 refine (HP.out _ hA1).mono ?_
 rintro e w2 ⟨v2, L, rfl, hL, hF⟩
 have hS2 := (hS1.call hL).comm
 obtain ⟨a2, c2, H2, hv2, -⟩ := hF _ _ _ hL
 subst hv2
 simp only [List.cons_append, List.nil_append] at hS2
 clear hS1 hA1
 go_wp2_with ((with_reducible refine wpList_stoR (us := #[.int .i64 f.1, .slice a2 f.2.length c2]) 0 wU wU (hS2) wU kR wU wU ?_); intro w3 hS3)
 refine bodyPost_ret (results_cellSlot rfl rfl rfl A_form kR (hS3.blk 0 rfl).1) rfl ⟨_, rfl, hF _ _ _ (SL.tail hS3), ?_⟩
 rw [← HB.out]
 exact hS3.b
end Go.Proofs.YtglpfpdomnllkaaGreat

namespace Go.Proofs.YtglpfpdomnllkaaGreat
open Go.RowKit
set_option maxHeartbeats 8000000
set_option maxRecDepth 100000
theorem load_chk {m : MacV} {l : List Int} (hm : macE m = 0) : (if 4 * m.gears < (l.length : Int) then (5 : Int) else loadGo m [] l) = loadE m l := by
 have e : loadE m l = (if 4 * m.gears < (l.length : Int) then (5 : Int) else loadGo m [] l) := by
  unfold loadE
  rw [if_neg (by simp [hm])]
 exact e.symm
theorem tfits_ok (m : MacV) (ad al : Option Addr) (cap cl : Nat) (l : List Int) (g c : Int) (w : World) (hR : Ints w ad cap m.sw) (hL : Ints w al cl l) (h : Fits m l g c) :
  Calls Tryz.prog 38 #[mV m ad cap, .slice al l.length cl, .int .i64 g, .int .i64 c] w fun r w' => r = .returned (.bool true) ∧ Below w.heap.size w w' := by
 obtain ⟨hs, hg, hc, he⟩ := h
 have hS0 := ((SL.nil w).box (.cells (mC m ad cap) 24)).box (.cells (mC m ad cap) 27)
 simp only [World.size_alloc] at hS0
 have CSh := fun w => rShort_any m ad cap al cl l.length w
 have CM := fun w h => rCheckMachine_any m ad cap w h
 have hlc := hL.le
 rw [show (decide (m.sw.length ≤ 19) && decide (l.length ≤ 67)) = true by simp [hs]] at CSh
 have hlk := loadE_zero he
 rw [hlk.mac] at CM
 have CL := fun w h => rCheckLoad_any m ad cap al cl l w h hlk.ok.lo hlk.ok.hi
 rw [load_chk hlk.mac, he] at CL
 have HSh := hid CSh; have HM := hid CM; have HL := hid CL
 have dg : decide (m.gears ≤ g) = true := decide_eq_true hg
 have dc : decide ((l.length : Int) ≤ c) = true := decide_eq_true hc
 clear CSh CM CL he hs hg hc hlk
 go_enter Tryz.func38, Tryz.ntmps38
 go_wp2_with (first | (with_reducible refine wpList_ldB (by first | exact F_int | fail) wU wU (by assumption) wU ?_) | (with_reducible refine wpList_ldS (n := 4) (us := mC m ad cap) A_rmach kR wU wU (by assumption) wU wU ?_))
 refine (HSh.out _).mono ?_
 rintro e w1 ⟨rfl, b1⟩
 have hS1 := hS0.mono b1
 have q1_rm := (hS1.blk 0 rfl).1
 have q1_m := (hS1.blk 1 rfl).1
 clear hS0
 go_wp2_with (first | (with_reducible refine wpList_ldB (by first | exact F_int | fail) wU wU (by assumption) wU ?_) | (with_reducible refine wpList_ldS (n := 4) (us := mC m ad cap) A_rmach kR wU wU (by assumption) wU wU ?_))
 refine (HM.out _ (hR.below hS1.b)).mono ?_
 rintro e w2 ⟨rfl, b2⟩
 have hS2 := hS1.mono b2
 have q2_rm := (hS2.blk 0 rfl).1
 have q2_m := (hS2.blk 1 rfl).1
 clear hS1 q1_rm q1_m
 go_wp2_with (first | (with_reducible refine wpList_ldB (by first | exact F_int | fail) wU wU (by assumption) wU ?_) | (with_reducible refine wpList_ldS (n := 4) (us := mC m ad cap) A_rmach kR wU wU (by assumption) wU wU ?_))
 refine (HL.out _ (hL.below hS2.b)).mono ?_
 rintro e w3 ⟨rfl, b3⟩
 have hS3 := hS2.mono b3
 have q3_rm := (hS3.blk 0 rfl).1
 have q3_m := (hS3.blk 1 rfl).1
 clear hS2 q2_rm q2_m
 go_wp2_with (with_reducible refine wpList_ldB (by first | exact F_int | fail) wU wU (by assumption) wU ?_)
 go_ret
 exact ⟨rfl, hS3.b⟩
theorem tfits_no (m : MacV) (ad al : Option Addr) (cap cl : Nat) (l : List Int) (g c : Int) (w : World) (hR : Ints w ad cap m.sw) (hL : Ints w al cl l) (h : ¬ Fits m l g c) :
  Calls Tryz.prog 38 #[mV m ad cap, .slice al l.length cl, .int .i64 g, .int .i64 c] w fun r w' => r = .returned (.bool false) ∧ Below w.heap.size w w' := by
 have hS0 := ((SL.nil w).box (.cells (mC m ad cap) 24)).box (.cells (mC m ad cap) 27)
 simp only [World.size_alloc] at hS0
 have CSh := fun w => rShort_any m ad cap al cl l.length w
 have CM := fun w h => rCheckMachine_any m ad cap w h
 have hlc := hL.le
 by_cases hs : m.sw.length ≤ 19 ∧ l.length ≤ 67
 ·rw [show (decide (m.sw.length ≤ 19) && decide (l.length ≤ 67)) = true by simp [hs]] at CSh
  have HSh := hid CSh
  clear CSh
  by_cases hg : m.gears ≤ g
  ·have dg : decide (m.gears ≤ g) = true := decide_eq_true hg
   by_cases hc : (l.length : Int) ≤ c
   ·have dc : decide ((l.length : Int) ≤ c) = true := decide_eq_true hc
    by_cases hm : macE m = 0
    ·have hok := (macE_zero hm).1
     have CL := fun w h => rCheckLoad_any m ad cap al cl l w h hok.lo hok.hi
     rw [load_chk hm] at CL
     have he : loadE m l ≠ 0 := fun e => h ⟨hs, hg, hc, e⟩
     obtain ⟨E, hE⟩ : ∃ E, E = loadE m l := ⟨_, rfl⟩
     rw [← hE] at CL he
     rw [hm] at CM
     have hne : (E == 0) = false := by simpa using he
     have HM := hid CM; have HL := hid CL
     clear CM CL hE he h hs hg hc hm hok
     go_enter Tryz.func38, Tryz.ntmps38
     go_wp2_with (first | (with_reducible refine wpList_ldB (by first | exact F_int | fail) wU wU (by assumption) wU ?_) | (with_reducible refine wpList_ldS (n := 4) (us := mC m ad cap) A_rmach kR wU wU (by assumption) wU wU ?_))
     refine (HSh.out _).mono ?_
     rintro e w1 ⟨rfl, b1⟩
     have hS1 := hS0.mono b1
     have q1_rm := (hS1.blk 0 rfl).1
     have q1_m := (hS1.blk 1 rfl).1
     clear hS0
     go_wp2_with (first | (with_reducible refine wpList_ldB (by first | exact F_int | fail) wU wU (by assumption) wU ?_) | (with_reducible refine wpList_ldS (n := 4) (us := mC m ad cap) A_rmach kR wU wU (by assumption) wU wU ?_))
     refine (HM.out _ (hR.below hS1.b)).mono ?_
     rintro e w2 ⟨rfl, b2⟩
     have hS2 := hS1.mono b2
     have q2_rm := (hS2.blk 0 rfl).1
     have q2_m := (hS2.blk 1 rfl).1
     clear hS1 q1_rm q1_m
     go_wp2_with (first | (with_reducible refine wpList_ldB (by first | exact F_int | fail) wU wU (by assumption) wU ?_) | (with_reducible refine wpList_ldS (n := 4) (us := mC m ad cap) A_rmach kR wU wU (by assumption) wU wU ?_))
     refine (HL.out _ (hL.below hS2.b)).mono ?_
     rintro e w3 ⟨rfl, b3⟩
     have hS3 := hS2.mono b3
     have q3_rm := (hS3.blk 0 rfl).1
     have q3_m := (hS3.blk 1 rfl).1
     clear hS2 q2_rm q2_m
     go_wp2_with (with_reducible refine wpList_ldB (by first | exact F_int | fail) wU wU (by assumption) wU ?_)
     go_ret
     exact ⟨rfl, hS3.b⟩
    ·obtain ⟨E, hE⟩ : ∃ E, E = macE m := ⟨_, rfl⟩
     rw [← hE] at CM hm
     have hne : (E == 0) = false := by simpa using hm
     have HM := hid CM
     clear CM hE hm h hs hg hc
     go_enter Tryz.func38, Tryz.ntmps38
     go_wp2_with (first | (with_reducible refine wpList_ldB (by first | exact F_int | fail) wU wU (by assumption) wU ?_) | (with_reducible refine wpList_ldS (n := 4) (us := mC m ad cap) A_rmach kR wU wU (by assumption) wU wU ?_))
     refine (HSh.out _).mono ?_
     rintro e w1 ⟨rfl, b1⟩
     have hS1 := hS0.mono b1
     have q1_rm := (hS1.blk 0 rfl).1
     have q1_m := (hS1.blk 1 rfl).1
     clear hS0
     go_wp2_with (first | (with_reducible refine wpList_ldB (by first | exact F_int | fail) wU wU (by assumption) wU ?_) | (with_reducible refine wpList_ldS (n := 4) (us := mC m ad cap) A_rmach kR wU wU (by assumption) wU wU ?_))
     refine (HM.out _ (hR.below hS1.b)).mono ?_
     rintro e w2 ⟨rfl, b2⟩
     have hS2 := hS1.mono b2
     have q2_rm := (hS2.blk 0 rfl).1
     have q2_m := (hS2.blk 1 rfl).1
     clear hS1 q1_rm q1_m
     go_wp2_with (with_reducible refine wpList_ldB (by first | exact F_int | fail) wU wU (by assumption) wU ?_)
     go_ret
     exact ⟨rfl, hS2.b⟩
   ·have dc : decide ((l.length : Int) ≤ c) = false := decide_eq_false hc
    clear CM h hs hg hc
    go_enter Tryz.func38, Tryz.ntmps38
    go_wp2_with (first | (with_reducible refine wpList_ldB (by first | exact F_int | fail) wU wU (by assumption) wU ?_) | (with_reducible refine wpList_ldS (n := 4) (us := mC m ad cap) A_rmach kR wU wU (by assumption) wU wU ?_))
    refine (HSh.out _).mono ?_
    rintro e w1 ⟨rfl, b1⟩
    have hS1 := hS0.mono b1
    have q1_rm := (hS1.blk 0 rfl).1
    have q1_m := (hS1.blk 1 rfl).1
    clear hS0
    go_wp2_with (with_reducible refine wpList_ldB (by first | exact F_int | fail) wU wU (by assumption) wU ?_)
    go_ret
    exact ⟨rfl, hS1.b⟩
  ·have dg : decide (m.gears ≤ g) = false := decide_eq_false hg
   clear CM h hs hg
   go_enter Tryz.func38, Tryz.ntmps38
   go_wp2_with (first | (with_reducible refine wpList_ldB (by first | exact F_int | fail) wU wU (by assumption) wU ?_) | (with_reducible refine wpList_ldS (n := 4) (us := mC m ad cap) A_rmach kR wU wU (by assumption) wU wU ?_))
   refine (HSh.out _).mono ?_
   rintro e w1 ⟨rfl, b1⟩
   have hS1 := hS0.mono b1
   have q1_rm := (hS1.blk 0 rfl).1
   have q1_m := (hS1.blk 1 rfl).1
   clear hS0
   go_wp2_with (with_reducible refine wpList_ldB (by first | exact F_int | fail) wU wU (by assumption) wU ?_)
   go_ret
   exact ⟨rfl, hS1.b⟩
 ·rw [show (decide (m.sw.length ≤ 19) && decide (l.length ≤ 67)) = false by
   rcases Nat.lt_or_ge 19 m.sw.length with h1 | h1
   ·rw [decide_eq_false (by omega)]; rfl
   ·rw [decide_eq_true h1, decide_eq_false (by omega)]; rfl] at CSh
  have HSh := hid CSh
  clear CSh CM h hs
  go_enter Tryz.func38, Tryz.ntmps38
  go_wp2_with (first | (with_reducible refine wpList_ldB (by first | exact F_int | fail) wU wU (by assumption) wU ?_) | (with_reducible refine wpList_ldS (n := 4) (us := mC m ad cap) A_rmach kR wU wU (by assumption) wU wU ?_))
  refine (HSh.out _).mono ?_
  rintro e w1 ⟨rfl, b1⟩
  have hS1 := hS0.mono b1
  have q1_rm := (hS1.blk 0 rfl).1
  have q1_m := (hS1.blk 1 rfl).1
  clear hS0
  go_wp2_with (with_reducible refine wpList_ldB (by first | exact F_int | fail) wU wU (by assumption) wU ?_)
  go_ret
  exact ⟨rfl, hS1.b⟩
end Go.Proofs.YtglpfpdomnllkaaGreat

namespace Go.Proofs.YtglpfpdomnllkaaGreat
open Go.RowKit
set_option maxHeartbeats 8000000
set_option maxRecDepth 100000
theorem hv_exp : expL [-1, -1] = -2 := by decide +kernel
theorem hv_word : wordE ((2 : Nat) : Int) [-1, -1] = 0 := by decide +kernel
theorem hv_norm (a : Option Addr) (c : Nat) (w : World) (h : Ints w a c [-1, -1]) : Calls Tryz.prog 39 #[.int .i64 2, .slice a 2 c] w fun r w' => ∃ v, r = .returned (.tuple #[v, .int .i64 0]) ∧ (∃ a c, v = .agg #[.int .i64 (-2), .slice a 0 c]) ∧ Below w.heap.size w w' := by
 have h3 := Normal_any 2 a c [-1, -1] w h hv_word
 rw [form_two] at h3
 refine h3.mono ?_
 rintro e w' ⟨v, rfl, ⟨a2, c2, H, rfl, -, -⟩, b⟩
 exact ⟨_, rfl, ⟨a2, c2, rfl⟩, b⟩
theorem hv_expo (a : Option Addr) (c : Nat) (w : World) (h : Ints w a c [-1, -1]) : Calls Tryz.prog 26 #[.int .i64 2, .slice a 2 c] w fun r w' => r = .returned (.tuple #[.int .i64 (-2), .int .i64 0]) ∧ Below w.heap.size w w' := by
 have h3 := Exponent_any 2 a c [-1, -1] w h hv_word
 rw [hv_exp] at h3
 exact h3
theorem hawserWeaves_any (w : World) : Calls Tryz.prog 22 #[] w fun r w' => r = .returned (.bool true) ∧ Below w.heap.size w w' := by
 go_enter Tryz.func22, Tryz.ntmps22
 go_wp2_with fail
 refine (one_word _ _ (reps_of_own (own_newN cIntS [0, 2] 2 rfl (by decide) _ rfl (Nat.le_refl _) rfl) rfl)).mono ?_
 rintro e w1 ⟨v1, rfl, ho1, b1⟩
 obtain ⟨aW, cW, rfl, hW, _, _⟩ := ho1.reps
 have t1 := bnext (bal (Below.refl _ _) _) b1
 clear ho1 b1
 go_wp2_with fail
 refine (hv_norm aW cW _ hW).mono ?_
 rintro e w2 ⟨v2, rfl, ⟨aF, cF, rfl⟩, b2⟩
 have hW2 := hW.below b2
 have t2 := bnext t1 b2
 have hS := (SL.nil w2).box (.cells #[.int .i64 (-2), .slice aF 0 cF] 69)
 have q := (hS.blk 0 rfl).1
 clear hW b2 t1
 go_wp2_with fail
 have hW3 := hW2.below hS.b
 refine (hv_expo aW cW _ hW3).mono ?_
 rintro e w3 ⟨rfl, b3⟩
 have hS3 := hS.mono b3
 have hW4 := hW3.below b3
 have q3 := (hS3.blk 0 rfl).1
 clear hS q hW2 hW3 b3
 go_wp2_with (with_reducible refine wpList_ldB (by first | exact F_int | fail) wU wU (by assumption) wU ?_)
 have hW5 := hW4.below (bal (Below.refl _ _) (.cells #[.int .i64 (-1), .int .i64 (-1)] 3))
 have hS5 := hS3.box (.cells #[.int .i64 (-1), .int .i64 (-1)] 3)
 refine (amSame aW _ cW 2 2 [-1, -1] _ hW5 (reps_of_own (own_newN cIntS [-1, -1] 2 rfl (by decide) _ rfl (Nat.le_refl _) rfl) rfl) rfl (by decide)).mono ?_
 rintro e w6 ⟨rfl, b6⟩
 have hS6 := hS5.mono b6
 have q6 := (hS6.blk 1 rfl).1
 clear hS3 q3 hW4 hW5 hS5 b6
 go_wp2_with (first | (with_reducible refine wpList_ldB (by first | exact F_int | fail) wU wU (by assumption) wU ?_) | (with_reducible refine wpList_ldB F_sls wU wU (by assumption) wU ?_))
 go_ret
 exact ⟨rfl, bnext t2 hS6.b⟩
theorem made_ok (m : MacV) (ad al : Option Addr) (cap cl : Nat) (l : List Int) (n : Int) (w : World) (hR : Ints w ad cap m.sw) (hL : Ints w al cl l) (hf : Fits m l 6 6) (h0 : 0 < l.length) (hr : m.ring = false) (n0 : 0 ≤ n) (n1 : n ≤ 24) (hm : meetsM m l n = false) :
  Calls Tryz.prog 21 #[mV m ad cap, .slice al l.length cl, .int .i64 n] w fun r w' => r = .returned (.bool true) ∧ Below w.heap.size w w' := by
 have hS0 := (SL.nil w).box (.cells (mC m ad cap) 24)
 have hlc := hL.le
 have hlm := hL.max
 have HF := hid (fun w h h2 => tfits_ok m ad al cap cl l 6 6 w h h2 hf)
 have hlk := loadE_zero hf.2.2.2
 have hl6 := hf.2.2.1
 have CME := fun w h h2 => rMeets_any m ad cap al cl l n w h h2 hlk.ok.lo hlk.ok.hi hlk.rng (by omega) hlk.nodup
 rw [hm] at CME
 have HM := hid CME; have HRG := hid hr
 have d1 : decide ((0 : Int) < (l.length : Int)) = true := decide_eq_true (by omega)
 have d2 : decide (0 ≤ n) = true := decide_eq_true n0
 have d3 : decide (n ≤ 24) = true := decide_eq_true n1
 clear CME hlk hr n0 n1 hm hf hl6
 go_enter Tryz.func21, Tryz.ntmps21
 go_wp2_with (with_reducible refine wpList_ldS (n := 4) (us := mC m ad cap) A_mach kR wU wU (by assumption) wU wU ?_)
 refine (HF.out _ (hR.below hS0.b) (hL.below hS0.b)).mono ?_
 rintro e w1 ⟨rfl, b1⟩
 have hS1 := hS0.mono b1
 have q1_m := (hS1.blk 0 rfl).1
 clear hS0
 go_wp2_with (first | (with_reducible refine wpList_ldS (n := 4) (us := mC m ad cap) A_mach kR wU wU (by assumption) wU wU ?_) | (with_reducible refine wpList_ldB (v := .bool false) F_boolM wU wU (by assumption) (by have h : (mC m ad cap)[0]? = some (.bool m.ring) := rfl; rw [HRG.out] at h; exact h) ?_) | (with_reducible refine wpList_ldB (by first | exact F_int | fail) wU wU (by assumption) wU ?_))
 refine (HM.out _ (hR.below hS1.b) (hL.below hS1.b)).mono ?_
 rintro e w2 ⟨rfl, b2⟩
 have hS2 := hS1.mono b2
 have q2_m := (hS2.blk 0 rfl).1
 clear hS1 q1_m
 go_wp2_with (first | (with_reducible refine wpList_ldS (n := 4) (us := mC m ad cap) A_mach kR wU wU (by assumption) wU wU ?_) | (with_reducible refine wpList_ldB (v := .bool false) F_boolM wU wU (by assumption) (by have h : (mC m ad cap)[0]? = some (.bool m.ring) := rfl; rw [HRG.out] at h; exact h) ?_) | (with_reducible refine wpList_ldB (by first | exact F_int | fail) wU wU (by assumption) wU ?_))
 go_ret
 exact ⟨rfl, hS2.b⟩
theorem made_meet (m : MacV) (ad al : Option Addr) (cap cl : Nat) (l : List Int) (n : Int) (w : World) (hR : Ints w ad cap m.sw) (hL : Ints w al cl l) (hf : Fits m l 6 6) (h0 : 0 < l.length) (hr : m.ring = false) (n0 : 0 ≤ n) (n1 : n ≤ 24) (hm : meetsM m l n = true) :
  Calls Tryz.prog 21 #[mV m ad cap, .slice al l.length cl, .int .i64 n] w fun r w' => r = .returned (.bool false) ∧ Below w.heap.size w w' := by
 have hS0 := (SL.nil w).box (.cells (mC m ad cap) 24)
 have hlc := hL.le
 have hlm := hL.max
 have HF := hid (fun w h h2 => tfits_ok m ad al cap cl l 6 6 w h h2 hf)
 have hlk := loadE_zero hf.2.2.2
 have hl6 := hf.2.2.1
 have CME := fun w h h2 => rMeets_any m ad cap al cl l n w h h2 hlk.ok.lo hlk.ok.hi hlk.rng (by omega) hlk.nodup
 rw [hm] at CME
 have HM := hid CME; have HRG := hid hr
 have d1 : decide ((0 : Int) < (l.length : Int)) = true := decide_eq_true (by omega)
 have d2 : decide (0 ≤ n) = true := decide_eq_true n0
 have d3 : decide (n ≤ 24) = true := decide_eq_true n1
 clear CME hlk hr n0 n1 hm hf hl6
 go_enter Tryz.func21, Tryz.ntmps21
 go_wp2_with (with_reducible refine wpList_ldS (n := 4) (us := mC m ad cap) A_mach kR wU wU (by assumption) wU wU ?_)
 refine (HF.out _ (hR.below hS0.b) (hL.below hS0.b)).mono ?_
 rintro e w1 ⟨rfl, b1⟩
 have hS1 := hS0.mono b1
 have q1_m := (hS1.blk 0 rfl).1
 clear hS0
 go_wp2_with (first | (with_reducible refine wpList_ldS (n := 4) (us := mC m ad cap) A_mach kR wU wU (by assumption) wU wU ?_) | (with_reducible refine wpList_ldB (v := .bool false) F_boolM wU wU (by assumption) (by have h : (mC m ad cap)[0]? = some (.bool m.ring) := rfl; rw [HRG.out] at h; exact h) ?_) | (with_reducible refine wpList_ldB (by first | exact F_int | fail) wU wU (by assumption) wU ?_))
 refine (HM.out _ (hR.below hS1.b) (hL.below hS1.b)).mono ?_
 rintro e w2 ⟨rfl, b2⟩
 have hS2 := hS1.mono b2
 have q2_m := (hS2.blk 0 rfl).1
 clear hS1 q1_m
 go_wp2_with (first | (with_reducible refine wpList_ldS (n := 4) (us := mC m ad cap) A_mach kR wU wU (by assumption) wU wU ?_) | (with_reducible refine wpList_ldB (v := .bool false) F_boolM wU wU (by assumption) (by have h : (mC m ad cap)[0]? = some (.bool m.ring) := rfl; rw [HRG.out] at h; exact h) ?_) | (with_reducible refine wpList_ldB (by first | exact F_int | fail) wU wU (by assumption) wU ?_))
 go_ret
 exact ⟨rfl, hS2.b⟩
theorem made_long (m : MacV) (ad al : Option Addr) (cap cl : Nat) (l : List Int) (n : Int) (w : World) (hR : Ints w ad cap m.sw) (hL : Ints w al cl l) (hf : Fits m l 6 6) (h0 : 0 < l.length) (hr : m.ring = false) (n0 : 0 ≤ n) (n1 : ¬ n ≤ 24) :
  Calls Tryz.prog 21 #[mV m ad cap, .slice al l.length cl, .int .i64 n] w fun r w' => r = .returned (.bool false) ∧ Below w.heap.size w w' := by
 have hS0 := (SL.nil w).box (.cells (mC m ad cap) 24)
 have hlc := hL.le
 have hlm := hL.max
 have HF := hid (fun w h h2 => tfits_ok m ad al cap cl l 6 6 w h h2 hf)
 have HRG := hid hr
 have d1 : decide ((0 : Int) < (l.length : Int)) = true := decide_eq_true (by omega)
 have d2 : decide (0 ≤ n) = true := decide_eq_true n0
 have d3 : decide (n ≤ 24) = false := decide_eq_false n1
 clear hr n0 n1 hf
 go_enter Tryz.func21, Tryz.ntmps21
 go_wp2_with (with_reducible refine wpList_ldS (n := 4) (us := mC m ad cap) A_mach kR wU wU (by assumption) wU wU ?_)
 refine (HF.out _ (hR.below hS0.b) (hL.below hS0.b)).mono ?_
 rintro e w1 ⟨rfl, b1⟩
 have hS1 := hS0.mono b1
 have q1_m := (hS1.blk 0 rfl).1
 clear hS0
 go_wp2_with (first | (with_reducible refine wpList_ldS (n := 4) (us := mC m ad cap) A_mach kR wU wU (by assumption) wU wU ?_) | (with_reducible refine wpList_ldB (v := .bool false) F_boolM wU wU (by assumption) (by have h : (mC m ad cap)[0]? = some (.bool m.ring) := rfl; rw [HRG.out] at h; exact h) ?_) | (with_reducible refine wpList_ldB (by first | exact F_int | fail) wU wU (by assumption) wU ?_))
 go_ret
 exact ⟨rfl, hS1.b⟩
theorem made_neg (m : MacV) (ad al : Option Addr) (cap cl : Nat) (l : List Int) (n : Int) (w : World) (hR : Ints w ad cap m.sw) (hL : Ints w al cl l) (hf : Fits m l 6 6) (h0 : 0 < l.length) (hr : m.ring = false) (n0 : ¬ 0 ≤ n) :
  Calls Tryz.prog 21 #[mV m ad cap, .slice al l.length cl, .int .i64 n] w fun r w' => r = .returned (.bool false) ∧ Below w.heap.size w w' := by
 have hS0 := (SL.nil w).box (.cells (mC m ad cap) 24)
 have hlc := hL.le
 have hlm := hL.max
 have HF := hid (fun w h h2 => tfits_ok m ad al cap cl l 6 6 w h h2 hf)
 have HRG := hid hr
 have d1 : decide ((0 : Int) < (l.length : Int)) = true := decide_eq_true (by omega)
 have d2 : decide (0 ≤ n) = false := decide_eq_false n0
 clear hr n0 hf
 go_enter Tryz.func21, Tryz.ntmps21
 go_wp2_with (with_reducible refine wpList_ldS (n := 4) (us := mC m ad cap) A_mach kR wU wU (by assumption) wU wU ?_)
 refine (HF.out _ (hR.below hS0.b) (hL.below hS0.b)).mono ?_
 rintro e w1 ⟨rfl, b1⟩
 have hS1 := hS0.mono b1
 have q1_m := (hS1.blk 0 rfl).1
 clear hS0
 go_wp2_with (first | (with_reducible refine wpList_ldS (n := 4) (us := mC m ad cap) A_mach kR wU wU (by assumption) wU wU ?_) | (with_reducible refine wpList_ldB (v := .bool false) F_boolM wU wU (by assumption) (by have h : (mC m ad cap)[0]? = some (.bool m.ring) := rfl; rw [HRG.out] at h; exact h) ?_) | (with_reducible refine wpList_ldB (by first | exact F_int | fail) wU wU (by assumption) wU ?_))
 go_ret
 exact ⟨rfl, hS1.b⟩
theorem made_ring (m : MacV) (ad al : Option Addr) (cap cl : Nat) (l : List Int) (n : Int) (w : World) (hR : Ints w ad cap m.sw) (hL : Ints w al cl l) (hf : Fits m l 6 6) (h0 : 0 < l.length) (hr : m.ring = true) :
  Calls Tryz.prog 21 #[mV m ad cap, .slice al l.length cl, .int .i64 n] w fun r w' => r = .returned (.bool false) ∧ Below w.heap.size w w' := by
 have hS0 := (SL.nil w).box (.cells (mC m ad cap) 24)
 have hlc := hL.le
 have hlm := hL.max
 have HF := hid (fun w h h2 => tfits_ok m ad al cap cl l 6 6 w h h2 hf)
 have HRG := hid hr
 have d1 : decide ((0 : Int) < (l.length : Int)) = true := decide_eq_true (by omega)
 clear hr hf
 go_enter Tryz.func21, Tryz.ntmps21
 go_wp2_with (with_reducible refine wpList_ldS (n := 4) (us := mC m ad cap) A_mach kR wU wU (by assumption) wU wU ?_)
 refine (HF.out _ (hR.below hS0.b) (hL.below hS0.b)).mono ?_
 rintro e w1 ⟨rfl, b1⟩
 have hS1 := hS0.mono b1
 have q1_m := (hS1.blk 0 rfl).1
 clear hS0
 go_wp2_with (first | (with_reducible refine wpList_ldS (n := 4) (us := mC m ad cap) A_mach kR wU wU (by assumption) wU wU ?_) | (with_reducible refine wpList_ldB (v := .bool true) F_boolM wU wU (by assumption) (by have h : (mC m ad cap)[0]? = some (.bool m.ring) := rfl; rw [HRG.out] at h; exact h) ?_) | (with_reducible refine wpList_ldB (by first | exact F_int | fail) wU wU (by assumption) wU ?_))
 go_ret
 exact ⟨rfl, hS1.b⟩
theorem made_none (m : MacV) (ad al : Option Addr) (cap cl : Nat) (l : List Int) (n : Int) (w : World) (hR : Ints w ad cap m.sw) (hL : Ints w al cl l) (hf : Fits m l 6 6) (h0 : ¬ 0 < l.length) :
  Calls Tryz.prog 21 #[mV m ad cap, .slice al l.length cl, .int .i64 n] w fun r w' => r = .returned (.bool false) ∧ Below w.heap.size w w' := by
 have hS0 := (SL.nil w).box (.cells (mC m ad cap) 24)
 have hlc := hL.le
 have hlm := hL.max
 have HF := hid (fun w h h2 => tfits_ok m ad al cap cl l 6 6 w h h2 hf)
 have d1 : decide ((0 : Int) < (l.length : Int)) = false := decide_eq_false (by omega)
 clear hf
 go_enter Tryz.func21, Tryz.ntmps21
 go_wp2_with (with_reducible refine wpList_ldS (n := 4) (us := mC m ad cap) A_mach kR wU wU (by assumption) wU wU ?_)
 refine (HF.out _ (hR.below hS0.b) (hL.below hS0.b)).mono ?_
 rintro e w1 ⟨rfl, b1⟩
 have hS1 := hS0.mono b1
 have q1_m := (hS1.blk 0 rfl).1
 clear hS0
 go_wp2_with (first | (with_reducible refine wpList_ldS (n := 4) (us := mC m ad cap) A_mach kR wU wU (by assumption) wU wU ?_) | (with_reducible refine wpList_ldB (v := .bool false) F_boolM wU wU (by assumption) (by have h : (mC m ad cap)[0]? = some (.bool m.ring) := rfl; rw [HRG.out] at h; exact h) ?_) | (with_reducible refine wpList_ldB (by first | exact F_int | fail) wU wU (by assumption) wU ?_))
 go_ret
 exact ⟨rfl, hS1.b⟩
theorem made_nofit (m : MacV) (ad al : Option Addr) (cap cl : Nat) (l : List Int) (n : Int) (w : World) (hR : Ints w ad cap m.sw) (hL : Ints w al cl l) (hf : ¬ Fits m l 6 6) :
  Calls Tryz.prog 21 #[mV m ad cap, .slice al l.length cl, .int .i64 n] w fun r w' => r = .returned (.bool false) ∧ Below w.heap.size w w' := by
 have hS0 := (SL.nil w).box (.cells (mC m ad cap) 24)
 have hlc := hL.le
 have hlm := hL.max
 have HF := hid (fun w h h2 => tfits_no m ad al cap cl l 6 6 w h h2 hf)
 clear hf
 go_enter Tryz.func21, Tryz.ntmps21
 go_wp2_with (with_reducible refine wpList_ldS (n := 4) (us := mC m ad cap) A_mach kR wU wU (by assumption) wU wU ?_)
 refine (HF.out _ (hR.below hS0.b) (hL.below hS0.b)).mono ?_
 rintro e w1 ⟨rfl, b1⟩
 have hS1 := hS0.mono b1
 have q1_m := (hS1.blk 0 rfl).1
 clear hS0
 go_wp2_with (first | (with_reducible refine wpList_ldS (n := 4) (us := mC m ad cap) A_mach kR wU wU (by assumption) wU wU ?_) | (with_reducible refine wpList_ldB (v := .bool false) F_boolM wU wU (by assumption) (by have h : (mC m ad cap)[0]? = some (.bool m.ring) := rfl; rw [HRG.out] at h; exact h) ?_) | (with_reducible refine wpList_ldB (by first | exact F_int | fail) wU wU (by assumption) wU ?_))
 go_ret
 exact ⟨rfl, hS1.b⟩
/-- what hawserMade asks. -/
def Made (m : MacV) (l : List Int) (n : Int) : Prop := Fits m l 6 6 ∧ 0 < l.length ∧ m.ring = false ∧ 0 ≤ n ∧ n ≤ 24 ∧ meetsM m l n = false
theorem made_no (m : MacV) (ad al : Option Addr) (cap cl : Nat) (l : List Int) (n : Int) (w : World) (hR : Ints w ad cap m.sw) (hL : Ints w al cl l) (h : ¬ Made m l n) :
  Calls Tryz.prog 21 #[mV m ad cap, .slice al l.length cl, .int .i64 n] w fun r w' => r = .returned (.bool false) ∧ Below w.heap.size w w' := by
 by_cases hf : Fits m l 6 6
 ·by_cases h0 : 0 < l.length
  ·cases hr : m.ring
   ·by_cases n0 : 0 ≤ n
    ·by_cases n1 : n ≤ 24
     ·cases hm : meetsM m l n
      ·exact absurd ⟨hf, h0, hr, n0, n1, hm⟩ h
      ·exact made_meet m ad al cap cl l n w hR hL hf h0 hr n0 n1 hm
     ·exact made_long m ad al cap cl l n w hR hL hf h0 hr n0 n1
    ·exact made_neg m ad al cap cl l n w hR hL hf h0 hr n0
   ·exact made_ring m ad al cap cl l n w hR hL hf h0 hr
  ·exact made_none m ad al cap cl l n w hR hL hf h0
 ·exact made_nofit m ad al cap cl l n w hR hL hf
end Go.Proofs.YtglpfpdomnllkaaGreat
