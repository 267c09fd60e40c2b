/- Contracts and plain facts that the claim uses (MbU AlA KnM CiB OpC LwZ QrP QrQ TuP RmP QrA QrB SpB). Conditions: as each one states. -/
import Derived.RangeFuncNested
import Derived.RangeFuncBound
import Derived.RangeFuncCalls
import Derived.RangeFuncLeaves
import Derived.RangeFuncFrom
import Derived.Shelf.Abstract
import Derived.Shelf.RegionOpen
import Derived.WalkKit
import Derived.OwnWalkIn
import Derived.TacticsInMore
import Derived.LoopNIn
import Derived.LoopIn
import Derived.Test.YtglpfpdomnllkaaGreatProg
import Derived.WalkSpells
import Derived.Maps.AppendAt
import Derived.Deep.Quiet
import Derived.Maps.Own
import Derived.Maps.OwnSet
import Derived.Maps.Views
import Derived.WalkLawsBesides
import Derived.Laws.EntriesVeiled
import Derived.Deep.QuietTactic
import Derived.BigQuiet
import Derived.Shelf.Strings.Trim
import Derived.Shelf.Strings.SlTrimAscii
import Derived.Shelf.Strings.Repeat
import Derived.Shelf.Strings.OnBuilder
import Derived.Shelf.Strconv.Itoa1
import Derived.Shelf.Strconv.Itoa3
import Derived.Shelf.LaysM
import Derived.Ground.Names2Prog
import Derived.Lib.OthersKept
import Derived.Deep.RegionHeld3
import Derived.Deep.AppendLies
import Derived.Deep.RegionHeldLaw
import Derived.Deep.RegionLaw
import Derived.StillTail
import Derived.Laws.Tables
import Derived.IntWalk
import Derived.Laws.CopyOwn
import Derived.BigRegion
import Derived.ChangeAlike
import Derived.Shelf.Bits.Mul64
import Derived.Lib.ItoaLen
import Derived.Lib.ItoaMem
import Derived.Sort.LoopGhostIn
import Derived.Maps.RangeWalk
import Derived.Sort.QuietThIn
import Derived.Maps.Ext
import Derived.Deep.LoopGhost
import Derived.ReadAgain
import Derived.ChangeSlices
import Derived.Lib.SmallJoins
import Derived.OpenShut
import Derived.ProofKit
import Derived.Deep.DeepHandedRow
import Derived.Deep.SlicePairs
import Derived.Test.YtglpfpdomnllkaaGreatRows
import Derived.Test.YtglpfpdomnllkaaGreatChecked
import Derived.Test.YtglpfpdomnllkaaGreatXt01
import Derived.Test.YtglpfpdomnllkaaGreatXt02
import Derived.Test.YtglpfpdomnllkaaGreatXt03
import Derived.Test.YtglpfpdomnllkaaGreatXt04
import Derived.Test.YtglpfpdomnllkaaGreatXt05
import Derived.Test.YtglpfpdomnllkaaGreatXt06
import Derived.Test.YtglpfpdomnllkaaGreatXt07
import Derived.Test.YtglpfpdomnllkaaGreatY7901
set_option linter.all false

namespace Go.Proofs.YtglpfpdomnllkaaGreat
open Go.RowKit
set_option maxHeartbeats 8000000
set_option maxRecDepth 100000

theorem wring0 (m : MacV) (hr : m.ring = false) (w : World) : Calls Tryz.prog 57 #[.bool m.ring, .int .i64 13] w fun r w' => r = .returned (.int .i64 0) ∧ Below w.heap.size w w' := by
 have := calls_below (mwhen_any m.ring 13 w)
 rw [hr] at this ⊢
 exact this
theorem wring1 (m : MacV) (hr : m.ring = true) (w : World) : Calls Tryz.prog 57 #[.bool m.ring, .int .i64 13] w fun r w' => r = .returned (.int .i64 13) ∧ Below w.heap.size w w' := by
 have := calls_below (mwhen_any m.ring 13 w)
 rw [hr] at this ⊢
 exact this
theorem wringR (m : MacV) (w : World) : Calls Tryz.prog 57 #[.bool m.ring, .int .i64 13] w fun r w' => r = .returned (.int .i64 (if m.ring = true then (13 : Int) else 0)) ∧ Below w.heap.size w w' :=
 calls_below (mwhen_any m.ring 13 w)

noncomputable def orderE (m : MacV) (l : List Int) : Int := if loadE m l ≠ 0 then loadE m l else if m.ring = true then 13 else if meetsM m l 0 = true then 16 else 0
theorem mOrder_any (m : MacV) (ad : Option Addr) (cap : Nat) (al : Option Addr) (cl : Nat) (l : List Int) (w : World) (hR : Ints w ad cap m.sw) (hL : Ints w al cl l) (HK : ChkL m ad cap al cl l) :
  Calls Tryz.prog 14 #[mV m ad cap, .slice al l.length cl] w fun r w' => ∃ v, r = .returned (.tuple #[v, .int .i64 (orderE m l)]) ∧ OwnI w.heap.size w' v (if orderE m l = 0 then orderM m l else []) ∧ Below w.heap.size w w' := by
 have hcap := hL.le
 have hmx := hL.max
 have hS := (SL.nil w).box (.cells (mC m ad cap) 24)
 have q1 := (hS.blk 0 rfl).1
 have R1 := hR.below hS.b
 have L1 := hL.below hS.b
 unfold ChkL at HK
 by_cases he : loadE m l = 0
 ·have hok := loadE_zero he
  have hlo := hok.ok.lo
  have hhi := hok.ok.hi
  rw [he] at HK
  have CM := fun w h h2 => meets_any m ad al cap cl l 0 w h h2 hhi hok.rng
  have CO := fun w h => order_any m ad cap al cl l w h (by omega) hhi
  have hv : orderE m l = if m.ring = true then 13 else if meetsM m l 0 = true then 16 else 0 := by unfold orderE; rw [if_neg (by simp [he])]
  rw [hv]
  have HC := hid HK; have HO := hid CO
  clear HK hv he hok CO
  cases hr : m.ring
  ·have HW := hid (wring0 m hr)
   clear hr
   cases hm : meetsM m l 0
   all_goals
    rw [hm] at CM
    have HM := hid CM
    clear CM hm
    go_enter Tryz.func14, Tryz.ntmps14
    go_wp2_with fail
    refine wp_region_qt 6 kR kR ?_
    simp only [List.take_succ_cons, List.take_zero, List.drop_succ_cons, List.drop_zero]
    repeat (first | ((with_reducible refine wpB_loadS (n := 4) (us := mC m ad cap) A_mach kR wU wU (by assumption) wU wU ?_); (try simp only [Act.put, pA, pB, pC])) | ((with_reducible refine wpB_load F_boolM wU wU (by assumption) wU ?_); (try simp only [Act.put, pA, pB, pC])) | ((refine wpB_call (.int .i64 0) wU (fun w' => ?_) (fun w' hw' => HC.out w' (R1.below hw') (L1.below hw')) ?_); (focus (go_simp; done)); (try simp only [Act.put, pA, pB, pC])) | ((refine wpB_call (.int .i64 0) wU (fun w' => ?_) (fun w' hw' => HW.out w') ?_); (focus (go_simp; done)); (try simp only [Act.put, pA, pB, pC])) | ((with_reducible refine wpQ_skip wU ?_); (try simp only [Act.put, pA, pB, pC])) |  ((with_reducible refine wpB_load (by first | exact F_int | fail) wU wU (by assumption) wU ?_); (try simp only [Act.put, pA, pB, pC])) | ((with_reducible refine wpB_loadS (n := 2) (us := #[_, _]) (by fail) kR wU wU (by assumption) wU wU ?_); (try simp only [Act.put, pA, pB, pC])) | ((with_reducible refine wpB_loadS (n := 4) (us := #[_, _, _, _]) (by fail) kR wU wU (by assumption) wU wU ?_); (try simp only [Act.put, pA, pB, pC])) | ((refine wpQ_oneG ?_ wU (fun w' => ?_) ?_); rotate_left; (go_simp; rfl); (try simp only [Act.put, pA, pB, pC])))
    refine wpQuiet_nil ?_
    intro w1 hb1
    have hS1 := hS.mono hb1
    have hS2 := hS1.al (.cells #[.int .i64 0, .int .i64 0] 34)
    have q2 := (hS2.blk 0 rfl).1
    go_wp2_with (first | (go_at_call 55; refine (mfirst_any _ _ [_, _] _ (reps_newN cIntS [_, _] 2 rfl (by decide) _ _ (by simp) rfl)).mono ?_; rw [firstE_z, firstE_z, firstE_nil]; rintro e w' ⟨rfl, rfl⟩) | (with_reducible refine wpList_ldS (n := 4) (us := mC m ad cap) A_mach kR wU wU (by assumption) wU wU ?_))
    refine (HM.out _ (hR.below hS2.b) (hL.below hS2.b)).mono ?_
    rintro e w3 ⟨rfl, b3⟩
    have hS3 := hS2.mono b3
    have q3 := (hS3.blk 0 rfl).1
    clear q2
    go_wp2_with (with_reducible refine wpList_ldS (n := 4) (us := mC m ad cap) A_mach kR wU wU (by assumption) wU wU ?_)
    first
     | (go_ret2; exact ⟨_, rfl, own_nil cIntS, hS3.b⟩)
     | (refine (HO.out _ (hL.below hS3.b)).mono ?_
        rintro e w4 ⟨v, rfl, ho, b4⟩
        go_wp2_with fail
        go_ret2
        exact ⟨_, rfl, ho.mono hS3.b.size, bnext hS3.b b4⟩)
  ·have HW := hid (wring1 m hr)
   clear CM hr
   go_enter Tryz.func14, Tryz.ntmps14
   go_wp2_with fail
   refine wp_region_qt 6 kR kR ?_
   simp only [List.take_succ_cons, List.take_zero, List.drop_succ_cons, List.drop_zero]
   repeat (first | ((with_reducible refine wpB_loadS (n := 4) (us := mC m ad cap) A_mach kR wU wU (by assumption) wU wU ?_); (try simp only [Act.put, pA, pB, pC])) | ((with_reducible refine wpB_load F_boolM wU wU (by assumption) wU ?_); (try simp only [Act.put, pA, pB, pC])) | ((refine wpB_call (.int .i64 0) wU (fun w' => ?_) (fun w' hw' => HC.out w' (R1.below hw') (L1.below hw')) ?_); (focus (go_simp; done)); (try simp only [Act.put, pA, pB, pC])) | ((refine wpB_call (.int .i64 13) wU (fun w' => ?_) (fun w' hw' => HW.out w') ?_); (focus (go_simp; done)); (try simp only [Act.put, pA, pB, pC])) | ((with_reducible refine wpQ_skip wU ?_); (try simp only [Act.put, pA, pB, pC])) |  ((with_reducible refine wpB_load (by first | exact F_int | fail) wU wU (by assumption) wU ?_); (try simp only [Act.put, pA, pB, pC])) | ((with_reducible refine wpB_loadS (n := 2) (us := #[_, _]) (by fail) kR wU wU (by assumption) wU wU ?_); (try simp only [Act.put, pA, pB, pC])) | ((with_reducible refine wpB_loadS (n := 4) (us := #[_, _, _, _]) (by fail) kR wU wU (by assumption) wU wU ?_); (try simp only [Act.put, pA, pB, pC])) | ((refine wpQ_oneG ?_ wU (fun w' => ?_) ?_); rotate_left; (go_simp; rfl); (try simp only [Act.put, pA, pB, pC])))
   refine wpQuiet_nil ?_
   intro w1 hb1
   have hS1 := hS.mono hb1
   go_wp2_with (go_at_call 55; refine (mfirst_any _ _ [_, _] _ (reps_newN cIntS [_, _] 2 rfl (by decide) _ _ (by simp) rfl)).mono ?_; rw [firstE_z, firstE_head (by decide)]; rintro e w' ⟨rfl, rfl⟩)
   go_ret2
   exact ⟨_, rfl, own_nil cIntS, bal hS1.b _⟩
 ·obtain ⟨E, hE⟩ : ∃ E, E = loadE m l := ⟨_, rfl⟩
  have hv : orderE m l = E := by unfold orderE; rw [if_pos he, hE]
  rw [← hE] at HK he
  have hne : (E != 0) = true := by simpa using he
  rw [hv, if_neg he]
  have HC := hid HK
  clear hv hE HK
  obtain ⟨R, hR2⟩ : ∃ R, R = (if m.ring = true then (13 : Int) else 0) := ⟨_, rfl⟩
  have HW := hid (wringR m)
  rw [← hR2] at HW
  clear hR2
  skip
  ·go_enter Tryz.func14, Tryz.ntmps14
   go_wp2_with fail
   refine wp_region_qt 6 kR kR ?_
   simp only [List.take_succ_cons, List.take_zero, List.drop_succ_cons, List.drop_zero]
   repeat (first | ((with_reducible refine wpB_loadS (n := 4) (us := mC m ad cap) A_mach kR wU wU (by assumption) wU wU ?_); (try simp only [Act.put, pA, pB, pC])) | ((with_reducible refine wpB_load F_boolM wU wU (by assumption) wU ?_); (try simp only [Act.put, pA, pB, pC])) | ((refine wpB_call (.int .i64 E) wU (fun w' => ?_) (fun w' hw' => HC.out w' (R1.below hw') (L1.below hw')) ?_); (focus (go_simp; done)); (try simp only [Act.put, pA, pB, pC])) | ((refine wpB_call (.int .i64 R) wU (fun w' => ?_) (fun w' hw' => HW.out w') ?_); (focus (go_simp; done)); (try simp only [Act.put, pA, pB, pC])) | ((with_reducible refine wpQ_skip wU ?_); (try simp only [Act.put, pA, pB, pC])) |  ((with_reducible refine wpB_load (by first | exact F_int | fail) wU wU (by assumption) wU ?_); (try simp only [Act.put, pA, pB, pC])) | ((with_reducible refine wpB_loadS (n := 2) (us := #[_, _]) (by fail) kR wU wU (by assumption) wU wU ?_); (try simp only [Act.put, pA, pB, pC])) | ((with_reducible refine wpB_loadS (n := 4) (us := #[_, _, _, _]) (by fail) kR wU wU (by assumption) wU wU ?_); (try simp only [Act.put, pA, pB, pC])) | ((refine wpQ_oneG ?_ wU (fun w' => ?_) ?_); rotate_left; (go_simp; rfl); (try simp only [Act.put, pA, pB, pC])))
   refine wpQuiet_nil ?_
   intro w1 hb1
   have hS1 := hS.mono hb1
   go_wp2_with (go_at_call 55; refine (mfirst_any _ _ [_, _] _ (reps_newN cIntS [_, _] 2 rfl (by decide) _ _ (by simp) rfl)).mono ?_; rw [firstE_head he]; rintro e w' ⟨rfl, rfl⟩)
   go_ret2
   exact ⟨_, rfl, own_nil cIntS, bal hS1.b _⟩

noncomputable def crossE (m : MacV) (l : List Int) : Int := if loadE m l ≠ 0 then loadE m l else if meetsM m l 0 = true then 16 else 0
theorem cX1 (x : CrM) : cX x = .agg (cX x).cells := rfl
theorem cXS (x : CrM) : (cX x).cells.size = 3 := rfl
theorem cXO (x : CrM) : ∀ u ∈ (cX x).cells.toList, u.oneCell' = true := by
 intro u hu; simp [cX, Value.cells] at hu; rcases hu with rfl | rfl | rfl <;> rfl
theorem E_xs : ETy Tryz.prog 54 58 (.agg #[.int .i64 0, .int .i64 0, .int .i64 0]) 3 24 := ⟨Tryz.underlying54, by kernel_rfl, rfl, by decide⟩
theorem crossings1_any (c : CrM) (w : World) :
  Calls Tryz.prog 77 #[cCr c] w fun r w' => r = .returned (cX c) ∧ Below w.heap.size w w' := by
 have hS := ((SL.nil w).box (.cells #[.int .i64 c.gear, .int .i64 c.over, .int .i64 c.under, .int .i64 c.going] 88)).box (.cells #[.int .i64 0, .int .i64 0, .int .i64 0] 58)
 simp only [World.size_alloc] at hS
 have q1 := (hS.blk 1 rfl).1
 go_enter Tryz.func77, Tryz.ntmps77
 go_wp2_with (first | (with_reducible refine wpList_ldS (n := 3) (us := #[.int .i64 c.gear, .int .i64 c.over, .int .i64 c.under]) A_xs kR wU wU (by assumption) wU wU ?_) | ((with_reducible refine wpList_stoR (us := #[.int .i64 c.gear, .int .i64 c.over, .int .i64 c.under]) 0 wU wU (hS) wU kR wU wU ?_); intro w4 hS4))
 exact bodyPost_ret (results_cell rfl rfl A_xs kR (hS4.blk 0 rfl).1) rfl ⟨rfl, hS4.b⟩
theorem mappedX_any (al : Option Addr) (cl : Nat) (l : List CrM) (w : World) (hL : Reps cCr 4 w al cl l) (hn : l.length ≤ 1048576) :
  Calls Tryz.prog 76 #[.slice al l.length cl, .func (.func 77) #[] #[]] w fun r w' => ∃ v, r = .returned v ∧ Own cX 3 w.heap.size 58 w' v l ∧ Below w.heap.size w w' := by
 have hcap := hL.le
 have hmx := hL.max
 have HF := hid crossings1_any
 have hS := (SL.nil w).nilS (α := CrM) (c := cX) (sz := 3) (e := 58) cXS
 go_enter Tryz.func76, Tryz.ntmps76
 go_wp2_with fail
 go_loopw [5, 10] (fun v i wr => ∃ k : Nat, k ≤ l.length ∧ i = .int .i64 k ∧ SL w.heap.size w wr [pOwn cX 3 58 v (l.take k)]) (fun _ i _ => l.length - (intOf i).toNat)
 case atStart => exact ⟨0, by omega, rfl, hS⟩
 case round =>
  clear hS
  obtain ⟨k, hk, rfl, hSr⟩ := hrel
  have hLr := hL.below hSr.b
  by_cases hlt : k < l.length
  ·have ht : l.take (k + 1) = l.take k ++ [atD ⟨0, 0, 0, 0⟩ l k] := by rw [List.take_succ_eq_append_getElem hlt]; simp [atD, hlt]
   have hlen : (l.take k).length ≤ 1048576 := by simp; omega
   obtain ⟨x, hx⟩ : ∃ x, x = atD (⟨0, 0, 0, 0⟩ : CrM) l k := ⟨_, rfl⟩
   rw [← hx] at ht
   have HX := hid hx; have HT := hid ht
   clear hx ht
   have hS1 := hSr.box (.cells #[.int .i64 x.gear, .int .i64 x.over, .int .i64 x.under, .int .i64 x.going] 88)
   have q1 := (hS1.blk 0 rfl).1
   go_wp2_with (first | ((with_reducible refine wpList_idxS _ ⟨0, 0, 0, 0⟩ E_crs A_crs cCr1 wU wU (hLr) oD oD (fun _ => wU) (fun _ => ?_)); rw [← HX.out]) | (with_reducible refine wpList_ldS (n := 4) (us := #[.int .i64 x.gear, .int .i64 x.over, .int .i64 x.under, .int .i64 x.going]) A_crs kR wU wU (by assumption) wU wU ?_))
   refine (HF.out x _).mono ?_
   rintro e w2 ⟨rfl, b2⟩
   have hS2 := hS1.mono b2
   go_wp2_with ((with_reducible refine wpList_pushL (y := x) 1 E_xs wU wU (hS2) wU cXO ⟨rfl, rfl⟩ (by first | with_unfolding_all rfl | simp) wU (by first | omega | (simp; omega)) (by first | omega | (simp; omega)) ?_); intro v3 w3 hS3)
   exact ⟨⟨k + 1, by omega, by go_num, by rw [HT.out]; exact hS3.tail⟩, by simp [intOf]; omega⟩
  ·have hkk : k = l.length := by omega
   subst hkk
   rw [List.take_length] at hSr
   go_wp2_with fail
   go_ret
   exact ⟨_, rfl, hSr.own 0 rfl, hSr.b⟩
theorem mCrossings_any (m : MacV) (ad : Option Addr) (cap : Nat) (al : Option Addr) (cl : Nat) (l : List Int) (w : World) (hR : Ints w ad cap m.sw) (hL : Ints w al cl l) (HK : ChkL m ad cap al cl l) :
  Calls Tryz.prog 30 #[mV m ad cap, .slice al l.length cl] w fun r w' => ∃ v, r = .returned (.tuple #[v, .int .i64 (crossE m l)]) ∧ Own cX 3 w.heap.size 58 w' v (if crossE m l = 0 then crossM m l else []) ∧ Below w.heap.size w w' := by
 have hcap := hL.le
 have hmx := hL.max
 have hS := (SL.nil w).box (.cells (mC m ad cap) 24)
 have q1 := (hS.blk 0 rfl).1
 have R1 := hR.below hS.b
 have L1 := hL.below hS.b
 unfold ChkL at HK
 by_cases he : loadE m l = 0
 ·have hok := loadE_zero he
  have hlo := hok.ok.lo
  have hhi := hok.ok.hi
  rw [he] at HK
  have CM := fun w h h2 => meets_any m ad al cap cl l 0 w h h2 hhi hok.rng
  have CO := fun w h => crossings_any m ad cap al cl l w h (by omega) hhi
  have hlen : (crossM m l).length ≤ 1048576 := by have := crossM_len m l; omega
  have hv : crossE m l = if meetsM m l 0 = true then 16 else 0 := by unfold crossE; rw [if_neg (by simp [he])]
  rw [hv]
  have HC := hid HK; have HO := hid CO
  clear HK hv he hok CO
  cases hm : meetsM m l 0
  all_goals
   rw [hm] at CM
   have HM := hid CM
   clear CM hm
   go_enter Tryz.func30, Tryz.ntmps30
   go_wp2_with (with_reducible refine wpList_ldS (n := 4) (us := mC m ad cap) A_mach kR wU wU (by assumption) wU wU ?_)
   refine (HC.out _ R1 L1).mono ?_
   rintro e w1 ⟨rfl, b1⟩
   have hS1 := hS.mono b1
   have q2 := (hS1.blk 0 rfl).1
   clear q1
   go_wp2_with (with_reducible refine wpList_ldS (n := 4) (us := mC m ad cap) A_mach kR wU wU (by assumption) wU wU ?_)
   refine (HM.out _ (hR.below hS1.b) (hL.below hS1.b)).mono ?_
   rintro e w3 ⟨rfl, b3⟩
   have hS3 := hS1.mono b3
   have q3 := (hS3.blk 0 rfl).1
   clear q2
   go_wp2_with (with_reducible refine wpList_ldS (n := 4) (us := mC m ad cap) A_mach kR wU wU (by assumption) wU wU ?_)
   first
    | (go_ret2; exact ⟨_, rfl, own_nil cXS, hS3.b⟩)
    | (refine (HO.out _ (hL.below hS3.b)).mono ?_
       rintro e w4 ⟨v, rfl, ho, b4⟩
       obtain ⟨a4, c4, rfl, hr4, _⟩ := ho.reps
       go_wp2_with fail
       refine (mappedX_any a4 c4 _ _ hr4 hlen).mono ?_
       rintro e w5 ⟨v5, rfl, ho5, b5⟩
       go_wp2_with fail
       go_ret2
       exact ⟨_, rfl, ho5.mono (bnext hS3.b b4).size, bnext hS3.b (bnext b4 b5)⟩)
 ·obtain ⟨E, hE⟩ : ∃ E, E = loadE m l := ⟨_, rfl⟩
  have hv : crossE m l = E := by unfold crossE; rw [if_pos he, hE]
  rw [← hE] at HK he
  have hne : (E != 0) = true := by simpa using he
  rw [hv, if_neg he]
  have HC := hid HK
  clear hv hE HK
  go_enter Tryz.func30, Tryz.ntmps30
  go_wp2_with (with_reducible refine wpList_ldS (n := 4) (us := mC m ad cap) A_mach kR wU wU (by assumption) wU wU ?_)
  refine (HC.out _ R1 L1).mono ?_
  rintro e w1 ⟨rfl, b1⟩
  have hS1 := hS.mono b1
  go_wp2_with fail
  go_ret2
  exact ⟨_, rfl, own_nil cXS, hS1.b⟩
end Go.Proofs.YtglpfpdomnllkaaGreat

namespace Go.Proofs.YtglpfpdomnllkaaGreat
open Go.RowKit
set_option maxHeartbeats 1000000
set_option maxRecDepth 100000

theorem reps_of_own {α : Type} {c : α → Value} {sz B : Nat} {e : TypeId} {w : World} {a : Option Addr} {n cap : Nat} {l : List α} (h : Own c sz B e w (.slice a n cap) l) (hn : n = l.length) : Reps c sz w a cap l := by
 subst hn
 obtain ⟨a', cap', e1, hr, _⟩ := h.reps
 cases e1
 exact hr

end Go.Proofs.YtglpfpdomnllkaaGreat

namespace Go.Proofs.YtglpfpdomnllkaaGreat
open Go.RowKit
set_option maxHeartbeats 1000000
set_option maxRecDepth 100000

end Go.Proofs.YtglpfpdomnllkaaGreat

namespace Go.Proofs.YtglpfpdomnllkaaGreat
open Go.RowKit
set_option maxHeartbeats 1000000
set_option maxRecDepth 100000

end Go.Proofs.YtglpfpdomnllkaaGreat

namespace Go.Proofs.YtglpfpdomnllkaaGreat
open Go.RowKit
set_option maxHeartbeats 4000000
set_option maxRecDepth 100000

end Go.Proofs.YtglpfpdomnllkaaGreat

namespace Go.Proofs.YtglpfpdomnllkaaGreat
open Go.RowKit
set_option maxHeartbeats 4000000
set_option maxRecDepth 100000

theorem rCycles_any (a : Option Addr) (cap : Nat) (p : List Int) (w : World) (hS : Ints w a cap p) (hp : IsP p) (hn : p.length ≤ 100000) :
  Calls Tryz.prog 177 #[.slice a p.length cap] w fun r w' => ∃ (v : Value) (qs : List (SlH × List Int)), r = .returned v ∧ qs.map Prod.snd = cycK p p.length ∧ SL w.heap.size w w' (pOwn cSl 1 22 v (qs.map Prod.fst) :: qs.map inP) := by
 have hcap := hS.le
 have hm0 := hS.max
 have hS0 := SL.nil w
 go_enter Tryz.func177, Tryz.ntmps177
 go_wp2_with ((with_reducible refine wpList_makeL (c := cBool) (p.length) (false) E_bools cBool1 wU wU (by omega) (by omega) (hS0) ?_); intro ad w1 hS1)
 have hS2 := hS1.nilS (α := SlH) (c := cSl) (sz := 1) (e := 22) cSlS
 go_loopw [3, 5, 6, 7] (fun ov i _ _ wr => ∃ (j : Nat) (S : List Bool) (qs : List (SlH × List Int)), j ≤ p.length ∧ i = .int .i64 j ∧ S.length = p.length ∧ (∀ x : Int, 0 ≤ x → x < p.length → atD false S x = decide (x ∈ (cycK p j).flatten)) ∧ qs.map Prod.snd = cycK p j ∧ SL w.heap.size w wr (pOwn cSl 1 22 ov (qs.map Prod.fst) :: pOwn cBool 1 4 (.slice ad p.length p.length) S :: qs.map inP)) (fun _ i _ _ _ => p.length - (intOf i).toNat)
 case atStart =>
  refine ⟨0, List.replicate p.length false, [], by omega, rfl, by simp, fun x h0 h1 => ?_, rfl, hS2⟩
  have : x.toNat < p.length := by omega
  simp [atD, cycK, this]
 case round =>
  obtain ⟨j, S, qs, hj, rfl, hlen, hsn, hqs, hSL⟩ := hrel
  have HSN := hid hsn; have HL := hid hlen; have HQ := hid hqs
  have hql : qs.length ≤ j := by have := cycK_len p j; rw [← hqs] at this; simpa using this
  have hqlen : (qs.map Prod.fst).length ≤ 100000 := by simp; omega
  clear hsn hlen hqs
  by_cases hlt : j < p.length
  ·have hj0 : (0 : Int) ≤ j := by omega
   have hj1 : (j : Int) < p.length := by omega
   by_cases hin : (j : Int) ∈ (cycK p j).flatten
   ·have hsk := HSN.out j hj0 hj1
    rw [decide_eq_true hin] at hsk
    have HSK := hid hsk; have HIN := hid hin
    clear hsk hin
    go_wp2_with fail
    go_loopw [6, 7] (fun cv kv wq => cv = .slice none 0 0 ∧ kv = .int .i64 j ∧ wr = wq) (fun _ _ _ => 0)
    case atStart => exact ⟨rfl, rfl, rfl⟩
    case round =>
     obtain ⟨rfl, rfl, rfl⟩ := hrel
     have hRB := hSL.rd 1 rfl
     go_wp2_with ((with_reducible refine wpList_idxN _ false E_bools F_bool cBool1 wU wU (hRB) (HL.out) oD oD (fun _ => wU) (fun _ => ?_)); rw [HSK.out])
     refine ⟨⟨j + 1, S, qs, by omega, by go_num, HL.out, ?_, ?_, hSL⟩, by simp [intOf]; omega⟩
     ·rw [cycK_in HIN.out]; exact HSN.out
     ·rw [cycK_in HIN.out]; exact HQ.out
   ·obtain ⟨d, hd⟩ := ord_ex hp hj0 hj1
    have hd0 := hd.pos
    have hd1 := hd.le
    have HIN := hid hin; have HD := hid hd
    clear hin hd
    go_wp2_with fail
    have hSc := hSL.nilS (α := Int) (c := cInt) (sz := 1) (e := 3) cIntS
    go_loopw [6, 7] (fun cv kv wq => ∃ m : Nat, m ≤ d ∧ kv = .int .i64 (itP p j m) ∧ lenV cv = m ∧ SL w.heap.size w wq (pOwn cInt 1 3 cv (orbK p j m) :: pOwn cSl 1 22 u3 (qs.map Prod.fst) :: pOwn cBool 1 4 (.slice ad p.length p.length) (markL S (orbK p j m)) :: qs.map inP)) (fun cv _ _ => d - lenV cv)
    case atStart => exact ⟨0, by omega, rfl, rfl, hSc⟩
    case round =>
     clear hSc
     obtain ⟨m, hm, rfl, hlv, hSq⟩ := hrel
     have HLV := hid hlv; clear hlv
     have hml := markL_len S (orbK p j m)
     rw [HL.out] at hml
     have hol := orbK_len p j m
     have hole : (orbK p j m).length ≤ 100000 := by rw [hol]; omega
     obtain ⟨x0, x1⟩ := itP_rng hp hj0 hj1 m
     have hin2 : ∀ x ∈ orbK p j m, 0 ≤ x ∧ x < S.length := by
      intro x hx
      obtain ⟨i, _, rfl⟩ := List.mem_map.1 hx
      rw [HL.out]; exact itP_rng hp hj0 hj1 i
     have hat := markL_at (orbK p j m) S hin2 (itP p j m) x0
     rw [HSN.out _ x0 x1] at hat
     have hsuc := orbK_succ p j m
     have hmk := markL_snoc S (orbK p j m) (itP p j m)
     rw [← hsuc] at hmk
     have hSr := hS.below hSq.b
     have hRB := hSq.rd 2 rfl
     have HML := hid hml; have HSU := hid hsuc; have HMK := hid hmk; have HOL := hid hol
     obtain ⟨X, hX⟩ : ∃ X, X = itP p j m := ⟨_, rfl⟩
     have hnx : atD 0 p X = itP p j (m + 1) := by rw [hX]; rfl
     have HNX := hid hnx
     by_cases hmd : m < d
     ·have hf1 := orbK_out hp hlt HIN.out HD.out hm
      have hf2 := orbK_new hp hj0 hj1 HD.out hmd
      rw [decide_eq_false hf1, decide_eq_false hf2] at hat
      have HAT := hid hat
      clear hat hf1 hf2 hin2 hml hsuc hmk hol hnx
      rw [← hX] at HAT HSU HMK x0 x1 ⊢
      clear hX
      have hxm : X < (markL S (orbK p j m)).length := by rw [HML.out]; exact x1
      go_wp2_with (first | ((with_reducible refine wpList_idxN _ false E_bools F_bool cBool1 wU wU (hRB) (HML.out) oD oD (fun _ => wU) (fun _ => ?_)); rw [HAT.out]) | ((with_reducible refine wpList_storeL (u := true) 2 E_bools cBool1 (sto_bool) wU wU (hSq) wU (by first | omega | (simp; done) | (simp; omega)) (by first | omega | (simp; done) | (simp; omega)) (fun _ => wU) (fun _ => wU) ?_); intro _ w3 hS3) | ((with_reducible refine wpList_pushL (y := X) 0 E_ints wU wU (hS3) wU cIntO ⟨rfl, rfl⟩ (by first | with_unfolding_all rfl | simp) wU (by first | omega | (simp; omega)) (by first | omega | (simp; omega)) ?_); intro v4 w4 hS4) | (with_reducible refine wpList_idx _ 0 E_ints F_int cInt1 wU wU ((hS.below hS4.b)) oD oD (fun _ => wU) (fun _ => ?_)))
      obtain ⟨a4, c4, e4, _⟩ := hS4.slice 0 rfl
      have hl4 : lenV v4 = m + 1 := by rw [e4]; show (orbK p j m ++ [X]).length = m + 1; rw [List.length_append, HOL.out]; rfl
      refine ⟨⟨m + 1, hmd, by rw [HNX.out], hl4, by rw [HSU.out, markL_snoc]; exact hS4⟩, ?_⟩
      rw [hl4, HLV.out]
      omega
     ·have : m = d := by omega
      subst this
      have hmem : itP p j m ∈ orbK p j m := by rw [HD.out.back]; exact List.mem_map.2 ⟨0, by simp [hd0], rfl⟩
      rw [decide_eq_true hmem, Bool.or_true] at hat
      have HAT := hid hat
      have hmarks : ∀ x : Int, 0 ≤ x → x < p.length → atD false (markL S (orbK p j m)) x = decide (x ∈ (cycK p (j + 1)).flatten) := by
       intro x h0 h1
       rw [markL_at (orbK p j m) S hin2 x h0, HSN.out x h0 h1, cycK_out HIN.out, orb_eq HD.out]
       simp [orbK]
      have HMARK := hid hmarks
      clear hat hmem hin2 hml hsuc hmk hol hnx hX hmarks x0 x1
      obtain ⟨al, cl, rfl, _⟩ := hSq.slice 0 rfl
      have hxd : itP p j m = j := HD.out.back
      have HXD := hid hxd; clear hxd
      have hjm : (j : Int) < (markL S (orbK p j m)).length := by rw [HML.out]; exact hj1
      rw [HXD.out] at HAT ⊢
      have hop : 0 < (orbK p j m).length := by rw [HOL.out]; exact hd0
      go_wp2_with (first | ((with_reducible refine wpList_idxN _ false E_bools F_bool cBool1 wU wU (hRB) (HML.out) oD oD (fun _ => wU) (fun _ => ?_)); rw [HAT.out]) | ((with_reducible refine wpList_pushL (y := ((al, (orbK p j m).length, cl) : SlH)) 1 E_sls wU wU (hSq) wU cSlO ⟨rfl, rfl⟩ (by first | with_unfolding_all rfl | simp) wU (by first | omega | (simp; omega)) (by first | omega | (simp; omega)) ?_); intro v4 w4 hP))
      refine ⟨⟨j + 1, markL S (orbK p j m), qs ++ [((al, (orbK p j m).length, cl), orbK p j m)], by omega, by go_num, HML.out, HMARK.out, ?_, ?_⟩, by simp [intOf]; omega⟩
      ·rw [List.map_append, HQ.out, cycK_out HIN.out, orb_eq HD.out]; rfl
      ·refine hP.perm ?_
       rw [List.map_append, List.map_append]
       exact List.perm_append_comm (l₁ := [_])
  ·have : j = p.length := by omega
   subst this
   clear hqlen
   go_wp2_with fail
   go_ret
   refine ⟨_, qs, rfl, HQ.out, ?_⟩
   exact (SL.comm (K := [_]) (L := qs.map inP) (SL.pickA (K := [_, _]) (M := qs.map inP) hSL [0] (by decide) (by simp) [_] rfl)).comm
end Go.Proofs.YtglpfpdomnllkaaGreat

namespace Go.Proofs.YtglpfpdomnllkaaGreat
open Go.RowKit
set_option maxHeartbeats 2000000
set_option maxRecDepth 100000

theorem rCheckPerm_any (a : Option Addr) (cap : Nat) (p : List Int) (w : World) (hS : Ints w a cap p) (hp : IsP p) (h : p.length ≤ 256) :
  Calls Tryz.prog 15 #[.slice a p.length cap] w fun r w' => r = .returned (.int .i64 0) ∧ Below w.heap.size w w' := by
 have hcap := hS.le
 have hm := hS.max
 have HP := hid hp; clear hp
 go_enter Tryz.func15, Tryz.ntmps15
 go_wp2
 go_loopw [3, 4] (fun i _ wr => ∃ k : Nat, k ≤ p.length ∧ i = .int .i64 k ∧ Below w.heap.size w wr) (fun i _ _ => p.length - (intOf i).toNat)
 case atStart => exact ⟨0, by omega, rfl, Below.refl _ _⟩
 case round =>
  obtain ⟨k, hk, rfl, hb⟩ := hrel
  have hR := hS.below hb
  by_cases hlt : k < p.length
  ·have hr := HP.out.rng k (by omega) (by omega)
   have d1 : ¬ atD 0 p k < 0 := by omega
   have d2 : ¬ (p.length : Int) ≤ atD 0 p k := by omega
   clear hr
   go_wp2_with (first | (with_reducible refine wpList_idx _ 0 E_ints F_int cInt1 wU wU (hR) oD oD (fun _ => wU) (fun _ => ?_)) | (with_reducible refine wpList_idxG 0 E_ints F_int cInt1 wU wU (hR) (rfl) oD oD (fun _ => wU) wU (fun _ => wU) (fun _ => ?_)))
   go_loopw [4] (fun i wq => ∃ j : Nat, j ≤ k ∧ i = .int .i64 j ∧ Below w.heap.size w wq) (fun i _ => k - (intOf i).toNat)
   case atStart => exact ⟨0, by omega, rfl, hb⟩
   case round =>
    obtain ⟨j, hj, rfl, hb2⟩ := hrel
    have hR2 := hS.below hb2
    by_cases hjk : j < k
    ·have hjl : j < p.length := by omega
     have hne : atD 0 p j ≠ atD 0 p k := fun e => by have := HP.out.inj j k (by omega) (by omega) (by omega) (by omega) e; omega
     have d3 : (atD 0 p j == atD 0 p k) = false := by simpa using hne
     clear hne
     go_wp2_with fail
     refine wp_region_quiet_lit kR kR ?_
     repeat (first | ((with_reducible refine wpQD_idx 0 E_ints F_int cInt1 wU wU (hR2) oD oD (fun _ => wU) (fun _ => ?_)); (try simp only [Act.put, pA, pB, pC]); (try simp only [cInt])) | quiet_step (fail))
     refine wpQuiet_nil ?_
     intro w2 hb3
     replace hb3 := below_drewN hb3
     go_wp2_with fail
     go_roundw
     case rel => exact ⟨j + 1, by omega, by simp, bnext hb2 hb3⟩
     case measure => simp [intOf]; omega
    ·have : j = k := by omega
     subst this
     go_wp2_with fail
     go_roundw
     case rel => exact ⟨j + 1, by omega, by simp, hb2⟩
     case measure => simp [intOf]; omega
  ·have : k = p.length := by omega
   subst this
   go_wp2_with fail
   go_ret
   exact ⟨rfl, hb⟩

end Go.Proofs.YtglpfpdomnllkaaGreat

namespace Go.Proofs.YtglpfpdomnllkaaGreat
open Go.RowKit Go.ChangeShapes Go.WideShapes Go.ChangeAt
set_option maxRecDepth 100000

theorem kidsP : Kids Tryz.prog (· < Tryz.prog.types.size) := kids_rows kR kR
theorem fullP : ∀ t e, t < Tryz.prog.types.size → Tryz.prog.underlying t = some (.slice e) → 0 < Tryz.prog.cellsOf e := slices_full_of Tryz.prog kR

section
variable {H : Type} {enc : TypeId × Value → H} {P : Program} {W W' : World}
theorem trodAll_carryW {base : Nat} {sp : Nat → Bool} {held : Bool} : ∀ {ts : List TypeId} {vs : List Value} {ds : List (DataW H)} {ps : List MemPlace}, DataW.TrodAll enc P W base sp held ts vs ds ps → (∀ p ∈ ps, W.sameAt W' p) → DataW.TrodAll enc P W' base sp held ts vs ds ps
 | [], [], [], _, h, _ => h
 | _ :: _, _ :: _, _ :: _, _, ⟨p, q, ⟨n, h1⟩, h2, e⟩, hs => ⟨p, q, ⟨n, DataW.trod_carry n _ _ _ h1 (fun x hx => hs x (by rw [e]; exact List.mem_append_left _ hx))⟩, trodAll_carryW h2 (fun x hx => hs x (by rw [e]; exact List.mem_append_right _ hx)), e⟩
theorem sameAt_below (hb : Below W.heap.size W W') {p : MemPlace} (h : p.block < W.heap.size) : W.sameAt W' p := by
 cases p with
 | cell b off => exact (hb.cell (p := ⟨b, off, none⟩) h)
 | map b => exact hb.block b h
theorem kept_below (hb : Below W.heap.size W W') (may : MemPlace → Prop) : W.keptBut W' may := by
 refine ⟨hb.os, hb.output, fun i hi => ?_⟩
 rw [hb.block i hi]
 cases h : W.heap[i]? with
 | none => rfl
 | some o =>
  cases o with
  | cells c t fr => exact ⟨rfl, rfl, rfl, fun _ _ => rfl⟩
  | map es clock => exact .inr ⟨rfl, rfl⟩
  | _ => rfl
/-- a law that returns true and turns nothing that was there. -/
theorem law_post {f : Func} {s : ChangeSpec} {args : Array Value} {ds gs : List (DataW H)} {before : List MemPlace} (hv : s.vars = []) (hr : f.resultTypes = #[4]) (hp : ∀ t ∈ f.params.toList, t < Tryz.prog.types.size)
   (hs : (s.fn H ds).results = [.lit (.bool true)] ∧ (s.fn H ds).args = ds ∧ (s.fn H ds).vars = [])
   (hW : DataW.Whole enc Tryz.prog f.params.toList s.vars false W args.toList ds gs before) (hb : Below W.heap.size W W') : s.post enc Tryz.prog f false true false false W args (.bool true) W' := by
 have hlt := hW.lt
 have hW' := hW
 obtain ⟨p, q, hA, hV, rfl, hfz, _⟩ := hW
 rw [hv] at hV
 have hgs : gs = [] ∧ q = [] := by
  cases gs with
  | nil => exact ⟨rfl, hV⟩
  | cons g gs => exact absurd hV id
 obtain ⟨rfl, rfl⟩ := hgs
 simp only [List.append_nil] at hlt hW' ⊢
 have hsame : ∀ p' ∈ p, W.sameAt W' p' := fun p' hp' => sameAt_below hb (hlt p' hp')
 refine ⟨ds, [], p, [], p, [], hW', ?_, ?_, ?_, kept_below hb _, fun h => by cases h⟩
 ·rw [List.append_nil, hs.1, hr]
  exact trodAll_cons_mk (shut_bool Tryz.underlying4 _) trodAll_mk0
 ·rw [List.append_nil, hs.2.1]
  exact DataW.TrodAll.respare kidsP fullP hp (trodAll_carryW hA hsame) (fun p' hp' => by simpa using hlt p' hp')
 ·rw [List.append_nil, hs.2.2, hv]
  rfl
end
end Go.Proofs.YtglpfpdomnllkaaGreat

namespace Go.Proofs.YtglpfpdomnllkaaGreat
open Go.RowKit Go.ChangeShapes Go.WideShapes Go.ChangeAt Go.Joins Go.Deep
set_option maxRecDepth 100000
theorem cellsInt : Tryz.prog.cellsOf 3 = 1 := by kernel_rfl
theorem inI_wf {x : Int} (h : (Lit.int .i64 x).wf = true) : InI x := by
 simp [Lit.wf, IntKind.min, IntKind.max, IntKind.bits, IntKind.signed] at h
 unfold InI
 omega
section
variable {H : Type} {enc : TypeId × Value → H} {W : World}
theorem ints_of_cells {a : Addr} {zs : List Int} {len cap : Nat} (hl : len ≤ cap) (hm : cap ≤ maxLen) (hz : len ≤ zs.length) (hc : ∀ i, i < zs.length → W.cell? (a.add i) = some (.int .i64 (zs.getD i 0))) : Ints W (some a) cap (zs.take len) := by
 have hlen : (zs.take len).length = len := by simp; omega
 refine ⟨cIntS, by rw [hlen]; exact hl, hm, fun h => (by cases h), fun j u hj => ?_⟩
 have hfm : ((zs.take len).flatMap fun x => (cInt x).cells.toList) = (zs.take len).map fun x => Value.int .i64 x := by
  generalize zs.take len = l
  induction l with
  | nil => rfl
  | cons x r ih => rw [List.flatMap_cons, ih]; rfl
 rw [hfm, List.getElem?_map] at hj
 have hjl : j < len := by
  obtain ⟨x, hx, _⟩ := Option.map_eq_some_iff.1 hj
  have := (List.getElem?_eq_some_iff.1 hx).1
  simp at this; omega
 have h0 := hc 0 (by omega)
 have hsp : a.spot = none := by
  unfold World.cell? Addr.add at h0
  simp only [if_pos] at h0
  split at h0
  ·split at h0
   ·cases h0
   ·next h => simpa using h
  ·cases h0
 refine ⟨a.block, a.off, by rw [← hsp], ?_⟩
 have hj0 := hc j (by omega)
 have e : a.add j = ⟨a.block, a.off + j, none⟩ := by
  unfold Addr.add
  split
  ·next h => subst h; rw [← hsp]; rfl
  ·rfl
 rw [e] at hj0
 rw [hj0, ← hj]
 have h2 : j < zs.length := by omega
 simp [List.getElem?_take, hjl, h2]
end
end Go.Proofs.YtglpfpdomnllkaaGreat

namespace Go.Proofs.YtglpfpdomnllkaaGreat
open Go.RowKit Go.ChangeShapes Go.WideShapes Go.ChangeAt Go.Joins Go.Deep
set_option maxRecDepth 100000

section
variable {H : Type} {enc : TypeId × Value → H} {W : World}
end
end Go.Proofs.YtglpfpdomnllkaaGreat

namespace Go.Proofs.YtglpfpdomnllkaaGreat
open Go.RowKit Go.ChangeShapes Go.WideShapes Go.ChangeAt Go.Joins Go.Deep
set_option maxRecDepth 100000

section
variable {H : Type} {enc : TypeId × Value → H} {W : World}
end
end Go.Proofs.YtglpfpdomnllkaaGreat

namespace Go.Proofs.YtglpfpdomnllkaaGreat
open Go.ChangeShapes Go.WideShapes Go.ChangeAt Go.RowKit
set_option maxRecDepth 100000
theorem ownP : ownKnob Tryz.prog.godebug = none := by kernel_rfl
noncomputable def bareWorld (os : Os) : World := World.holding Tryz.prog os ⟨#[], #[], []⟩
theorem g1 : (laidOutB Tryz.prog) = true := by kernel_rfl
theorem g2 : (mapsRowed Tryz.prog) = true := by kernel_rfl
theorem g6 : ((Tryz.prog.stops == [])) = true := by kernel_rfl
theorem g8 : ((Tryz.prog.stopKnobs == [])) = true := by kernel_rfl
theorem g24 : (Tryz.prog.stopsHeard) = true := by kernel_rfl
theorem g25 : (Tryz.prog.mayEnter) = true := by kernel_rfl
end Go.Proofs.YtglpfpdomnllkaaGreat

namespace Go.Proofs.YtglpfpdomnllkaaGreat
set_option maxRecDepth 100000
/-- the other slot of a shared place, or -1. -/
def otherM (m : MacV) (s : Int) : Int := if (decide (0 ≤ placeM m s) && sharedM m (placeM m s)) = true then 4 * befM m (placeM m s) + 2 + 4 * placeM m s - s else -1
theorem other_over (m : MacV) (s : Int) : overM m s = if (decide (0 ≤ otherM m s) && !m.sw.contains (placeM m s)) = true then otherM m s else s := by
 unfold overM otherM goesM
 by_cases h : (decide (0 ≤ placeM m s) && sharedM m (placeM m s)) = true
 ·rw [if_pos h]
  have h0 : 0 ≤ 4 * befM m (placeM m s) + 2 + 4 * placeM m s - s ∨ ¬ 0 ≤ 4 * befM m (placeM m s) + 2 + 4 * placeM m s - s := by omega
  rw [h, Bool.true_and]
  rcases h0 with h0 | h0
  ·rw [decide_eq_true h0, Bool.true_and]
  ·exfalso
   simp only [Bool.and_eq_true, decide_eq_true_eq] at h
   obtain ⟨hp, hs⟩ := h
   obtain ⟨_, h1, _⟩ := shared_iff.1 hs
   apply h0
   unfold befM
   unfold placeM at hp h1 ⊢
   split at hp <;> rename_i c
   ·rw [if_pos c] at h1 ⊢; split <;> omega
   ·rw [if_neg c] at h1 ⊢
    split at hp <;> rename_i c2
    ·rw [if_pos c2] at h1 ⊢
     split at hp <;> rename_i c3
     ·rw [if_pos c3] at h1 ⊢; rw [if_pos rfl]; omega
     ·rw [if_neg c3] at h1 ⊢; split <;> omega
    ·omega
 ·rw [if_neg h]
  have : (decide (0 ≤ placeM m s) && sharedM m (placeM m s)) = false := by simpa using h
  rw [this, Bool.false_and]
  simp
/-- in a shared place there are two slots. -/
theorem other_only {m : MacV} {s i : Int} (h0 : 0 ≤ s) (h1 : s < 4 * m.gears) (i0 : 0 ≤ i) (i1 : i < 4 * m.gears) (hp : 0 ≤ placeM m s) (hs : sharedM m (placeM m s) = true) (hne : i ≠ s) (e : placeM m i = placeM m s) : i = otherM m s := by
 unfold otherM
 rw [hs, decide_eq_true hp, if_pos (by rfl)]
 obtain ⟨_, hlt, hr⟩ := shared_iff.1 hs
 obtain ⟨p, hpp⟩ : ∃ p, p = placeM m s := ⟨_, rfl⟩
 rw [← hpp] at e hp hlt hr ⊢
 unfold placeM at hpp e
 unfold befM
 cases hrg : m.ring
 ·simp only [hrg, Bool.false_eq_true, false_and, if_false, false_or] at hpp e hr
  rw [if_neg (by omega)]
  split at hpp <;> split at e <;> first | omega | (split at hpp <;> first | omega | (split at e <;> omega)) | (split at e <;> omega)
 ·simp only [hrg, true_and] at hpp e
  split at hpp <;> split at e <;> split <;> first | omega | (split at hpp <;> first | omega | (split at hpp <;> first | omega | (split at e <;> first | omega | (split at e <;> omega)))) | (split at e <;> first | omega | (split at e <;> omega))
theorem other_is {m : MacV} {s : Int} (h0 : 0 ≤ s) (h1 : s < 4 * m.gears) (hp : 0 ≤ placeM m s) (hs : sharedM m (placeM m s) = true) : 0 ≤ otherM m s ∧ otherM m s < 4 * m.gears ∧ otherM m s ≠ s ∧ placeM m (otherM m s) = placeM m s := by
 have hm : MacV := ⟨m.ring, m.gears, m.turn, []⟩
 have := over_cases (m := ⟨m.ring, m.gears, m.turn, []⟩) h0 h1
 have e1 : ∀ x, placeM ⟨m.ring, m.gears, m.turn, []⟩ x = placeM m x := fun x => rfl
 have e2 : ∀ x, sharedM ⟨m.ring, m.gears, m.turn, []⟩ x = sharedM m x := fun x => rfl
 have e3 : ∀ x, befM ⟨m.ring, m.gears, m.turn, []⟩ x = befM m x := fun x => rfl
 have hg : goesM ⟨m.ring, m.gears, m.turn, []⟩ s = true := by
  unfold goesM
  rw [e1, e2, hs, decide_eq_true hp]
  rfl
 have eo : overM ⟨m.ring, m.gears, m.turn, []⟩ s = otherM m s := by
  unfold overM otherM
  rw [hg, if_pos rfl, e1, e3, hs, decide_eq_true hp]
  rfl
 rcases this with ⟨h, _⟩ | ⟨_, a, b, c, d, _⟩
 ·rw [hg] at h; cases h
 ·rw [eo] at a b c d
  rw [e1, e1] at c
  exact ⟨a, b, d, c⟩
/-- the switch before. -/
def prevO (l : List Int) : Nat → Option Int
 | 0 => none
 | k + 1 => some (atD 0 l k)
theorem swGo_prev (m : MacV) (k : Nat) (h : k < m.sw.length) : swGo m (prevO m.sw k) (m.sw.drop k) = if sharedM m (atD 0 m.sw k) = false then 10 else if 0 < k ∧ atD 0 m.sw k ≤ atD 0 m.sw ((k : Int) - 1) then 11 else swGo m (prevO m.sw (k + 1)) (m.sw.drop (k + 1)) := by
 rw [swGo_step m k h]
 cases k with
 | zero => simp [prevO]
 | succ j =>
  have : ((j + 1 : Nat) : Int) - 1 = j := by omega
  rw [this]
  simp only [prevO, Nat.zero_lt_succ, true_and]
end Go.Proofs.YtglpfpdomnllkaaGreat

namespace Go.Proofs.YtglpfpdomnllkaaGreat
set_option maxRecDepth 100000
theorem other_hit {m : MacV} {x y : Int} (x0 : 0 ≤ x) (x1 : x < 4 * m.gears) (y0 : 0 ≤ y) (y1 : y < 4 * m.gears) (hne : y ≠ x) : (otherM m x == y) = hitM m x y := by
 by_cases h : 0 ≤ placeM m x ∧ sharedM m (placeM m x) = true
 ·obtain ⟨o0, o1, o2, o3⟩ := other_is x0 x1 h.1 h.2
  unfold hitM
  rw [h.2, decide_eq_true h.1, Bool.true_and, Bool.true_and]
  by_cases e : placeM m x = placeM m y
  ·rw [decide_eq_true e]
   have := other_only x0 x1 y0 y1 h.1 h.2 hne e.symm
   simpa using this.symm
  ·rw [decide_eq_false e]
   have : otherM m x ≠ y := fun h2 => e (by rw [← h2, o3])
   simpa using this
 ·have h2 : (decide (0 ≤ placeM m x) && sharedM m (placeM m x)) = false := by
   rw [Bool.and_eq_false_iff]
   by_cases h0 : 0 ≤ placeM m x
   ·exact .inr (by simpa using fun h3 => h ⟨h0, h3⟩)
   ·exact .inl (decide_eq_false h0)
  unfold hitM otherM
  rw [h2, Bool.false_and]
  simp
  omega
/-- the least value that is not negative, or -1. -/
def minF (f : Int × Int → Int) (ps : List (Int × Int)) : Int := ps.foldl (fun b p => if 0 ≤ f p ∧ (b < 0 ∨ f p < b) then f p else b) (-1)
theorem minF_snoc (f : Int × Int → Int) (ps : List (Int × Int)) (p : Int × Int) : minF f (ps ++ [p]) = if 0 ≤ f p ∧ (minF f ps < 0 ∨ f p < minF f ps) then f p else minF f ps := by unfold minF; rw [List.foldl_append]; rfl
theorem minF_spec (f : Int × Int → Int) : ∀ ps : List (Int × Int), (minF f ps = -1 ∧ ∀ p ∈ ps, f p < 0) ∨ (0 ≤ minF f ps ∧ (∃ p ∈ ps, f p = minF f ps) ∧ ∀ p ∈ ps, 0 ≤ f p → minF f ps ≤ f p) := by
 suffices h : ∀ ps : List (Int × Int), (minF f ps.reverse = -1 ∧ ∀ p ∈ ps, f p < 0) ∨ (0 ≤ minF f ps.reverse ∧ (∃ p ∈ ps, f p = minF f ps.reverse) ∧ ∀ p ∈ ps, 0 ≤ f p → minF f ps.reverse ≤ f p) by
  intro ps
  have := h ps.reverse
  rw [List.reverse_reverse] at this
  simpa using this
 intro ps
 induction ps with
 | nil => exact .inl ⟨rfl, fun p hp => by cases hp⟩
 | cons q r ih =>
  rw [List.reverse_cons, minF_snoc]
  generalize minF f r.reverse = b at ih ⊢
  by_cases hc : 0 ≤ f q ∧ (b < 0 ∨ f q < b)
  ·rw [if_pos hc]
   refine .inr ⟨hc.1, ⟨q, List.mem_cons_self, rfl⟩, fun p hp h0 => ?_⟩
   rcases List.mem_cons.1 hp with rfl | hp
   ·exact Int.le_refl _
   ·rcases ih with ⟨_, h2⟩ | ⟨h1, _, h3⟩
    ·have := h2 p hp; omega
    ·have := h3 p hp h0; omega
  ·rw [if_neg hc]
   rcases ih with ⟨h1, h2⟩ | ⟨h1, ⟨p, hp, e⟩, h3⟩
   ·refine .inl ⟨h1, fun p hp => ?_⟩
    rcases List.mem_cons.1 hp with rfl | hp
    ·omega
    ·exact h2 p hp
   ·refine .inr ⟨h1, ⟨p, List.mem_cons_of_mem _ hp, e⟩, fun p hp h0 => ?_⟩
    rcases List.mem_cons.1 hp with rfl | hp
    ·omega
    ·exact h3 p hp h0
/-- the steps up to the first meeting of two, or -1. -/
noncomputable def pairN (m : MacV) (p : Int × Int) : Int := match meetM m p.1 p.2 with | some v => (v.1 : Int) | none => -1
/-- the place at which two meet now, or -1. -/
def hereN (m : MacV) (p : Int × Int) : Int := if hitM m p.1 p.2 then placeM m p.1 else -1
theorem hit_place {m : MacV} {x y : Int} (h : hitM m x y = true) : 0 ≤ placeM m x := by
 unfold hitM at h
 simp only [Bool.and_eq_true, decide_eq_true_eq] at h
 exact h.1.1
theorem hereN_nonneg {m : MacV} {p : Int × Int} : 0 ≤ hereN m p ↔ hitM m p.1 p.2 = true := by
 unfold hereN
 split
 ·rename_i h; exact ⟨fun _ => h, fun _ => hit_place h⟩
 ·rename_i h; exact ⟨fun h2 => by omega, fun h2 => absurd h2 h⟩
noncomputable def nowM (m : MacV) (l : List Int) : Int := minF (hereN m) (pairsTo l l.length)
noncomputable def meetN (m : MacV) (l : List Int) : Int := minF (pairN m) (pairsTo l l.length)
theorem pairN_nonneg {m : MacV} {p : Int × Int} : 0 ≤ pairN m p ↔ meetM m p.1 p.2 ≠ none := by
 unfold pairN
 cases meetM m p.1 p.2 with
 | none => simp
 | some v => simp
theorem pairsTo_map {l : List Int} {f : Int → Int} {p : Int × Int} : p ∈ pairsTo (l.map f) (l.map f).length ↔ ∃ q ∈ pairsTo l l.length, p = (f q.1, f q.2) := by
 have at_map : ∀ i : Nat, i < l.length → atD 0 (l.map f) i = f (atD 0 l i) := fun i hi => by simp [atD, hi]
 rw [pairsTo_mem (Nat.le_refl _)]
 constructor
 ·rintro ⟨i, j, hji, hi, rfl⟩
  rw [List.length_map] at hi
  refine ⟨(atD 0 l i, atD 0 l j), (pairsTo_mem (Nat.le_refl _)).2 ⟨i, j, hji, hi, rfl⟩, ?_⟩
  rw [at_map i hi, at_map j (by omega)]
 ·rintro ⟨q, hq, rfl⟩
  obtain ⟨i, j, hji, hi, rfl⟩ := (pairsTo_mem (Nat.le_refl _)).1 hq
  refine ⟨i, j, hji, by rw [List.length_map]; exact hi, ?_⟩
  rw [at_map i hi, at_map j (by omega)]
theorem meet_refN {m : MacV} {l : List Int} (h : firstM m l = none) : meetN m l = -1 := by
 obtain ⟨s1, _⟩ := foldF_spec m (pairsTo l l.length) none
 have k := (s1 h).2
 rcases minF_spec (pairN m) (pairsTo l l.length) with h1 | ⟨h1, ⟨p, hp, e⟩, _⟩
 ·exact h1.1
 ·exfalso
  rw [← e, pairN_nonneg] at h1
  exact h1 (k p hp)
theorem meet_refS {m : MacV} {l : List Int} {n : Nat} {pl : Int} (h : firstM m l = some (n, pl)) : meetN m l = n ∧ nowM m (l.map fun s => itM m s n) = pl := by
 obtain ⟨_, s2⟩ := foldF_spec m (pairsTo l l.length) none
 obtain ⟨_, k2, k3⟩ := s2 _ h
 obtain ⟨q, hq, hqm⟩ : ∃ p ∈ pairsTo l l.length, meetM m p.1 p.2 = some (n, pl) := by
  rcases k3 with k3 | k3
  ·cases k3
  ·exact k3
 have hN : meetN m l = n := by
  have hqn : pairN m q = n := by unfold pairN; rw [hqm]
  rcases minF_spec (pairN m) (pairsTo l l.length) with h1 | ⟨h1, ⟨p, hp, e⟩, h3⟩
  ·have := h1.2 q hq; omega
  ·have a := h3 q hq (by omega)
   rw [hqn] at a
   refine Int.le_antisymm a ?_
   rw [← e] at h1
   have h1' := pairN_nonneg.1 h1
   cases hv : meetM m p.1 p.2 with
   | none => exact absurd hv h1'
   | some v =>
    have b := k2 p hp v hv
    rw [befo_false] at b
    have ev : pairN m p = v.1 := by unfold pairN; rw [hv]
    show (n : Int) ≤ minF (pairN m) (pairsTo l l.length)
    rw [← e, ev]
    dsimp only at b
    omega
 refine ⟨hN, ?_⟩
 have hsp := meetM_spec m q.1 q.2
 rw [hqm] at hsp
 obtain ⟨g1, g2, g3⟩ := hsp
 have hqh : hereN m (itM m q.1 n, itM m q.2 n) = pl := by unfold hereN; rw [if_pos g1, g2]
 have hpl0 : 0 ≤ pl := by rw [g2]; exact hit_place g1
 have hqm2 := (pairsTo_map (f := fun s => itM m s n)).2 ⟨q, hq, rfl⟩
 rcases minF_spec (hereN m) (pairsTo (l.map fun s => itM m s n) (l.map fun s => itM m s n).length) with h1 | ⟨h1, ⟨p, hp, e⟩, h3⟩
 ·have := h1.2 _ hqm2; omega
 ·have a := h3 _ hqm2 (by rw [hqh]; exact hpl0)
  rw [hqh] at a
  refine Int.le_antisymm a ?_
  show pl ≤ minF (hereN m) _
  obtain ⟨p0, hp0, rfl⟩ := pairsTo_map.1 hp
  rw [← e] at h1
  have hh := hereN_nonneg.1 h1
  dsimp only at hh
  cases hv : meetM m p0.1 p0.2 with
  | none =>
   have hs := meetM_spec m p0.1 p0.2
   rw [hv] at hs
   have := hs n
   rw [this] at hh; cases hh
  | some v =>
   have b := k2 p0 hp0 v hv
   have hs := meetM_spec m p0.1 p0.2
   rw [hv] at hs
   obtain ⟨t1, t2, t3⟩ := hs
   have hvn : ¬ n < v.1 := fun hlt => by rw [t3 n hlt] at hh; cases hh
   rw [befo_false] at b
   dsimp only at b
   have hvn2 : v.1 = n := by omega
   have hpv : pl ≤ v.2 := by omega
   rw [← e]
   unfold hereN
   rw [if_pos hh]
   dsimp only
   rw [hvn2] at t2
   rw [← t2]
   exact hpv
end Go.Proofs.YtglpfpdomnllkaaGreat

namespace Go.Proofs.YtglpfpdomnllkaaGreat
set_option maxRecDepth 100000
theorem loadGo_ok (m : MacV) : ∀ (l pre : List Int), (∀ x ∈ l, 0 ≤ x ∧ x < 4 * m.gears) → (pre ++ l).Nodup → loadGo m pre l = 0
 | [], pre, _, _ => rfl
 | s :: r, pre, h, hn => by
   have hs := h s (by simp)
   have h2 : s ∉ pre := fun hm => by
     have := (List.nodup_append.1 hn).2.2 s hm s (by simp)
     exact this rfl
   rw [loadGo, if_neg (by omega), if_neg h2]
   exact loadGo_ok m r (pre ++ [s]) (fun x hx => h x (List.mem_cons_of_mem _ hx)) (by simpa using hn)
theorem loadE_ok {m : MacV} {l : List Int} (hm : macE m = 0) (hr : ∀ x ∈ l, 0 ≤ x ∧ x < 4 * m.gears) (hn : l.Nodup) : loadE m l = 0 := by
 have hle : (l.length : Int) ≤ 4 * m.gears := by
  have hg := (macE_zero hm).1.lo
  have := nodup_le (4 * m.gears).toNat l hn (fun x hx => by have := hr x hx; omega)
  omega
 unfold loadE
 rw [if_neg (by simp [hm]), if_neg (by omega)]
 exact loadGo_ok m l [] hr (by simpa using hn)
theorem nodup_map {l : List Int} {f : Int → Int} (hn : l.Nodup) (h : ∀ x ∈ l, ∀ y ∈ l, f x = f y → x = y) : (l.map f).Nodup := by
 rw [List.nodup_iff_pairwise_ne, List.pairwise_map]
 exact (List.nodup_iff_pairwise_ne.1 hn).imp_of_mem fun {x y} hx hy hxy e => hxy (h x hx y hy e)
theorem atL_nodup {m : MacV} {l : List Int} (hr : ∀ x ∈ l, 0 ≤ x ∧ x < 4 * m.gears) (hn : l.Nodup) (k : Nat) : (atL m l k).Nodup :=
 nodup_map hn fun x hx y hy e => itM_inj (hr x hx).1 (hr x hx).2 (hr y hy).1 (hr y hy).2 k e
theorem atL_load {m : MacV} {l : List Int} (h : LoadOk m l) (k : Nat) : loadE m (atL m l k) = 0 := loadE_ok h.mac (atL_rng h.rng k) (atL_nodup h.rng h.nodup k)

theorem atD_map2 {l : List Int} {f : Int → Int} {i : Nat} (h : i < l.length) : atD 0 (l.map f) i = f (atD 0 l i) := by simp [atD, h]
def okC (c : CrM) : Prop := (c.over = c.going ∧ c.under ≠ c.going) ∨ (c.under = c.going ∧ c.over ≠ c.going)
theorem bothX_mem {f : Int → Int → CrM} {x y : Option Int} {c : CrM} (h : c ∈ (bothX f x y).toList) : ∃ a b, x = some a ∧ y = some b ∧ c = f a b := by
 cases x with
 | none => simp [bothX] at h
 | some a =>
  cases y with
  | none => simp [bothX] at h
  | some b => simp [bothX] at h; exact ⟨a, b, rfl, rfl, h⟩
theorem crossM_mem {m : MacV} {l : List Int} {c : CrM} (h : c ∈ crossM m l) : ∃ (g a b : Int) (i j : Nat), 0 ≤ g ∧ g < m.gears ∧ i < 4 ∧ j < 4 ∧ i ≠ j ∧ opG m l g i = some a ∧ opG m l g j = some b ∧ c = mkX m g a b ∧ a ≠ b := by
 unfold crossM at h
 obtain ⟨g, hg, h⟩ := List.mem_flatMap.1 h
 have hgr := gearsL_mem.1 hg
 rw [crossG_eq, crossA_eq, crossA_eq, crossA_eq] at h
 have fin : ∀ i j : Nat, i < 4 → j < 4 → i ≠ j → c ∈ (bothX (mkX m g) (opG m l g i) (opG m l g j)).toList → ∃ (g a b : Int) (i j : Nat), 0 ≤ g ∧ g < m.gears ∧ i < 4 ∧ j < 4 ∧ i ≠ j ∧ opG m l g i = some a ∧ opG m l g j = some b ∧ c = mkX m g a b ∧ a ≠ b := by
  intro i j hi hj hij hc
  obtain ⟨a, b, ha, hb, e⟩ := bothX_mem hc
  refine ⟨g, a, b, i, j, hgr.1, hgr.2, hi, hj, hij, ha, hb, e, fun eab => ?_⟩
  subst eab
  exact hij (slotG_inj hi hj (idxO_inj ha hb))
 rcases List.mem_append.1 h with h | h
 ·exact fin 1 2 (by decide) (by decide) (by decide) h
 ·rcases List.mem_append.1 h with h | h
  ·exact fin 0 2 (by decide) (by decide) (by decide) h
  ·exact fin 1 3 (by decide) (by decide) (by decide) h
theorem crossM_ok (m : MacV) (l : List Int) : ∀ c ∈ crossM m l, okC c := by
 intro c hc
 obtain ⟨g, a, b, i, j, _, _, _, _, _, _, _, e, hab⟩ := crossM_mem hc
 subst e
 unfold mkX okC
 split
 ·exact .inr ⟨rfl, fun e => hab e.symm⟩
 ·exact .inl ⟨rfl, fun e => hab e.symm⟩
end Go.Proofs.YtglpfpdomnllkaaGreat

namespace Go.Proofs.YtglpfpdomnllkaaGreat
set_option maxRecDepth 100000
/-- no two ever meet. -/
def AllA (m : MacV) (l : List Int) : Prop := ∀ x ∈ l, ∀ y ∈ l, x ≠ y → meetM m x y = none
theorem at_memI {l : List Int} {i : Nat} (h : i < l.length) : atD 0 l i ∈ l := by
 have e : atD 0 l (i : Int) = l[i] := by simp [atD, h]
 rw [e]; exact List.getElem_mem h
structure GoodL (m : MacV) (l : List Int) (s : Int) : Prop where
 all : AllA m l
 asc : l.Pairwise (· < ·)
 rng : ∀ x ∈ l, 0 ≤ x ∧ x < s
theorem GoodL.mono {m : MacV} {l : List Int} {s t : Int} (h : GoodL m l s) (hst : s ≤ t) : GoodL m l t := ⟨h.all, h.asc, fun x hx => by have := h.rng x hx; omega⟩
end Go.Proofs.YtglpfpdomnllkaaGreat

namespace Go.Proofs.YtglpfpdomnllkaaGreat
open Go.RowKit
set_option maxHeartbeats 2000000
set_option maxRecDepth 100000

theorem A_rmach : Aggr Tryz.prog 27 := ⟨_, Tryz.underlying27, rfl⟩
theorem rOutside_any (n lo hi : Int) (w : World) :
  Calls Tryz.prog 32 #[.int .i64 n, .int .i64 lo, .int .i64 hi] w fun r w' => r = .returned (.bool (decide (n < lo) || decide (hi < n))) ∧ w = w' := by
 by_cases h : n < lo
 ·go_enter Tryz.func32, Tryz.ntmps32
  go_wp2_with fail
  go_ret
  exact ⟨by simp [h], rfl⟩
 ·go_enter Tryz.func32, Tryz.ntmps32
  go_wp2_with fail
  go_ret
  exact ⟨by rw [show decide (n < lo) = false by simpa using h]; rfl, rfl⟩
theorem rShort_any (m : MacV) (ad : Option Addr) (cap : Nat) (al : Option Addr) (cl n : Nat) (w : World) :
  Calls Tryz.prog 7 #[mV m ad cap, .slice al n cl] w fun r w' => r = .returned (.bool (decide (m.sw.length ≤ 19) && decide (n ≤ 67))) ∧ Below w.heap.size w w' := by
 by_cases h : m.sw.length ≤ 19
 ·have h2 : (m.sw.length : Int) ≤ 19 := by omega
  by_cases k : n ≤ 67
  ·have k2 : (n : Int) ≤ 67 := by omega
   go_enter Tryz.func7, Tryz.ntmps7
   go_wp2_with fail
   go_ret
   exact ⟨by simp [h, k, h2, k2], bal (Below.refl _ _) _⟩
  ·have k2 : ¬ (n : Int) ≤ 67 := by omega
   go_enter Tryz.func7, Tryz.ntmps7
   go_wp2_with fail
   go_ret
   exact ⟨by simp [h, k, h2, k2], bal (Below.refl _ _) _⟩
 ·have h2 : ¬ (m.sw.length : Int) ≤ 19 := by omega
  go_enter Tryz.func7, Tryz.ntmps7
  go_wp2_with fail
  go_ret
  exact ⟨by simp [h, h2], bal (Below.refl _ _) _⟩
theorem rSlots_any (m : MacV) (ad : Option Addr) (cap : Nat) (w : World) (h0 : 0 ≤ m.gears) (h1 : m.gears ≤ 16) :
  Calls Tryz.prog 44 #[mV m ad cap] w fun r w' => r = .returned (.int .i64 (4 * m.gears)) ∧ Below w.heap.size w w' := by
 go_enter Tryz.func44, Tryz.ntmps44
 go_wp2_with fail
 go_ret
 exact ⟨rfl, bal (Below.refl _ _) _⟩
theorem rForwards_any (m : MacV) (ad : Option Addr) (cap : Nat) (g : Int) (w : World) (h0 : 0 ≤ g) (h1 : g ≤ 1048576) :
  Calls Tryz.prog 175 #[mV m ad cap, .int .i64 g] w fun r w' => r = .returned (.bool (fwdM m g)) ∧ Below w.heap.size w w' := by
 obtain ⟨q, hq⟩ : ∃ q, q = g % 2 := ⟨_, rfl⟩
 have htm : g.tmod 2 = q := by rw [hq, Int.tmod_eq_emod_of_nonneg h0]
 have hf : fwdM m g = ((m.turn == 1) == (q == 0)) := by unfold fwdM; rw [hq]
 have hq2 : 0 ≤ q ∧ q < 2 := by omega
 have HF := hid hf
 clear hf hq
 go_enter Tryz.func175, Tryz.ntmps175
 go_wp2_with fail
 go_ret
 exact ⟨by rw [HF.out]; rfl, bal (Below.refl _ _) _⟩
theorem rShared_any (m : MacV) (ad : Option Addr) (cap : Nat) (p : Int) (w : World) (h0 : 1 ≤ m.gears) (h1 : m.gears ≤ 16) :
  Calls Tryz.prog 43 #[mV m ad cap, .int .i64 p] w fun r w' => r = .returned (.bool (sharedM m p)) ∧ Below w.heap.size w w' := by
 have hw : IntKind.i64.wrap (m.gears - 1) = m.gears - 1 := IntWalk.i64_in _ (by omega)
 have hS := (SL.nil w).box (.cells (mC m ad cap) 27)
 cases hr : m.ring
 ·have hs : sharedM m p = !(decide (p < 1) || decide (m.gears - 1 < p)) := by
   unfold sharedM
   rw [hr, Bool.eq_iff_iff]
   simp
   omega
  obtain ⟨b, hb⟩ : ∃ b, b = (decide (p < 1) || decide (m.gears - 1 < p)) := ⟨_, rfl⟩
  have CO := fun w => rOutside_any p 1 (m.gears - 1) w
  rw [← hb] at CO hs
  have HS := hid hs; have HO := hid CO
  clear hs CO hb
  unfold mV
  rw [hr]
  clear hr
  go_enter Tryz.func43, Tryz.ntmps43
  go_wp2_with fail
  refine (HO.out _).mono ?_
  rintro e w1 ⟨rfl, rfl⟩
  go_wp2_with fail
  go_ret
  exact ⟨by rw [HS.out]; rfl, bal (Below.refl _ _) _⟩
 ·have hs : sharedM m p = !(decide (p < 0) || decide (m.gears - 1 < p)) := by
   unfold sharedM
   rw [hr, Bool.eq_iff_iff]
   simp
   omega
  obtain ⟨b, hb⟩ : ∃ b, b = (decide (p < 0) || decide (m.gears - 1 < p)) := ⟨_, rfl⟩
  have CO := fun w => rOutside_any p 0 (m.gears - 1) w
  rw [← hb] at CO hs
  have HS := hid hs; have HO := hid CO
  clear hs CO hb
  unfold mV
  rw [hr]
  clear hr
  go_enter Tryz.func43, Tryz.ntmps43
  go_wp2_with fail
  refine (HO.out _).mono ?_
  rintro e w1 ⟨rfl, rfl⟩
  go_wp2_with fail
  go_ret
  exact ⟨by rw [HS.out]; rfl, bal (Below.refl _ _) _⟩
theorem rPlace_any (m : MacV) (ad : Option Addr) (cap : Nat) (s : Int) (w : World) (hg : m.gears ≤ 16) (h0 : 0 ≤ s) (h1 : s < 4 * m.gears) :
  Calls Tryz.prog 145 #[mV m ad cap, .int .i64 s] w fun r w' => r = .returned (.int .i64 (placeM m s)) ∧ Below w.heap.size w w' := by
 obtain ⟨g, hgq⟩ : ∃ g, g = s / 4 := ⟨_, rfl⟩
 obtain ⟨q, hq⟩ : ∃ q, q = s % 4 := ⟨_, rfl⟩
 have htd : s.tdiv 4 = g := by rw [hgq, Int.tdiv_eq_ediv_of_nonneg h0]
 have htm : s.tmod 4 = q := by rw [hq, Int.tmod_eq_emod_of_nonneg h0]
 have hp := place_prog h0 h1
 have hpl : placeM m s = if q = 0 then g else if q = 2 then (if m.ring = true ∧ g + 1 = m.gears then 0 else g + 1) else -1 := by unfold placeM; rw [hq, hgq]
 rw [← hgq] at hp
 have hq4 : q = 0 ∨ q = 1 ∨ q = 2 ∨ q = 3 := by omega
 have hg0 : 0 ≤ g ∧ g < m.gears := by omega
 have hw1 : IntKind.i64.wrap g = g := IntWalk.i64_in _ (by omega)
 have hw2 : IntKind.i64.wrap (g + 1) = g + 1 := IntWalk.i64_in _ (by omega)
 rcases hq4 with rfl | rfl | rfl | rfl
 ·rw [if_pos rfl] at hpl
  have HP := hid hpl
  clear hpl hp hq hgq
  go_enter Tryz.func145, Tryz.ntmps145
  go_wp2_with fail
  go_ret
  exact ⟨by rw [HP.out]; rfl, bal (Below.refl _ _) _⟩
 ·rw [if_neg (by decide), if_neg (by decide)] at hpl
  have HP := hid hpl
  clear hpl hp hq hgq
  go_enter Tryz.func145, Tryz.ntmps145
  go_wp2_with fail
  go_ret
  exact ⟨by rw [HP.out]; rfl, bal (Below.refl _ _) _⟩
 ·rw [if_neg (by decide), if_pos rfl, ← hp] at hpl
  obtain ⟨P, hP⟩ : ∃ P, P = placeM m s := ⟨_, rfl⟩
  rw [← hP] at hpl ⊢
  unfold mV
  cases hr : m.ring
  ·rw [hr] at hpl
   simp only [Bool.false_eq_true, if_false] at hpl
   have e2 : P = g + 1 := by rw [hpl]; exact Int.emod_eq_of_lt (by omega) (by omega)
   have HP := hid e2
   clear hpl hp hq hgq hP e2 hr
   go_enter Tryz.func145, Tryz.ntmps145
   go_wp2_with fail
   go_ret
   exact ⟨by rw [HP.out]; rfl, bal (Below.refl _ _) _⟩
  ·rw [hr] at hpl
   simp only [if_true, Int.add_zero] at hpl
   have hPb : 0 ≤ P ∧ P ≤ 64 := by
    rw [hpl]
    have a := Int.emod_nonneg (g + 1) (b := m.gears) (by omega)
    have b := Int.emod_lt_of_pos (g + 1) (b := m.gears) (by omega)
    omega
   have hmod : (g + 1).tmod m.gears = P := by rw [hpl, Int.tmod_eq_emod_of_nonneg (by omega)]
   have hnz : ¬ m.gears = 0 := by omega
   have hw : IntKind.i64.wrap P = P := IntWalk.i64_in _ (by omega)
   clear hpl hp hq hgq hP hr
   go_enter Tryz.func145, Tryz.ntmps145
   go_wp2_with fail
   go_ret
   exact ⟨rfl, bal (Below.refl _ _) _⟩
 ·rw [if_neg (by decide), if_neg (by decide)] at hpl
  have HP := hid hpl
  clear hpl hp hq hgq
  go_enter Tryz.func145, Tryz.ntmps145
  go_wp2_with fail
  go_ret
  exact ⟨by rw [HP.out]; rfl, bal (Below.refl _ _) _⟩
theorem rSet_any (m : MacV) (ad : Option Addr) (cap : Nat) (p : Int) (w : World) (hR : Ints w ad cap m.sw) :
  Calls Tryz.prog 194 #[mV m ad cap, .int .i64 p] w fun r w' => r = .returned (.bool (m.sw.contains p)) ∧ Below w.heap.size w w' := by
 have hcap := hR.le
 have hmx := hR.max
 have hS := (SL.nil w).box (.cells (mC m ad cap) 27)
 have hlen : m.sw.length ≤ 9223372036854775807 := by have := hR.max; unfold maxLen at this; omega
 go_enter Tryz.func194, Tryz.ntmps194
 go_wp2_with fail
 go_loopw [5] (fun i wr => ∃ k : Nat, k ≤ m.sw.length ∧ i = .int .i64 k ∧ (m.sw.drop k).contains p = m.sw.contains p ∧ SL w.heap.size w wr [pBlk w.heap.size (.cells (mC m ad cap) 27)]) (fun i _ => m.sw.length - (intOf i).toNat)
 case atStart => exact ⟨0, by omega, rfl, by simp, hS⟩
 case round =>
  clear hS
  obtain ⟨k, hk, rfl, hf, hSr⟩ := hrel
  have q1 := (hSr.blk 0 rfl).1
  have hRr := hR.below hSr.b
  by_cases hlt : k < m.sw.length
  ·have hs : (m.sw.drop k).contains p = ((atD 0 m.sw k == p) || (m.sw.drop (k + 1)).contains p) := by
    have e2 : atD 0 m.sw k = m.sw[k] := by simp [atD, hlt]
    rw [List.drop_eq_getElem_cons hlt, e2, List.contains_cons, Bool.beq_comm]
   rw [hf] at hs
   have HS := hid hs
   clear hs hf
   go_wp2_with (first | (with_reducible refine wpList_ldB F_sliceM wU wU q1 wU ?_) | (with_reducible refine wpList_idx _ 0 E_ints F_int cInt1 wU wU (hRr) oD oD (fun _ => wU) (fun _ => ?_)))
   ·have hd : (atD 0 m.sw k == p) = true := by assumption
    go_ret
    exact ⟨by rw [HS.out, hd]; rfl, hSr.b⟩
   ·have hd : (atD 0 m.sw k == p) = false := by assumption
    exact ⟨⟨k + 1, by omega, by go_num, by rw [HS.out, hd]; rfl, hSr⟩, by simp [intOf]; omega⟩
  ·have hkn : k = m.sw.length := by omega
   subst hkn
   rw [List.drop_length] at hf
   have HF := hid hf
   clear hf
   go_wp2_with (with_reducible refine wpList_ldB F_sliceM wU wU q1 wU ?_)
   go_ret
   exact ⟨by rw [← HF.out]; rfl, hSr.b⟩
end Go.Proofs.YtglpfpdomnllkaaGreat

namespace Go.Proofs.YtglpfpdomnllkaaGreat
open Go.RowKit
set_option maxHeartbeats 4000000
set_option maxRecDepth 100000

theorem rOther_any (m : MacV) (ad : Option Addr) (cap : Nat) (s : Int) (w : World) (hg0 : 1 ≤ m.gears) (hg : m.gears ≤ 16) (h0 : 0 ≤ s) (h1 : s < 4 * m.gears) :
  Calls Tryz.prog 143 #[mV m ad cap, .int .i64 s] w fun r w' => r = .returned (.int .i64 (otherM m s)) ∧ Below w.heap.size w w' := by
 have hS := (SL.nil w).box (.cells (mC m ad cap) 27)
 have CP := fun (x : Int) w (a : 0 ≤ x) (b : x < 4 * m.gears) => rPlace_any m ad cap x w hg a b
 have CPs := fun w => rPlace_any m ad cap s w hg h0 h1
 obtain ⟨P, hP⟩ : ∃ P, P = placeM m s := ⟨_, rfl⟩
 rw [← hP] at CPs
 have HPs := hid CPs
 clear CPs
 by_cases hp0 : P < 0
 ·have ho : otherM m s = -1 := by unfold otherM; rw [← hP, decide_eq_false (by omega)]; rfl
  have HO := hid ho
  clear ho hP CP
  go_enter Tryz.func143, Tryz.ntmps143
  go_wp2_with fail
  refine (HPs.out _).mono ?_
  rintro e w1 ⟨rfl, b1⟩
  have hS1 := hS.mono b1
  go_wp2_with fail
  go_ret
  exact ⟨by rw [HO.out]; rfl, hS1.b⟩
 ·have hpd : decide (P < 0) = false := decide_eq_false hp0
  have CS := fun w => rShared_any m ad cap P w hg0 hg
  cases hsh : sharedM m P
  ·have ho : otherM m s = -1 := by unfold otherM; rw [← hP, hsh, Bool.and_false]; rfl
   rw [hsh] at CS
   have HO := hid ho; have HS := hid CS
   clear ho hP CP CS hsh
   go_enter Tryz.func143, Tryz.ntmps143
   go_wp2_with fail
   refine (HPs.out _).mono ?_
   rintro e w1 ⟨rfl, b1⟩
   have hS1 := hS.mono b1
   have q1 := (hS1.blk 0 rfl).1
   go_wp2_with (with_reducible refine wpList_ldS (n := 4) (us := mC m ad cap) A_rmach kR wU wU (by assumption) wU wU ?_)
   refine (HS.out _).mono ?_
   rintro e w2 ⟨rfl, b2⟩
   have hS2 := hS1.mono b2
   go_wp2_with fail
   go_ret
   exact ⟨by rw [HO.out]; rfl, hS2.b⟩
  ·rw [hsh] at CS
   have ho := other_is h0 h1 (by rw [← hP]; omega) (by rw [← hP]; exact hsh)
   have hu := fun (i : Int) a b c d => other_only (m := m) (s := s) (i := i) h0 h1 a b (by rw [← hP]; omega) (by rw [← hP]; exact hsh) c d
   obtain ⟨K, hK⟩ : ∃ K : Nat, otherM m s = K := ⟨(otherM m s).toNat, by omega⟩
   obtain ⟨n, hn⟩ : ∃ n : Nat, 4 * m.gears = n := ⟨(4 * m.gears).toNat, by omega⟩
   have CN := fun w => rSlots_any m ad cap w (by omega) hg
   rw [hK] at ho hu ⊢
   rw [hn] at ho hu CP h1 CN
   rw [← hP] at ho hu
   have HS := hid CS; have HO := hid ho; have HU := hid hu; have HP := hid CP; have HN := hid CN
   have hKn : K < n := by omega
   have hn64 : n ≤ 64 := by omega
   clear CS CP CN ho hu hP hK hn hsh
   go_enter Tryz.func143, Tryz.ntmps143
   go_wp2_with fail
   refine (HPs.out _).mono ?_
   rintro e w1 ⟨rfl, b1⟩
   have hS1 := hS.mono b1
   have q1 := (hS1.blk 0 rfl).1
   go_wp2_with (with_reducible refine wpList_ldS (n := 4) (us := mC m ad cap) A_rmach kR wU wU (by assumption) wU wU ?_)
   refine (HS.out _).mono ?_
   rintro e w2 ⟨rfl, b2⟩
   have hS2 := hS1.mono b2
   go_wp2_with fail
   go_loopw [6] (fun i wr => ∃ k : Nat, k ≤ K ∧ i = .int .i64 k ∧ SL w.heap.size w wr [pBlk w.heap.size (.cells (mC m ad cap) 27)]) (fun i _ => n - (intOf i).toNat)
   case atStart => exact ⟨0, by omega, rfl, hS2⟩
   case round =>
    clear hS1 hS2 hS q1
    obtain ⟨k, hk, rfl, hSr⟩ := hrel
    have q1 := (hSr.blk 0 rfl).1
    have hkn : (k : Int) < n := by omega
    go_wp2_with (with_reducible refine wpList_ldS (n := 4) (us := mC m ad cap) A_rmach kR wU wU (by assumption) wU wU ?_)
    refine (HN.out _).mono ?_
    rintro e w3 ⟨rfl, b3⟩
    have hS3 := hSr.mono b3
    have q3 := (hS3.blk 0 rfl).1
    by_cases hkK : k = K
    ·subst hkK
     have hne : ((k : Int) != s) = true := by simpa using HO.out.2.2.1
     have CPk := fun w => HP.out k w (by omega) hkn
     rw [HO.out.2.2.2] at CPk
     have HPk := hid CPk
     clear CPk
     go_wp2_with (with_reducible refine wpList_ldS (n := 4) (us := mC m ad cap) A_rmach kR wU wU (by assumption) wU wU ?_)
     refine (HPk.out _).mono ?_
     rintro e w4 ⟨rfl, b4⟩
     have hS4 := hS3.mono b4
     go_wp2_with fail
     go_ret
     exact ⟨rfl, hS4.b⟩
    ·by_cases hks : (k : Int) = s
     ·have hne : ((k : Int) != s) = false := by simpa using hks
      have hkK2 : k < K := by omega
      clear hks
      go_wp2_with fail
      exact ⟨⟨k + 1, by omega, by go_num, hS3⟩, by simp [intOf]; omega⟩
     ·have hne : ((k : Int) != s) = true := by simpa using hks
      have hkK2 : k < K := by omega
      have CPk := fun w => HP.out k w (by omega) hkn
      obtain ⟨z, hz⟩ : ∃ z, z = placeM m k := ⟨_, rfl⟩
      have hzP : (z == P) = false := by
       have : z ≠ P := fun e => hkK (by have := HU.out k (by omega) (by omega) hks (hz ▸ e); omega)
       simpa using this
      rw [← hz] at CPk
      have HPk := hid CPk
      clear CPk hks hz
      go_wp2_with (with_reducible refine wpList_ldS (n := 4) (us := mC m ad cap) A_rmach kR wU wU (by assumption) wU wU ?_)
      refine (HPk.out _).mono ?_
      rintro e w4 ⟨rfl, b4⟩
      have hS4 := hS3.mono b4
      go_wp2_with fail
      exact ⟨⟨k + 1, by omega, by go_num, hS4⟩, by simp [intOf]; omega⟩
theorem rOver_any (m : MacV) (ad : Option Addr) (cap : Nat) (s : Int) (w : World) (hR : Ints w ad cap m.sw) (hg0 : 1 ≤ m.gears) (hg : m.gears ≤ 16) (h0 : 0 ≤ s) (h1 : s < 4 * m.gears) :
  Calls Tryz.prog 176 #[mV m ad cap, .int .i64 s] w fun r w' => r = .returned (.int .i64 (overM m s)) ∧ Below w.heap.size w w' := by
 have hcap := hR.le
 have hmx := hR.max
 have hS := (SL.nil w).box (.cells (mC m ad cap) 27)
 have CO := fun w => rOther_any m ad cap s w hg0 hg h0 h1
 have CP := fun w => rPlace_any m ad cap s w hg h0 h1
 have CS := fun w (h : Ints w ad cap m.sw) => rSet_any m ad cap (placeM m s) w h
 rw [other_over]
 obtain ⟨O, hO⟩ : ∃ O, O = otherM m s := ⟨_, rfl⟩
 obtain ⟨P, hP⟩ : ∃ P, P = placeM m s := ⟨_, rfl⟩
 obtain ⟨b, hb⟩ : ∃ b, b = m.sw.contains P := ⟨_, rfl⟩
 rw [← hP, ← hb] at CS
 rw [← hO] at CO
 rw [← hP] at CP
 rw [← hO, ← hP, ← hb]
 have HO := hid CO; have HP := hid CP; have HS := hid CS
 clear CO CP CS hO hP hb
 by_cases h : 0 ≤ O
 ·cases b
  ·rw [decide_eq_true h, if_pos (by rfl)]
   have hOd : decide (0 ≤ O) = true := decide_eq_true h
   go_enter Tryz.func176, Tryz.ntmps176
   go_wp2_with fail
   refine (HO.out _).mono ?_
   rintro e w1 ⟨rfl, b1⟩
   have hS1 := hS.mono b1
   have q1 := (hS1.blk 0 rfl).1
   go_wp2_with fail
   refine wp_region_q kR kR ?_
   repeat (first | ((try simp only [hOd]); ((with_reducible refine wpB_loadS (n := 4) (us := mC m ad cap) A_rmach kR wU wU (by assumption) wU wU ?_); (try simp only [Act.put, pA, pB, pC]))) | ((refine wpB_call (.int .i64 P) wU (fun w' => ?_) (fun w' hw' => HP.out w') ?_); (focus (go_simp; done)); (try simp only [Act.put, pA, pB, pC])) | ((refine wpB_call (.bool false) wU (fun w' => ?_) (fun w' hw' => HS.out w' (hR.below (bnext hS1.b hw'))) ?_); (focus (go_simp; done)); (try simp only [Act.put, pA, pB, pC])) |  ((with_reducible refine wpB_load (by first | exact F_int | fail) wU wU (by assumption) wU ?_); (try simp only [Act.put, pA, pB, pC])) | ((with_reducible refine wpB_loadS (n := 2) (us := #[_, _]) (by fail) kR wU wU (by assumption) wU wU ?_); (try simp only [Act.put, pA, pB, pC])) | ((with_reducible refine wpB_loadS (n := 4) (us := #[_, _, _, _]) (by fail) kR wU wU (by assumption) wU wU ?_); (try simp only [Act.put, pA, pB, pC])) | ((refine wpQ_oneG ?_ wU (fun w' => ?_) ?_); rotate_left; (go_simp; rfl); (try simp only [Act.put, pA, pB, pC])))
   refine wpQuiet_nil ?_
   intro w2 hb2
   go_wp2_with fail
   go_ret
   exact ⟨rfl, bnext hS1.b hb2⟩
  ·rw [decide_eq_true h, if_neg (by decide)]
   have hOd : decide (0 ≤ O) = true := decide_eq_true h
   go_enter Tryz.func176, Tryz.ntmps176
   go_wp2_with fail
   refine (HO.out _).mono ?_
   rintro e w1 ⟨rfl, b1⟩
   have hS1 := hS.mono b1
   have q1 := (hS1.blk 0 rfl).1
   go_wp2_with fail
   refine wp_region_q kR kR ?_
   repeat (first | ((try simp only [hOd]); ((with_reducible refine wpB_loadS (n := 4) (us := mC m ad cap) A_rmach kR wU wU (by assumption) wU wU ?_); (try simp only [Act.put, pA, pB, pC]))) | ((refine wpB_call (.int .i64 P) wU (fun w' => ?_) (fun w' hw' => HP.out w') ?_); (focus (go_simp; done)); (try simp only [Act.put, pA, pB, pC])) | ((refine wpB_call (.bool true) wU (fun w' => ?_) (fun w' hw' => HS.out w' (hR.below (bnext hS1.b hw'))) ?_); (focus (go_simp; done)); (try simp only [Act.put, pA, pB, pC])) |  ((with_reducible refine wpB_load (by first | exact F_int | fail) wU wU (by assumption) wU ?_); (try simp only [Act.put, pA, pB, pC])) | ((with_reducible refine wpB_loadS (n := 2) (us := #[_, _]) (by fail) kR wU wU (by assumption) wU wU ?_); (try simp only [Act.put, pA, pB, pC])) | ((with_reducible refine wpB_loadS (n := 4) (us := #[_, _, _, _]) (by fail) kR wU wU (by assumption) wU wU ?_); (try simp only [Act.put, pA, pB, pC])) | ((refine wpQ_oneG ?_ wU (fun w' => ?_) ?_); rotate_left; (go_simp; rfl); (try simp only [Act.put, pA, pB, pC])))
   refine wpQuiet_nil ?_
   intro w2 hb2
   go_wp2_with fail
   go_ret
   exact ⟨rfl, bnext hS1.b hb2⟩
 ·rw [decide_eq_false h, if_neg (by simp)]
  have hOd : decide (0 ≤ O) = false := decide_eq_false h
  go_enter Tryz.func176, Tryz.ntmps176
  go_wp2_with fail
  refine (HO.out _).mono ?_
  rintro e w1 ⟨rfl, b1⟩
  have hS1 := hS.mono b1
  have q1 := (hS1.blk 0 rfl).1
  go_wp2_with fail
  refine wp_region_q kR kR ?_
  repeat (first | ((try simp only [hOd]); ((with_reducible refine wpQ_skip wU ?_); (try simp only [Act.put, pA, pB, pC]))) |  ((with_reducible refine wpB_load (by first | exact F_int | fail) wU wU (by assumption) wU ?_); (try simp only [Act.put, pA, pB, pC])) | ((with_reducible refine wpB_loadS (n := 2) (us := #[_, _]) (by fail) kR wU wU (by assumption) wU wU ?_); (try simp only [Act.put, pA, pB, pC])) | ((with_reducible refine wpB_loadS (n := 4) (us := #[_, _, _, _]) (by fail) kR wU wU (by assumption) wU wU ?_); (try simp only [Act.put, pA, pB, pC])) | ((refine wpQ_oneG ?_ wU (fun w' => ?_) ?_); rotate_left; (go_simp; rfl); (try simp only [Act.put, pA, pB, pC])))
  refine wpQuiet_nil ?_
  intro w2 hb2
  go_wp2_with fail
  go_ret
  exact ⟨rfl, bnext hS1.b hb2⟩
theorem rStep_any (m : MacV) (ad : Option Addr) (cap : Nat) (s : Int) (w : World) (hR : Ints w ad cap m.sw) (hg0 : 1 ≤ m.gears) (hg : m.gears ≤ 16) (h0 : 0 ≤ s) (h1 : s < 4 * m.gears) :
  Calls Tryz.prog 144 #[mV m ad cap, .int .i64 s] w fun r w' => r = .returned (.int .i64 (nextM m s)) ∧ Below w.heap.size w w' := by
 obtain ⟨g, hgq⟩ : ∃ g, g = s / 4 := ⟨_, rfl⟩
 obtain ⟨q, hq⟩ : ∃ q, q = s % 4 := ⟨_, rfl⟩
 have htd : s.tdiv 4 = g := by rw [hgq, Int.tdiv_eq_ediv_of_nonneg h0]
 have htm : s.tmod 4 = q := by rw [hq, Int.tmod_eq_emod_of_nonneg h0]
 have hgb : 0 ≤ g ∧ g < m.gears := by omega
 have hq0 : 0 ≤ q ∧ q < 4 := by omega
 have hrr := rot_rng (m := m) h0 h1
 have hro : rotM m s = 4 * g + (q + (if fwdM m g then 1 else 3)) % 4 := by unfold rotM; rw [hgq, hq]
 have CF := fun w => rForwards_any m ad cap g w hgb.1 (by omega)
 have CO := fun w h => rOver_any m ad cap (rotM m s) w h hg0 hg hrr.1 hrr.2.1
 have hnx : nextM m s = overM m (rotM m s) := rfl
 rw [← hnx] at CO
 obtain ⟨N, hN⟩ : ∃ N, N = nextM m s := ⟨_, rfl⟩
 rw [← hN] at CO ⊢
 have hS := (SL.nil w).box (.cells (mC m ad cap) 27)
 have hcap := hR.le
 have hmx := hR.max
 have hw0 : IntKind.i64.wrap g = g := IntWalk.i64_in _ (by omega)
 cases hf : fwdM m g
 ·rw [hf] at CF hro
  simp only [Bool.false_eq_true, if_false] at hro
  rw [hro] at CO
  have hmd : (q + 3).tmod 4 = (q + 3) % 4 := Int.tmod_eq_emod_of_nonneg (by omega)
  obtain ⟨z, hz⟩ : ∃ z, z = (q + 3) % 4 := ⟨_, rfl⟩
  have hz0 : 0 ≤ z ∧ z < 4 := by omega
  rw [← hz] at hmd CO
  have HF := hid CF; have HO := hid CO
  clear CF CO hro hnx hN hrr hgq hq hz hf
  go_enter Tryz.func144, Tryz.ntmps144
  go_wp2_with fail
  refine (HF.out _).mono ?_
  rintro e w1 ⟨rfl, b1⟩
  have hS1 := hS.mono b1
  have q1 := (hS1.blk 0 rfl).1
  go_wp2_with (with_reducible refine wpList_ldS (n := 4) (us := mC m ad cap) A_rmach kR wU wU (by assumption) wU wU ?_)
  refine (HO.out _ (hR.below hS1.b)).mono ?_
  rintro e w2 ⟨rfl, b2⟩
  go_wp2_with fail
  go_ret
  exact ⟨rfl, bnext hS1.b b2⟩
 ·rw [hf] at CF hro
  simp only [if_true] at hro
  rw [hro] at CO
  have hmd : (q + 1).tmod 4 = (q + 1) % 4 := Int.tmod_eq_emod_of_nonneg (by omega)
  obtain ⟨z, hz⟩ : ∃ z, z = (q + 1) % 4 := ⟨_, rfl⟩
  have hz0 : 0 ≤ z ∧ z < 4 := by omega
  rw [← hz] at hmd CO
  have HF := hid CF; have HO := hid CO
  clear CF CO hro hnx hN hrr hgq hq hz hf
  go_enter Tryz.func144, Tryz.ntmps144
  go_wp2_with fail
  refine (HF.out _).mono ?_
  rintro e w1 ⟨rfl, b1⟩
  have hS1 := hS.mono b1
  have q1 := (hS1.blk 0 rfl).1
  go_wp2_with (with_reducible refine wpList_ldS (n := 4) (us := mC m ad cap) A_rmach kR wU wU (by assumption) wU wU ?_)
  refine (HO.out _ (hR.below hS1.b)).mono ?_
  rintro e w2 ⟨rfl, b2⟩
  go_wp2_with fail
  go_ret
  exact ⟨rfl, bnext hS1.b b2⟩
theorem rPerm_any (m : MacV) (ad : Option Addr) (cap : Nat) (w : World) (hR : Ints w ad cap m.sw) (hg0 : 1 ≤ m.gears) (hg : m.gears ≤ 16) :
  Calls Tryz.prog 147 #[mV m ad cap] w fun r w' => ∃ v, r = .returned v ∧ OwnI w.heap.size w' v (permM m) ∧ Below w.heap.size w w' := by
 have hcap := hR.le
 have hmx := hR.max
 have hl := permM_len m
 obtain ⟨n, hn⟩ : ∃ n : Nat, (4 * m.gears) = n := ⟨(4 * m.gears).toNat, by omega⟩
 rw [hn, Int.toNat_natCast] at hl
 have CS := fun w => rSlots_any m ad cap w (by omega) hg
 rw [hn] at CS
 have CN := fun (k : Nat) w (h : Ints w ad cap m.sw) (hk : k < n) => rStep_any m ad cap k w h hg0 hg (by omega) (by omega)
 have hS := ((SL.nil w).box (.cells (mC m ad cap) 27)).nilS (α := Int) (e := 3) cIntS
 have HS := hid CS; have HN := hid CN; have HL := hid hl
 have hn64 : n ≤ 64 := by omega
 clear CS CN hl hn
 go_enter Tryz.func147, Tryz.ntmps147
 go_wp2_with fail
 go_loopw [4, 3] (fun i v wr => ∃ k : Nat, k ≤ n ∧ i = .int .i64 k ∧ SL w.heap.size w wr [pOwn cInt 1 3 v ((permM m).take k), pBlk w.heap.size (.cells (mC m ad cap) 27)]) (fun i _ _ => n - (intOf i).toNat)
 case atStart => exact ⟨0, by omega, rfl, hS⟩
 case round =>
  clear hS
  obtain ⟨k, hk, rfl, hSr⟩ := hrel
  have q1 := (hSr.blk 1 rfl).1
  go_wp2_with (with_reducible refine wpList_ldS (n := 4) (us := mC m ad cap) A_rmach kR wU wU (by assumption) wU wU ?_)
  refine (HS.out _).mono ?_
  rintro e w1 ⟨rfl, b1⟩
  have hS1 := hSr.mono b1
  have q2 := (hS1.blk 1 rfl).1
  by_cases hlt : k < n
  ·have hs := permM_step m k (by rw [HL.out]; exact hlt)
   have hle : ((permM m).take k).length ≤ 64 := by rw [List.length_take, HL.out]; omega
   have HST := hid hs; clear hs
   go_wp2_with (with_reducible refine wpList_ldS (n := 4) (us := mC m ad cap) A_rmach kR wU wU (by assumption) wU wU ?_)
   refine (HN.out k _ (hR.below hS1.b) hlt).mono ?_
   rintro e w4 ⟨rfl, b4⟩
   have hS4 := hS1.mono b4
   go_wp2_with ((with_reducible refine wpList_pushL (y := (nextM m k)) 0 E_ints wU wU (hS4) wU cIntO ⟨rfl, rfl⟩ (by first | with_unfolding_all rfl | simp) wU (by first | omega | (simp; omega)) (by first | omega | (simp; omega)) ?_); intro v5 w5 hS5)
   exact ⟨⟨k + 1, by omega, by go_num, by rw [HST.out]; exact hS5⟩, by simp [intOf]; omega⟩
  ·have hkn : k = n := by omega
   subst hkn
   have et : (permM m).take k = permM m := List.take_of_length_le (by rw [HL.out]; omega)
   rw [et] at hS1
   clear et
   go_wp2_with fail
   go_ret
   exact ⟨_, rfl, hS1.own 0 rfl, hS1.b⟩
end Go.Proofs.YtglpfpdomnllkaaGreat

namespace Go.Proofs.YtglpfpdomnllkaaGreat
open Go.RowKit
set_option maxHeartbeats 1000000
set_option maxRecDepth 100000
section
variable {P : Program} {ops : Array Oper} {rest : List Oper} {a : Act} {Qa : Act → Prop} {α : Type} {c : α → Value} {sz bytes : Nat} {t e : TypeId} {z : Value} {ad : Option Addr} {cap : Nat} {l : List α} {k : Int} {w : World}
 {d1 d2 : Tmp} {ty1 ty2 : TypeId} {p1 p2 : String} {s x : Operand} {af1 af2 : Array Edge}
theorem wpB_idx2 (d : α) (E : ETy P t e z sz bytes) (hF : Flat P e) (hc : ∀ x, (c x).cells = #[c x])
   {n : Nat} (hs : a.eval s = .slice ad n cap) (hn : l.length = n) (hx : a.eval x = .int .i64 k) (hR : Reps c sz w ad cap l) (h0 : 0 ≤ k) (hlt : k < l.length) (hd : ∀ p, (a.put (some d1) p).eval (.tmp d1) = p)
   (hK : ∀ p, wpQuiet P ops (Below w.heap.size w) Qa rest ((a.put (some d1) p).put (some d2) (c (atD d l k)))) :
   wpQuiet P ops (Below w.heap.size w) Qa (⟨some d1, .indexAddr t s x, ty1, p1, af1, none⟩ :: ⟨some d2, .load e (.tmp d1), ty2, p2, af2, none⟩ :: rest) a := by
 subst hn
 have hkl : k.toNat < l.length := by omega
 obtain ⟨b, o, rfl, hcs⟩ := hR.cells E.pos d k.toNat hkl
 have hcell := hcs 0 (c (atD d l k)) (by rw [show l.getD k.toNat d = atD d l k from rfl, hc]; rfl)
 refine wpQ_in (.pointer (some ((⟨b, o, none⟩ : Addr).add (k.toNat * sz)))) rfl (fun w' hw' => ?_) (wpQ_in (c (atD d l k)) rfl (fun w' hw' => ?_) (hK _))
 ·have h1 := run_indexAt_sl (P := P) (a := ⟨b, o, none⟩) (cap := cap) w' E h0 hlt
  simp [execOp, hs, hx, h1, Result.andThen]
 ·have h2 := run_loadAt_cell (P := P) w' (a := (⟨b, o, none⟩ : Addr).add (k.toNat * sz)) (v := c (atD d l k)) hF (by
   rw [Addr.add_z]
   exact (hw'.cell (World.block_lt_of_cell? w _ hcell)).trans hcell)
  simp [execOp, hd, h2, Result.andThen]
end
/-- the handles H lead to the lists l. -/
def LeadsTo (w : World) (H : List SlH) (l : List (List Int)) : Prop := ∀ k : Nat, k < l.length → ∃ xa xc, atD ((none, 0, 0) : SlH) H k = (xa, (atD [] l k).length, xc) ∧ Ints w xa xc (atD [] l k) ∧ (atD [] l k).length ≤ 1048576
theorem LeadsTo.below {w w' : World} {H : List SlH} {l : List (List Int)} (h : LeadsTo w H l) (hb : Below w.heap.size w w') : LeadsTo w' H l := fun k hk => by
 obtain ⟨xa, xc, h1, h2, h3⟩ := h k hk
 exact ⟨xa, xc, h1, h2.below hb, h3⟩
end Go.Proofs.YtglpfpdomnllkaaGreat
