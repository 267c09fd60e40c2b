/- Contracts and plain facts that the claim uses (MbU MbV MbX MbW). Conditions: as each one states. -/
import Derived.Test.YtbchpkmcpplidaaGreatDoorXc09
import Derived.Test.YtbchpkmcpplidaaGreatDoorXc11
set_option linter.all false

namespace Go.Proofs.YtbchpkmcpplidaaGreatDoor
open Go.RowKit
set_option maxHeartbeats 8000000
set_option maxRecDepth 100000

theorem wring0 (m : MacV) (hr : m.ring = false) (w : World) : Calls Tryz.prog 59 #[.bool m.ring, .int .i64 13] w fun r w' => r = .returned (.int .i64 0) ∧ Below w.heap.size w w' := by
 have := calls_below (mwhen_any m.ring 13 w)
 rw [hr] at this ⊢
 exact this
theorem wring1 (m : MacV) (hr : m.ring = true) (w : World) : Calls Tryz.prog 59 #[.bool m.ring, .int .i64 13] w fun r w' => r = .returned (.int .i64 13) ∧ Below w.heap.size w w' := by
 have := calls_below (mwhen_any m.ring 13 w)
 rw [hr] at this ⊢
 exact this
theorem wringR (m : MacV) (w : World) : Calls Tryz.prog 59 #[.bool m.ring, .int .i64 13] w fun r w' => r = .returned (.int .i64 (if m.ring = true then (13 : Int) else 0)) ∧ Below w.heap.size w w' :=
 calls_below (mwhen_any m.ring 13 w)

noncomputable def orderE (m : MacV) (l : List Int) : Int := if loadE m l ≠ 0 then loadE m l else if m.ring = true then 13 else if meetsM m l 0 = true then 16 else 0
theorem mOrder_any (m : MacV) (ad : Option Addr) (cap : Nat) (al : Option Addr) (cl : Nat) (l : List Int) (w : World) (hR : Ints w ad cap m.sw) (hL : Ints w al cl l) (HK : ChkL m ad cap al cl l) :
  Calls Tryz.prog 35 #[mV m ad cap, .slice al l.length cl] w fun r w' => ∃ v, r = .returned (.tuple #[v, .int .i64 (orderE m l)]) ∧ OwnI w.heap.size w' v (if orderE m l = 0 then orderM m l else []) ∧ Below w.heap.size w w' := by
 have hcap := hL.le
 have hmx := hL.max
 have hS := (SL.nil w).box (.cells (mC m ad cap) 24)
 have q1 := (hS.blk 0 rfl).1
 have R1 := hR.below hS.b
 have L1 := hL.below hS.b
 unfold ChkL at HK
 by_cases he : loadE m l = 0
 ·have hok := loadE_zero he
  have hlo := hok.ok.lo
  have hhi := hok.ok.hi
  rw [he] at HK
  have CM := fun w h h2 => meets_any m ad al cap cl l 0 w h h2 hhi hok.rng
  have CO := fun w h => order_any m ad cap al cl l w h (by omega) hhi
  have hv : orderE m l = if m.ring = true then 13 else if meetsM m l 0 = true then 16 else 0 := by unfold orderE; rw [if_neg (by simp [he])]
  rw [hv]
  have HC := hid HK; have HO := hid CO
  clear HK hv he hok CO
  cases hr : m.ring
  ·have HW := hid (wring0 m hr)
   clear hr
   cases hm : meetsM m l 0
   all_goals
    rw [hm] at CM
    have HM := hid CM
    clear CM hm
    go_enter Tryz.func35, Tryz.ntmps35
    go_wp2_with fail
    refine wp_region_qt 6 (by kernel_rfl) (by kernel_rfl) ?_
    simp only [List.take_succ_cons, List.take_zero, List.drop_succ_cons, List.drop_zero]
    repeat (first | ((with_reducible refine wpB_loadS (n := 4) (us := mC m ad cap) A_mach (by kernel_rfl) (by with_unfolding_all rfl) (by with_unfolding_all rfl) (by assumption) (by with_unfolding_all rfl) (by with_unfolding_all rfl) ?_); (try simp only [Act.put, pA, pB, pC])) | ((with_reducible refine wpB_load F_boolM (by with_unfolding_all rfl) (by with_unfolding_all rfl) (by assumption) (by with_unfolding_all rfl) ?_); (try simp only [Act.put, pA, pB, pC])) | ((refine wpB_call (.int .i64 0) (by with_unfolding_all rfl) (fun w' => ?_) (fun w' hw' => HC.out w' (R1.below hw') (L1.below hw')) ?_); (focus (go_simp; done)); (try simp only [Act.put, pA, pB, pC])) | ((refine wpB_call (.int .i64 0) (by with_unfolding_all rfl) (fun w' => ?_) (fun w' hw' => HW.out w') ?_); (focus (go_simp; done)); (try simp only [Act.put, pA, pB, pC])) | ((with_reducible refine wpQ_skip (by with_unfolding_all rfl) ?_); (try simp only [Act.put, pA, pB, pC])) |  ((with_reducible refine wpB_load (by first | exact F_int | exact F_u64s) (by with_unfolding_all rfl) (by with_unfolding_all rfl) (by assumption) (by with_unfolding_all rfl) ?_); (try simp only [Act.put, pA, pB, pC])) | ((refine wpQ_oneG ?_ (by with_unfolding_all rfl) (fun w' => ?_) ?_); rotate_left; (go_simp; rfl); (try simp only [Act.put, pA, pB, pC])))
    refine wpQuiet_nil ?_
    intro w1 hb1
    have hS1 := hS.mono hb1
    have hS2 := hS1.al (.cells #[.int .i64 0, .int .i64 0] 29)
    have q2 := (hS2.blk 0 rfl).1
    go_wp2_with (first | (go_at_call 58; refine (mfirst_any _ _ [_, _] _ (reps_newN cIntS [_, _] 2 rfl (by decide) _ _ (by simp) rfl)).mono ?_; rw [firstE_z, firstE_z, firstE_nil]; rintro e w' ⟨rfl, rfl⟩) | (with_reducible refine wpList_ldS (n := 4) (us := mC m ad cap) A_mach (by kernel_rfl) (by with_unfolding_all rfl) (by with_unfolding_all rfl) (by assumption) (by with_unfolding_all rfl) (by with_unfolding_all rfl) ?_))
    refine (HM.out _ (hR.below hS2.b) (hL.below hS2.b)).mono ?_
    rintro e w3 ⟨rfl, b3⟩
    have hS3 := hS2.mono b3
    have q3 := (hS3.blk 0 rfl).1
    clear q2
    go_wp2_with (with_reducible refine wpList_ldS (n := 4) (us := mC m ad cap) A_mach (by kernel_rfl) (by with_unfolding_all rfl) (by with_unfolding_all rfl) (by assumption) (by with_unfolding_all rfl) (by with_unfolding_all rfl) ?_)
    first
     | (go_ret2; exact ⟨_, rfl, own_nil cIntS, hS3.b⟩)
     | (refine (HO.out _ (hL.below hS3.b)).mono ?_
        rintro e w4 ⟨v, rfl, ho, b4⟩
        go_wp2_with fail
        go_ret2
        exact ⟨_, rfl, ho.mono hS3.b.size, bnext hS3.b b4⟩)
  ·have HW := hid (wring1 m hr)
   clear CM hr
   go_enter Tryz.func35, Tryz.ntmps35
   go_wp2_with fail
   refine wp_region_qt 6 (by kernel_rfl) (by kernel_rfl) ?_
   simp only [List.take_succ_cons, List.take_zero, List.drop_succ_cons, List.drop_zero]
   repeat (first | ((with_reducible refine wpB_loadS (n := 4) (us := mC m ad cap) A_mach (by kernel_rfl) (by with_unfolding_all rfl) (by with_unfolding_all rfl) (by assumption) (by with_unfolding_all rfl) (by with_unfolding_all rfl) ?_); (try simp only [Act.put, pA, pB, pC])) | ((with_reducible refine wpB_load F_boolM (by with_unfolding_all rfl) (by with_unfolding_all rfl) (by assumption) (by with_unfolding_all rfl) ?_); (try simp only [Act.put, pA, pB, pC])) | ((refine wpB_call (.int .i64 0) (by with_unfolding_all rfl) (fun w' => ?_) (fun w' hw' => HC.out w' (R1.below hw') (L1.below hw')) ?_); (focus (go_simp; done)); (try simp only [Act.put, pA, pB, pC])) | ((refine wpB_call (.int .i64 13) (by with_unfolding_all rfl) (fun w' => ?_) (fun w' hw' => HW.out w') ?_); (focus (go_simp; done)); (try simp only [Act.put, pA, pB, pC])) | ((with_reducible refine wpQ_skip (by with_unfolding_all rfl) ?_); (try simp only [Act.put, pA, pB, pC])) |  ((with_reducible refine wpB_load (by first | exact F_int | exact F_u64s) (by with_unfolding_all rfl) (by with_unfolding_all rfl) (by assumption) (by with_unfolding_all rfl) ?_); (try simp only [Act.put, pA, pB, pC])) | ((refine wpQ_oneG ?_ (by with_unfolding_all rfl) (fun w' => ?_) ?_); rotate_left; (go_simp; rfl); (try simp only [Act.put, pA, pB, pC])))
   refine wpQuiet_nil ?_
   intro w1 hb1
   have hS1 := hS.mono hb1
   go_wp2_with (go_at_call 58; refine (mfirst_any _ _ [_, _] _ (reps_newN cIntS [_, _] 2 rfl (by decide) _ _ (by simp) rfl)).mono ?_; rw [firstE_z, firstE_head (by decide)]; rintro e w' ⟨rfl, rfl⟩)
   go_ret2
   exact ⟨_, rfl, own_nil cIntS, bal hS1.b _⟩
 ·obtain ⟨E, hE⟩ : ∃ E, E = loadE m l := ⟨_, rfl⟩
  have hv : orderE m l = E := by unfold orderE; rw [if_pos he, hE]
  rw [← hE] at HK he
  have hne : (E != 0) = true := by simpa using he
  rw [hv, if_neg he]
  have HC := hid HK
  clear hv hE HK
  obtain ⟨R, hR2⟩ : ∃ R, R = (if m.ring = true then (13 : Int) else 0) := ⟨_, rfl⟩
  have HW := hid (wringR m)
  rw [← hR2] at HW
  clear hR2
  skip
  ·go_enter Tryz.func35, Tryz.ntmps35
   go_wp2_with fail
   refine wp_region_qt 6 (by kernel_rfl) (by kernel_rfl) ?_
   simp only [List.take_succ_cons, List.take_zero, List.drop_succ_cons, List.drop_zero]
   repeat (first | ((with_reducible refine wpB_loadS (n := 4) (us := mC m ad cap) A_mach (by kernel_rfl) (by with_unfolding_all rfl) (by with_unfolding_all rfl) (by assumption) (by with_unfolding_all rfl) (by with_unfolding_all rfl) ?_); (try simp only [Act.put, pA, pB, pC])) | ((with_reducible refine wpB_load F_boolM (by with_unfolding_all rfl) (by with_unfolding_all rfl) (by assumption) (by with_unfolding_all rfl) ?_); (try simp only [Act.put, pA, pB, pC])) | ((refine wpB_call (.int .i64 E) (by with_unfolding_all rfl) (fun w' => ?_) (fun w' hw' => HC.out w' (R1.below hw') (L1.below hw')) ?_); (focus (go_simp; done)); (try simp only [Act.put, pA, pB, pC])) | ((refine wpB_call (.int .i64 R) (by with_unfolding_all rfl) (fun w' => ?_) (fun w' hw' => HW.out w') ?_); (focus (go_simp; done)); (try simp only [Act.put, pA, pB, pC])) | ((with_reducible refine wpQ_skip (by with_unfolding_all rfl) ?_); (try simp only [Act.put, pA, pB, pC])) |  ((with_reducible refine wpB_load (by first | exact F_int | exact F_u64s) (by with_unfolding_all rfl) (by with_unfolding_all rfl) (by assumption) (by with_unfolding_all rfl) ?_); (try simp only [Act.put, pA, pB, pC])) | ((refine wpQ_oneG ?_ (by with_unfolding_all rfl) (fun w' => ?_) ?_); rotate_left; (go_simp; rfl); (try simp only [Act.put, pA, pB, pC])))
   refine wpQuiet_nil ?_
   intro w1 hb1
   have hS1 := hS.mono hb1
   go_wp2_with (go_at_call 58; refine (mfirst_any _ _ [_, _] _ (reps_newN cIntS [_, _] 2 rfl (by decide) _ _ (by simp) rfl)).mono ?_; rw [firstE_head he]; rintro e w' ⟨rfl, rfl⟩)
   go_ret2
   exact ⟨_, rfl, own_nil cIntS, bal hS1.b _⟩

noncomputable def crossE (m : MacV) (l : List Int) : Int := if loadE m l ≠ 0 then loadE m l else if meetsM m l 0 = true then 16 else 0
/-- a crossing as it is told. -/
def cX (c : CrM) : Value := .agg #[.int .i64 c.gear, .int .i64 c.over, .int .i64 c.under]
attribute [go_sem] cX
theorem cX1 (x : CrM) : cX x = .agg (cX x).cells := rfl
theorem cXS (x : CrM) : (cX x).cells.size = 3 := rfl
theorem cXO (x : CrM) : ∀ u ∈ (cX x).cells.toList, u.oneCell' = true := by
 intro u hu; simp [cX, Value.cells] at hu; rcases hu with rfl | rfl | rfl <;> rfl
theorem E_xs : ETy Tryz.prog 61 86 (.agg #[.int .i64 0, .int .i64 0, .int .i64 0]) 3 24 := ⟨Tryz.underlying61, by kernel_rfl, rfl, by decide⟩
theorem A_xs : Aggr Tryz.prog 86 := ⟨_, Tryz.underlying86, rfl⟩
theorem crossings1_any (c : CrM) (w : World) :
  Calls Tryz.prog 86 #[cCr c] w fun r w' => r = .returned (cX c) ∧ Below w.heap.size w w' := by
 have hS := ((SL.nil w).box (.cells #[.int .i64 c.gear, .int .i64 c.over, .int .i64 c.under, .int .i64 c.going] 113)).box (.cells #[.int .i64 0, .int .i64 0, .int .i64 0] 86)
 simp only [World.size_alloc] at hS
 have q1 := (hS.blk 1 rfl).1
 go_enter Tryz.func86, Tryz.ntmps86
 go_wp2_with (first | (with_reducible refine wpList_ldS (n := 3) (us := #[.int .i64 c.gear, .int .i64 c.over, .int .i64 c.under]) A_xs (by kernel_rfl) (by with_unfolding_all rfl) (by with_unfolding_all rfl) (by assumption) (by with_unfolding_all rfl) (by with_unfolding_all rfl) ?_) | ((with_reducible refine wpList_stoR (us := #[.int .i64 c.gear, .int .i64 c.over, .int .i64 c.under]) 0 (by with_unfolding_all rfl) (by with_unfolding_all rfl) (hS) (by with_unfolding_all rfl) (by kernel_rfl) (by with_unfolding_all rfl) (by with_unfolding_all rfl) ?_); intro w4 hS4))
 exact bodyPost_ret (results_cell rfl rfl A_xs (by kernel_rfl) (hS4.blk 0 rfl).1) rfl ⟨rfl, hS4.b⟩
theorem mappedX_any (al : Option Addr) (cl : Nat) (l : List CrM) (w : World) (hL : Reps cCr 4 w al cl l) (hn : l.length ≤ 1048576) :
  Calls Tryz.prog 84 #[.slice al l.length cl, .func (.func 86) #[] #[]] w fun r w' => ∃ v, r = .returned v ∧ Own cX 3 w.heap.size 86 w' v l ∧ Below w.heap.size w w' := by
 have hcap := hL.le
 have hmx := hL.max
 have HF := hid crossings1_any
 have hS := (SL.nil w).nilS (α := CrM) (c := cX) (sz := 3) (e := 86) cXS
 go_enter Tryz.func84, Tryz.ntmps84
 go_wp2_with fail
 go_loopw [5, 10] (fun v i wr => ∃ k : Nat, k ≤ l.length ∧ i = .int .i64 k ∧ SL w.heap.size w wr [pOwn cX 3 86 v (l.take k)]) (fun _ i _ => l.length - (intOf i).toNat)
 case atStart => exact ⟨0, by omega, rfl, hS⟩
 case round =>
  clear hS
  obtain ⟨k, hk, rfl, hSr⟩ := hrel
  have hLr := hL.below hSr.b
  by_cases hlt : k < l.length
  ·have ht : l.take (k + 1) = l.take k ++ [atD ⟨0, 0, 0, 0⟩ l k] := by rw [List.take_succ_eq_append_getElem hlt]; simp [atD, hlt]
   have hlen : (l.take k).length ≤ 1048576 := by simp; omega
   obtain ⟨x, hx⟩ : ∃ x, x = atD (⟨0, 0, 0, 0⟩ : CrM) l k := ⟨_, rfl⟩
   rw [← hx] at ht
   have HX := hid hx; have HT := hid ht
   clear hx ht
   have hS1 := hSr.box (.cells #[.int .i64 x.gear, .int .i64 x.over, .int .i64 x.under, .int .i64 x.going] 113)
   have q1 := (hS1.blk 0 rfl).1
   go_wp2_with (first | ((with_reducible refine wpList_idxS _ ⟨0, 0, 0, 0⟩ E_crs A_crs cCr1 (by with_unfolding_all rfl) (by with_unfolding_all rfl) (hLr) (by first | omega | (simp; done)) (by first | omega | (simp; done)) (fun _ => by with_unfolding_all rfl) (fun _ => ?_)); rw [← HX.out]) | (with_reducible refine wpList_ldS (n := 4) (us := #[.int .i64 x.gear, .int .i64 x.over, .int .i64 x.under, .int .i64 x.going]) A_crs (by kernel_rfl) (by with_unfolding_all rfl) (by with_unfolding_all rfl) (by assumption) (by with_unfolding_all rfl) (by with_unfolding_all rfl) ?_))
   refine (HF.out x _).mono ?_
   rintro e w2 ⟨rfl, b2⟩
   have hS2 := hS1.mono b2
   go_wp2_with ((with_reducible refine wpList_pushL (y := x) 1 E_xs (by with_unfolding_all rfl) (by with_unfolding_all rfl) (hS2) (by with_unfolding_all rfl) cXO ⟨rfl, rfl⟩ (by first | with_unfolding_all rfl | simp) (by with_unfolding_all rfl) (by first | omega | (simp; omega)) (by first | omega | (simp; omega)) ?_); intro v3 w3 hS3)
   exact ⟨⟨k + 1, by omega, by go_num, by rw [HT.out]; exact hS3.tail⟩, by simp [intOf]; omega⟩
  ·have hkk : k = l.length := by omega
   subst hkk
   rw [List.take_length] at hSr
   go_wp2_with fail
   go_ret
   exact ⟨_, rfl, hSr.own 0 rfl, hSr.b⟩
theorem mCrossings_any (m : MacV) (ad : Option Addr) (cap : Nat) (al : Option Addr) (cl : Nat) (l : List Int) (w : World) (hR : Ints w ad cap m.sw) (hL : Ints w al cl l) (HK : ChkL m ad cap al cl l) :
  Calls Tryz.prog 36 #[mV m ad cap, .slice al l.length cl] w fun r w' => ∃ v, r = .returned (.tuple #[v, .int .i64 (crossE m l)]) ∧ Own cX 3 w.heap.size 86 w' v (if crossE m l = 0 then crossM m l else []) ∧ Below w.heap.size w w' := by
 have hcap := hL.le
 have hmx := hL.max
 have hS := (SL.nil w).box (.cells (mC m ad cap) 24)
 have q1 := (hS.blk 0 rfl).1
 have R1 := hR.below hS.b
 have L1 := hL.below hS.b
 unfold ChkL at HK
 by_cases he : loadE m l = 0
 ·have hok := loadE_zero he
  have hlo := hok.ok.lo
  have hhi := hok.ok.hi
  rw [he] at HK
  have CM := fun w h h2 => meets_any m ad al cap cl l 0 w h h2 hhi hok.rng
  have CO := fun w h => crossings_any m ad cap al cl l w h (by omega) hhi
  have hlen : (crossM m l).length ≤ 1048576 := by have := crossM_len m l; omega
  have hv : crossE m l = if meetsM m l 0 = true then 16 else 0 := by unfold crossE; rw [if_neg (by simp [he])]
  rw [hv]
  have HC := hid HK; have HO := hid CO
  clear HK hv he hok CO
  cases hm : meetsM m l 0
  all_goals
   rw [hm] at CM
   have HM := hid CM
   clear CM hm
   go_enter Tryz.func36, Tryz.ntmps36
   go_wp2_with (with_reducible refine wpList_ldS (n := 4) (us := mC m ad cap) A_mach (by kernel_rfl) (by with_unfolding_all rfl) (by with_unfolding_all rfl) (by assumption) (by with_unfolding_all rfl) (by with_unfolding_all rfl) ?_)
   refine (HC.out _ R1 L1).mono ?_
   rintro e w1 ⟨rfl, b1⟩
   have hS1 := hS.mono b1
   have q2 := (hS1.blk 0 rfl).1
   clear q1
   go_wp2_with (with_reducible refine wpList_ldS (n := 4) (us := mC m ad cap) A_mach (by kernel_rfl) (by with_unfolding_all rfl) (by with_unfolding_all rfl) (by assumption) (by with_unfolding_all rfl) (by with_unfolding_all rfl) ?_)
   refine (HM.out _ (hR.below hS1.b) (hL.below hS1.b)).mono ?_
   rintro e w3 ⟨rfl, b3⟩
   have hS3 := hS1.mono b3
   have q3 := (hS3.blk 0 rfl).1
   clear q2
   go_wp2_with (with_reducible refine wpList_ldS (n := 4) (us := mC m ad cap) A_mach (by kernel_rfl) (by with_unfolding_all rfl) (by with_unfolding_all rfl) (by assumption) (by with_unfolding_all rfl) (by with_unfolding_all rfl) ?_)
   first
    | (go_ret2; exact ⟨_, rfl, own_nil cXS, hS3.b⟩)
    | (refine (HO.out _ (hL.below hS3.b)).mono ?_
       rintro e w4 ⟨v, rfl, ho, b4⟩
       obtain ⟨a4, c4, rfl, hr4, _⟩ := ho.reps
       go_wp2_with fail
       refine (mappedX_any a4 c4 _ _ hr4 hlen).mono ?_
       rintro e w5 ⟨v5, rfl, ho5, b5⟩
       go_wp2_with fail
       go_ret2
       exact ⟨_, rfl, ho5.mono (bnext hS3.b b4).size, bnext hS3.b (bnext b4 b5)⟩)
 ·obtain ⟨E, hE⟩ : ∃ E, E = loadE m l := ⟨_, rfl⟩
  have hv : crossE m l = E := by unfold crossE; rw [if_pos he, hE]
  rw [← hE] at HK he
  have hne : (E != 0) = true := by simpa using he
  rw [hv, if_neg he]
  have HC := hid HK
  clear hv hE HK
  go_enter Tryz.func36, Tryz.ntmps36
  go_wp2_with (with_reducible refine wpList_ldS (n := 4) (us := mC m ad cap) A_mach (by kernel_rfl) (by with_unfolding_all rfl) (by with_unfolding_all rfl) (by assumption) (by with_unfolding_all rfl) (by with_unfolding_all rfl) ?_)
  refine (HC.out _ R1 L1).mono ?_
  rintro e w1 ⟨rfl, b1⟩
  have hS1 := hS.mono b1
  go_wp2_with fail
  go_ret2
  exact ⟨_, rfl, own_nil cXS, hS1.b⟩
end Go.Proofs.YtbchpkmcpplidaaGreatDoor

namespace Go.Proofs.YtbchpkmcpplidaaGreatDoor
open Go.RowKit
set_option maxHeartbeats 8000000
set_option maxRecDepth 100000

def pre4 (E : Int) (r : Bool) (k : Nat) (n : Int) : Int := firstE [E, if r then 13 else 0, if decide (12 < (k : Int)) then 5 else 0, if n < 0 ∨ 1000 < n then 3 else 0]
theorem weaveE_pre (m : MacV) (l : List Int) (n : Int) : weaveE m l n = if pre4 (loadE m l) m.ring l.length n ≠ 0 then pre4 (loadE m l) m.ring l.length n else if meetsM m l n = true then 16 else 0 := by
 unfold weaveE pre4
 by_cases he : loadE m l = 0
 ·rw [if_neg (by simp [he]), he, firstE_z]
  cases hr : m.ring
  ·simp only [Bool.false_eq_true, if_false]
   rw [firstE_z]
   by_cases hl : 12 < l.length
   ·have : decide (12 < (l.length : Int)) = true := decide_eq_true (by omega)
    rw [this, if_pos rfl, if_pos hl, firstE_head (by decide)]
    simp
   ·have : decide (12 < (l.length : Int)) = false := decide_eq_false (by omega)
    rw [this, if_neg hl]
    simp only [Bool.false_eq_true, if_false]
    rw [firstE_z]
    by_cases hn : n < 0 ∨ 1000 < n
    ·have e : (if n < 0 ∨ 1000 < n then (3 : Int) else 0) = 3 := if_pos hn
     rw [e, if_pos hn, firstE_head (by decide)]
     rfl
    ·have e : (if n < 0 ∨ 1000 < n then (3 : Int) else 0) = 0 := if_neg hn
     rw [e, if_neg hn, firstE_z, firstE_nil]
     rfl
  ·simp only [if_true]
   rw [firstE_head (by decide)]
   simp
 ·rw [if_pos he, firstE_head he, if_pos he]
theorem pre4_zero {m : MacV} {l : List Int} {n : Int} (h : pre4 (loadE m l) m.ring l.length n = 0) : LoadOk m l := by
 refine loadE_zero ?_
 by_cases he : loadE m l = 0
 ·exact he
 ·unfold pre4 at h; rw [firstE_head he] at h; exact absurd h he

theorem wwhen (b : Bool) (e v : Int) (h : v = if b then e else 0) (w : World) : Calls Tryz.prog 59 #[.bool b, .int .i64 e] w fun r w' => r = .returned (.int .i64 v) ∧ Below w.heap.size w w' := by
 subst h
 exact calls_below (mwhen_any b e w)

theorem checkWeave_any (m : MacV) (ad : Option Addr) (cap : Nat) (al : Option Addr) (cl : Nat) (l : List Int) (n : Int) (w : World) (hR : Ints w ad cap m.sw) (hL : Ints w al cl l) (HK : ChkL m ad cap al cl l) :
  Calls Tryz.prog 87 #[mV m ad cap, .slice al l.length cl, .int .i64 n] w fun r w' => r = .returned (.int .i64 (weaveE m l n)) ∧ Below w.heap.size w w' := by
 have hcap := hL.le
 have hmx := hL.max
 have hS := (SL.nil w).box (.cells (mC m ad cap) 24)
 have q1 := (hS.blk 0 rfl).1
 have R1 := hR.below hS.b
 have L1 := hL.below hS.b
 unfold ChkL at HK
 have hv := weaveE_pre m l n
 obtain ⟨Z, hZ⟩ : ∃ Z, Z = pre4 (loadE m l) m.ring l.length n := ⟨_, rfl⟩
 have hok : Z = 0 → LoadOk m l := fun h => pre4_zero (by rw [← hZ]; exact h)
 rw [← hZ] at hv
 unfold pre4 at hZ
 obtain ⟨E, hE⟩ : ∃ E, E = loadE m l := ⟨_, rfl⟩
 obtain ⟨R, hRR⟩ : ∃ R, R = (if m.ring = true then (13 : Int) else 0) := ⟨_, rfl⟩
 obtain ⟨V5, hV5⟩ : ∃ V, V = (if decide (12 < (l.length : Int)) = true then (5 : Int) else 0) := ⟨_, rfl⟩
 obtain ⟨V3, hV3⟩ : ∃ V, V = (if n < 0 ∨ 1000 < n then (3 : Int) else 0) := ⟨_, rfl⟩
 rw [← hE] at HK hZ
 rw [← hRR, ← hV5, ← hV3] at hZ
 have HC := hid HK
 have HW := hid (wwhen m.ring 13 R hRR)
 have HW5 := hid (wwhen (decide (12 < (l.length : Int))) 5 V5 hV5)
 have HZ := hid hZ
 rw [hv]
 have fin : ∀ w1, SL w.heap.size w w1 [pBlk w.heap.size (.cells (mC m ad cap) 24)] → True := fun _ _ => trivial
 clear HK hE hRR hV5 hZ hv fin
 by_cases c1 : n < 0
 ·have hb3 : V3 = if (true : Bool) then 3 else 0 := by rw [hV3, if_pos (.inl c1)]; rfl
  have HW3 := hid (wwhen true 3 V3 hb3)
  have d1 : decide (n < 0) = true := decide_eq_true c1
  clear hV3 hb3
  by_cases hz : Z = 0
  ·have CM := fun w h h2 => meets_any m ad al cap cl l n w h h2 (hok hz).ok.hi (hok hz).rng
   rw [if_neg (by simp [hz])]
   clear hok
   subst hz
   cases hm : meetsM m l n
   all_goals
    rw [hm] at CM
    have HM := hid CM
    clear CM hm
    go_enter Tryz.func87, Tryz.ntmps87
    go_wp2_with fail
    refine wp_region_qt 17 (by kernel_rfl) (by kernel_rfl) ?_
    simp only [List.take_succ_cons, List.take_zero, List.drop_succ_cons, List.drop_zero]
    repeat (first | ((with_reducible refine wpB_loadS (n := 4) (us := mC m ad cap) A_mach (by kernel_rfl) (by with_unfolding_all rfl) (by with_unfolding_all rfl) (by assumption) (by with_unfolding_all rfl) (by with_unfolding_all rfl) ?_); (try simp only [Act.put, pA, pB, pC])) | ((with_reducible refine wpB_load F_boolM (by with_unfolding_all rfl) (by with_unfolding_all rfl) (by assumption) (by with_unfolding_all rfl) ?_); (try simp only [Act.put, pA, pB, pC])) | ((refine wpB_call (.int .i64 E) (by with_unfolding_all rfl) (fun w' => ?_) (fun w' hw' => HC.out w' (R1.below hw') (L1.below hw')) ?_); (focus (go_simp; done)); (try simp only [Act.put, pA, pB, pC])) | ((refine wpB_call (.int .i64 R) (by with_unfolding_all rfl) (fun w' => ?_) (fun w' hw' => HW.out w') ?_); (focus (go_simp; done)); (try simp only [Act.put, pA, pB, pC])) | ((refine wpB_call (.int .i64 V5) (by with_unfolding_all rfl) (fun w' => ?_) (fun w' hw' => HW5.out w') ?_); (focus (go_simp; done)); (try simp only [Act.put, pA, pB, pC])) | ((refine wpB_call (.int .i64 V3) (by with_unfolding_all rfl) (fun w' => ?_) (fun w' hw' => HW3.out w') ?_); (focus (go_simp; done)); (try simp only [Act.put, pA, pB, pC])) | ((with_reducible refine wpQ_skip (by with_unfolding_all rfl) ?_); (try simp only [Act.put, pA, pB, pC])) |  ((with_reducible refine wpB_load (by first | exact F_int | exact F_u64s) (by with_unfolding_all rfl) (by with_unfolding_all rfl) (by assumption) (by with_unfolding_all rfl) ?_); (try simp only [Act.put, pA, pB, pC])) | ((refine wpQ_oneG ?_ (by with_unfolding_all rfl) (fun w' => ?_) ?_); rotate_left; (go_simp; rfl); (try simp only [Act.put, pA, pB, pC])))
    refine wpQuiet_nil ?_
    intro w1 hb1
    have hS1 := hS.mono hb1
    have hS2 := hS1.al (.cells #[.int .i64 E, .int .i64 R, .int .i64 V5, .int .i64 V3] 29)
    have q2 := (hS2.blk 0 rfl).1
    go_wp2_with (first | (go_at_call 58; refine (mfirst_any _ _ [_, _, _, _] _ (reps_newN cIntS [_, _, _, _] 4 rfl (by decide) _ _ (by simp) rfl)).mono ?_; rw [← HZ.out]; rintro e w' ⟨rfl, rfl⟩) | (with_reducible refine wpList_ldS (n := 4) (us := mC m ad cap) A_mach (by kernel_rfl) (by with_unfolding_all rfl) (by with_unfolding_all rfl) (by assumption) (by with_unfolding_all rfl) (by with_unfolding_all rfl) ?_))
    refine (HM.out _ (hR.below hS2.b) (hL.below hS2.b)).mono ?_
    rintro e w3 ⟨rfl, b3⟩
    have hS3 := hS2.mono b3
    go_wp2_with (go_at_call 59; refine (mwhen_any _ _ _).mono ?_; rintro e w' ⟨rfl, rfl⟩)
    go_ret
    exact ⟨rfl, hS3.b⟩
  ·have hne : (Z != 0) = true := by simpa using hz
   rw [if_pos hz]
   clear hok
   go_enter Tryz.func87, Tryz.ntmps87
   go_wp2_with fail
   refine wp_region_qt 17 (by kernel_rfl) (by kernel_rfl) ?_
   simp only [List.take_succ_cons, List.take_zero, List.drop_succ_cons, List.drop_zero]
   repeat (first | ((with_reducible refine wpB_loadS (n := 4) (us := mC m ad cap) A_mach (by kernel_rfl) (by with_unfolding_all rfl) (by with_unfolding_all rfl) (by assumption) (by with_unfolding_all rfl) (by with_unfolding_all rfl) ?_); (try simp only [Act.put, pA, pB, pC])) | ((with_reducible refine wpB_load F_boolM (by with_unfolding_all rfl) (by with_unfolding_all rfl) (by assumption) (by with_unfolding_all rfl) ?_); (try simp only [Act.put, pA, pB, pC])) | ((refine wpB_call (.int .i64 E) (by with_unfolding_all rfl) (fun w' => ?_) (fun w' hw' => HC.out w' (R1.below hw') (L1.below hw')) ?_); (focus (go_simp; done)); (try simp only [Act.put, pA, pB, pC])) | ((refine wpB_call (.int .i64 R) (by with_unfolding_all rfl) (fun w' => ?_) (fun w' hw' => HW.out w') ?_); (focus (go_simp; done)); (try simp only [Act.put, pA, pB, pC])) | ((refine wpB_call (.int .i64 V5) (by with_unfolding_all rfl) (fun w' => ?_) (fun w' hw' => HW5.out w') ?_); (focus (go_simp; done)); (try simp only [Act.put, pA, pB, pC])) | ((refine wpB_call (.int .i64 V3) (by with_unfolding_all rfl) (fun w' => ?_) (fun w' hw' => HW3.out w') ?_); (focus (go_simp; done)); (try simp only [Act.put, pA, pB, pC])) | ((with_reducible refine wpQ_skip (by with_unfolding_all rfl) ?_); (try simp only [Act.put, pA, pB, pC])) |  ((with_reducible refine wpB_load (by first | exact F_int | exact F_u64s) (by with_unfolding_all rfl) (by with_unfolding_all rfl) (by assumption) (by with_unfolding_all rfl) ?_); (try simp only [Act.put, pA, pB, pC])) | ((refine wpQ_oneG ?_ (by with_unfolding_all rfl) (fun w' => ?_) ?_); rotate_left; (go_simp; rfl); (try simp only [Act.put, pA, pB, pC])))
   refine wpQuiet_nil ?_
   intro w1 hb1
   have hS1 := hS.mono hb1
   go_wp2_with (go_at_call 58; refine (mfirst_any _ _ [_, _, _, _] _ (reps_newN cIntS [_, _, _, _] 4 rfl (by decide) _ _ (by simp) rfl)).mono ?_; rw [← HZ.out]; rintro e w' ⟨rfl, rfl⟩)
   go_ret
   exact ⟨rfl, bal hS1.b _⟩
 ·have hb3 : V3 = if decide (1000 < n) then 3 else 0 := by
   rw [hV3]
   by_cases h : 1000 < n
   ·rw [if_pos (.inr h), decide_eq_true h]; rfl
   ·rw [if_neg (by omega), decide_eq_false h]; rfl
  have HW3 := hid (wwhen (decide (1000 < n)) 3 V3 hb3)
  have d1 : decide (n < 0) = false := decide_eq_false c1
  clear hV3 hb3
  by_cases hz : Z = 0
  ·have CM := fun w h h2 => meets_any m ad al cap cl l n w h h2 (hok hz).ok.hi (hok hz).rng
   rw [if_neg (by simp [hz])]
   clear hok
   subst hz
   cases hm : meetsM m l n
   all_goals
    rw [hm] at CM
    have HM := hid CM
    clear CM hm
    go_enter Tryz.func87, Tryz.ntmps87
    go_wp2_with fail
    refine wp_region_qt 17 (by kernel_rfl) (by kernel_rfl) ?_
    simp only [List.take_succ_cons, List.take_zero, List.drop_succ_cons, List.drop_zero]
    repeat (first | ((with_reducible refine wpB_loadS (n := 4) (us := mC m ad cap) A_mach (by kernel_rfl) (by with_unfolding_all rfl) (by with_unfolding_all rfl) (by assumption) (by with_unfolding_all rfl) (by with_unfolding_all rfl) ?_); (try simp only [Act.put, pA, pB, pC])) | ((with_reducible refine wpB_load F_boolM (by with_unfolding_all rfl) (by with_unfolding_all rfl) (by assumption) (by with_unfolding_all rfl) ?_); (try simp only [Act.put, pA, pB, pC])) | ((refine wpB_call (.int .i64 E) (by with_unfolding_all rfl) (fun w' => ?_) (fun w' hw' => HC.out w' (R1.below hw') (L1.below hw')) ?_); (focus (go_simp; done)); (try simp only [Act.put, pA, pB, pC])) | ((refine wpB_call (.int .i64 R) (by with_unfolding_all rfl) (fun w' => ?_) (fun w' hw' => HW.out w') ?_); (focus (go_simp; done)); (try simp only [Act.put, pA, pB, pC])) | ((refine wpB_call (.int .i64 V5) (by with_unfolding_all rfl) (fun w' => ?_) (fun w' hw' => HW5.out w') ?_); (focus (go_simp; done)); (try simp only [Act.put, pA, pB, pC])) | ((refine wpB_call (.int .i64 V3) (by with_unfolding_all rfl) (fun w' => ?_) (fun w' hw' => HW3.out w') ?_); (focus (go_simp; done)); (try simp only [Act.put, pA, pB, pC])) | ((with_reducible refine wpQ_skip (by with_unfolding_all rfl) ?_); (try simp only [Act.put, pA, pB, pC])) |  ((with_reducible refine wpB_load (by first | exact F_int | exact F_u64s) (by with_unfolding_all rfl) (by with_unfolding_all rfl) (by assumption) (by with_unfolding_all rfl) ?_); (try simp only [Act.put, pA, pB, pC])) | ((refine wpQ_oneG ?_ (by with_unfolding_all rfl) (fun w' => ?_) ?_); rotate_left; (go_simp; rfl); (try simp only [Act.put, pA, pB, pC])))
    refine wpQuiet_nil ?_
    intro w1 hb1
    have hS1 := hS.mono hb1
    have hS2 := hS1.al (.cells #[.int .i64 E, .int .i64 R, .int .i64 V5, .int .i64 V3] 29)
    have q2 := (hS2.blk 0 rfl).1
    go_wp2_with (first | (go_at_call 58; refine (mfirst_any _ _ [_, _, _, _] _ (reps_newN cIntS [_, _, _, _] 4 rfl (by decide) _ _ (by simp) rfl)).mono ?_; rw [← HZ.out]; rintro e w' ⟨rfl, rfl⟩) | (with_reducible refine wpList_ldS (n := 4) (us := mC m ad cap) A_mach (by kernel_rfl) (by with_unfolding_all rfl) (by with_unfolding_all rfl) (by assumption) (by with_unfolding_all rfl) (by with_unfolding_all rfl) ?_))
    refine (HM.out _ (hR.below hS2.b) (hL.below hS2.b)).mono ?_
    rintro e w3 ⟨rfl, b3⟩
    have hS3 := hS2.mono b3
    go_wp2_with (go_at_call 59; refine (mwhen_any _ _ _).mono ?_; rintro e w' ⟨rfl, rfl⟩)
    go_ret
    exact ⟨rfl, hS3.b⟩
  ·have hne : (Z != 0) = true := by simpa using hz
   rw [if_pos hz]
   clear hok
   go_enter Tryz.func87, Tryz.ntmps87
   go_wp2_with fail
   refine wp_region_qt 17 (by kernel_rfl) (by kernel_rfl) ?_
   simp only [List.take_succ_cons, List.take_zero, List.drop_succ_cons, List.drop_zero]
   repeat (first | ((with_reducible refine wpB_loadS (n := 4) (us := mC m ad cap) A_mach (by kernel_rfl) (by with_unfolding_all rfl) (by with_unfolding_all rfl) (by assumption) (by with_unfolding_all rfl) (by with_unfolding_all rfl) ?_); (try simp only [Act.put, pA, pB, pC])) | ((with_reducible refine wpB_load F_boolM (by with_unfolding_all rfl) (by with_unfolding_all rfl) (by assumption) (by with_unfolding_all rfl) ?_); (try simp only [Act.put, pA, pB, pC])) | ((refine wpB_call (.int .i64 E) (by with_unfolding_all rfl) (fun w' => ?_) (fun w' hw' => HC.out w' (R1.below hw') (L1.below hw')) ?_); (focus (go_simp; done)); (try simp only [Act.put, pA, pB, pC])) | ((refine wpB_call (.int .i64 R) (by with_unfolding_all rfl) (fun w' => ?_) (fun w' hw' => HW.out w') ?_); (focus (go_simp; done)); (try simp only [Act.put, pA, pB, pC])) | ((refine wpB_call (.int .i64 V5) (by with_unfolding_all rfl) (fun w' => ?_) (fun w' hw' => HW5.out w') ?_); (focus (go_simp; done)); (try simp only [Act.put, pA, pB, pC])) | ((refine wpB_call (.int .i64 V3) (by with_unfolding_all rfl) (fun w' => ?_) (fun w' hw' => HW3.out w') ?_); (focus (go_simp; done)); (try simp only [Act.put, pA, pB, pC])) | ((with_reducible refine wpQ_skip (by with_unfolding_all rfl) ?_); (try simp only [Act.put, pA, pB, pC])) |  ((with_reducible refine wpB_load (by first | exact F_int | exact F_u64s) (by with_unfolding_all rfl) (by with_unfolding_all rfl) (by assumption) (by with_unfolding_all rfl) ?_); (try simp only [Act.put, pA, pB, pC])) | ((refine wpQ_oneG ?_ (by with_unfolding_all rfl) (fun w' => ?_) ?_); rotate_left; (go_simp; rfl); (try simp only [Act.put, pA, pB, pC])))
   refine wpQuiet_nil ?_
   intro w1 hb1
   have hS1 := hS.mono hb1
   go_wp2_with (go_at_call 58; refine (mfirst_any _ _ [_, _, _, _] _ (reps_newN cIntS [_, _, _, _] 4 rfl (by decide) _ _ (by simp) rfl)).mono ?_; rw [← HZ.out]; rintro e w' ⟨rfl, rfl⟩)
   go_ret
   exact ⟨rfl, bal hS1.b _⟩
end Go.Proofs.YtbchpkmcpplidaaGreatDoor

namespace Go.Proofs.YtbchpkmcpplidaaGreatDoor
open Go.RowKit
set_option maxHeartbeats 8000000
set_option maxRecDepth 100000

/-- mapped with a function of the program, of which the places are given. -/
theorem mappedZ_any (p1 p2 : Value) (g : Int → Int) (al : Option Addr) (cl : Nat) (l : List Int) (w : World) (hL : Ints w al cl l) (hn : l.length ≤ 1048576)
  (HF : ∀ x ∈ l, ∀ w', Below w.heap.size w w' → Calls Tryz.prog 89 #[.int .i64 x, p1, p2] w' fun r w'' => r = .returned (.int .i64 (g x)) ∧ Below w'.heap.size w' w'') :
  Calls Tryz.prog 73 #[.slice al l.length cl, .func (.func 89) #[] #[p1, p2]] w fun r w' => ∃ v, r = .returned v ∧ OwnI w.heap.size w' v (l.map g) ∧ Below w.heap.size w w' := by
 have hcap := hL.le
 have hmx := hL.max
 have H := hid HF
 clear HF
 have hS := (SL.nil w).nilS (α := Int) (e := 3) cIntS
 go_enter Tryz.func73, Tryz.ntmps73
 go_wp2_with fail
 go_loopw [5, 10] (fun v i wr => ∃ k : Nat, k ≤ l.length ∧ i = .int .i64 k ∧ SL w.heap.size w wr [pOwn cInt 1 3 v ((l.take k).map g)]) (fun _ i _ => l.length - (intOf i).toNat)
 case atStart => exact ⟨0, by omega, rfl, hS⟩
 case round =>
  clear hS
  obtain ⟨k, hk, rfl, hSr⟩ := hrel
  have hLr := hL.below hSr.b
  by_cases hlt : k < l.length
  ·have hmem := atD_mem hlt
   have ht := take_snoc hlt
   have hlen : ((l.take k).map g).length ≤ 1048576 := by simp; omega
   obtain ⟨x, hx⟩ : ∃ x, x = atD 0 l k := ⟨_, rfl⟩
   rw [← hx] at hmem ht
   have HX := hid hx; have HT := hid ht
   clear hx ht
   go_wp2_with ((with_reducible refine wpList_idx _ 0 E_ints F_int cInt1 (by with_unfolding_all rfl) (by with_unfolding_all rfl) (hLr) (by first | omega | (simp; done)) (by first | omega | (simp; done)) (fun _ => by with_unfolding_all rfl) (fun _ => ?_)); rw [← HX.out])
   refine (H.out x hmem _ hSr.b).mono ?_
   rintro e w1 ⟨rfl, b1⟩
   have hS1 := hSr.mono b1
   go_wp2_with ((with_reducible refine wpList_pushL (y := (g x)) 0 E_ints (by with_unfolding_all rfl) (by with_unfolding_all rfl) (hS1) (by with_unfolding_all rfl) cIntO ⟨rfl, rfl⟩ (by first | with_unfolding_all rfl | simp) (by with_unfolding_all rfl) (by first | omega | (simp; omega)) (by first | omega | (simp; omega)) ?_); intro v2 w2 hS2)
   exact ⟨⟨k + 1, by omega, by go_num, by rw [HT.out, List.map_append]; exact hS2⟩, by simp [intOf]; omega⟩
  ·have hkk : k = l.length := by omega
   subst hkk
   rw [List.take_length] at hSr
   go_wp2_with fail
   go_ret
   exact ⟨_, rfl, hSr.own 0 rfl, hSr.b⟩

/-- mapped with a function of the program, of which the places are given. -/
theorem mappedY_any (p1 : Value) (g : Int → Int) (al : Option Addr) (cl : Nat) (l : List Int) (w : World) (hL : Ints w al cl l) (hn : l.length ≤ 1048576)
  (HF : ∀ x ∈ l, ∀ w', Below w.heap.size w w' → Calls Tryz.prog 90 #[.int .i64 x, p1] w' fun r w'' => r = .returned (.int .i64 (g x)) ∧ Below w'.heap.size w' w'') :
  Calls Tryz.prog 73 #[.slice al l.length cl, .func (.func 90) #[] #[p1]] w fun r w' => ∃ v, r = .returned v ∧ OwnI w.heap.size w' v (l.map g) ∧ Below w.heap.size w w' := by
 have hcap := hL.le
 have hmx := hL.max
 have H := hid HF
 clear HF
 have hS := (SL.nil w).nilS (α := Int) (e := 3) cIntS
 go_enter Tryz.func73, Tryz.ntmps73
 go_wp2_with fail
 go_loopw [5, 10] (fun v i wr => ∃ k : Nat, k ≤ l.length ∧ i = .int .i64 k ∧ SL w.heap.size w wr [pOwn cInt 1 3 v ((l.take k).map g)]) (fun _ i _ => l.length - (intOf i).toNat)
 case atStart => exact ⟨0, by omega, rfl, hS⟩
 case round =>
  clear hS
  obtain ⟨k, hk, rfl, hSr⟩ := hrel
  have hLr := hL.below hSr.b
  by_cases hlt : k < l.length
  ·have hmem := atD_mem hlt
   have ht := take_snoc hlt
   have hlen : ((l.take k).map g).length ≤ 1048576 := by simp; omega
   obtain ⟨x, hx⟩ : ∃ x, x = atD 0 l k := ⟨_, rfl⟩
   rw [← hx] at hmem ht
   have HX := hid hx; have HT := hid ht
   clear hx ht
   go_wp2_with ((with_reducible refine wpList_idx _ 0 E_ints F_int cInt1 (by with_unfolding_all rfl) (by with_unfolding_all rfl) (hLr) (by first | omega | (simp; done)) (by first | omega | (simp; done)) (fun _ => by with_unfolding_all rfl) (fun _ => ?_)); rw [← HX.out])
   refine (H.out x hmem _ hSr.b).mono ?_
   rintro e w1 ⟨rfl, b1⟩
   have hS1 := hSr.mono b1
   go_wp2_with ((with_reducible refine wpList_pushL (y := (g x)) 0 E_ints (by with_unfolding_all rfl) (by with_unfolding_all rfl) (hS1) (by with_unfolding_all rfl) cIntO ⟨rfl, rfl⟩ (by first | with_unfolding_all rfl | simp) (by with_unfolding_all rfl) (by first | omega | (simp; omega)) (by first | omega | (simp; omega)) ?_); intro v2 w2 hS2)
   exact ⟨⟨k + 1, by omega, by go_num, by rw [HT.out, List.map_append]; exact hS2⟩, by simp [intOf]; omega⟩
  ·have hkk : k = l.length := by omega
   subst hkk
   rw [List.take_length] at hSr
   go_wp2_with fail
   go_ret
   exact ⟨_, rfl, hSr.own 0 rfl, hSr.b⟩

theorem strands1_any (m : MacV) (ad : Option Addr) (cap : Nat) (bm bn : Nat) (s n : Int) (w : World) (hm : w.heap[bm]? = some (.cells (mC m ad cap) 24)) (hn : w.heap[bn]? = some (.cells #[.int .i64 n] 3)) (hR : Ints w ad cap m.sw) (hg : m.gears ≤ 16) (h0 : 0 ≤ s) (h1 : s < 4 * m.gears) (n0 : 0 ≤ n) (n1 : n ≤ 9223372036854775807) :
  Calls Tryz.prog 89 #[.int .i64 s, .pointer (some ⟨bm, 0, none⟩), .pointer (some ⟨bn, 0, none⟩)] w fun r w' => r = .returned (.int .i64 (itM m s n.toNat)) ∧ Below w.heap.size w w' := by
 have CA := fun w h => after_any m ad cap s n w h hg h0 h1 n0 n1
 have HA := hid CA
 clear CA
 go_enter Tryz.func89, Tryz.ntmps89
 go_wp2_with (first | (with_reducible refine wpList_ldS (n := 4) (us := mC m ad cap) A_mach (by kernel_rfl) (by with_unfolding_all rfl) (by with_unfolding_all rfl) (by assumption) (by with_unfolding_all rfl) (by with_unfolding_all rfl) ?_) | (with_reducible refine wpList_ldB F_int (by with_unfolding_all rfl) (by with_unfolding_all rfl) hn (by with_unfolding_all rfl) ?_))
 refine (HA.out _ hR).mono ?_
 rintro e w1 ⟨rfl, b1⟩
 go_wp2_with fail
 go_ret
 exact ⟨rfl, b1⟩
theorem strands2_any (a : Option Addr) (cap : Nat) (L : List Int) (b : Nat) (x : Int) (w : World) (hb : w.heap[b]? = some (.cells #[.slice a L.length cap] 22)) (hL : Ints w a cap L) :
  Calls Tryz.prog 90 #[.int .i64 x, .pointer (some ⟨b, 0, none⟩)] w fun r w' => r = .returned (.int .i64 ((idxO L x).getD (-1))) ∧ Below w.heap.size w w' := by
 have CI := fun w h => sIndexO_any a cap L x w h
 have HI := hid CI
 clear CI
 go_enter Tryz.func90, Tryz.ntmps90
 go_wp2_with (with_reducible refine wpList_ldB F_sliceM (by with_unfolding_all rfl) (by with_unfolding_all rfl) hb (by with_unfolding_all rfl) ?_)
 refine (HI.out _ hL).mono ?_
 rintro e w' ⟨rfl, rfl⟩
 go_wp2_with fail
 go_ret
 exact ⟨rfl, Below.refl _ _⟩

noncomputable def strandsL (m : MacV) (l : List Int) (n : Int) : List Int := (orderM m l).map fun c => (idxO (orderM m (atL m l n.toNat)) c).getD (-1)
section
variable {ops : Array Oper} {rest : List Oper} {a : Act} {Q : Exit → Act → World → Prop} {w0 w : World} {L : List Pc} {B : Nat} {ty : TypeId} {p : String} {af : Array Edge}
theorem wpList_sto1 {x y : Operand} {k : Nat} {u v : Value} {T : TypeId} (i : Nat) (hx : a.eval x = .pointer (some ⟨k, 0, none⟩)) (hy : a.eval y = v) (hS : SL B w0 w L) (hi : L[i]? = some (pBlk k (.cells #[u] T (0, 0))))
  (hK : ∀ w', SL B w0 w' (L.set i (pBlk k (.cells #[v] T (0, 0)))) → wpList Tryz.prog ops Q rest (a.put none undef) w') (hv : ∃ a n c, v = .slice a n c := by exact ⟨_, _, _, rfl⟩) :
  wpList Tryz.prog ops Q (⟨none, .store 22 x y, ty, p, af, none⟩ :: rest) a w := by
 obtain ⟨a0, n0, c0, rfl⟩ := hv
 have h1 := hS.cell i hi 0 rfl
 have h2 := hS.frozen i hi 0
 have h3 := hS.set i hi 0 (.slice a0 n0 c0)
 refine wpList_plain rfl fun K hK' => ?_
 have hs : (Instr.storeAt 22 (.pointer (some ⟨k, 0, none⟩)) (.slice a0 n0 c0)).run Tryz.prog w = .ok () (w.setCell ⟨k, 0, none⟩ (.slice a0 n0 c0)) := by
  simp [go_sem, h1, h2]
 unfold Oper.wp
 simp only [execOp, hx, hy]
 simp [hs, Result.andThen]
 exact hK' _ _ (hK _ h3)
end

theorem mStrands_any (m : MacV) (ad : Option Addr) (cap : Nat) (al : Option Addr) (cl : Nat) (l : List Int) (n : Int) (w : World) (hR : Ints w ad cap m.sw) (hL : Ints w al cl l) (HK : ChkL m ad cap al cl l) :
  Calls Tryz.prog 38 #[mV m ad cap, .slice al l.length cl, .int .i64 n] w fun r w' => ∃ v, r = .returned (.tuple #[v, .int .i64 (weaveE m l n)]) ∧ OwnI w.heap.size w' v (if weaveE m l n = 0 then strandsL m l n else []) ∧ Below w.heap.size w w' := by
 have hcap := hL.le
 have hmx := hL.max
 have hS := ((SL.nil w).box (.cells (mC m ad cap) 24)).box (.cells #[.int .i64 n] 3)
 simp only [World.size_alloc] at hS
 have q1 := (hS.blk 1 rfl).1
 have R1 := hR.below hS.b
 have L1 := hL.below hS.b
 have CW := checkWeave_any m ad cap al cl l n _ R1 L1 HK
 by_cases he : weaveE m l n = 0
 ·obtain ⟨hok, hr, hl12, hn0, hn1, hme⟩ := weaveE_zero he
  have hlo := hok.ok.lo
  have hhi := hok.ok.hi
  have hrng := hok.rng
  rw [if_pos he]
  rw [he] at CW ⊢
  have CO := fun w h => order_any m ad cap al cl l w h (by omega) hhi
  have CO2 := fun a c w (h : Ints w a c (atL m l n.toNat)) => order_any m ad cap a c (atL m l n.toNat) w h (by omega) hhi
  have hol := orderM_len m l
  have hol2 : (orderM m l).length ≤ 1048576 := by omega
  have hat : l.map (fun s => itM m s n.toNat) = atL m l n.toNat := rfl
  have hstr : strandsL m l n = (orderM m l).map fun c => (idxO (orderM m (atL m l n.toNat)) c).getD (-1) := rfl
  rw [hstr]
  have HC := hid CW; have HO := hid CO; have HO2 := hid CO2; have HRNG := hid hrng; have HAT := hid hat
  obtain ⟨O2, hO2⟩ : ∃ O2, O2 = orderM m (atL m l n.toNat) := ⟨_, rfl⟩
  rw [← hO2] at HO2 ⊢
  clear CW CO CO2 hok he hr hme HK hstr hrng hat hO2 hol
  go_enter Tryz.func38, Tryz.ntmps38
  have q0 := (hS.blk 0 rfl).1
  go_wp2_with (first | (with_reducible refine wpList_ldS (n := 4) (us := mC m ad cap) A_mach (by kernel_rfl) (by with_unfolding_all rfl) (by with_unfolding_all rfl) (by assumption) (by with_unfolding_all rfl) (by with_unfolding_all rfl) ?_) | (with_reducible refine wpList_ldB F_int (by with_unfolding_all rfl) (by with_unfolding_all rfl) q0 (by with_unfolding_all rfl) ?_))
  refine HC.out.mono ?_
  rintro e w1 ⟨rfl, b1⟩
  have hS1 := hS.mono b1
  have q2 := (hS1.blk 1 rfl).1
  have q3 := (hS1.blk 0 rfl).1
  clear q0 q1
  go_wp2_with fail
  refine wp_regionK (C := (fun V => Below w.heap.size w V ∧ V.heap[w.heap.size]? = some (.cells (mC m ad cap) 24))) [0, 1, 2] [_, _, _] 4 (by simp only [List.map_cons, List.map_nil, List.getElem?_toArray]; rfl) rfl (by kernel_rfl) (by kernel_rfl) (by kernel_rfl) (⟨hS1.b.drew, q2⟩) ?_
  refine ⟨_, yieldsK_blkC (n := 4) A_mach (by kernel_rfl) (fun V h => h.2) rfl (by with_unfolding_all rfl) (by with_unfolding_all rfl), ?_⟩
  go_frame
  refine ⟨_, yieldsK_val (by with_unfolding_all rfl) (fun w' => by with_unfolding_all exact rfl), ?_⟩
  go_frame
  refine ⟨.func (.func 89) #[] #[.pointer (some ⟨w.heap.size, 0, none⟩), .pointer (some ⟨w.heap.size + 1, 0, none⟩)], yieldsK_val (by with_unfolding_all rfl) (fun w' => by first | (go_simp; done) | (go_simp; rfl)), ?_⟩
  go_frame
  unfold wpPureK
  have hVd : ({ w1 with drawn := w1.drawn + 1 } : World) = w1.drew := rfl
  rw [hVd]
  have hS2 := hS1.drew
  have q4 := (hS2.blk 1 rfl).1
  refine wpAnyC_on [3, 5] (by kernel_rfl) (by simp) ?_
  simp only [List.forall_mem_cons, List.not_mem_nil, false_implies, implies_true, and_true]
  refine ⟨?_, ?_⟩
  ·refine wpOp_call (f := 73) (args := #[.slice al l.length cl, .func (.func 89) #[] #[.pointer (some ⟨w.heap.size, 0, none⟩), .pointer (some ⟨w.heap.size + 1, 0, none⟩)]]) (by rw [List.getElem?_toArray]; rfl) (by with_unfolding_all rfl) (by first | (go_simp; done) | (simp [execOp, Act.eval, Result.andThen]; done) | (simp [execOp, Act.eval, Result.andThen]; rfl)) ?_
   refine (mappedZ_any _ _ (fun s => itM m s n.toNat) al cl l _ (hL.below hS2.b) (by omega) (fun x hx w' hw' => strands1_any m ad cap _ _ x n w' ((hw'.block _ (hS2.blk 1 rfl).2.2).trans (hS2.blk 1 rfl).1) ((hw'.block _ (hS2.blk 0 rfl).2.2).trans (hS2.blk 0 rfl).1) ((hR.below hS2.b).below hw') hhi (HRNG.out x hx).1 (HRNG.out x hx).2 (by omega) (by omega))).mono ?_
   rintro e w3 ⟨v, rfl, ho, b3⟩
   rw [HAT.out] at ho
   obtain ⟨a3, c3, rfl, hr3, _⟩ := ho.reps
   have hT3 := hS2.call (SL.ofOwn ho b3)
   simp only [List.cons_append, List.nil_append] at hT3
   refine ⟨_, rfl, ⟨hT3.b, (hT3.blk 2 rfl).1⟩, ?_⟩
   go_frame
   refine wpAnyC_on [4, 5] (by kernel_rfl) (by simp) ?_
   simp only [List.forall_mem_cons, List.not_mem_nil, false_implies, implies_true, and_true]
   refine ⟨?_, ?_⟩
   ·refine wpOp_call (f := 83) (args := #[mV m ad cap, .slice a3 (atL m l n.toNat).length c3]) (by rw [List.getElem?_toArray]; rfl) (by with_unfolding_all rfl) (by first | (go_simp; done) | (simp [execOp, Act.eval, Result.andThen]; done) | (simp [execOp, Act.eval, Result.andThen]; rfl)) ?_
    refine (HO2.out a3 c3 _ (hT3.rd 0 rfl)).mono ?_
    rintro e w4 ⟨v4, rfl, ho4, b4⟩
    have hT4 := hT3.call (SL.ofOwn ho4 b4)
    simp only [List.cons_append, List.nil_append] at hT4
    obtain ⟨a4, c4, rfl, _⟩ := hT4.slice 0 rfl
    refine ⟨_, rfl, ⟨hT4.b, (hT4.blk 3 rfl).1⟩, ?_⟩
    go_frame
    refine wpAnyC_on [5] (by kernel_rfl) (by simp) ?_
    simp only [List.forall_mem_cons, List.not_mem_nil, false_implies, implies_true, and_true]
    have hT5 := hT4.box (.cells #[.slice none 0 0] 22)
    refine wpOp_value (v := .pointer (some ⟨(w4).heap.size, 0, none⟩)) (w' := (w4).alloc (.cells #[.slice none 0 0] 22)) (by rw [List.getElem?_toArray]; rfl) (by with_unfolding_all rfl) (by first | (go_simp; done) | (go_simp; rfl) | (simp [execOp, Act.eval, Result.andThen]; done)) ?_
    refine ⟨⟨hT5.b, (hT5.blk 4 rfl).1⟩, ?_⟩
    go_frame
    obtain ⟨W5, hW5⟩ : ∃ V, V = (w4).alloc (.cells #[.slice none 0 0] 22) := ⟨_, rfl⟩
    obtain ⟨b9, hb9⟩ : ∃ b, b = (w4).heap.size := ⟨_, rfl⟩
    rw [← hW5, ← hb9] at hT5
    simp only [← hW5, ← hb9]
    clear hW5 hb9
    refine wpAnyC_on [6] (by kernel_rfl) (by simp) ?_
    simp only [List.forall_mem_cons, List.not_mem_nil, false_implies, implies_true, and_true]
    refine wpOp_of_list (by rw [List.getElem?_toArray]; rfl) ?_
    refine wpList_sto1 (v := .slice a4 O2.length c4) 0 (by with_unfolding_all rfl) (by with_unfolding_all rfl) hT5 rfl ?_
    intro w6 hT6
    refine ⟨⟨hT6.b, (hT6.blk 4 rfl).1⟩, ?_⟩
    go_frame
    refine wpAnyC_rest [] [] rfl rfl (by kernel_rfl) (by kernel_rfl) (by kernel_rfl) ⟨hT6.b, (hT6.blk 4 rfl).1⟩ ?_
    unfold wpPure
    refine of_wpList_nil (P := Tryz.prog) (ops := #[]) ?_
    have q7 := (hT6.blk 4 rfl).1
    go_wp2_with (with_reducible refine wpList_ldS (n := 4) (us := mC m ad cap) A_mach (by kernel_rfl) (by with_unfolding_all rfl) (by with_unfolding_all rfl) (by assumption) (by with_unfolding_all rfl) (by with_unfolding_all rfl) ?_)
    refine (HO.out _ (hL.below hT6.b)).mono ?_
    rintro e w7 ⟨v7, rfl, ho7, b7⟩
    obtain ⟨a7, c7, rfl, hr7, _⟩ := ho7.reps
    have hU := hT6.call (SL.ofOwn ho7 b7)
    simp only [List.cons_append, List.nil_append] at hU
    go_wp2_with fail
    refine (mappedY_any _ (fun c => (idxO O2 c).getD (-1)) a7 c7 _ _ hr7 hol2 (fun x hx w' hw' => strands2_any a4 c4 O2 _ x w' ((hw'.block _ (hU.blk 1 rfl).2.2).trans (hU.blk 1 rfl).1) ((hU.rd 2 rfl).below hw'))).mono ?_
    rintro e w8 ⟨v8, rfl, ho8, b8⟩
    go_wp2_with fail
    go_ret2
    exact ⟨_, rfl, ho8.mono hU.b.size, bnext hU.b b8⟩

   ·have hT4 := hT3.box (.cells #[.slice none 0 0] 22)
    refine wpOp_value (v := .pointer (some ⟨(w3).heap.size, 0, none⟩)) (w' := (w3).alloc (.cells #[.slice none 0 0] 22)) (by rw [List.getElem?_toArray]; rfl) (by with_unfolding_all rfl) (by first | (go_simp; done) | (go_simp; rfl) | (simp [execOp, Act.eval, Result.andThen]; done)) ?_
    refine ⟨⟨hT4.b, (hT4.blk 3 rfl).1⟩, ?_⟩
    go_frame
    obtain ⟨W5, hW5⟩ : ∃ V, V = (w3).alloc (.cells #[.slice none 0 0] 22) := ⟨_, rfl⟩
    obtain ⟨b9, hb9⟩ : ∃ b, b = (w3).heap.size := ⟨_, rfl⟩
    rw [← hW5, ← hb9] at hT4
    simp only [← hW5, ← hb9]
    clear hW5 hb9
    refine wpAnyC_on [4] (by kernel_rfl) (by simp) ?_
    simp only [List.forall_mem_cons, List.not_mem_nil, false_implies, implies_true, and_true]
    refine wpOp_call (f := 83) (args := #[mV m ad cap, .slice a3 (atL m l n.toNat).length c3]) (by rw [List.getElem?_toArray]; rfl) (by with_unfolding_all rfl) (by first | (go_simp; done) | (simp [execOp, Act.eval, Result.andThen]; done) | (simp [execOp, Act.eval, Result.andThen]; rfl)) ?_
    refine (HO2.out a3 c3 _ (hT4.rd 1 rfl)).mono ?_
    rintro e w4 ⟨v4, rfl, ho4, b4⟩
    have hT5 := hT4.call (SL.ofOwn ho4 b4)
    simp only [List.cons_append, List.nil_append] at hT5
    obtain ⟨a4, c4, rfl, _⟩ := hT5.slice 0 rfl
    refine ⟨_, rfl, ⟨hT5.b, (hT5.blk 4 rfl).1⟩, ?_⟩
    go_frame
    refine wpAnyC_on [6] (by kernel_rfl) (by simp) ?_
    simp only [List.forall_mem_cons, List.not_mem_nil, false_implies, implies_true, and_true]
    refine wpOp_of_list (by rw [List.getElem?_toArray]; rfl) ?_
    refine wpList_sto1 (v := .slice a4 O2.length c4) 1 (by with_unfolding_all rfl) (by with_unfolding_all rfl) hT5 rfl ?_
    intro w6 hT6
    refine ⟨⟨hT6.b, (hT6.blk 4 rfl).1⟩, ?_⟩
    go_frame
    refine wpAnyC_rest [] [] rfl rfl (by kernel_rfl) (by kernel_rfl) (by kernel_rfl) ⟨hT6.b, (hT6.blk 4 rfl).1⟩ ?_
    unfold wpPure
    refine of_wpList_nil (P := Tryz.prog) (ops := #[]) ?_
    have q7 := (hT6.blk 4 rfl).1
    go_wp2_with (with_reducible refine wpList_ldS (n := 4) (us := mC m ad cap) A_mach (by kernel_rfl) (by with_unfolding_all rfl) (by with_unfolding_all rfl) (by assumption) (by with_unfolding_all rfl) (by with_unfolding_all rfl) ?_)
    refine (HO.out _ (hL.below hT6.b)).mono ?_
    rintro e w7 ⟨v7, rfl, ho7, b7⟩
    obtain ⟨a7, c7, rfl, hr7, _⟩ := ho7.reps
    have hU := hT6.call (SL.ofOwn ho7 b7)
    simp only [List.cons_append, List.nil_append] at hU
    go_wp2_with fail
    refine (mappedY_any _ (fun c => (idxO O2 c).getD (-1)) a7 c7 _ _ hr7 hol2 (fun x hx w' hw' => strands2_any a4 c4 O2 _ x w' ((hw'.block _ (hU.blk 2 rfl).2.2).trans (hU.blk 2 rfl).1) ((hU.rd 1 rfl).below hw'))).mono ?_
    rintro e w8 ⟨v8, rfl, ho8, b8⟩
    go_wp2_with fail
    go_ret2
    exact ⟨_, rfl, ho8.mono hU.b.size, bnext hU.b b8⟩

  ·have hT3 := hS2.box (.cells #[.slice none 0 0] 22)
   refine wpOp_value (v := .pointer (some ⟨(w1.drew).heap.size, 0, none⟩)) (w' := (w1.drew).alloc (.cells #[.slice none 0 0] 22)) (by rw [List.getElem?_toArray]; rfl) (by with_unfolding_all rfl) (by first | (go_simp; done) | (go_simp; rfl) | (simp [execOp, Act.eval, Result.andThen]; done)) ?_
   refine ⟨⟨hT3.b, (hT3.blk 2 rfl).1⟩, ?_⟩
   go_frame
   obtain ⟨W5, hW5⟩ : ∃ V, V = (w1.drew).alloc (.cells #[.slice none 0 0] 22) := ⟨_, rfl⟩
   obtain ⟨b9, hb9⟩ : ∃ b, b = (w1.drew).heap.size := ⟨_, rfl⟩
   rw [← hW5, ← hb9] at hT3
   simp only [← hW5, ← hb9]
   clear hW5 hb9
   refine wpAnyC_on [3] (by kernel_rfl) (by simp) ?_
   simp only [List.forall_mem_cons, List.not_mem_nil, false_implies, implies_true, and_true]
   refine wpOp_call (f := 73) (args := #[.slice al l.length cl, .func (.func 89) #[] #[.pointer (some ⟨w.heap.size, 0, none⟩), .pointer (some ⟨w.heap.size + 1, 0, none⟩)]]) (by rw [List.getElem?_toArray]; rfl) (by with_unfolding_all rfl) (by first | (go_simp; done) | (simp [execOp, Act.eval, Result.andThen]; done) | (simp [execOp, Act.eval, Result.andThen]; rfl)) ?_
   refine (mappedZ_any _ _ (fun s => itM m s n.toNat) al cl l _ (hL.below hT3.b) (by omega) (fun x hx w' hw' => strands1_any m ad cap _ _ x n w' ((hw'.block _ (hT3.blk 2 rfl).2.2).trans (hT3.blk 2 rfl).1) ((hw'.block _ (hT3.blk 1 rfl).2.2).trans (hT3.blk 1 rfl).1) ((hR.below hT3.b).below hw') hhi (HRNG.out x hx).1 (HRNG.out x hx).2 (by omega) (by omega))).mono ?_
   rintro e w3 ⟨v, rfl, ho, b3⟩
   rw [HAT.out] at ho
   obtain ⟨a3, c3, rfl, hr3, _⟩ := ho.reps
   have hT4 := hT3.call (SL.ofOwn ho b3)
   simp only [List.cons_append, List.nil_append] at hT4
   refine ⟨_, rfl, ⟨hT4.b, (hT4.blk 3 rfl).1⟩, ?_⟩
   go_frame
   refine wpAnyC_on [4] (by kernel_rfl) (by simp) ?_
   simp only [List.forall_mem_cons, List.not_mem_nil, false_implies, implies_true, and_true]
   refine wpOp_call (f := 83) (args := #[mV m ad cap, .slice a3 (atL m l n.toNat).length c3]) (by rw [List.getElem?_toArray]; rfl) (by with_unfolding_all rfl) (by first | (go_simp; done) | (simp [execOp, Act.eval, Result.andThen]; done) | (simp [execOp, Act.eval, Result.andThen]; rfl)) ?_
   refine (HO2.out a3 c3 _ (hT4.rd 0 rfl)).mono ?_
   rintro e w4 ⟨v4, rfl, ho4, b4⟩
   have hT5 := hT4.call (SL.ofOwn ho4 b4)
   simp only [List.cons_append, List.nil_append] at hT5
   obtain ⟨a4, c4, rfl, _⟩ := hT5.slice 0 rfl
   refine ⟨_, rfl, ⟨hT5.b, (hT5.blk 4 rfl).1⟩, ?_⟩
   go_frame
   refine wpAnyC_on [6] (by kernel_rfl) (by simp) ?_
   simp only [List.forall_mem_cons, List.not_mem_nil, false_implies, implies_true, and_true]
   refine wpOp_of_list (by rw [List.getElem?_toArray]; rfl) ?_
   refine wpList_sto1 (v := .slice a4 O2.length c4) 2 (by with_unfolding_all rfl) (by with_unfolding_all rfl) hT5 rfl ?_
   intro w6 hT6
   refine ⟨⟨hT6.b, (hT6.blk 4 rfl).1⟩, ?_⟩
   go_frame
   refine wpAnyC_rest [] [] rfl rfl (by kernel_rfl) (by kernel_rfl) (by kernel_rfl) ⟨hT6.b, (hT6.blk 4 rfl).1⟩ ?_
   unfold wpPure
   refine of_wpList_nil (P := Tryz.prog) (ops := #[]) ?_
   have q7 := (hT6.blk 4 rfl).1
   go_wp2_with (with_reducible refine wpList_ldS (n := 4) (us := mC m ad cap) A_mach (by kernel_rfl) (by with_unfolding_all rfl) (by with_unfolding_all rfl) (by assumption) (by with_unfolding_all rfl) (by with_unfolding_all rfl) ?_)
   refine (HO.out _ (hL.below hT6.b)).mono ?_
   rintro e w7 ⟨v7, rfl, ho7, b7⟩
   obtain ⟨a7, c7, rfl, hr7, _⟩ := ho7.reps
   have hU := hT6.call (SL.ofOwn ho7 b7)
   simp only [List.cons_append, List.nil_append] at hU
   go_wp2_with fail
   refine (mappedY_any _ (fun c => (idxO O2 c).getD (-1)) a7 c7 _ _ hr7 hol2 (fun x hx w' hw' => strands2_any a4 c4 O2 _ x w' ((hw'.block _ (hU.blk 3 rfl).2.2).trans (hU.blk 3 rfl).1) ((hU.rd 1 rfl).below hw'))).mono ?_
   rintro e w8 ⟨v8, rfl, ho8, b8⟩
   go_wp2_with fail
   go_ret2
   exact ⟨_, rfl, ho8.mono hU.b.size, bnext hU.b b8⟩
 ·obtain ⟨E, hE⟩ : ∃ E, E = weaveE m l n := ⟨_, rfl⟩
  rw [if_neg he]
  rw [← hE] at CW he ⊢
  have hne : (E != 0) = true := by simpa using he
  have HC := hid CW
  have q0 := (hS.blk 0 rfl).1
  clear hE CW HK
  go_enter Tryz.func38, Tryz.ntmps38
  go_wp2_with (first | (with_reducible refine wpList_ldS (n := 4) (us := mC m ad cap) A_mach (by kernel_rfl) (by with_unfolding_all rfl) (by with_unfolding_all rfl) (by assumption) (by with_unfolding_all rfl) (by with_unfolding_all rfl) ?_) | (with_reducible refine wpList_ldB F_int (by with_unfolding_all rfl) (by with_unfolding_all rfl) q0 (by with_unfolding_all rfl) ?_))
  refine HC.out.mono ?_
  rintro e w1 ⟨rfl, b1⟩
  have hS1 := hS.mono b1
  go_wp2_with fail
  go_ret2
  exact ⟨_, rfl, own_nil cIntS, hS1.b⟩
end Go.Proofs.YtbchpkmcpplidaaGreatDoor

namespace Go.Proofs.YtbchpkmcpplidaaGreatDoor
open Go.RowKit
set_option maxHeartbeats 8000000
set_option maxRecDepth 100000

/-- the word and its error. -/
noncomputable def wrdL (m : MacV) (l : List Int) (n : Int) : List Int := (wvM m l n.toNat).2
noncomputable def wrdE (m : MacV) (l : List Int) (n : Int) : Int := if weaveE m l n ≠ 0 then weaveE m l n else if 200 < (wrdL m l n).length then 26 else 0
theorem atL_zero (m : MacV) (l : List Int) : atL m l 0 = l := by
 unfold atL
 conv => rhs; rw [← List.map_id l]
 exact List.map_congr_left (fun x _ => rfl)
theorem atL_len (m : MacV) (l : List Int) (k : Nat) : (atL m l k).length = l.length := by simp [atL]
theorem wvM_len {m : MacV} (hg : m.gears ≤ 16) (l : List Int) : ∀ k : Nat, (wvM m l k).2.length ≤ 48 * k
 | 0 => by simp [wvM]
 | k + 1 => by
   have := wvM_len hg l k
   have h2 := crossM_len m (atL m l k)
   rw [wvM, weaveS_len]
   omega
theorem foldC_step {cs : List CrM} {i : Nat} (h : i < cs.length) (st : List Int × List Int) : (cs.take (i + 1)).foldl weaveC st = weaveC ((cs.take i).foldl weaveC st) (atD ⟨0, 0, 0, 0⟩ cs i) := by
 rw [List.take_succ_eq_append_getElem h, List.foldl_append]
 simp [atD, h]

theorem weaveC_at {st : List Int × List Int} {c : CrM} {p : Nat} (h : idxO st.1 c.going = some (p : Int)) : weaveC st c = (swpL st.1 p, st.2 ++ [if c.over = c.going then (p : Int) + 1 else -(p : Int) - 1]) := by
 have e : idxZ st.1 c.going = p := by unfold idxZ; rw [h]; rfl
 unfold weaveC letterC
 rw [e]
 rfl

section
variable {ops : Array Oper} {rest : List Oper} {a : Act} {Q : Exit → Act → World → Prop} {w : World} {ty : TypeId} {p : String} {af : Array Edge}
theorem wpList_stoI {x y : Operand} {pa : Addr} {u : Value} {v : Int} (hx : a.eval x = .pointer (some pa)) (hy : a.eval y = .int .i64 v) (hc : w.cell? pa = some u) (hf : w.frozen? pa = false)
  (h : wpList Tryz.prog ops Q rest (a.put none undef) (w.setCell pa (.int .i64 v))) :
  wpList Tryz.prog ops Q (⟨none, .store 3 x y, ty, p, af, none⟩ :: rest) a w := by
 refine wpList_plain rfl fun K hK' => ?_
 have hs := sto_int v w pa (by rw [hc]; rfl) hf
 unfold cInt at hs
 unfold Oper.wp
 simp only [execOp, hx, hy]
 simp [hs, Result.andThen]
 exact hK' _ _ h
end

theorem wrapP1 (p : Nat) (h : p ≤ 1000) : IntKind.i64.wrap ((p : Int) + 1) = (p : Int) + 1 := IntWalk.i64_in _ (by omega)
theorem wrapQ1 (p : Nat) (h : p ≤ 1000) : wrap64 ((p : Int) + 1) = (p : Int) + 1 := IntWalk.wrap64_in _ (by omega)
theorem wrapN1 (p : Nat) (h : p ≤ 1000) : IntKind.i64.wrap (-(p : Int)) = -(p : Int) := IntWalk.i64_in _ (by omega)
theorem wrapN2 (p : Nat) (h : p ≤ 1000) : IntKind.i64.wrap (-(p : Int) - 1) = -(p : Int) - 1 := IntWalk.i64_in _ (by omega)

theorem pkB (p K : Nat) (h : p + 1 < K) (h2 : K ≤ 64) : p ≤ 1000 ∧ (¬ (K : Int) ≤ (p : Int) + 1) ∧ (0 : Int) ≤ (p : Int) + 1 ∧ ¬ K ≤ p ∧ ¬ (K : Int) ≤ (p : Int) ∧ (p : Int) + 1 < K ∧ p < K := by
 refine ⟨?_, ?_, ?_, ?_, ?_, ?_, ?_⟩ <;> omega

theorem mWord_any (m : MacV) (ad : Option Addr) (cap : Nat) (al : Option Addr) (cl : Nat) (l : List Int) (n : Int) (w : World) (hR : Ints w ad cap m.sw) (hL : Ints w al cl l) (HK : ChkL m ad cap al cl l) :
  Calls Tryz.prog 37 #[mV m ad cap, .slice al l.length cl, .int .i64 n] w fun r w' => ∃ v, r = .returned (.tuple #[v, .int .i64 (wrdE m l n)]) ∧ OwnI w.heap.size w' v (if wrdE m l n = 0 then wrdL m l n else []) ∧ Below w.heap.size w w' := by
 have hcap := hL.le
 have hmx := hL.max
 have hS := (SL.nil w).box (.cells (mC m ad cap) 24)
 have q1 := (hS.blk 0 rfl).1
 have R1 := hR.below hS.b
 have L1 := hL.below hS.b
 have CW := checkWeave_any m ad cap al cl l n _ R1 L1 HK
 by_cases he : weaveE m l n = 0
 ·obtain ⟨hok, hr, hl12, hn0, hn1, hme⟩ := weaveE_zero he
  have hlo := hok.ok.lo
  have hhi := hok.ok.hi
  obtain ⟨N, rfl⟩ : ∃ N : Nat, n = N := ⟨n.toNat, by omega⟩
  have hrows := fun k hk => wvM_row hr hok.rng hme k hk
  have hsteps := fun k => atL_succ hok.rng k
  have hrngs := fun k => atL_rng hok.rng k
  have CO := fun w h => order_any m ad cap al cl l w h (by omega) hhi
  have CX := fun (k : Nat) a c w (h : Ints w a c (atL m l k)) => crossings_any m ad cap a c (atL m l k) w h (by omega) hhi
  have CN := fun (k : Nat) a c w (h : Ints w a c (atL m l k)) (h2 : Ints w ad cap m.sw) => mappedN_any (mV m ad cap) (nextM m) a c (atL m l k) w h (by rw [atL_len]; omega) (fun x hx w' hw' => mnext_any m ad cap x w' (h2.below hw') hhi (hrngs k x hx).1 (hrngs k x hx).2)
  have hgood := fun k => crossM_good m (atL m l k)
  have hcl := fun k => crossM_len m (atL m l k)
  have hv : wrdE m l N = if 200 < (wvM m l N).2.length then 26 else 0 := by unfold wrdE wrdL; rw [if_neg (by simp [he])]; rfl
  have hw : wrdL m l N = (wvM m l N).2 := rfl
  rw [hv, hw]
  rw [he] at CW
  have HC := hid CW; have HO := hid CO; have HX := hid CX; have HN := hid CN; have HROW := hid hrows; have HST := hid hsteps; have HG := hid hgood; have HCL := hid hcl
  clear CW CO CX CN hrows hsteps hrngs hgood hcl hv hw he hok hr hme HK
  go_enter Tryz.func37, Tryz.ntmps37
  go_wp2
  go_step3
  go_wp2_with (with_reducible refine wpList_ldS (n := 4) (us := mC m ad cap) A_mach (by kernel_rfl) (by with_unfolding_all rfl) (by with_unfolding_all rfl) (by assumption) (by with_unfolding_all rfl) (by with_unfolding_all rfl) ?_)
  refine HC.out.mono ?_
  rintro e w1 ⟨rfl, b1⟩
  have hS1 := hS.mono b1
  have q2 := (hS1.blk 0 rfl).1
  clear q1
  go_wp2_with (with_reducible refine wpList_ldS (n := 4) (us := mC m ad cap) A_mach (by kernel_rfl) (by with_unfolding_all rfl) (by with_unfolding_all rfl) (by assumption) (by with_unfolding_all rfl) (by with_unfolding_all rfl) ?_)
  refine (HO.out _ (hL.below hS1.b)).mono ?_
  rintro e w2 ⟨v2, rfl, ho2, b2⟩
  have hS2 := hS1.call (SL.ofOwn ho2 b2)
  simp only [List.cons_append, List.nil_append] at hS2
  have hS3 := ((hS2.newSrc hL).nilS (α := Int) (c := cInt) (sz := 1) (e := 3) cIntS).pick [2, 0, 1, 3] (by decide) [pOwn cInt 1 3 v2 (orderM m l), pOwn cInt 1 3 (.slice none 0 0) [], pSrc cInt 1 3 w (.slice al l.length cl) l, pBlk w.heap.size (.cells (mC m ad cap) 24)] rfl
  clear q2 hS2 hS1 hS ho2
  obtain ⟨a2, c2, rfl, _⟩ := hS3.slice 0 rfl
  obtain ⟨K, hK⟩ : ∃ K, K = (orderM m l).length := ⟨_, rfl⟩
  rw [← hK] at hS3 ⊢
  have hK64 : K ≤ 64 := by have := orderM_len m l; omega
  clear hK
  go_wp2_with fail
  go_step3
  go_wp2
  obtain ⟨Z, hZ⟩ : ∃ Z, Z = (wvM m l N).2.length := ⟨_, rfl⟩
  have HZ := hid hZ
  clear hZ
  go_loopg [26, 1, 10] N (fun g i lv ov wr => ∃ k : Nat, k + g = N ∧ i = .int .i64 k ∧ lenV ov = (wvM m l k).2.length ∧ SL w.heap.size w wr [pOwn cInt 1 3 (.slice a2 K c2) ((wvM m l k).1), pOwn cInt 1 3 ov ((wvM m l k).2), pSrc cInt 1 3 w lv (atL m l k), pBlk w.heap.size (.cells (mC m ad cap) 24)])
  case atStart => exact ⟨0, by omega, rfl, rfl, by rw [atL_zero]; exact hS3⟩
  case round =>
   clear hS3
   obtain ⟨k, hk, rfl, hlo, hSr⟩ := hrel
   cases gk with
   | zero =>
    have hkn : k = N := by omega
    subst hkn
    obtain ⟨ao, co, rfl, _⟩ := hSr.slice 1 rfl
    obtain ⟨O, hO⟩ : ∃ O, O = (wvM m l k).2 := ⟨_, rfl⟩
    rw [← hO] at hSr ⊢
    have HO2 := hid hO; have hSx := hid hSr
    clear hO hSr hlo
    by_cases hb : 200 < O.length
    ·have hb2 : ¬ O.length ≤ 200 := by omega
     go_wp2_with fail
     try rw [Exit.noGoto_ret]
     go_ret2
     rw [← HO2.out, if_pos hb, if_neg (by decide)]
     exact ⟨_, rfl, own_nil cIntS, hSx.out.b⟩
    ·go_wp2_with fail
     try rw [Exit.noGoto_ret]
     go_ret2
     rw [← HO2.out, if_neg hb, if_pos rfl]
     exact ⟨_, rfl, hSx.out.own 1 rfl, hSx.out.b⟩
   | succ g =>
    have hlt : k < N := by omega
    have hnx : wvM m l (k + 1) = (crossM m (atL m l k)).foldl weaveC (wvM m l k) := rfl
    have hgd := HG.out k
    have hcln := HCL.out k
    have hrw := HROW.out k (by omega)
    have hwl := wvM_len (m := m) hhi l k
    rw [← hrw] at hgd
    obtain ⟨a1, c1, rfl, hl1⟩ := hSr.src 2 rfl
    have q1 := (hSr.blk 3 rfl).1
    have HX1 := hid (HX.out k a1 c1)
    obtain ⟨cs, hcs⟩ : ∃ cs, cs = crossM m (atL m l k) := ⟨_, rfl⟩
    rw [← hcs] at HX1 hgd hcln hnx
    obtain ⟨r0, hr0⟩ : ∃ r0, r0 = (wvM m l k).1 := ⟨_, rfl⟩
    obtain ⟨o0, ho0⟩ : ∃ o0, o0 = (wvM m l k).2 := ⟨_, rfl⟩
    have hpr : wvM m l k = (r0, o0) := by rw [hr0, ho0]
    rw [hpr] at hnx
    rw [← hr0] at hgd hSr
    rw [← ho0] at hwl hlo hSr
    have HNX := hid hnx; have HGD := hid hgd; have HLO := hid hlo
    clear hcs hnx hgd hr0 ho0 hpr hlo hrw
    have hcl48 : cs.length ≤ 48 := by omega
    have hw5 : o0.length ≤ 48000 := by omega
    clear hcln hwl
    go_wp2_with (with_reducible refine wpList_ldS (n := 4) (us := mC m ad cap) A_mach (by kernel_rfl) (by with_unfolding_all rfl) (by with_unfolding_all rfl) (by assumption) (by with_unfolding_all rfl) (by with_unfolding_all rfl) ?_)
    refine (HX1.out _ hl1).mono ?_
    rintro e w3 ⟨vx, rfl, hox, b3⟩
    have hS4 := hSr.call (SL.ofOwn hox b3)
    simp only [List.cons_append, List.nil_append] at hS4
    obtain ⟨ax, cx, rfl, _⟩ := hS4.slice 0 rfl
    clear q1 hSr hox b3 hl1
    go_wp2_with fail
    go_loopg [32, 10] cs.length (fun g2 j ov wq => ∃ i : Nat, i + g2 = cs.length ∧ j = .int .i64 i ∧ lenV ov = o0.length + i ∧ SL w.heap.size w wq [pOwn cCr 4 113 (.slice ax cs.length cx) cs, pOwn cInt 1 3 (.slice a2 K c2) ((cs.take i).foldl rowC r0), pOwn cInt 1 3 ov ((cs.take i).foldl weaveC (r0, o0)).2, pSrc cInt 1 3 w (.slice a1 (atL m l k).length c1) (atL m l k), pBlk w.heap.size (.cells (mC m ad cap) 24)])
    case atStart => exact ⟨0, by omega, rfl, by rw [HLO.out]; omega, hS4⟩
    case round =>
     clear hS4
     obtain ⟨i, hi, rfl, hlo, hSq⟩ := hrel
     cases gk with
     | zero =>
      have hic : cs.take i = cs := List.take_of_length_le (by omega)
      rw [hic] at hSq
      have e1 : cs.foldl rowC r0 = (wvM m l (k + 1)).1 := by rw [HNX.out, fold_fst]
      have e2 : (cs.foldl weaveC (r0, o0)).2 = (wvM m l (k + 1)).2 := by rw [HNX.out]
      rw [e1, e2] at hSq
      obtain ⟨O, hO⟩ : ∃ O, O = (wvM m l (k + 1)).2 := ⟨_, rfl⟩
      rw [← hO] at hSq
      obtain ⟨ao, co, rfl, _⟩ := hSq.slice 2 rfl
      obtain ⟨a4, c4, e4, hl4⟩ := hSq.src 3 rfl
      cases e4
      have hmono := wvM_mono m l (j := k + 1) (k := N) (by omega)
      rw [← hO] at hmono
      have HO2 := hid hO; have hSx := hid hSq; have HM := hid hmono
      have q1 := (hSq.blk 4 rfl).1
      have R4 := hR.below hSq.b
      clear hO hSq hlo hic e1 e2 hmono
      by_cases hb : 200 < O.length
      ·have hb2 : ¬ O.length ≤ 200 := by omega
       have hb3 : decide (200 < (O.length : Int)) = true := decide_eq_true (by omega)
       go_wp2_with fail
       try rw [Exit.noGoto_ret]
       go_ret2
       rw [if_pos (by have := HM.out; omega), if_neg (by decide)]
       exact ⟨_, rfl, own_nil cIntS, hSx.out.b⟩
      ·have hb3 : decide (200 < (O.length : Int)) = false := decide_eq_false (by omega)
       go_wp2_with (with_reducible refine wpList_ldS (n := 4) (us := mC m ad cap) A_mach (by kernel_rfl) (by with_unfolding_all rfl) (by with_unfolding_all rfl) (by assumption) (by with_unfolding_all rfl) (by with_unfolding_all rfl) ?_)
       refine (HN.out k _ _ _ hl4 R4).mono ?_
       rintro e w5 ⟨vl, rfl, hol, b5⟩
       have hS6 := hSx.out.call (SL.ofOwn hol b5)
       simp only [List.cons_append, List.nil_append] at hS6
       have hst : (atL m l k).map (nextM m) = atL m l (k + 1) := HST.out k
       rw [hst] at hS6
       have hS7 := (hS6.weaken 0 rfl (pSrc cInt 1 3 w vl (atL m l (k + 1))) (fun b hb => .inr hb)).pick [2, 3, 0, 5] (by decide) [pOwn cInt 1 3 (.slice a2 K c2) (wvM m l (k + 1)).1, pOwn cInt 1 3 (.slice ao O.length co) O, pSrc cInt 1 3 w vl (atL m l (k + 1)), pBlk w.heap.size (.cells (mC m ad cap) 24)] rfl
       go_wp2_with fail
       go_roundg g
       case measure => omega
       case rel => exact ⟨k + 1, by omega, by go_num, by rw [← HO2.out]; rfl, by rw [← HO2.out]; exact hS7⟩
     | succ g2 =>
      have hic : i < cs.length := by omega
      obtain ⟨p, hp, hp1⟩ := goodC_at HGD.out hic
      have hst := foldC_step hic (r0, o0)
      have hwe : weaveC ((cs.take i).foldl weaveC (r0, o0)) (atD ⟨0, 0, 0, 0⟩ cs i) = (swpL ((cs.take i).foldl rowC r0) p, ((cs.take i).foldl weaveC (r0, o0)).2 ++ [if (atD ⟨0, 0, 0, 0⟩ cs i).over = (atD ⟨0, 0, 0, 0⟩ cs i).going then (p : Int) + 1 else -(p : Int) - 1]) := by
       have ec : atD (⟨0, 0, 0, 0⟩ : CrM) cs i = cs[i] := by simp [atD, hic]
       rw [ec]
       rw [weaveC_at (p := p) (by rw [fold_fst]; exact hp), fold_fst]
      rw [hwe] at hst
      have hst1 : (cs.take (i + 1)).foldl rowC r0 = swpL ((cs.take i).foldl rowC r0) p := by
       have := congrArg Prod.fst hst
       rw [fold_fst] at this
       exact this
      have hst2 := congrArg Prod.snd hst
      obtain ⟨R, hRr⟩ : ∃ R, R = (cs.take i).foldl rowC r0 := ⟨_, rfl⟩
      obtain ⟨O, hO⟩ : ∃ O, O = ((cs.take i).foldl weaveC (r0, o0)).2 := ⟨_, rfl⟩
      obtain ⟨x, hx⟩ : ∃ x, x = atD (⟨0, 0, 0, 0⟩ : CrM) cs i := ⟨_, rfl⟩
      have hpx : idxO R x.going = some (p : Int) := by
       rw [hx, hRr]
       have ec : atD (⟨0, 0, 0, 0⟩ : CrM) cs i = cs[i] := by simp [atD, hic]
       rw [ec]; exact hp
      rw [← hRr] at hSq hst1 hp1
      rw [← hO] at hSq hst2
      rw [← hx] at hst2
      have HX2 := hid hx; have HS1 := hid hst1; have HS2 := hid hst2
      clear hst hst1 hst2 hwe hp hRr hO hx
      obtain ⟨a', c', eK, _⟩ := hSq.slice 1 rfl
      have hKR : K = R.length := by simp only [Value.slice.injEq] at eK; exact eK.2.1
      clear eK
      obtain ⟨a8, c8, rfl, _⟩ := hSq.slice 2 rfl
      have hOl : O.length = o0.length + i := hlo
      have hO9 : O.length ≤ 1000000 := by omega
      have HOl := hid hOl
      clear hOl hlo
      have hRx := hSq.rd 0 rfl
      have hSc := hSq.box (.cells #[.int .i64 x.gear, .int .i64 x.over, .int .i64 x.under, .int .i64 x.going] 113)
      have q12 := (hSc.blk 0 rfl).1
      have CI := fun w h => sIndexO_any a2 c2 R x.going w h
      rw [hpx, ← hKR] at CI
      simp only [Option.getD_some] at CI
      have HI := hid CI; have HKR := hid hKR
      have hpK : p + 1 < K := by omega
      clear CI hKR hpx hp1
      go_wp2_with (first | ((with_reducible refine wpList_idxS _ ⟨0, 0, 0, 0⟩ E_crs A_crs cCr1 (by with_unfolding_all rfl) (by with_unfolding_all rfl) (hRx) (by first | omega | (simp; done)) (by first | omega | (simp; done)) (fun _ => by with_unfolding_all rfl) (fun _ => ?_)); rw [← HX2.out]) | (with_reducible refine wpList_ldB (by first | exact F_int | exact F_u64s) (by with_unfolding_all rfl) (by with_unfolding_all rfl) (by assumption) (by with_unfolding_all rfl) ?_))
      refine (HI.out _ (hSc.rd 2 rfl)).mono ?_
      rintro e w' ⟨rfl, rfl⟩
      obtain ⟨V, hV⟩ : ∃ V, V = wr.alloc (.cells #[.int .i64 x.gear, .int .i64 x.over, .int .i64 x.under, .int .i64 x.going] 113) := ⟨_, rfl⟩
      obtain ⟨b12, hb12⟩ : ∃ b, b = wr.heap.size := ⟨_, rfl⟩
      rw [← hV, ← hb12] at hSc q12 ⊢
      clear hV hb12 hRx q12
      have hKR := HKR.out
      have hSU := hSc.drew
      obtain ⟨U, hU⟩ : ∃ U, U = V.drew := ⟨_, rfl⟩
      rw [← hU] at hSU
      obtain ⟨g, hg, -, hcA, hfA, hS5⟩ := hSU.setOwn cInt1 2 rfl (p : Int) (by omega) (by omega) (atD 0 R ((p : Int) + 1))
      subst hg
      obtain ⟨g', hg', -, hcB, hfB, hS6⟩ := hS5.setOwn cInt1 2 rfl ((p : Int) + 1) (by omega) (by simp; omega) (atD 0 R (p : Int))
      cases hg'
      obtain ⟨g', hg', -, hcC, hfC, -⟩ := hSU.setOwn cInt1 2 rfl ((p : Int) + 1) (by omega) (by omega) 0
      cases hg'
      have eP : (p : Int).toNat = p := by simp
      have eP1 : ((p : Int) + 1).toNat = p + 1 := by omega
      have vA : R[p]?.map cInt = some (.int .i64 (atD 0 R (p : Int))) := by
       have : p < R.length := by omega
       simp [atD, this, cInt]
      have vB : R[p + 1]?.map cInt = some (.int .i64 (atD 0 R ((p : Int) + 1))) := by
       have : p + 1 < R.length := by omega
       simp [atD, eP1, this, cInt]
      simp only [eP, eP1] at hcA hfA hcB hfB hcC hfC hS5 hS6
      rw [vA] at hcA
      rw [vB] at hcC
      have hcB2 : (R.set p (atD 0 R ((p : Int) + 1)))[p + 1]?.map cInt = some (.int .i64 (atD 0 R ((p : Int) + 1))) := by
       rw [List.getElem?_set_ne (by omega)]; exact vB
      rw [hcB2] at hcB
      have hsw : (R.set p (atD 0 R ((p : Int) + 1))).set (p + 1) (atD 0 R (p : Int)) = swpL R p := by
       unfold swpL atD
       rw [eP1, eP]
      rw [hsw] at hS6
      obtain ⟨A0, hA0⟩ : ∃ A, A = atD 0 R (p : Int) := ⟨_, rfl⟩
      obtain ⟨A1, hA1⟩ : ∃ A, A = atD 0 R ((p : Int) + 1) := ⟨_, rfl⟩
      rw [← hA0] at hcA hS6
      rw [← hA1] at hcC hcB hfB hS5 hS6
      simp only [cInt] at hcB hfB hS5 hS6
      obtain ⟨hp9, hkA, hkB, hkC, hkD, hkE, hkF⟩ := pkB p K hpK hK64
      have hw1 := wrapQ1 p hp9
      have hw2 := wrapP1 p hp9
      have hUb := hSU.b
      clear hcB2 vA vB hA0 hA1 hsw hKR hSc hSq eP eP1
      go_wp2_with fail
      refine wp_regionK (C := (fun V' => Below w.heap.size w V')) [0, 1, 2, 3, 4, 5, 6, 7, 8, 10, 11, 12] [_, _, _, _, _, _, _, _, _, _, _, _] 6 (by simp only [List.map_cons, List.map_nil, List.getElem?_toArray]; rfl) rfl (by kernel_rfl) (by kernel_rfl) (by kernel_rfl) ((by rw [hU] at hUb; exact hUb)) ?_
      refine ⟨_, yieldsK_val (by with_unfolding_all rfl) (fun w' => by with_unfolding_all exact rfl), ?_⟩
      go_frame
      refine ⟨_, yieldsK_val (by with_unfolding_all rfl) (fun w' => by with_unfolding_all exact rfl), ?_⟩
      go_frame
      refine ⟨_, yieldsK_val (by with_unfolding_all rfl) (fun w' => by with_unfolding_all exact rfl), ?_⟩
      go_frame
      refine ⟨_, yieldsK_val (by with_unfolding_all rfl) (fun w' => by with_unfolding_all exact rfl), ?_⟩
      go_frame
      refine ⟨.int .i64 ((p : Int) + 1), yieldsK_val (by with_unfolding_all rfl) (fun w' => by first | (go_simp; done) | (go_simp; rfl)), ?_⟩
      go_frame
      refine ⟨_, yieldsK_val (by with_unfolding_all rfl) (fun w' => by with_unfolding_all exact rfl), ?_⟩
      go_frame
      refine ⟨_, yieldsK_val (by with_unfolding_all rfl) (fun w' => by with_unfolding_all exact rfl), ?_⟩
      go_frame
      refine ⟨.int .i64 ((p : Int) + 1), yieldsK_val (by with_unfolding_all rfl) (fun w' => by first | (go_simp; done) | (go_simp; rfl)), ?_⟩
      go_frame
      refine ⟨.pointer (some ⟨g, p + 1, none⟩), yieldsK_val (by with_unfolding_all rfl) (fun w' => by first | (go_simp; done) | (go_simp; rfl)), ?_⟩
      go_frame
      refine ⟨_, yieldsK_val (by with_unfolding_all rfl) (fun w' => by with_unfolding_all exact rfl), ?_⟩
      go_frame
      refine ⟨_, yieldsK_val (by with_unfolding_all rfl) (fun w' => by with_unfolding_all exact rfl), ?_⟩
      go_frame
      refine ⟨.pointer (some ⟨g, p, none⟩), yieldsK_val (by with_unfolding_all rfl) (fun w' => by first | (go_simp; done) | (go_simp; rfl)), ?_⟩
      go_frame
      unfold wpPureK
      have hVd : ({ V with drawn := V.drawn + 1 } : World) = V.drew := rfl
      rw [hVd, ← hU]
      clear hVd hU
      refine wpAnyC_on [9, 13] (by kernel_rfl) (by simp) ?_
      simp only [List.forall_mem_cons, List.not_mem_nil, false_implies, implies_true, and_true]
      refine ⟨?_, ?_⟩
      ·refine wpOp_value (v := .int .i64 A1) (w' := U) (by rw [List.getElem?_toArray]; rfl) (by with_unfolding_all rfl) (by first | (go_simp; done) | (go_simp; rfl) | (simp [execOp, Act.eval, Result.andThen]; done)) ?_
       refine ⟨hSU.b, ?_⟩
       go_frame
       refine wpAnyC_on [13] (by kernel_rfl) (by simp) ?_
       simp only [List.forall_mem_cons, List.not_mem_nil, false_implies, implies_true, and_true]
       refine wpOp_value (v := .int .i64 A0) (w' := U) (by rw [List.getElem?_toArray]; rfl) (by with_unfolding_all rfl) (by first | (go_simp; done) | (go_simp; rfl) | (simp [execOp, Act.eval, Result.andThen]; done)) ?_
       refine ⟨hSU.b, ?_⟩
       go_frame
       refine wpAnyC_on [14] (by kernel_rfl) (by simp) ?_
       simp only [List.forall_mem_cons, List.not_mem_nil, false_implies, implies_true, and_true]
       refine wpOp_value (v := .pointer (some ⟨g, p, none⟩)) (w' := U) (by rw [List.getElem?_toArray]; rfl) (by with_unfolding_all rfl) (by first | (go_simp; done) | (go_simp; rfl) | (simp [execOp, Act.eval, Result.andThen]; done)) ?_
       refine ⟨hSU.b, ?_⟩
       go_frame
       refine wpAnyC_on [15] (by kernel_rfl) (by simp) ?_
       simp only [List.forall_mem_cons, List.not_mem_nil, false_implies, implies_true, and_true]
       refine wpOp_of_list (by rw [List.getElem?_toArray]; rfl) ?_
       refine wpList_stoI (v := A1) (by with_unfolding_all rfl) (by with_unfolding_all rfl) hcA hfA ?_
       refine ⟨hS5.b, ?_⟩
       go_frame
       refine wpAnyC_on [16] (by kernel_rfl) (by simp) ?_
       simp only [List.forall_mem_cons, List.not_mem_nil, false_implies, implies_true, and_true]
       refine wpOp_value (v := .pointer (some ⟨g, p + 1, none⟩)) (w' := (U.setCell ⟨g, p, none⟩ (.int .i64 A1))) (by rw [List.getElem?_toArray]; rfl) (by with_unfolding_all rfl) (by first | (go_simp; done) | (go_simp; rfl) | (simp [execOp, Act.eval, Result.andThen]; done)) ?_
       refine ⟨hS5.b, ?_⟩
       go_frame
       refine wpAnyC_on [17] (by kernel_rfl) (by simp) ?_
       simp only [List.forall_mem_cons, List.not_mem_nil, false_implies, implies_true, and_true]
       refine wpOp_of_list (by rw [List.getElem?_toArray]; rfl) ?_
       refine wpList_stoI (v := A0) (by with_unfolding_all rfl) (by with_unfolding_all rfl) hcB hfB ?_
       refine ⟨hS6.b, ?_⟩
       go_frame
       refine wpAnyC_rest [] [] rfl rfl (by kernel_rfl) (by kernel_rfl) (by kernel_rfl) hS6.b ?_
       unfold wpPure
       refine of_wpList_nil (P := Tryz.prog) (ops := #[]) ?_
       obtain ⟨U2, hU2⟩ : ∃ U2, U2 = (U.setCell ⟨g, p, none⟩ (.int .i64 A1)).setCell ⟨g, p + 1, none⟩ (.int .i64 A0) := ⟨_, rfl⟩
       rw [← hU2] at hS6 ⊢
       clear hU2 hS5 hcA hcB hcC hfA hfB hfC hkA hkB hkC hkD hkE hkF hw1
       have q12 := (hS6.blk 0 rfl).1
       have hwn := wrapN1 p hp9
       have hwn2 := wrapN2 p hp9
       by_cases ho : x.over = x.going
       ·have d1 : (x.over == x.going) = true := by simpa using ho
        have e1 : (if x.over = x.going then (p : Int) + 1 else -(p : Int) - 1) = (p : Int) + 1 := if_pos ho
        have hst2 := HS2.out
        rw [e1] at hst2
        have HS3 := hid hst2
        clear ho e1 hst2
        go_wp2_with (first | (with_reducible refine wpList_ldS (n := 3) (us := #[.int .i64 x.gear, .int .i64 x.over, .int .i64 x.under]) A_xs (by kernel_rfl) (by with_unfolding_all rfl) (by with_unfolding_all rfl) (by assumption) (by with_unfolding_all rfl) (by with_unfolding_all rfl) ?_) | (with_reducible refine wpList_ldB F_int (by with_unfolding_all rfl) (by with_unfolding_all rfl) q12 (by with_unfolding_all rfl) ?_) | ((with_reducible refine wpList_pushL (y := ((p : Int) + 1)) 3 E_ints (by with_unfolding_all rfl) (by with_unfolding_all rfl) (hS6) (by with_unfolding_all rfl) cIntO ⟨rfl, rfl⟩ (by first | with_unfolding_all rfl | simp) (by with_unfolding_all rfl) (by first | omega | (simp; omega)) (by first | omega | (simp; omega)) ?_); intro v7 w7 hS7))
        obtain ⟨a7, c7, rfl, _⟩ := hS7.slice 3 rfl
        clear hwn hwn2 hw2
        go_roundg g2
        case measure => omega
        case rel =>
         refine ⟨i + 1, by omega, by go_num, by show (O ++ [(p : Int) + 1]).length = _; rw [List.length_append, HOl.out]; rfl, ?_⟩
         rw [HS1.out, HS3.out]
         exact hS7.tail
       ·have d1 : (x.over == x.going) = false := by simpa using ho
        have e1 : (if x.over = x.going then (p : Int) + 1 else -(p : Int) - 1) = -(p : Int) - 1 := if_neg ho
        have hst2 := HS2.out
        rw [e1] at hst2
        have HS3 := hid hst2
        clear ho e1 hst2
        go_wp2_with (first | (with_reducible refine wpList_ldS (n := 3) (us := #[.int .i64 x.gear, .int .i64 x.over, .int .i64 x.under]) A_xs (by kernel_rfl) (by with_unfolding_all rfl) (by with_unfolding_all rfl) (by assumption) (by with_unfolding_all rfl) (by with_unfolding_all rfl) ?_) | (with_reducible refine wpList_ldB F_int (by with_unfolding_all rfl) (by with_unfolding_all rfl) q12 (by with_unfolding_all rfl) ?_) | ((with_reducible refine wpList_pushL (y := (-(p : Int) - 1)) 3 E_ints (by with_unfolding_all rfl) (by with_unfolding_all rfl) (hS6) (by with_unfolding_all rfl) cIntO ⟨rfl, rfl⟩ (by first | with_unfolding_all rfl | simp) (by with_unfolding_all rfl) (by first | omega | (simp; omega)) (by first | omega | (simp; omega)) ?_); intro v7 w7 hS7))
        obtain ⟨a7, c7, rfl, _⟩ := hS7.slice 3 rfl
        clear hwn hwn2 hw2
        go_roundg g2
        case measure => omega
        case rel =>
         refine ⟨i + 1, by omega, by go_num, by show (O ++ [-(p : Int) - 1]).length = _; rw [List.length_append, HOl.out]; rfl, ?_⟩
         rw [HS1.out, HS3.out]
         exact hS7.tail
      ·refine wpOp_value (v := .int .i64 A0) (w' := U) (by rw [List.getElem?_toArray]; rfl) (by with_unfolding_all rfl) (by first | (go_simp; done) | (go_simp; rfl) | (simp [execOp, Act.eval, Result.andThen]; done)) ?_
       refine ⟨hSU.b, ?_⟩
       go_frame
       refine wpAnyC_on [9] (by kernel_rfl) (by simp) ?_
       simp only [List.forall_mem_cons, List.not_mem_nil, false_implies, implies_true, and_true]
       refine wpOp_value (v := .int .i64 A1) (w' := U) (by rw [List.getElem?_toArray]; rfl) (by with_unfolding_all rfl) (by first | (go_simp; done) | (go_simp; rfl) | (simp [execOp, Act.eval, Result.andThen]; done)) ?_
       refine ⟨hSU.b, ?_⟩
       go_frame
       refine wpAnyC_on [14] (by kernel_rfl) (by simp) ?_
       simp only [List.forall_mem_cons, List.not_mem_nil, false_implies, implies_true, and_true]
       refine wpOp_value (v := .pointer (some ⟨g, p, none⟩)) (w' := U) (by rw [List.getElem?_toArray]; rfl) (by with_unfolding_all rfl) (by first | (go_simp; done) | (go_simp; rfl) | (simp [execOp, Act.eval, Result.andThen]; done)) ?_
       refine ⟨hSU.b, ?_⟩
       go_frame
       refine wpAnyC_on [15] (by kernel_rfl) (by simp) ?_
       simp only [List.forall_mem_cons, List.not_mem_nil, false_implies, implies_true, and_true]
       refine wpOp_of_list (by rw [List.getElem?_toArray]; rfl) ?_
       refine wpList_stoI (v := A1) (by with_unfolding_all rfl) (by with_unfolding_all rfl) hcA hfA ?_
       refine ⟨hS5.b, ?_⟩
       go_frame
       refine wpAnyC_on [16] (by kernel_rfl) (by simp) ?_
       simp only [List.forall_mem_cons, List.not_mem_nil, false_implies, implies_true, and_true]
       refine wpOp_value (v := .pointer (some ⟨g, p + 1, none⟩)) (w' := (U.setCell ⟨g, p, none⟩ (.int .i64 A1))) (by rw [List.getElem?_toArray]; rfl) (by with_unfolding_all rfl) (by first | (go_simp; done) | (go_simp; rfl) | (simp [execOp, Act.eval, Result.andThen]; done)) ?_
       refine ⟨hS5.b, ?_⟩
       go_frame
       refine wpAnyC_on [17] (by kernel_rfl) (by simp) ?_
       simp only [List.forall_mem_cons, List.not_mem_nil, false_implies, implies_true, and_true]
       refine wpOp_of_list (by rw [List.getElem?_toArray]; rfl) ?_
       refine wpList_stoI (v := A0) (by with_unfolding_all rfl) (by with_unfolding_all rfl) hcB hfB ?_
       refine ⟨hS6.b, ?_⟩
       go_frame
       refine wpAnyC_rest [] [] rfl rfl (by kernel_rfl) (by kernel_rfl) (by kernel_rfl) hS6.b ?_
       unfold wpPure
       refine of_wpList_nil (P := Tryz.prog) (ops := #[]) ?_
       obtain ⟨U2, hU2⟩ : ∃ U2, U2 = (U.setCell ⟨g, p, none⟩ (.int .i64 A1)).setCell ⟨g, p + 1, none⟩ (.int .i64 A0) := ⟨_, rfl⟩
       rw [← hU2] at hS6 ⊢
       clear hU2 hS5 hcA hcB hcC hfA hfB hfC hkA hkB hkC hkD hkE hkF hw1
       have q12 := (hS6.blk 0 rfl).1
       have hwn := wrapN1 p hp9
       have hwn2 := wrapN2 p hp9
       by_cases ho : x.over = x.going
       ·have d1 : (x.over == x.going) = true := by simpa using ho
        have e1 : (if x.over = x.going then (p : Int) + 1 else -(p : Int) - 1) = (p : Int) + 1 := if_pos ho
        have hst2 := HS2.out
        rw [e1] at hst2
        have HS3 := hid hst2
        clear ho e1 hst2
        go_wp2_with (first | (with_reducible refine wpList_ldS (n := 3) (us := #[.int .i64 x.gear, .int .i64 x.over, .int .i64 x.under]) A_xs (by kernel_rfl) (by with_unfolding_all rfl) (by with_unfolding_all rfl) (by assumption) (by with_unfolding_all rfl) (by with_unfolding_all rfl) ?_) | (with_reducible refine wpList_ldB F_int (by with_unfolding_all rfl) (by with_unfolding_all rfl) q12 (by with_unfolding_all rfl) ?_) | ((with_reducible refine wpList_pushL (y := ((p : Int) + 1)) 3 E_ints (by with_unfolding_all rfl) (by with_unfolding_all rfl) (hS6) (by with_unfolding_all rfl) cIntO ⟨rfl, rfl⟩ (by first | with_unfolding_all rfl | simp) (by with_unfolding_all rfl) (by first | omega | (simp; omega)) (by first | omega | (simp; omega)) ?_); intro v7 w7 hS7))
        obtain ⟨a7, c7, rfl, _⟩ := hS7.slice 3 rfl
        clear hwn hwn2 hw2
        go_roundg g2
        case measure => omega
        case rel =>
         refine ⟨i + 1, by omega, by go_num, by show (O ++ [(p : Int) + 1]).length = _; rw [List.length_append, HOl.out]; rfl, ?_⟩
         rw [HS1.out, HS3.out]
         exact hS7.tail
       ·have d1 : (x.over == x.going) = false := by simpa using ho
        have e1 : (if x.over = x.going then (p : Int) + 1 else -(p : Int) - 1) = -(p : Int) - 1 := if_neg ho
        have hst2 := HS2.out
        rw [e1] at hst2
        have HS3 := hid hst2
        clear ho e1 hst2
        go_wp2_with (first | (with_reducible refine wpList_ldS (n := 3) (us := #[.int .i64 x.gear, .int .i64 x.over, .int .i64 x.under]) A_xs (by kernel_rfl) (by with_unfolding_all rfl) (by with_unfolding_all rfl) (by assumption) (by with_unfolding_all rfl) (by with_unfolding_all rfl) ?_) | (with_reducible refine wpList_ldB F_int (by with_unfolding_all rfl) (by with_unfolding_all rfl) q12 (by with_unfolding_all rfl) ?_) | ((with_reducible refine wpList_pushL (y := (-(p : Int) - 1)) 3 E_ints (by with_unfolding_all rfl) (by with_unfolding_all rfl) (hS6) (by with_unfolding_all rfl) cIntO ⟨rfl, rfl⟩ (by first | with_unfolding_all rfl | simp) (by with_unfolding_all rfl) (by first | omega | (simp; omega)) (by first | omega | (simp; omega)) ?_); intro v7 w7 hS7))
        obtain ⟨a7, c7, rfl, _⟩ := hS7.slice 3 rfl
        clear hwn hwn2 hw2
        go_roundg g2
        case measure => omega
        case rel =>
         refine ⟨i + 1, by omega, by go_num, by show (O ++ [-(p : Int) - 1]).length = _; rw [List.length_append, HOl.out]; rfl, ?_⟩
         rw [HS1.out, HS3.out]
         exact hS7.tail
 ·obtain ⟨E, hE⟩ : ∃ E, E = weaveE m l n := ⟨_, rfl⟩
  have hv : wrdE m l n = E := by unfold wrdE; rw [if_pos he, hE]
  rw [← hE] at CW he
  have hne : (E != 0) = true := by simpa using he
  rw [hv, if_neg he]
  have HC := hid CW
  clear hv hE CW HK
  go_enter Tryz.func37, Tryz.ntmps37
  go_wp2
  go_step3
  go_wp2_with (with_reducible refine wpList_ldS (n := 4) (us := mC m ad cap) A_mach (by kernel_rfl) (by with_unfolding_all rfl) (by with_unfolding_all rfl) (by assumption) (by with_unfolding_all rfl) (by with_unfolding_all rfl) ?_)
  refine HC.out.mono ?_
  rintro e w1 ⟨rfl, b1⟩
  have hS1 := hS.mono b1
  go_wp2_with fail
  try rw [Exit.noGoto_ret]
  go_ret2
  exact ⟨_, rfl, own_nil cIntS, hS1.b⟩
end Go.Proofs.YtbchpkmcpplidaaGreatDoor
