/- Contracts and plain facts that the claim uses (Hp2 Hp). Conditions: as each one states. -/
import Derived.RangeFuncNested
import Derived.RangeFuncBound
import Derived.RangeFuncCalls
import Derived.RangeFuncLeaves
import Derived.RangeFuncFrom
import Derived.Shelf.Abstract
import Derived.Shelf.RegionOpen
import Derived.WalkKit
import Derived.OwnWalkIn
import Derived.TacticsInMore
import Derived.LoopNIn
import Derived.LoopIn
import Derived.Test.YtddkdgodgflmlaaGreatDoorProg
import Derived.WalkSpells
import Derived.Maps.AppendAt
import Derived.Deep.Quiet
import Derived.Maps.Own
import Derived.Maps.OwnSet
import Derived.Maps.Views
import Derived.WalkLawsBesides
import Derived.Laws.EntriesVeiled
import Derived.Deep.QuietTactic
import Derived.BigQuiet
import Derived.Shelf.Strings.Trim
import Derived.Shelf.Strings.SlTrimAscii
import Derived.Shelf.Strings.Repeat
import Derived.Shelf.Strings.OnBuilder
import Derived.Shelf.Strconv.Itoa1
import Derived.Shelf.Strconv.Itoa3
import Derived.Shelf.LaysM
import Derived.Ground.Names2Prog
import Derived.Lib.OthersKept
import Derived.Deep.RegionHeld3
import Derived.Deep.AppendLies
import Derived.Deep.RegionHeldLaw
import Derived.Deep.RegionLaw
import Derived.StillTail
import Derived.Laws.Tables
import Derived.IntWalk
import Derived.Laws.CopyOwn
import Derived.BigRegion
import Derived.ChangeAlike
import Derived.Shelf.Bits.Mul64
import Derived.Lib.ItoaLen
import Derived.Lib.ItoaMem
import Derived.Sort.LoopGhostIn
import Derived.Maps.RangeWalk
import Derived.Maps.Ext
import Derived.Sort.QuietThIn
import Derived.Deep.LoopGhost
import Derived.Lib.Split
import Derived.Lib.AtoiAll
import Derived.Lib.AppendIntMem
import Derived.Lib.SmallJoins
import Derived.LaidSub
import Derived.Lib.LaidTab
import Derived.Lib.AtoiErrMem
import Derived.Stop.LaidErr
import Derived.ReadAgain
import Derived.ChangeSlices
import Derived.OpenShut
import Derived.ProofKit
import Derived.Deep.DeepHandedRow
import Derived.Deep.SlicePairs
import Derived.Test.YtddkdgodgflmlaaGreatDoorXz01
import Derived.Test.YtddkdgodgflmlaaGreatDoorXz02
import Derived.Test.YtddkdgodgflmlaaGreatDoorXz03
import Derived.Test.YtddkdgodgflmlaaGreatDoorXz04
import Derived.Test.YtddkdgodgflmlaaGreatDoorXz05
import Derived.Test.YtddkdgodgflmlaaGreatDoorY7501
import Derived.Test.YtddkdgodgflmlaaGreatDoorY7502
import Derived.Test.YtddkdgodgflmlaaGreatDoorY7503
set_option linter.all false

namespace Go.Proofs.YtddkdgodgflmlaaGreatDoor
open Go.RowKit
set_option maxHeartbeats 8000000
set_option maxRecDepth 100000
theorem hp_some (m : MacV) (ad al : Option Addr) (cap cl : Nat) (l : List Int) (n : Int) (w : World) (hR : Ints w ad cap m.sw) (hL : Ints w al cl l) (hI : InI m.gears) (hf : Fits m l 6 6) (hn0 : 0 ≤ n) (hn1 : n ≤ 400) (v : Nat × Int) (hfm : firstM m l = some v) :
  Calls Tryz.prog 5 #[mV m ad cap, .slice al l.length cl, .int .i64 n] w fun r w' => r = .returned (.bool true) ∧ Below w.heap.size w w' := by
 obtain ⟨n0, pl⟩ := v
 have hS0 := (SL.nil w).box (.cells (mC m ad cap) 45)
 have HT := hid hawserTurns_any
 have hlc := hL.le
 have hlm := hL.max
 obtain ⟨N, rfl⟩ : ∃ N : Nat, n = N := ⟨n.toNat, by omega⟩
 have he := hf.2.2.2
 have hlk := loadE_zero he
 have hok := hlk.ok
 have hl6 := hf.2.2.1
 have hlo := hok.lo
 have hhi := hok.hi
 have hl64 : l.length ≤ 6 := by omega
 have KL : ∀ (a : Option Addr) (c : Nat) (q : List Int), ChkL m ad cap a c q := fun a c q => CheckLoad_any m ad cap a c q fun w h => CheckMachine_any m ad cap w h hI
 have CME := fun w h h2 => mMeet_any m ad cap al cl l w h h2 (KL _ _ _)
 rw [meet3_some he hfm] at CME
 have CS : ∀ w, Ints w ad cap m.sw → Ints w al cl l → Calls Tryz.prog 24 #[mV m ad cap, .slice al l.length cl, .int .i64 N] w fun r w' => ∃ v, r = .returned (.tuple #[v, .int .i64 0]) ∧ OwnI w.heap.size w' v (atL m l N) ∧ Below w.heap.size w w' := by
  intro w h h2
  have h3 := mSteps_any m ad cap al cl l N w h h2 (KL _ _ _)
  have hs : stepsE m l N = 0 := by unfold stepsE; rw [if_neg (by simp [he]), if_neg (by omega)]
  rw [hs, if_pos rfl] at h3
  exact h3
 have hal : (atL m l N).length = l.length := atL_len m l N
 have CL : ∀ (a : Option Addr) (c : Nat) w, Ints w a c (atL m l N) → Calls Tryz.prog 31 #[mV m ad cap, .slice a l.length c] w fun r w' => r = .returned (.int .i64 0) ∧ Below w.heap.size w w' := by
  intro a c w h
  have h3 := rCheckLoad_any m ad cap a c (atL m l N) w h hlo hhi
  rw [load_chk hlk.mac, atL_load hlk N, hal] at h3
  exact h3
 have CM2 : ∀ (a : Option Addr) (c : Nat) w, Ints w ad cap m.sw → Ints w a c (atL m l N) → Calls Tryz.prog 30 #[mV m ad cap, .slice a l.length c] w fun r w' => (∃ (k : Nat) (p : Int), r = .returned (.tuple #[.int .i64 k, .int .i64 p, .int .i64 0]) ∧ (N ≤ n0 → k = n0 - N)) ∧ Below w.heap.size w w' := by
  intro a c w h h2
  have h3 := mMeet_any m ad cap a c (atL m l N) w h h2 (KL _ _ _)
  rw [hal] at h3
  cases hx : firstM m (atL m l N) with
  | none => exact absurd hx (first_still hlk.rng hfm N)
  | some u =>
   rw [meet3_some (atL_load hlk N) hx] at h3
   refine h3.mono ?_
   rintro r w' ⟨rfl, hb⟩
   refine ⟨⟨u.1, u.2, rfl, fun hN => ?_⟩, hb⟩
   rw [first_ear hfm hN] at hx
   cases hx
   rfl
 have CPR : ∀ (X Y : Int), X ∈ l → Y ∈ l → X ≠ Y → ∀ (a : Option Addr) w, Ints w ad cap m.sw → Ints w a 2 [X, Y] → Calls Tryz.prog 30 #[mV m ad cap, .slice a 2 2] w fun r w' => r = .returned (match meetM m X Y with | none => .tuple #[.int .i64 0, .int .i64 0, .int .i64 7] | some v => .tuple #[.int .i64 (v.1 : Nat), .int .i64 v.2, .int .i64 0]) ∧ Below w.heap.size w w' := by
  intro X Y hX hY hne a w h h2
  have hz := two_load hlk (hlk.rng X hX) (hlk.rng Y hY) hne
  have h3 := mMeet_any m ad cap a 2 [X, Y] w h h2 (KL _ _ _)
  cases hm : meetM m X Y with
  | none => rw [meet3_none hz (by rw [first_pair, hm])] at h3; exact h3
  | some v => rw [meet3_some hz (by rw [first_pair, hm])] at h3; exact h3
 have hn8 : n0 < 800 := first_soon (by have := hf.2.1; omega) hlk.rng hfm
 have HST : Hid (∀ (i j : Nat), j < l.length → firstTo m (pairsAt l i (j + 1)) = bestS (firstTo m (pairsAt l i j)) (meetM m (atD 0 l i) (atD 0 l j))) := hid fun i j h => first_step m h
 have hF1 : firstTo m (pairsTo l l.length) = some (n0, pl) := hfm
 have hF0 : firstTo m (pairsTo l 0) = none := rfl
 obtain ⟨F, hF⟩ : ∃ F : List (Int × Int) → Option (Nat × Int), ∀ ps, F ps = firstTo m ps := ⟨_, fun _ => rfl⟩
 rw [← hF] at hF1 hF0
 have HF1 := hid hF1; have HF0 := hid hF0; have HFF := hid hF
 have HNE : Hid (∀ (a b : Nat), a < l.length → b < a → atD 0 l b ≠ atD 0 l a) := hid fun a b ha hb => ne_atI hlk.nodup ha (by omega) hb
 have HIN : Hid (∀ a : Nat, a < l.length → atD 0 l a ∈ l) := hid fun a ha => atD_mem ha
 have HF := hid (fun w h h2 => tfits_ok m ad al cap cl l 6 6 w h h2 hf)
 have HME := hid CME; have HS := hid CS; have HCL := hid CL; have HM2 := hid CM2; have HPR := hid CPR; have HAL := hid hal
 clear CME CS CL CM2 CPR hal hF hF1 hF0 hfm he hlk hok hlo hhi hf hI hl6 KL
 go_enter Tryz.func5, Tryz.ntmps5
 go_wp2_with (with_reducible refine wpList_ldS (n := 4) (us := mC m ad cap) A_mach kR wU wU (by assumption) wU wU ?_)
 refine (HF.out _ (hR.below hS0.b) (hL.below hS0.b)).mono ?_
 rintro e w1 ⟨rfl, b1⟩
 have hS1 := hS0.mono b1
 have q1 := (hS1.blk 0 rfl).1
 clear hS0
 go_wp2_with (with_reducible refine wpList_ldS (n := 4) (us := mC m ad cap) A_mach kR wU wU (by assumption) wU wU ?_)
 refine (HME.out _ (hR.below hS1.b) (hL.below hS1.b)).mono ?_
 rintro e wz ⟨rfl, b2⟩
 have hS2 := hS1.mono b2
 have qz := (hS2.blk 0 rfl).1
 have hb2 := hS2.b
 have hLz := hL.below hb2
 have hRz := hR.below hb2
 have hltz : w.heap.size < wz.heap.size := (Array.getElem?_eq_some_iff.1 qz).1
 clear hS1 q1 hS2
 go_wp2_with fail
 go_loopw [50, 12, 54, 13, 14, 15, 16, 10, 11] (fun av _ _ _ _ _ _ bo po wr => ∃ a : Nat, a ≤ l.length ∧ bo = .int .i64 (bestN (F (pairsTo l a))) ∧ po = .int .i64 (bestP (F (pairsTo l a))) ∧ av = .int .i64 a ∧ Below wz.heap.size wz wr) (fun av _ _ _ _ _ _ _ _ _ => l.length - (intOf av).toNat)
 case atStart => exact ⟨0, by omega, by rw [HF0.out]; rfl, by rw [HF0.out]; rfl, rfl, Below.refl _ _⟩
 case round =>
  obtain ⟨a, ha, rfl, rfl, rfl, hbp⟩ := hrel
  obtain ⟨wp, rfl⟩ : ∃ wp, wp = wr := ⟨_, rfl⟩
  have qp := (hbp.block _ hltz).trans qz
  have hltp : w.heap.size < wp.heap.size := (Array.getElem?_eq_some_iff.1 qp).1
  by_cases hlt : a < l.length
  ·go_wp2_with fail
   go_loopw [54, 13, 14, 15, 16, 10, 11] (fun cv _ _ _ _ bo po wq => ∃ b : Nat, b ≤ a ∧ bo = .int .i64 (bestN (F (pairsAt l a b))) ∧ po = .int .i64 (bestP (F (pairsAt l a b))) ∧ cv = .int .i64 b ∧ Below wp.heap.size wp wq) (fun cv _ _ _ _ _ _ _ => a - (intOf cv).toNat)
   case atStart => exact ⟨0, by omega, by rw [pairsAt_zero], by rw [pairsAt_zero], rfl, Below.refl _ _⟩
   case round =>
    obtain ⟨b, hb, rfl, rfl, rfl, hbq⟩ := hrel
    have qq := (hbq.block _ hltp).trans qp
    have hltq : w.heap.size < wr.heap.size := (Array.getElem?_eq_some_iff.1 qq).1
    have hLq := (hLz.below hbp).below hbq
    have hRq := (hRz.below hbp).below hbq
    by_cases hjk : b < a
    ·have hne := HNE.out a b hlt hjk
     have CP := HPR.out _ _ (HIN.out a hlt) (HIN.out b (by omega)) (fun e => hne e.symm)
     have hst := HST.out a b (by omega)
     rw [← HFF.out, ← HFF.out] at hst
     obtain ⟨b0, o0, rfl, hcA, hcB⟩ := cells2 hLq hlt (by omega : b < l.length)
     obtain ⟨X, hX⟩ : ∃ X, X = atD 0 l a := ⟨_, rfl⟩
     obtain ⟨Y, hY⟩ : ∃ Y, Y = atD 0 l b := ⟨_, rfl⟩
     rw [← hX] at CP hst hcA
     rw [← hY] at CP hst hcB
     obtain ⟨B, hB⟩ : ∃ B, B = F (pairsAt l a b) := ⟨_, rfl⟩
     rw [← hB] at hst ⊢
     have HX := hid hX; have HY := hid hY
     have hbl : b < l.length := by omega
     clear hX hY hne hB
     cases hmm : meetM m X Y with
     | none =>
      rw [hmm] at CP hst
      have hst : F (pairsAt l a (b + 1)) = B := hst
      have HSTP := hid hst
      clear hst hmm
      dsimp only at CP
      as_aux_lemma =>
       go_wp2_with fail
       refine wp_regionK (C := Below (wr).heap.size (wr)) [0, 1, 2, 3, 4, 5, 6, 7, 8] [_, _, _, _, _, _, _, _, _] 9 (by simp only [List.map_cons, List.map_nil, List.getElem?_toArray]; rfl) rfl kR kR kR ((Below.refl _ _).drew) ?_
       refine ⟨_, yieldsK_blkC (n := 4) A_mach kR (fun V h => (h.block _ hltq).trans qq) rfl wU wU, ?_⟩
       go_frame
       refine ⟨_, yieldsK_val wU (fun w' => by with_unfolding_all exact rfl), ?_⟩
       go_frame
       refine ⟨_, yieldsK_val wU (fun w' => by with_unfolding_all exact rfl), ?_⟩
       go_frame
       refine ⟨_, yieldsK_idx (k := (a : Int)) E_ints (by omega) (by first | omega | (simp; omega)) wU wU wU, ?_⟩
       go_frame
       refine ⟨_, yieldsK_cell F_int (hcA) wU wU, ?_⟩
       go_frame
       refine ⟨_, yieldsK_val wU (fun w' => by with_unfolding_all exact rfl), ?_⟩
       go_frame
       refine ⟨_, yieldsK_val wU (fun w' => by with_unfolding_all exact rfl), ?_⟩
       go_frame
       refine ⟨_, yieldsK_idx (k := (b : Int)) E_ints (by omega) (by first | omega | (simp; omega)) wU wU wU, ?_⟩
       go_frame
       refine ⟨_, yieldsK_cell F_int (hcB) wU wU, ?_⟩
       go_frame
       unfold wpPureK
       have hVd : ({ wr with drawn := wr.drawn + 1 } : World) = wr.drew := rfl
       rw [hVd]
       clear hVd hcA hcB
       have hb5 : Below wr.heap.size wr wr.drew := (Below.refl _ _).drew
       have hb5a : Below wr.heap.size wr ((wr.drew).alloc (.cells #[.int .i64 X, .int .i64 Y] 3)) := bal hb5 _
       refine wpAnyC_on [9] kR (by simp) ?_
       simp only [List.forall_mem_cons, List.not_mem_nil, false_implies, implies_true, and_true]
       refine wpOp_value (v := .slice (some ⟨(wr.drew).heap.size, 0, none⟩) 2 2) (w' := (wr.drew).alloc (.cells #[.int .i64 X, .int .i64 Y] 3)) (by rw [List.getElem?_toArray]; rfl) wU (by first | (go_simp; done) | (go_simp; rfl) | (simp [execOp, Act.eval, Result.andThen]; done)) ?_
       refine ⟨hb5a, ?_⟩
       go_frame
       refine wpAnyC_on [10] kR (by simp) ?_
       simp only [List.forall_mem_cons, List.not_mem_nil, false_implies, implies_true, and_true]
       refine wpOp_call (f := 30) (args := #[mV m ad cap, .slice (some ⟨(wr.drew).heap.size, 0, none⟩) 2 2]) (by rw [List.getElem?_toArray]; rfl) wU (by first | (go_simp; done) | (simp [execOp, Act.eval, Result.andThen]; done) | (simp [execOp, Act.eval, Result.andThen]; rfl)) ?_
       refine (CP (some ⟨(wr.drew).heap.size, 0, none⟩) _ (hRq.below hb5a) (reps_of_own (own_newN cIntS [X, Y] 2 rfl (by decide) _ rfl (Nat.le_refl _) rfl) rfl)).mono ?_
       rintro e w6 ⟨rfl, b6⟩
       have t8 := bnext hb5a b6
       have hb6 := bnext hbq t8
       refine ⟨_, rfl, t8, ?_⟩
       go_frame
       refine wpAnyC_rest [11, 12, 13, 14, 15, 16, 17] [_, _, _, _, _, _, _] rfl (by simp only [List.map_cons, List.map_nil, List.getElem?_toArray]; rfl) kR kR kR (t8) ?_
       refine ⟨.tuple #[.int .i64 0, .int .i64 0, .int .i64 7], .inl ⟨by with_unfolding_all rfl, fun w' _ => by first | (go_simp; done) | (go_simp; rfl) | with_unfolding_all exact rfl⟩, ?_⟩
       go_frame
       refine ⟨.int .i64 0, .inl ⟨by with_unfolding_all rfl, fun w' _ => by first | (go_simp; done) | (go_simp; rfl) | with_unfolding_all exact rfl⟩, ?_⟩
       go_frame
       refine ⟨.int .i64 0, .inl ⟨by with_unfolding_all rfl, fun w' _ => by first | (go_simp; done) | (go_simp; rfl) | with_unfolding_all exact rfl⟩, ?_⟩
       go_frame
       refine ⟨.int .i64 7, .inl ⟨by with_unfolding_all rfl, fun w' _ => by first | (go_simp; done) | (go_simp; rfl) | with_unfolding_all exact rfl⟩, ?_⟩
       go_frame
       refine ⟨.int .i64 0, .inl ⟨by with_unfolding_all rfl, fun w' _ => by first | (go_simp; done) | (go_simp; rfl) | with_unfolding_all exact rfl⟩, ?_⟩
       go_frame
       refine ⟨.int .i64 0, .inl ⟨by with_unfolding_all rfl, fun w' _ => by first | (go_simp; done) | (go_simp; rfl) | with_unfolding_all exact rfl⟩, ?_⟩
       go_frame
       refine ⟨.int .i64 7, .inl ⟨by with_unfolding_all rfl, fun w' _ => by first | (go_simp; done) | (go_simp; rfl) | with_unfolding_all exact rfl⟩, ?_⟩
       go_frame
       unfold wpPure
       refine of_wpList_nil (P := Tryz.prog) (ops := #[]) ?_
       clear hb5 hb5a t8
       go_wp2_with fail
       exact ⟨⟨b + 1, by omega, by rw [HSTP.out], by rw [HSTP.out], by go_num, hb6⟩, by simp [intOf]; omega⟩
     | some v =>
      rw [hmm] at CP hst
      obtain ⟨v1, v2⟩ := v
      rw [best_step] at hst
      dsimp only at CP hst
      clear hmm
      obtain ⟨bN, hbN⟩ : ∃ x, x = bestN B := ⟨_, rfl⟩
      obtain ⟨bP, hbP⟩ : ∃ x, x = bestP B := ⟨_, rfl⟩
      rw [← hbN, ← hbP] at hst ⊢
      have HBN := hid hbN; have HBP := hid hbP
      clear hbN hbP
      by_cases c1 : bN < 0
      ·have d1 : decide (bN < 0) = true := decide_eq_true c1
       rw [if_pos (.inl c1)] at hst
       have HSTP := hid hst
       clear hst c1
       as_aux_lemma =>
        go_wp2_with fail
        refine wp_regionK (C := Below (wr).heap.size (wr)) [0, 1, 2, 3, 4, 5, 6, 7, 8] [_, _, _, _, _, _, _, _, _] 9 (by simp only [List.map_cons, List.map_nil, List.getElem?_toArray]; rfl) rfl kR kR kR ((Below.refl _ _).drew) ?_
        refine ⟨_, yieldsK_blkC (n := 4) A_mach kR (fun V h => (h.block _ hltq).trans qq) rfl wU wU, ?_⟩
        go_frame
        refine ⟨_, yieldsK_val wU (fun w' => by with_unfolding_all exact rfl), ?_⟩
        go_frame
        refine ⟨_, yieldsK_val wU (fun w' => by with_unfolding_all exact rfl), ?_⟩
        go_frame
        refine ⟨_, yieldsK_idx (k := (a : Int)) E_ints (by omega) (by first | omega | (simp; omega)) wU wU wU, ?_⟩
        go_frame
        refine ⟨_, yieldsK_cell F_int (hcA) wU wU, ?_⟩
        go_frame
        refine ⟨_, yieldsK_val wU (fun w' => by with_unfolding_all exact rfl), ?_⟩
        go_frame
        refine ⟨_, yieldsK_val wU (fun w' => by with_unfolding_all exact rfl), ?_⟩
        go_frame
        refine ⟨_, yieldsK_idx (k := (b : Int)) E_ints (by omega) (by first | omega | (simp; omega)) wU wU wU, ?_⟩
        go_frame
        refine ⟨_, yieldsK_cell F_int (hcB) wU wU, ?_⟩
        go_frame
        unfold wpPureK
        have hVd : ({ wr with drawn := wr.drawn + 1 } : World) = wr.drew := rfl
        rw [hVd]
        clear hVd hcA hcB
        have hb5 : Below wr.heap.size wr wr.drew := (Below.refl _ _).drew
        have hb5a : Below wr.heap.size wr ((wr.drew).alloc (.cells #[.int .i64 X, .int .i64 Y] 3)) := bal hb5 _
        refine wpAnyC_on [9] kR (by simp) ?_
        simp only [List.forall_mem_cons, List.not_mem_nil, false_implies, implies_true, and_true]
        refine wpOp_value (v := .slice (some ⟨(wr.drew).heap.size, 0, none⟩) 2 2) (w' := (wr.drew).alloc (.cells #[.int .i64 X, .int .i64 Y] 3)) (by rw [List.getElem?_toArray]; rfl) wU (by first | (go_simp; done) | (go_simp; rfl) | (simp [execOp, Act.eval, Result.andThen]; done)) ?_
        refine ⟨hb5a, ?_⟩
        go_frame
        refine wpAnyC_on [10] kR (by simp) ?_
        simp only [List.forall_mem_cons, List.not_mem_nil, false_implies, implies_true, and_true]
        refine wpOp_call (f := 30) (args := #[mV m ad cap, .slice (some ⟨(wr.drew).heap.size, 0, none⟩) 2 2]) (by rw [List.getElem?_toArray]; rfl) wU (by first | (go_simp; done) | (simp [execOp, Act.eval, Result.andThen]; done) | (simp [execOp, Act.eval, Result.andThen]; rfl)) ?_
        refine (CP (some ⟨(wr.drew).heap.size, 0, none⟩) _ (hRq.below hb5a) (reps_of_own (own_newN cIntS [X, Y] 2 rfl (by decide) _ rfl (Nat.le_refl _) rfl) rfl)).mono ?_
        rintro e w6 ⟨rfl, b6⟩
        have t8 := bnext hb5a b6
        have hb6 := bnext hbq t8
        refine ⟨_, rfl, t8, ?_⟩
        go_frame
        refine wpAnyC_rest [11, 12, 13, 14, 15, 16, 17] [_, _, _, _, _, _, _] rfl (by simp only [List.map_cons, List.map_nil, List.getElem?_toArray]; rfl) kR kR kR (t8) ?_
        refine ⟨.tuple #[.int .i64 v1, .int .i64 v2, .int .i64 0], .inl ⟨by with_unfolding_all rfl, fun w' _ => by first | (go_simp; done) | (go_simp; rfl) | with_unfolding_all exact rfl⟩, ?_⟩
        go_frame
        refine ⟨.int .i64 v1, .inl ⟨by with_unfolding_all rfl, fun w' _ => by first | (go_simp; done) | (go_simp; rfl) | with_unfolding_all exact rfl⟩, ?_⟩
        go_frame
        refine ⟨.int .i64 v2, .inl ⟨by with_unfolding_all rfl, fun w' _ => by first | (go_simp; done) | (go_simp; rfl) | with_unfolding_all exact rfl⟩, ?_⟩
        go_frame
        refine ⟨.int .i64 0, .inl ⟨by with_unfolding_all rfl, fun w' _ => by first | (go_simp; done) | (go_simp; rfl) | with_unfolding_all exact rfl⟩, ?_⟩
        go_frame
        refine ⟨.int .i64 v1, .inl ⟨by with_unfolding_all rfl, fun w' _ => by first | (go_simp; done) | (go_simp; rfl) | with_unfolding_all exact rfl⟩, ?_⟩
        go_frame
        refine ⟨.int .i64 v2, .inl ⟨by with_unfolding_all rfl, fun w' _ => by first | (go_simp; done) | (go_simp; rfl) | with_unfolding_all exact rfl⟩, ?_⟩
        go_frame
        refine ⟨.int .i64 0, .inl ⟨by with_unfolding_all rfl, fun w' _ => by first | (go_simp; done) | (go_simp; rfl) | with_unfolding_all exact rfl⟩, ?_⟩
        go_frame
        unfold wpPure
        refine of_wpList_nil (P := Tryz.prog) (ops := #[]) ?_
        clear hb5 hb5a t8
        go_wp2_with fail
        exact ⟨⟨b + 1, by omega, by rw [HSTP.out]; rfl, by rw [HSTP.out]; rfl, by go_num, hb6⟩, by simp [intOf]; omega⟩
      ·have d1 : decide (bN < 0) = false := decide_eq_false c1
       by_cases c2 : (v1 : Int) < bN
       ·have d2 : decide ((v1 : Int) < bN) = true := decide_eq_true c2
        rw [if_pos (.inr (.inl c2))] at hst
        have HSTP := hid hst
        clear hst c1 c2
        as_aux_lemma =>
         go_wp2_with fail
         refine wp_regionK (C := Below (wr).heap.size (wr)) [0, 1, 2, 3, 4, 5, 6, 7, 8] [_, _, _, _, _, _, _, _, _] 9 (by simp only [List.map_cons, List.map_nil, List.getElem?_toArray]; rfl) rfl kR kR kR ((Below.refl _ _).drew) ?_
         refine ⟨_, yieldsK_blkC (n := 4) A_mach kR (fun V h => (h.block _ hltq).trans qq) rfl wU wU, ?_⟩
         go_frame
         refine ⟨_, yieldsK_val wU (fun w' => by with_unfolding_all exact rfl), ?_⟩
         go_frame
         refine ⟨_, yieldsK_val wU (fun w' => by with_unfolding_all exact rfl), ?_⟩
         go_frame
         refine ⟨_, yieldsK_idx (k := (a : Int)) E_ints (by omega) (by first | omega | (simp; omega)) wU wU wU, ?_⟩
         go_frame
         refine ⟨_, yieldsK_cell F_int (hcA) wU wU, ?_⟩
         go_frame
         refine ⟨_, yieldsK_val wU (fun w' => by with_unfolding_all exact rfl), ?_⟩
         go_frame
         refine ⟨_, yieldsK_val wU (fun w' => by with_unfolding_all exact rfl), ?_⟩
         go_frame
         refine ⟨_, yieldsK_idx (k := (b : Int)) E_ints (by omega) (by first | omega | (simp; omega)) wU wU wU, ?_⟩
         go_frame
         refine ⟨_, yieldsK_cell F_int (hcB) wU wU, ?_⟩
         go_frame
         unfold wpPureK
         have hVd : ({ wr with drawn := wr.drawn + 1 } : World) = wr.drew := rfl
         rw [hVd]
         clear hVd hcA hcB
         have hb5 : Below wr.heap.size wr wr.drew := (Below.refl _ _).drew
         have hb5a : Below wr.heap.size wr ((wr.drew).alloc (.cells #[.int .i64 X, .int .i64 Y] 3)) := bal hb5 _
         refine wpAnyC_on [9] kR (by simp) ?_
         simp only [List.forall_mem_cons, List.not_mem_nil, false_implies, implies_true, and_true]
         refine wpOp_value (v := .slice (some ⟨(wr.drew).heap.size, 0, none⟩) 2 2) (w' := (wr.drew).alloc (.cells #[.int .i64 X, .int .i64 Y] 3)) (by rw [List.getElem?_toArray]; rfl) wU (by first | (go_simp; done) | (go_simp; rfl) | (simp [execOp, Act.eval, Result.andThen]; done)) ?_
         refine ⟨hb5a, ?_⟩
         go_frame
         refine wpAnyC_on [10] kR (by simp) ?_
         simp only [List.forall_mem_cons, List.not_mem_nil, false_implies, implies_true, and_true]
         refine wpOp_call (f := 30) (args := #[mV m ad cap, .slice (some ⟨(wr.drew).heap.size, 0, none⟩) 2 2]) (by rw [List.getElem?_toArray]; rfl) wU (by first | (go_simp; done) | (simp [execOp, Act.eval, Result.andThen]; done) | (simp [execOp, Act.eval, Result.andThen]; rfl)) ?_
         refine (CP (some ⟨(wr.drew).heap.size, 0, none⟩) _ (hRq.below hb5a) (reps_of_own (own_newN cIntS [X, Y] 2 rfl (by decide) _ rfl (Nat.le_refl _) rfl) rfl)).mono ?_
         rintro e w6 ⟨rfl, b6⟩
         have t8 := bnext hb5a b6
         have hb6 := bnext hbq t8
         refine ⟨_, rfl, t8, ?_⟩
         go_frame
         refine wpAnyC_rest [11, 12, 13, 14, 15, 16, 17] [_, _, _, _, _, _, _] rfl (by simp only [List.map_cons, List.map_nil, List.getElem?_toArray]; rfl) kR kR kR (t8) ?_
         refine ⟨.tuple #[.int .i64 v1, .int .i64 v2, .int .i64 0], .inl ⟨by with_unfolding_all rfl, fun w' _ => by first | (go_simp; done) | (go_simp; rfl) | with_unfolding_all exact rfl⟩, ?_⟩
         go_frame
         refine ⟨.int .i64 v1, .inl ⟨by with_unfolding_all rfl, fun w' _ => by first | (go_simp; done) | (go_simp; rfl) | with_unfolding_all exact rfl⟩, ?_⟩
         go_frame
         refine ⟨.int .i64 v2, .inl ⟨by with_unfolding_all rfl, fun w' _ => by first | (go_simp; done) | (go_simp; rfl) | with_unfolding_all exact rfl⟩, ?_⟩
         go_frame
         refine ⟨.int .i64 0, .inl ⟨by with_unfolding_all rfl, fun w' _ => by first | (go_simp; done) | (go_simp; rfl) | with_unfolding_all exact rfl⟩, ?_⟩
         go_frame
         refine ⟨.int .i64 v1, .inl ⟨by with_unfolding_all rfl, fun w' _ => by first | (go_simp; done) | (go_simp; rfl) | with_unfolding_all exact rfl⟩, ?_⟩
         go_frame
         refine ⟨.int .i64 v2, .inl ⟨by with_unfolding_all rfl, fun w' _ => by first | (go_simp; done) | (go_simp; rfl) | with_unfolding_all exact rfl⟩, ?_⟩
         go_frame
         refine ⟨.int .i64 0, .inl ⟨by with_unfolding_all rfl, fun w' _ => by first | (go_simp; done) | (go_simp; rfl) | with_unfolding_all exact rfl⟩, ?_⟩
         go_frame
         unfold wpPure
         refine of_wpList_nil (P := Tryz.prog) (ops := #[]) ?_
         clear hb5 hb5a t8
         go_wp2_with fail
         exact ⟨⟨b + 1, by omega, by rw [HSTP.out]; rfl, by rw [HSTP.out]; rfl, by go_num, hb6⟩, by simp [intOf]; omega⟩
       ·have d2 : decide ((v1 : Int) < bN) = false := decide_eq_false c2
        by_cases c3 : (v1 : Int) = bN
        ·have d3 : ((v1 : Int) == bN) = true := by simpa using c3
         by_cases c4 : v2 < bP
         ·have d4 : decide (v2 < bP) = true := decide_eq_true c4
          rw [if_pos (.inr (.inr ⟨c3, c4⟩))] at hst
          have HSTP := hid hst
          clear hst c1 c2 c3 c4
          as_aux_lemma =>
           go_wp2_with fail
           refine wp_regionK (C := Below (wr).heap.size (wr)) [0, 1, 2, 3, 4, 5, 6, 7, 8] [_, _, _, _, _, _, _, _, _] 9 (by simp only [List.map_cons, List.map_nil, List.getElem?_toArray]; rfl) rfl kR kR kR ((Below.refl _ _).drew) ?_
           refine ⟨_, yieldsK_blkC (n := 4) A_mach kR (fun V h => (h.block _ hltq).trans qq) rfl wU wU, ?_⟩
           go_frame
           refine ⟨_, yieldsK_val wU (fun w' => by with_unfolding_all exact rfl), ?_⟩
           go_frame
           refine ⟨_, yieldsK_val wU (fun w' => by with_unfolding_all exact rfl), ?_⟩
           go_frame
           refine ⟨_, yieldsK_idx (k := (a : Int)) E_ints (by omega) (by first | omega | (simp; omega)) wU wU wU, ?_⟩
           go_frame
           refine ⟨_, yieldsK_cell F_int (hcA) wU wU, ?_⟩
           go_frame
           refine ⟨_, yieldsK_val wU (fun w' => by with_unfolding_all exact rfl), ?_⟩
           go_frame
           refine ⟨_, yieldsK_val wU (fun w' => by with_unfolding_all exact rfl), ?_⟩
           go_frame
           refine ⟨_, yieldsK_idx (k := (b : Int)) E_ints (by omega) (by first | omega | (simp; omega)) wU wU wU, ?_⟩
           go_frame
           refine ⟨_, yieldsK_cell F_int (hcB) wU wU, ?_⟩
           go_frame
           unfold wpPureK
           have hVd : ({ wr with drawn := wr.drawn + 1 } : World) = wr.drew := rfl
           rw [hVd]
           clear hVd hcA hcB
           have hb5 : Below wr.heap.size wr wr.drew := (Below.refl _ _).drew
           have hb5a : Below wr.heap.size wr ((wr.drew).alloc (.cells #[.int .i64 X, .int .i64 Y] 3)) := bal hb5 _
           refine wpAnyC_on [9] kR (by simp) ?_
           simp only [List.forall_mem_cons, List.not_mem_nil, false_implies, implies_true, and_true]
           refine wpOp_value (v := .slice (some ⟨(wr.drew).heap.size, 0, none⟩) 2 2) (w' := (wr.drew).alloc (.cells #[.int .i64 X, .int .i64 Y] 3)) (by rw [List.getElem?_toArray]; rfl) wU (by first | (go_simp; done) | (go_simp; rfl) | (simp [execOp, Act.eval, Result.andThen]; done)) ?_
           refine ⟨hb5a, ?_⟩
           go_frame
           refine wpAnyC_on [10] kR (by simp) ?_
           simp only [List.forall_mem_cons, List.not_mem_nil, false_implies, implies_true, and_true]
           refine wpOp_call (f := 30) (args := #[mV m ad cap, .slice (some ⟨(wr.drew).heap.size, 0, none⟩) 2 2]) (by rw [List.getElem?_toArray]; rfl) wU (by first | (go_simp; done) | (simp [execOp, Act.eval, Result.andThen]; done) | (simp [execOp, Act.eval, Result.andThen]; rfl)) ?_
           refine (CP (some ⟨(wr.drew).heap.size, 0, none⟩) _ (hRq.below hb5a) (reps_of_own (own_newN cIntS [X, Y] 2 rfl (by decide) _ rfl (Nat.le_refl _) rfl) rfl)).mono ?_
           rintro e w6 ⟨rfl, b6⟩
           have t8 := bnext hb5a b6
           have hb6 := bnext hbq t8
           refine ⟨_, rfl, t8, ?_⟩
           go_frame
           refine wpAnyC_rest [11, 12, 13, 14, 15, 16, 17] [_, _, _, _, _, _, _] rfl (by simp only [List.map_cons, List.map_nil, List.getElem?_toArray]; rfl) kR kR kR (t8) ?_
           refine ⟨.tuple #[.int .i64 v1, .int .i64 v2, .int .i64 0], .inl ⟨by with_unfolding_all rfl, fun w' _ => by first | (go_simp; done) | (go_simp; rfl) | with_unfolding_all exact rfl⟩, ?_⟩
           go_frame
           refine ⟨.int .i64 v1, .inl ⟨by with_unfolding_all rfl, fun w' _ => by first | (go_simp; done) | (go_simp; rfl) | with_unfolding_all exact rfl⟩, ?_⟩
           go_frame
           refine ⟨.int .i64 v2, .inl ⟨by with_unfolding_all rfl, fun w' _ => by first | (go_simp; done) | (go_simp; rfl) | with_unfolding_all exact rfl⟩, ?_⟩
           go_frame
           refine ⟨.int .i64 0, .inl ⟨by with_unfolding_all rfl, fun w' _ => by first | (go_simp; done) | (go_simp; rfl) | with_unfolding_all exact rfl⟩, ?_⟩
           go_frame
           refine ⟨.int .i64 v1, .inl ⟨by with_unfolding_all rfl, fun w' _ => by first | (go_simp; done) | (go_simp; rfl) | with_unfolding_all exact rfl⟩, ?_⟩
           go_frame
           refine ⟨.int .i64 v2, .inl ⟨by with_unfolding_all rfl, fun w' _ => by first | (go_simp; done) | (go_simp; rfl) | with_unfolding_all exact rfl⟩, ?_⟩
           go_frame
           refine ⟨.int .i64 0, .inl ⟨by with_unfolding_all rfl, fun w' _ => by first | (go_simp; done) | (go_simp; rfl) | with_unfolding_all exact rfl⟩, ?_⟩
           go_frame
           unfold wpPure
           refine of_wpList_nil (P := Tryz.prog) (ops := #[]) ?_
           clear hb5 hb5a t8
           go_wp2_with fail
           exact ⟨⟨b + 1, by omega, by rw [HSTP.out]; rfl, by rw [HSTP.out]; rfl, by go_num, hb6⟩, by simp [intOf]; omega⟩
         ·have d4 : decide (v2 < bP) = false := decide_eq_false c4
          rw [if_neg (fun h => by rcases h with h | h | h; exact c1 h; exact c2 h; exact c4 h.2)] at hst
          have HSTP := hid hst
          clear hst c1 c2 c3 c4
          as_aux_lemma =>
           go_wp2_with fail
           refine wp_regionK (C := Below (wr).heap.size (wr)) [0, 1, 2, 3, 4, 5, 6, 7, 8] [_, _, _, _, _, _, _, _, _] 9 (by simp only [List.map_cons, List.map_nil, List.getElem?_toArray]; rfl) rfl kR kR kR ((Below.refl _ _).drew) ?_
           refine ⟨_, yieldsK_blkC (n := 4) A_mach kR (fun V h => (h.block _ hltq).trans qq) rfl wU wU, ?_⟩
           go_frame
           refine ⟨_, yieldsK_val wU (fun w' => by with_unfolding_all exact rfl), ?_⟩
           go_frame
           refine ⟨_, yieldsK_val wU (fun w' => by with_unfolding_all exact rfl), ?_⟩
           go_frame
           refine ⟨_, yieldsK_idx (k := (a : Int)) E_ints (by omega) (by first | omega | (simp; omega)) wU wU wU, ?_⟩
           go_frame
           refine ⟨_, yieldsK_cell F_int (hcA) wU wU, ?_⟩
           go_frame
           refine ⟨_, yieldsK_val wU (fun w' => by with_unfolding_all exact rfl), ?_⟩
           go_frame
           refine ⟨_, yieldsK_val wU (fun w' => by with_unfolding_all exact rfl), ?_⟩
           go_frame
           refine ⟨_, yieldsK_idx (k := (b : Int)) E_ints (by omega) (by first | omega | (simp; omega)) wU wU wU, ?_⟩
           go_frame
           refine ⟨_, yieldsK_cell F_int (hcB) wU wU, ?_⟩
           go_frame
           unfold wpPureK
           have hVd : ({ wr with drawn := wr.drawn + 1 } : World) = wr.drew := rfl
           rw [hVd]
           clear hVd hcA hcB
           have hb5 : Below wr.heap.size wr wr.drew := (Below.refl _ _).drew
           have hb5a : Below wr.heap.size wr ((wr.drew).alloc (.cells #[.int .i64 X, .int .i64 Y] 3)) := bal hb5 _
           refine wpAnyC_on [9] kR (by simp) ?_
           simp only [List.forall_mem_cons, List.not_mem_nil, false_implies, implies_true, and_true]
           refine wpOp_value (v := .slice (some ⟨(wr.drew).heap.size, 0, none⟩) 2 2) (w' := (wr.drew).alloc (.cells #[.int .i64 X, .int .i64 Y] 3)) (by rw [List.getElem?_toArray]; rfl) wU (by first | (go_simp; done) | (go_simp; rfl) | (simp [execOp, Act.eval, Result.andThen]; done)) ?_
           refine ⟨hb5a, ?_⟩
           go_frame
           refine wpAnyC_on [10] kR (by simp) ?_
           simp only [List.forall_mem_cons, List.not_mem_nil, false_implies, implies_true, and_true]
           refine wpOp_call (f := 30) (args := #[mV m ad cap, .slice (some ⟨(wr.drew).heap.size, 0, none⟩) 2 2]) (by rw [List.getElem?_toArray]; rfl) wU (by first | (go_simp; done) | (simp [execOp, Act.eval, Result.andThen]; done) | (simp [execOp, Act.eval, Result.andThen]; rfl)) ?_
           refine (CP (some ⟨(wr.drew).heap.size, 0, none⟩) _ (hRq.below hb5a) (reps_of_own (own_newN cIntS [X, Y] 2 rfl (by decide) _ rfl (Nat.le_refl _) rfl) rfl)).mono ?_
           rintro e w6 ⟨rfl, b6⟩
           have t8 := bnext hb5a b6
           have hb6 := bnext hbq t8
           refine ⟨_, rfl, t8, ?_⟩
           go_frame
           refine wpAnyC_rest [11, 12, 13, 14, 15, 16, 17] [_, _, _, _, _, _, _] rfl (by simp only [List.map_cons, List.map_nil, List.getElem?_toArray]; rfl) kR kR kR (t8) ?_
           refine ⟨.tuple #[.int .i64 v1, .int .i64 v2, .int .i64 0], .inl ⟨by with_unfolding_all rfl, fun w' _ => by first | (go_simp; done) | (go_simp; rfl) | with_unfolding_all exact rfl⟩, ?_⟩
           go_frame
           refine ⟨.int .i64 v1, .inl ⟨by with_unfolding_all rfl, fun w' _ => by first | (go_simp; done) | (go_simp; rfl) | with_unfolding_all exact rfl⟩, ?_⟩
           go_frame
           refine ⟨.int .i64 v2, .inl ⟨by with_unfolding_all rfl, fun w' _ => by first | (go_simp; done) | (go_simp; rfl) | with_unfolding_all exact rfl⟩, ?_⟩
           go_frame
           refine ⟨.int .i64 0, .inl ⟨by with_unfolding_all rfl, fun w' _ => by first | (go_simp; done) | (go_simp; rfl) | with_unfolding_all exact rfl⟩, ?_⟩
           go_frame
           refine ⟨.int .i64 v1, .inl ⟨by with_unfolding_all rfl, fun w' _ => by first | (go_simp; done) | (go_simp; rfl) | with_unfolding_all exact rfl⟩, ?_⟩
           go_frame
           refine ⟨.int .i64 v2, .inl ⟨by with_unfolding_all rfl, fun w' _ => by first | (go_simp; done) | (go_simp; rfl) | with_unfolding_all exact rfl⟩, ?_⟩
           go_frame
           refine ⟨.int .i64 0, .inl ⟨by with_unfolding_all rfl, fun w' _ => by first | (go_simp; done) | (go_simp; rfl) | with_unfolding_all exact rfl⟩, ?_⟩
           go_frame
           unfold wpPure
           refine of_wpList_nil (P := Tryz.prog) (ops := #[]) ?_
           clear hb5 hb5a t8
           go_wp2_with fail
           exact ⟨⟨b + 1, by omega, by rw [HSTP.out]; exact congrArg _ HBN.out, by rw [HSTP.out]; exact congrArg _ HBP.out, by go_num, hb6⟩, by simp [intOf]; omega⟩
        ·have d3 : ((v1 : Int) == bN) = false := by simpa using c3
         rw [if_neg (fun h => by rcases h with h | h | h; exact c1 h; exact c2 h; exact c3 h.1)] at hst
         have HSTP := hid hst
         clear hst c1 c2 c3
         as_aux_lemma =>
          go_wp2_with fail
          refine wp_regionK (C := Below (wr).heap.size (wr)) [0, 1, 2, 3, 4, 5, 6, 7, 8] [_, _, _, _, _, _, _, _, _] 9 (by simp only [List.map_cons, List.map_nil, List.getElem?_toArray]; rfl) rfl kR kR kR ((Below.refl _ _).drew) ?_
          refine ⟨_, yieldsK_blkC (n := 4) A_mach kR (fun V h => (h.block _ hltq).trans qq) rfl wU wU, ?_⟩
          go_frame
          refine ⟨_, yieldsK_val wU (fun w' => by with_unfolding_all exact rfl), ?_⟩
          go_frame
          refine ⟨_, yieldsK_val wU (fun w' => by with_unfolding_all exact rfl), ?_⟩
          go_frame
          refine ⟨_, yieldsK_idx (k := (a : Int)) E_ints (by omega) (by first | omega | (simp; omega)) wU wU wU, ?_⟩
          go_frame
          refine ⟨_, yieldsK_cell F_int (hcA) wU wU, ?_⟩
          go_frame
          refine ⟨_, yieldsK_val wU (fun w' => by with_unfolding_all exact rfl), ?_⟩
          go_frame
          refine ⟨_, yieldsK_val wU (fun w' => by with_unfolding_all exact rfl), ?_⟩
          go_frame
          refine ⟨_, yieldsK_idx (k := (b : Int)) E_ints (by omega) (by first | omega | (simp; omega)) wU wU wU, ?_⟩
          go_frame
          refine ⟨_, yieldsK_cell F_int (hcB) wU wU, ?_⟩
          go_frame
          unfold wpPureK
          have hVd : ({ wr with drawn := wr.drawn + 1 } : World) = wr.drew := rfl
          rw [hVd]
          clear hVd hcA hcB
          have hb5 : Below wr.heap.size wr wr.drew := (Below.refl _ _).drew
          have hb5a : Below wr.heap.size wr ((wr.drew).alloc (.cells #[.int .i64 X, .int .i64 Y] 3)) := bal hb5 _
          refine wpAnyC_on [9] kR (by simp) ?_
          simp only [List.forall_mem_cons, List.not_mem_nil, false_implies, implies_true, and_true]
          refine wpOp_value (v := .slice (some ⟨(wr.drew).heap.size, 0, none⟩) 2 2) (w' := (wr.drew).alloc (.cells #[.int .i64 X, .int .i64 Y] 3)) (by rw [List.getElem?_toArray]; rfl) wU (by first | (go_simp; done) | (go_simp; rfl) | (simp [execOp, Act.eval, Result.andThen]; done)) ?_
          refine ⟨hb5a, ?_⟩
          go_frame
          refine wpAnyC_on [10] kR (by simp) ?_
          simp only [List.forall_mem_cons, List.not_mem_nil, false_implies, implies_true, and_true]
          refine wpOp_call (f := 30) (args := #[mV m ad cap, .slice (some ⟨(wr.drew).heap.size, 0, none⟩) 2 2]) (by rw [List.getElem?_toArray]; rfl) wU (by first | (go_simp; done) | (simp [execOp, Act.eval, Result.andThen]; done) | (simp [execOp, Act.eval, Result.andThen]; rfl)) ?_
          refine (CP (some ⟨(wr.drew).heap.size, 0, none⟩) _ (hRq.below hb5a) (reps_of_own (own_newN cIntS [X, Y] 2 rfl (by decide) _ rfl (Nat.le_refl _) rfl) rfl)).mono ?_
          rintro e w6 ⟨rfl, b6⟩
          have t8 := bnext hb5a b6
          have hb6 := bnext hbq t8
          refine ⟨_, rfl, t8, ?_⟩
          go_frame
          refine wpAnyC_rest [11, 12, 13, 14, 15, 16, 17] [_, _, _, _, _, _, _] rfl (by simp only [List.map_cons, List.map_nil, List.getElem?_toArray]; rfl) kR kR kR (t8) ?_
          refine ⟨.tuple #[.int .i64 v1, .int .i64 v2, .int .i64 0], .inl ⟨by with_unfolding_all rfl, fun w' _ => by first | (go_simp; done) | (go_simp; rfl) | with_unfolding_all exact rfl⟩, ?_⟩
          go_frame
          refine ⟨.int .i64 v1, .inl ⟨by with_unfolding_all rfl, fun w' _ => by first | (go_simp; done) | (go_simp; rfl) | with_unfolding_all exact rfl⟩, ?_⟩
          go_frame
          refine ⟨.int .i64 v2, .inl ⟨by with_unfolding_all rfl, fun w' _ => by first | (go_simp; done) | (go_simp; rfl) | with_unfolding_all exact rfl⟩, ?_⟩
          go_frame
          refine ⟨.int .i64 0, .inl ⟨by with_unfolding_all rfl, fun w' _ => by first | (go_simp; done) | (go_simp; rfl) | with_unfolding_all exact rfl⟩, ?_⟩
          go_frame
          refine ⟨.int .i64 v1, .inl ⟨by with_unfolding_all rfl, fun w' _ => by first | (go_simp; done) | (go_simp; rfl) | with_unfolding_all exact rfl⟩, ?_⟩
          go_frame
          refine ⟨.int .i64 v2, .inl ⟨by with_unfolding_all rfl, fun w' _ => by first | (go_simp; done) | (go_simp; rfl) | with_unfolding_all exact rfl⟩, ?_⟩
          go_frame
          refine ⟨.int .i64 0, .inl ⟨by with_unfolding_all rfl, fun w' _ => by first | (go_simp; done) | (go_simp; rfl) | with_unfolding_all exact rfl⟩, ?_⟩
          go_frame
          unfold wpPure
          refine of_wpList_nil (P := Tryz.prog) (ops := #[]) ?_
          clear hb5 hb5a t8
          go_wp2_with fail
          exact ⟨⟨b + 1, by omega, by rw [HSTP.out]; exact congrArg _ HBN.out, by rw [HSTP.out]; exact congrArg _ HBP.out, by go_num, hb6⟩, by simp [intOf]; omega⟩
    ·have hjk2 : b = a := by omega
     subst hjk2
     clear hLq hRq qq
     go_wp2_with fail
     exact ⟨⟨b + 1, by omega, by rw [pairsAt_last], by rw [pairsAt_last], by go_num, bnext hbp hbq⟩, by simp [intOf]; omega⟩
  ·have hka : a = l.length := by omega
   subst hka
   rw [HF1.out]
   have eN : bestN (some (n0, pl)) = n0 := rfl
   have eP : bestP (some (n0, pl)) = pl := rfl
   rw [eN, eP]
   clear eN eP
   have hbz := bnext hb2 hbp
   have hL3 := hLz.below hbp
   have hR3 := hRz.below hbp
   clear hbp hLz hRz qz hltz hb2
   go_wp2_with (with_reducible refine wpList_ldS (n := 4) (us := mC m ad cap) A_mach kR wU wU (by assumption) wU wU ?_)
   refine (HS.out _ hR3 hL3).mono ?_
   rintro e w4 ⟨v4, rfl, ho4, b4⟩
   obtain ⟨a4, c4, hv4, h4, _, _⟩ := ho4.reps
   rw [HAL.out] at hv4
   subst hv4
   clear ho4
   have q4 := (b4.block _ hltp).trans qp
   have hlt4 : w.heap.size < w4.heap.size := (Array.getElem?_eq_some_iff.1 q4).1
   have hb4 := bnext hbz b4
   have hR4 := hR3.below b4
   have hL4 := hL3.below b4
   have dl : ((l.length : Int) != (l.length : Int)) = false := by simp
   go_wp2_with (with_reducible refine wpList_ldS (n := 4) (us := mC m ad cap) A_mach kR wU wU (by assumption) wU wU ?_)
   refine (HCL.out a4 c4 _ h4).mono ?_
   rintro e w5 ⟨rfl, b5⟩
   have q5 := (b5.block _ hlt4).trans q4
   have hlt5 : w.heap.size < w5.heap.size := (Array.getElem?_eq_some_iff.1 q5).1
   have hb5 := bnext hb4 b5
   have hR5 := hR4.below b5
   have hL5 := hL4.below b5
   clear q4 hb4 hR4 hL4 hR3 hL3
   go_wp2_with (with_reducible refine wpList_ldS (n := 4) (us := mC m ad cap) A_mach kR wU wU (by assumption) wU wU ?_)
   refine (HM2.out a4 c4 _ hR5 (h4.below b5)).mono ?_
   rintro e w6 ⟨⟨k, p, rfl, hkk⟩, b6⟩
   have hb6 := bnext hb5 b6
   clear q5 hb5 hR5 hL5 h4 b5 dl qp hltp hlt5 hlt4
   have dn0 : decide ((n0 : Int) < 0) = false := decide_eq_false (by omega)
   by_cases hN : n0 < N
   ·have dN : decide ((n0 : Int) < (N : Int)) = true := decide_eq_true (by omega)
    have dN2 : decide (n0 < N) = true := decide_eq_true hN
    clear hkk hN
    go_wp2_with fail
    refine (HT.out _).mono ?_
    rintro e w9 ⟨rfl, b9⟩
    go_wp2_with fail
    go_ret
    exact ⟨rfl, bnext hb6 b9⟩
   ·have dN : decide ((n0 : Int) < (N : Int)) = false := decide_eq_false (by omega)
    have dN2 : decide (n0 < N) = false := decide_eq_false hN
    have hk2 := hkk (by omega)
    subst hk2
    have dk : (((n0 - N : Nat) : Int) == (n0 : Int) - (N : Int)) = true := by rw [beq_iff_eq]; omega
    have dw : IntKind.i64.wrap ((n0 : Int) - (N : Int)) = (n0 : Int) - (N : Int) := IntWalk.i64_in _ (by omega)
    clear hkk
    go_wp2_with fail
    refine (HT.out _).mono ?_
    rintro e w9 ⟨rfl, b9⟩
    go_wp2_with fail
    go_ret
    exact ⟨rfl, bnext hb6 b9⟩
end Go.Proofs.YtddkdgodgflmlaaGreatDoor

namespace Go.Proofs.YtddkdgodgflmlaaGreatDoor
open Go.RowKit
set_option maxHeartbeats 8000000
set_option maxRecDepth 100000
theorem hp_nofit (m : MacV) (ad al : Option Addr) (cap cl : Nat) (l : List Int) (n : Int) (w : World) (hR : Ints w ad cap m.sw) (hL : Ints w al cl l) (hI : InI m.gears) (hf : ¬ Fits m l 6 6) :
  Calls Tryz.prog 5 #[mV m ad cap, .slice al l.length cl, .int .i64 n] w fun r w' => r = .returned (.bool true) ∧ Below w.heap.size w w' := by
 have hS0 := (SL.nil w).box (.cells (mC m ad cap) 45)
 have HT := hid hawserTurns_any
 have hlc := hL.le
 have hlm := hL.max
 have HF := hid (fun w h h2 => tfits_no m ad al cap cl l 6 6 w h h2 hf)
 clear hf
 go_enter Tryz.func5, Tryz.ntmps5
 go_wp2_with (with_reducible refine wpList_ldS (n := 4) (us := mC m ad cap) A_mach kR wU wU (by assumption) wU wU ?_)
 refine (HF.out _ (hR.below hS0.b) (hL.below hS0.b)).mono ?_
 rintro e w1 ⟨rfl, b1⟩
 have hS1 := hS0.mono b1
 have q1_m := (hS1.blk 0 rfl).1
 clear hS0
 go_wp2_with fail
 refine (HT.out _).mono ?_
 rintro e w2 ⟨rfl, b2⟩
 have hS2 := hS1.mono b2
 have q2_m := (hS2.blk 0 rfl).1
 clear hS1 q1_m
 go_wp2_with fail
 go_ret
 exact ⟨rfl, hS2.b⟩
theorem hp_out (m : MacV) (ad al : Option Addr) (cap cl : Nat) (l : List Int) (n : Int) (w : World) (hR : Ints w ad cap m.sw) (hL : Ints w al cl l) (hI : InI m.gears) (hf : Fits m l 6 6) (hn : n < 0 ∨ 400 < n) :
  Calls Tryz.prog 5 #[mV m ad cap, .slice al l.length cl, .int .i64 n] w fun r w' => r = .returned (.bool true) ∧ Below w.heap.size w w' := by
 have hS0 := (SL.nil w).box (.cells (mC m ad cap) 45)
 have HT := hid hawserTurns_any
 have hlc := hL.le
 have hlm := hL.max
 have HF := hid (fun w h h2 => tfits_ok m ad al cap cl l 6 6 w h h2 hf)
 clear hf
 rcases hn with hn | hn
 ·have d0 : decide (n < 0) = true := decide_eq_true hn
  clear hn
  go_enter Tryz.func5, Tryz.ntmps5
  go_wp2_with (with_reducible refine wpList_ldS (n := 4) (us := mC m ad cap) A_mach kR wU wU (by assumption) wU wU ?_)
  refine (HF.out _ (hR.below hS0.b) (hL.below hS0.b)).mono ?_
  rintro e w1 ⟨rfl, b1⟩
  have hS1 := hS0.mono b1
  have q1_m := (hS1.blk 0 rfl).1
  clear hS0
  go_wp2_with fail
  refine (HT.out _).mono ?_
  rintro e w2 ⟨rfl, b2⟩
  have hS2 := hS1.mono b2
  have q2_m := (hS2.blk 0 rfl).1
  clear hS1 q1_m
  go_wp2_with fail
  go_ret
  exact ⟨rfl, hS2.b⟩
 ·have d0 : decide (n < 0) = false := decide_eq_false (by omega)
  have d1 : decide (400 < n) = true := decide_eq_true hn
  clear hn
  go_enter Tryz.func5, Tryz.ntmps5
  go_wp2_with (with_reducible refine wpList_ldS (n := 4) (us := mC m ad cap) A_mach kR wU wU (by assumption) wU wU ?_)
  refine (HF.out _ (hR.below hS0.b) (hL.below hS0.b)).mono ?_
  rintro e w1 ⟨rfl, b1⟩
  have hS1 := hS0.mono b1
  have q1_m := (hS1.blk 0 rfl).1
  clear hS0
  go_wp2_with fail
  refine (HT.out _).mono ?_
  rintro e w2 ⟨rfl, b2⟩
  have hS2 := hS1.mono b2
  have q2_m := (hS2.blk 0 rfl).1
  clear hS1 q1_m
  go_wp2_with fail
  go_ret
  exact ⟨rfl, hS2.b⟩
theorem TopHawserPairs_any (m : MacV) (ad al : Option Addr) (cap cl : Nat) (l : List Int) (n : Int) (w : World) (hR : Ints w ad cap m.sw) (hL : Ints w al cl l) (hI : InI m.gears) :
  Calls Tryz.prog 5 #[mV m ad cap, .slice al l.length cl, .int .i64 n] w fun r w' => r = .returned (.bool true) ∧ Below w.heap.size w w' := by
 by_cases hf : Fits m l 6 6
 ·by_cases hn : n < 0 ∨ 400 < n
  ·exact hp_out m ad al cap cl l n w hR hL hI hf hn
  ·cases hfm : firstM m l with
   | none => exact hp_none m ad al cap cl l n w hR hL hI hf (by omega) (by omega) hfm
   | some v => exact hp_some m ad al cap cl l n w hR hL hI hf (by omega) (by omega) v hfm
 ·exact hp_nofit m ad al cap cl l n w hR hL hI hf
end Go.Proofs.YtddkdgodgflmlaaGreatDoor
