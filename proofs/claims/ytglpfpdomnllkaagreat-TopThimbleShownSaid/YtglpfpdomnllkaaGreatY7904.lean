/- Contracts and plain facts that the claim uses (QrH MtP QrT QrV WvP QsG AwN K11p QrL GsP NfP NfQ NfR). Conditions: as each one states. -/
import Derived.RangeFuncNested
import Derived.RangeFuncBound
import Derived.RangeFuncCalls
import Derived.RangeFuncLeaves
import Derived.RangeFuncFrom
import Derived.Shelf.Abstract
import Derived.Shelf.RegionOpen
import Derived.WalkKit
import Derived.OwnWalkIn
import Derived.TacticsInMore
import Derived.LoopNIn
import Derived.LoopIn
import Derived.Test.YtglpfpdomnllkaaGreatProg
import Derived.WalkSpells
import Derived.Maps.AppendAt
import Derived.Deep.Quiet
import Derived.Maps.Own
import Derived.Maps.OwnSet
import Derived.Maps.Views
import Derived.WalkLawsBesides
import Derived.Laws.EntriesVeiled
import Derived.Deep.QuietTactic
import Derived.BigQuiet
import Derived.Shelf.Strings.Trim
import Derived.Shelf.Strings.SlTrimAscii
import Derived.Shelf.Strings.Repeat
import Derived.Shelf.Strings.OnBuilder
import Derived.Shelf.Strconv.Itoa1
import Derived.Shelf.Strconv.Itoa3
import Derived.Shelf.LaysM
import Derived.Ground.Names2Prog
import Derived.Lib.OthersKept
import Derived.Deep.RegionHeld3
import Derived.Deep.AppendLies
import Derived.Deep.RegionHeldLaw
import Derived.Deep.RegionLaw
import Derived.StillTail
import Derived.Laws.Tables
import Derived.IntWalk
import Derived.Laws.CopyOwn
import Derived.BigRegion
import Derived.ChangeAlike
import Derived.Shelf.Bits.Mul64
import Derived.Lib.ItoaLen
import Derived.Lib.ItoaMem
import Derived.Sort.LoopGhostIn
import Derived.Maps.RangeWalk
import Derived.Deep.LoopGhost
import Derived.Maps.Ext
import Derived.Sort.QuietThIn
import Derived.Lib.Split
import Derived.Lib.AtoiAll
import Derived.Lib.AppendIntMem
import Derived.Lib.SmallJoins
import Derived.LaidSub
import Derived.Lib.LaidTab
import Derived.Lib.AtoiErrMem
import Derived.Stop.LaidErr
import Derived.ReadAgain
import Derived.ChangeSlices
import Derived.OpenShut
import Derived.ProofKit
import Derived.Deep.DeepHandedRow
import Derived.Deep.SlicePairs
import Derived.Test.YtglpfpdomnllkaaGreatXt01
import Derived.Test.YtglpfpdomnllkaaGreatXt02
import Derived.Test.YtglpfpdomnllkaaGreatXt03
import Derived.Test.YtglpfpdomnllkaaGreatXt04
import Derived.Test.YtglpfpdomnllkaaGreatXt05
import Derived.Test.YtglpfpdomnllkaaGreatXt06
import Derived.Test.YtglpfpdomnllkaaGreatXt07
import Derived.Test.YtglpfpdomnllkaaGreatY7901
import Derived.Test.YtglpfpdomnllkaaGreatY7902
import Derived.Test.YtglpfpdomnllkaaGreatY7903
set_option linter.all false

namespace Go.Proofs.YtglpfpdomnllkaaGreat
open Go.RowKit
set_option maxHeartbeats 8000000
set_option maxRecDepth 100000
theorem pairsAt_succ {l : List Int} {i j : Nat} (h : j < l.length) : pairsAt l i (j + 1) = pairsAt l i j ++ [(atD 0 l i, atD 0 l j)] := by
 unfold pairsAt
 rw [take_snoc h, List.map_append, List.append_assoc]
 rfl
theorem min_at (f : Int × Int → Int) {l : List Int} {i j : Nat} (h : j < l.length) : minF f (pairsAt l i (j + 1)) = if 0 ≤ f (atD 0 l i, atD 0 l j) ∧ (minF f (pairsAt l i j) < 0 ∨ f (atD 0 l i, atD 0 l j) < minF f (pairsAt l i j)) then f (atD 0 l i, atD 0 l j) else minF f (pairsAt l i j) := by
 rw [pairsAt_succ h, minF_snoc]
theorem ne_atI {l : List Int} (h : l.Nodup) {i j : Nat} (hi : i < l.length) (hj : j < l.length) (hij : j < i) : atD 0 l j ≠ atD 0 l i := by
 have ei : atD 0 l i = l[i] := by simp [atD, hi]
 have ej : atD 0 l j = l[j] := by simp [atD, hj]
 rw [ei, ej]
 intro e
 have := (List.getElem_inj h).1 e
 omega
theorem rNow_any (m : MacV) (ad : Option Addr) (cap : Nat) (al : Option Addr) (cl : Nat) (l : List Int) (w : World) (hL : Ints w al cl l) (hg0 : 1 ≤ m.gears) (hg : m.gears ≤ 16) (hl : ∀ x ∈ l, 0 ≤ x ∧ x < 4 * m.gears) (hn : l.length ≤ 64) (hnd : l.Nodup) :
  Calls Tryz.prog 100 #[mV m ad cap, .slice al l.length cl] w fun r w' => r = .returned (.int .i64 (nowM m l)) ∧ Below w.heap.size w w' := by
 have hcap := hL.le
 have hmx := hL.max
 have hS := (SL.nil w).box (.cells (mC m ad cap) 27)
 have HIN : Hid (∀ k : Nat, k < l.length → 0 ≤ atD 0 l k ∧ atD 0 l k < 4 * m.gears) := hid fun k hk => atD_in hl hk
 have HNE : Hid (∀ i j : Nat, i < l.length → j < i → atD 0 l j ≠ atD 0 l i) := hid fun i j hi hj => ne_atI hnd hi (by omega) hj
 have HOA : Hid (∀ (x : Int) w, 0 ≤ x → x < 4 * m.gears → _) := hid fun x w h0 h1 => rOther_any m ad cap x w hg0 hg h0 h1
 have HPA : Hid (∀ (x : Int) w, 0 ≤ x → x < 4 * m.gears → _) := hid fun x w h0 h1 => rPlace_any m ad cap x w hg h0 h1
 have HMA : Hid (∀ i j : Nat, j < l.length → _) := hid fun i j h => min_at (hereN m) (l := l) (i := i) (j := j) h
 have HE : Hid (nowM m l = minF (hereN m) (pairsTo l l.length)) := hid rfl
 rw [HE.out]
 clear hl hnd
 obtain ⟨F, hF⟩ : ∃ F : List (Int × Int) → Int, ∀ ps, F ps = minF (hereN m) ps := ⟨_, fun _ => rfl⟩
 have HF := hid hF
 rw [← hF]
 clear hF
 have hF0 : F (pairsTo l 0) = -1 := by rw [HF.out]; rfl
 have HF0 := hid hF0
 clear hF0
 go_enter Tryz.func100, Tryz.ntmps100
 go_wp2_with fail
 go_loopw [5, 6, 7] (fun bo i _ wr => ∃ k : Nat, k ≤ l.length ∧ bo = .int .i64 (F (pairsTo l k)) ∧ i = .int .i64 k ∧ SL w.heap.size w wr [pBlk w.heap.size (.cells (mC m ad cap) 27)]) (fun _ i _ _ => l.length - (intOf i).toNat)
 case atStart => exact ⟨0, by omega, by rw [HF0.out], rfl, hS⟩
 case round =>
  clear hS
  obtain ⟨k, hk, rfl, rfl, hSr⟩ := hrel
  by_cases hlt : k < l.length
  ·go_wp2_with fail
   go_loopw [5, 7] (fun bo i wq => ∃ j : Nat, j ≤ k ∧ bo = .int .i64 (F (pairsAt l k j)) ∧ i = .int .i64 j ∧ SL w.heap.size w wq [pBlk w.heap.size (.cells (mC m ad cap) 27)]) (fun _ i _ => k - (intOf i).toNat)
   case atStart => exact ⟨0, by omega, by rw [pairsAt_zero], rfl, hSr⟩
   case round =>
    clear hSr
    obtain ⟨j, hj, rfl, rfl, hSq⟩ := hrel
    by_cases hjk : j < k
    ·have hst := HMA.out k j (by omega)
     rw [← HF.out, ← HF.out] at hst
     have hix := HIN.out k hlt
     have hiy := HIN.out j (by omega)
     have hoh := other_hit hix.1 hix.2 hiy.1 hiy.2 (HNE.out k j hlt hjk)
     have CO := fun w => HOA.out (atD 0 l k) w hix.1 hix.2
     have CP := fun w => HPA.out (atD 0 l k) w hix.1 hix.2
     have hhe : hereN m (atD 0 l k, atD 0 l j) = if hitM m (atD 0 l k) (atD 0 l j) then placeM m (atD 0 l k) else -1 := rfl
     rw [hhe] at hst
     have hpl := hit_place (m := m) (x := atD 0 l k) (y := atD 0 l j)
     obtain ⟨X, hX⟩ : ∃ X, X = atD 0 l k := ⟨_, rfl⟩
     obtain ⟨Y, hY⟩ : ∃ Y, Y = atD 0 l j := ⟨_, rfl⟩
     obtain ⟨B, hB⟩ : ∃ B, B = F (pairsAt l k j) := ⟨_, rfl⟩
     rw [← hB] at hst ⊢
     rw [← hX] at hst hoh CO CP hpl
     rw [← hY] at hst hoh hpl
     obtain ⟨O, hO⟩ : ∃ O, O = otherM m X := ⟨_, rfl⟩
     obtain ⟨Pl, hPl⟩ : ∃ P, P = placeM m X := ⟨_, rfl⟩
     rw [← hO] at CO hoh
     rw [← hPl] at CP hst hpl
     have HX := hid hX; have HY := hid hY; have HO := hid CO; have HP := hid CP
     have hLq := hL.below hSq.b
     have q2 := (hSq.blk 0 rfl).1
     have hkl : (k : Int) < l.length := by omega
     have hjl : (j : Int) < l.length := by omega
     clear hix hiy CO CP hhe hX hY hB hO hPl
     cases hh : hitM m X Y
     ·rw [hh] at hoh hst
      simp only [Bool.false_eq_true, if_false, show ¬ (0 : Int) ≤ -1 by decide, false_and] at hst
      have HST := hid hst
      clear hst hpl hh
      go_wp2_with fail
      refine wp_region_q kR kR ?_
      repeat (first | ((with_reducible refine wpQ_skip wU ?_); (try simp only [Act.put, pA, pB, pC])) | ((with_reducible refine wpB_loadS (n := 4) (us := mC m ad cap) A_rmach kR wU wU (by assumption) wU wU ?_); (try simp only [Act.put, pA, pB, pC])) | (((with_reducible refine wpB_idxW 0 E_ints F_int cInt1 wU (rfl) wU (hLq) oD oD (fun _ => wU) wU (fun _ => wU) (fun _ => ?_)); (try simp only [Act.put, pA, pB, pC]); (try simp only [cInt])); first | rw [← HX.out] | rw [← HY.out]) | ((with_reducible refine wpB_call (.int .i64 O) wU (fun w' => ?_) (fun w' hw' => HO.out w') ?_); (focus (go_simp; done)); (try simp only [Act.put, pA, pB, pC])) | ((with_reducible refine wpB_call (.int .i64 Pl) wU (fun w' => ?_) (fun w' hw' => HP.out w') ?_); (focus (go_simp; done)); (try simp only [Act.put, pA, pB, pC])) | (((refine wpQ_oneG ?_ wU (fun w' => ?_) ?_); rotate_left; (go_simp; rfl); (try simp only [Act.put, pA, pB, pC])); first | rw [hoh] | skip) |  ((with_reducible refine wpB_load (by first | exact F_int | fail) wU wU (by assumption) wU ?_); (try simp only [Act.put, pA, pB, pC])) | ((with_reducible refine wpB_loadS (n := 2) (us := #[_, _]) (by fail) kR wU wU (by assumption) wU wU ?_); (try simp only [Act.put, pA, pB, pC])) | ((with_reducible refine wpB_loadS (n := 4) (us := #[_, _, _, _]) (by fail) kR wU wU (by assumption) wU wU ?_); (try simp only [Act.put, pA, pB, pC])) | ((refine wpQ_oneG ?_ wU (fun w' => ?_) ?_); rotate_left; (go_simp; rfl); (try simp only [Act.put, pA, pB, pC])))
      refine wpQuiet_nil ?_
      intro w5 hb5
      have hS5 := hSq.mono hb5
      clear q2
      go_wp2_with fail
      exact ⟨⟨j + 1, by omega, by rw [HST.out], by go_num, hS5⟩, by simp [intOf]; omega⟩
     ·rw [hh] at hoh hst
      simp only [if_true, hpl hh, true_and] at hst
      clear hpl hh
      by_cases hB0 : B < 0
      ·rw [if_pos (.inl hB0)] at hst
       have hbd : decide (B < 0) = true := decide_eq_true hB0
       have HST := hid hst
       clear hst hB0
       go_wp2_with fail
       refine wp_region_q kR kR ?_
       repeat (first | ((with_reducible refine wpQ_skip wU ?_); (try simp only [Act.put, pA, pB, pC])) | ((with_reducible refine wpB_loadS (n := 4) (us := mC m ad cap) A_rmach kR wU wU (by assumption) wU wU ?_); (try simp only [Act.put, pA, pB, pC])) | (((with_reducible refine wpB_idxW 0 E_ints F_int cInt1 wU (rfl) wU (hLq) oD oD (fun _ => wU) wU (fun _ => wU) (fun _ => ?_)); (try simp only [Act.put, pA, pB, pC]); (try simp only [cInt])); first | rw [← HX.out] | rw [← HY.out]) | ((with_reducible refine wpB_call (.int .i64 O) wU (fun w' => ?_) (fun w' hw' => HO.out w') ?_); (focus (go_simp; done)); (try simp only [Act.put, pA, pB, pC])) | ((with_reducible refine wpB_call (.int .i64 Pl) wU (fun w' => ?_) (fun w' hw' => HP.out w') ?_); (focus (go_simp; done)); (try simp only [Act.put, pA, pB, pC])) | (((refine wpQ_oneG ?_ wU (fun w' => ?_) ?_); rotate_left; (go_simp; rfl); (try simp only [Act.put, pA, pB, pC])); first | rw [hoh] | rw [hbd] | skip) |  ((with_reducible refine wpB_load (by first | exact F_int | fail) wU wU (by assumption) wU ?_); (try simp only [Act.put, pA, pB, pC])) | ((with_reducible refine wpB_loadS (n := 2) (us := #[_, _]) (by fail) kR wU wU (by assumption) wU wU ?_); (try simp only [Act.put, pA, pB, pC])) | ((with_reducible refine wpB_loadS (n := 4) (us := #[_, _, _, _]) (by fail) kR wU wU (by assumption) wU wU ?_); (try simp only [Act.put, pA, pB, pC])) | ((refine wpQ_oneG ?_ wU (fun w' => ?_) ?_); rotate_left; (go_simp; rfl); (try simp only [Act.put, pA, pB, pC])))
       refine wpQuiet_nil ?_
       intro w5 hb5
       have hS5 := hSq.mono hb5
       clear q2
       go_wp2_with fail
       have hL5 := hL.below hS5.b
       have q5 := (hS5.blk 0 rfl).1
       refine wp_region_q kR kR ?_
       repeat (first | ((with_reducible refine wpB_loadS (n := 4) (us := mC m ad cap) A_rmach kR wU wU (by assumption) wU wU ?_); (try simp only [Act.put, pA, pB, pC])) | (((with_reducible refine wpB_idxW 0 E_ints F_int cInt1 wU (rfl) wU (hL5) oD oD (fun _ => wU) wU (fun _ => wU) (fun _ => ?_)); (try simp only [Act.put, pA, pB, pC]); (try simp only [cInt])); rw [← HX.out]) | ((with_reducible refine wpB_call (.int .i64 Pl) wU (fun w' => ?_) (fun w' hw' => HP.out w') ?_); (focus (go_simp; done)); (try simp only [Act.put, pA, pB, pC])) |  ((with_reducible refine wpB_load (by first | exact F_int | fail) wU wU (by assumption) wU ?_); (try simp only [Act.put, pA, pB, pC])) | ((with_reducible refine wpB_loadS (n := 2) (us := #[_, _]) (by fail) kR wU wU (by assumption) wU wU ?_); (try simp only [Act.put, pA, pB, pC])) | ((with_reducible refine wpB_loadS (n := 4) (us := #[_, _, _, _]) (by fail) kR wU wU (by assumption) wU wU ?_); (try simp only [Act.put, pA, pB, pC])) | ((refine wpQ_oneG ?_ wU (fun w' => ?_) ?_); rotate_left; (go_simp; rfl); (try simp only [Act.put, pA, pB, pC])))
       refine wpQuiet_nil ?_
       intro w6 hb6
       have hS6 := hS5.mono hb6
       go_wp2_with fail
       exact ⟨⟨j + 1, by omega, by rw [HST.out], by go_num, hS6⟩, by simp [intOf]; omega⟩
      ·have hbd : decide (B < 0) = false := decide_eq_false hB0
       by_cases hPB : Pl < B
       ·rw [if_pos (.inr hPB)] at hst
        have hpd : decide (Pl < B) = true := decide_eq_true hPB
        have HST := hid hst
        clear hst hB0 hPB
        go_wp2_with fail
        refine wp_region_q kR kR ?_
        repeat (first | ((with_reducible refine wpQ_skip wU ?_); (try simp only [Act.put, pA, pB, pC])) | ((with_reducible refine wpB_loadS (n := 4) (us := mC m ad cap) A_rmach kR wU wU (by assumption) wU wU ?_); (try simp only [Act.put, pA, pB, pC])) | (((with_reducible refine wpB_idxW 0 E_ints F_int cInt1 wU (rfl) wU (hLq) oD oD (fun _ => wU) wU (fun _ => wU) (fun _ => ?_)); (try simp only [Act.put, pA, pB, pC]); (try simp only [cInt])); first | rw [← HX.out] | rw [← HY.out]) | ((with_reducible refine wpB_call (.int .i64 O) wU (fun w' => ?_) (fun w' hw' => HO.out w') ?_); (focus (go_simp; done)); (try simp only [Act.put, pA, pB, pC])) | ((with_reducible refine wpB_call (.int .i64 Pl) wU (fun w' => ?_) (fun w' hw' => HP.out w') ?_); (focus (go_simp; done)); (try simp only [Act.put, pA, pB, pC])) | (((refine wpQ_oneG ?_ wU (fun w' => ?_) ?_); rotate_left; (go_simp; rfl); (try simp only [Act.put, pA, pB, pC])); first | rw [hoh] | rw [hbd] | rw [hpd] | skip) |  ((with_reducible refine wpB_load (by first | exact F_int | fail) wU wU (by assumption) wU ?_); (try simp only [Act.put, pA, pB, pC])) | ((with_reducible refine wpB_loadS (n := 2) (us := #[_, _]) (by fail) kR wU wU (by assumption) wU wU ?_); (try simp only [Act.put, pA, pB, pC])) | ((with_reducible refine wpB_loadS (n := 4) (us := #[_, _, _, _]) (by fail) kR wU wU (by assumption) wU wU ?_); (try simp only [Act.put, pA, pB, pC])) | ((refine wpQ_oneG ?_ wU (fun w' => ?_) ?_); rotate_left; (go_simp; rfl); (try simp only [Act.put, pA, pB, pC])))
        refine wpQuiet_nil ?_
        intro w5 hb5
        have hS5 := hSq.mono hb5
        clear q2
        go_wp2_with fail
        have hL5 := hL.below hS5.b
        have q5 := (hS5.blk 0 rfl).1
        refine wp_region_q kR kR ?_
        repeat (first | ((with_reducible refine wpB_loadS (n := 4) (us := mC m ad cap) A_rmach kR wU wU (by assumption) wU wU ?_); (try simp only [Act.put, pA, pB, pC])) | (((with_reducible refine wpB_idxW 0 E_ints F_int cInt1 wU (rfl) wU (hL5) oD oD (fun _ => wU) wU (fun _ => wU) (fun _ => ?_)); (try simp only [Act.put, pA, pB, pC]); (try simp only [cInt])); rw [← HX.out]) | ((with_reducible refine wpB_call (.int .i64 Pl) wU (fun w' => ?_) (fun w' hw' => HP.out w') ?_); (focus (go_simp; done)); (try simp only [Act.put, pA, pB, pC])) |  ((with_reducible refine wpB_load (by first | exact F_int | fail) wU wU (by assumption) wU ?_); (try simp only [Act.put, pA, pB, pC])) | ((with_reducible refine wpB_loadS (n := 2) (us := #[_, _]) (by fail) kR wU wU (by assumption) wU wU ?_); (try simp only [Act.put, pA, pB, pC])) | ((with_reducible refine wpB_loadS (n := 4) (us := #[_, _, _, _]) (by fail) kR wU wU (by assumption) wU wU ?_); (try simp only [Act.put, pA, pB, pC])) | ((refine wpQ_oneG ?_ wU (fun w' => ?_) ?_); rotate_left; (go_simp; rfl); (try simp only [Act.put, pA, pB, pC])))
        refine wpQuiet_nil ?_
        intro w6 hb6
        have hS6 := hS5.mono hb6
        go_wp2_with fail
        exact ⟨⟨j + 1, by omega, by rw [HST.out], by go_num, hS6⟩, by simp [intOf]; omega⟩
       ·rw [if_neg (fun h => by rcases h with h | h; exact hB0 h; exact hPB h)] at hst
        have hpd : decide (Pl < B) = false := decide_eq_false hPB
        have HST := hid hst
        clear hst hB0 hPB
        go_wp2_with fail
        refine wp_region_q kR kR ?_
        repeat (first | ((with_reducible refine wpQ_skip wU ?_); (try simp only [Act.put, pA, pB, pC])) | ((with_reducible refine wpB_loadS (n := 4) (us := mC m ad cap) A_rmach kR wU wU (by assumption) wU wU ?_); (try simp only [Act.put, pA, pB, pC])) | (((with_reducible refine wpB_idxW 0 E_ints F_int cInt1 wU (rfl) wU (hLq) oD oD (fun _ => wU) wU (fun _ => wU) (fun _ => ?_)); (try simp only [Act.put, pA, pB, pC]); (try simp only [cInt])); first | rw [← HX.out] | rw [← HY.out]) | ((with_reducible refine wpB_call (.int .i64 O) wU (fun w' => ?_) (fun w' hw' => HO.out w') ?_); (focus (go_simp; done)); (try simp only [Act.put, pA, pB, pC])) | ((with_reducible refine wpB_call (.int .i64 Pl) wU (fun w' => ?_) (fun w' hw' => HP.out w') ?_); (focus (go_simp; done)); (try simp only [Act.put, pA, pB, pC])) | (((refine wpQ_oneG ?_ wU (fun w' => ?_) ?_); rotate_left; (go_simp; rfl); (try simp only [Act.put, pA, pB, pC])); first | rw [hoh] | rw [hbd] | rw [hpd] | skip) |  ((with_reducible refine wpB_load (by first | exact F_int | fail) wU wU (by assumption) wU ?_); (try simp only [Act.put, pA, pB, pC])) | ((with_reducible refine wpB_loadS (n := 2) (us := #[_, _]) (by fail) kR wU wU (by assumption) wU wU ?_); (try simp only [Act.put, pA, pB, pC])) | ((with_reducible refine wpB_loadS (n := 4) (us := #[_, _, _, _]) (by fail) kR wU wU (by assumption) wU wU ?_); (try simp only [Act.put, pA, pB, pC])) | ((refine wpQ_oneG ?_ wU (fun w' => ?_) ?_); rotate_left; (go_simp; rfl); (try simp only [Act.put, pA, pB, pC])))
        refine wpQuiet_nil ?_
        intro w5 hb5
        have hS5 := hSq.mono hb5
        clear q2
        go_wp2_with fail
        exact ⟨⟨j + 1, by omega, by rw [HST.out], by go_num, hS5⟩, by simp [intOf]; omega⟩
    ·have hjk2 : j = k := by omega
     subst hjk2
     go_wp2_with fail
     exact ⟨⟨j + 1, by omega, by rw [pairsAt_last], by go_num, hSq⟩, by simp [intOf]; omega⟩
  ·have hkn : k = l.length := by omega
   subst hkn
   go_wp2_with fail
   go_ret
   exact ⟨rfl, hSr.b⟩
def meetV : Option (Nat × Int) → Value
 | some v => .tuple #[.int .i64 v.1, .int .i64 v.2]
 | none => .tuple #[.int .i64 (-1), .int .i64 0]
theorem rMeet_any (m : MacV) (ad : Option Addr) (cap : Nat) (al : Option Addr) (cl : Nat) (l : List Int) (w : World) (hR : Ints w ad cap m.sw) (hL : Ints w al cl l) (hg0 : 1 ≤ m.gears) (hg : m.gears ≤ 16) (hl : ∀ x ∈ l, 0 ≤ x ∧ x < 4 * m.gears) (hn : l.length ≤ 64) (hnd : l.Nodup) :
  Calls Tryz.prog 46 #[mV m ad cap, .slice al l.length cl] w fun r w' => r = .returned (meetV (firstM m l)) ∧ Below w.heap.size w w' := by
 have hcap := hL.le
 have hmx := hL.max
 have hS := (SL.nil w).box (.cells (mC m ad cap) 27)
 have HNE : Hid (∀ i j : Nat, i < l.length → j < i → atD 0 l j ≠ atD 0 l i) := hid fun i j hi hj => ne_atI hnd hi (by omega) hj
 have HIN : Hid (∀ k : Nat, k < l.length → 0 ≤ atD 0 l k ∧ atD 0 l k < 4 * m.gears) := hid fun k hk => atD_in hl hk
 have HCA : Hid (∀ (i j : Nat) w, Ints w ad cap m.sw → i < l.length → j < i → _) := hid fun i j w h hi hj => rpair_any m ad cap (atD 0 l i) (atD 0 l j) w h hg0 hg (HIN.out i hi).1 (HIN.out i hi).2 (HIN.out j (by omega)).1 (HIN.out j (by omega)).2 (fun e => HNE.out i j hi hj e.symm)
 have HMA : Hid (∀ i j : Nat, j < l.length → _) := hid fun i j h => min_at (pairN m) (l := l) (i := i) (j := j) h
 have HST : Hid (∀ (K : Nat) w, Ints w ad cap m.sw → Ints w al cl l → K ≤ 4096 → _) := hid fun K w h h2 hK => rSteps_any m ad cap al cl l K w h h2 hg0 hg hl hn (by omega)
 have HNW : Hid (∀ (K : Nat) a c w, Ints w a c (l.map fun s => itM m s K) → _) := hid fun K a c w h => rNow_any m ad cap a c (l.map fun s => itM m s K) w h hg0 hg (fun x hx => by
  obtain ⟨y, hy, rfl⟩ := List.mem_map.1 hx
  exact itM_rng (hl y hy).1 (hl y hy).2 K) (by simpa using hn) (by
  rw [List.nodup_iff_pairwise_ne, List.pairwise_map]
  refine (List.nodup_iff_pairwise_ne.1 hnd).imp_of_mem fun {x y} hx hy hxy e => hxy (itM_inj (hl x hx).1 (hl x hx).2 (hl y hy).1 (hl y hy).2 K e))
 have H4096 : Hid (∀ v, firstM m l = some v → v.1 ≤ 4096) := hid fun v hv => by
  obtain ⟨_, s2⟩ := foldF_spec m (pairsTo l l.length) none
  obtain ⟨_, _, k3⟩ := s2 _ hv
  rcases k3 with k3 | ⟨p, hp, e⟩
  ·cases k3
  ·obtain ⟨i, j, hji, hi, rfl⟩ := (pairsTo_mem (Nat.le_refl _)).1 hp
   obtain ⟨L, hL0, hL1, hLa, hLb⟩ := meet_per2 hg (HIN.out i hi).1 (HIN.out i hi).2 (HIN.out j (by omega)).1 (HIN.out j (by omega)).2
   have hs := meetM_spec m (atD 0 l i) (atD 0 l j)
   dsimp only at e
   rw [e] at hs
   obtain ⟨t1, _, t3⟩ := hs
   by_cases h : v.1 ≤ 4096
   ·exact h
   ·have hN := meet_none (m := m) hL0 hLa hLb (fun k hk => t3 k (by omega))
    have := (meetM_spec m (atD 0 l i) (atD 0 l j)).eq hN
    rw [e] at this; cases this
 have HE : Hid (meetN m l = minF (pairN m) (pairsTo l l.length)) := hid rfl
 have HN0 : Hid (firstM m l = none → meetN m l = -1) := hid meet_refN
 have HN1 : Hid (∀ v, firstM m l = some v → meetN m l = v.1 ∧ nowM m (l.map fun s => itM m s v.1) = v.2) := hid fun v hv => meet_refS hv
 generalize firstM m l = ff at HN0 HN1 H4096 ⊢
 obtain ⟨RR, hRR⟩ : ∃ RR : Value, RR = meetV ff := ⟨_, rfl⟩
 have HRR := hid hRR
 rw [← hRR]
 clear hl hnd hRR
 obtain ⟨F, hF⟩ : ∃ F : List (Int × Int) → Int, ∀ ps, F ps = minF (pairN m) ps := ⟨_, fun _ => rfl⟩
 have HF := hid hF
 clear hF
 have hF0 : F (pairsTo l 0) = -1 := by rw [HF.out]; rfl
 have HF0 := hid hF0
 clear hF0
 go_enter Tryz.func46, Tryz.ntmps46
 go_wp2_with fail
 go_loopw [6, 7, 8, 9] (fun bo i _ _ wr => ∃ k : Nat, k ≤ l.length ∧ bo = .int .i64 (F (pairsTo l k)) ∧ i = .int .i64 k ∧ SL w.heap.size w wr [pBlk w.heap.size (.cells (mC m ad cap) 27)]) (fun _ i _ _ _ => l.length - (intOf i).toNat)
 case atStart => exact ⟨0, by omega, by rw [HF0.out], rfl, hS⟩
 case round =>
  clear hS
  obtain ⟨k, hk, rfl, rfl, hSr⟩ := hrel
  by_cases hlt : k < l.length
  ·go_wp2_with fail
   go_loopw [6, 8, 9] (fun bo i _ wq => ∃ j : Nat, j ≤ k ∧ bo = .int .i64 (F (pairsAt l k j)) ∧ i = .int .i64 j ∧ SL w.heap.size w wq [pBlk w.heap.size (.cells (mC m ad cap) 27)]) (fun _ i _ _ => k - (intOf i).toNat)
   case atStart => exact ⟨0, by omega, by rw [pairsAt_zero], rfl, hSr⟩
   case round =>
    clear hSr
    obtain ⟨j, hj, rfl, rfl, hSq⟩ := hrel
    by_cases hjk : j < k
    ·have hst := HMA.out k j (by omega)
     rw [← HF.out, ← HF.out] at hst
     have CC := fun w h => HCA.out k j w h hlt hjk
     obtain ⟨Q, hQ⟩ : ∃ Q, Q = pairN m (atD 0 l k, atD 0 l j) := ⟨_, rfl⟩
     rw [← hQ] at hst CC
     obtain ⟨X, hX⟩ : ∃ X, X = atD 0 l k := ⟨_, rfl⟩
     obtain ⟨Y, hY⟩ : ∃ Y, Y = atD 0 l j := ⟨_, rfl⟩
     obtain ⟨B, hB⟩ : ∃ B, B = F (pairsAt l k j) := ⟨_, rfl⟩
     rw [← hB] at hst ⊢
     rw [← hX] at CC
     rw [← hY] at CC
     have HX := hid hX; have HY := hid hY; have HC := hid CC
     have hLq := hL.below hSq.b
     have hRq := hR.below hSq.b
     have q2 := (hSq.blk 0 rfl).1
     have hkl : (k : Int) < l.length := by omega
     have hjl : (j : Int) < l.length := by omega
     clear CC hX hY hB hQ
     by_cases hQ0 : 0 ≤ Q
     ·have hqd : decide (0 ≤ Q) = true := decide_eq_true hQ0
      by_cases hB0 : B < 0
      ·rw [if_pos ⟨hQ0, .inl hB0⟩] at hst
       have hbd : decide (B < 0) = true := decide_eq_true hB0
       have HST := hid hst
       clear hst hB0 hQ0
       go_wp2_with fail
       refine wp_region_q kR kR ?_
       repeat (first | ((with_reducible refine wpB_loadS (n := 4) (us := mC m ad cap) A_rmach kR wU wU (by assumption) wU wU ?_); (try simp only [Act.put, pA, pB, pC])) | (((with_reducible refine wpB_idxW 0 E_ints F_int cInt1 wU (rfl) wU (hLq) oD oD (fun _ => wU) wU (fun _ => wU) (fun _ => ?_)); (try simp only [Act.put, pA, pB, pC]); (try simp only [cInt])); first | rw [← HX.out] | rw [← HY.out]) | ((with_reducible refine wpB_call (.int .i64 Q) wU (fun w' => ?_) (fun w' hw' => HC.out w' (hRq.below hw')) ?_); (focus (go_simp; done)); (try simp only [Act.put, pA, pB, pC])) |  ((with_reducible refine wpB_load (by first | exact F_int | fail) wU wU (by assumption) wU ?_); (try simp only [Act.put, pA, pB, pC])) | ((with_reducible refine wpB_loadS (n := 2) (us := #[_, _]) (by fail) kR wU wU (by assumption) wU wU ?_); (try simp only [Act.put, pA, pB, pC])) | ((with_reducible refine wpB_loadS (n := 4) (us := #[_, _, _, _]) (by fail) kR wU wU (by assumption) wU wU ?_); (try simp only [Act.put, pA, pB, pC])) | ((refine wpQ_oneG ?_ wU (fun w' => ?_) ?_); rotate_left; (go_simp; rfl); (try simp only [Act.put, pA, pB, pC])))
       refine wpQuiet_nil ?_
       intro w5 hb5
       have hS5 := hSq.mono hb5
       clear q2
       go_wp2_with fail
       exact ⟨⟨j + 1, by omega, by rw [HST.out], by go_num, hS5⟩, by simp [intOf]; omega⟩
      ·have hbd : decide (B < 0) = false := decide_eq_false hB0
       by_cases hPB : Q < B
       ·rw [if_pos ⟨hQ0, .inr hPB⟩] at hst
        have hpd : decide (Q < B) = true := decide_eq_true hPB
        have HST := hid hst
        clear hst hB0 hPB hQ0
        go_wp2_with fail
        refine wp_region_q kR kR ?_
        repeat (first | ((with_reducible refine wpB_loadS (n := 4) (us := mC m ad cap) A_rmach kR wU wU (by assumption) wU wU ?_); (try simp only [Act.put, pA, pB, pC])) | (((with_reducible refine wpB_idxW 0 E_ints F_int cInt1 wU (rfl) wU (hLq) oD oD (fun _ => wU) wU (fun _ => wU) (fun _ => ?_)); (try simp only [Act.put, pA, pB, pC]); (try simp only [cInt])); first | rw [← HX.out] | rw [← HY.out]) | ((with_reducible refine wpB_call (.int .i64 Q) wU (fun w' => ?_) (fun w' hw' => HC.out w' (hRq.below hw')) ?_); (focus (go_simp; done)); (try simp only [Act.put, pA, pB, pC])) |  ((with_reducible refine wpB_load (by first | exact F_int | fail) wU wU (by assumption) wU ?_); (try simp only [Act.put, pA, pB, pC])) | ((with_reducible refine wpB_loadS (n := 2) (us := #[_, _]) (by fail) kR wU wU (by assumption) wU wU ?_); (try simp only [Act.put, pA, pB, pC])) | ((with_reducible refine wpB_loadS (n := 4) (us := #[_, _, _, _]) (by fail) kR wU wU (by assumption) wU wU ?_); (try simp only [Act.put, pA, pB, pC])) | ((refine wpQ_oneG ?_ wU (fun w' => ?_) ?_); rotate_left; (go_simp; rfl); (try simp only [Act.put, pA, pB, pC])))
        refine wpQuiet_nil ?_
        intro w5 hb5
        have hS5 := hSq.mono hb5
        clear q2
        go_wp2_with fail
        exact ⟨⟨j + 1, by omega, by rw [HST.out], by go_num, hS5⟩, by simp [intOf]; omega⟩
       ·rw [if_neg (fun h => by rcases h.2 with h | h; exact hB0 h; exact hPB h)] at hst
        have hpd : decide (Q < B) = false := decide_eq_false hPB
        have HST := hid hst
        clear hst hB0 hPB hQ0
        go_wp2_with fail
        refine wp_region_q kR kR ?_
        repeat (first | ((with_reducible refine wpB_loadS (n := 4) (us := mC m ad cap) A_rmach kR wU wU (by assumption) wU wU ?_); (try simp only [Act.put, pA, pB, pC])) | (((with_reducible refine wpB_idxW 0 E_ints F_int cInt1 wU (rfl) wU (hLq) oD oD (fun _ => wU) wU (fun _ => wU) (fun _ => ?_)); (try simp only [Act.put, pA, pB, pC]); (try simp only [cInt])); first | rw [← HX.out] | rw [← HY.out]) | ((with_reducible refine wpB_call (.int .i64 Q) wU (fun w' => ?_) (fun w' hw' => HC.out w' (hRq.below hw')) ?_); (focus (go_simp; done)); (try simp only [Act.put, pA, pB, pC])) |  ((with_reducible refine wpB_load (by first | exact F_int | fail) wU wU (by assumption) wU ?_); (try simp only [Act.put, pA, pB, pC])) | ((with_reducible refine wpB_loadS (n := 2) (us := #[_, _]) (by fail) kR wU wU (by assumption) wU wU ?_); (try simp only [Act.put, pA, pB, pC])) | ((with_reducible refine wpB_loadS (n := 4) (us := #[_, _, _, _]) (by fail) kR wU wU (by assumption) wU wU ?_); (try simp only [Act.put, pA, pB, pC])) | ((refine wpQ_oneG ?_ wU (fun w' => ?_) ?_); rotate_left; (go_simp; rfl); (try simp only [Act.put, pA, pB, pC])))
        refine wpQuiet_nil ?_
        intro w5 hb5
        have hS5 := hSq.mono hb5
        clear q2
        go_wp2_with fail
        exact ⟨⟨j + 1, by omega, by rw [HST.out], by go_num, hS5⟩, by simp [intOf]; omega⟩
     ·have hqd : decide (0 ≤ Q) = false := decide_eq_false hQ0
      rw [if_neg (fun h => hQ0 h.1)] at hst
      have HST := hid hst
      clear hst hQ0
      go_wp2_with fail
      refine wp_region_q kR kR ?_
      repeat (first | ((with_reducible refine wpB_loadS (n := 4) (us := mC m ad cap) A_rmach kR wU wU (by assumption) wU wU ?_); (try simp only [Act.put, pA, pB, pC])) | (((with_reducible refine wpB_idxW 0 E_ints F_int cInt1 wU (rfl) wU (hLq) oD oD (fun _ => wU) wU (fun _ => wU) (fun _ => ?_)); (try simp only [Act.put, pA, pB, pC]); (try simp only [cInt])); first | rw [← HX.out] | rw [← HY.out]) | ((with_reducible refine wpB_call (.int .i64 Q) wU (fun w' => ?_) (fun w' hw' => HC.out w' (hRq.below hw')) ?_); (focus (go_simp; done)); (try simp only [Act.put, pA, pB, pC])) |  ((with_reducible refine wpB_load (by first | exact F_int | fail) wU wU (by assumption) wU ?_); (try simp only [Act.put, pA, pB, pC])) | ((with_reducible refine wpB_loadS (n := 2) (us := #[_, _]) (by fail) kR wU wU (by assumption) wU wU ?_); (try simp only [Act.put, pA, pB, pC])) | ((with_reducible refine wpB_loadS (n := 4) (us := #[_, _, _, _]) (by fail) kR wU wU (by assumption) wU wU ?_); (try simp only [Act.put, pA, pB, pC])) | ((refine wpQ_oneG ?_ wU (fun w' => ?_) ?_); rotate_left; (go_simp; rfl); (try simp only [Act.put, pA, pB, pC])))
      refine wpQuiet_nil ?_
      intro w5 hb5
      have hS5 := hSq.mono hb5
      clear q2
      go_wp2_with fail
      exact ⟨⟨j + 1, by omega, by rw [HST.out], by go_num, hS5⟩, by simp [intOf]; omega⟩
    ·have hjk2 : j = k := by omega
     subst hjk2
     go_wp2_with fail
     exact ⟨⟨j + 1, by omega, by rw [pairsAt_last], by go_num, hSq⟩, by simp [intOf]; omega⟩
  ·have hkn : k = l.length := by omega
   subst hkn
   have hfe : F (pairsTo l l.length) = meetN m l := by rw [HF.out, HE.out]
   rw [hfe]
   clear hfe
   cases ff with
   | none =>
    rw [HN0.out rfl]
    have hr : RR = .tuple #[.int .i64 (-1), .int .i64 0] := HRR.out
    have HR2 := hid hr
    clear hr
    go_wp2_with fail
    go_ret2
    exact ⟨by rw [HR2.out]; rfl, hSr.b⟩
   | some v =>
    obtain ⟨n1, n2⟩ := HN1.out v rfl
    have n3 := H4096.out v rfl
    rw [n1]
    have CST := fun w h h2 => HST.out v.1 w h h2 n3
    have CNW := fun a c w h => HNW.out v.1 a c w h
    simp only [n2] at CNW
    obtain ⟨NL, hNL⟩ : ∃ NL, NL = l.map fun s => itM m s v.1 := ⟨_, rfl⟩
    rw [← hNL] at CST
    simp only [← hNL] at CNW
    have hr : RR = .tuple #[.int .i64 v.1, .int .i64 v.2] := HRR.out
    have HNL : Hid (NL.length = l.length) := hid (by rw [hNL]; simp)
    obtain ⟨N, Pl⟩ := v
    dsimp only at hr CST CNW n3
    have HR2 := hid hr; have HS2 := hid CST; have HW2 := hid CNW
    have hNd : decide ((N : Int) < 0) = false := by simp
    have q2 := (hSr.blk 0 rfl).1
    have hRr := hR.below hSr.b
    have hLr := hL.below hSr.b
    clear hr CST CNW n1 n2 hNL
    go_wp2_with fail
    refine wp_regionK (C := (fun V => Below w.heap.size w V ∧ V.heap[w.heap.size]? = some (.cells (mC m ad cap) 27))) [0, 1, 2, 3, 4] [_, _, _, _, _] 4 (by simp only [List.map_cons, List.map_nil, List.getElem?_toArray]; rfl) rfl kR kR kR (⟨hSr.b.drew, q2⟩) ?_
    refine ⟨_, yieldsK_val wU (fun w' => by with_unfolding_all exact rfl), ?_⟩
    go_frame
    refine ⟨_, yieldsK_blkC (n := 4) A_rmach kR (fun V h => h.2) rfl wU wU, ?_⟩
    go_frame
    refine ⟨_, yieldsK_blkC (n := 4) A_rmach kR (fun V h => h.2) rfl wU wU, ?_⟩
    go_frame
    refine ⟨_, yieldsK_val wU (fun w' => by with_unfolding_all exact rfl), ?_⟩
    go_frame
    refine ⟨_, yieldsK_val wU (fun w' => by with_unfolding_all exact rfl), ?_⟩
    go_frame
    unfold wpPureK
    have hVd : ({ wr with drawn := wr.drawn + 1 } : World) = wr.drew := rfl
    rw [hVd]
    have b2 : Below wr.heap.size wr wr.drew := (Below.refl _ _).drew
    refine wpAnyC_on [5] kR (by simp) ?_
    simp only [List.forall_mem_cons, List.not_mem_nil, false_implies, implies_true, and_true]
    refine wpOp_call (f := 101) (args := #[mV m ad cap, .slice al l.length cl, .int .i64 N]) (by rw [List.getElem?_toArray]; rfl) wU (by first | (go_simp; done) | (simp [execOp, Act.eval, Result.andThen]; done) | (simp [execOp, Act.eval, Result.andThen]; rfl)) ?_
    refine (HS2.out _ (hRr.below b2) (hLr.below b2)).mono ?_
    rintro e w3 ⟨v3, rfl, ho3, b3⟩
    obtain ⟨a3, c3, rfl, h3, _, _⟩ := ho3.reps
    have hS3 := hSr.drew.mono b3
    refine ⟨_, rfl, ⟨hS3.b, (hS3.blk 0 rfl).1⟩, ?_⟩
    go_frame
    refine wpAnyC_on [6] kR (by simp) ?_
    simp only [List.forall_mem_cons, List.not_mem_nil, false_implies, implies_true, and_true]
    refine wpOp_call (f := 100) (args := #[mV m ad cap, .slice a3 NL.length c3]) (by rw [List.getElem?_toArray]; rfl) wU (by first | (go_simp; done) | (simp [execOp, Act.eval, Result.andThen]; done) | (simp [execOp, Act.eval, Result.andThen]; rfl)) ?_
    refine (HW2.out a3 c3 _ h3).mono ?_
    rintro e w4 ⟨rfl, b4⟩
    have hS4 := hS3.mono b4
    refine ⟨_, rfl, ⟨hS4.b, (hS4.blk 0 rfl).1⟩, ?_⟩
    go_frame
    refine wpAnyC_rest [7, 8] [_, _] rfl (by simp only [List.map_cons, List.map_nil, List.getElem?_toArray]; rfl) kR kR kR (⟨hS4.b, (hS4.blk 0 rfl).1⟩) ?_
    repeat (refine ⟨_, .inl ⟨by with_unfolding_all rfl, fun w' _ => by with_unfolding_all exact rfl⟩, ?_⟩; go_frame)
    unfold wpPure
    refine of_wpList_nil (P := Tryz.prog) (ops := #[]) ?_
    go_wp2_with fail
    go_ret2
    exact ⟨by rw [HR2.out]; rfl, hS4.b⟩
end Go.Proofs.YtglpfpdomnllkaaGreat

namespace Go.Proofs.YtglpfpdomnllkaaGreat
set_option maxRecDepth 100000
theorem first_is {m : MacV} {l : List Int} {v : Nat × Int} (h : firstM m l = some v) : ∃ p ∈ pairsTo l l.length, meetM m p.1 p.2 = some v := by
 obtain ⟨_, s2⟩ := foldF_spec m (pairsTo l l.length) none
 obtain ⟨_, _, k3⟩ := s2 _ h
 rcases k3 with k3 | k3
 ·cases k3
 ·exact k3
theorem itM_add (m : MacV) (s : Int) (a b : Nat) : itM m (itM m s b) a = itM m s (a + b) := by unfold itM; rw [itP_add]
theorem atL_add (m : MacV) (l : List Int) (a b : Nat) : atL m (atL m l b) a = atL m l (a + b) := by
 unfold atL
 rw [List.map_map]
 exact List.map_congr_left fun x _ => itM_add m x a b
end Go.Proofs.YtglpfpdomnllkaaGreat

namespace Go.Proofs.YtglpfpdomnllkaaGreat
set_option maxRecDepth 100000
/-- the rank of a slot from left to right. -/
def rankM (m : MacV) (s : Int) : Int := if s % 4 = 0 then 4 * (s / 4) else if s % 4 = 2 then 4 * (s / 4) + 3 else if (decide (s % 4 = 1)) = fwdM m (s / 4) then 4 * (s / 4) + 1 else 4 * (s / 4) + 2
theorem rank_slot (m : MacV) (g : Int) : rankM m (slotG m g 0) = 4 * g ∧ rankM m (slotG m g 1) = 4 * g + 1 ∧ rankM m (slotG m g 2) = 4 * g + 2 ∧ rankM m (slotG m g 3) = 4 * g + 3 := by
 have e0 : slotG m g 0 = 4 * g := rfl
 have e1 : slotG m g 1 = if fwdM m g then 4 * g + 1 else 4 * g + 3 := rfl
 have e2 : slotG m g 2 = if fwdM m g then 4 * g + 3 else 4 * g + 1 := rfl
 have e3 : slotG m g 3 = 4 * g + 2 := rfl
 rw [e0, e1, e2, e3]
 have d0 : (4 * g) / 4 = g := by omega
 have d1 : (4 * g + 1) / 4 = g := by omega
 have d2 : (4 * g + 2) / 4 = g := by omega
 have d3 : (4 * g + 3) / 4 = g := by omega
 have m0 : (4 * g) % 4 = 0 := by omega
 have m1 : (4 * g + 1) % 4 = 1 := by omega
 have m2 : (4 * g + 2) % 4 = 2 := by omega
 have m3 : (4 * g + 3) % 4 = 3 := by omega
 unfold rankM
 cases hf : fwdM m g
 ·simp [m0, m1, m2, m3, d0, d1, d2, d3, hf]
 ·simp [m0, m1, m2, m3, d0, d1, d2, d3, hf]
theorem slot_rank {m : MacV} {s : Int} : slotG m (s / 4) ((rankM m s % 4).toNat) = s ∧ rankM m s / 4 = s / 4 := by
 have hm : s % 4 = 0 ∨ s % 4 = 1 ∨ s % 4 = 2 ∨ s % 4 = 3 := by omega
 unfold rankM
 cases hf : fwdM m (s / 4)
 ·rcases hm with h | h | h | h
  ·rw [if_pos h, show (4 * (s / 4)) % 4 = 0 by omega]
   exact ⟨by show 4 * (s / 4) = s; omega, by omega⟩
  ·rw [if_neg (by omega), if_neg (by omega), if_neg (by simp [h]), show (4 * (s / 4) + 2) % 4 = 2 by omega]
   refine ⟨?_, by omega⟩
   show (if fwdM m (s / 4) then 4 * (s / 4) + 3 else 4 * (s / 4) + 1) = s
   rw [hf]; simp; omega
  ·rw [if_neg (by omega), if_pos h, show (4 * (s / 4) + 3) % 4 = 3 by omega]
   exact ⟨by show 4 * (s / 4) + 2 = s; omega, by omega⟩
  ·rw [if_neg (by omega), if_neg (by omega), if_pos (by simp [h]), show (4 * (s / 4) + 1) % 4 = 1 by omega]
   refine ⟨?_, by omega⟩
   show (if fwdM m (s / 4) then 4 * (s / 4) + 1 else 4 * (s / 4) + 3) = s
   rw [hf]; simp; omega
 ·rcases hm with h | h | h | h
  ·rw [if_pos h, show (4 * (s / 4)) % 4 = 0 by omega]
   exact ⟨by show 4 * (s / 4) = s; omega, by omega⟩
  ·rw [if_neg (by omega), if_neg (by omega), if_pos (by simp [h]), show (4 * (s / 4) + 1) % 4 = 1 by omega]
   refine ⟨?_, by omega⟩
   show (if fwdM m (s / 4) then 4 * (s / 4) + 1 else 4 * (s / 4) + 3) = s
   rw [hf]; simp; omega
  ·rw [if_neg (by omega), if_pos h, show (4 * (s / 4) + 3) % 4 = 3 by omega]
   exact ⟨by show 4 * (s / 4) + 2 = s; omega, by omega⟩
  ·rw [if_neg (by omega), if_neg (by omega), if_neg (by simp [h]), show (4 * (s / 4) + 2) % 4 = 2 by omega]
   refine ⟨?_, by omega⟩
   show (if fwdM m (s / 4) then 4 * (s / 4) + 3 else 4 * (s / 4) + 1) = s
   rw [hf]; simp; omega
/-- the slot with a rank. -/
def ofRank (m : MacV) (r : Int) : Int := slotG m (r / 4) (r % 4).toNat
theorem ofRank_iff {m : MacV} {s r : Int} : rankM m s = r ↔ s = ofRank m r := by
 constructor
 ·rintro rfl
  unfold ofRank
  obtain ⟨h1, h2⟩ := slot_rank (m := m) (s := s)
  rw [h2, h1]
 ·rintro rfl
  unfold ofRank
  obtain ⟨k0, k1, k2, k3⟩ := rank_slot m (r / 4)
  have hm : r % 4 = 0 ∨ r % 4 = 1 ∨ r % 4 = 2 ∨ r % 4 = 3 := by omega
  rcases hm with h | h | h | h
  ·rw [h]; show rankM m (slotG m (r / 4) 0) = r; rw [k0]; omega
  ·rw [h]; show rankM m (slotG m (r / 4) 1) = r; rw [k1]; omega
  ·rw [h]; show rankM m (slotG m (r / 4) 2) = r; rw [k2]; omega
  ·rw [h]; show rankM m (slotG m (r / 4) 3) = r; rw [k3]; omega
/-- the carriers in the order of their ranks. -/
def ordR (m : MacV) (l : List Int) (k : Nat) : List Int := (List.range k).filterMap fun (r : Nat) => idxO l (ofRank m r)
theorem ordR_gears (m : MacV) (l : List Int) : ∀ G : Nat, ordR m l (4 * G) = ((List.range G).map fun (g : Nat) => (g : Int)).flatMap (orderG m l)
 | 0 => rfl
 | G + 1 => by
   have ih := ordR_gears m l G
   rw [List.range_succ, List.map_append, List.flatMap_append, ← ih]
   have e : 4 * (G + 1) = 4 * G + 1 + 1 + 1 + 1 := by omega
   have f : ∀ k : Nat, ordR m l (k + 1) = ordR m l k ++ [idxO l (ofRank m (k : Int))].filterMap id := fun k => by
     unfold ordR
     rw [List.range_succ, List.filterMap_append]
     congr 1
   rw [e, f, f, f, f]
   simp only [List.append_assoc, ← List.filterMap_append, List.map_cons, List.map_nil, List.flatMap_cons, List.flatMap_nil, List.append_nil]
   congr 1
   rw [orderG_eq]
   unfold catO opG ofRank
   have a0 : ((4 * G : Nat) : Int) / 4 = G ∧ (((4 * G : Nat) : Int) % 4).toNat = 0 := by omega
   have a1 : ((4 * G + 1 : Nat) : Int) / 4 = G ∧ (((4 * G + 1 : Nat) : Int) % 4).toNat = 1 := by omega
   have a2 : ((4 * G + 1 + 1 : Nat) : Int) / 4 = G ∧ (((4 * G + 1 + 1 : Nat) : Int) % 4).toNat = 2 := by omega
   have a3 : ((4 * G + 1 + 1 + 1 : Nat) : Int) / 4 = G ∧ (((4 * G + 1 + 1 + 1 : Nat) : Int) % 4).toNat = 3 := by omega
   rw [a0.1, a0.2, a1.1, a1.2, a2.1, a2.2, a3.1, a3.2]
   rfl
theorem ordR_order (m : MacV) (l : List Int) (n : Nat) (hn : 4 * m.gears = n) : ordR m l n = orderM m l := by
 have e : n = 4 * m.gears.toNat := by omega
 rw [e, ordR_gears]
 rfl
end Go.Proofs.YtglpfpdomnllkaaGreat

namespace Go.Proofs.YtglpfpdomnllkaaGreat
set_option maxRecDepth 100000
theorem orderM_mem {m : MacV} {l : List Int} (hg : 0 ≤ m.gears) (hl : ∀ x ∈ l, 0 ≤ x ∧ x < 4 * m.gears) (hn : l.Nodup) {x : Int} : x ∈ orderM m l ↔ 0 ≤ x ∧ x < l.length := by
 obtain ⟨n, hnn⟩ : ∃ n : Nat, 4 * m.gears = n := ⟨(4 * m.gears).toNat, by omega⟩
 rw [← ordR_order m l n hnn]
 unfold ordR
 rw [List.mem_filterMap]
 constructor
 ·rintro ⟨r, _, h⟩
  obtain ⟨h0, h1, _⟩ := idxO_some h
  exact ⟨h0, h1⟩
 ·rintro ⟨h0, h1⟩
  obtain ⟨j, rfl⟩ : ∃ j : Nat, x = j := ⟨x.toNat, by omega⟩
  have hj : j < l.length := by omega
  have hs := hl _ (List.getElem_mem hj)
  have hrk := (ofRank_iff (m := m) (s := l[j]) (r := rankM m l[j])).1 rfl
  have hr0 : 0 ≤ rankM m l[j] ∧ rankM m l[j] < n := by
   have h4 := (slot_rank (m := m) (s := l[j])).2
   omega
  refine ⟨(rankM m l[j]).toNat, List.mem_range.2 (by omega), ?_⟩
  rw [Int.toNat_of_nonneg hr0.1, ← hrk]
  refine idxO_eq hj (List.getElem?_eq_getElem hj) (fun i hi e => ?_)
  have hil : i < l.length := by omega
  rw [List.getElem?_eq_getElem hil] at e
  have := (List.getElem_inj hn).1 (Option.some.inj e)
  omega
theorem orderM_length {m : MacV} {l : List Int} (hg : 0 ≤ m.gears) (hl : ∀ x ∈ l, 0 ≤ x ∧ x < 4 * m.gears) (hn : l.Nodup) : (orderM m l).length = l.length := by
 have hno := orderM_nodup m l
 refine Nat.le_antisymm ?_ ?_
 ·exact nodup_le l.length _ hno fun x hx => (orderM_mem hg hl hn).1 hx
 ·have h : ((List.range l.length).map fun (i : Nat) => (i : Int)).Nodup := by
   rw [List.nodup_iff_pairwise_ne, List.pairwise_map]
   refine (List.nodup_iff_pairwise_ne.1 List.nodup_range).imp fun {a b} hab e => hab (by omega)
  have := h.length_le_of_subset (l₂ := orderM m l) (fun x hx => by
   obtain ⟨i, hi, rfl⟩ := List.mem_map.1 hx
   exact (orderM_mem hg hl hn).2 ⟨by omega, by have := List.mem_range.1 hi; omega⟩)
  simpa using this
end Go.Proofs.YtglpfpdomnllkaaGreat

namespace Go.Proofs.YtglpfpdomnllkaaGreat
set_option maxRecDepth 100000
/-- the other carrier of a crossing. -/
def otherC (c : CrM) : Int := if c.over = c.going then c.under else c.over
theorem other_mkX (m : MacV) (g : Int) {a b : Int} (h : a ≠ b) : otherC (mkX m g a b) = b := by
 unfold otherC mkX
 cases fwdM m g
 ·simp
 ·simp; intro e; exact absurd e.symm h
/-- the carrier that goes to the right has the other one as its neighbour. -/
def nextC : List Int → List CrM → Prop
 | _, [] => True
 | r, c :: cs => (∃ i : Nat, idxO r c.going = some (i : Int) ∧ i + 1 < r.length ∧ atD 0 r ((i : Int) + 1) = otherC c) ∧ nextC (rowC r c) cs
theorem nextC_app : ∀ (xs ys : List CrM) (r : List Int), nextC r (xs ++ ys) ↔ nextC r xs ∧ nextC (xs.foldl rowC r) ys
 | [], ys, r => by simp [nextC]
 | c :: xs, ys, r => by
   rw [List.cons_append, nextC, nextC, List.foldl_cons, nextC_app xs ys (rowC r c), and_assoc]
theorem cross_next {m : MacV} {g : Int} {A C : List Int} {x y : Option Int} (hn : (A ++ [x, y].filterMap id ++ C).Nodup) :
  nextC (A ++ [x, y].filterMap id ++ C) (bothX (mkX m g) x y).toList := by
 match x, y with
 | none, none => trivial
 | none, some b => trivial
 | some a, none => trivial
 | some a, some b =>
  have e : (A ++ [some a, some b].filterMap id ++ C) = A ++ a :: b :: C := by simp
  rw [e] at hn ⊢
  have h1 := List.nodup_append.1 hn
  have ha : a ∉ A := fun hm => h1.2.2 a hm a (by simp) rfl
  have hab : a ≠ b := by
   have := (List.nodup_cons.1 h1.2.1).1
   intro e; subst e; exact this (by simp)
  refine ⟨⟨A.length, ?_, ?_, ?_⟩, trivial⟩
  ·rw [mkX_going]; exact idxO_mid ha
  ·simp
  ·rw [other_mkX m g hab]
   unfold atD
   have : ((A.length : Int) + 1).toNat = A.length + 1 := by omega
   rw [this, List.getD_eq_getElem?_getD, List.getElem?_append_right (by omega)]
   simp
theorem crossG_next (m : MacV) (l : List Int) (g : Int) {A C : List Int} (hn : (A ++ orderG m l g ++ C).Nodup) : nextC (A ++ orderG m l g ++ C) (crossG m l g) := by
 rw [crossG_eq, orderG_eq] at *
 rw [crossA_eq, crossA_eq, crossA_eq]
 generalize opG m l g 0 = o0 at *
 generalize opG m l g 1 = o1 at *
 generalize opG m l g 2 = o2 at *
 generalize opG m l g 3 = o3 at *
 have e1 : A ++ catO [o0, o1, o2, o3] ++ C = (A ++ catO [o0]) ++ [o1, o2].filterMap id ++ (catO [o3] ++ C) := by
  rw [show [o0, o1, o2, o3] = [o0] ++ ([o1, o2] ++ [o3]) from rfl, catO_app, catO_app]; simp only [catO, List.append_assoc]
 have e2 : (A ++ catO [o0]) ++ [o2, o1].filterMap id ++ (catO [o3] ++ C) = A ++ [o0, o2].filterMap id ++ (catO [o1, o3] ++ C) := by
  rw [show [o0, o2] = [o0] ++ [o2] from rfl, show [o2, o1] = [o2] ++ [o1] from rfl, show [o1, o3] = [o1] ++ [o3] from rfl, catO_app, ]
  simp only [catO, List.filterMap_append, List.append_assoc]
 have e3 : A ++ [o2, o0].filterMap id ++ (catO [o1, o3] ++ C) = (A ++ catO [o2, o0]) ++ [o1, o3].filterMap id ++ C := by
  simp only [catO, List.append_assoc]
 rw [e1] at hn ⊢
 have g1 := cross_next (m := m) (g := g) hn
 obtain ⟨u1, h1, n1⟩ := cross_swap hn (mkX_going m g) []
 have r1 := congrArg Prod.fst h1
 rw [fold_fst] at r1
 simp only [e2] at r1 n1
 have g2 := cross_next (m := m) (g := g) n1
 obtain ⟨u2, h2, n2⟩ := cross_swap n1 (mkX_going m g) []
 have r2 := congrArg Prod.fst h2
 rw [fold_fst] at r2
 simp only [e3] at r2 n2
 have g3 := cross_next (m := m) (g := g) n2
 rw [nextC_app, nextC_app, r1, r2]
 exact ⟨g1, g2, g3⟩
theorem crossL_next (m : MacV) (l : List Int) : ∀ (gs : List Int) (A : List Int), (A ++ gs.flatMap (orderG m l)).Nodup → nextC (A ++ gs.flatMap (orderG m l)) (gs.flatMap (crossG m l))
 | [], A, hn => trivial
 | g :: gs, A, hn => by
   simp only [List.flatMap_cons] at hn ⊢
   rw [← List.append_assoc] at hn ⊢
   rw [nextC_app]
   refine ⟨crossG_next m l g hn, ?_⟩
   obtain ⟨u1, h1, n1⟩ := crossG_row m l g hn []
   have r1 := congrArg Prod.fst h1
   rw [fold_fst] at r1
   rw [r1]
   exact crossL_next m l gs (A ++ afterG m l g) n1
theorem crossM_next (m : MacV) (l : List Int) : nextC (orderM m l) (crossM m l) := by
 have := crossL_next m l (gearsL m) [] (by simpa [orderM] using orderM_nodup m l)
 simpa [crossM, orderM] using this
theorem nextC_at {cs : List CrM} {r : List Int} (h : nextC r cs) {k : Nat} (hk : k < cs.length) : ∃ i : Nat, idxO ((cs.take k).foldl rowC r) (cs[k].going) = some (i : Int) ∧ i + 1 < ((cs.take k).foldl rowC r).length ∧ atD 0 ((cs.take k).foldl rowC r) ((i : Int) + 1) = otherC cs[k] := by
 have e : cs = cs.take k ++ cs[k] :: cs.drop (k + 1) := by
  conv => lhs; rw [← List.take_append_drop k cs]
  rw [List.drop_eq_getElem_cons hk]
 rw [e, nextC_app] at h
 exact h.2.1
theorem crossG_few (m : MacV) (l : List Int) (g : Int) : (crossG m l g).length ≤ (orderG m l g).length := by
 rw [crossG_eq, orderG_eq, crossA_eq, crossA_eq, crossA_eq]
 generalize opG m l g 0 = o0
 generalize opG m l g 1 = o1
 generalize opG m l g 2 = o2
 generalize opG m l g 3 = o3
 cases o0 <;> cases o1 <;> cases o2 <;> cases o3 <;> simp [bothX, catO]
theorem crossM_few (m : MacV) (l : List Int) : (crossM m l).length ≤ (orderM m l).length := by
 unfold crossM orderM
 generalize gearsL m = gs
 induction gs with
 | nil => simp
 | cons g gs ih =>
  rw [List.flatMap_cons, List.flatMap_cons, List.length_append, List.length_append]
  have := crossG_few m l g
  omega
theorem wvM_few {m : MacV} {l : List Int} (h : LoadOk m l) : ∀ k : Nat, (wvM m l k).2.length ≤ l.length * k
 | 0 => by simp [wvM]
 | k + 1 => by
   have ih := wvM_few h k
   have hlo := h.ok.lo
   have a := crossM_few m (atL m l k)
   rw [orderM_length (by omega) (atL_rng h.rng k) (atL_nodup h.rng h.nodup k), atL_len] at a
   rw [wvM, weaveS_len, Nat.mul_succ]
   omega
/-- what a word of few carriers comes to. -/
theorem weaveE_ok {m : MacV} {l : List Int} (hz : loadE m l = 0) (hr : m.ring = false) (hl : l.length ≤ 12) {n : Int} (h0 : 0 ≤ n) (h1 : n ≤ 1000) (hm : meetsM m l n = false) : weaveE m l n = 0 := by
 unfold weaveE
 rw [if_neg (by simp [hz]), hr, if_neg (by decide), if_neg (by omega), if_neg (by omega), hm]
 rfl
theorem wrdE_ok {m : MacV} {l : List Int} (hz : loadE m l = 0) (hr : m.ring = false) (hl : l.length ≤ 6) {n : Int} (h0 : 0 ≤ n) (h1 : n ≤ 24) (hm : meetsM m l n = false) : wrdE m l n = 0 ∧ (wrdL m l n).length ≤ 144 := by
 have hw := wvM_few (loadE_zero hz) n.toNat
 have : l.length * n.toNat ≤ 6 * 24 := Nat.mul_le_mul hl (by omega)
 have hq : (wrdL m l n).length ≤ 144 := by unfold wrdL; omega
 refine ⟨?_, hq⟩
 unfold wrdE
 rw [weaveE_ok hz hr (by omega) h0 (by omega) hm, if_neg (by decide), if_neg (by omega)]
/-- no meeting later on. -/
theorem meets_later {m : MacV} {l : List Int} (h : LoadOk m l) {a b : Nat} {n : Int} (hm : meetsM m l n = false) (hab : ((a + b : Nat) : Int) ≤ n) : meetsM m (atL m l a) b = false := by
 cases hq : meetsM m (atL m l a) b with
 | false => rfl
 | true =>
  exfalso
  unfold meetsM at hq
  cases hf : firstM m (atL m l a) with
  | none => rw [hf] at hq; cases hq
  | some v =>
   rw [hf] at hq
   simp only [decide_eq_true_eq] at hq
   obtain ⟨p, hp, e⟩ := first_is hf
   have hs := meetM_spec m p.1 p.2
   rw [e] at hs
   obtain ⟨n1, pl⟩ := v
   have hno := no_meets (l := l) hm (k := n1 + a) (by dsimp only at hq; omega)
   have ne : p.1 ≠ p.2 := by
    obtain ⟨i, j, hji, hi, rfl⟩ := (pairsTo_mem (Nat.le_refl _)).1 hp
    exact fun e2 => nodup_ne (atL_nodup h.rng h.nodup a) hji hi e2.symm
   obtain ⟨q, hqm, hpq⟩ := pairsTo_map.1 (show p ∈ pairsTo (l.map fun s => itM m s a) (l.map fun s => itM m s a).length from hp)
   obtain ⟨i, j, hji, hi, hqe⟩ := (pairsTo_mem (Nat.le_refl _)).1 hqm
   have m1 : q.1 ∈ l := by rw [hqe]; exact at_memI hi
   have m2 : q.2 ∈ l := by rw [hqe]; exact at_memI (by omega)
   have e1 : p.1 = itM m q.1 a := by rw [hpq]
   have e2 : p.2 = itM m q.2 a := by rw [hpq]
   have hh := hno (itM m q.1 (n1 + a)) (List.mem_map.2 ⟨_, m1, rfl⟩) (itM m q.2 (n1 + a)) (List.mem_map.2 ⟨_, m2, rfl⟩) (fun e3 => by
    refine ne ?_
    rw [e1, e2]
    have := itM_inj (h.rng _ m1).1 (h.rng _ m1).2 (h.rng _ m2).1 (h.rng _ m2).2 (n1 + a) e3
    rw [this])
   have s1 := hs.1
   rw [e1, e2, itM_add, itM_add, hh] at s1
   cases s1
theorem cross_ok {m : MacV} {l : List Int} (hz : loadE m l = 0) (hm : meetsM m l 0 = false) : crossE m l = 0 := by
 unfold crossE; rw [if_neg (by simp [hz]), hm]; rfl
theorem order_ok {m : MacV} {l : List Int} (hz : loadE m l = 0) (hr : m.ring = false) (hm : meetsM m l 0 = false) : orderE m l = 0 := by
 unfold orderE; rw [if_neg (by simp [hz]), hr, hm]; rfl

theorem fold_pre : ∀ (cs : List CrM) (r a o : List Int), cs.foldl weaveC (r, a ++ o) = ((cs.foldl weaveC (r, o)).1, a ++ (cs.foldl weaveC (r, o)).2)
 | [], r, a, o => rfl
 | c :: cs, r, a, o => by
   rw [List.foldl_cons, List.foldl_cons]
   have e : weaveC (r, a ++ o) c = ((weaveC (r, o) c).1, a ++ (weaveC (r, o) c).2) := by unfold weaveC; simp
   rw [e]
   exact fold_pre cs _ a _
theorem wv_two {m : MacV} {l : List Int} (hr : m.ring = false) (h : LoadOk m l) {a : Nat} {n : Int} (hm : meetsM m l n = false) (ha : (a : Int) ≤ n) : ∀ b : Nat, wvM m l (a + b) = ((wvM m (atL m l a) b).1, (wvM m l a).2 ++ (wvM m (atL m l a) b).2)
 | 0 => by
   show wvM m l a = (orderM m (atL m l a), (wvM m l a).2 ++ [])
   rw [List.append_nil, ← wvM_row hr h.rng hm a ha]
 | b + 1 => by
   have ih := wv_two hr h hm ha b
   rw [show a + (b + 1) = (a + b) + 1 by omega, wvM, wvM, ih, atL_add, Nat.add_comm b a]
   unfold weaveS
   exact fold_pre _ _ _ _
theorem wrd_two {m : MacV} {l : List Int} (hr : m.ring = false) (h : LoadOk m l) {a b : Nat} (hm : meetsM m l ((a + b : Nat) : Int) = false) : wrdL m l ((a + b : Nat) : Int) = wrdL m l (a : Int) ++ wrdL m (atL m l a) (b : Int) := by
 unfold wrdL
 simp only [Int.toNat_natCast]
 rw [wv_two hr h hm (by omega)]

/-- the state after some crossings of a step. -/
noncomputable def stC (m : MacV) (l : List Int) (k i : Nat) : List Int × List Int := ((crossM m (atL m l k)).take i).foldl weaveC (wvM m l k)
theorem stC_last (m : MacV) (l : List Int) (k : Nat) : stC m l k (crossM m (atL m l k)).length = wvM m l (k + 1) := by
 unfold stC
 rw [List.take_length]; rfl
theorem fold_post : ∀ (cs : List CrM) (st : List Int × List Int), ∃ v, (cs.foldl weaveC st).2 = st.2 ++ v
 | [], st => ⟨[], by simp⟩
 | c :: cs, st => by
   rw [List.foldl_cons]
   obtain ⟨v, hv⟩ := fold_post cs (weaveC st c)
   refine ⟨letterC st.1 c :: v, ?_⟩
   rw [hv]; simp [weaveC]
theorem wvM_post (m : MacV) (l : List Int) : ∀ {j k : Nat}, j ≤ k → ∃ v, (wvM m l k).2 = (wvM m l j).2 ++ v := by
 intro j k hjk
 induction hjk with
 | refl => exact ⟨[], by simp⟩
 | step _ ih =>
  rename_i q _
  obtain ⟨v, hv⟩ := ih
  obtain ⟨u, hu⟩ := fold_post (crossM m (atL m l q)) (wvM m l q)
  exact ⟨v ++ u, by rw [wvM, weaveS, hu, hv, List.append_assoc]⟩
theorem stC_post (m : MacV) (l : List Int) {k i N : Nat} (hk : k < N) : ∃ v, (wvM m l N).2 = (stC m l k i).2 ++ v := by
 obtain ⟨v, hv⟩ := wvM_post m l (j := k + 1) (k := N) hk
 obtain ⟨u, hu⟩ := fold_post ((crossM m (atL m l k)).drop i) (stC m l k i)
 refine ⟨u ++ v, ?_⟩
 have e : ((crossM m (atL m l k)).drop i).foldl weaveC (stC m l k i) = wvM m l (k + 1) := by
  unfold stC
  rw [← List.foldl_append, List.take_append_drop]; rfl
 rw [e] at hu
 rw [hv, hu, List.append_assoc]
/-- one letter of a word. -/
theorem stC_step {m : MacV} {l : List Int} (hr : m.ring = false) (h : LoadOk m l) {n : Int} (hm : meetsM m l n = false) {k i N : Nat} (hkn : (k : Int) ≤ n) (hk : k < N) (hi : i < (crossM m (atL m l k)).length) :
  ∃ p : Nat, p + 1 < (stC m l k i).1.length ∧ stC m l k (i + 1) = (swpL (stC m l k i).1 p, (stC m l k i).2 ++ [atD 0 (wvM m l N).2 (stC m l k i).2.length]) ∧
   (stC m l k i).2.length < (wvM m l N).2.length ∧
   ((atD 0 (wvM m l N).2 (stC m l k i).2.length = (p : Int) + 1 ∧ (atD ⟨0, 0, 0, 0⟩ (crossM m (atL m l k)) i).over = atD 0 (stC m l k i).1 p ∧ (atD ⟨0, 0, 0, 0⟩ (crossM m (atL m l k)) i).under = atD 0 (stC m l k i).1 ((p : Int) + 1)) ∨
    (atD 0 (wvM m l N).2 (stC m l k i).2.length = -(p : Int) - 1 ∧ (atD ⟨0, 0, 0, 0⟩ (crossM m (atL m l k)) i).over = atD 0 (stC m l k i).1 ((p : Int) + 1) ∧ (atD ⟨0, 0, 0, 0⟩ (crossM m (atL m l k)) i).under = atD 0 (stC m l k i).1 p)) := by
 obtain ⟨cs, hcs⟩ : ∃ cs, cs = crossM m (atL m l k) := ⟨_, rfl⟩
 have hnx := crossM_next m (atL m l k)
 rw [← wvM_row hr h.rng hm k hkn] at hnx
 have hok := crossM_ok m (atL m l k)
 rw [← hcs] at hi hnx hok
 obtain ⟨p, hp, hp1, hp2⟩ := nextC_at hnx hi
 have hst : (stC m l k i).1 = (cs.take i).foldl rowC (wvM m l k).1 := by
  unfold stC
  rw [← hcs]
  have : wvM m l k = ((wvM m l k).1, (wvM m l k).2) := rfl
  rw [this, fold_fst]
 rw [← hst] at hp hp1 hp2
 have ec : atD (⟨0, 0, 0, 0⟩ : CrM) cs i = cs[i] := by simp [atD, hi]
 have hstep : stC m l k (i + 1) = weaveC (stC m l k i) cs[i] := by
  unfold stC
  rw [← hcs, foldC_step hi, ec]
 rw [weaveC_at hp] at hstep
 obtain ⟨v, hv⟩ := stC_post m l (k := k) (i := i + 1) (N := N) hk
 rw [hstep] at hv
 dsimp only at hv
 have hat : atD 0 (wvM m l N).2 (stC m l k i).2.length = if cs[i].over = cs[i].going then (p : Int) + 1 else -(p : Int) - 1 := by
  unfold atD
  rw [hv]
  simp only [Int.toNat_natCast, List.getD_eq_getElem?_getD]
  rw [List.append_assoc, List.getElem?_append_right (Nat.le_refl _), Nat.sub_self]
  simp
 have hgo : atD 0 (stC m l k i).1 (p : Int) = cs[i].going := by
  obtain ⟨a, b, c⟩ := idxO_some hp
  unfold atD
  rw [List.getD_eq_getElem?_getD, c]; rfl
 refine ⟨p, hp1, by rw [hstep, hat], by rw [hv]; simp, ?_⟩
 rw [← hcs, ec, hat, hgo, hp2]
 rcases hok cs[i] (List.getElem_mem hi) with ⟨a, b⟩ | ⟨a, b⟩
 ·refine .inl ⟨if_pos a, a, ?_⟩
  unfold otherC; rw [if_pos a]
 ·refine .inr ⟨if_neg b, ?_, a⟩
  unfold otherC; rw [if_neg b]
end Go.Proofs.YtglpfpdomnllkaaGreat

namespace Go.Proofs.YtglpfpdomnllkaaGreat
open Go.RowKit
set_option maxHeartbeats 8000000
set_option maxRecDepth 100000
/-- a machine with a load is valid, with at most some gears and carriers. -/
def Fits (m : MacV) (l : List Int) (g c : Int) : Prop := (m.sw.length ≤ 19 ∧ l.length ≤ 67) ∧ m.gears ≤ g ∧ (l.length : Int) ≤ c ∧ loadE m l = 0
end Go.Proofs.YtglpfpdomnllkaaGreat

namespace Go.Proofs.YtglpfpdomnllkaaGreat
open Go.RowKit
set_option maxHeartbeats 8000000
set_option maxRecDepth 100000
theorem amSame (a a2 : Option Addr) (cap cap2 n : Nat) (l : List Int) (w : World) (h : Ints w a cap l) (h2 : Ints w a2 cap2 l) (hn : l.length = n) (hs : n ≤ 1048576) : Calls Tryz.prog 19 #[.slice a n cap, .slice a2 n cap2] w fun r w' => r = .returned (.bool true) ∧ Below w.heap.size w w' := by
 subst hn
 have := SameInts_any a a2 cap cap2 l l w h h2 hs
 rw [decide_eq_true rfl] at this
 exact this
end Go.Proofs.YtglpfpdomnllkaaGreat

namespace Go.Proofs.YtglpfpdomnllkaaGreat
set_option maxRecDepth 100000
theorem orderM_isP {m : MacV} {l : List Int} (h : LoadOk m l) : IsP (orderM m l) := by
 have hlo := h.ok.lo
 refine ⟨fun x h0 h1 => ?_, fun x y a b c d e => ?_⟩
 ·have hm := (orderM_mem (by omega) h.rng h.nodup).1 (atD_memZ h0 h1)
  rw [orderM_length (by omega) h.rng h.nodup]
  exact hm
 ·obtain ⟨i, rfl⟩ : ∃ i : Nat, x = i := ⟨x.toNat, by omega⟩
  obtain ⟨j, rfl⟩ : ∃ j : Nat, y = j := ⟨y.toNat, by omega⟩
  have hn := orderM_nodup m l
  rcases Nat.lt_trichotomy i j with hij | hij | hij
  ·exact absurd e (by first | exact nodup_ne hn hij (by omega) | exact (nodup_ne hn hij (by omega)).symm)
  ·rw [hij]
  ·exact absurd e (by first | exact nodup_ne hn hij (by omega) | exact (nodup_ne hn hij (by omega)).symm)
/-- what a law of two times needs. -/
structure Wv (m : MacV) (l : List Int) (A B N : Nat) : Prop where
 ordE : ∀ k : Nat, k ≤ N → orderE m (atL m l k) = 0
 crE : ∀ k : Nat, k ≤ N → crossE m (atL m l k) = 0
 row : ∀ k : Nat, k ≤ N → orderM m (atL m l k) = (wvM m l k).1
 st1 : ∀ k : Nat, stepsE m (atL m l k) 1 = 0
 map1 : ∀ k : Nat, (atL m l k).map (fun s => itM m s (1 : Int).toNat) = atL m l (k + 1)
 chk : ∀ k : Nat, (if 4 * m.gears < ((atL m l k).length : Int) then (5 : Int) else loadGo m [] (atL m l k)) = 0
 wN : wrdE m l N = 0
 wS : (wrdL m l N).length ≤ 144
 vN : weaveE m l N = 0
 wA : wrdE m l A = 0
 wB : wrdE m (atL m l A) B = 0
 sA : stepsE m l A = 0
 two : wrdL m l N = wrdL m l A ++ wrdL m (atL m l A) B
 ip : IsP (orderM m l)
 olen : (orderM m l).length = l.length
theorem wv_ok {m : MacV} {l : List Int} (hf : Fits m l 6 6) (hr : m.ring = false) {A B N : Nat} (hA : A ≤ 12) (hB : B ≤ 12) (hN : N = A + B) (hm : meetsM m l N = false) : Wv m l A B N := by
 have he := hf.2.2.2
 have hl6 := hf.2.2.1
 have hlk := loadE_zero he
 have hlo := hlk.ok.lo
 have hm0 : ∀ a b : Nat, a + b ≤ N → meetsM m (atL m l a) (b : Int) = false := fun a b h => meets_later hlk hm (by omega)
 have lz := fun k => atL_load hlk k
 have mA : meetsM m l A = false := by have := hm0 0 A (by omega); rw [atL_zero] at this; exact this
 have w1 := wrdE_ok he hr (by omega) (Int.natCast_nonneg N) (by omega) hm
 refine ⟨fun k hk => order_ok (lz k) hr (hm0 k 0 (by omega)), fun k hk => cross_ok (lz k) (hm0 k 0 (by omega)), fun k hk => (wvM_row hr hlk.rng hm k (by omega)).symm, fun k => ?_, fun k => ?_, fun k => ?_, w1.1, w1.2, weaveE_ok he hr (by omega) (Int.natCast_nonneg N) (by omega) hm, (wrdE_ok he hr (by omega) (Int.natCast_nonneg A) (by omega) mA).1, (wrdE_ok (lz A) hr (by rw [atL_len]; omega) (Int.natCast_nonneg B) (by omega) (hm0 A B (by omega))).1, ?_, ?_, orderM_isP hlk, orderM_length (by omega) hlk.rng hlk.nodup⟩
 ·unfold stepsE; rw [if_neg (by simp [lz k]), if_neg (by decide)]
 ·have := atL_add m l 1 k
  rw [Nat.add_comm] at this; exact this
 ·have h1 := lz k
  unfold loadE at h1
  rw [if_neg (by simp [hlk.mac])] at h1
  exact h1
 ·unfold stepsE; rw [if_neg (by simp [he]), if_neg (by omega)]
 ·rw [hN] at hm ⊢
  exact wrd_two hr hlk hm
end Go.Proofs.YtglpfpdomnllkaaGreat

namespace Go.Proofs.YtglpfpdomnllkaaGreat
open Go.RowKit
set_option maxHeartbeats 4000000
set_option maxRecDepth 100000
theorem rMeets_any (m : MacV) (ad : Option Addr) (cap : Nat) (al : Option Addr) (cl : Nat) (l : List Int) (n : Int) (w : World) (hR : Ints w ad cap m.sw) (hL : Ints w al cl l) (hg0 : 1 ≤ m.gears) (hg : m.gears ≤ 16) (hl : ∀ x ∈ l, 0 ≤ x ∧ x < 4 * m.gears) (hn : l.length ≤ 64) (hnd : l.Nodup) :
  Calls Tryz.prog 11 #[mV m ad cap, .slice al l.length cl, .int .i64 n] w fun r w' => r = .returned (.bool (meetsM m l n)) ∧ Below w.heap.size w w' := by
 have CM := fun w h h2 => rMeet_any m ad cap al cl l w h h2 hg0 hg hl hn hnd
 have hS := (SL.nil w).box (.cells (mC m ad cap) 27)
 unfold meetsM
 cases hf : firstM m l with
 | none =>
  rw [hf] at CM
  dsimp only [meetV] at CM
  have HM := hid CM
  clear CM hf
  go_enter Tryz.func11, Tryz.ntmps11
  go_wp2_with fail
  refine (HM.out _ (hR.below hS.b) (hL.below hS.b)).mono ?_
  rintro e w1 ⟨rfl, b1⟩
  go_wp2_with fail
  go_ret
  exact ⟨rfl, bnext hS.b b1⟩
 | some v =>
  obtain ⟨V1, V2⟩ := v
  rw [hf] at CM
  dsimp only [meetV] at CM
  have HM := hid CM
  have h0 : decide (0 ≤ (V1 : Int)) = true := by simp
  clear CM hf
  by_cases hle : (V1 : Int) ≤ n
  ·have hd : decide ((V1 : Int) ≤ n) = true := decide_eq_true hle
   go_enter Tryz.func11, Tryz.ntmps11
   go_wp2_with fail
   refine (HM.out _ (hR.below hS.b) (hL.below hS.b)).mono ?_
   rintro e w1 ⟨rfl, b1⟩
   go_wp2_with fail
   go_ret
   exact ⟨by first | rfl | (simp [hle]), bnext hS.b b1⟩
  ·have hd : decide ((V1 : Int) ≤ n) = false := decide_eq_false hle
   go_enter Tryz.func11, Tryz.ntmps11
   go_wp2_with fail
   refine (HM.out _ (hR.below hS.b) (hL.below hS.b)).mono ?_
   rintro e w1 ⟨rfl, b1⟩
   go_wp2_with fail
   go_ret
   exact ⟨by first | rfl | (simp [hle]), bnext hS.b b1⟩
end Go.Proofs.YtglpfpdomnllkaaGreat

namespace Go.Proofs.YtglpfpdomnllkaaGreat
set_option maxRecDepth 100000
/-- a number added at one place of a matrix, and at both places of a pair. -/
def addE (M : List (List Int)) (a b s : Int) : List (List Int) := M.set a.toNat ((M.getD a.toNat []).set b.toNat (atD 0 (M.getD a.toNat []) b + s))
def addM (M : List (List Int)) (a b s : Int) : List (List Int) := addE (addE M a b s) b a s
theorem addE_len (M : List (List Int)) (a b s : Int) : (addE M a b s).length = M.length := by unfold addE; simp
theorem addM_symm {M : List (List Int)} {a b : Int} (s : Int) (h : a.toNat ≠ b.toNat) : addM M a b s = addM M b a s := by
 unfold addM addE
 have e1 : ∀ (X : List Int), (M.set a.toNat X).getD b.toNat [] = M.getD b.toNat [] := fun X => by rw [List.getD_eq_getElem?_getD, List.getElem?_set_ne h, List.getD_eq_getElem?_getD]
 have e2 : ∀ (X : List Int), (M.set b.toNat X).getD a.toNat [] = M.getD a.toNat [] := fun X => by rw [List.getD_eq_getElem?_getD, List.getElem?_set_ne (Ne.symm h), List.getD_eq_getElem?_getD]
 rw [e1, e2, List.set_comm _ _ h]
def sgnI (x : Int) : Int := if x < 0 then -1 else 1
/-- the linking numbers: the strands by their first positions, from 0 on. -/
def linkGo : List (List Int) → List Int → List Int → List (List Int)
 | M, _, [] => M
 | M, st, x :: r => linkGo (addM M (atD 0 st (absI x - 1)) (atD 0 st (absI x)) (sgnI x)) (swapL st (absI x)) r
def zeroM (n : Nat) : List (List Int) := List.replicate n (List.replicate n 0)
def linkL (n : Nat) (w : List Int) : List (List Int) := linkGo (zeroM n) (idL n) w
/-- the sums of the signs of crossings, told from 1 on. -/
def sumGo : List (List Int) → List (Int × Int) → List Int → List (List Int)
 | M, c :: cs, x :: r => sumGo (addM M (c.1 - 1) (c.2 - 1) (sgnI x)) cs r
 | M, _, _ => M
theorem rowGo_cr : ∀ (ws st : List Int) (cr : List (Int × Int)), (rowGo st cr ws).2 = cr ++ (rowGo st [] ws).2
 | [], _, cr => by simp [rowGo]
 | x :: r, st, cr => by rw [rowGo, rowGo, rowGo_cr r, rowGo_cr r _ ([] ++ [crossOf st x])]; simp
theorem sum_link : ∀ (ws st row : List Int) (M : List (List Int)), st.length = row.length → IsP row → (∀ x ∈ ws, 1 ≤ absI x ∧ absI x < row.length) → (∀ j : Int, 0 ≤ j → j < row.length → atD 0 st j = atD 0 row j + 1) →
  sumGo M (rowGo st [] ws).2 ws = linkGo M row ws
 | [], _, _, _, _, _, _, _ => rfl
 | x :: r, st, row, M, hl, hp, hf, h => by
   obtain ⟨a, b⟩ := hf x (by simp)
   rw [rowGo, rowGo_cr r]
   show sumGo M (crossOf st x :: _) (x :: r) = _
   rw [sumGo, linkGo]
   have h1 := h (absI x - 1) (by omega) (by omega)
   have h2 := h (absI x) (by omega) (by omega)
   have r1 := hp.rng (absI x - 1) (by omega) (by omega)
   have r2 := hp.rng (absI x) (by omega) b
   have hne : (atD 0 row (absI x)).toNat ≠ (atD 0 row (absI x - 1)).toNat := fun e => by
     have := hp.inj (absI x) (absI x - 1) (by omega) b (by omega) (by omega) (by omega)
     omega
   have e : addM M ((crossOf st x).1 - 1) ((crossOf st x).2 - 1) (sgnI x) = addM M (atD 0 row (absI x - 1)) (atD 0 row (absI x)) (sgnI x) := by
     unfold crossOf
     split
     · dsimp only
       rw [h1, h2, show atD 0 row (absI x) + 1 - 1 = atD 0 row (absI x) by omega, show atD 0 row (absI x - 1) + 1 - 1 = atD 0 row (absI x - 1) by omega]
       exact addM_symm _ hne
     · dsimp only
       rw [h1, h2, show atD 0 row (absI x) + 1 - 1 = atD 0 row (absI x) by omega, show atD 0 row (absI x - 1) + 1 - 1 = atD 0 row (absI x - 1) by omega]
   rw [e]
   refine sum_link r _ _ _ (by rw [swapL_len, swapL_len, hl]) (swapL_isP a b hp) (fun y hy => by rw [swapL_len]; exact hf y (by simp [hy])) ?_
   intro j j0 j1
   rw [swapL_len] at j1
   obtain ⟨c, d⟩ := sw_rng (f := absI x - 1) (t := absI x) (n := row.length) ⟨by omega, by omega⟩ ⟨by omega, b⟩ ⟨j0, j1⟩
   rw [swapL_at a b j0, swapL_at a (by omega) j0, h _ c d]
theorem start_at {n : Nat} {j : Int} (h0 : 0 ≤ j) (h1 : j < n) : atD 0 (startL n) j = atD 0 (idL n) j + 1 := by
 rw [idL_at h0 h1]
 unfold startL atD
 rw [List.getD_eq_getElem?_getD, List.getElem?_map, List.getElem?_range (by omega)]
 simp; omega
/-- the sums of the signs of all crossings are the linking numbers. -/
theorem signs_link {n : Nat} {w : List Int} (hf : ∀ x ∈ w, 1 ≤ absI x ∧ absI x < (n : Int)) : sumGo (zeroM n) (rowL n w).2 w = linkL n w := by
 unfold rowL linkL
 exact sum_link w (startL n) (idL n) _ (by rw [startL_len, idL_len]) (idL_isP n) (fun x hx => by rw [idL_len]; exact hf x hx) fun j j0 j1 => start_at j0 (by rw [idL_len] at j1; exact j1)
/-- strands that cross: by their first positions from 1 on. -/
theorem cross_rng : ∀ (ws st : List Int) (n : Nat), st.length = n → (∀ j : Int, 0 ≤ j → j < n → 1 ≤ atD 0 st j ∧ atD 0 st j ≤ n) → (∀ i j : Int, 0 ≤ i → i < n → 0 ≤ j → j < n → atD 0 st i = atD 0 st j → i = j) → (∀ x ∈ ws, 1 ≤ absI x ∧ absI x < (n : Int)) →
  ∀ p ∈ (rowGo st [] ws).2, (1 ≤ p.1 ∧ p.1 ≤ n) ∧ (1 ≤ p.2 ∧ p.2 ≤ n) ∧ p.1 ≠ p.2
 | [], _, _, _, _, _, _, p, hp => by simp [rowGo] at hp
 | x :: r, st, n, hl, hr, hi, hf, p, hp => by
   obtain ⟨a, b⟩ := hf x (by simp)
   rw [rowGo, rowGo_cr] at hp
   have r1 := hr (absI x - 1) (by omega) (by omega)
   have r2 := hr (absI x) (by omega) b
   have hne : atD 0 st (absI x) ≠ atD 0 st (absI x - 1) := fun e => by
     have := hi _ _ (by omega) b (by omega) (by omega) e
     omega
   rcases List.mem_append.1 hp with hp | hp
   · rw [List.nil_append, List.mem_singleton] at hp
     subst hp
     unfold crossOf
     split
     · exact ⟨r2, r1, hne⟩
     · exact ⟨r1, r2, hne.symm⟩
   · have hsw : ∀ j : Int, 0 ≤ j → j < n → (0 ≤ sw (absI x - 1) (absI x) j ∧ sw (absI x - 1) (absI x) j < n) := fun j j0 j1 => sw_rng ⟨by omega, by omega⟩ ⟨by omega, b⟩ ⟨j0, j1⟩
     refine cross_rng r (swapL st (absI x)) n (by rw [swapL_len, hl]) (fun j j0 j1 => ?_) (fun i j i0 i1 j0 j1 e => ?_) (fun y hy => hf y (by simp [hy])) p hp
     · rw [swapL_at a (by omega) j0]; exact hr _ (hsw j j0 j1).1 (hsw j j0 j1).2
     · rw [swapL_at a (by omega) i0, swapL_at a (by omega) j0] at e
       have := congrArg (sw (absI x - 1) (absI x)) (hi _ _ (hsw i i0 i1).1 (hsw i i0 i1).2 (hsw j j0 j1).1 (hsw j j0 j1).2 e)
       rwa [sw_sw, sw_sw] at this
theorem rowL_rng {n : Nat} {w : List Int} (hf : ∀ x ∈ w, 1 ≤ absI x ∧ absI x < (n : Int)) : ∀ p ∈ (rowL n w).2, (1 ≤ p.1 ∧ p.1 ≤ n) ∧ (1 ≤ p.2 ∧ p.2 ≤ n) ∧ p.1 ≠ p.2 := by
 unfold rowL
 refine cross_rng w (startL n) n (startL_len n) (fun j j0 j1 => ?_) (fun i j i0 i1 j0 j1 e => ?_) hf
 ·rw [start_at j0 j1, idL_at j0 j1]; omega
 ·rw [start_at i0 i1, start_at j0 j1, idL_at i0 i1, idL_at j0 j1] at e; omega
def permB (n : Nat) (w : List Int) : List Int := invL (row5 (idL n) w)
end Go.Proofs.YtglpfpdomnllkaaGreat

namespace Go.Proofs.YtglpfpdomnllkaaGreat
/-- what the moves of letters between simple braids need. -/
structure Gar (S : Type) where
 N : Nat
 V : S → Prop
 B : S → Nat → Bool
 E : S → Nat → Bool
 fr : S → Nat → S
 bk : S → Nat → S
 ht : S → Nat
 K : Nat
 vfr : ∀ {b i}, V b → i < N → V (fr b i)
 vbk : ∀ {b i}, V b → i < N → V (bk b i)
 hK : ∀ {b}, V b → ht b < K
 lbk : ∀ {b i}, V b → i < N → E b i = false → ht (bk b i) < ht b
 farF : ∀ {b i j}, V b → i < N → j < N → i + 1 < j → B (fr b i) j = B b j ∧ B (fr b j) i = B b i ∧ fr (fr b i) j = fr (fr b j) i
 farB : ∀ {b i j}, V b → i < N → j < N → i + 1 < j → E (bk b i) j = E b j ∧ E (bk b j) i = E b i ∧ bk (bk b i) j = bk (bk b j) i
 nearF : ∀ {b i}, V b → i + 1 < N → B b i = true → B b (i + 1) = true → (B (fr b i) (i + 1) = true ∧ B (fr (fr b i) (i + 1)) i = true) ∧ (B (fr b (i + 1)) i = true ∧ B (fr (fr b (i + 1)) i) (i + 1) = true) ∧ fr (fr (fr b i) (i + 1)) i = fr (fr (fr b (i + 1)) i) (i + 1)
 nearB : ∀ {b i}, V b → i + 1 < N → E b i = false → E b (i + 1) = false → (E (bk b i) (i + 1) = false ∧ E (bk (bk b i) (i + 1)) i = false) ∧ (E (bk b (i + 1)) i = false ∧ E (bk (bk b (i + 1)) i) (i + 1) = false) ∧ bk (bk (bk b i) (i + 1)) i = bk (bk (bk b (i + 1)) i) (i + 1)
 mid : ∀ {b i j}, V b → i < N → j < N → B b i = true → E b j = false → E (fr b i) j = false ∧ B (bk b j) i = true ∧ fr (bk b j) i = bk (fr b i) j
section
variable {S : Type} (G : Gar S)
inductive Pull : List S → List S → Prop
 | here (a b : S) (X : List S) (i : Nat) : i < G.N → G.B b i = true → G.E a i = false → Pull (a :: b :: X) (G.bk a i :: G.fr b i :: X)
 | there (a : S) {X Y : List S} : Pull X Y → Pull (a :: X) (a :: Y)
inductive Star : List S → List S → Prop
 | refl (X : List S) : Star X X
 | step {X Y Z : List S} : Pull G X Y → Star Y Z → Star X Z
def Vs (X : List S) : Prop := ∀ x ∈ X, G.V x
def NoPull (X : List S) : Prop := ∀ Y, ¬ Pull G X Y
variable {G}
theorem Star.trans {X Y Z : List S} (h : Star G X Y) (k : Star G Y Z) : Star G X Z := by
 induction h with
 | refl => exact k
 | step p _ ih => exact .step p (ih k)
theorem Star.there (a : S) {X Y : List S} (h : Star G X Y) : Star G (a :: X) (a :: Y) := by
 induction h with
 | refl => exact .refl _
 | step p _ ih => exact .step (.there a p) ih
theorem Pull.post {X Y : List S} (h : Pull G X Y) (Z : List S) : Pull G (X ++ Z) (Y ++ Z) := by
 induction h with
 | here a b X i h1 h2 h3 => exact .here a b (X ++ Z) i h1 h2 h3
 | there a _ ih => exact .there a ih
theorem Star.post {X Y : List S} (h : Star G X Y) (Z : List S) : Star G (X ++ Z) (Y ++ Z) := by
 induction h with
 | refl => exact .refl _
 | step p _ ih => exact .step (p.post Z) ih
theorem Pull.vs {X Y : List S} (h : Pull G X Y) (hv : Vs G X) : Vs G Y := by
 induction h with
 | here a b X i h1 h2 h3 =>
  intro x hx
  rcases List.mem_cons.1 hx with rfl | hx
  ·exact G.vbk (hv a (by simp)) h1
  ·rcases List.mem_cons.1 hx with rfl | hx
   ·exact G.vfr (hv b (by simp)) h1
   ·exact hv x (by simp [hx])
 | there a p ih =>
  intro x hx
  rcases List.mem_cons.1 hx with rfl | hx
  ·exact hv x (by simp)
  ·exact ih (fun y hy => hv y (by simp [hy])) x hx
theorem Star.vs {X Y : List S} (h : Star G X Y) (hv : Vs G X) : Vs G Y := by
 induction h with
 | refl => exact hv
 | step p _ ih => exact ih (p.vs hv)
theorem Pull.length {X Y : List S} (h : Pull G X Y) : Y.length = X.length := by
 induction h with
 | here => rfl
 | there a _ ih => simp [ih]
theorem Star.length {X Y : List S} (h : Star G X Y) : Y.length = X.length := by
 induction h with
 | refl => rfl
 | step p _ ih => rw [ih, p.length]
end
end Go.Proofs.YtglpfpdomnllkaaGreat

namespace Go.Proofs.YtglpfpdomnllkaaGreat
/-- .. with no crossing, the half twist, complements, and the braid from the right. -/
structure GarT (S : Type) extends Gar S where
 e : S
 D : S
 fl : S → S
 co : S → S
 ve : V e
 vD : V D
 vfl : ∀ {a}, V a → V (fl a)
 vco : ∀ {a}, V a → V (co a)
 Be : ∀ {i}, i < N → B e i = false
 ED : ∀ {i}, i < N → E D i = true
 isE : ∀ {b}, V b → (∀ i, i < N → E b i = false) → b = e
 isD : ∀ {b}, V b → (∀ i, i < N → E b i = true) → b = D
 Ebk : ∀ {b i}, V b → i < N → E (bk b i) i = !E b i
 bkbk : ∀ {b i}, V b → i < N → bk (bk b i) i = b
 letB : ∀ {i}, i < N → B (fr e i) i = true
 letF : ∀ {i}, i < N → fr (fr e i) i = e
 letK : ∀ {i}, i < N → bk e i = fr e i
 flB : ∀ {a i}, V a → i < N → B (fl a) (N - 1 - i) = B a i
 flE : ∀ {a i}, V a → i < N → E (fl a) (N - 1 - i) = E a i
 flfr : ∀ {a i}, V a → i < N → fl (fr a i) = fr (fl a) (N - 1 - i)
 flbk : ∀ {a i}, V a → i < N → fl (bk a i) = bk (fl a) (N - 1 - i)
 flfl : ∀ {a}, V a → fl (fl a) = a
 fle : fl e = e
 flD : fl D = D
 coB : ∀ {a i}, V a → i < N → B (co a) i = !E a i
 cofr : ∀ {a i}, V a → i < N → fr (co a) i = co (bk a i)
 coD : co D = e
 coe : co e = D
 coco : ∀ {a}, V a → co (co a) = fl a
 frD : ∀ {i}, i < N → fr D (N - 1 - i) = bk D i
section
variable {S : Type} {T : GarT S}
theorem Pull.map {X Y : List S} (h : Pull T.toGar X Y) (hv : Vs T.toGar X) : Pull T.toGar (X.map T.fl) (Y.map T.fl) := by
 induction h with
 | here a b X i h1 h2 h3 =>
  have va := hv a (by simp)
  have vb := hv b (by simp)
  rw [List.map_cons, List.map_cons, List.map_cons, List.map_cons, T.flbk va h1, T.flfr vb h1]
  exact .here _ _ _ (T.N - 1 - i) (by omega) (by rw [T.flB vb h1]; exact h2) (by rw [T.flE va h1]; exact h3)
 | there a p ih => exact .there _ (ih fun x hx => hv x (by simp [hx]))
theorem Star.map {X Y : List S} (h : Star T.toGar X Y) (hv : Vs T.toGar X) : Star T.toGar (X.map T.fl) (Y.map T.fl) := by
 induction h with
 | refl => exact .refl _
 | step p _ ih => exact .step (p.map hv) (ih (p.vs hv))
end
end Go.Proofs.YtglpfpdomnllkaaGreat

namespace Go.Proofs.YtglpfpdomnllkaaGreat
set_option maxRecDepth 100000
theorem swp_atD {p : List Int} {i : Nat} (hi : i + 1 < p.length) {x : Int} (h0 : 0 ≤ x) : atD 0 (swpL p i) x = atD 0 p (sw i ((i : Int) + 1) x) := by
 have e : swpL p i = (p.set ((i : Int)).toNat (atD 0 p ((i : Int) + 1))).set ((i : Int) + 1).toNat (atD 0 p (i : Int)) := by
  have e1 : (i : Int).toNat = i := by omega
  have e2 : ((i : Int) + 1).toNat = i + 1 := by omega
  unfold swpL atD
  rw [e1, e2]
 rw [e, atD_set (by omega) (by rw [List.length_set]; omega) h0, atD_set (by omega) (by omega) h0]
 unfold sw
 by_cases a : x = (i : Int) + 1
 ·rw [if_pos a, if_neg (by omega), if_pos a]
 ·rw [if_neg a]
  by_cases b : x = (i : Int)
  ·rw [if_pos b, if_pos b]
  ·rw [if_neg b, if_neg b, if_neg a]
theorem swp_length (p : List Int) (i : Nat) : (swpL p i).length = p.length := by unfold swpL; simp
theorem swp_isP {p : List Int} (h : IsP p) {i : Nat} (hi : i + 1 < p.length) : IsP (swpL p i) := by
 have rg : ∀ x : Int, 0 ≤ x → x < p.length → 0 ≤ sw i ((i : Int) + 1) x ∧ sw i ((i : Int) + 1) x < p.length := fun x a b => sw_rng ⟨by omega, by omega⟩ ⟨by omega, by omega⟩ ⟨a, b⟩
 refine ⟨fun x x0 x1 => ?_, fun x y x0 x1 y0 y1 e => ?_⟩
 ·rw [swp_length] at x1 ⊢
  rw [swp_atD hi x0]
  exact h.rng _ (rg x x0 x1).1 (rg x x0 x1).2
 ·rw [swp_length] at x1 y1
  rw [swp_atD hi x0, swp_atD hi y0] at e
  have := congrArg (sw i ((i : Int) + 1)) (h.inj _ _ (rg x x0 x1).1 (rg x x0 x1).2 (rg y y0 y1).1 (rg y y0 y1).2 e)
  rwa [sw_sw, sw_sw] at this
theorem inv_uniq {p q : List Int} (hp : IsP p) (hq : q.length = p.length) (h : ∀ x : Int, 0 ≤ x → x < p.length → 0 ≤ atD 0 q x ∧ atD 0 q x < p.length ∧ atD 0 p (atD 0 q x) = x) : invL p = q := by
 refine ext_atD (by rw [invL_len, hq]) fun j j0 j1 => ?_
 rw [invL_len] at j1
 obtain ⟨a, b, c⟩ := h j j0 j1
 have := invL_left hp a b
 rwa [c] at this
theorem inv_inv {p : List Int} (hp : IsP p) : invL (invL p) = p :=
 inv_uniq (invL_isP hp) (by rw [invL_len]) fun x x0 x1 => by
  rw [invL_len] at x1 ⊢
  have := hp.rng x x0 x1
  exact ⟨this.1, this.2, invL_left hp x0 x1⟩
/-- a permutation of n positions. -/
def VP (n : Nat) (p : List Int) : Prop := IsP p ∧ p.length = n
def bgP (p : List Int) (i : Nat) : Bool := decide (atD 0 p ((i : Int) + 1) < atD 0 p (i : Int))
def edP (p : List Int) (i : Nat) : Bool := bgP (invL p) i
def bkP (p : List Int) (i : Nat) : List Int := invL (swpL (invL p) i)
def revP (n : Nat) : List Int := (List.range n).map fun (i : Nat) => (n : Int) - 1 - i
def flP (p : List Int) : List Int := (List.range p.length).map fun (i : Nat) => (p.length : Int) - 1 - atD 0 p ((p.length : Int) - 1 - i)
def coP (p : List Int) : List Int := (List.range p.length).map fun (i : Nat) => (p.length : Int) - 1 - atD 0 (invL p) (i : Int)
theorem map_atD {n : Nat} (f : Int → Int) {x : Int} (h0 : 0 ≤ x) (h1 : x < n) : atD 0 ((List.range n).map fun (i : Nat) => f (i : Int)) x = f x := by
 have e : (x.toNat : Int) = x := by omega
 unfold atD
 rw [List.getD_eq_getElem?_getD, List.getElem?_map, List.getElem?_range (by omega)]
 simp [e]
section
variable {n : Nat} {p : List Int} {i : Nat}
theorem VP.rg (h : VP n p) {x : Int} (h0 : 0 ≤ x) (h1 : x < n) : 0 ≤ atD 0 p x ∧ atD 0 p x < n := by have := h.1.rng x h0 (by rw [h.2]; exact h1); rwa [h.2] at this
theorem VP.pi (h : VP n p) {x y : Int} (h0 : 0 ≤ x) (h1 : x < n) (k0 : 0 ≤ y) (k1 : y < n) (e : atD 0 p x = atD 0 p y) : x = y := h.1.inj x y h0 (by rw [h.2]; exact h1) k0 (by rw [h.2]; exact k1) e
theorem VP.inv (h : VP n p) : VP n (invL p) := ⟨invL_isP h.1, by rw [invL_len, h.2]⟩
theorem VP.qp (h : VP n p) {x : Int} (h0 : 0 ≤ x) (h1 : x < n) : atD 0 (invL p) (atD 0 p x) = x := invL_left h.1 h0 (by rw [h.2]; exact h1)
theorem VP.pq (h : VP n p) {x : Int} (h0 : 0 ≤ x) (h1 : x < n) : atD 0 p (atD 0 (invL p) x) = x := invL_right h.1 h0 (by rw [h.2]; exact h1)
theorem VP.ext (h : VP n p) {q : List Int} (k : q.length = n) (e : ∀ x : Int, 0 ≤ x → x < n → atD 0 p x = atD 0 q x) : p = q := ext_atD (by rw [h.2, k]) fun j j0 j1 => e j j0 (by rw [← h.2]; exact j1)
theorem VP.fr (h : VP n p) (hi : i + 1 < n) : VP n (swpL p i) := ⟨swp_isP h.1 (by rw [h.2]; exact hi), by rw [swp_length, h.2]⟩
theorem VP.bk (h : VP n p) (hi : i + 1 < n) : VP n (bkP p i) := (h.inv.fr hi).inv
theorem VP.fr_at (h : VP n p) (hi : i + 1 < n) {x : Int} (h0 : 0 ≤ x) : atD 0 (swpL p i) x = atD 0 p (sw i ((i : Int) + 1) x) := swp_atD (by rw [h.2]; exact hi) h0
theorem VP.sw_in (hi : i + 1 < n) {x : Int} (h0 : 0 ≤ x) (h1 : x < n) : 0 ≤ sw i ((i : Int) + 1) x ∧ sw i ((i : Int) + 1) x < n := sw_rng ⟨by omega, by omega⟩ ⟨by omega, by omega⟩ ⟨h0, h1⟩
theorem VP.fr_inv (h : VP n p) (hi : i + 1 < n) {y : Int} (h0 : 0 ≤ y) (h1 : y < n) : atD 0 (invL (swpL p i)) y = sw i ((i : Int) + 1) (atD 0 (invL p) y) := by
 have hq := h.inv.rg h0 h1
 have hs := VP.sw_in hi hq.1 hq.2
 have e := (h.fr hi).qp hs.1 hs.2
 rwa [h.fr_at hi hs.1, sw_sw, h.pq h0 h1] at e
theorem VP.bk_inv (h : VP n p) (hi : i + 1 < n) : invL (bkP p i) = swpL (invL p) i := inv_inv (h.inv.fr hi).1
theorem VP.bk_at (h : VP n p) (hi : i + 1 < n) {x : Int} (h0 : 0 ≤ x) (h1 : x < n) : atD 0 (bkP p i) x = sw i ((i : Int) + 1) (atD 0 p x) := by
 unfold bkP
 rw [h.inv.fr_inv hi h0 h1, inv_inv h.1]
theorem VP.bg_fr (h : VP n p) (hi : i + 1 < n) {j : Nat} : bgP (swpL p i) j = decide (atD 0 p (sw i ((i : Int) + 1) ((j : Int) + 1)) < atD 0 p (sw i ((i : Int) + 1) j)) := by
 unfold bgP
 rw [h.fr_at hi (by omega), h.fr_at hi (by omega)]
theorem VP.bg_bk (h : VP n p) (hi : i + 1 < n) {j : Nat} (hj : j + 1 < n) : bgP (bkP p i) j = decide (sw i ((i : Int) + 1) (atD 0 p ((j : Int) + 1)) < sw i ((i : Int) + 1) (atD 0 p j)) := by
 unfold bgP
 rw [h.bk_at hi (by omega) (by omega), h.bk_at hi (by omega) (by omega)]
theorem VP.ed_fr (h : VP n p) (hi : i + 1 < n) {j : Nat} (hj : j + 1 < n) : edP (swpL p i) j = decide (sw i ((i : Int) + 1) (atD 0 (invL p) ((j : Int) + 1)) < sw i ((i : Int) + 1) (atD 0 (invL p) j)) := by
 unfold edP bgP
 rw [h.fr_inv hi (by omega) (by omega), h.fr_inv hi (by omega) (by omega)]
theorem VP.ed_bk (h : VP n p) (hi : i + 1 < n) {j : Nat} : edP (bkP p i) j = decide (atD 0 (invL p) (sw i ((i : Int) + 1) ((j : Int) + 1)) < atD 0 (invL p) (sw i ((i : Int) + 1) j)) := by
 unfold edP
 rw [h.bk_inv hi, h.inv.bg_fr hi]
end
theorem sw_out {i x : Int} (h : x ≠ i) (k : x ≠ i + 1) : sw i (i + 1) x = x := by unfold sw; rw [if_neg h, if_neg k]
theorem sw_l (i : Int) : sw i (i + 1) i = i + 1 := by unfold sw; rw [if_pos rfl]
theorem sw_r (i : Int) : sw i (i + 1) (i + 1) = i := by unfold sw; rw [if_neg (by omega), if_pos rfl]
theorem sw_far {i j : Int} (h : i + 1 < j) (x : Int) : sw i (i + 1) (sw j (j + 1) x) = sw j (j + 1) (sw i (i + 1) x) := by unfold sw; repeat' split <;> omega
theorem sw_near (i x : Int) : sw i (i + 1) (sw (i + 1) (i + 1 + 1) (sw i (i + 1) x)) = sw (i + 1) (i + 1 + 1) (sw i (i + 1) (sw (i + 1) (i + 1 + 1) x)) := by unfold sw; repeat' split <;> omega
theorem sw_lt {i a b : Int} (h : a < b) (k : ¬ (a = i ∧ b = i + 1)) : sw i (i + 1) a < sw i (i + 1) b := by unfold sw; repeat' split <;> omega
theorem sw_rev {n i j x : Int} (h : j = n - 2 - i) : n - 1 - sw j (j + 1) x = sw i (i + 1) (n - 1 - x) := by unfold sw; repeat' split <;> omega
def sumK : Nat → List Int → Int
 | _, [] => 0
 | k, a :: l => k * a + sumK (k + 1) l
theorem sumK_swp : ∀ (A C : List Int) (k : Nat) (x y : Int), sumK k (A ++ y :: x :: C) = sumK k (A ++ x :: y :: C) + (x - y)
 | [], C, k, x, y => by
   simp only [List.nil_append, sumK, Int.natCast_add, Int.natCast_one, Int.add_mul, Int.one_mul]
   omega
 | a :: A, C, k, x, y => by
   simp only [List.cons_append, sumK]
   rw [sumK_swp A C (k + 1) x y]
   omega
theorem sumK_lt {n : Nat} : ∀ (l : List Int) (k : Nat), (∀ x ∈ l, 0 ≤ x ∧ x < n) → k + l.length ≤ n → 0 ≤ sumK k l ∧ sumK k l ≤ ((l.length * (n * n) : Nat) : Int)
 | [], k, _, _ => by simp [sumK]
 | a :: l, k, h, hk => by
   have h1 := sumK_lt l (k + 1) (fun x hx => h x (by simp [hx])) (by simp only [List.length_cons] at hk; omega)
   obtain ⟨a0, a1⟩ := h a (by simp)
   have h2 : 0 ≤ (k : Int) * a := Int.mul_nonneg (by omega) a0
   have h3 : (k : Int) * a ≤ ((n * n : Nat) : Int) := by
     rw [Int.natCast_mul]
     exact Int.mul_le_mul (by simp only [List.length_cons] at hk; omega) (by omega) a0 (by omega)
   simp only [sumK, List.length_cons, Nat.add_mul, Nat.one_mul, Int.natCast_add]
   omega
theorem swp_split {q : List Int} {i : Nat} (hi : i + 1 < q.length) : ∃ A C x y, A.length = i ∧ q = A ++ x :: y :: C ∧ swpL q i = A ++ y :: x :: C ∧ atD 0 q (i : Int) = x ∧ atD 0 q ((i : Int) + 1) = y := by
 refine ⟨q.take i, q.drop (i + 2), q[i], q[i + 1], by simp; omega, ?_, ?_, ?_, ?_⟩
 ·rw [List.getElem_cons_drop, List.getElem_cons_drop, List.take_append_drop]
 ·have e : q = q.take i ++ q[i] :: q[i + 1] :: q.drop (i + 2) := by rw [List.getElem_cons_drop, List.getElem_cons_drop, List.take_append_drop]
  have h := swpL_at (q.take i) (q.drop (i + 2)) q[i] q[i + 1]
  rw [← e, show (q.take i).length = i by simp; omega] at h
  exact h
 ·unfold atD
  rw [List.getD_eq_getElem?_getD, show (i : Int).toNat = i by omega, List.getElem?_eq_getElem (by omega)]; rfl
 ·unfold atD
  rw [List.getD_eq_getElem?_getD, show ((i : Int) + 1).toNat = i + 1 by omega, List.getElem?_eq_getElem (by omega)]; rfl
def htP (p : List Int) : Nat := (sumK 0 (invL p)).toNat
theorem VP.mem {n : Nat} {p : List Int} (h : VP n p) : ∀ x ∈ p, 0 ≤ x ∧ x < n := by
 intro x hx
 obtain ⟨k, hk, rfl⟩ := List.getElem_of_mem hx
 have := h.rg (x := (k : Int)) (by omega) (by have := h.2; omega)
 unfold atD at this
 rwa [List.getD_eq_getElem?_getD, show (k : Int).toNat = k by omega, List.getElem?_eq_getElem hk] at this
theorem ht_lt {n : Nat} {p : List Int} (h : VP n p) : htP p < n * (n * n) + 1 := by
 have := sumK_lt (n := n) (invL p) 0 h.inv.mem (by rw [h.inv.2]; omega)
 rw [h.inv.2] at this
 unfold htP
 omega
theorem ht_bk {n : Nat} {p : List Int} {i : Nat} (h : VP n p) (hi : i + 1 < n) (he : edP p i = false) : htP (bkP p i) < htP p := by
 have hn := h.inv
 obtain ⟨A, C, x, y, hA, e1, e2, hx, hy⟩ := swp_split (q := invL p) (i := i) (by rw [hn.2]; exact hi)
 have hs := sumK_swp A C 0 x y
 rw [← e1, ← e2] at hs
 unfold edP bgP at he
 have he := of_decide_eq_false he
 rw [hx, hy] at he
 have hne : x ≠ y := fun e => by
  have := hn.pi (x := (i : Int)) (y := (i : Int) + 1) (by omega) (by omega) (by omega) (by omega) (by rw [hx, hy, e])
  omega
 have h0 := sumK_lt (n := n) (swpL (invL p) i) 0 (hn.fr hi).mem (by rw [(hn.fr hi).2]; omega)
 have h1 := sumK_lt (n := n) (invL p) 0 hn.mem (by rw [hn.2]; omega)
 unfold htP
 rw [h.bk_inv hi]
 omega
end Go.Proofs.YtglpfpdomnllkaaGreat
