/- Contracts and plain facts that the claim uses (QrH K2a K2b K2c K2). Conditions: as each one states. -/
import Derived.Test.YtbchpkmcpplidaaGreatDoorXb11
import Derived.Test.YtbchpkmcpplidaaGreatDoorXb16
set_option linter.all false

namespace Go.Proofs.YtbchpkmcpplidaaGreatDoor
open Go.RowKit
set_option maxHeartbeats 8000000
set_option maxRecDepth 100000
theorem pairsAt_succ {l : List Int} {i j : Nat} (h : j < l.length) : pairsAt l i (j + 1) = pairsAt l i j ++ [(atD 0 l i, atD 0 l j)] := by
 unfold pairsAt
 rw [take_snoc h, List.map_append, List.append_assoc]
 rfl
theorem min_at (f : Int × Int → Int) {l : List Int} {i j : Nat} (h : j < l.length) : minF f (pairsAt l i (j + 1)) = if 0 ≤ f (atD 0 l i, atD 0 l j) ∧ (minF f (pairsAt l i j) < 0 ∨ f (atD 0 l i, atD 0 l j) < minF f (pairsAt l i j)) then f (atD 0 l i, atD 0 l j) else minF f (pairsAt l i j) := by
 rw [pairsAt_succ h, minF_snoc]
theorem ne_atI {l : List Int} (h : l.Nodup) {i j : Nat} (hi : i < l.length) (hj : j < l.length) (hij : j < i) : atD 0 l j ≠ atD 0 l i := by
 have ei : atD 0 l i = l[i] := by simp [atD, hi]
 have ej : atD 0 l j = l[j] := by simp [atD, hj]
 rw [ei, ej]
 intro e
 have := (List.getElem_inj h).1 e
 omega
theorem rNow_any (m : MacV) (ad : Option Addr) (cap : Nat) (al : Option Addr) (cl : Nat) (l : List Int) (w : World) (hL : Ints w al cl l) (hg0 : 1 ≤ m.gears) (hg : m.gears ≤ 16) (hl : ∀ x ∈ l, 0 ≤ x ∧ x < 4 * m.gears) (hn : l.length ≤ 64) (hnd : l.Nodup) :
  Calls Tryz.prog 39 #[mV m ad cap, .slice al l.length cl] w fun r w' => r = .returned (.int .i64 (nowM m l)) ∧ Below w.heap.size w w' := by
 have hcap := hL.le
 have hmx := hL.max
 have hS := (SL.nil w).box (.cells (mC m ad cap) 25)
 have HIN : Hid (∀ k : Nat, k < l.length → 0 ≤ atD 0 l k ∧ atD 0 l k < 4 * m.gears) := hid fun k hk => atD_in hl hk
 have HNE : Hid (∀ i j : Nat, i < l.length → j < i → atD 0 l j ≠ atD 0 l i) := hid fun i j hi hj => ne_atI hnd hi (by omega) hj
 have HOA : Hid (∀ (x : Int) w, 0 ≤ x → x < 4 * m.gears → _) := hid fun x w h0 h1 => rOther_any m ad cap x w hg0 hg h0 h1
 have HPA : Hid (∀ (x : Int) w, 0 ≤ x → x < 4 * m.gears → _) := hid fun x w h0 h1 => rPlace_any m ad cap x w hg h0 h1
 have HMA : Hid (∀ i j : Nat, j < l.length → _) := hid fun i j h => min_at (hereN m) (l := l) (i := i) (j := j) h
 have HE : Hid (nowM m l = minF (hereN m) (pairsTo l l.length)) := hid rfl
 rw [HE.out]
 clear hl hnd
 obtain ⟨F, hF⟩ : ∃ F : List (Int × Int) → Int, ∀ ps, F ps = minF (hereN m) ps := ⟨_, fun _ => rfl⟩
 have HF := hid hF
 rw [← hF]
 clear hF
 have hF0 : F (pairsTo l 0) = -1 := by rw [HF.out]; rfl
 have HF0 := hid hF0
 clear hF0
 go_enter Tryz.func39, Tryz.ntmps39
 go_wp2_with fail
 go_loopw [5, 6, 7] (fun bo i _ wr => ∃ k : Nat, k ≤ l.length ∧ bo = .int .i64 (F (pairsTo l k)) ∧ i = .int .i64 k ∧ SL w.heap.size w wr [pBlk w.heap.size (.cells (mC m ad cap) 25)]) (fun _ i _ _ => l.length - (intOf i).toNat)
 case atStart => exact ⟨0, by omega, by rw [HF0.out], rfl, hS⟩
 case round =>
  clear hS
  obtain ⟨k, hk, rfl, rfl, hSr⟩ := hrel
  by_cases hlt : k < l.length
  ·go_wp2_with fail
   go_loopw [5, 7] (fun bo i wq => ∃ j : Nat, j ≤ k ∧ bo = .int .i64 (F (pairsAt l k j)) ∧ i = .int .i64 j ∧ SL w.heap.size w wq [pBlk w.heap.size (.cells (mC m ad cap) 25)]) (fun _ i _ => k - (intOf i).toNat)
   case atStart => exact ⟨0, by omega, by rw [pairsAt_zero], rfl, hSr⟩
   case round =>
    clear hSr
    obtain ⟨j, hj, rfl, rfl, hSq⟩ := hrel
    by_cases hjk : j < k
    ·have hst := HMA.out k j (by omega)
     rw [← HF.out, ← HF.out] at hst
     have hix := HIN.out k hlt
     have hiy := HIN.out j (by omega)
     have hoh := other_hit hix.1 hix.2 hiy.1 hiy.2 (HNE.out k j hlt hjk)
     have CO := fun w => HOA.out (atD 0 l k) w hix.1 hix.2
     have CP := fun w => HPA.out (atD 0 l k) w hix.1 hix.2
     have hhe : hereN m (atD 0 l k, atD 0 l j) = if hitM m (atD 0 l k) (atD 0 l j) then placeM m (atD 0 l k) else -1 := rfl
     rw [hhe] at hst
     have hpl := hit_place (m := m) (x := atD 0 l k) (y := atD 0 l j)
     obtain ⟨X, hX⟩ : ∃ X, X = atD 0 l k := ⟨_, rfl⟩
     obtain ⟨Y, hY⟩ : ∃ Y, Y = atD 0 l j := ⟨_, rfl⟩
     obtain ⟨B, hB⟩ : ∃ B, B = F (pairsAt l k j) := ⟨_, rfl⟩
     rw [← hB] at hst ⊢
     rw [← hX] at hst hoh CO CP hpl
     rw [← hY] at hst hoh hpl
     obtain ⟨O, hO⟩ : ∃ O, O = otherM m X := ⟨_, rfl⟩
     obtain ⟨Pl, hPl⟩ : ∃ P, P = placeM m X := ⟨_, rfl⟩
     rw [← hO] at CO hoh
     rw [← hPl] at CP hst hpl
     have HX := hid hX; have HY := hid hY; have HO := hid CO; have HP := hid CP
     have hLq := hL.below hSq.b
     have q2 := (hSq.blk 0 rfl).1
     have hkl : (k : Int) < l.length := by omega
     have hjl : (j : Int) < l.length := by omega
     clear hix hiy CO CP hhe hX hY hB hO hPl
     cases hh : hitM m X Y
     ·rw [hh] at hoh hst
      simp only [Bool.false_eq_true, if_false, show ¬ (0 : Int) ≤ -1 by decide, false_and] at hst
      have HST := hid hst
      clear hst hpl hh
      go_wp2_with fail
      refine wp_region_q (by kernel_rfl) (by kernel_rfl) ?_
      repeat (first | ((with_reducible refine wpQ_skip (by with_unfolding_all rfl) ?_); (try simp only [Act.put, pA, pB, pC])) | ((with_reducible refine wpB_loadS (n := 4) (us := mC m ad cap) A_rmach (by kernel_rfl) (by with_unfolding_all rfl) (by with_unfolding_all rfl) (by assumption) (by with_unfolding_all rfl) (by with_unfolding_all rfl) ?_); (try simp only [Act.put, pA, pB, pC])) | (((with_reducible refine wpB_idxW 0 E_ints F_int cInt1 (by with_unfolding_all rfl) (rfl) (by with_unfolding_all rfl) (hLq) (by first | omega | (simp; done)) (by first | omega | (simp; done)) (fun _ => by with_unfolding_all rfl) (by with_unfolding_all rfl) (fun _ => by with_unfolding_all rfl) (fun _ => ?_)); (try simp only [Act.put, pA, pB, pC]); (try simp only [cInt])); first | rw [← HX.out] | rw [← HY.out]) | ((with_reducible refine wpB_call (.int .i64 O) (by with_unfolding_all rfl) (fun w' => ?_) (fun w' hw' => HO.out w') ?_); (focus (go_simp; done)); (try simp only [Act.put, pA, pB, pC])) | ((with_reducible refine wpB_call (.int .i64 Pl) (by with_unfolding_all rfl) (fun w' => ?_) (fun w' hw' => HP.out w') ?_); (focus (go_simp; done)); (try simp only [Act.put, pA, pB, pC])) | (((refine wpQ_oneG ?_ (by with_unfolding_all rfl) (fun w' => ?_) ?_); rotate_left; (go_simp; rfl); (try simp only [Act.put, pA, pB, pC])); first | rw [hoh] | skip) |  ((with_reducible refine wpB_load (by first | exact F_int | exact F_u64s) (by with_unfolding_all rfl) (by with_unfolding_all rfl) (by assumption) (by with_unfolding_all rfl) ?_); (try simp only [Act.put, pA, pB, pC])) | ((refine wpQ_oneG ?_ (by with_unfolding_all rfl) (fun w' => ?_) ?_); rotate_left; (go_simp; rfl); (try simp only [Act.put, pA, pB, pC])))
      refine wpQuiet_nil ?_
      intro w5 hb5
      have hS5 := hSq.mono hb5
      clear q2
      go_wp2_with fail
      exact ⟨⟨j + 1, by omega, by rw [HST.out], by go_num, hS5⟩, by simp [intOf]; omega⟩
     ·rw [hh] at hoh hst
      simp only [if_true, hpl hh, true_and] at hst
      clear hpl hh
      by_cases hB0 : B < 0
      ·rw [if_pos (.inl hB0)] at hst
       have hbd : decide (B < 0) = true := decide_eq_true hB0
       have HST := hid hst
       clear hst hB0
       go_wp2_with fail
       refine wp_region_q (by kernel_rfl) (by kernel_rfl) ?_
       repeat (first | ((with_reducible refine wpQ_skip (by with_unfolding_all rfl) ?_); (try simp only [Act.put, pA, pB, pC])) | ((with_reducible refine wpB_loadS (n := 4) (us := mC m ad cap) A_rmach (by kernel_rfl) (by with_unfolding_all rfl) (by with_unfolding_all rfl) (by assumption) (by with_unfolding_all rfl) (by with_unfolding_all rfl) ?_); (try simp only [Act.put, pA, pB, pC])) | (((with_reducible refine wpB_idxW 0 E_ints F_int cInt1 (by with_unfolding_all rfl) (rfl) (by with_unfolding_all rfl) (hLq) (by first | omega | (simp; done)) (by first | omega | (simp; done)) (fun _ => by with_unfolding_all rfl) (by with_unfolding_all rfl) (fun _ => by with_unfolding_all rfl) (fun _ => ?_)); (try simp only [Act.put, pA, pB, pC]); (try simp only [cInt])); first | rw [← HX.out] | rw [← HY.out]) | ((with_reducible refine wpB_call (.int .i64 O) (by with_unfolding_all rfl) (fun w' => ?_) (fun w' hw' => HO.out w') ?_); (focus (go_simp; done)); (try simp only [Act.put, pA, pB, pC])) | ((with_reducible refine wpB_call (.int .i64 Pl) (by with_unfolding_all rfl) (fun w' => ?_) (fun w' hw' => HP.out w') ?_); (focus (go_simp; done)); (try simp only [Act.put, pA, pB, pC])) | (((refine wpQ_oneG ?_ (by with_unfolding_all rfl) (fun w' => ?_) ?_); rotate_left; (go_simp; rfl); (try simp only [Act.put, pA, pB, pC])); first | rw [hoh] | rw [hbd] | skip) |  ((with_reducible refine wpB_load (by first | exact F_int | exact F_u64s) (by with_unfolding_all rfl) (by with_unfolding_all rfl) (by assumption) (by with_unfolding_all rfl) ?_); (try simp only [Act.put, pA, pB, pC])) | ((refine wpQ_oneG ?_ (by with_unfolding_all rfl) (fun w' => ?_) ?_); rotate_left; (go_simp; rfl); (try simp only [Act.put, pA, pB, pC])))
       refine wpQuiet_nil ?_
       intro w5 hb5
       have hS5 := hSq.mono hb5
       clear q2
       go_wp2_with fail
       have hL5 := hL.below hS5.b
       have q5 := (hS5.blk 0 rfl).1
       refine wp_region_q (by kernel_rfl) (by kernel_rfl) ?_
       repeat (first | ((with_reducible refine wpB_loadS (n := 4) (us := mC m ad cap) A_rmach (by kernel_rfl) (by with_unfolding_all rfl) (by with_unfolding_all rfl) (by assumption) (by with_unfolding_all rfl) (by with_unfolding_all rfl) ?_); (try simp only [Act.put, pA, pB, pC])) | (((with_reducible refine wpB_idxW 0 E_ints F_int cInt1 (by with_unfolding_all rfl) (rfl) (by with_unfolding_all rfl) (hL5) (by first | omega | (simp; done)) (by first | omega | (simp; done)) (fun _ => by with_unfolding_all rfl) (by with_unfolding_all rfl) (fun _ => by with_unfolding_all rfl) (fun _ => ?_)); (try simp only [Act.put, pA, pB, pC]); (try simp only [cInt])); rw [← HX.out]) | ((with_reducible refine wpB_call (.int .i64 Pl) (by with_unfolding_all rfl) (fun w' => ?_) (fun w' hw' => HP.out w') ?_); (focus (go_simp; done)); (try simp only [Act.put, pA, pB, pC])) |  ((with_reducible refine wpB_load (by first | exact F_int | exact F_u64s) (by with_unfolding_all rfl) (by with_unfolding_all rfl) (by assumption) (by with_unfolding_all rfl) ?_); (try simp only [Act.put, pA, pB, pC])) | ((refine wpQ_oneG ?_ (by with_unfolding_all rfl) (fun w' => ?_) ?_); rotate_left; (go_simp; rfl); (try simp only [Act.put, pA, pB, pC])))
       refine wpQuiet_nil ?_
       intro w6 hb6
       have hS6 := hS5.mono hb6
       go_wp2_with fail
       exact ⟨⟨j + 1, by omega, by rw [HST.out], by go_num, hS6⟩, by simp [intOf]; omega⟩
      ·have hbd : decide (B < 0) = false := decide_eq_false hB0
       by_cases hPB : Pl < B
       ·rw [if_pos (.inr hPB)] at hst
        have hpd : decide (Pl < B) = true := decide_eq_true hPB
        have HST := hid hst
        clear hst hB0 hPB
        go_wp2_with fail
        refine wp_region_q (by kernel_rfl) (by kernel_rfl) ?_
        repeat (first | ((with_reducible refine wpQ_skip (by with_unfolding_all rfl) ?_); (try simp only [Act.put, pA, pB, pC])) | ((with_reducible refine wpB_loadS (n := 4) (us := mC m ad cap) A_rmach (by kernel_rfl) (by with_unfolding_all rfl) (by with_unfolding_all rfl) (by assumption) (by with_unfolding_all rfl) (by with_unfolding_all rfl) ?_); (try simp only [Act.put, pA, pB, pC])) | (((with_reducible refine wpB_idxW 0 E_ints F_int cInt1 (by with_unfolding_all rfl) (rfl) (by with_unfolding_all rfl) (hLq) (by first | omega | (simp; done)) (by first | omega | (simp; done)) (fun _ => by with_unfolding_all rfl) (by with_unfolding_all rfl) (fun _ => by with_unfolding_all rfl) (fun _ => ?_)); (try simp only [Act.put, pA, pB, pC]); (try simp only [cInt])); first | rw [← HX.out] | rw [← HY.out]) | ((with_reducible refine wpB_call (.int .i64 O) (by with_unfolding_all rfl) (fun w' => ?_) (fun w' hw' => HO.out w') ?_); (focus (go_simp; done)); (try simp only [Act.put, pA, pB, pC])) | ((with_reducible refine wpB_call (.int .i64 Pl) (by with_unfolding_all rfl) (fun w' => ?_) (fun w' hw' => HP.out w') ?_); (focus (go_simp; done)); (try simp only [Act.put, pA, pB, pC])) | (((refine wpQ_oneG ?_ (by with_unfolding_all rfl) (fun w' => ?_) ?_); rotate_left; (go_simp; rfl); (try simp only [Act.put, pA, pB, pC])); first | rw [hoh] | rw [hbd] | rw [hpd] | skip) |  ((with_reducible refine wpB_load (by first | exact F_int | exact F_u64s) (by with_unfolding_all rfl) (by with_unfolding_all rfl) (by assumption) (by with_unfolding_all rfl) ?_); (try simp only [Act.put, pA, pB, pC])) | ((refine wpQ_oneG ?_ (by with_unfolding_all rfl) (fun w' => ?_) ?_); rotate_left; (go_simp; rfl); (try simp only [Act.put, pA, pB, pC])))
        refine wpQuiet_nil ?_
        intro w5 hb5
        have hS5 := hSq.mono hb5
        clear q2
        go_wp2_with fail
        have hL5 := hL.below hS5.b
        have q5 := (hS5.blk 0 rfl).1
        refine wp_region_q (by kernel_rfl) (by kernel_rfl) ?_
        repeat (first | ((with_reducible refine wpB_loadS (n := 4) (us := mC m ad cap) A_rmach (by kernel_rfl) (by with_unfolding_all rfl) (by with_unfolding_all rfl) (by assumption) (by with_unfolding_all rfl) (by with_unfolding_all rfl) ?_); (try simp only [Act.put, pA, pB, pC])) | (((with_reducible refine wpB_idxW 0 E_ints F_int cInt1 (by with_unfolding_all rfl) (rfl) (by with_unfolding_all rfl) (hL5) (by first | omega | (simp; done)) (by first | omega | (simp; done)) (fun _ => by with_unfolding_all rfl) (by with_unfolding_all rfl) (fun _ => by with_unfolding_all rfl) (fun _ => ?_)); (try simp only [Act.put, pA, pB, pC]); (try simp only [cInt])); rw [← HX.out]) | ((with_reducible refine wpB_call (.int .i64 Pl) (by with_unfolding_all rfl) (fun w' => ?_) (fun w' hw' => HP.out w') ?_); (focus (go_simp; done)); (try simp only [Act.put, pA, pB, pC])) |  ((with_reducible refine wpB_load (by first | exact F_int | exact F_u64s) (by with_unfolding_all rfl) (by with_unfolding_all rfl) (by assumption) (by with_unfolding_all rfl) ?_); (try simp only [Act.put, pA, pB, pC])) | ((refine wpQ_oneG ?_ (by with_unfolding_all rfl) (fun w' => ?_) ?_); rotate_left; (go_simp; rfl); (try simp only [Act.put, pA, pB, pC])))
        refine wpQuiet_nil ?_
        intro w6 hb6
        have hS6 := hS5.mono hb6
        go_wp2_with fail
        exact ⟨⟨j + 1, by omega, by rw [HST.out], by go_num, hS6⟩, by simp [intOf]; omega⟩
       ·rw [if_neg (fun h => by rcases h with h | h; exact hB0 h; exact hPB h)] at hst
        have hpd : decide (Pl < B) = false := decide_eq_false hPB
        have HST := hid hst
        clear hst hB0 hPB
        go_wp2_with fail
        refine wp_region_q (by kernel_rfl) (by kernel_rfl) ?_
        repeat (first | ((with_reducible refine wpQ_skip (by with_unfolding_all rfl) ?_); (try simp only [Act.put, pA, pB, pC])) | ((with_reducible refine wpB_loadS (n := 4) (us := mC m ad cap) A_rmach (by kernel_rfl) (by with_unfolding_all rfl) (by with_unfolding_all rfl) (by assumption) (by with_unfolding_all rfl) (by with_unfolding_all rfl) ?_); (try simp only [Act.put, pA, pB, pC])) | (((with_reducible refine wpB_idxW 0 E_ints F_int cInt1 (by with_unfolding_all rfl) (rfl) (by with_unfolding_all rfl) (hLq) (by first | omega | (simp; done)) (by first | omega | (simp; done)) (fun _ => by with_unfolding_all rfl) (by with_unfolding_all rfl) (fun _ => by with_unfolding_all rfl) (fun _ => ?_)); (try simp only [Act.put, pA, pB, pC]); (try simp only [cInt])); first | rw [← HX.out] | rw [← HY.out]) | ((with_reducible refine wpB_call (.int .i64 O) (by with_unfolding_all rfl) (fun w' => ?_) (fun w' hw' => HO.out w') ?_); (focus (go_simp; done)); (try simp only [Act.put, pA, pB, pC])) | ((with_reducible refine wpB_call (.int .i64 Pl) (by with_unfolding_all rfl) (fun w' => ?_) (fun w' hw' => HP.out w') ?_); (focus (go_simp; done)); (try simp only [Act.put, pA, pB, pC])) | (((refine wpQ_oneG ?_ (by with_unfolding_all rfl) (fun w' => ?_) ?_); rotate_left; (go_simp; rfl); (try simp only [Act.put, pA, pB, pC])); first | rw [hoh] | rw [hbd] | rw [hpd] | skip) |  ((with_reducible refine wpB_load (by first | exact F_int | exact F_u64s) (by with_unfolding_all rfl) (by with_unfolding_all rfl) (by assumption) (by with_unfolding_all rfl) ?_); (try simp only [Act.put, pA, pB, pC])) | ((refine wpQ_oneG ?_ (by with_unfolding_all rfl) (fun w' => ?_) ?_); rotate_left; (go_simp; rfl); (try simp only [Act.put, pA, pB, pC])))
        refine wpQuiet_nil ?_
        intro w5 hb5
        have hS5 := hSq.mono hb5
        clear q2
        go_wp2_with fail
        exact ⟨⟨j + 1, by omega, by rw [HST.out], by go_num, hS5⟩, by simp [intOf]; omega⟩
    ·have hjk2 : j = k := by omega
     subst hjk2
     go_wp2_with fail
     exact ⟨⟨j + 1, by omega, by rw [pairsAt_last], by go_num, hSq⟩, by simp [intOf]; omega⟩
  ·have hkn : k = l.length := by omega
   subst hkn
   go_wp2_with fail
   go_ret
   exact ⟨rfl, hSr.b⟩
def meetV : Option (Nat × Int) → Value
 | some v => .tuple #[.int .i64 v.1, .int .i64 v.2]
 | none => .tuple #[.int .i64 (-1), .int .i64 0]
theorem rMeet_any (m : MacV) (ad : Option Addr) (cap : Nat) (al : Option Addr) (cl : Nat) (l : List Int) (w : World) (hR : Ints w ad cap m.sw) (hL : Ints w al cl l) (hg0 : 1 ≤ m.gears) (hg : m.gears ≤ 16) (hl : ∀ x ∈ l, 0 ≤ x ∧ x < 4 * m.gears) (hn : l.length ≤ 64) (hnd : l.Nodup) :
  Calls Tryz.prog 30 #[mV m ad cap, .slice al l.length cl] w fun r w' => r = .returned (meetV (firstM m l)) ∧ Below w.heap.size w w' := by
 have hcap := hL.le
 have hmx := hL.max
 have hS := (SL.nil w).box (.cells (mC m ad cap) 25)
 have HNE : Hid (∀ i j : Nat, i < l.length → j < i → atD 0 l j ≠ atD 0 l i) := hid fun i j hi hj => ne_atI hnd hi (by omega) hj
 have HIN : Hid (∀ k : Nat, k < l.length → 0 ≤ atD 0 l k ∧ atD 0 l k < 4 * m.gears) := hid fun k hk => atD_in hl hk
 have HCA : Hid (∀ (i j : Nat) w, Ints w ad cap m.sw → i < l.length → j < i → _) := hid fun i j w h hi hj => rpair_any m ad cap (atD 0 l i) (atD 0 l j) w h hg0 hg (HIN.out i hi).1 (HIN.out i hi).2 (HIN.out j (by omega)).1 (HIN.out j (by omega)).2 (fun e => HNE.out i j hi hj e.symm)
 have HMA : Hid (∀ i j : Nat, j < l.length → _) := hid fun i j h => min_at (pairN m) (l := l) (i := i) (j := j) h
 have HST : Hid (∀ (K : Nat) w, Ints w ad cap m.sw → Ints w al cl l → K ≤ 4096 → _) := hid fun K w h h2 hK => rSteps_any m ad cap al cl l K w h h2 hg0 hg hl hn (by omega)
 have HNW : Hid (∀ (K : Nat) a c w, Ints w a c (l.map fun s => itM m s K) → _) := hid fun K a c w h => rNow_any m ad cap a c (l.map fun s => itM m s K) w h hg0 hg (fun x hx => by
  obtain ⟨y, hy, rfl⟩ := List.mem_map.1 hx
  exact itM_rng (hl y hy).1 (hl y hy).2 K) (by simpa using hn) (by
  rw [List.nodup_iff_pairwise_ne, List.pairwise_map]
  refine (List.nodup_iff_pairwise_ne.1 hnd).imp_of_mem fun {x y} hx hy hxy e => hxy (itM_inj (hl x hx).1 (hl x hx).2 (hl y hy).1 (hl y hy).2 K e))
 have H4096 : Hid (∀ v, firstM m l = some v → v.1 ≤ 4096) := hid fun v hv => by
  obtain ⟨_, s2⟩ := foldF_spec m (pairsTo l l.length) none
  obtain ⟨_, _, k3⟩ := s2 _ hv
  rcases k3 with k3 | ⟨p, hp, e⟩
  ·cases k3
  ·obtain ⟨i, j, hji, hi, rfl⟩ := (pairsTo_mem (Nat.le_refl _)).1 hp
   obtain ⟨L, hL0, hL1, hLa, hLb⟩ := meet_per2 hg (HIN.out i hi).1 (HIN.out i hi).2 (HIN.out j (by omega)).1 (HIN.out j (by omega)).2
   have hs := meetM_spec m (atD 0 l i) (atD 0 l j)
   dsimp only at e
   rw [e] at hs
   obtain ⟨t1, _, t3⟩ := hs
   by_cases h : v.1 ≤ 4096
   ·exact h
   ·have hN := meet_none (m := m) hL0 hLa hLb (fun k hk => t3 k (by omega))
    have := (meetM_spec m (atD 0 l i) (atD 0 l j)).eq hN
    rw [e] at this; cases this
 have HE : Hid (meetN m l = minF (pairN m) (pairsTo l l.length)) := hid rfl
 have HN0 : Hid (firstM m l = none → meetN m l = -1) := hid meet_refN
 have HN1 : Hid (∀ v, firstM m l = some v → meetN m l = v.1 ∧ nowM m (l.map fun s => itM m s v.1) = v.2) := hid fun v hv => meet_refS hv
 generalize firstM m l = ff at HN0 HN1 H4096 ⊢
 obtain ⟨RR, hRR⟩ : ∃ RR : Value, RR = meetV ff := ⟨_, rfl⟩
 have HRR := hid hRR
 rw [← hRR]
 clear hl hnd hRR
 obtain ⟨F, hF⟩ : ∃ F : List (Int × Int) → Int, ∀ ps, F ps = minF (pairN m) ps := ⟨_, fun _ => rfl⟩
 have HF := hid hF
 clear hF
 have hF0 : F (pairsTo l 0) = -1 := by rw [HF.out]; rfl
 have HF0 := hid hF0
 clear hF0
 go_enter Tryz.func30, Tryz.ntmps30
 go_wp2_with fail
 go_loopw [6, 7, 8, 9] (fun bo i _ _ wr => ∃ k : Nat, k ≤ l.length ∧ bo = .int .i64 (F (pairsTo l k)) ∧ i = .int .i64 k ∧ SL w.heap.size w wr [pBlk w.heap.size (.cells (mC m ad cap) 25)]) (fun _ i _ _ _ => l.length - (intOf i).toNat)
 case atStart => exact ⟨0, by omega, by rw [HF0.out], rfl, hS⟩
 case round =>
  clear hS
  obtain ⟨k, hk, rfl, rfl, hSr⟩ := hrel
  by_cases hlt : k < l.length
  ·go_wp2_with fail
   go_loopw [6, 8, 9] (fun bo i _ wq => ∃ j : Nat, j ≤ k ∧ bo = .int .i64 (F (pairsAt l k j)) ∧ i = .int .i64 j ∧ SL w.heap.size w wq [pBlk w.heap.size (.cells (mC m ad cap) 25)]) (fun _ i _ _ => k - (intOf i).toNat)
   case atStart => exact ⟨0, by omega, by rw [pairsAt_zero], rfl, hSr⟩
   case round =>
    clear hSr
    obtain ⟨j, hj, rfl, rfl, hSq⟩ := hrel
    by_cases hjk : j < k
    ·have hst := HMA.out k j (by omega)
     rw [← HF.out, ← HF.out] at hst
     have CC := fun w h => HCA.out k j w h hlt hjk
     obtain ⟨Q, hQ⟩ : ∃ Q, Q = pairN m (atD 0 l k, atD 0 l j) := ⟨_, rfl⟩
     rw [← hQ] at hst CC
     obtain ⟨X, hX⟩ : ∃ X, X = atD 0 l k := ⟨_, rfl⟩
     obtain ⟨Y, hY⟩ : ∃ Y, Y = atD 0 l j := ⟨_, rfl⟩
     obtain ⟨B, hB⟩ : ∃ B, B = F (pairsAt l k j) := ⟨_, rfl⟩
     rw [← hB] at hst ⊢
     rw [← hX] at CC
     rw [← hY] at CC
     have HX := hid hX; have HY := hid hY; have HC := hid CC
     have hLq := hL.below hSq.b
     have hRq := hR.below hSq.b
     have q2 := (hSq.blk 0 rfl).1
     have hkl : (k : Int) < l.length := by omega
     have hjl : (j : Int) < l.length := by omega
     clear CC hX hY hB hQ
     by_cases hQ0 : 0 ≤ Q
     ·have hqd : decide (0 ≤ Q) = true := decide_eq_true hQ0
      by_cases hB0 : B < 0
      ·rw [if_pos ⟨hQ0, .inl hB0⟩] at hst
       have hbd : decide (B < 0) = true := decide_eq_true hB0
       have HST := hid hst
       clear hst hB0 hQ0
       go_wp2_with fail
       refine wp_region_q (by kernel_rfl) (by kernel_rfl) ?_
       repeat (first | ((with_reducible refine wpB_loadS (n := 4) (us := mC m ad cap) A_rmach (by kernel_rfl) (by with_unfolding_all rfl) (by with_unfolding_all rfl) (by assumption) (by with_unfolding_all rfl) (by with_unfolding_all rfl) ?_); (try simp only [Act.put, pA, pB, pC])) | (((with_reducible refine wpB_idxW 0 E_ints F_int cInt1 (by with_unfolding_all rfl) (rfl) (by with_unfolding_all rfl) (hLq) (by first | omega | (simp; done)) (by first | omega | (simp; done)) (fun _ => by with_unfolding_all rfl) (by with_unfolding_all rfl) (fun _ => by with_unfolding_all rfl) (fun _ => ?_)); (try simp only [Act.put, pA, pB, pC]); (try simp only [cInt])); first | rw [← HX.out] | rw [← HY.out]) | ((with_reducible refine wpB_call (.int .i64 Q) (by with_unfolding_all rfl) (fun w' => ?_) (fun w' hw' => HC.out w' (hRq.below hw')) ?_); (focus (go_simp; done)); (try simp only [Act.put, pA, pB, pC])) |  ((with_reducible refine wpB_load (by first | exact F_int | exact F_u64s) (by with_unfolding_all rfl) (by with_unfolding_all rfl) (by assumption) (by with_unfolding_all rfl) ?_); (try simp only [Act.put, pA, pB, pC])) | ((refine wpQ_oneG ?_ (by with_unfolding_all rfl) (fun w' => ?_) ?_); rotate_left; (go_simp; rfl); (try simp only [Act.put, pA, pB, pC])))
       refine wpQuiet_nil ?_
       intro w5 hb5
       have hS5 := hSq.mono hb5
       clear q2
       go_wp2_with fail
       exact ⟨⟨j + 1, by omega, by rw [HST.out], by go_num, hS5⟩, by simp [intOf]; omega⟩
      ·have hbd : decide (B < 0) = false := decide_eq_false hB0
       by_cases hPB : Q < B
       ·rw [if_pos ⟨hQ0, .inr hPB⟩] at hst
        have hpd : decide (Q < B) = true := decide_eq_true hPB
        have HST := hid hst
        clear hst hB0 hPB hQ0
        go_wp2_with fail
        refine wp_region_q (by kernel_rfl) (by kernel_rfl) ?_
        repeat (first | ((with_reducible refine wpB_loadS (n := 4) (us := mC m ad cap) A_rmach (by kernel_rfl) (by with_unfolding_all rfl) (by with_unfolding_all rfl) (by assumption) (by with_unfolding_all rfl) (by with_unfolding_all rfl) ?_); (try simp only [Act.put, pA, pB, pC])) | (((with_reducible refine wpB_idxW 0 E_ints F_int cInt1 (by with_unfolding_all rfl) (rfl) (by with_unfolding_all rfl) (hLq) (by first | omega | (simp; done)) (by first | omega | (simp; done)) (fun _ => by with_unfolding_all rfl) (by with_unfolding_all rfl) (fun _ => by with_unfolding_all rfl) (fun _ => ?_)); (try simp only [Act.put, pA, pB, pC]); (try simp only [cInt])); first | rw [← HX.out] | rw [← HY.out]) | ((with_reducible refine wpB_call (.int .i64 Q) (by with_unfolding_all rfl) (fun w' => ?_) (fun w' hw' => HC.out w' (hRq.below hw')) ?_); (focus (go_simp; done)); (try simp only [Act.put, pA, pB, pC])) |  ((with_reducible refine wpB_load (by first | exact F_int | exact F_u64s) (by with_unfolding_all rfl) (by with_unfolding_all rfl) (by assumption) (by with_unfolding_all rfl) ?_); (try simp only [Act.put, pA, pB, pC])) | ((refine wpQ_oneG ?_ (by with_unfolding_all rfl) (fun w' => ?_) ?_); rotate_left; (go_simp; rfl); (try simp only [Act.put, pA, pB, pC])))
        refine wpQuiet_nil ?_
        intro w5 hb5
        have hS5 := hSq.mono hb5
        clear q2
        go_wp2_with fail
        exact ⟨⟨j + 1, by omega, by rw [HST.out], by go_num, hS5⟩, by simp [intOf]; omega⟩
       ·rw [if_neg (fun h => by rcases h.2 with h | h; exact hB0 h; exact hPB h)] at hst
        have hpd : decide (Q < B) = false := decide_eq_false hPB
        have HST := hid hst
        clear hst hB0 hPB hQ0
        go_wp2_with fail
        refine wp_region_q (by kernel_rfl) (by kernel_rfl) ?_
        repeat (first | ((with_reducible refine wpB_loadS (n := 4) (us := mC m ad cap) A_rmach (by kernel_rfl) (by with_unfolding_all rfl) (by with_unfolding_all rfl) (by assumption) (by with_unfolding_all rfl) (by with_unfolding_all rfl) ?_); (try simp only [Act.put, pA, pB, pC])) | (((with_reducible refine wpB_idxW 0 E_ints F_int cInt1 (by with_unfolding_all rfl) (rfl) (by with_unfolding_all rfl) (hLq) (by first | omega | (simp; done)) (by first | omega | (simp; done)) (fun _ => by with_unfolding_all rfl) (by with_unfolding_all rfl) (fun _ => by with_unfolding_all rfl) (fun _ => ?_)); (try simp only [Act.put, pA, pB, pC]); (try simp only [cInt])); first | rw [← HX.out] | rw [← HY.out]) | ((with_reducible refine wpB_call (.int .i64 Q) (by with_unfolding_all rfl) (fun w' => ?_) (fun w' hw' => HC.out w' (hRq.below hw')) ?_); (focus (go_simp; done)); (try simp only [Act.put, pA, pB, pC])) |  ((with_reducible refine wpB_load (by first | exact F_int | exact F_u64s) (by with_unfolding_all rfl) (by with_unfolding_all rfl) (by assumption) (by with_unfolding_all rfl) ?_); (try simp only [Act.put, pA, pB, pC])) | ((refine wpQ_oneG ?_ (by with_unfolding_all rfl) (fun w' => ?_) ?_); rotate_left; (go_simp; rfl); (try simp only [Act.put, pA, pB, pC])))
        refine wpQuiet_nil ?_
        intro w5 hb5
        have hS5 := hSq.mono hb5
        clear q2
        go_wp2_with fail
        exact ⟨⟨j + 1, by omega, by rw [HST.out], by go_num, hS5⟩, by simp [intOf]; omega⟩
     ·have hqd : decide (0 ≤ Q) = false := decide_eq_false hQ0
      rw [if_neg (fun h => hQ0 h.1)] at hst
      have HST := hid hst
      clear hst hQ0
      go_wp2_with fail
      refine wp_region_q (by kernel_rfl) (by kernel_rfl) ?_
      repeat (first | ((with_reducible refine wpB_loadS (n := 4) (us := mC m ad cap) A_rmach (by kernel_rfl) (by with_unfolding_all rfl) (by with_unfolding_all rfl) (by assumption) (by with_unfolding_all rfl) (by with_unfolding_all rfl) ?_); (try simp only [Act.put, pA, pB, pC])) | (((with_reducible refine wpB_idxW 0 E_ints F_int cInt1 (by with_unfolding_all rfl) (rfl) (by with_unfolding_all rfl) (hLq) (by first | omega | (simp; done)) (by first | omega | (simp; done)) (fun _ => by with_unfolding_all rfl) (by with_unfolding_all rfl) (fun _ => by with_unfolding_all rfl) (fun _ => ?_)); (try simp only [Act.put, pA, pB, pC]); (try simp only [cInt])); first | rw [← HX.out] | rw [← HY.out]) | ((with_reducible refine wpB_call (.int .i64 Q) (by with_unfolding_all rfl) (fun w' => ?_) (fun w' hw' => HC.out w' (hRq.below hw')) ?_); (focus (go_simp; done)); (try simp only [Act.put, pA, pB, pC])) |  ((with_reducible refine wpB_load (by first | exact F_int | exact F_u64s) (by with_unfolding_all rfl) (by with_unfolding_all rfl) (by assumption) (by with_unfolding_all rfl) ?_); (try simp only [Act.put, pA, pB, pC])) | ((refine wpQ_oneG ?_ (by with_unfolding_all rfl) (fun w' => ?_) ?_); rotate_left; (go_simp; rfl); (try simp only [Act.put, pA, pB, pC])))
      refine wpQuiet_nil ?_
      intro w5 hb5
      have hS5 := hSq.mono hb5
      clear q2
      go_wp2_with fail
      exact ⟨⟨j + 1, by omega, by rw [HST.out], by go_num, hS5⟩, by simp [intOf]; omega⟩
    ·have hjk2 : j = k := by omega
     subst hjk2
     go_wp2_with fail
     exact ⟨⟨j + 1, by omega, by rw [pairsAt_last], by go_num, hSq⟩, by simp [intOf]; omega⟩
  ·have hkn : k = l.length := by omega
   subst hkn
   have hfe : F (pairsTo l l.length) = meetN m l := by rw [HF.out, HE.out]
   rw [hfe]
   clear hfe
   cases ff with
   | none =>
    rw [HN0.out rfl]
    have hr : RR = .tuple #[.int .i64 (-1), .int .i64 0] := HRR.out
    have HR2 := hid hr
    clear hr
    go_wp2_with fail
    go_ret2
    exact ⟨by rw [HR2.out]; rfl, hSr.b⟩
   | some v =>
    obtain ⟨n1, n2⟩ := HN1.out v rfl
    have n3 := H4096.out v rfl
    rw [n1]
    have CST := fun w h h2 => HST.out v.1 w h h2 n3
    have CNW := fun a c w h => HNW.out v.1 a c w h
    simp only [n2] at CNW
    obtain ⟨NL, hNL⟩ : ∃ NL, NL = l.map fun s => itM m s v.1 := ⟨_, rfl⟩
    rw [← hNL] at CST
    simp only [← hNL] at CNW
    have hr : RR = .tuple #[.int .i64 v.1, .int .i64 v.2] := HRR.out
    have HNL : Hid (NL.length = l.length) := hid (by rw [hNL]; simp)
    obtain ⟨N, Pl⟩ := v
    dsimp only at hr CST CNW n3
    have HR2 := hid hr; have HS2 := hid CST; have HW2 := hid CNW
    have hNd : decide ((N : Int) < 0) = false := by simp
    have q2 := (hSr.blk 0 rfl).1
    have hRr := hR.below hSr.b
    have hLr := hL.below hSr.b
    clear hr CST CNW n1 n2 hNL
    go_wp2_with fail
    refine wp_regionK (C := (fun V => Below w.heap.size w V ∧ V.heap[w.heap.size]? = some (.cells (mC m ad cap) 25))) [0, 1, 2, 3, 4] [_, _, _, _, _] 4 (by simp only [List.map_cons, List.map_nil, List.getElem?_toArray]; rfl) rfl (by kernel_rfl) (by kernel_rfl) (by kernel_rfl) (⟨hSr.b.drew, q2⟩) ?_
    refine ⟨_, yieldsK_val (by with_unfolding_all rfl) (fun w' => by with_unfolding_all exact rfl), ?_⟩
    go_frame
    refine ⟨_, yieldsK_blkC (n := 4) A_rmach (by kernel_rfl) (fun V h => h.2) rfl (by with_unfolding_all rfl) (by with_unfolding_all rfl), ?_⟩
    go_frame
    refine ⟨_, yieldsK_blkC (n := 4) A_rmach (by kernel_rfl) (fun V h => h.2) rfl (by with_unfolding_all rfl) (by with_unfolding_all rfl), ?_⟩
    go_frame
    refine ⟨_, yieldsK_val (by with_unfolding_all rfl) (fun w' => by with_unfolding_all exact rfl), ?_⟩
    go_frame
    refine ⟨_, yieldsK_val (by with_unfolding_all rfl) (fun w' => by with_unfolding_all exact rfl), ?_⟩
    go_frame
    unfold wpPureK
    have hVd : ({ wr with drawn := wr.drawn + 1 } : World) = wr.drew := rfl
    rw [hVd]
    have b2 : Below wr.heap.size wr wr.drew := (Below.refl _ _).drew
    refine wpAnyC_on [5] (by kernel_rfl) (by simp) ?_
    simp only [List.forall_mem_cons, List.not_mem_nil, false_implies, implies_true, and_true]
    refine wpOp_call (f := 27) (args := #[mV m ad cap, .slice al l.length cl, .int .i64 N]) (by rw [List.getElem?_toArray]; rfl) (by with_unfolding_all rfl) (by first | (go_simp; done) | (simp [execOp, Act.eval, Result.andThen]; done) | (simp [execOp, Act.eval, Result.andThen]; rfl)) ?_
    refine (HS2.out _ (hRr.below b2) (hLr.below b2)).mono ?_
    rintro e w3 ⟨v3, rfl, ho3, b3⟩
    obtain ⟨a3, c3, rfl, h3, _, _⟩ := ho3.reps
    have hS3 := hSr.drew.mono b3
    refine ⟨_, rfl, ⟨hS3.b, (hS3.blk 0 rfl).1⟩, ?_⟩
    go_frame
    refine wpAnyC_on [6] (by kernel_rfl) (by simp) ?_
    simp only [List.forall_mem_cons, List.not_mem_nil, false_implies, implies_true, and_true]
    refine wpOp_call (f := 39) (args := #[mV m ad cap, .slice a3 NL.length c3]) (by rw [List.getElem?_toArray]; rfl) (by with_unfolding_all rfl) (by first | (go_simp; done) | (simp [execOp, Act.eval, Result.andThen]; done) | (simp [execOp, Act.eval, Result.andThen]; rfl)) ?_
    refine (HW2.out a3 c3 _ h3).mono ?_
    rintro e w4 ⟨rfl, b4⟩
    have hS4 := hS3.mono b4
    refine ⟨_, rfl, ⟨hS4.b, (hS4.blk 0 rfl).1⟩, ?_⟩
    go_frame
    refine wpAnyC_rest [7, 8] [_, _] rfl (by simp only [List.map_cons, List.map_nil, List.getElem?_toArray]; rfl) (by kernel_rfl) (by kernel_rfl) (by kernel_rfl) (⟨hS4.b, (hS4.blk 0 rfl).1⟩) ?_
    repeat (refine ⟨_, .inl ⟨by with_unfolding_all rfl, fun w' _ => by with_unfolding_all exact rfl⟩, ?_⟩; go_frame)
    unfold wpPure
    refine of_wpList_nil (P := Tryz.prog) (ops := #[]) ?_
    go_wp2_with fail
    go_ret2
    exact ⟨by rw [HR2.out]; rfl, hS4.b⟩
end Go.Proofs.YtbchpkmcpplidaaGreatDoor

namespace Go.Proofs.YtbchpkmcpplidaaGreatDoor
open Go.RowKit
set_option maxHeartbeats 8000000
set_option maxRecDepth 100000
theorem ml_badT (m : MacV) (ad al : Option Addr) (cap cl : Nat) (l : List Int) (n : Int) (w : World) (hR : Ints w ad cap m.sw) (hL : Ints w al cl l) (hI : InI m.gears) (hw : LibW w) (hsb : (decide (m.sw.length ≤ 19) && decide (l.length ≤ 67)) = true) (he : loadE m l ≠ 0) (hout : (decide (n < 0) || decide (999999999 < n)) = true) :
  Calls Tryz.prog 4 #[mV m ad cap, .slice al l.length cl, .int .i64 n] w fun r w' => r = .returned (.bool true) ∧ Below w.heap.size w w' := by
 have hS0 := ((SL.nil w).box (.cells (mC m ad cap) 24)).box (.cells (mC m ad cap) 25)
 simp only [World.size_alloc] at hS0
 have HA := hid awake4_any
 have hlc := hL.le
 have CSh := fun w => rShort_any m ad cap al cl l.length w
 rw [hsb] at CSh
 have HSh := hid CSh
 clear CSh hsb
 have CK := fun w h h2 => lcheck_any m ad cap al cl l w h h2
 have KL : ChkL m ad cap al cl l := CheckLoad_any m ad cap al cl l (fun w h => CheckMachine_any m ad cap w h hI)
 have CL := fun w h h2 => KL w h h2
 have CT := fun w h h2 => mSteps_any m ad cap al cl l n w h h2 KL
 have CM := fun w h h2 => mMeet_any m ad cap al cl l w h h2 KL
 have CA := fun w h h2 => mAccept_any m ad cap al cl l w h h2 KL
 clear KL
 have HOUT := hid hout
 clear hout
 obtain ⟨E, hE⟩ : ∃ E, E = loadE m l := ⟨_, rfl⟩
 have hne : (E != 0) = true := by rw [hE]; simpa using he
 have hne2 : (E == 0) = false := by rw [hE]; simpa using he
 have hse : stepsE m l n = E := by unfold stepsE; rw [if_pos he]; exact hE.symm
 have hmt : meet3 m l = (0, 0, E) := by unfold meet3; rw [if_pos he]; rw [hE]
 have hac : accE m l = E := by unfold accE; rw [if_pos he]; exact hE.symm
 have hEn : E ≠ 0 := by rw [hE]; exact he
 rw [hse, if_neg hEn] at CT
 rw [hmt] at CM
 rw [hac] at CA
 rw [← hE] at CK CL
 have hfe : ∀ x, firstE [E, x] = E := fun x => firstE_head hEn
 have HCK := hid CK; have HCL := hid CL; have HST := hid CT; have HMT := hid CM; have HAC := hid CA; have HFE := hid hfe
 clear CK CL CT CM CA hse hmt hac hE he hfe hEn
 go_enter Tryz.func4, Tryz.ntmps4
 go_wp2_with fail
 refine (HA.out _ (hw.below hS0.b)).mono ?_
 rintro e w1 ⟨rfl, b1⟩
 have hS1 := hS0.mono b1
 have q1 := (hS1.blk 0 rfl).1
 have p1 := (hS1.blk 1 rfl).1
 go_wp2_with (with_reducible refine wpList_ldS (n := 4) (us := mC m ad cap) A_rmach (by kernel_rfl) (by with_unfolding_all rfl) (by with_unfolding_all rfl) (by assumption) (by with_unfolding_all rfl) (by with_unfolding_all rfl) ?_)
 refine (HSh.out _).mono ?_
 rintro e w2 ⟨rfl, b2⟩
 have hS2 := hS1.mono b2
 have q2 := (hS2.blk 0 rfl).1
 have p2 := (hS2.blk 1 rfl).1
 clear q1 p1 hS1
 go_wp2_with (with_reducible refine wpList_ldS (n := 4) (us := mC m ad cap) A_rmach (by kernel_rfl) (by with_unfolding_all rfl) (by with_unfolding_all rfl) (by assumption) (by with_unfolding_all rfl) (by with_unfolding_all rfl) ?_)
 refine (HCK.out _ (hR.below hS2.b) (hL.below hS2.b)).mono ?_
 rintro e w3 ⟨rfl, b3⟩
 have hS3 := hS2.mono b3
 have q3 := (hS3.blk 0 rfl).1
 have p3 := (hS3.blk 1 rfl).1
 clear q2 p2 hS2
 go_wp2_with (with_reducible refine wpList_ldS (n := 4) (us := mC m ad cap) A_mach (by kernel_rfl) (by with_unfolding_all rfl) (by with_unfolding_all rfl) (by assumption) (by with_unfolding_all rfl) (by with_unfolding_all rfl) ?_)
 refine (HCL.out _ (hR.below hS3.b) (hL.below hS3.b)).mono ?_
 rintro e w4 ⟨rfl, b4⟩
 have hS4 := hS3.mono b4
 have q4 := (hS4.blk 0 rfl).1
 have p4 := (hS4.blk 1 rfl).1
 clear q3 p3 hS3
 go_wp2_with (with_reducible refine wpList_ldS (n := 4) (us := mC m ad cap) A_mach (by kernel_rfl) (by with_unfolding_all rfl) (by with_unfolding_all rfl) (by assumption) (by with_unfolding_all rfl) (by with_unfolding_all rfl) ?_)
 refine (HST.out _ (hR.below hS4.b) (hL.below hS4.b)).mono ?_
 rintro e w5 ⟨v5, rfl, ho5, b5⟩
 obtain ⟨a5, c5, rfl, h5, _, _⟩ := ho5.reps
 have hS5 := hS4.mono b5
 have q5 := (hS5.blk 0 rfl).1
 have p5 := (hS5.blk 1 rfl).1
 clear q4 p4 hS4
 clear ho5
 go_wp2_with fail
 refine (rOutside_any n 0 999999999 w5).mono ?_
 rw [HOUT.out]
 rintro e w6 ⟨rfl, rfl⟩
 go_wp2_with fail
 refine (lwhen_any true 3 w5).mono ?_
 rintro e w6 ⟨rfl, rfl⟩
 go_wp2_with (go_at_call 23; refine (lfirst4_any _ _ [_, _] _ (reps_newN cIntS [_, _] 2 rfl (by decide) _ _ (by simp) rfl) (by simp)).mono ?_; rw [HFE.out]; rintro e w' ⟨rfl, rfl⟩)
 have hS6 := hS5.al (.cells #[.int .i64 E, .int .i64 3] 3)
 refine (llistBad_any a5 none c5 0 0 E _ hne).mono ?_
 rintro e w7 ⟨rfl, b7⟩
 have hS7 := hS6.mono b7
 have q7 := (hS7.blk 0 rfl).1
 have p7 := (hS7.blk 1 rfl).1
 clear q5 p5 hS5 hS6 h5
 go_wp2_with (with_reducible refine wpList_ldS (n := 4) (us := mC m ad cap) A_mach (by kernel_rfl) (by with_unfolding_all rfl) (by with_unfolding_all rfl) (by assumption) (by with_unfolding_all rfl) (by with_unfolding_all rfl) ?_)
 refine (HMT.out _ (hR.below hS7.b) (hL.below hS7.b)).mono ?_
 rintro e w8 ⟨rfl, b8⟩
 have hS8 := hS7.mono b8
 have q8 := (hS8.blk 0 rfl).1
 have p8 := (hS8.blk 1 rfl).1
 clear q7 p7 hS7
 go_wp2_with (with_reducible refine wpList_ldS (n := 4) (us := mC m ad cap) A_mach (by kernel_rfl) (by with_unfolding_all rfl) (by with_unfolding_all rfl) (by assumption) (by with_unfolding_all rfl) (by with_unfolding_all rfl) ?_)
 refine (HAC.out _ (hR.below hS8.b) (hL.below hS8.b)).mono ?_
 rintro e w9 ⟨rfl, b9⟩
 have hS9 := hS8.mono b9
 have q9 := (hS9.blk 0 rfl).1
 have p9 := (hS9.blk 1 rfl).1
 clear q8 p8 hS8
 go_wp2_with fail
 go_ret
 exact ⟨rfl, hS9.b⟩
theorem ml_badF (m : MacV) (ad al : Option Addr) (cap cl : Nat) (l : List Int) (n : Int) (w : World) (hR : Ints w ad cap m.sw) (hL : Ints w al cl l) (hI : InI m.gears) (hw : LibW w) (hsb : (decide (m.sw.length ≤ 19) && decide (l.length ≤ 67)) = true) (he : loadE m l ≠ 0) (hout : (decide (n < 0) || decide (999999999 < n)) = false) :
  Calls Tryz.prog 4 #[mV m ad cap, .slice al l.length cl, .int .i64 n] w fun r w' => r = .returned (.bool true) ∧ Below w.heap.size w w' := by
 have hS0 := ((SL.nil w).box (.cells (mC m ad cap) 24)).box (.cells (mC m ad cap) 25)
 simp only [World.size_alloc] at hS0
 have HA := hid awake4_any
 have hlc := hL.le
 have CSh := fun w => rShort_any m ad cap al cl l.length w
 rw [hsb] at CSh
 have HSh := hid CSh
 clear CSh hsb
 have CK := fun w h h2 => lcheck_any m ad cap al cl l w h h2
 have KL : ChkL m ad cap al cl l := CheckLoad_any m ad cap al cl l (fun w h => CheckMachine_any m ad cap w h hI)
 have CL := fun w h h2 => KL w h h2
 have CT := fun w h h2 => mSteps_any m ad cap al cl l n w h h2 KL
 have CM := fun w h h2 => mMeet_any m ad cap al cl l w h h2 KL
 have CA := fun w h h2 => mAccept_any m ad cap al cl l w h h2 KL
 clear KL
 have HOUT := hid hout
 clear hout
 obtain ⟨E, hE⟩ : ∃ E, E = loadE m l := ⟨_, rfl⟩
 have hne : (E != 0) = true := by rw [hE]; simpa using he
 have hne2 : (E == 0) = false := by rw [hE]; simpa using he
 have hse : stepsE m l n = E := by unfold stepsE; rw [if_pos he]; exact hE.symm
 have hmt : meet3 m l = (0, 0, E) := by unfold meet3; rw [if_pos he]; rw [hE]
 have hac : accE m l = E := by unfold accE; rw [if_pos he]; exact hE.symm
 have hEn : E ≠ 0 := by rw [hE]; exact he
 rw [hse, if_neg hEn] at CT
 rw [hmt] at CM
 rw [hac] at CA
 rw [← hE] at CK CL
 have hfe : ∀ x, firstE [E, x] = E := fun x => firstE_head hEn
 have HCK := hid CK; have HCL := hid CL; have HST := hid CT; have HMT := hid CM; have HAC := hid CA; have HFE := hid hfe
 clear CK CL CT CM CA hse hmt hac hE he hfe hEn
 go_enter Tryz.func4, Tryz.ntmps4
 go_wp2_with fail
 refine (HA.out _ (hw.below hS0.b)).mono ?_
 rintro e w1 ⟨rfl, b1⟩
 have hS1 := hS0.mono b1
 have q1 := (hS1.blk 0 rfl).1
 have p1 := (hS1.blk 1 rfl).1
 go_wp2_with (with_reducible refine wpList_ldS (n := 4) (us := mC m ad cap) A_rmach (by kernel_rfl) (by with_unfolding_all rfl) (by with_unfolding_all rfl) (by assumption) (by with_unfolding_all rfl) (by with_unfolding_all rfl) ?_)
 refine (HSh.out _).mono ?_
 rintro e w2 ⟨rfl, b2⟩
 have hS2 := hS1.mono b2
 have q2 := (hS2.blk 0 rfl).1
 have p2 := (hS2.blk 1 rfl).1
 clear q1 p1 hS1
 go_wp2_with (with_reducible refine wpList_ldS (n := 4) (us := mC m ad cap) A_rmach (by kernel_rfl) (by with_unfolding_all rfl) (by with_unfolding_all rfl) (by assumption) (by with_unfolding_all rfl) (by with_unfolding_all rfl) ?_)
 refine (HCK.out _ (hR.below hS2.b) (hL.below hS2.b)).mono ?_
 rintro e w3 ⟨rfl, b3⟩
 have hS3 := hS2.mono b3
 have q3 := (hS3.blk 0 rfl).1
 have p3 := (hS3.blk 1 rfl).1
 clear q2 p2 hS2
 go_wp2_with (with_reducible refine wpList_ldS (n := 4) (us := mC m ad cap) A_mach (by kernel_rfl) (by with_unfolding_all rfl) (by with_unfolding_all rfl) (by assumption) (by with_unfolding_all rfl) (by with_unfolding_all rfl) ?_)
 refine (HCL.out _ (hR.below hS3.b) (hL.below hS3.b)).mono ?_
 rintro e w4 ⟨rfl, b4⟩
 have hS4 := hS3.mono b4
 have q4 := (hS4.blk 0 rfl).1
 have p4 := (hS4.blk 1 rfl).1
 clear q3 p3 hS3
 go_wp2_with (with_reducible refine wpList_ldS (n := 4) (us := mC m ad cap) A_mach (by kernel_rfl) (by with_unfolding_all rfl) (by with_unfolding_all rfl) (by assumption) (by with_unfolding_all rfl) (by with_unfolding_all rfl) ?_)
 refine (HST.out _ (hR.below hS4.b) (hL.below hS4.b)).mono ?_
 rintro e w5 ⟨v5, rfl, ho5, b5⟩
 obtain ⟨a5, c5, rfl, h5, _, _⟩ := ho5.reps
 have hS5 := hS4.mono b5
 have q5 := (hS5.blk 0 rfl).1
 have p5 := (hS5.blk 1 rfl).1
 clear q4 p4 hS4
 clear ho5
 go_wp2_with fail
 refine (rOutside_any n 0 999999999 w5).mono ?_
 rw [HOUT.out]
 rintro e w6 ⟨rfl, rfl⟩
 go_wp2_with fail
 refine (lwhen_any false 3 w5).mono ?_
 rintro e w6 ⟨rfl, rfl⟩
 go_wp2_with (go_at_call 23; refine (lfirst4_any _ _ [_, _] _ (reps_newN cIntS [_, _] 2 rfl (by decide) _ _ (by simp) rfl) (by simp)).mono ?_; rw [HFE.out]; rintro e w' ⟨rfl, rfl⟩)
 have hS6 := hS5.al (.cells #[.int .i64 E, .int .i64 0] 3)
 refine (llistBad_any a5 none c5 0 0 E _ hne).mono ?_
 rintro e w7 ⟨rfl, b7⟩
 have hS7 := hS6.mono b7
 have q7 := (hS7.blk 0 rfl).1
 have p7 := (hS7.blk 1 rfl).1
 clear q5 p5 hS5 hS6 h5
 go_wp2_with (with_reducible refine wpList_ldS (n := 4) (us := mC m ad cap) A_mach (by kernel_rfl) (by with_unfolding_all rfl) (by with_unfolding_all rfl) (by assumption) (by with_unfolding_all rfl) (by with_unfolding_all rfl) ?_)
 refine (HMT.out _ (hR.below hS7.b) (hL.below hS7.b)).mono ?_
 rintro e w8 ⟨rfl, b8⟩
 have hS8 := hS7.mono b8
 have q8 := (hS8.blk 0 rfl).1
 have p8 := (hS8.blk 1 rfl).1
 clear q7 p7 hS7
 go_wp2_with (with_reducible refine wpList_ldS (n := 4) (us := mC m ad cap) A_mach (by kernel_rfl) (by with_unfolding_all rfl) (by with_unfolding_all rfl) (by assumption) (by with_unfolding_all rfl) (by with_unfolding_all rfl) ?_)
 refine (HAC.out _ (hR.below hS8.b) (hL.below hS8.b)).mono ?_
 rintro e w9 ⟨rfl, b9⟩
 have hS9 := hS8.mono b9
 have q9 := (hS9.blk 0 rfl).1
 have p9 := (hS9.blk 1 rfl).1
 clear q8 p8 hS8
 go_wp2_with fail
 go_ret
 exact ⟨rfl, hS9.b⟩
theorem ml_goodL (m : MacV) (ad al : Option Addr) (cap cl : Nat) (l : List Int) (n : Int) (w : World) (hR : Ints w ad cap m.sw) (hL : Ints w al cl l) (hI : InI m.gears) (hw : LibW w) (hsb : (decide (m.sw.length ≤ 19) && decide (l.length ≤ 67)) = true) (he : loadE m l = 0) (hnn : ¬ (n < 0 ∨ 999999999 < n)) (h20 : 20 < l.length) :
  Calls Tryz.prog 4 #[mV m ad cap, .slice al l.length cl, .int .i64 n] w fun r w' => r = .returned (.bool true) ∧ Below w.heap.size w w' := by
 have hS0 := ((SL.nil w).box (.cells (mC m ad cap) 24)).box (.cells (mC m ad cap) 25)
 simp only [World.size_alloc] at hS0
 have HA := hid awake4_any
 have hlc := hL.le
 have CSh := fun w => rShort_any m ad cap al cl l.length w
 rw [hsb] at CSh
 have HSh := hid CSh
 clear CSh hsb
 have CK := fun w h h2 => lcheck_any m ad cap al cl l w h h2
 have KL : ChkL m ad cap al cl l := CheckLoad_any m ad cap al cl l (fun w h => CheckMachine_any m ad cap w h hI)
 have CL := fun w h h2 => KL w h h2
 have CT := fun w h h2 => mSteps_any m ad cap al cl l n w h h2 KL
 have CM := fun w h h2 => mMeet_any m ad cap al cl l w h h2 KL
 have CA := fun w h h2 => mAccept_any m ad cap al cl l w h h2 KL
 clear KL
 have hok := loadE_zero he
 have hlo := hok.ok.lo
 have hhi := hok.ok.hi
 have hfew := hok.few
 have hn64 : l.length ≤ 64 := by omega
 have CRM := fun w h h2 => rMeet_any m ad cap al cl l w h h2 hlo hhi hok.rng hn64 hok.nodup
 have hmt : meet3 m l = match firstM m l with | none => (0, 0, 7) | some x => (x.1, x.2, 0) := by unfold meet3; rw [if_neg (by simp [he])]; cases firstM m l <;> rfl
 have hac : accE m l = if (firstM m l).isSome then 16 else 0 := by unfold accE; rw [if_neg (by simp [he])]
 rw [he] at CK CL
 rw [hmt] at CM
 rw [hac] at CA
 have HCK := hid CK; have HCL := hid CL
 clear CK CL hmt hac
 have hse : stepsE m l n = 0 := by unfold stepsE; rw [if_neg (by simp [he]), if_neg hnn]
 have hout : (decide (n < 0) || decide (999999999 < n)) = false := by simpa using hnn
 have HOUT := hid hout
 obtain ⟨N, hN⟩ : ∃ N : Nat, n = N := ⟨n.toNat, by omega⟩
 subst hN
 have CRS := fun w h h2 => rSteps_any m ad cap al cl l N w h h2 hlo hhi hok.rng hn64 (by omega)
 rw [hse, if_pos rfl, Int.toNat_natCast] at CT
 have hxl : (l.map fun s => itM m s N).length = l.length := by simp
 obtain ⟨X, hX⟩ : ∃ X, X = l.map fun s => itM m s N := ⟨_, rfl⟩
 rw [← hX] at CT CRS hxl
 have HST := hid CT; have HRS := hid CRS; have HXL := hid hxl
 clear CT CRS hxl hX hse he hok hnn hout
 have hx64 : X.length ≤ 64 := by rw [HXL.out]; exact hn64
 clear CM CA CRM
 go_enter Tryz.func4, Tryz.ntmps4
 go_wp2_with fail
 refine (HA.out _ (hw.below hS0.b)).mono ?_
 rintro e w1 ⟨rfl, b1⟩
 have hS1 := hS0.mono b1
 have q1 := (hS1.blk 0 rfl).1
 have p1 := (hS1.blk 1 rfl).1
 go_wp2_with (with_reducible refine wpList_ldS (n := 4) (us := mC m ad cap) A_rmach (by kernel_rfl) (by with_unfolding_all rfl) (by with_unfolding_all rfl) (by assumption) (by with_unfolding_all rfl) (by with_unfolding_all rfl) ?_)
 refine (HSh.out _).mono ?_
 rintro e w2 ⟨rfl, b2⟩
 have hS2 := hS1.mono b2
 have q2 := (hS2.blk 0 rfl).1
 have p2 := (hS2.blk 1 rfl).1
 clear q1 p1 hS1
 go_wp2_with (with_reducible refine wpList_ldS (n := 4) (us := mC m ad cap) A_rmach (by kernel_rfl) (by with_unfolding_all rfl) (by with_unfolding_all rfl) (by assumption) (by with_unfolding_all rfl) (by with_unfolding_all rfl) ?_)
 refine (HCK.out _ (hR.below hS2.b) (hL.below hS2.b)).mono ?_
 rintro e w3 ⟨rfl, b3⟩
 have hS3 := hS2.mono b3
 have q3 := (hS3.blk 0 rfl).1
 have p3 := (hS3.blk 1 rfl).1
 clear q2 p2 hS2
 go_wp2_with (with_reducible refine wpList_ldS (n := 4) (us := mC m ad cap) A_mach (by kernel_rfl) (by with_unfolding_all rfl) (by with_unfolding_all rfl) (by assumption) (by with_unfolding_all rfl) (by with_unfolding_all rfl) ?_)
 refine (HCL.out _ (hR.below hS3.b) (hL.below hS3.b)).mono ?_
 rintro e w4 ⟨rfl, b4⟩
 have hS4 := hS3.mono b4
 have q4 := (hS4.blk 0 rfl).1
 have p4 := (hS4.blk 1 rfl).1
 clear q3 p3 hS3
 go_wp2_with (with_reducible refine wpList_ldS (n := 4) (us := mC m ad cap) A_mach (by kernel_rfl) (by with_unfolding_all rfl) (by with_unfolding_all rfl) (by assumption) (by with_unfolding_all rfl) (by with_unfolding_all rfl) ?_)
 refine (HST.out _ (hR.below hS4.b) (hL.below hS4.b)).mono ?_
 rintro e w5 ⟨v5, rfl, ho5, b5⟩
 obtain ⟨a5, c5, rfl, h5, _, _⟩ := ho5.reps
 have hS5 := hS4.mono b5
 have q5 := (hS5.blk 0 rfl).1
 have p5 := (hS5.blk 1 rfl).1
 clear q4 p4 hS4
 clear ho5
 go_wp2_with fail
 refine (rOutside_any (N : Int) 0 999999999 w5).mono ?_
 rw [HOUT.out]
 rintro e w6 ⟨rfl, rfl⟩
 go_wp2_with fail
 refine (lwhen_any false 3 w5).mono ?_
 rintro e w6 ⟨rfl, rfl⟩
 have hS6 := hS5.al (.cells #[.int .i64 0, .int .i64 0] 3)
 have p6 := (hS6.blk 0 rfl).1
 replace h5 := h5.below (bal (Below.refl w5.heap.size w5) (.cells #[.int .i64 0, .int .i64 0] 3))
 clear q5 p5 hS5
 go_wp2_with (first | (go_at_call 23; refine (lfirst4_any _ _ [_, _] _ (reps_newN cIntS [_, _] 2 rfl (by decide) _ _ (by simp) rfl) (by simp)).mono ?_; rw [firstE_z, firstE_z, firstE_nil]; rintro e w' ⟨rfl, rfl⟩) | (with_reducible refine wpList_ldS (n := 4) (us := mC m ad cap) A_rmach (by kernel_rfl) (by with_unfolding_all rfl) (by with_unfolding_all rfl) (by assumption) (by with_unfolding_all rfl) (by with_unfolding_all rfl) ?_))
 refine (HRS.out _ (hR.below hS6.b) (hL.below hS6.b)).mono ?_
 rintro e w7 ⟨v7, rfl, ho7, b7⟩
 obtain ⟨a7, c7, rfl, h7, _, _⟩ := ho7.reps
 have hS7 := hS6.mono b7
 replace h5 := h5.below b7
 clear p6 hS6 ho7
 go_wp2_with fail
 refine (llistOk_any a5 a7 c5 c7 _ X _ h5 h7 rfl (by omega)).mono ?_
 rintro e w8 ⟨rfl, b8⟩
 have hS8 := hS7.mono b8
 have q8 := (hS8.blk 0 rfl).1
 have p8 := (hS8.blk 1 rfl).1
 clear hS7 h5 h7
 go_wp2_with fail
 go_ret
 exact ⟨rfl, hS8.b⟩
theorem ml_outL (m : MacV) (ad al : Option Addr) (cap cl : Nat) (l : List Int) (n : Int) (w : World) (hR : Ints w ad cap m.sw) (hL : Ints w al cl l) (hI : InI m.gears) (hw : LibW w) (hsb : (decide (m.sw.length ≤ 19) && decide (l.length ≤ 67)) = true) (he : loadE m l = 0) (hnn : n < 0 ∨ 999999999 < n) (h20 : 20 < l.length) :
  Calls Tryz.prog 4 #[mV m ad cap, .slice al l.length cl, .int .i64 n] w fun r w' => r = .returned (.bool true) ∧ Below w.heap.size w w' := by
 have hS0 := ((SL.nil w).box (.cells (mC m ad cap) 24)).box (.cells (mC m ad cap) 25)
 simp only [World.size_alloc] at hS0
 have HA := hid awake4_any
 have hlc := hL.le
 have CSh := fun w => rShort_any m ad cap al cl l.length w
 rw [hsb] at CSh
 have HSh := hid CSh
 clear CSh hsb
 have CK := fun w h h2 => lcheck_any m ad cap al cl l w h h2
 have KL : ChkL m ad cap al cl l := CheckLoad_any m ad cap al cl l (fun w h => CheckMachine_any m ad cap w h hI)
 have CL := fun w h h2 => KL w h h2
 have CT := fun w h h2 => mSteps_any m ad cap al cl l n w h h2 KL
 have CM := fun w h h2 => mMeet_any m ad cap al cl l w h h2 KL
 have CA := fun w h h2 => mAccept_any m ad cap al cl l w h h2 KL
 clear KL
 have hok := loadE_zero he
 have hlo := hok.ok.lo
 have hhi := hok.ok.hi
 have hfew := hok.few
 have hn64 : l.length ≤ 64 := by omega
 have CRM := fun w h h2 => rMeet_any m ad cap al cl l w h h2 hlo hhi hok.rng hn64 hok.nodup
 have hmt : meet3 m l = match firstM m l with | none => (0, 0, 7) | some x => (x.1, x.2, 0) := by unfold meet3; rw [if_neg (by simp [he])]; cases firstM m l <;> rfl
 have hac : accE m l = if (firstM m l).isSome then 16 else 0 := by unfold accE; rw [if_neg (by simp [he])]
 rw [he] at CK CL
 rw [hmt] at CM
 rw [hac] at CA
 have HCK := hid CK; have HCL := hid CL
 clear CK CL hmt hac
 have hse : stepsE m l n = 3 := by unfold stepsE; rw [if_neg (by simp [he]), if_pos hnn]
 have hout : (decide (n < 0) || decide (999999999 < n)) = true := by simpa using hnn
 have HOUT := hid hout
 rw [hse, if_neg (by decide)] at CT
 have HST := hid CT
 clear CT hse he hok hnn hout
 clear CM CA CRM
 go_enter Tryz.func4, Tryz.ntmps4
 go_wp2_with fail
 refine (HA.out _ (hw.below hS0.b)).mono ?_
 rintro e w1 ⟨rfl, b1⟩
 have hS1 := hS0.mono b1
 have q1 := (hS1.blk 0 rfl).1
 have p1 := (hS1.blk 1 rfl).1
 go_wp2_with (with_reducible refine wpList_ldS (n := 4) (us := mC m ad cap) A_rmach (by kernel_rfl) (by with_unfolding_all rfl) (by with_unfolding_all rfl) (by assumption) (by with_unfolding_all rfl) (by with_unfolding_all rfl) ?_)
 refine (HSh.out _).mono ?_
 rintro e w2 ⟨rfl, b2⟩
 have hS2 := hS1.mono b2
 have q2 := (hS2.blk 0 rfl).1
 have p2 := (hS2.blk 1 rfl).1
 clear q1 p1 hS1
 go_wp2_with (with_reducible refine wpList_ldS (n := 4) (us := mC m ad cap) A_rmach (by kernel_rfl) (by with_unfolding_all rfl) (by with_unfolding_all rfl) (by assumption) (by with_unfolding_all rfl) (by with_unfolding_all rfl) ?_)
 refine (HCK.out _ (hR.below hS2.b) (hL.below hS2.b)).mono ?_
 rintro e w3 ⟨rfl, b3⟩
 have hS3 := hS2.mono b3
 have q3 := (hS3.blk 0 rfl).1
 have p3 := (hS3.blk 1 rfl).1
 clear q2 p2 hS2
 go_wp2_with (with_reducible refine wpList_ldS (n := 4) (us := mC m ad cap) A_mach (by kernel_rfl) (by with_unfolding_all rfl) (by with_unfolding_all rfl) (by assumption) (by with_unfolding_all rfl) (by with_unfolding_all rfl) ?_)
 refine (HCL.out _ (hR.below hS3.b) (hL.below hS3.b)).mono ?_
 rintro e w4 ⟨rfl, b4⟩
 have hS4 := hS3.mono b4
 have q4 := (hS4.blk 0 rfl).1
 have p4 := (hS4.blk 1 rfl).1
 clear q3 p3 hS3
 go_wp2_with (with_reducible refine wpList_ldS (n := 4) (us := mC m ad cap) A_mach (by kernel_rfl) (by with_unfolding_all rfl) (by with_unfolding_all rfl) (by assumption) (by with_unfolding_all rfl) (by with_unfolding_all rfl) ?_)
 refine (HST.out _ (hR.below hS4.b) (hL.below hS4.b)).mono ?_
 rintro e w5 ⟨v5, rfl, ho5, b5⟩
 obtain ⟨a5, c5, rfl, h5, _, _⟩ := ho5.reps
 have hS5 := hS4.mono b5
 have q5 := (hS5.blk 0 rfl).1
 have p5 := (hS5.blk 1 rfl).1
 clear q4 p4 hS4
 clear ho5
 go_wp2_with fail
 refine (rOutside_any n 0 999999999 w5).mono ?_
 rw [HOUT.out]
 rintro e w6 ⟨rfl, rfl⟩
 go_wp2_with fail
 refine (lwhen_any true 3 w5).mono ?_
 rintro e w6 ⟨rfl, rfl⟩
 go_wp2_with (go_at_call 23; refine (lfirst4_any _ _ [_, _] _ (reps_newN cIntS [_, _] 2 rfl (by decide) _ _ (by simp) rfl) (by simp)).mono ?_; rw [firstE_z, firstE_head (by decide)]; rintro e w' ⟨rfl, rfl⟩)
 have hS6 := hS5.al (.cells #[.int .i64 0, .int .i64 3] 3)
 refine (llistBad_any a5 none c5 0 0 3 _ rfl).mono ?_
 rintro e w8 ⟨rfl, b8⟩
 have hS8 := hS6.mono b8
 have q8 := (hS8.blk 0 rfl).1
 have p8 := (hS8.blk 1 rfl).1
 clear q5 p5 hS5 hS6 h5
 go_wp2_with fail
 go_ret
 exact ⟨rfl, hS8.b⟩
end Go.Proofs.YtbchpkmcpplidaaGreatDoor

namespace Go.Proofs.YtbchpkmcpplidaaGreatDoor
open Go.RowKit
set_option maxHeartbeats 8000000
set_option maxRecDepth 100000
theorem ml_good (m : MacV) (ad al : Option Addr) (cap cl : Nat) (l : List Int) (n : Int) (w : World) (hR : Ints w ad cap m.sw) (hL : Ints w al cl l) (hI : InI m.gears) (hw : LibW w) (hsb : (decide (m.sw.length ≤ 19) && decide (l.length ≤ 67)) = true) (he : loadE m l = 0) (hnn : ¬ (n < 0 ∨ 999999999 < n)) (h20 : l.length ≤ 20) :
  Calls Tryz.prog 4 #[mV m ad cap, .slice al l.length cl, .int .i64 n] w fun r w' => r = .returned (.bool true) ∧ Below w.heap.size w w' := by
 have hS0 := ((SL.nil w).box (.cells (mC m ad cap) 24)).box (.cells (mC m ad cap) 25)
 simp only [World.size_alloc] at hS0
 have HA := hid awake4_any
 have hlc := hL.le
 have CSh := fun w => rShort_any m ad cap al cl l.length w
 rw [hsb] at CSh
 have HSh := hid CSh
 clear CSh hsb
 have CK := fun w h h2 => lcheck_any m ad cap al cl l w h h2
 have KL : ChkL m ad cap al cl l := CheckLoad_any m ad cap al cl l (fun w h => CheckMachine_any m ad cap w h hI)
 have CL := fun w h h2 => KL w h h2
 have CT := fun w h h2 => mSteps_any m ad cap al cl l n w h h2 KL
 have CM := fun w h h2 => mMeet_any m ad cap al cl l w h h2 KL
 have CA := fun w h h2 => mAccept_any m ad cap al cl l w h h2 KL
 clear KL
 have hok := loadE_zero he
 have hlo := hok.ok.lo
 have hhi := hok.ok.hi
 have hfew := hok.few
 have hn64 : l.length ≤ 64 := by omega
 have CRM := fun w h h2 => rMeet_any m ad cap al cl l w h h2 hlo hhi hok.rng hn64 hok.nodup
 have hmt : meet3 m l = match firstM m l with | none => (0, 0, 7) | some x => (x.1, x.2, 0) := by unfold meet3; rw [if_neg (by simp [he])]; cases firstM m l <;> rfl
 have hac : accE m l = if (firstM m l).isSome then 16 else 0 := by unfold accE; rw [if_neg (by simp [he])]
 rw [he] at CK CL
 rw [hmt] at CM
 rw [hac] at CA
 have HCK := hid CK; have HCL := hid CL
 clear CK CL hmt hac
 have hse : stepsE m l n = 0 := by unfold stepsE; rw [if_neg (by simp [he]), if_neg hnn]
 have hout : (decide (n < 0) || decide (999999999 < n)) = false := by simpa using hnn
 have HOUT := hid hout
 obtain ⟨N, hN⟩ : ∃ N : Nat, n = N := ⟨n.toNat, by omega⟩
 subst hN
 have CRS := fun w h h2 => rSteps_any m ad cap al cl l N w h h2 hlo hhi hok.rng hn64 (by omega)
 rw [hse, if_pos rfl, Int.toNat_natCast] at CT
 have hxl : (l.map fun s => itM m s N).length = l.length := by simp
 obtain ⟨X, hX⟩ : ∃ X, X = l.map fun s => itM m s N := ⟨_, rfl⟩
 rw [← hX] at CT CRS hxl
 have HST := hid CT; have HRS := hid CRS; have HXL := hid hxl
 clear CT CRS hxl hX hse he hok hnn hout
 have hx64 : X.length ≤ 64 := by rw [HXL.out]; exact hn64
 cases hff : firstM m l with
 | none =>
  rw [hff] at CM CA CRM
  dsimp only [meetV, Option.isSome] at CM CA CRM
  rw [if_neg (by decide)] at CA
  have HMT := hid CM; have HAC := hid CA; have HRM := hid CRM
  clear CM CA CRM hff
  go_enter Tryz.func4, Tryz.ntmps4
  go_wp2_with fail
  refine (HA.out _ (hw.below hS0.b)).mono ?_
  rintro e w1 ⟨rfl, b1⟩
  have hS1 := hS0.mono b1
  have q1 := (hS1.blk 0 rfl).1
  have p1 := (hS1.blk 1 rfl).1
  go_wp2_with (with_reducible refine wpList_ldS (n := 4) (us := mC m ad cap) A_rmach (by kernel_rfl) (by with_unfolding_all rfl) (by with_unfolding_all rfl) (by assumption) (by with_unfolding_all rfl) (by with_unfolding_all rfl) ?_)
  refine (HSh.out _).mono ?_
  rintro e w2 ⟨rfl, b2⟩
  have hS2 := hS1.mono b2
  have q2 := (hS2.blk 0 rfl).1
  have p2 := (hS2.blk 1 rfl).1
  clear q1 p1 hS1
  go_wp2_with (with_reducible refine wpList_ldS (n := 4) (us := mC m ad cap) A_rmach (by kernel_rfl) (by with_unfolding_all rfl) (by with_unfolding_all rfl) (by assumption) (by with_unfolding_all rfl) (by with_unfolding_all rfl) ?_)
  refine (HCK.out _ (hR.below hS2.b) (hL.below hS2.b)).mono ?_
  rintro e w3 ⟨rfl, b3⟩
  have hS3 := hS2.mono b3
  have q3 := (hS3.blk 0 rfl).1
  have p3 := (hS3.blk 1 rfl).1
  clear q2 p2 hS2
  go_wp2_with (with_reducible refine wpList_ldS (n := 4) (us := mC m ad cap) A_mach (by kernel_rfl) (by with_unfolding_all rfl) (by with_unfolding_all rfl) (by assumption) (by with_unfolding_all rfl) (by with_unfolding_all rfl) ?_)
  refine (HCL.out _ (hR.below hS3.b) (hL.below hS3.b)).mono ?_
  rintro e w4 ⟨rfl, b4⟩
  have hS4 := hS3.mono b4
  have q4 := (hS4.blk 0 rfl).1
  have p4 := (hS4.blk 1 rfl).1
  clear q3 p3 hS3
  go_wp2_with (with_reducible refine wpList_ldS (n := 4) (us := mC m ad cap) A_mach (by kernel_rfl) (by with_unfolding_all rfl) (by with_unfolding_all rfl) (by assumption) (by with_unfolding_all rfl) (by with_unfolding_all rfl) ?_)
  refine (HST.out _ (hR.below hS4.b) (hL.below hS4.b)).mono ?_
  rintro e w5 ⟨v5, rfl, ho5, b5⟩
  obtain ⟨a5, c5, rfl, h5, _, _⟩ := ho5.reps
  have hS5 := hS4.mono b5
  have q5 := (hS5.blk 0 rfl).1
  have p5 := (hS5.blk 1 rfl).1
  clear q4 p4 hS4
  clear ho5
  go_wp2_with fail
  refine (rOutside_any (N : Int) 0 999999999 w5).mono ?_
  rw [HOUT.out]
  rintro e w6 ⟨rfl, rfl⟩
  go_wp2_with fail
  refine (lwhen_any false 3 w5).mono ?_
  rintro e w6 ⟨rfl, rfl⟩
  have hS6 := hS5.al (.cells #[.int .i64 0, .int .i64 0] 3)
  have p6 := (hS6.blk 0 rfl).1
  replace h5 := h5.below (bal (Below.refl w5.heap.size w5) (.cells #[.int .i64 0, .int .i64 0] 3))
  clear q5 p5 hS5
  go_wp2_with (first | (go_at_call 23; refine (lfirst4_any _ _ [_, _] _ (reps_newN cIntS [_, _] 2 rfl (by decide) _ _ (by simp) rfl) (by simp)).mono ?_; rw [firstE_z, firstE_z, firstE_nil]; rintro e w' ⟨rfl, rfl⟩) | (with_reducible refine wpList_ldS (n := 4) (us := mC m ad cap) A_rmach (by kernel_rfl) (by with_unfolding_all rfl) (by with_unfolding_all rfl) (by assumption) (by with_unfolding_all rfl) (by with_unfolding_all rfl) ?_))
  refine (HRS.out _ (hR.below hS6.b) (hL.below hS6.b)).mono ?_
  rintro e w7 ⟨v7, rfl, ho7, b7⟩
  obtain ⟨a7, c7, rfl, h7, _, _⟩ := ho7.reps
  have hS7 := hS6.mono b7
  replace h5 := h5.below b7
  clear p6 hS6 ho7
  go_wp2_with fail
  refine (llistOk_any a5 a7 c5 c7 _ X _ h5 h7 rfl (by omega)).mono ?_
  rintro e w8 ⟨rfl, b8⟩
  have hS8 := hS7.mono b8
  have q8 := (hS8.blk 0 rfl).1
  have p8 := (hS8.blk 1 rfl).1
  clear hS7 h5 h7
  go_wp2_with (with_reducible refine wpList_ldS (n := 4) (us := mC m ad cap) A_mach (by kernel_rfl) (by with_unfolding_all rfl) (by with_unfolding_all rfl) (by assumption) (by with_unfolding_all rfl) (by with_unfolding_all rfl) ?_)
  refine (HMT.out _ (hR.below hS8.b) (hL.below hS8.b)).mono ?_
  rintro e w9 ⟨rfl, b9⟩
  have hS9 := hS8.mono b9
  have q9 := (hS9.blk 0 rfl).1
  have p9 := (hS9.blk 1 rfl).1
  clear q8 p8 hS8
  go_wp2_with (with_reducible refine wpList_ldS (n := 4) (us := mC m ad cap) A_mach (by kernel_rfl) (by with_unfolding_all rfl) (by with_unfolding_all rfl) (by assumption) (by with_unfolding_all rfl) (by with_unfolding_all rfl) ?_)
  refine (HAC.out _ (hR.below hS9.b) (hL.below hS9.b)).mono ?_
  rintro e w10 ⟨rfl, b10⟩
  have hS10 := hS9.mono b10
  have q10 := (hS10.blk 0 rfl).1
  have p10 := (hS10.blk 1 rfl).1
  clear q9 p9 hS9
  go_wp2_with (with_reducible refine wpList_ldS (n := 4) (us := mC m ad cap) A_rmach (by kernel_rfl) (by with_unfolding_all rfl) (by with_unfolding_all rfl) (by assumption) (by with_unfolding_all rfl) (by with_unfolding_all rfl) ?_)
  refine (HRM.out _ (hR.below hS10.b) (hL.below hS10.b)).mono ?_
  rintro e w11 ⟨rfl, b11⟩
  go_wp2_with fail
  go_ret
  exact ⟨rfl, bnext hS10.b b11⟩
 | some v =>
  obtain ⟨V1, V2⟩ := v
  rw [hff] at CM CA CRM
  dsimp only [meetV, Option.isSome] at CM CA CRM
  rw [if_pos rfl] at CA
  have HMT := hid CM; have HAC := hid CA; have HRM := hid CRM
  have hv0 : decide ((V1 : Int) < 0) = false := by simp
  clear CM CA CRM hff
  go_enter Tryz.func4, Tryz.ntmps4
  go_wp2_with fail
  refine (HA.out _ (hw.below hS0.b)).mono ?_
  rintro e w1 ⟨rfl, b1⟩
  have hS1 := hS0.mono b1
  have q1 := (hS1.blk 0 rfl).1
  have p1 := (hS1.blk 1 rfl).1
  go_wp2_with (with_reducible refine wpList_ldS (n := 4) (us := mC m ad cap) A_rmach (by kernel_rfl) (by with_unfolding_all rfl) (by with_unfolding_all rfl) (by assumption) (by with_unfolding_all rfl) (by with_unfolding_all rfl) ?_)
  refine (HSh.out _).mono ?_
  rintro e w2 ⟨rfl, b2⟩
  have hS2 := hS1.mono b2
  have q2 := (hS2.blk 0 rfl).1
  have p2 := (hS2.blk 1 rfl).1
  clear q1 p1 hS1
  go_wp2_with (with_reducible refine wpList_ldS (n := 4) (us := mC m ad cap) A_rmach (by kernel_rfl) (by with_unfolding_all rfl) (by with_unfolding_all rfl) (by assumption) (by with_unfolding_all rfl) (by with_unfolding_all rfl) ?_)
  refine (HCK.out _ (hR.below hS2.b) (hL.below hS2.b)).mono ?_
  rintro e w3 ⟨rfl, b3⟩
  have hS3 := hS2.mono b3
  have q3 := (hS3.blk 0 rfl).1
  have p3 := (hS3.blk 1 rfl).1
  clear q2 p2 hS2
  go_wp2_with (with_reducible refine wpList_ldS (n := 4) (us := mC m ad cap) A_mach (by kernel_rfl) (by with_unfolding_all rfl) (by with_unfolding_all rfl) (by assumption) (by with_unfolding_all rfl) (by with_unfolding_all rfl) ?_)
  refine (HCL.out _ (hR.below hS3.b) (hL.below hS3.b)).mono ?_
  rintro e w4 ⟨rfl, b4⟩
  have hS4 := hS3.mono b4
  have q4 := (hS4.blk 0 rfl).1
  have p4 := (hS4.blk 1 rfl).1
  clear q3 p3 hS3
  go_wp2_with (with_reducible refine wpList_ldS (n := 4) (us := mC m ad cap) A_mach (by kernel_rfl) (by with_unfolding_all rfl) (by with_unfolding_all rfl) (by assumption) (by with_unfolding_all rfl) (by with_unfolding_all rfl) ?_)
  refine (HST.out _ (hR.below hS4.b) (hL.below hS4.b)).mono ?_
  rintro e w5 ⟨v5, rfl, ho5, b5⟩
  obtain ⟨a5, c5, rfl, h5, _, _⟩ := ho5.reps
  have hS5 := hS4.mono b5
  have q5 := (hS5.blk 0 rfl).1
  have p5 := (hS5.blk 1 rfl).1
  clear q4 p4 hS4
  clear ho5
  go_wp2_with fail
  refine (rOutside_any (N : Int) 0 999999999 w5).mono ?_
  rw [HOUT.out]
  rintro e w6 ⟨rfl, rfl⟩
  go_wp2_with fail
  refine (lwhen_any false 3 w5).mono ?_
  rintro e w6 ⟨rfl, rfl⟩
  have hS6 := hS5.al (.cells #[.int .i64 0, .int .i64 0] 3)
  have p6 := (hS6.blk 0 rfl).1
  replace h5 := h5.below (bal (Below.refl w5.heap.size w5) (.cells #[.int .i64 0, .int .i64 0] 3))
  clear q5 p5 hS5
  go_wp2_with (first | (go_at_call 23; refine (lfirst4_any _ _ [_, _] _ (reps_newN cIntS [_, _] 2 rfl (by decide) _ _ (by simp) rfl) (by simp)).mono ?_; rw [firstE_z, firstE_z, firstE_nil]; rintro e w' ⟨rfl, rfl⟩) | (with_reducible refine wpList_ldS (n := 4) (us := mC m ad cap) A_rmach (by kernel_rfl) (by with_unfolding_all rfl) (by with_unfolding_all rfl) (by assumption) (by with_unfolding_all rfl) (by with_unfolding_all rfl) ?_))
  refine (HRS.out _ (hR.below hS6.b) (hL.below hS6.b)).mono ?_
  rintro e w7 ⟨v7, rfl, ho7, b7⟩
  obtain ⟨a7, c7, rfl, h7, _, _⟩ := ho7.reps
  have hS7 := hS6.mono b7
  replace h5 := h5.below b7
  clear p6 hS6 ho7
  go_wp2_with fail
  refine (llistOk_any a5 a7 c5 c7 _ X _ h5 h7 rfl (by omega)).mono ?_
  rintro e w8 ⟨rfl, b8⟩
  have hS8 := hS7.mono b8
  have q8 := (hS8.blk 0 rfl).1
  have p8 := (hS8.blk 1 rfl).1
  clear hS7 h5 h7
  go_wp2_with (with_reducible refine wpList_ldS (n := 4) (us := mC m ad cap) A_mach (by kernel_rfl) (by with_unfolding_all rfl) (by with_unfolding_all rfl) (by assumption) (by with_unfolding_all rfl) (by with_unfolding_all rfl) ?_)
  refine (HMT.out _ (hR.below hS8.b) (hL.below hS8.b)).mono ?_
  rintro e w9 ⟨rfl, b9⟩
  have hS9 := hS8.mono b9
  have q9 := (hS9.blk 0 rfl).1
  have p9 := (hS9.blk 1 rfl).1
  clear q8 p8 hS8
  go_wp2_with (with_reducible refine wpList_ldS (n := 4) (us := mC m ad cap) A_mach (by kernel_rfl) (by with_unfolding_all rfl) (by with_unfolding_all rfl) (by assumption) (by with_unfolding_all rfl) (by with_unfolding_all rfl) ?_)
  refine (HAC.out _ (hR.below hS9.b) (hL.below hS9.b)).mono ?_
  rintro e w10 ⟨rfl, b10⟩
  have hS10 := hS9.mono b10
  have q10 := (hS10.blk 0 rfl).1
  have p10 := (hS10.blk 1 rfl).1
  clear q9 p9 hS9
  go_wp2_with (with_reducible refine wpList_ldS (n := 4) (us := mC m ad cap) A_rmach (by kernel_rfl) (by with_unfolding_all rfl) (by with_unfolding_all rfl) (by assumption) (by with_unfolding_all rfl) (by with_unfolding_all rfl) ?_)
  refine (HRM.out _ (hR.below hS10.b) (hL.below hS10.b)).mono ?_
  rintro e w11 ⟨rfl, b11⟩
  go_wp2_with fail
  go_ret
  exact ⟨rfl, bnext hS10.b b11⟩
end Go.Proofs.YtbchpkmcpplidaaGreatDoor

namespace Go.Proofs.YtbchpkmcpplidaaGreatDoor
open Go.RowKit
set_option maxHeartbeats 8000000
set_option maxRecDepth 100000
theorem ml_out (m : MacV) (ad al : Option Addr) (cap cl : Nat) (l : List Int) (n : Int) (w : World) (hR : Ints w ad cap m.sw) (hL : Ints w al cl l) (hI : InI m.gears) (hw : LibW w) (hsb : (decide (m.sw.length ≤ 19) && decide (l.length ≤ 67)) = true) (he : loadE m l = 0) (hnn : n < 0 ∨ 999999999 < n) (h20 : l.length ≤ 20) :
  Calls Tryz.prog 4 #[mV m ad cap, .slice al l.length cl, .int .i64 n] w fun r w' => r = .returned (.bool true) ∧ Below w.heap.size w w' := by
 have hS0 := ((SL.nil w).box (.cells (mC m ad cap) 24)).box (.cells (mC m ad cap) 25)
 simp only [World.size_alloc] at hS0
 have HA := hid awake4_any
 have hlc := hL.le
 have CSh := fun w => rShort_any m ad cap al cl l.length w
 rw [hsb] at CSh
 have HSh := hid CSh
 clear CSh hsb
 have CK := fun w h h2 => lcheck_any m ad cap al cl l w h h2
 have KL : ChkL m ad cap al cl l := CheckLoad_any m ad cap al cl l (fun w h => CheckMachine_any m ad cap w h hI)
 have CL := fun w h h2 => KL w h h2
 have CT := fun w h h2 => mSteps_any m ad cap al cl l n w h h2 KL
 have CM := fun w h h2 => mMeet_any m ad cap al cl l w h h2 KL
 have CA := fun w h h2 => mAccept_any m ad cap al cl l w h h2 KL
 clear KL
 have hok := loadE_zero he
 have hlo := hok.ok.lo
 have hhi := hok.ok.hi
 have hfew := hok.few
 have hn64 : l.length ≤ 64 := by omega
 have CRM := fun w h h2 => rMeet_any m ad cap al cl l w h h2 hlo hhi hok.rng hn64 hok.nodup
 have hmt : meet3 m l = match firstM m l with | none => (0, 0, 7) | some x => (x.1, x.2, 0) := by unfold meet3; rw [if_neg (by simp [he])]; cases firstM m l <;> rfl
 have hac : accE m l = if (firstM m l).isSome then 16 else 0 := by unfold accE; rw [if_neg (by simp [he])]
 rw [he] at CK CL
 rw [hmt] at CM
 rw [hac] at CA
 have HCK := hid CK; have HCL := hid CL
 clear CK CL hmt hac
 have hse : stepsE m l n = 3 := by unfold stepsE; rw [if_neg (by simp [he]), if_pos hnn]
 have hout : (decide (n < 0) || decide (999999999 < n)) = true := by simpa using hnn
 have HOUT := hid hout
 rw [hse, if_neg (by decide)] at CT
 have HST := hid CT
 clear CT hse he hok hnn hout
 cases hff : firstM m l with
 | none =>
  rw [hff] at CM CA CRM
  dsimp only [meetV, Option.isSome] at CM CA CRM
  rw [if_neg (by decide)] at CA
  have HMT := hid CM; have HAC := hid CA; have HRM := hid CRM
  clear CM CA CRM hff
  go_enter Tryz.func4, Tryz.ntmps4
  go_wp2_with fail
  refine (HA.out _ (hw.below hS0.b)).mono ?_
  rintro e w1 ⟨rfl, b1⟩
  have hS1 := hS0.mono b1
  have q1 := (hS1.blk 0 rfl).1
  have p1 := (hS1.blk 1 rfl).1
  go_wp2_with (with_reducible refine wpList_ldS (n := 4) (us := mC m ad cap) A_rmach (by kernel_rfl) (by with_unfolding_all rfl) (by with_unfolding_all rfl) (by assumption) (by with_unfolding_all rfl) (by with_unfolding_all rfl) ?_)
  refine (HSh.out _).mono ?_
  rintro e w2 ⟨rfl, b2⟩
  have hS2 := hS1.mono b2
  have q2 := (hS2.blk 0 rfl).1
  have p2 := (hS2.blk 1 rfl).1
  clear q1 p1 hS1
  go_wp2_with (with_reducible refine wpList_ldS (n := 4) (us := mC m ad cap) A_rmach (by kernel_rfl) (by with_unfolding_all rfl) (by with_unfolding_all rfl) (by assumption) (by with_unfolding_all rfl) (by with_unfolding_all rfl) ?_)
  refine (HCK.out _ (hR.below hS2.b) (hL.below hS2.b)).mono ?_
  rintro e w3 ⟨rfl, b3⟩
  have hS3 := hS2.mono b3
  have q3 := (hS3.blk 0 rfl).1
  have p3 := (hS3.blk 1 rfl).1
  clear q2 p2 hS2
  go_wp2_with (with_reducible refine wpList_ldS (n := 4) (us := mC m ad cap) A_mach (by kernel_rfl) (by with_unfolding_all rfl) (by with_unfolding_all rfl) (by assumption) (by with_unfolding_all rfl) (by with_unfolding_all rfl) ?_)
  refine (HCL.out _ (hR.below hS3.b) (hL.below hS3.b)).mono ?_
  rintro e w4 ⟨rfl, b4⟩
  have hS4 := hS3.mono b4
  have q4 := (hS4.blk 0 rfl).1
  have p4 := (hS4.blk 1 rfl).1
  clear q3 p3 hS3
  go_wp2_with (with_reducible refine wpList_ldS (n := 4) (us := mC m ad cap) A_mach (by kernel_rfl) (by with_unfolding_all rfl) (by with_unfolding_all rfl) (by assumption) (by with_unfolding_all rfl) (by with_unfolding_all rfl) ?_)
  refine (HST.out _ (hR.below hS4.b) (hL.below hS4.b)).mono ?_
  rintro e w5 ⟨v5, rfl, ho5, b5⟩
  obtain ⟨a5, c5, rfl, h5, _, _⟩ := ho5.reps
  have hS5 := hS4.mono b5
  have q5 := (hS5.blk 0 rfl).1
  have p5 := (hS5.blk 1 rfl).1
  clear q4 p4 hS4
  clear ho5
  go_wp2_with fail
  refine (rOutside_any n 0 999999999 w5).mono ?_
  rw [HOUT.out]
  rintro e w6 ⟨rfl, rfl⟩
  go_wp2_with fail
  refine (lwhen_any true 3 w5).mono ?_
  rintro e w6 ⟨rfl, rfl⟩
  go_wp2_with (go_at_call 23; refine (lfirst4_any _ _ [_, _] _ (reps_newN cIntS [_, _] 2 rfl (by decide) _ _ (by simp) rfl) (by simp)).mono ?_; rw [firstE_z, firstE_head (by decide)]; rintro e w' ⟨rfl, rfl⟩)
  have hS6 := hS5.al (.cells #[.int .i64 0, .int .i64 3] 3)
  refine (llistBad_any a5 none c5 0 0 3 _ rfl).mono ?_
  rintro e w8 ⟨rfl, b8⟩
  have hS8 := hS6.mono b8
  have q8 := (hS8.blk 0 rfl).1
  have p8 := (hS8.blk 1 rfl).1
  clear q5 p5 hS5 hS6 h5
  go_wp2_with (with_reducible refine wpList_ldS (n := 4) (us := mC m ad cap) A_mach (by kernel_rfl) (by with_unfolding_all rfl) (by with_unfolding_all rfl) (by assumption) (by with_unfolding_all rfl) (by with_unfolding_all rfl) ?_)
  refine (HMT.out _ (hR.below hS8.b) (hL.below hS8.b)).mono ?_
  rintro e w9 ⟨rfl, b9⟩
  have hS9 := hS8.mono b9
  have q9 := (hS9.blk 0 rfl).1
  have p9 := (hS9.blk 1 rfl).1
  clear q8 p8 hS8
  go_wp2_with (with_reducible refine wpList_ldS (n := 4) (us := mC m ad cap) A_mach (by kernel_rfl) (by with_unfolding_all rfl) (by with_unfolding_all rfl) (by assumption) (by with_unfolding_all rfl) (by with_unfolding_all rfl) ?_)
  refine (HAC.out _ (hR.below hS9.b) (hL.below hS9.b)).mono ?_
  rintro e w10 ⟨rfl, b10⟩
  have hS10 := hS9.mono b10
  have q10 := (hS10.blk 0 rfl).1
  have p10 := (hS10.blk 1 rfl).1
  clear q9 p9 hS9
  go_wp2_with (with_reducible refine wpList_ldS (n := 4) (us := mC m ad cap) A_rmach (by kernel_rfl) (by with_unfolding_all rfl) (by with_unfolding_all rfl) (by assumption) (by with_unfolding_all rfl) (by with_unfolding_all rfl) ?_)
  refine (HRM.out _ (hR.below hS10.b) (hL.below hS10.b)).mono ?_
  rintro e w11 ⟨rfl, b11⟩
  go_wp2_with fail
  go_ret
  exact ⟨rfl, bnext hS10.b b11⟩
 | some v =>
  obtain ⟨V1, V2⟩ := v
  rw [hff] at CM CA CRM
  dsimp only [meetV, Option.isSome] at CM CA CRM
  rw [if_pos rfl] at CA
  have HMT := hid CM; have HAC := hid CA; have HRM := hid CRM
  have hv0 : decide ((V1 : Int) < 0) = false := by simp
  clear CM CA CRM hff
  go_enter Tryz.func4, Tryz.ntmps4
  go_wp2_with fail
  refine (HA.out _ (hw.below hS0.b)).mono ?_
  rintro e w1 ⟨rfl, b1⟩
  have hS1 := hS0.mono b1
  have q1 := (hS1.blk 0 rfl).1
  have p1 := (hS1.blk 1 rfl).1
  go_wp2_with (with_reducible refine wpList_ldS (n := 4) (us := mC m ad cap) A_rmach (by kernel_rfl) (by with_unfolding_all rfl) (by with_unfolding_all rfl) (by assumption) (by with_unfolding_all rfl) (by with_unfolding_all rfl) ?_)
  refine (HSh.out _).mono ?_
  rintro e w2 ⟨rfl, b2⟩
  have hS2 := hS1.mono b2
  have q2 := (hS2.blk 0 rfl).1
  have p2 := (hS2.blk 1 rfl).1
  clear q1 p1 hS1
  go_wp2_with (with_reducible refine wpList_ldS (n := 4) (us := mC m ad cap) A_rmach (by kernel_rfl) (by with_unfolding_all rfl) (by with_unfolding_all rfl) (by assumption) (by with_unfolding_all rfl) (by with_unfolding_all rfl) ?_)
  refine (HCK.out _ (hR.below hS2.b) (hL.below hS2.b)).mono ?_
  rintro e w3 ⟨rfl, b3⟩
  have hS3 := hS2.mono b3
  have q3 := (hS3.blk 0 rfl).1
  have p3 := (hS3.blk 1 rfl).1
  clear q2 p2 hS2
  go_wp2_with (with_reducible refine wpList_ldS (n := 4) (us := mC m ad cap) A_mach (by kernel_rfl) (by with_unfolding_all rfl) (by with_unfolding_all rfl) (by assumption) (by with_unfolding_all rfl) (by with_unfolding_all rfl) ?_)
  refine (HCL.out _ (hR.below hS3.b) (hL.below hS3.b)).mono ?_
  rintro e w4 ⟨rfl, b4⟩
  have hS4 := hS3.mono b4
  have q4 := (hS4.blk 0 rfl).1
  have p4 := (hS4.blk 1 rfl).1
  clear q3 p3 hS3
  go_wp2_with (with_reducible refine wpList_ldS (n := 4) (us := mC m ad cap) A_mach (by kernel_rfl) (by with_unfolding_all rfl) (by with_unfolding_all rfl) (by assumption) (by with_unfolding_all rfl) (by with_unfolding_all rfl) ?_)
  refine (HST.out _ (hR.below hS4.b) (hL.below hS4.b)).mono ?_
  rintro e w5 ⟨v5, rfl, ho5, b5⟩
  obtain ⟨a5, c5, rfl, h5, _, _⟩ := ho5.reps
  have hS5 := hS4.mono b5
  have q5 := (hS5.blk 0 rfl).1
  have p5 := (hS5.blk 1 rfl).1
  clear q4 p4 hS4
  clear ho5
  go_wp2_with fail
  refine (rOutside_any n 0 999999999 w5).mono ?_
  rw [HOUT.out]
  rintro e w6 ⟨rfl, rfl⟩
  go_wp2_with fail
  refine (lwhen_any true 3 w5).mono ?_
  rintro e w6 ⟨rfl, rfl⟩
  go_wp2_with (go_at_call 23; refine (lfirst4_any _ _ [_, _] _ (reps_newN cIntS [_, _] 2 rfl (by decide) _ _ (by simp) rfl) (by simp)).mono ?_; rw [firstE_z, firstE_head (by decide)]; rintro e w' ⟨rfl, rfl⟩)
  have hS6 := hS5.al (.cells #[.int .i64 0, .int .i64 3] 3)
  refine (llistBad_any a5 none c5 0 0 3 _ rfl).mono ?_
  rintro e w8 ⟨rfl, b8⟩
  have hS8 := hS6.mono b8
  have q8 := (hS8.blk 0 rfl).1
  have p8 := (hS8.blk 1 rfl).1
  clear q5 p5 hS5 hS6 h5
  go_wp2_with (with_reducible refine wpList_ldS (n := 4) (us := mC m ad cap) A_mach (by kernel_rfl) (by with_unfolding_all rfl) (by with_unfolding_all rfl) (by assumption) (by with_unfolding_all rfl) (by with_unfolding_all rfl) ?_)
  refine (HMT.out _ (hR.below hS8.b) (hL.below hS8.b)).mono ?_
  rintro e w9 ⟨rfl, b9⟩
  have hS9 := hS8.mono b9
  have q9 := (hS9.blk 0 rfl).1
  have p9 := (hS9.blk 1 rfl).1
  clear q8 p8 hS8
  go_wp2_with (with_reducible refine wpList_ldS (n := 4) (us := mC m ad cap) A_mach (by kernel_rfl) (by with_unfolding_all rfl) (by with_unfolding_all rfl) (by assumption) (by with_unfolding_all rfl) (by with_unfolding_all rfl) ?_)
  refine (HAC.out _ (hR.below hS9.b) (hL.below hS9.b)).mono ?_
  rintro e w10 ⟨rfl, b10⟩
  have hS10 := hS9.mono b10
  have q10 := (hS10.blk 0 rfl).1
  have p10 := (hS10.blk 1 rfl).1
  clear q9 p9 hS9
  go_wp2_with (with_reducible refine wpList_ldS (n := 4) (us := mC m ad cap) A_rmach (by kernel_rfl) (by with_unfolding_all rfl) (by with_unfolding_all rfl) (by assumption) (by with_unfolding_all rfl) (by with_unfolding_all rfl) ?_)
  refine (HRM.out _ (hR.below hS10.b) (hL.below hS10.b)).mono ?_
  rintro e w11 ⟨rfl, b11⟩
  go_wp2_with fail
  go_ret
  exact ⟨rfl, bnext hS10.b b11⟩
end Go.Proofs.YtbchpkmcpplidaaGreatDoor

namespace Go.Proofs.YtbchpkmcpplidaaGreatDoor
open Go.RowKit
set_option maxHeartbeats 8000000
set_option maxRecDepth 100000
theorem MachineLoads_any (m : MacV) (ad al : Option Addr) (cap cl : Nat) (l : List Int) (n : Int) (w : World) (hR : Ints w ad cap m.sw) (hL : Ints w al cl l) (hI : InI m.gears) (hw : LibW w) :
  Calls Tryz.prog 4 #[mV m ad cap, .slice al l.length cl, .int .i64 n] w fun r w' => r = .returned (.bool true) ∧ Below w.heap.size w w' := by
 cases hsb : (decide (m.sw.length ≤ 19) && decide (l.length ≤ 67))
 ·skip
  have hS0 := ((SL.nil w).box (.cells (mC m ad cap) 24)).box (.cells (mC m ad cap) 25)
  simp only [World.size_alloc] at hS0
  have HA := hid awake4_any
  have hlc := hL.le
  have CSh := fun w => rShort_any m ad cap al cl l.length w
  rw [hsb] at CSh
  have HSh := hid CSh
  clear CSh hsb
  go_enter Tryz.func4, Tryz.ntmps4
  go_wp2_with fail
  refine (HA.out _ (hw.below hS0.b)).mono ?_
  rintro e w1 ⟨rfl, b1⟩
  have hS1 := hS0.mono b1
  have q1 := (hS1.blk 0 rfl).1
  have p1 := (hS1.blk 1 rfl).1
  go_wp2_with (with_reducible refine wpList_ldS (n := 4) (us := mC m ad cap) A_rmach (by kernel_rfl) (by with_unfolding_all rfl) (by with_unfolding_all rfl) (by assumption) (by with_unfolding_all rfl) (by with_unfolding_all rfl) ?_)
  refine (HSh.out _).mono ?_
  rintro e w2 ⟨rfl, b2⟩
  have hS2 := hS1.mono b2
  go_wp2_with fail
  refine (HA.out _ (hw.below hS2.b)).mono ?_
  rintro e w3 ⟨rfl, b3⟩
  go_wp2_with fail
  go_ret
  exact ⟨rfl, bnext hS2.b b3⟩
 ·by_cases he : loadE m l = 0
  ·by_cases hnn : n < 0 ∨ 999999999 < n
   ·by_cases h20 : l.length ≤ 20
    ·exact ml_out m ad al cap cl l n w hR hL hI hw hsb he hnn h20
    ·exact ml_outL m ad al cap cl l n w hR hL hI hw hsb he hnn (by omega)
   ·by_cases h20 : l.length ≤ 20
    ·exact ml_good m ad al cap cl l n w hR hL hI hw hsb he hnn h20
    ·exact ml_goodL m ad al cap cl l n w hR hL hI hw hsb he hnn (by omega)
  ·cases hout : (decide (n < 0) || decide (999999999 < n))
   ·exact ml_badF m ad al cap cl l n w hR hL hI hw hsb he hout
   ·exact ml_badT m ad al cap cl l n w hR hL hI hw hsb he hout
end Go.Proofs.YtbchpkmcpplidaaGreatDoor
