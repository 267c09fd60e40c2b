/- Contract: Replay. Conditions: slices readable, numbers fit an int, sizes as stated. Contracts: Undo; the reference's Undo and Replay. Conditions: slices readable, sizes as stated. Contracts of the reference: Undo, ShortMoves. Conditions: slices readable, sizes as stated. -/
import Derived.Test.YtmomeggnegcheaaGreatDoorPlB
import Derived.Test.YtmomeggnegcheaaGreatDoorSmA
import Derived.Test.YtmomeggnegcheaaGreatDoorRF
import Derived.Test.YtmomeggnegcheaaGreatDoorRA
import Derived.Test.YtmomeggnegcheaaGreatDoorRlA
import Derived.Test.YtmomeggnegcheaaGreatDoorRlB
set_option linter.all false
/- Contract: Replay. Conditions: slices readable, numbers fit an int, sizes as stated. -/
namespace Go.Proofs.YtmomeggnegcheaaGreatDoor
open Go.RowKit
set_option maxHeartbeats 1000000
set_option maxRecDepth 100000

def replayE (l : List Int) (ms : List (Int × Int)) : Int := if checkStand l ≠ 0 then checkStand l else manyE ms.length
def replayT (l : List Int) (ms : List (Int × Int)) : List Int := if replayE l ms = 0 then (replayL l ms).1 else []
def replayA (l : List Int) (ms : List (Int × Int)) : List (Int × Int) := if replayE l ms = 0 then (replayL l ms).2 else []
theorem Replay_any (a a2 : Option Addr) (cap cap2 : Nat) (l : List Int) (ms : List (Int × Int)) (w : World) (hS : Ints w a cap l) (hM : Pairs w a2 cap2 ms) (hI : ∀ x ∈ l, InI x) (hms : ms.length ≤ 1048576) :
    Calls Tryz.prog 25 #[.slice a l.length cap, .slice a2 ms.length cap2] w fun r w' => ∃ a' cap' a3 cap3, r = .returned (.tuple #[.slice a' (replayT l ms).length cap', .slice a3 (replayA l ms).length cap3, .int .i64 (replayE l ms)]) ∧ Ints w' a' cap' (replayT l ms) ∧ Pairs w' a3 cap3 (replayA l ms) ∧ Below w.heap.size w w' := by
  have hcap := hS.le
  have hm := hS.max
  have hcap2 := hM.le
  have hm2 := hM.max
  have hc := CheckStand_any a cap l w hS hI
  by_cases h : checkStand l = 0
  · have hsz := (checkStand_zero h).1
    have hsz2 := (checkStand_zero h).2.1
    rw [h] at hc
    have HC := hid hc; clear hc
    by_cases hn : manyE ms.length = 0
    · have e0 : replayE l ms = 0 := by simp [replayE, h, hn]
      have e1 : replayT l ms = (replayL l ms).1 := if_pos e0
      have e2 : replayA l ms = (replayL l ms).2 := if_pos e0
      rw [e0, e1, e2]
      have HN := hid hn; clear hn h e0 e1 e2
      go_enter Tryz.func25, Tryz.ntmps25
      go_wp2_with fail
      refine HC.out.mono ?_
      rintro e w1 ⟨rfl, hb1⟩
      go_wp2_with fail
      refine (checkMoves_any a2 cap2 ms.length w1 hms).mono ?_
      rw [HN.out]
      rintro e w2 ⟨rfl, rfl⟩
      go_wp2_with (go_at_call 54; refine (first_any _ _ [_, _] _ (reps_newN cIntS [_, _] 2 rfl (by decide) _ _ (by simp) rfl)).mono ?_; rintro e w' ⟨rfl, rfl⟩)
      refine (replay_any a a2 cap cap2 l ms _ ((hS.below hb1).alloc _) ((hM.below hb1).alloc _) (by omega) (by omega) hms).mono ?_
      rintro e w3 ⟨a3, cap3, v3, rfl, hlen3, hS3, hA3, hf3, hb3⟩
      obtain ⟨a4, cap4, rfl, hr4, _, _⟩ := hA3.reps
      have b3 := bnext (bal hb1 _) hb3
      go_wp2_with fail
      go_ret3
      rw [hlen3]
      exact ⟨a3, cap3, a4, cap4, rfl, hS3, hr4, b3⟩
    · have hr : replayE l ms = manyE ms.length := by simp [replayE, h]
      have e1 : replayT l ms = [] := if_neg (by rw [hr]; exact hn)
      have e2 : replayA l ms = [] := if_neg (by rw [hr]; exact hn)
      rw [e1, e2, hr]
      clear e1 e2
      have hne : (manyE ms.length != 0) = true := by simpa using hn
      have HN := hid hn; clear hn h hr
      go_enter Tryz.func25, Tryz.ntmps25
      go_wp2_with fail
      refine HC.out.mono ?_
      rintro e w1 ⟨rfl, hb1⟩
      go_wp2_with fail
      refine (checkMoves_any a2 cap2 ms.length w1 hms).mono ?_
      rintro e w2 ⟨rfl, rfl⟩
      go_wp2_with (go_at_call 54; refine (first_any _ _ [_, _] _ (reps_newN cIntS [_, _] 2 rfl (by decide) _ _ (by simp) rfl)).mono ?_; rintro e w' ⟨rfl, rfl⟩)
      go_ret3
      exact ⟨none, 0, none, 0, rfl, ints_nil _, pairs_nil _, bal hb1 _⟩
  · have hr : replayE l ms = checkStand l := by simp [replayE, h]
    have e1 : replayT l ms = [] := if_neg (by rw [hr]; exact h)
    have e2 : replayA l ms = [] := if_neg (by rw [hr]; exact h)
    rw [e1, e2, hr]
    clear e1 e2 hr
    have hne : (checkStand l != 0) = true := by simpa using h
    obtain ⟨q, hq⟩ : ∃ q, q = checkStand l := ⟨_, rfl⟩
    rw [← hq] at hc h hne ⊢
    obtain ⟨q2, hq2⟩ : ∃ q, q = manyE ms.length := ⟨_, rfl⟩
    have hck := checkMoves_any a2 cap2 ms.length
    rw [← hq2] at hck
    have HC := hid hc; have HCK := hid hck; clear hc hq hq2 hck
    go_enter Tryz.func25, Tryz.ntmps25
    go_wp2_with fail
    refine HC.out.mono ?_
    rintro e w1 ⟨rfl, hb1⟩
    go_wp2_with fail
    refine (HCK.out w1 hms).mono ?_
    rintro e w2 ⟨rfl, rfl⟩
    go_wp2_with (go_at_call 54; refine (first_any _ _ [_, _] _ (reps_newN cIntS [_, _] 2 rfl (by decide) _ _ (by simp) rfl)).mono ?_; rintro e w' ⟨rfl, rfl⟩)
    go_ret3
    exact ⟨none, 0, none, 0, rfl, ints_nil _, pairs_nil _, bal hb1 _⟩
end Go.Proofs.YtmomeggnegcheaaGreatDoor

/- Contracts: Undo; the reference's Undo and Replay. Conditions: slices readable, sizes as stated. -/
namespace Go.Proofs.YtmomeggnegcheaaGreatDoor
open Go.RowKit
set_option maxHeartbeats 1000000
set_option maxRecDepth 100000

def undoL (l : List (Int × Int)) : List (Int × Int) := l.reverse.map fun m => (m.2, m.1)
theorem undoL_len (l : List (Int × Int)) : (undoL l).length = l.length := by simp [undoL]
theorem undoL_at {l : List (Int × Int)} {k : Nat} (h : k < l.length) {j : Int} (hj : j = (l.length : Int) - 1 - k) : atD (0, 0) (undoL l) k = ((atD (0, 0) l j).2, (atD (0, 0) l j).1) := by
  have h1 : j.toNat = l.length - 1 - k := by omega
  have h2 : l.length - 1 - k < l.length := by omega
  unfold atD undoL
  rw [h1, List.getD_eq_getElem?_getD, List.getElem?_map, Int.toNat_natCast, List.getElem?_reverse h, List.getD_eq_getElem?_getD, List.getElem?_eq_getElem h2]
  rfl
theorem undoC_any (f t : Int) (w : World) :
    Calls Tryz.prog 79 #[.agg #[.int .i64 f, .int .i64 t]] w fun r w' => r = .returned (.agg #[.int .i64 t, .int .i64 f]) ∧ Below w.heap.size w w' := by
  go_enter Tryz.func79, Tryz.ntmps79
  go_wp2
  exact bodyPost_ret (results_cell rfl rfl F_move (by kernel_rfl) (new_at (by simp))) rfl ⟨rfl, bal (bal (Below.refl _ _) _) _⟩

theorem revMoves_any (a : Option Addr) (cap : Nat) (l : List (Int × Int)) (w : World) (hS : Pairs w a cap l) (hl : l.length ≤ 1048576) :
    Calls Tryz.prog 78 #[.slice a l.length cap, .func (.func 79) #[] #[]] w fun r w' => ∃ v, r = .returned v ∧ Own cPair 2 w.heap.size 55 w' v (undoL l) ∧ Below w.heap.size w w' := by
  have hcap := hS.le
  have hm := hS.max
  go_enter Tryz.func78, Tryz.ntmps78
  go_wp2_with fail
  go_loopw [5, 6, 9] (fun v _ i wr => ∃ k : Nat, k ≤ l.length ∧ i = .int .i64 k ∧ Own cPair 2 w.heap.size 55 wr v ((undoL l).take k) ∧ Below w.heap.size w wr) (fun _ _ i _ => l.length - (intOf i).toNat)
  case atStart => exact ⟨0, by omega, rfl, own_nil cPairS, Below.refl _ _⟩
  case round =>
    obtain ⟨k, hk, rfl, hO, hbr⟩ := hrel
    have hSr := hS.below hbr
    have hbs := hbr.size
    have hle : ((undoL l).take k).length ≤ 1048576 := by simp; omega
    by_cases hlt : k < l.length
    · have hs := take_step (0, 0) (undoL l) k (by rw [undoL_len]; exact hlt)
      rw [undoL_at hlt rfl] at hs
      obtain ⟨o, ho⟩ : ∃ o, o = (undoL l).take k := ⟨_, rfl⟩
      rw [← ho] at hs hO hle
      have HS := hid hs; clear hs ho
      obtain ⟨f, hf⟩ : ∃ f, f = (atD (0, 0) l ((l.length : Int) - 1 - k)).1 := ⟨_, rfl⟩
      obtain ⟨t, ht⟩ : ∃ t, t = (atD (0, 0) l ((l.length : Int) - 1 - k)).2 := ⟨_, rfl⟩
      have HF := hid hf; have HT := hid ht; clear hf ht
      go_wp2_with (first | (with_reducible refine wpList_idxS _ (0, 0) E_moves F_move cPair1 (by with_unfolding_all rfl) (by with_unfolding_all rfl) (hSr) (by first | omega | (simp; done)) (by first | omega | (simp; done)) (fun _ => by with_unfolding_all rfl) (fun _ => ?_)))
      rw [← HF.out, ← HT.out]
      refine (undoC_any f t wr).mono ?_
      rintro e w2 ⟨rfl, hb2⟩
      have hO2 := hO.below hb2
      have b2 := bnext hbr hb2
      have hbs2 := b2.size
      go_wp2_with (first | ((with_reducible refine wpList_app (l := o) (ys := [(t, f)]) E_moves (by with_unfolding_all rfl) (by with_unfolding_all rfl) ((hO2).alloc _) (reps_new1 cPairS ((t, f)) _ _ (by simp) rfl) cPairO (by simp; omega) (by first | omega | (simp; omega)) (by simp; omega) ?_); intro v3 w3 ho3 hg3 hat3))
      exact ⟨⟨k + 1, by omega, by go_num, by rw [HS.out, ← HF.out, ← HT.out]; exact ho3, below_own (bal b2 (.cells #[.int .i64 t, .int .i64 f] 55)) hg3 (hO2.alloc _) (Nat.le_refl _)⟩, by simp [intOf]; omega⟩
    · have : k = l.length := by omega
      subst this
      rw [List.take_of_length_le (by rw [undoL_len]; exact Nat.le_refl _)] at hO
      clear hle
      go_wp2_with fail
      go_ret
      exact ⟨_, rfl, hO, hbr⟩

theorem Undo_any (a : Option Addr) (cap : Nat) (l : List (Int × Int)) (w : World) (hS : Pairs w a cap l) (hl : l.length ≤ 1048576) :
    Calls Tryz.prog 28 #[.slice a l.length cap] w fun r w' => RetPE w (if manyE l.length = 0 then undoL l else []) (manyE l.length) r w' := by
  have hcap := hS.le
  have hm := hS.max
  have hc := fun w => checkMoves_any a cap l.length w hl
  by_cases h : manyE l.length = 0
  · rw [if_pos h, h]
    rw [h] at hc
    have HC := hid hc; clear hc h
    go_enter Tryz.func28, Tryz.ntmps28
    go_wp2_with fail
    refine (HC.out w).mono ?_
    rintro e w' ⟨rfl, rfl⟩
    go_wp2_with fail
    refine (revMoves_any a cap l w hS hl).mono ?_
    rintro e w2 ⟨v2, rfl, ho2, hb2⟩
    go_wp2_with fail
    go_ret2
    exact RetPE.own v2 rfl ho2 (Nat.le_refl _) hb2
  · rw [if_neg h]
    obtain ⟨q, hq⟩ : ∃ q, q = manyE l.length := ⟨_, rfl⟩
    rw [← hq] at hc h ⊢
    have HC := hid hc; clear hc hq
    go_enter Tryz.func28, Tryz.ntmps28
    go_wp2_with fail
    refine (HC.out w).mono ?_
    rintro e w' ⟨rfl, rfl⟩
    go_wp2_with fail
    go_ret2
    exact RetPE.none rfl (Below.refl _ _)

theorem rReplayB_any (a a2 : Option Addr) (cap cap2 : Nat) (l : List Int) (ms : List (Int × Int)) (w : World) (hS : Ints w a cap l) (hM : Pairs w a2 cap2 ms) (hsm : l.length ≤ 1048576) (hl0 : 0 < l.length) (hms : ms.length ≤ 1048576) :
    Calls Tryz.prog 61 #[.slice a l.length cap, .slice a2 ms.length cap2] w fun r w' => ∃ a' cap' v2, r = .returned (.tuple #[.slice a' l.length cap', v2]) ∧ (replayL l ms).1.length = l.length ∧ Ints w' a' cap' (replayL l ms).1 ∧
      Own cPair 2 w.heap.size 166 w' v2 (replayL l ms).2 ∧ Below w.heap.size w w' ∧ (∀ b, a' = some b → w.heap.size ≤ b.block) := by
  have hcap := hS.le
  have hm := hS.max
  have hcap2 := hM.le
  have hm2 := hM.max
  go_enter Tryz.func61, Tryz.ntmps61
  go_wp2_with ((with_reducible refine wpList_app (B := w.heap.size) (l := []) (ys := l) E_ints (by with_unfolding_all rfl) (by with_unfolding_all rfl) (own_made0 cIntS w rfl (Nat.le_refl _)) (hS.alloc _) cIntO (by simp; omega) (by simp) (by simp; omega) ?_); intro v1 w1 ho1 hg1 _)
  have hb1 : Below w.heap.size w w1 := (bal (Below.refl _ _) _).grown hg1 (by simp) (fun k hk => by cases hk; exact Nat.le_refl _)
  simp only [List.nil_append] at ho1
  obtain ⟨a1, cap1, rfl, hr1, hf1, _⟩ := ho1.reps
  go_loopw [0, 6, 7, 8] (fun v0 v6 i _ wr => ∃ (k : Nat) (s : List Int) (aside : List (Int × Int)) (a0 : Option Addr) (cap0 : Nat), k ≤ ms.length ∧ i = .int .i64 k ∧ v0 = .slice a0 l.length cap0 ∧ s.length = l.length ∧ Ints wr a0 cap0 s ∧
      Own cPair 2 w.heap.size 166 wr v6 aside ∧ aside.length ≤ k ∧ (∀ b, a0 = some b → w.heap.size ≤ b.block ∧ b.block < wr.heap.size ∧ v6.ownBlock ≠ some b.block) ∧ Below w.heap.size w wr ∧ replayGo s (ms.drop k) k aside = replayL l ms)
    (fun _ _ i _ _ => ms.length - (intOf i).toNat)
  case atStart => exact ⟨0, l, [], a1, cap1, by omega, rfl, rfl, rfl, hr1, own_nil cPairS, by simp, fun b hb => ⟨(hf1 b hb).1, (hf1 b hb).2, by simp [Value.ownBlock]⟩, hb1, rfl⟩
  case round =>
    obtain ⟨k, s, aside, a0, cap0, hk, rfl, rfl, hsl, hSr, hA, hal, hsep, hb, hgo⟩ := hrel
    have hcap0 := hSr.le
    have hmax0 := hSr.max
    have HSL := hid hsl; clear hsl
    by_cases hlt : k < ms.length
    · have hstep := replayGo_step s ms k aside hlt
      rw [hgo] at hstep
      have HST := hid hstep; clear hstep
      have HG := hid hgo; clear hgo
      have HSEP := hid hsep; clear hsep
      have hMr := hM.below hb
      obtain ⟨f, hf⟩ : ∃ f, f = (atD (0, 0) ms k).1 := ⟨_, rfl⟩
      obtain ⟨t, ht⟩ : ∃ t, t = (atD (0, 0) ms k).2 := ⟨_, rfl⟩
      have hst := HST.out
      rw [← hf, ← ht] at hst
      have HST2 := hid hst; clear hst HST
      have HF := hid hf; clear hf
      have HT := hid ht; clear ht
      go_wp2_with (with_reducible refine wpList_idxS _ (0, 0) E_rmoves F_rmove cPair1 (by with_unfolding_all rfl) (by with_unfolding_all rfl) (hMr) (by first | omega | (simp; done)) (by first | omega | (simp; done)) (fun _ => by with_unfolding_all rfl) (fun _ => ?_))
      rw [← HF.out, ← HT.out]
      have hc := rLegal_any f t a0 cap0 s wr hSr
      rw [HSL.out] at hc
      by_cases hz : legalN s f t = 0
      · rw [hz] at hc
        refine hc.mono ?_
        clear hc
        rintro e w2 ⟨rfl, hb2⟩
        have b2 := bnext hb hb2
        have HZ := hid hz; clear hz
        have hM2 := hM.below b2
        go_wp2_with (with_reducible refine wpList_idxS _ (0, 0) E_rmoves F_rmove cPair1 (by with_unfolding_all rfl) (by with_unfolding_all rfl) (hM2) (by first | omega | (simp; done)) (by first | omega | (simp; done)) (fun _ => by with_unfolding_all rfl) (fun _ => ?_))
        rw [← HF.out, ← HT.out]
        obtain ⟨z1, z2, z3, z4, _, _⟩ := legalN_zero HZ.out
        have hc := rNext_any f t a0 cap0 s w2 (hSr.below hb2) (by rw [HSL.out]; exact hsm) z1 z2 z3 z4
        rw [HSL.out] at hc
        refine hc.mono ?_
        clear hc
        rintro e w3 ⟨v3, rfl, ho3, hb3⟩
        obtain ⟨a3, cap3, rfl, hr3, hf3, _⟩ := ho3.reps
        rw [show (nextL s f t).length = l.length by rw [nextL_len, HSL.out]]
        go_wp2_with fail
        have hA3 := (hA.below hb2).below hb3
        have hst := HST2.out
        rw [if_pos HZ.out] at hst
        go_roundw
        case rel =>
          refine ⟨k + 1, nextL s f t, aside, a3, cap3, by omega, by go_num, rfl, by rw [nextL_len]; exact HSL.out, hr3, hA3, by omega, fun b hb => ?_, bnext b2 hb3, hst.symm⟩
          have h3 := hf3 b hb
          refine ⟨Nat.le_trans b2.size h3.1, h3.2, fun e => ?_⟩
          have := (hA.lt b.block e).2
          have := h3.1
          have := hb2.size
          omega
        case measure => simp [intOf]; omega
      · have hq := legalN_pos hz
        obtain ⟨q, hqe⟩ : ∃ q, q = legalN s f t := ⟨_, rfl⟩
        rw [← hqe] at hc hz hq
        have HQ := hid hqe; clear hqe
        refine hc.mono ?_
        clear hc
        rintro e w2 ⟨rfl, hb2⟩
        have b2 := bnext hb hb2
        have hA2 := hA.below hb2
        have hpos : 0 < q := by omega
        have HZ := hid hz; clear hz
        go_wp2_with ((with_reducible refine wpList_app (B := w.heap.size) (l := aside) (ys := [((k : Int) + 1, q)]) E_rrefs (by with_unfolding_all rfl) (by with_unfolding_all rfl) (hA2.alloc _) (reps_new1 cPairS ((k : Int) + 1, q) _ _ (by simp) rfl) cPairO (by simp; omega) (by simp; have := b2.size; omega) (by simp; omega) ?_); intro v4 w4 ho4 hg4 hat4)
        have b4 := below_own (bal b2 (.cells #[.int .i64 ((k : Int) + 1), .int .i64 q] 166)) hg4 (hA2.alloc _) (Nat.le_refl _)
        have hsep := HSEP.out
        have hS4 : Ints w4 a0 cap0 s := ((hSr.below hb2).alloc (.cells #[.int .i64 ((k : Int) + 1), .int .i64 q] 166)).grown hg4 (fun b hb e => (hsep b hb).2.2 e.symm)
        have hst := HST2.out
        rw [if_neg (by rw [← HQ.out]; exact HZ.out), ← HQ.out] at hst
        have hsz := hg4.size
        have hsz2 := hb2.size
        simp at hsz hsz2
        go_roundw
        case rel =>
          refine ⟨k + 1, s, _, a0, cap0, by omega, by go_num, rfl, HSL.out, hS4, ho4, by simp; omega, fun b hb => ?_, b4, hst.symm⟩
          have h3 := hsep b hb
          refine ⟨h3.1, by omega, fun e => ?_⟩
          rcases hat4 with h | h
          · exact h3.2.2 (h ▸ e)
          · rw [h] at e
            simp at e
            omega
        case measure => simp [intOf]; omega
    · have : k = ms.length := by omega
      subst this
      have e : replayGo s (ms.drop ms.length) ms.length aside = (s, aside) := by simp [replayGo]
      rw [e] at hgo
      have HG := hid hgo; clear hgo e
      go_wp2
      go_ret2
      rw [← HG.out]
      exact ⟨a0, cap0, _, rfl, HSL.out, hSr, hA, hb, fun b hb => (hsep b hb).1⟩
theorem rReplay_any (a a2 : Option Addr) (cap cap2 : Nat) (l : List Int) (ms : List (Int × Int)) (w : World) (hS : Ints w a cap l) (hM : Pairs w a2 cap2 ms) (hsm : l.length ≤ 1048576) (hl0 : 0 < l.length) (hms : ms.length ≤ 1048576) :
    Calls Tryz.prog 61 #[.slice a l.length cap, .slice a2 ms.length cap2] w fun r w' => ∃ a' cap' v2, r = .returned (.tuple #[.slice a' l.length cap', v2]) ∧ (replayL l ms).1.length = l.length ∧ Ints w' a' cap' (replayL l ms).1 ∧
      Own cPair 2 w.heap.size 166 w' v2 (replayL l ms).2 ∧ Below w.heap.size w w' :=
  (rReplayB_any a a2 cap cap2 l ms w hS hM hsm hl0 hms).mono fun e w' ⟨a', cap', v2, h1, h2, h3, h4, h5, _⟩ => ⟨a', cap', v2, h1, h2, h3, h4, h5⟩
end Go.Proofs.YtmomeggnegcheaaGreatDoor

/- Contracts of the reference: Undo, ShortMoves. Conditions: slices readable, sizes as stated. -/
namespace Go.Proofs.YtmomeggnegcheaaGreatDoor
open Go.RowKit
set_option maxHeartbeats 1000000
set_option maxRecDepth 100000

section
variable {P : Program} {ops : Array Oper} {Qa : Act → Prop} {w : World} {rest : List Oper} {a : Act} {ty : TypeId} {p : String} {af : Array Edge} {g : Option (Nat × Bool)} {d : Tmp}
theorem wpB_cell {e : TypeId} {s : Operand} {x : Addr} {v : Value} (hF : Flat P e) (hg : Region.wanted (⟨some d, .load e s, ty, p, af, g⟩ : Oper) (yielded ops a.tmps) = true) (hs : a.eval s = .pointer (some x))
    (hb : w.cell? x = some v) (h : wpQuiet P ops (Below w.heap.size w) Qa rest (a.put (some d) v)) : wpQuiet P ops (Below w.heap.size w) Qa (⟨some d, .load e s, ty, p, af, g⟩ :: rest) a := by
  refine wpQ_inG v hg (fun w' hw' => ?_) h
  have hc : w'.cell? x = some v := (hw'.cell (World.block_lt_of_cell? w _ hb)).trans hb
  simp [execOp, hs, run_loadAt_cell w' hF hc, Result.andThen]
end

def shortM (n : Nat) : Bool := decide (n ≤ 40) || (decide (1000 < n) && decide (n ≤ 1002))
theorem shortMoves_any (a : Option Addr) (cap n : Nat) (w : World) (hn : n ≤ 9223372036854775807) :
    Calls Tryz.prog 8 #[.slice a n cap] w fun r w' => r = .returned (.bool (shortM n)) ∧ w = w' := by
  by_cases h1 : n ≤ 40
  · have e : shortM n = true := by simp [shortM, h1]
    rw [e]
    go_enter Tryz.func8, Tryz.ntmps8
    go_wp2
    go_ret
    exact ⟨rfl, rfl⟩
  by_cases h2 : 1000 < n
  · by_cases h3 : n ≤ 1002
    · have e : shortM n = true := by simp [shortM, h2, h3]
      rw [e]
      go_enter Tryz.func8, Tryz.ntmps8
      go_wp2
      go_ret
      exact ⟨by simp; omega, rfl⟩
    · have e : shortM n = false := by simp [shortM, h1, h3]
      rw [e]
      go_enter Tryz.func8, Tryz.ntmps8
      go_wp2
      go_ret
      exact ⟨by simp; omega, rfl⟩
  · have e : shortM n = false := by simp [shortM, h1, h2]
    rw [e]
    go_enter Tryz.func8, Tryz.ntmps8
    go_wp2
    go_ret
    exact ⟨by simp; omega, rfl⟩

end Go.Proofs.YtmomeggnegcheaaGreatDoor
