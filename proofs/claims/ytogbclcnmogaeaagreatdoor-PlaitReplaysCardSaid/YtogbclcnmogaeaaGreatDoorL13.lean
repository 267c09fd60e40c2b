/- Contract: PlaitReplays returns true. Conditions: the slices can be read, the numbers fit an int. -/
import Derived.Test.YtogbclcnmogaeaaGreatDoorRy3
import Derived.Test.YtogbclcnmogaeaaGreatDoorL2
set_option linter.all false
namespace Go.Proofs.YtogbclcnmogaeaaGreatDoor
open Go.RowKit
set_option maxHeartbeats 2000000
set_option maxRecDepth 100000

theorem replayGo_alen : ∀ (ms : List (Int × Int)) (s : List Int) (k : Nat) (aside : List (Int × Int)), (replayGo s ms k aside).2.length ≤ aside.length + ms.length
  | [], s, k, aside => by simp [replayGo]
  | m :: r, s, k, aside => by
    rw [replayGo]
    split
    · have := replayGo_alen r (nextL s m.1 m.2) (k + 1) aside; simp; omega
    · have := replayGo_alen r s (k + 1) (aside ++ [((k : Int) + 1, legalN s m.1 m.2)]); simp at this ⊢; omega
theorem replayA_len (l : List Int) (ms : List (Int × Int)) : (replayA l ms).length ≤ ms.length := by
  unfold replayA
  split
  · have := replayGo_alen ms l 0 []; simpa [replayL] using this
  · simp
theorem PlaitReplays_any (a a2 : Option Addr) (cap cap2 : Nat) (l : List Int) (ms : List (Int × Int)) (w : World) (hS : Ints w a cap l) (hM : Pairs w a2 cap2 ms) (hI : ∀ x ∈ l, InI x) :
    Calls Tryz.prog 14 #[.slice a l.length cap, .slice a2 ms.length cap2] w fun r w' => r = .returned (.bool true) ∧ Below w.heap.size w w' := by
  have hcap := hS.le
  have hm := hS.max
  have hcap2 := hM.le
  have hm2 := hM.max
  by_cases h66 : l.length ≤ 66
  · have hd : decide (l.length ≤ 66) = true := by simpa using h66
    have HD := hid hd; clear hd
    cases hsm : shortM ms.length
    · have HD2 := hid hsm; clear hsm
      go_enter Tryz.func14, Tryz.ntmps14
      go_wp2_with fail
      refine (shortStand_any _ _ _ _).mono ?_; rw [HD.out]; rintro e w' ⟨rfl, rfl⟩
      go_wp2_with fail
      refine (shortMoves_any _ _ _ _ (by omega)).mono ?_; rw [HD2.out]; rintro e w' ⟨rfl, rfl⟩
      go_wp2_with fail
      refine (awake_any _).mono ?_
      rintro e w' ⟨rfl, hb⟩
      go_wp2_with fail
      go_ret
      exact ⟨rfl, hb⟩
    · have hms : ms.length ≤ 1002 := by
        simp only [shortM, Bool.or_eq_true, Bool.and_eq_true, decide_eq_true_eq] at hsm; omega
      have HD2 := hid hsm; clear hsm
      obtain ⟨q1, hq1⟩ : ∃ q, q = checkStand l := ⟨_, rfl⟩
      obtain ⟨q2, hq2⟩ : ∃ q, q = manyE ms.length := ⟨_, rfl⟩
      have CR := fun (a a2 : Option Addr) (cap cap2 : Nat) (w : World) (hS : Ints w a cap l) (hM : Pairs w a2 cap2 ms) => Replay_any a a2 cap cap2 l ms w hS hM hI (by omega)
      have CU := fun (a : Option Addr) (cap : Nat) (w : World) (hM : Pairs w a cap ms) => Undo_any a cap ms w hM (by omega)
      have CM := fun (a : Option Addr) (cap : Nat) (w : World) => rCheckMoves_any a cap ms.length w
      have CS := fun (a : Option Addr) (cap : Nat) (w : World) (hS : Ints w a cap l) => rCheckStand_any a cap l w hS
      have RU := fun (a : Option Addr) (cap : Nat) (w : World) (hM : Pairs w a cap ms) => rUndo_any a cap ms w hM (by omega)
      have eE : replayE l ms = if q1 ≠ 0 then q1 else q2 := by rw [replayE, ← hq1, ← hq2]
      obtain ⟨E, hE⟩ : ∃ E, E = replayE l ms := ⟨_, rfl⟩
      obtain ⟨T, hT⟩ : ∃ T, T = replayT l ms := ⟨_, rfl⟩
      obtain ⟨R, hR⟩ : ∃ R, R = replayA l ms := ⟨_, rfl⟩
      obtain ⟨U, hU⟩ : ∃ U, U = (if q2 = 0 then undoL ms else []) := ⟨_, rfl⟩
      have hUl : U.length ≤ 1002 := by rw [hU]; split <;> simp [undoL_len]; omega
      rw [← hE, ← hT, ← hR] at CR
      rw [← hq2, ← hU] at CU
      rw [← hq2] at CM
      rw [← hq1] at CS
      rw [← hE] at eE
      have HCR := hid CR; have HCU := hid CU; have HCM := hid CM; have HCS := hid CS; have HRU := hid RU
      have HQ1 := hid hq1; have HQ2 := hid hq2; have HE := hid hE; have HT := hid hT; have HR := hid hR; have HU := hid hU; have HEE := hid eE
      clear CR CU CM CS RU hq1 hq2 hE hT hR hU eE
      go_enter Tryz.func14, Tryz.ntmps14
      go_wp2_with fail
      refine (shortStand_any _ _ _ _).mono ?_; rw [HD.out]; rintro e w' ⟨rfl, rfl⟩
      go_wp2_with fail
      refine (shortMoves_any _ _ _ _ (by omega)).mono ?_; rw [HD2.out]; rintro e w' ⟨rfl, rfl⟩
      go_wp2_with fail
      refine (numbers_any a cap l _ hS (by omega)).mono ?_
      rintro e w1 ⟨v1, rfl, ho1, b1⟩
      obtain ⟨a1, c1, rfl, h1, _, _⟩ := ho1.reps
      go_wp2_with fail
      refine (moves_any a2 cap2 ms w1 (hM.below b1) (by omega)).mono ?_
      rintro e w2 ⟨v2, rfl, ho2, b2⟩
      obtain ⟨a2', c2, rfl, h2, _, _⟩ := ho2.reps
      go_wp2_with fail
      refine (HCR.out a1 a2' c1 c2 w2 (h1.below b2) h2).mono ?_
      rintro e w3 ⟨at_, ct, ar, cr, rfl, hT3, hR3, b3⟩
      have t3 := bnext b1 (bnext b2 b3)
      go_wp2_with fail
      refine (moves_any a2 cap2 ms w3 (hM.below t3) (by omega)).mono ?_
      rintro e w4 ⟨v4, rfl, ho4, b4⟩
      obtain ⟨a4, c4, rfl, h4, _, _⟩ := ho4.reps
      go_wp2_with fail
      refine (HCU.out a4 c4 w4 h4).mono ?_
      rintro e w5 ⟨au, cu, rfl, hU5, _, b5⟩
      have t5 := bnext t3 (bnext b4 b5)
      go_wp2_with fail
      refine (HCM.out a2 cap2 w5).mono ?_
      rintro e w' ⟨rfl, rfl⟩
      have hT5 := hT3.below (bnext b4 b5)
      have hR5 := hR3.below (bnext b4 b5)
      have hS5 := hS.below t5
      have hM5 := hM.below t5
      clear hT3 hR3 ho1 ho2 ho4 h1 h2 h4 b1 b2 b3 b4 b5 t3 hS hM
      by_cases c2 : q2 = 0
      · subst c2
        have eU : undoL ms = U := by rw [HU.out, if_pos rfl]
        have RU := HRU.out
        rw [eU] at RU
        have HRU2 := hid RU; clear RU eU
        go_wp2_with fail
        refine (HRU2.out a2 cap2 w5 hM5).mono ?_
        rintro e w6 ⟨v6, rfl, ho6, b6⟩
        obtain ⟨a6, c6, rfl, h6, _, _⟩ := ho6.reps
        go_wp2_with fail
        refine (ownMoves_any au cu U w6 (hU5.below b6) (by omega)).mono ?_
        rintro e w7 ⟨v7, rfl, ho7, b7⟩
        obtain ⟨a7, c7, rfl, h7, _, _⟩ := ho7.reps
        go_wp2_with fail
        refine (SameMoves_same a7 a6 c7 c6 U w7 h7 (h6.below b7) (by omega)).mono ?_
        rintro e w8 ⟨rfl, b8⟩
        have t8 := bnext b6 (bnext b7 b8)
        go_wp2_with fail
        refine (HCS.out a cap w8 (hS5.below t8)).mono ?_
        rintro e w9 ⟨rfl, b9⟩
        have t9 := bnext t8 b9
        by_cases c1 : q1 = 0
        · subst c1
          have e0 : E = 0 := by rw [HEE.out]; rfl
          have e1 : T = (replayL l ms).1 := by rw [HT.out, replayT, ← HE.out, if_pos e0]
          have e2 : R = (replayL l ms).2 := by rw [HR.out, replayA, ← HE.out, if_pos e0]
          have hsz := (checkStand_zero HQ1.out.symm).1
          have RR := rReplay_any a a2 cap cap2 l ms
          rw [← e1, ← e2] at RR
          have hRl : R.length ≤ 1002 := by have := replayA_len l ms; rw [← HR.out] at this; omega
          have HRR := hid RR
          subst e0
          clear RR e1 e2
          go_wp2_with (go_at_call 29; refine (lfirst_any _ _ [_, _] _ (reps_newN cIntS [_, _] 2 rfl (by decide) _ _ (by simp) rfl)).mono ?_; rintro e w' ⟨rfl, rfl⟩)
          refine (HRR.out _ (hS5.below (bnext t9 (bal (Below.refl _ _) _))) (hM5.below (bnext t9 (bal (Below.refl _ _) _))) (by omega) (by omega) (by omega)).mono ?_
          rintro e w10 ⟨a10, c10, v10, rfl, hTl, h10, ho10, b10⟩
          obtain ⟨a11, c11, rfl, h11, _, _⟩ := ho10.reps
          have t10 := bnext t9 (bnext (bal (Below.refl _ _) _) b10)
          rw [← hTl]
          have hTl2 : T.length ≤ 66 := by omega
          have HTL := hid hTl; clear hTl
          go_wp2_with fail
          refine (SameInts_any at_ a10 ct c10 T T w10 (hT5.below t10) h10 (by omega)).mono ?_
          rw [decide_eq_true rfl]
          rintro e w11 ⟨rfl, b11⟩
          go_wp2_with fail
          refine (ownRefusals_any ar cr R w11 (hR5.below (bnext t10 b11)) (by omega)).mono ?_
          rintro e w12 ⟨v12, rfl, ho12, b12⟩
          obtain ⟨a12, c12, rfl, h12, _, _⟩ := ho12.reps
          go_wp2_with fail
          refine (SameRefusals_same a12 a11 c12 c11 R w12 h12 (h11.below (bnext b11 b12)) (by omega)).mono ?_
          rintro e w13 ⟨rfl, b13⟩
          go_wp2_with fail
          refine (awake_any w13).mono ?_
          rintro e w14 ⟨rfl, b14⟩
          go_wp2_with fail
          go_ret
          exact ⟨rfl, bnext t5 (bnext t10 (bnext b11 (bnext b12 (bnext b13 b14))))⟩
        · have e0 : E = q1 := by rw [HEE.out, if_pos c1]
          have e1 : T = [] := by rw [HT.out, replayT, ← HE.out, if_neg (by omega)]
          have e2 : R = [] := by rw [HR.out, replayA, ← HE.out, if_neg (by omega)]
          subst e0 e1 e2
          go_wp2_with (go_at_call 29; refine (lfirst_any _ _ [_, _] _ (reps_newN cIntS [_, _] 2 rfl (by decide) _ _ (by simp) rfl)).mono ?_; rintro e w' ⟨rfl, rfl⟩)
          refine (awake_any _).mono ?_
          rintro e w14 ⟨rfl, b14⟩
          go_wp2_with fail
          go_ret
          exact ⟨rfl, bnext t5 (bnext t9 (bnext (bal (Below.refl _ _) _) b14))⟩
      · have eU : U = [] := by rw [HU.out, if_neg c2]
        subst eU
        clear hUl
        go_wp2_with fail
        refine (ownMoves_any au cu [] w5 hU5 (by simp)).mono ?_
        rintro e w7 ⟨v7, rfl, ho7, b7⟩
        obtain ⟨a7, c7, rfl, h7, _, _⟩ := ho7.reps
        go_wp2_with fail
        refine (SameMoves_same a7 none c7 0 [] w7 h7 (pairs_nil _) (by simp)).mono ?_
        rintro e w8 ⟨rfl, b8⟩
        have t8 := bnext b7 b8
        go_wp2_with fail
        refine (HCS.out a cap w8 (hS5.below t8)).mono ?_
        rintro e w9 ⟨rfl, b9⟩
        have t9 := bnext t8 b9
        by_cases c1 : q1 = 0
        · subst c1
          have e0 : E = q2 := by rw [HEE.out]; rfl
          have e1 : T = [] := by rw [HT.out, replayT, ← HE.out, if_neg (by omega)]
          have e2 : R = [] := by rw [HR.out, replayA, ← HE.out, if_neg (by omega)]
          subst e0 e1 e2
          go_wp2_with (go_at_call 29; refine (lfirst_any _ _ [_, _] _ (reps_newN cIntS [_, _] 2 rfl (by decide) _ _ (by simp) rfl)).mono ?_; rintro e w' ⟨rfl, rfl⟩)
          refine (awake_any _).mono ?_
          rintro e w14 ⟨rfl, b14⟩
          go_wp2_with fail
          go_ret
          exact ⟨rfl, bnext t5 (bnext t9 (bnext (bal (Below.refl _ _) _) b14))⟩
        · have e0 : E = q1 := by rw [HEE.out, if_pos c1]
          have e1 : T = [] := by rw [HT.out, replayT, ← HE.out, if_neg (by omega)]
          have e2 : R = [] := by rw [HR.out, replayA, ← HE.out, if_neg (by omega)]
          subst e0 e1 e2
          go_wp2_with (go_at_call 29; refine (lfirst_any _ _ [_, _] _ (reps_newN cIntS [_, _] 2 rfl (by decide) _ _ (by simp) rfl)).mono ?_; rintro e w' ⟨rfl, rfl⟩)
          refine (awake_any _).mono ?_
          rintro e w14 ⟨rfl, b14⟩
          go_wp2_with fail
          go_ret
          exact ⟨rfl, bnext t5 (bnext t9 (bnext (bal (Below.refl _ _) _) b14))⟩
  · have hd : decide (l.length ≤ 66) = false := by simpa using h66
    have HD := hid hd; clear hd
    go_enter Tryz.func14, Tryz.ntmps14
    go_wp2_with fail
    refine (shortStand_any _ _ _ _).mono ?_; rw [HD.out]; rintro e w' ⟨rfl, rfl⟩
    go_wp2_with fail
    refine (awake_any _).mono ?_
    rintro e w' ⟨rfl, hb⟩
    go_wp2_with fail
    go_ret
    exact ⟨rfl, hb⟩
end Go.Proofs.YtogbclcnmogaeaaGreatDoor
