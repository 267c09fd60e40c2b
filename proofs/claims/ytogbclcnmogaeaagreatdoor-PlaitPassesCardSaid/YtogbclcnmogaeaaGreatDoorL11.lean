/- Contract: PlaitPasses returns true. Condition: the slice can be read. -/
import Derived.Test.YtogbclcnmogaeaaGreatDoorRUA
import Derived.Test.YtogbclcnmogaeaaGreatDoorAwA
set_option linter.all false
namespace Go.Proofs.YtogbclcnmogaeaaGreatDoor
open Go.RowKit
set_option maxHeartbeats 2000000
set_option maxRecDepth 100000

theorem lettersAll_len {n : Int} (hn : n ≤ 12) : ∀ (l : List PassV), (∀ p ∈ l, passE n p = 0) → (lettersAll l).length ≤ 11 * l.length
  | [], _ => by simp [lettersAll]
  | p :: r, h => by
    have h1 := (passE_small hn (h p (by simp))).2.2.1
    have h2 := lettersAll_len hn r (fun q hq => h q (by simp [hq]))
    unfold lettersAll at h2 ⊢
    rw [List.flatMap_cons, List.length_append, lettersL_len, List.length_cons]
    omega
theorem PlaitPasses_any (n : Int) (a : Option Addr) (cap : Nat) (l : List PassV) (w : World) (hS : PassesR w a cap l) :
    Calls Tryz.prog 12 #[.int .i64 n, .slice a l.length cap] w fun r w' => r = .returned (.bool true) ∧ Below w.heap.size w w' := by
  have hcap := hS.le
  have hm := hS.max
  have CSh := rShortPasses_any a cap l w hS
  cases hsh : shortPB l
  · rw [hsh] at CSh
    have HSh := hid CSh; clear CSh hsh
    go_enter Tryz.func12, Tryz.ntmps12
    go_wp2_with fail
    refine HSh.out.mono ?_
    rintro e w1 ⟨rfl, b1⟩
    go_wp2_with fail
    refine (awake_any _).mono ?_
    rintro e w' ⟨rfl, hb⟩
    go_wp2_with fail
    go_ret
    exact ⟨rfl, bnext b1 hb⟩
  · rw [hsh] at CSh
    have hsl : l.length ≤ 1002 ∧ ∀ p ∈ l, p.way.size ≤ 20 := by
      simp only [shortPB, shortM, Bool.and_eq_true, Bool.or_eq_true, decide_eq_true_eq, List.all_eq_true] at hsh
      exact ⟨by omega, hsh.2⟩
    obtain ⟨hll, hww⟩ := hsl
    have hw : ∀ p ∈ l, p.way.size ≤ 1048576 := fun p hp => by have := hww p hp; omega
    have CW := fun (a : Option Addr) (cap : Nat) (w : World) (hS : PassesR w a cap l) => Word_any n a cap l w hS (by omega) hw
    have CB := fun (a : Option Addr) (cap : Nat) (w : World) (hS : PassesR w a cap l) => Back_any n a cap l w hS (by omega) hw
    have CC := fun (a : Option Addr) (cap : Nat) (w : World) (hS : PassesR w a cap l) => CheckPasses_any n a cap l w hS (by omega) hw
    have RC := fun (a : Option Addr) (cap : Nat) (w : World) (hS : PassesR w a cap l) => rCheckPasses_any n a cap l w hS (by omega) hw
    by_cases h : passesE n l = 0
    · obtain ⟨hn1, hn2, hl2, hall⟩ := passesE_zero h
      have RB := fun (a : Option Addr) (cap : Nat) (w : World) (hS : PassesR w a cap l) => rBack_any a cap l w hS (by omega) (fun p hp => passE_way hn2 (hall p hp))
      have RW := fun (a : Option Addr) (cap : Nat) (w : World) (hS : PassesR w a cap l) => rWord_any n a cap l w hS hn2 hl2 hall
      have hwl := lettersAll_len hn2 l hall
      have hbl := backL_len l
      rw [if_pos h, h] at CB
      rw [h] at CC RC
      have hE : wordErr n l = if 200 < (lettersAll l).length then 5 else 0 := by unfold wordErr; rw [if_neg (fun hh => hh h)]
      obtain ⟨WL, hWL⟩ : ∃ x, x = lettersAll l := ⟨_, rfl⟩
      obtain ⟨BL, hBL⟩ : ∃ x, x = backL l := ⟨_, rfl⟩
      rw [← hWL] at RW hwl hE
      rw [← hBL] at CB RB hbl
      have hBl : BL.length ≤ 1000 := by omega
      have hWl2 : WL.length ≤ 11000 := by omega
      by_cases h200 : 200 < WL.length
      · rw [if_pos h200] at hE
        have eL : wordL n l = [] := by unfold wordL; rw [if_neg (by omega)]
        rw [hE, eL] at CW
        have HW := hid CW; have HB := hid CB; have HC := hid CC; have HRC := hid RC; have HRB := hid RB; have HRW := hid RW; have HSh := hid CSh
        clear CW CB CC RC RB RW CSh hsh hww hw h hall hE eL hWL hBL hbl hwl
        go_enter Tryz.func12, Tryz.ntmps12
        go_wp2_with fail
        refine HSh.out.mono ?_
        rintro e w0 ⟨rfl, b0⟩
        go_wp2_with fail
        refine (passes_any a cap l w0 (hS.below b0) (by omega)).mono ?_
        rintro e w1 ⟨v1, rfl, ho1, b1⟩
        obtain ⟨a1, c1, rfl, q1, _, _⟩ := ho1.reps
        go_wp2_with fail
        refine (HW.out a1 c1 w1 q1).mono ?_
        rintro e w2 ⟨aw, cw, rfl, hw2, _, b2⟩
        have t2 := bnext b0 (bnext b1 b2)
        go_wp2_with fail
        refine (passes_any a cap l w2 (hS.below t2) (by omega)).mono ?_
        rintro e w3 ⟨v3, rfl, ho3, b3⟩
        obtain ⟨a3, c3, rfl, q3, _, _⟩ := ho3.reps
        go_wp2_with fail
        refine (HB.out a3 c3 w3 q3).mono ?_
        rintro e w4 ⟨ab, cb, rfl, hb4, _, b4⟩
        have t4 := bnext t2 (bnext b3 b4)
        go_wp2_with fail
        refine (HRC.out a cap w4 (hS.below t4)).mono ?_
        rintro e w5 ⟨rfl, b5⟩
        go_wp2_with fail
        refine (passes_any a cap l w5 (hS.below (bnext t4 b5)) (by omega)).mono ?_
        rintro e w6 ⟨v6, rfl, ho6, b6⟩
        obtain ⟨a6, c6, rfl, q6, _, _⟩ := ho6.reps
        go_wp2_with fail
        refine (HC.out a6 c6 w6 q6).mono ?_
        rintro e w7 ⟨rfl, b7⟩
        have t7 := bnext t4 (bnext b5 (bnext b6 b7))
        have hb7 := hb4.below (bnext b5 (bnext b6 b7))
        go_wp2_with fail
        refine (ownPasses_any ab cb BL w7 hb7 (by omega)).mono ?_
        rintro e w8 ⟨v8, rfl, ho8, b8⟩
        obtain ⟨a8, c8, rfl, q8, _, _⟩ := ho8.reps
        go_wp2_with fail
        refine (HRB.out a cap w8 (hS.below (bnext t7 b8))).mono ?_
        rintro e w9 ⟨v9, rfl, ho9, b9⟩
        obtain ⟨a9, c9, rfl, q9, _, _⟩ := ho9.reps
        go_wp2_with fail
        refine (SamePasses_same a8 a9 c8 c9 BL w9 (q8.below b9) q9 (by omega)).mono ?_
        rintro e w10 ⟨rfl, b10⟩
        have t10 := bnext t7 (bnext b8 (bnext b9 b10))
        go_wp2_with fail
        refine (HRW.out a cap w10 (hS.below t10)).mono ?_
        rintro e w11 ⟨v11, rfl, ho11, b11⟩
        obtain ⟨a11, c11, rfl, q11, _, _⟩ := ho11.reps
        go_wp2_with fail
        refine (awake_any w11).mono ?_
        rintro e w12 ⟨rfl, b12⟩
        go_wp2_with fail
        go_ret
        exact ⟨rfl, bnext t10 (bnext b11 b12)⟩
      · rw [if_neg h200] at hE
        have eL : wordL n l = WL := by unfold wordL; rw [if_pos hE, hWL]
        rw [hE, eL] at CW
        have HW := hid CW; have HB := hid CB; have HC := hid CC; have HRC := hid RC; have HRB := hid RB; have HRW := hid RW; have HSh := hid CSh
        clear CW CB CC RC RB RW CSh hsh hww hw h hall hE eL hWL hBL hbl hwl
        go_enter Tryz.func12, Tryz.ntmps12
        go_wp2_with fail
        refine HSh.out.mono ?_
        rintro e w0 ⟨rfl, b0⟩
        go_wp2_with fail
        refine (passes_any a cap l w0 (hS.below b0) (by omega)).mono ?_
        rintro e w1 ⟨v1, rfl, ho1, b1⟩
        obtain ⟨a1, c1, rfl, q1, _, _⟩ := ho1.reps
        go_wp2_with fail
        refine (HW.out a1 c1 w1 q1).mono ?_
        rintro e w2 ⟨aw, cw, rfl, hw2, _, b2⟩
        have t2 := bnext b0 (bnext b1 b2)
        go_wp2_with fail
        refine (passes_any a cap l w2 (hS.below t2) (by omega)).mono ?_
        rintro e w3 ⟨v3, rfl, ho3, b3⟩
        obtain ⟨a3, c3, rfl, q3, _, _⟩ := ho3.reps
        go_wp2_with fail
        refine (HB.out a3 c3 w3 q3).mono ?_
        rintro e w4 ⟨ab, cb, rfl, hb4, _, b4⟩
        have t4 := bnext t2 (bnext b3 b4)
        go_wp2_with fail
        refine (HRC.out a cap w4 (hS.below t4)).mono ?_
        rintro e w5 ⟨rfl, b5⟩
        go_wp2_with fail
        refine (passes_any a cap l w5 (hS.below (bnext t4 b5)) (by omega)).mono ?_
        rintro e w6 ⟨v6, rfl, ho6, b6⟩
        obtain ⟨a6, c6, rfl, q6, _, _⟩ := ho6.reps
        go_wp2_with fail
        refine (HC.out a6 c6 w6 q6).mono ?_
        rintro e w7 ⟨rfl, b7⟩
        have t7 := bnext t4 (bnext b5 (bnext b6 b7))
        have hb7 := hb4.below (bnext b5 (bnext b6 b7))
        have hw7 := hw2.below (bnext b3 (bnext b4 (bnext b5 (bnext b6 b7))))
        go_wp2_with fail
        refine (ownPasses_any ab cb BL w7 hb7 (by omega)).mono ?_
        rintro e w8 ⟨v8, rfl, ho8, b8⟩
        obtain ⟨a8, c8, rfl, q8, _, _⟩ := ho8.reps
        go_wp2_with fail
        refine (HRB.out a cap w8 (hS.below (bnext t7 b8))).mono ?_
        rintro e w9 ⟨v9, rfl, ho9, b9⟩
        obtain ⟨a9, c9, rfl, q9, _, _⟩ := ho9.reps
        go_wp2_with fail
        refine (SamePasses_same a8 a9 c8 c9 BL w9 (q8.below b9) q9 (by omega)).mono ?_
        rintro e w10 ⟨rfl, b10⟩
        have t10 := bnext t7 (bnext b8 (bnext b9 b10))
        go_wp2_with fail
        refine (HRW.out a cap w10 (hS.below t10)).mono ?_
        rintro e w11 ⟨v11, rfl, ho11, b11⟩
        obtain ⟨a11, c11, rfl, q11, _, _⟩ := ho11.reps
        go_wp2_with fail
        refine (SameInts_any aw a11 cw c11 WL WL w11 (hw7.below (bnext b8 (bnext b9 (bnext b10 b11)))) q11 (by omega)).mono ?_
        rw [decide_eq_true rfl]
        rintro e w12 ⟨rfl, b12⟩
        go_wp2_with fail
        refine (awake_any w12).mono ?_
        rintro e w13 ⟨rfl, b13⟩
        go_wp2_with fail
        go_ret
        exact ⟨rfl, bnext t10 (bnext b11 (bnext b12 b13))⟩
    · have hE : wordErr n l = passesE n l := by unfold wordErr; rw [if_pos h]
      have eL : wordL n l = [] := by unfold wordL; rw [if_neg (by rw [hE]; exact h)]
      rw [hE, eL] at CW
      rw [if_neg h] at CB
      obtain ⟨q, hq⟩ : ∃ q, q = passesE n l := ⟨_, rfl⟩
      rw [← hq] at CW CB CC RC h
      have HW := hid CW; have HB := hid CB; have HC := hid CC; have HRC := hid RC; have HSh := hid CSh
      clear CW CB CC RC CSh hsh hww hw hE eL hq
      go_enter Tryz.func12, Tryz.ntmps12
      go_wp2_with fail
      refine HSh.out.mono ?_
      rintro e w0 ⟨rfl, b0⟩
      go_wp2_with fail
      refine (passes_any a cap l w0 (hS.below b0) (by omega)).mono ?_
      rintro e w1 ⟨v1, rfl, ho1, b1⟩
      obtain ⟨a1, c1, rfl, q1, _, _⟩ := ho1.reps
      go_wp2_with fail
      refine (HW.out a1 c1 w1 q1).mono ?_
      rintro e w2 ⟨aw, cw, rfl, hw2, _, b2⟩
      have t2 := bnext b0 (bnext b1 b2)
      go_wp2_with fail
      refine (passes_any a cap l w2 (hS.below t2) (by omega)).mono ?_
      rintro e w3 ⟨v3, rfl, ho3, b3⟩
      obtain ⟨a3, c3, rfl, q3, _, _⟩ := ho3.reps
      go_wp2_with fail
      refine (HB.out a3 c3 w3 q3).mono ?_
      rintro e w4 ⟨ab, cb, rfl, hb4, _, b4⟩
      have t4 := bnext t2 (bnext b3 b4)
      go_wp2_with fail
      refine (HRC.out a cap w4 (hS.below t4)).mono ?_
      rintro e w5 ⟨rfl, b5⟩
      go_wp2_with fail
      refine (passes_any a cap l w5 (hS.below (bnext t4 b5)) (by omega)).mono ?_
      rintro e w6 ⟨v6, rfl, ho6, b6⟩
      obtain ⟨a6, c6, rfl, q6, _, _⟩ := ho6.reps
      go_wp2_with fail
      refine (HC.out a6 c6 w6 q6).mono ?_
      rintro e w7 ⟨rfl, b7⟩
      have t7 := bnext t4 (bnext b5 (bnext b6 b7))
      go_wp2_with fail
      refine (awake_any w7).mono ?_
      rintro e w8 ⟨rfl, b8⟩
      go_wp2_with fail
      go_ret
      exact ⟨rfl, bnext t7 b8⟩
end Go.Proofs.YtogbclcnmogaeaaGreatDoor
