/- Contract: PlaitRounds returns true. Conditions: the slices can be read, the numbers fit an int, the table of Itoa is laid. -/
import Derived.Test.YtmomeggnegcheaaGreatDoorRoM
import Derived.Test.YtmomeggnegcheaaGreatDoorNrT
import Derived.Test.YtmomeggnegcheaaGreatDoorEnP
import Derived.Test.YtmomeggnegcheaaGreatDoorAwA
import Derived.Test.YtmomeggnegcheaaGreatDoorL2
import Derived.Test.YtmomeggnegcheaaGreatDoorItA
set_option linter.all false
namespace Go.Proofs.YtmomeggnegcheaaGreatDoor
open Go.RowKit
set_option maxHeartbeats 4000000
set_option maxRecDepth 100000

theorem spans_iff : ∀ (ms : List (Int × Int)) (s acc : List Int), (spansGo s ms acc).2 = true ↔ okAll s ms
  | [], s, acc => by simp [spansGo, okAll]
  | m :: r, s, acc => by
    rw [spansGo, okAll]
    split
    · rename_i h; rw [spans_iff r]; simp [h]
    · rename_i h; simp [h]
theorem spans_len : ∀ (ms : List (Int × Int)) (s acc : List Int), (spansGo s ms acc).1.length ≤ acc.length + ms.length
  | [], s, acc => by simp [spansGo]
  | m :: r, s, acc => by
    rw [spansGo]
    split
    · have := spans_len r (nextL s m.1 m.2) (acc ++ [spanN s s.length m.1 m.2]); simp at this ⊢; omega
    · simp
theorem rounds_zero {l : List Int} {ms : List (Int × Int)} (h : roundE l ms = 0) : roundsE l ms = 0 ∧ roundsB l ms = itoaB (periodN (RoundL l ms)) := by
  have hP := round_p h
  have hpe : permE (RoundL l ms) = 0 := permE_ok hP.isP (by rw [hP.len]; have := hP.st.hi; omega)
  refine ⟨by rw [roundsE, if_pos h, hpe], ?_⟩
  rw [roundsB, if_pos h]
  unfold perS
  rw [if_pos hpe]
theorem rounds_not {l : List Int} {ms : List (Int × Int)} (h : roundE l ms ≠ 0) : roundsE l ms = roundE l ms ∧ roundsB l ms = ⟨#[]⟩ ∧ RoundL l ms = [] :=
  ⟨by rw [roundsE, if_neg h], by rw [roundsB, if_neg h], by rw [RoundL, if_neg h]⟩

theorem PlaitRounds_any (a a2 : Option Addr) (cap cap2 : Nat) (l : List Int) (ms : List (Int × Int)) (w : World) (hS : Ints w a cap l) (hM : Pairs w a2 cap2 ms) (hI : ∀ x ∈ l, InI x) (htab : TabW w) :
    Calls Tryz.prog 3 #[.slice a l.length cap, .slice a2 ms.length cap2] w fun r w' => r = .returned (.bool true) ∧ Below w.heap.size w w' := by
  have hcap := hS.le
  have hm := hS.max
  have hcap2 := hM.le
  have hm2 := hM.max
  by_cases h66 : l.length ≤ 66
  · have hd : decide (l.length ≤ 66) = true := by simpa using h66
    have HD := hid hd; clear hd
    cases hsm : shortM ms.length
    · have HD2 := hid hsm; clear hsm htab
      go_enter Tryz.func3, Tryz.ntmps3
      go_wp2_with fail
      refine (shortStand_any _ _ _ _).mono ?_; rw [HD.out]; rintro e w' ⟨rfl, rfl⟩
      go_wp2_with fail
      refine (shortMoves_any _ _ _ _ (by omega)).mono ?_; rw [HD2.out]; rintro e w' ⟨rfl, rfl⟩
      go_wp2_with fail
      refine (awake_any _).mono ?_
      rintro e w' ⟨rfl, hb⟩
      go_wp2_with fail
      go_ret
      exact ⟨rfl, hb⟩
    · have hms : ms.length ≤ 1002 := by
        simp only [shortM, Bool.or_eq_true, Bool.and_eq_true, decide_eq_true_eq] at hsm; omega
      have HD2 := hid hsm; clear hsm
      obtain ⟨q1, hq1⟩ : ∃ q, q = checkStand l := ⟨_, rfl⟩
      obtain ⟨q2, hq2⟩ : ∃ q, q = manyE ms.length := ⟨_, rfl⟩
      have CM := fun (a : Option Addr) (cap : Nat) (w : World) => rCheckMoves_any a cap ms.length w
      have CS := fun (a : Option Addr) (cap : Nat) (w : World) (hS : Ints w a cap l) => rCheckStand_any a cap l w hS
      have CRo := fun (a a2 : Option Addr) (cap cap2 : Nat) (w : World) (hS : Ints w a cap l) (hM : Pairs w a2 cap2 ms) => Round_any a a2 cap cap2 l ms w hS hM hI (by omega)
      have CSp := fun (a a2 : Option Addr) (cap cap2 : Nat) (w : World) (hS : Ints w a cap l) (hM : Pairs w a2 cap2 ms) => Spans_any a a2 cap cap2 l ms w hS hM hI (by omega)
      have CRs := fun (a a2 : Option Addr) (cap cap2 : Nat) (w' : World) (hS : Ints w' a cap l) (hM : Pairs w' a2 cap2 ms) (hb : Below w.heap.size w w') => Rounds_any a a2 cap cap2 l ms w' hS hM hI (by omega)
        (fun h _ => itoaOk_tab (htab.below hb) _ (by omega) (by have hP := round_p h; have := period_small hP.isP (by rw [hP.len]; exact hP.st.hi); omega))
      obtain ⟨B, hB⟩ : ∃ B, firstE [q1, q2] = B := ⟨_, rfl⟩
      have hB2 : B = if q1 ≠ 0 then q1 else q2 := by rw [← hB, firstE2]
      rw [← hq1] at CS
      rw [← hq2] at CM
      have HCM := hid CM; have HCS := hid CS; have HB := hid hB
      clear CM CS hB htab
      by_cases hz : B = 0
      · have hz1 : q1 = 0 := by
          by_cases c : q1 = 0
          · exact c
          · rw [if_pos c] at hB2; omega
        have hz2 : q2 = 0 := by rw [if_neg (by omega)] at hB2; omega
        have hcs : checkStand l = 0 := by rw [← hq1, hz1]
        have hmn : manyE ms.length = 0 := by rw [← hq2, hz2]
        have hl0 := (checkStand_zero hcs).1
        have hl1 := (checkStand_zero hcs).2.1
        have hms2 : ms.length ≤ 1000 := by unfold manyE at hmn; split at hmn <;> omega
        have CCR := fun (w : World) (hS : Ints w a cap l) (hM : Pairs w a2 cap2 ms) => rCheckRound_any a a2 cap cap2 l ms w hS hM hcs hmn (by omega)
        subst hz
        have hr : roundE l ms = if (replayL l ms).2 ≠ [] then 18 else if shapeGo l (replayL l ms).1 0 l.length then 0 else 19 := by simp [roundE, hcs, hmn]
        have hsp : spansE l ms = if (spansGo l ms []).2 then 0 else 18 := by simp [spansE, hcs, hmn]
        clear hB2
        by_cases hok : okAll l ms
        · rw [if_neg (by simp [okAll_replay.2 hok])] at hr
          have hok2 := (spans_iff ms l []).2 hok
          rw [if_pos hok2] at hsp
          have hsl : spansL l ms = (spansGo l ms []).1 := by rw [spansL, if_pos hsp]
          have CRS := fun (w : World) (hS : Ints w a cap l) (hM : Pairs w a2 cap2 ms) => rSpans_any a a2 cap cap2 l ms w hS hM (by omega) hl1 hms2 hok2
          have hxl := spans_len ms l []
          rw [hsp, hsl] at CSp
          obtain ⟨X, hX⟩ : ∃ X, X = (spansGo l ms []).1 := ⟨_, rfl⟩
          rw [← hX] at CSp CRS hxl
          simp only [List.length_nil] at hxl
          have HSp := hid CSp; have HRS := hid CRS
          clear CSp CRS hsl hX hok2 hsp
          by_cases h0 : roundE l ms = 0
          · have hP := round_p h0
            obtain ⟨z1, z2⟩ := rounds_zero h0
            have CRR := fun (w : World) (hS : Ints w a cap l) (hM : Pairs w a2 cap2 ms) => rRound_any a a2 cap cap2 l ms w hS hM h0 (by omega)
            have CPE := fun (a : Option Addr) (cap : Nat) (w : World) (hS : Ints w a cap (RoundL l ms)) => rPeriod_any a cap (RoundL l ms) w hS hP.isP (by rw [hP.len]; exact hP.st.hi)
            have hpl : (RoundL l ms).length ≤ 64 := by rw [hP.len]; exact hP.st.hi
            rw [h0] at CRo CCR
            rw [z1, z2] at CRs
            obtain ⟨Pm, hPm⟩ : ∃ P, P = RoundL l ms := ⟨_, rfl⟩
            rw [← hPm] at CRo CRs CRR CPE hpl
            obtain ⟨T, hT⟩ : ∃ T, T = itoaB (periodN Pm) := ⟨_, rfl⟩
            rw [← hT] at CRs CPE
            have HRo := hid CRo; have HRs := hid CRs; have HRR := hid CRR; have HPE := hid CPE; have HCR := hid CCR
            clear CRo CRs CRR CPE CCR hT hPm z1 z2 hP h0 hr hok hcs hmn hz1 hz2 hq1 hq2 hI
            go_enter Tryz.func3, Tryz.ntmps3
            go_wp2_with fail
            refine (shortStand_any _ _ _ _).mono ?_; rw [HD.out]; rintro e w' ⟨rfl, rfl⟩
            go_wp2_with fail
            refine (shortMoves_any _ _ _ _ (by omega)).mono ?_; rw [HD2.out]; rintro e w' ⟨rfl, rfl⟩
            go_wp2_with fail
            refine (numbers_any a cap l _ hS (by omega)).mono ?_
            rintro e w1 ⟨v1, rfl, ho1, b1⟩
            obtain ⟨a1, c1, rfl, h1, _, _⟩ := ho1.reps
            go_wp2_with fail
            refine (moves_any a2 cap2 ms w1 (hM.below b1) (by omega)).mono ?_
            rintro e w2 ⟨v2, rfl, ho2, b2⟩
            obtain ⟨a2', c2, rfl, h2, _, _⟩ := ho2.reps
            go_wp2_with fail
            refine (HRo.out a1 a2' c1 c2 w2 (h1.below b2) h2).mono ?_
            intro e w3 hret
            obtain ⟨ap, cp, rfl, hP3, _, b3⟩ := hret.out
            have t3 := bnext b1 (bnext b2 b3)
            clear hret ho1 ho2 h1 h2 b1 b2 b3
            go_wp2_with fail
            refine (numbers_any a cap l w3 (hS.below t3) (by omega)).mono ?_
            rintro e w4 ⟨v4, rfl, ho4, b4⟩
            obtain ⟨a4, c4, rfl, h4, _, _⟩ := ho4.reps
            have t4 := bnext t3 b4
            go_wp2_with fail
            refine (moves_any a2 cap2 ms w4 (hM.below t4) (by omega)).mono ?_
            rintro e w5 ⟨v5, rfl, ho5, b5⟩
            obtain ⟨a5, c5, rfl, h5, _, _⟩ := ho5.reps
            have t5 := bnext t4 b5
            go_wp2_with fail
            refine (HRs.out a4 a5 c4 c5 w5 (h4.below b5) h5 t5).mono ?_
            rintro e w6 ⟨rfl, b6⟩
            have t6 := bnext t5 b6
            have hP6 := hP3.below (bnext b4 (bnext b5 b6))
            clear ho4 ho5 h4 h5 b4 b5 b6 t3 t4 t5 hP3
            go_wp2_with fail
            refine (numbers_any a cap l w6 (hS.below t6) (by omega)).mono ?_
            rintro e w7 ⟨v7, rfl, ho7, b7⟩
            obtain ⟨a7, c7, rfl, h7, _, _⟩ := ho7.reps
            have t7 := bnext t6 b7
            go_wp2_with fail
            refine (moves_any a2 cap2 ms w7 (hM.below t7) (by omega)).mono ?_
            rintro e w8 ⟨v8, rfl, ho8, b8⟩
            obtain ⟨a8, c8, rfl, h8, _, _⟩ := ho8.reps
            have t8 := bnext t7 b8
            go_wp2_with fail
            refine (HSp.out a7 a8 c7 c8 w8 (h7.below b8) h8).mono ?_
            intro e w9 hret
            obtain ⟨ax, cx, rfl, hX9, _, b9⟩ := hret.out
            have t9 := bnext t8 b9
            have hP9 := hP6.below (bnext b7 (bnext b8 b9))
            clear hret ho7 ho8 h7 h8 b7 b8 b9 t6 t7 t8 hP6
            go_wp2_with fail
            refine (HCS.out a cap w9 (hS.below t9)).mono ?_
            rintro e w10 ⟨rfl, b10⟩
            go_wp2_with fail
            refine (HCM.out a2 cap2 w10).mono ?_
            rintro e w' ⟨rfl, rfl⟩
            have t10 := bnext t9 b10
            have hP10 := hP9.below b10
            have hX10 := hX9.below b10
            have hS10 := hS.below t10
            have hM10 := hM.below t10
            clear hP9 hX9 t9 b10 hS hM
            go_wp2_with (go_at_call 15; refine (lfirst_any _ _ [_, _] _ (reps_newN cIntS [_, _] 2 rfl (by decide) _ _ (by simp) rfl)).mono ?_; rw [HB.out]; rintro e w' ⟨rfl, rfl⟩)
            refine (HCR.out _ (hS10.below (bal (Below.refl _ _) _)) (hM10.below (bal (Below.refl _ _) _))).mono ?_
            rintro e w11 ⟨rfl, b11⟩
            have s11 := bnext (bal (Below.refl _ _) _) b11
            go_wp2_with fail
            refine (HRS.out w11 (hS10.below s11) (hM10.below s11)).mono ?_
            rintro e w12 ⟨v12, rfl, ho12, b12⟩
            obtain ⟨a12, c12, rfl, h12, _, _⟩ := ho12.reps
            have s12 := bnext s11 b12
            go_wp2_with fail
            refine (SameInts_any ax a12 cx c12 X X w12 (hX10.below s12) h12 (by omega)).mono ?_
            rw [decide_eq_true rfl]
            rintro e w13 ⟨rfl, b13⟩
            have s13 := bnext s12 b13
            go_wp2_with fail
            refine (HRR.out w13 (hS10.below s13) (hM10.below s13)).mono ?_
            rintro e w14 ⟨v14, rfl, ho14, b14⟩
            obtain ⟨a14, c14, rfl, h14, _, _⟩ := ho14.reps
            have s14 := bnext s13 b14
            go_wp2_with fail
            refine (SameInts_any ap a14 cp c14 Pm Pm w14 (hP10.below s14) h14 (by omega)).mono ?_
            rw [decide_eq_true rfl]
            rintro e w15 ⟨rfl, b15⟩
            have h15 := h14.below b15
            have s15 := bnext s14 b15
            go_wp2_with fail
            refine (HPE.out a14 c14 w15 h15).mono ?_
            rintro e w16 ⟨rfl, b16⟩
            have s16 := bnext s15 b16
            go_wp2_with fail
            refine (awake_any _).mono ?_
            rintro e w20 ⟨rfl, b20⟩
            go_wp2_with fail
            go_ret
            exact ⟨rfl, bnext t10 (bnext s16 b20)⟩
          · have h19 : roundE l ms = 19 := by
              rw [hr] at h0 ⊢
              split at h0
              · exact absurd rfl h0
              · rename_i hq; rw [if_neg hq]
            obtain ⟨z1, z2, z3⟩ := rounds_not h0
            rw [z1, z2, h19] at CRs
            rw [z3, h19] at CRo
            rw [h19] at CCR
            have HRo := hid CRo; have HRs := hid CRs; have HCR := hid CCR
            clear CRo CRs CCR z1 z2 z3 h19 h0 hr hok hcs hmn hz1 hz2 hq1 hq2 hI
            go_enter Tryz.func3, Tryz.ntmps3
            go_wp2_with fail
            refine (shortStand_any _ _ _ _).mono ?_; rw [HD.out]; rintro e w' ⟨rfl, rfl⟩
            go_wp2_with fail
            refine (shortMoves_any _ _ _ _ (by omega)).mono ?_; rw [HD2.out]; rintro e w' ⟨rfl, rfl⟩
            go_wp2_with fail
            refine (numbers_any a cap l _ hS (by omega)).mono ?_
            rintro e w1 ⟨v1, rfl, ho1, b1⟩
            obtain ⟨a1, c1, rfl, h1, _, _⟩ := ho1.reps
            go_wp2_with fail
            refine (moves_any a2 cap2 ms w1 (hM.below b1) (by omega)).mono ?_
            rintro e w2 ⟨v2, rfl, ho2, b2⟩
            obtain ⟨a2', c2, rfl, h2, _, _⟩ := ho2.reps
            go_wp2_with fail
            refine (HRo.out a1 a2' c1 c2 w2 (h1.below b2) h2).mono ?_
            intro e w3 hret
            obtain ⟨ap, cp, rfl, hP3, _, b3⟩ := hret.out
            have t3 := bnext b1 (bnext b2 b3)
            clear hret ho1 ho2 h1 h2 b1 b2 b3
            go_wp2_with fail
            refine (numbers_any a cap l w3 (hS.below t3) (by omega)).mono ?_
            rintro e w4 ⟨v4, rfl, ho4, b4⟩
            obtain ⟨a4, c4, rfl, h4, _, _⟩ := ho4.reps
            have t4 := bnext t3 b4
            go_wp2_with fail
            refine (moves_any a2 cap2 ms w4 (hM.below t4) (by omega)).mono ?_
            rintro e w5 ⟨v5, rfl, ho5, b5⟩
            obtain ⟨a5, c5, rfl, h5, _, _⟩ := ho5.reps
            have t5 := bnext t4 b5
            go_wp2_with fail
            refine (HRs.out a4 a5 c4 c5 w5 (h4.below b5) h5 t5).mono ?_
            rintro e w6 ⟨rfl, b6⟩
            have t6 := bnext t5 b6
            have hP6 := hP3.below (bnext b4 (bnext b5 b6))
            clear ho4 ho5 h4 h5 b4 b5 b6 t3 t4 t5 hP3
            go_wp2_with fail
            refine (numbers_any a cap l w6 (hS.below t6) (by omega)).mono ?_
            rintro e w7 ⟨v7, rfl, ho7, b7⟩
            obtain ⟨a7, c7, rfl, h7, _, _⟩ := ho7.reps
            have t7 := bnext t6 b7
            go_wp2_with fail
            refine (moves_any a2 cap2 ms w7 (hM.below t7) (by omega)).mono ?_
            rintro e w8 ⟨v8, rfl, ho8, b8⟩
            obtain ⟨a8, c8, rfl, h8, _, _⟩ := ho8.reps
            have t8 := bnext t7 b8
            go_wp2_with fail
            refine (HSp.out a7 a8 c7 c8 w8 (h7.below b8) h8).mono ?_
            intro e w9 hret
            obtain ⟨ax, cx, rfl, hX9, _, b9⟩ := hret.out
            have t9 := bnext t8 b9
            have hP9 := hP6.below (bnext b7 (bnext b8 b9))
            clear hret ho7 ho8 h7 h8 b7 b8 b9 t6 t7 t8 hP6
            go_wp2_with fail
            refine (HCS.out a cap w9 (hS.below t9)).mono ?_
            rintro e w10 ⟨rfl, b10⟩
            go_wp2_with fail
            refine (HCM.out a2 cap2 w10).mono ?_
            rintro e w' ⟨rfl, rfl⟩
            have t10 := bnext t9 b10
            have hP10 := hP9.below b10
            have hX10 := hX9.below b10
            have hS10 := hS.below t10
            have hM10 := hM.below t10
            clear hP9 hX9 t9 b10 hS hM
            go_wp2_with (go_at_call 15; refine (lfirst_any _ _ [_, _] _ (reps_newN cIntS [_, _] 2 rfl (by decide) _ _ (by simp) rfl)).mono ?_; rw [HB.out]; rintro e w' ⟨rfl, rfl⟩)
            refine (HCR.out _ (hS10.below (bal (Below.refl _ _) _)) (hM10.below (bal (Below.refl _ _) _))).mono ?_
            rintro e w11 ⟨rfl, b11⟩
            have s11 := bnext (bal (Below.refl _ _) _) b11
            go_wp2_with fail
            refine (HRS.out w11 (hS10.below s11) (hM10.below s11)).mono ?_
            rintro e w12 ⟨v12, rfl, ho12, b12⟩
            obtain ⟨a12, c12, rfl, h12, _, _⟩ := ho12.reps
            have s12 := bnext s11 b12
            go_wp2_with fail
            refine (SameInts_any ax a12 cx c12 X X w12 (hX10.below s12) h12 (by omega)).mono ?_
            rw [decide_eq_true rfl]
            rintro e w13 ⟨rfl, b13⟩
            have s13 := bnext s12 b13
            go_wp2_with fail
            refine (awake_any _).mono ?_
            rintro e w20 ⟨rfl, b20⟩
            go_wp2_with fail
            go_ret
            exact ⟨rfl, bnext t10 (bnext s13 b20)⟩
        · rw [if_pos (fun h => hok (okAll_replay.1 h))] at hr
          have hok2 : ¬ (spansGo l ms []).2 = true := fun h => hok ((spans_iff ms l []).1 h)
          rw [if_neg hok2] at hsp
          have hsl : spansL l ms = [] := by rw [spansL, if_neg (by rw [hsp]; decide)]
          have h0 : roundE l ms ≠ 0 := by rw [hr]; decide
          obtain ⟨z1, z2, z3⟩ := rounds_not h0
          rw [hsp, hsl] at CSp
          rw [z1, z2, hr] at CRs
          rw [z3, hr] at CRo
          rw [hr] at CCR
          have HSp := hid CSp; have HRo := hid CRo; have HRs := hid CRs; have HCR := hid CCR
          clear CSp CRo CRs CCR z1 z2 z3 h0 hr hsp hsl hok2 hok hcs hmn hz1 hz2 hq1 hq2 hI
          go_enter Tryz.func3, Tryz.ntmps3
          go_wp2_with fail
          refine (shortStand_any _ _ _ _).mono ?_; rw [HD.out]; rintro e w' ⟨rfl, rfl⟩
          go_wp2_with fail
          refine (shortMoves_any _ _ _ _ (by omega)).mono ?_; rw [HD2.out]; rintro e w' ⟨rfl, rfl⟩
          go_wp2_with fail
          refine (numbers_any a cap l _ hS (by omega)).mono ?_
          rintro e w1 ⟨v1, rfl, ho1, b1⟩
          obtain ⟨a1, c1, rfl, h1, _, _⟩ := ho1.reps
          go_wp2_with fail
          refine (moves_any a2 cap2 ms w1 (hM.below b1) (by omega)).mono ?_
          rintro e w2 ⟨v2, rfl, ho2, b2⟩
          obtain ⟨a2', c2, rfl, h2, _, _⟩ := ho2.reps
          go_wp2_with fail
          refine (HRo.out a1 a2' c1 c2 w2 (h1.below b2) h2).mono ?_
          intro e w3 hret
          obtain ⟨ap, cp, rfl, hP3, _, b3⟩ := hret.out
          have t3 := bnext b1 (bnext b2 b3)
          clear hret ho1 ho2 h1 h2 b1 b2 b3
          go_wp2_with fail
          refine (numbers_any a cap l w3 (hS.below t3) (by omega)).mono ?_
          rintro e w4 ⟨v4, rfl, ho4, b4⟩
          obtain ⟨a4, c4, rfl, h4, _, _⟩ := ho4.reps
          have t4 := bnext t3 b4
          go_wp2_with fail
          refine (moves_any a2 cap2 ms w4 (hM.below t4) (by omega)).mono ?_
          rintro e w5 ⟨v5, rfl, ho5, b5⟩
          obtain ⟨a5, c5, rfl, h5, _, _⟩ := ho5.reps
          have t5 := bnext t4 b5
          go_wp2_with fail
          refine (HRs.out a4 a5 c4 c5 w5 (h4.below b5) h5 t5).mono ?_
          rintro e w6 ⟨rfl, b6⟩
          have t6 := bnext t5 b6
          have hP6 := hP3.below (bnext b4 (bnext b5 b6))
          clear ho4 ho5 h4 h5 b4 b5 b6 t3 t4 t5 hP3
          go_wp2_with fail
          refine (numbers_any a cap l w6 (hS.below t6) (by omega)).mono ?_
          rintro e w7 ⟨v7, rfl, ho7, b7⟩
          obtain ⟨a7, c7, rfl, h7, _, _⟩ := ho7.reps
          have t7 := bnext t6 b7
          go_wp2_with fail
          refine (moves_any a2 cap2 ms w7 (hM.below t7) (by omega)).mono ?_
          rintro e w8 ⟨v8, rfl, ho8, b8⟩
          obtain ⟨a8, c8, rfl, h8, _, _⟩ := ho8.reps
          have t8 := bnext t7 b8
          go_wp2_with fail
          refine (HSp.out a7 a8 c7 c8 w8 (h7.below b8) h8).mono ?_
          intro e w9 hret
          obtain ⟨ax, cx, rfl, hX9, _, b9⟩ := hret.out
          have t9 := bnext t8 b9
          have hP9 := hP6.below (bnext b7 (bnext b8 b9))
          clear hret ho7 ho8 h7 h8 b7 b8 b9 t6 t7 t8 hP6
          go_wp2_with fail
          refine (HCS.out a cap w9 (hS.below t9)).mono ?_
          rintro e w10 ⟨rfl, b10⟩
          go_wp2_with fail
          refine (HCM.out a2 cap2 w10).mono ?_
          rintro e w' ⟨rfl, rfl⟩
          have t10 := bnext t9 b10
          have hP10 := hP9.below b10
          have hX10 := hX9.below b10
          have hS10 := hS.below t10
          have hM10 := hM.below t10
          clear hP9 hX9 t9 b10 hS hM
          go_wp2_with (go_at_call 15; refine (lfirst_any _ _ [_, _] _ (reps_newN cIntS [_, _] 2 rfl (by decide) _ _ (by simp) rfl)).mono ?_; rw [HB.out]; rintro e w' ⟨rfl, rfl⟩)
          refine (HCR.out _ (hS10.below (bal (Below.refl _ _) _)) (hM10.below (bal (Below.refl _ _) _))).mono ?_
          rintro e w11 ⟨rfl, b11⟩
          have s11 := bnext (bal (Below.refl _ _) _) b11
          go_wp2_with fail
          refine (SameInts_any ax none cx 0 [] [] _ (hX10.below s11) (ints_nil _) (by simp)).mono ?_
          rw [decide_eq_true rfl]
          rintro e w12 ⟨rfl, b12⟩
          have t12 := bnext t10 (bnext s11 b12)
          go_wp2_with fail
          refine (awake_any _).mono ?_
          rintro e w20 ⟨rfl, b20⟩
          go_wp2_with fail
          go_ret
          exact ⟨rfl, bnext t12 b20⟩
      · have hr : roundE l ms = B := by
          unfold roundE; rw [← hq1, ← hq2]
          by_cases c : q1 = 0
          · rw [if_neg (by simpa using c)] at hB2 ⊢; rw [if_pos (by omega)]; exact hB2.symm
          · rw [if_pos c] at hB2 ⊢; exact hB2.symm
        have hsp : spansE l ms = B := by
          unfold spansE; rw [← hq1, ← hq2]
          by_cases c : q1 = 0
          · rw [if_neg (by simpa using c)] at hB2 ⊢; rw [if_pos (by omega)]; exact hB2.symm
          · rw [if_pos c] at hB2 ⊢; exact hB2.symm
        have hsl : spansL l ms = [] := by rw [spansL, if_neg (by rw [hsp]; exact hz)]
        obtain ⟨z1, z2, z3⟩ := rounds_not (by rw [hr]; exact hz)
        rw [hsp, hsl] at CSp
        rw [z1, z2, hr] at CRs
        rw [z3, hr] at CRo
        have HSp := hid CSp; have HRo := hid CRo; have HRs := hid CRs
        clear CSp CRo CRs z1 z2 z3 hr hsp hsl hq1 hq2 hI hB2
        go_enter Tryz.func3, Tryz.ntmps3
        go_wp2_with fail
        refine (shortStand_any _ _ _ _).mono ?_; rw [HD.out]; rintro e w' ⟨rfl, rfl⟩
        go_wp2_with fail
        refine (shortMoves_any _ _ _ _ (by omega)).mono ?_; rw [HD2.out]; rintro e w' ⟨rfl, rfl⟩
        go_wp2_with fail
        refine (numbers_any a cap l _ hS (by omega)).mono ?_
        rintro e w1 ⟨v1, rfl, ho1, b1⟩
        obtain ⟨a1, c1, rfl, h1, _, _⟩ := ho1.reps
        go_wp2_with fail
        refine (moves_any a2 cap2 ms w1 (hM.below b1) (by omega)).mono ?_
        rintro e w2 ⟨v2, rfl, ho2, b2⟩
        obtain ⟨a2', c2, rfl, h2, _, _⟩ := ho2.reps
        go_wp2_with fail
        refine (HRo.out a1 a2' c1 c2 w2 (h1.below b2) h2).mono ?_
        intro e w3 hret
        obtain ⟨ap, cp, rfl, hP3, _, b3⟩ := hret.out
        have t3 := bnext b1 (bnext b2 b3)
        clear hret ho1 ho2 h1 h2 b1 b2 b3
        go_wp2_with fail
        refine (numbers_any a cap l w3 (hS.below t3) (by omega)).mono ?_
        rintro e w4 ⟨v4, rfl, ho4, b4⟩
        obtain ⟨a4, c4, rfl, h4, _, _⟩ := ho4.reps
        have t4 := bnext t3 b4
        go_wp2_with fail
        refine (moves_any a2 cap2 ms w4 (hM.below t4) (by omega)).mono ?_
        rintro e w5 ⟨v5, rfl, ho5, b5⟩
        obtain ⟨a5, c5, rfl, h5, _, _⟩ := ho5.reps
        have t5 := bnext t4 b5
        go_wp2_with fail
        refine (HRs.out a4 a5 c4 c5 w5 (h4.below b5) h5 t5).mono ?_
        rintro e w6 ⟨rfl, b6⟩
        have t6 := bnext t5 b6
        have hP6 := hP3.below (bnext b4 (bnext b5 b6))
        clear ho4 ho5 h4 h5 b4 b5 b6 t3 t4 t5 hP3
        go_wp2_with fail
        refine (numbers_any a cap l w6 (hS.below t6) (by omega)).mono ?_
        rintro e w7 ⟨v7, rfl, ho7, b7⟩
        obtain ⟨a7, c7, rfl, h7, _, _⟩ := ho7.reps
        have t7 := bnext t6 b7
        go_wp2_with fail
        refine (moves_any a2 cap2 ms w7 (hM.below t7) (by omega)).mono ?_
        rintro e w8 ⟨v8, rfl, ho8, b8⟩
        obtain ⟨a8, c8, rfl, h8, _, _⟩ := ho8.reps
        have t8 := bnext t7 b8
        go_wp2_with fail
        refine (HSp.out a7 a8 c7 c8 w8 (h7.below b8) h8).mono ?_
        intro e w9 hret
        obtain ⟨ax, cx, rfl, hX9, _, b9⟩ := hret.out
        have t9 := bnext t8 b9
        have hP9 := hP6.below (bnext b7 (bnext b8 b9))
        clear hret ho7 ho8 h7 h8 b7 b8 b9 t6 t7 t8 hP6
        go_wp2_with fail
        refine (HCS.out a cap w9 (hS.below t9)).mono ?_
        rintro e w10 ⟨rfl, b10⟩
        go_wp2_with fail
        refine (HCM.out a2 cap2 w10).mono ?_
        rintro e w' ⟨rfl, rfl⟩
        have t10 := bnext t9 b10
        have hP10 := hP9.below b10
        have hX10 := hX9.below b10
        have hS10 := hS.below t10
        have hM10 := hM.below t10
        clear hP9 hX9 t9 b10 hS hM
        go_wp2_with (go_at_call 15; refine (lfirst_any _ _ [_, _] _ (reps_newN cIntS [_, _] 2 rfl (by decide) _ _ (by simp) rfl)).mono ?_; rw [HB.out]; rintro e w' ⟨rfl, rfl⟩)
        refine (SameInts_any ax none cx 0 [] [] _ (hX10.below (bal (Below.refl _ _) _)) (ints_nil _) (by simp)).mono ?_
        rw [decide_eq_true rfl]
        rintro e w11 ⟨rfl, b11⟩
        have t11 := bnext t10 (bnext (bal (Below.refl _ _) _) b11)
        go_wp2_with fail
        refine (awake_any _).mono ?_
        rintro e w20 ⟨rfl, b20⟩
        go_wp2_with fail
        go_ret
        exact ⟨rfl, bnext t11 b20⟩
  · have hd : decide (l.length ≤ 66) = false := by simpa using h66
    have HD := hid hd; clear hd htab
    go_enter Tryz.func3, Tryz.ntmps3
    go_wp2_with fail
    refine (shortStand_any _ _ _ _).mono ?_; rw [HD.out]; rintro e w' ⟨rfl, rfl⟩
    go_wp2_with fail
    refine (awake_any _).mono ?_
    rintro e w' ⟨rfl, hb⟩
    go_wp2_with fail
    go_ret
    exact ⟨rfl, hb⟩
end Go.Proofs.YtmomeggnegcheaaGreatDoor
