/- Contract: PlaitCircles returns true. Conditions: the slices can be read, the numbers fit an int, the table of Itoa is laid. -/
import Derived.Test.YtmomeggnegcheaaGreatDoorL3
import Derived.Test.YtmomeggnegcheaaGreatDoorCiB
set_option linter.all false
namespace Go.Proofs.YtmomeggnegcheaaGreatDoor
open Go.RowKit
set_option maxHeartbeats 4000000
set_option maxRecDepth 100000

theorem round_err {l : List Int} {ms : List (Int × Int)} (hc : checkStand l = 0) (hm : manyE ms.length = 0) (h : roundE l ms ≠ 0) : roundE l ms = 18 ∨ roundE l ms = 19 := by
  have hr : roundE l ms = if (replayL l ms).2 ≠ [] then 18 else if shapeGo l (replayL l ms).1 0 l.length then 0 else 19 := by simp [roundE, hc, hm]
  rw [hr] at h ⊢
  split
  · exact .inl rfl
  · rename_i h1
    rw [if_neg h1] at h
    split
    · rename_i h2; rw [if_pos h2] at h; exact absurd rfl h
    · exact .inr rfl
theorem now_len {l p : List Int} {ms : List (Int × Int)} (h : RoundP l ms p) (n : Nat) : (nowL l ms n).length = l.length := (h.now n).1.1
theorem now_iff {l p : List Int} {ms : List (Int × Int)} (h : RoundP l ms p) (n : Nat) : nowL l ms n = l ↔ periodN p ∣ n := by
  rw [h.back n, ← period_iff h.isP, h.len]

theorem PlaitCircles_any (a a2 : Option Addr) (cap cap2 : Nat) (l : List Int) (ms : List (Int × Int)) (w : World) (hS : Ints w a cap l) (hM : Pairs w a2 cap2 ms) (hI : ∀ x ∈ l, InI x) (htab : TabW w) :
    Calls Tryz.prog 4 #[.slice a l.length cap, .slice a2 ms.length cap2] w fun r w' => r = .returned (.bool true) ∧ Below w.heap.size w w' := by
  have hcap := hS.le
  have hm := hS.max
  have hcap2 := hM.le
  have hm2 := hM.max
  by_cases h16 : 16 < l.length
  · clear htab
    go_enter Tryz.func4, Tryz.ntmps4
    go_wp2_with fail
    refine (awake_any _).mono ?_
    rintro e w' ⟨rfl, hb⟩
    go_wp2_with fail
    go_ret
    exact ⟨rfl, hb⟩
  by_cases h12 : 12 < ms.length
  · clear htab
    go_enter Tryz.func4, Tryz.ntmps4
    go_wp2_with fail
    refine (awake_any _).mono ?_
    rintro e w' ⟨rfl, hb⟩
    go_wp2_with fail
    go_ret
    exact ⟨rfl, hb⟩
  have hmn : manyE ms.length = 0 := by unfold manyE; rw [if_neg (by omega)]
  have CS := fun (w : World) (hS : Ints w a cap l) => rCheckStand_any a cap l w hS
  obtain ⟨q1, hq1⟩ : ∃ q, q = checkStand l := ⟨_, rfl⟩
  rw [← hq1] at CS
  have HCS := hid CS; clear CS
  by_cases hz : q1 = 0
  · subst hz
    have hcs : checkStand l = 0 := hq1.symm
    have CRo := fun (a a2 : Option Addr) (cap cap2 : Nat) (w : World) (hS : Ints w a cap l) (hM : Pairs w a2 cap2 ms) => Round_any a a2 cap cap2 l ms w hS hM hI (by omega)
    have CRs := fun (a a2 : Option Addr) (cap cap2 : Nat) (w' : World) (hS : Ints w' a cap l) (hM : Pairs w' a2 cap2 ms) (hb : Below w.heap.size w w') => Rounds_any a a2 cap cap2 l ms w' hS hM hI (by omega)
      (fun h _ => itoaOk_tab (htab.below hb) _ (by omega) (by have hP := round_p h; have := period_small hP.isP (by rw [hP.len]; exact hP.st.hi); omega))
    clear htab
    by_cases h0 : roundE l ms = 0
    · have hP := round_p h0
      obtain ⟨z1, z2⟩ := rounds_zero h0
      have hpl : (RoundL l ms).length = l.length := hP.len
      rw [h0] at CRo
      rw [z1, z2] at CRs
      have CC := fun (a : Option Addr) (cap : Nat) (w : World) (hS : Ints w a cap (RoundL l ms)) => rCheckPerm_any a cap (RoundL l ms) w hS hP.isP (by rw [hP.len]; omega)
      have hper0 := period_pos hP.isP
      have hper1 := period_small hP.isP (by rw [hpl]; omega)
      have hnow := now_iff hP
      have hfr := hP.fr
      have hmv := (hP.next (x := l) ⟨rfl, fun _ _ _ => Iff.rfl⟩ hP.st).2.2.2
      have hrg := hP.rng
      have hst : ∀ j, checkStand (nowL l ms j) = 0 := fun j => checkStand_iff.2 (hP.now j).2.1
      have CN : ∀ (j : Nat) (a a2 : Option Addr) (cap cap2 : Nat) (w : World), Ints w a cap (nowL l ms j) → Pairs w a2 cap2 ms →
          Calls Tryz.prog 25 #[.slice a l.length cap, .slice a2 ms.length cap2] w fun r w' => ∃ a' cap' a3 cap3, r = .returned (.tuple #[.slice a' l.length cap', .slice a3 0 cap3, .int .i64 0]) ∧ Ints w' a' cap' (nowL l ms (j + 1)) ∧ Below w.heap.size w w' := by
        intro j a a2 cap cap2 w hS hM
        have hi : ∀ x ∈ nowL l ms j, InI x := fun x hx => inI_small ((checkStand_zero (hst j)).2.2.1 x hx)
        have h := Replay_any a a2 cap cap2 (nowL l ms j) ms w hS hM hi (by omega)
        have e0 : replayE (nowL l ms j) ms = 0 := by rw [replayE, if_neg (by simp [hst j]), hmn]
        have e1 : replayT (nowL l ms j) ms = nowL l ms (j + 1) := by rw [replayT, if_pos e0, hP.now_ok]
        have e2 : replayA (nowL l ms j) ms = [] := by rw [replayA, if_pos e0, hP.now_ok]
        rw [e0, e1, e2, now_len hP, now_len hP] at h
        refine h.mono ?_
        rintro e w' ⟨a', c', a3, c3, rfl, h1, _, h3⟩
        exact ⟨a', c', a3, c3, rfl, h1, h3⟩
      have hnl := now_len hP
      have hn1 : nowL l ms 1 = runL l ms := rfl
      obtain ⟨N, hN⟩ : ∃ N, N = periodN (RoundL l ms) := ⟨_, rfl⟩
      obtain ⟨Pm, hPm⟩ : ∃ P, P = RoundL l ms := ⟨_, rfl⟩
      rw [← hN] at hper0 hper1 hnow
      rw [← hPm] at CRo CC hpl hfr hmv hrg
      rw [← hN] at CRs
      have CK := fun w => rCheck_any N w hper0 (by omega)
      have CF := fun (n : Nat) (w : World) (hn : n ≤ 60) => rFromInt_any n w (by omega)
      have CM := fun (w : World) (h : 60 < N) => rCmp60_any N w h (by omega)
      have hTN : ∀ n : Nat, n = N → itoaB (n : Int) = itoaB (N : Int) := fun n h => by rw [h]
      obtain ⟨T, hT⟩ : ∃ T, T = itoaB (N : Int) := ⟨_, rfl⟩
      rw [← hT] at CRs CK CM hTN
      have HRo := hid CRo; have HRs := hid CRs; have HC := hid CC; have HK := hid CK; have HF := hid CF; have HM := hid CM; have HTN := hid hTN; have HN := hid CN
      have HNOW := hid hnow; have HFR := hid hfr; have HMV := hid hmv; have HRG := hid hrg; have HNL := hid hnl; have HPL := hid hpl; have HN1 := hid hn1; have HP0 := hid hper0
      clear CRo CRs CC CK CF CM hTN CN hnow hfr hmv hrg hnl hpl hn1 hper0 hper1 hst hP h0 z1 z2 hT hPm hN hq1 hcs hmn
      go_enter Tryz.func4, Tryz.ntmps4
      go_wp2_with fail
      refine (HCS.out w hS).mono ?_
      rintro e w0 ⟨rfl, b0⟩
      go_wp2_with fail
      refine (numbers_any a cap l _ (hS.below b0) (by omega)).mono ?_
      rintro e w1 ⟨v1, rfl, ho1, b1⟩
      obtain ⟨a1, c1, rfl, h1, _, _⟩ := ho1.reps
      have t1 := bnext b0 b1
      go_wp2_with fail
      refine (moves_any a2 cap2 ms w1 (hM.below t1) (by omega)).mono ?_
      rintro e w2 ⟨v2, rfl, ho2, b2⟩
      obtain ⟨a2', c2, rfl, h2, _, _⟩ := ho2.reps
      have t2 := bnext t1 b2
      go_wp2_with fail
      refine (HRo.out a1 a2' c1 c2 w2 (h1.below b2) h2).mono ?_
      intro e w3 hret
      obtain ⟨ap, cp, rfl, hP3, _, b3⟩ := hret.out
      rw [HPL.out]
      have t3 := bnext t2 b3
      clear hret ho1 ho2 h1 h2 b0 b1 b2 b3 t1 t2
      go_wp2_with fail
      refine (numbers_any a cap l w3 (hS.below t3) (by omega)).mono ?_
      rintro e w4 ⟨v4, rfl, ho4, b4⟩
      obtain ⟨a4, c4, rfl, h4, _, _⟩ := ho4.reps
      have t4 := bnext t3 b4
      go_wp2_with fail
      refine (moves_any a2 cap2 ms w4 (hM.below t4) (by omega)).mono ?_
      rintro e w5 ⟨v5, rfl, ho5, b5⟩
      obtain ⟨a5, c5, rfl, h5, _, _⟩ := ho5.reps
      have t5 := bnext t4 b5
      go_wp2_with fail
      refine (HRs.out a4 a5 c4 c5 w5 (h4.below b5) h5 t5).mono ?_
      rintro e w6 ⟨rfl, b6⟩
      have t6 := bnext t5 b6
      have hP6 := hP3.below (bnext b4 (bnext b5 b6))
      clear ho4 ho5 h4 h5 b4 b5 b6 t3 t4 t5 hP3
      go_wp2_with fail
      have hcp := HC.out ap cp w6 hP6
      rw [HPL.out] at hcp
      refine hcp.mono ?_
      clear hcp
      rintro e w7 ⟨rfl, b7⟩
      have t7 := bnext t6 b7
      go_wp2_with fail
      refine (HK.out w7).mono ?_
      rintro e w8 ⟨rfl, b8⟩
      have t8 := bnext t7 b8
      have hP8 := hP6.below (bnext b7 b8)
      clear hP6 t6 t7 b7 b8
      go_wp2_with fail
      refine (numbers_any a cap l w8 (hS.below t8) (by omega)).mono ?_
      rintro e w9 ⟨v9, rfl, ho9, b9⟩
      obtain ⟨a9, c9, rfl, h9, _, _⟩ := ho9.reps
      have t9 := bnext t8 b9
      go_wp2_with fail
      refine (moves_any a2 cap2 ms w9 (hM.below t9) (by omega)).mono ?_
      rintro e w10 ⟨v10, rfl, ho10, b10⟩
      obtain ⟨a10, c10, rfl, h10, _, _⟩ := ho10.reps
      have t10 := bnext t9 b10
      go_wp2_with fail
      refine (HN.out 0 a9 a10 c9 c10 w10 (h9.below b10) h10).mono ?_
      rintro e w11 ⟨at_, ct, a11, c11, rfl, hT11, b11⟩
      have t11 := bnext t10 b11
      have hP11 := hP8.below (bnext b9 (bnext b10 b11))
      have hS11 := hS.below t11
      have hM11 := hM.below t11
      rw [HN1.out] at hT11
      clear ho9 ho10 h9 h10 hP8 b9 b10 b11 t8 t9 t10 hS hM
      have htl : (runL l ms).length = l.length := runL_len _ _
      obtain ⟨t, ht⟩ : ∃ t, t = runL l ms := ⟨_, rfl⟩
      rw [← ht] at hT11 htl
      have hmv2 := HMV.out
      rw [← ht] at hmv2
      have HMV2 := hid hmv2; have HTL := hid htl
      clear hmv2 htl ht HMV
      go_wp2_with fail
      go_loopw [97, 12] (fun i _ wr => ∃ k : Nat, k ≤ l.length ∧ i = .int .i64 k ∧ Below w11.heap.size w11 wr) (fun i _ _ => l.length - (intOf i).toNat)
      case atStart => exact ⟨0, by omega, rfl, Below.refl _ _⟩
      case round =>
        obtain ⟨k, hk, rfl, hbr⟩ := hrel
        have hSr := hS11.below hbr
        have hPr := hP11.below hbr
        have hTr := hT11.below hbr
        by_cases hlt : k < l.length
        · have hpr := HRG.out k (by omega) (by omega)
          have hmk := HMV2.out k (by omega) (by omega)
          by_cases z : atD 0 l k = 0
          · have d1 : (atD 0 l k == 0) = true := by simp [z]
            have d2 : (atD 0 Pm k != (k : Int)) = false := by simpa using HFR.out k (by omega) (by omega) z
            have d3 : (atD 0 l k != 0) = false := by simp [z]
            clear z hmk
            go_wp2_with fail
            refine wp_region_quiet_lit (by kernel_rfl) (by kernel_rfl) ?_
            repeat (first | ((with_reducible refine wpQD_idx 0 E_ints F_int cInt1 (by with_unfolding_all rfl) (by with_unfolding_all rfl) (hSr) (by first | omega | (simp; done)) (by first | omega | (simp; done)) (fun _ => by with_unfolding_all rfl) (fun _ => ?_)); (try simp only [Act.put, List.setIfInBounds_toArray, List.set_cons_zero, List.set_cons_succ]); (try simp only [cInt])) | ((with_reducible refine wpQD_idxG 0 E_ints F_int cInt1 (by with_unfolding_all rfl) (by with_unfolding_all rfl) (hSr) (rfl) (by first | omega | (simp; done)) (by first | omega | (simp; done)) (fun _ => by with_unfolding_all rfl) (by with_unfolding_all rfl) (fun _ => by with_unfolding_all rfl) (fun _ => ?_)); (try simp only [Act.put, List.setIfInBounds_toArray, List.set_cons_zero, List.set_cons_succ]); (try simp only [cInt])) | ((with_reducible refine wpQD_idxG 0 E_ints F_int cInt1 (by with_unfolding_all rfl) (by with_unfolding_all rfl) (hPr) (HPL.out) (by first | omega | (simp; done)) (by first | omega | (simp; done)) (fun _ => by with_unfolding_all rfl) (by with_unfolding_all rfl) (fun _ => by with_unfolding_all rfl) (fun _ => ?_)); (try simp only [Act.put, List.setIfInBounds_toArray, List.set_cons_zero, List.set_cons_succ]); (try simp only [cInt])) | ((with_reducible refine wpQ_skip (by with_unfolding_all rfl) ?_); (try simp only [Act.put, List.setIfInBounds_toArray, List.set_cons_zero, List.set_cons_succ])) | quiet_step (fail))
            refine wpQuiet_nil ?_
            intro w12 hb12
            replace hb12 := below_drewN hb12
            go_wp2_with fail
            exact ⟨⟨k + 1, by omega, by go_num, bnext hbr hb12⟩, by simp [intOf]; omega⟩
          · have d1 : (atD 0 l k == 0) = false := by simpa using z
            have d3 : (atD 0 l k != 0) = true := by simpa using z
            obtain ⟨j, hj⟩ : ∃ j, j = atD 0 Pm k := ⟨_, rfl⟩
            rw [← hj] at hmk
            have d4 : (atD 0 t j != atD 0 l k) = false := by simpa using hmk
            have hj0 : 0 ≤ j := by omega
            have hj1 : j < l.length := by omega
            have HJ := hid hj
            clear z hmk hpr hj
            go_wp2_with fail
            refine wp_region_quiet_lit (by kernel_rfl) (by kernel_rfl) ?_
            repeat (first | ((with_reducible refine wpQD_idx 0 E_ints F_int cInt1 (by with_unfolding_all rfl) (by with_unfolding_all rfl) (hSr) (by first | omega | (simp; done)) (by first | omega | (simp; done)) (fun _ => by with_unfolding_all rfl) (fun _ => ?_)); (try simp only [Act.put, List.setIfInBounds_toArray, List.set_cons_zero, List.set_cons_succ]); (try simp only [cInt])) | ((with_reducible refine wpQD_idxG 0 E_ints F_int cInt1 (by with_unfolding_all rfl) (by with_unfolding_all rfl) (hSr) (rfl) (by first | omega | (simp; done)) (by first | omega | (simp; done)) (fun _ => by with_unfolding_all rfl) (by with_unfolding_all rfl) (fun _ => by with_unfolding_all rfl) (fun _ => ?_)); (try simp only [Act.put, List.setIfInBounds_toArray, List.set_cons_zero, List.set_cons_succ]); (try simp only [cInt])) | (((with_reducible refine wpQD_idxG 0 E_ints F_int cInt1 (by with_unfolding_all rfl) (by with_unfolding_all rfl) (hPr) (HPL.out) (by first | omega | (simp; done)) (by first | omega | (simp; done)) (fun _ => by with_unfolding_all rfl) (by with_unfolding_all rfl) (fun _ => by with_unfolding_all rfl) (fun _ => ?_)); (try simp only [Act.put, List.setIfInBounds_toArray, List.set_cons_zero, List.set_cons_succ]); (try simp only [cInt])); rw [← HJ.out]) | ((with_reducible refine wpQD_idxG 0 E_ints F_int cInt1 (by with_unfolding_all rfl) (by with_unfolding_all rfl) (hTr) (HTL.out) (by first | omega | (simp; done)) (by first | omega | (simp; done)) (fun _ => by with_unfolding_all rfl) (by with_unfolding_all rfl) (fun _ => by with_unfolding_all rfl) (fun _ => ?_)); (try simp only [Act.put, List.setIfInBounds_toArray, List.set_cons_zero, List.set_cons_succ]); (try simp only [cInt])) | ((with_reducible refine wpQ_skip (by with_unfolding_all rfl) ?_); (try simp only [Act.put, List.setIfInBounds_toArray, List.set_cons_zero, List.set_cons_succ])) | quiet_step (fail))
            refine wpQuiet_nil ?_
            intro w12 hb12
            replace hb12 := below_drewN hb12
            go_wp2_with fail
            exact ⟨⟨k + 1, by omega, by go_num, bnext hbr hb12⟩, by simp [intOf]; omega⟩
        · have : k = l.length := by omega
          subst this
          clear hPr hTr
          go_wp2_with fail
          refine (numbers_any a cap l wr hSr (by omega)).mono ?_
          rintro e w12 ⟨v12, rfl, ho12, b12⟩
          obtain ⟨a12, c12, rfl, h12, _, _⟩ := ho12.reps
          have b12' := bnext hbr b12
          clear ho12
          go_wp2_with fail
          go_loopw [13, 14, 15, 16, 17] (fun nv i _ _ _ wq => ∃ (j : Nat) (an : Option Addr) (cn : Nat), j ≤ 60 ∧ nv = .slice an l.length cn ∧ i = .int .i64 ((j : Int) + 1) ∧ Ints wq an cn (nowL l ms j) ∧ (∀ m : Nat, 1 ≤ m → m ≤ j → m ≠ N) ∧ Below w11.heap.size w11 wq) (fun _ i _ _ _ _ => 61 - (intOf i).toNat)
          case atStart => exact ⟨0, a12, c12, by omega, rfl, by simp, h12, fun m h1 h2 => by omega, b12'⟩
          case round =>
            obtain ⟨j, an, cn, hj, rfl, rfl, hN0, hno, hbq⟩ := hrel
            have HNO := hid hno; clear hno
            have hMq := hM11.below hbq
            have hSq := hS11.below hbq
            by_cases hjl : j < 60
            · go_wp2_with fail
              refine (moves_any a2 cap2 ms wr hMq (by omega)).mono ?_
              rintro e w13 ⟨v13, rfl, ho13, b13⟩
              obtain ⟨a13, c13, rfl, h13, _, _⟩ := ho13.reps
              go_wp2_with fail
              refine (HN.out j an a13 cn c13 w13 (hN0.below b13) h13).mono ?_
              rintro e w14 ⟨a14, c14, a15, c15, rfl, hN14, b14⟩
              have t14 := bnext hbq (bnext b13 b14)
              clear ho13 h13 hN0
              go_wp2_with fail
              have hsi := SameInts_any a14 a c14 cap (nowL l ms (j + 1)) l w14 hN14 (hS11.below t14) (by rw [HNL.out]; omega)
              rw [HNL.out] at hsi
              by_cases he : nowL l ms (j + 1) = l
              · rw [decide_eq_true he] at hsi
                have hdv := (HNOW.out (j + 1)).1 he
                have hjN : j + 1 = N := by
                  have hle := Nat.le_of_dvd (by omega) hdv
                  rcases Nat.lt_or_ge N (j + 1) with h | h
                  · exact absurd rfl (HNO.out N HP0.out (by omega))
                  · omega
                have hT := HTN.out (j + 1) hjN
                have hf := fun w => HF.out (j + 1) w (by omega)
                rw [hT] at hf
                have HFF := hid hf
                have HSI := hid hsi
                clear hsi he hdv hT hf hjN
                refine HSI.out.mono ?_
                rintro e w15 ⟨rfl, b15⟩
                go_wp2_with fail
                refine (HFF.out _).mono ?_
                rintro e w16 ⟨rfl, b16⟩
                go_wp2_with fail
                refine (awake_any _).mono ?_
                rintro e w17 ⟨rfl, b17⟩
                go_wp2_with fail
                go_ret
                exact ⟨rfl, bnext t11 (bnext t14 (bnext b15 (bnext b16 b17)))⟩
              · rw [decide_eq_false he] at hsi
                have hne : j + 1 ≠ N := fun e => he ((HNOW.out (j + 1)).2 (by rw [e]; exact Nat.dvd_refl _))
                have HNE := hid hne
                have HSI := hid hsi
                clear hsi he hne
                refine HSI.out.mono ?_
                rintro e w15 ⟨rfl, b15⟩
                go_wp2_with fail
                refine ⟨⟨j + 1, a14, c14, by omega, rfl, by go_num, hN14.below b15, fun m h1 h2 => ?_, bnext t14 b15⟩, by simp [intOf]; omega⟩
                by_cases e : m = j + 1
                · rw [e]; exact HNE.out
                · exact HNO.out m h1 (by omega)
            · have hj60 : j = 60 := by omega
              subst hj60
              have hbig : 60 < N := by
                rcases Nat.lt_or_ge 60 N with h | h
                · exact h
                · exact absurd rfl (HNO.out N HP0.out h)
              have hm := fun w => HM.out w hbig
              have HMM := hid hm
              clear hm hbig
              go_wp2_with fail
              refine (HMM.out _).mono ?_
              rintro e w15 ⟨rfl, b15⟩
              go_wp2_with fail
              refine (awake_any _).mono ?_
              rintro e w17 ⟨rfl, b17⟩
              go_wp2_with fail
              go_ret
              exact ⟨rfl, bnext t11 (bnext hbq (bnext b15 b17))⟩
    · obtain ⟨z1, z2, z3⟩ := rounds_not h0
      have h1 := round_err hcs hmn h0
      rw [z1] at CRs
      rw [z3] at CRo
      obtain ⟨R, hR⟩ : ∃ R, R = roundE l ms := ⟨_, rfl⟩
      rw [← hR] at CRo CRs h0 h1
      have HRo := hid CRo; have HRs := hid CRs
      clear CRo CRs z1 z2 z3 hR hq1 hcs hmn hI
      go_enter Tryz.func4, Tryz.ntmps4
      go_wp2_with fail
      refine (HCS.out w hS).mono ?_
      rintro e w0 ⟨rfl, b0⟩
      go_wp2_with fail
      refine (numbers_any a cap l _ (hS.below b0) (by omega)).mono ?_
      rintro e w1 ⟨v1, rfl, ho1, b1⟩
      obtain ⟨a1, c1, rfl, h1', _, _⟩ := ho1.reps
      have t1 := bnext b0 b1
      go_wp2_with fail
      refine (moves_any a2 cap2 ms w1 (hM.below t1) (by omega)).mono ?_
      rintro e w2 ⟨v2, rfl, ho2, b2⟩
      obtain ⟨a2', c2, rfl, h2, _, _⟩ := ho2.reps
      have t2 := bnext t1 b2
      go_wp2_with fail
      refine (HRo.out a1 a2' c1 c2 w2 (h1'.below b2) h2).mono ?_
      intro e w3 hret
      obtain ⟨ap, cp, rfl, hP3, _, b3⟩ := hret.out
      have t3 := bnext t2 b3
      clear hret ho1 ho2 h1' h2 b0 b1 b2 b3 t1 t2 hP3
      go_wp2_with fail
      refine (numbers_any a cap l w3 (hS.below t3) (by omega)).mono ?_
      rintro e w4 ⟨v4, rfl, ho4, b4⟩
      obtain ⟨a4, c4, rfl, h4, _, _⟩ := ho4.reps
      have t4 := bnext t3 b4
      go_wp2_with fail
      refine (moves_any a2 cap2 ms w4 (hM.below t4) (by omega)).mono ?_
      rintro e w5 ⟨v5, rfl, ho5, b5⟩
      obtain ⟨a5, c5, rfl, h5, _, _⟩ := ho5.reps
      have t5 := bnext t4 b5
      go_wp2_with fail
      refine (HRs.out a4 a5 c4 c5 w5 (h4.below b5) h5 t5).mono ?_
      rintro e w6 ⟨rfl, b6⟩
      have t6 := bnext t5 b6
      clear ho4 ho5 h4 h5 b4 b5 b6 t3 t4 t5
      rcases h1 with rfl | rfl
      · go_wp2_with fail
        refine (awake_any _).mono ?_
        rintro e w17 ⟨rfl, b17⟩
        go_wp2_with fail
        go_ret
        exact ⟨rfl, bnext t6 b17⟩
      · go_wp2_with fail
        refine (awake_any _).mono ?_
        rintro e w17 ⟨rfl, b17⟩
        go_wp2_with fail
        go_ret
        exact ⟨rfl, bnext t6 b17⟩
  · have hb : (q1 != 0) = true := by simpa using hz
    clear htab hI hq1 hz
    go_enter Tryz.func4, Tryz.ntmps4
    go_wp2_with fail
    refine (HCS.out w hS).mono ?_
    rintro e w0 ⟨rfl, b0⟩
    go_wp2_with fail
    refine (awake_any _).mono ?_
    rintro e w' ⟨rfl, hb⟩
    go_wp2_with fail
    go_ret
    exact ⟨rfl, bnext b0 hb⟩
end Go.Proofs.YtmomeggnegcheaaGreatDoor
