/- Contract: PlaitCancels returns true. Condition: the slice can be read. -/
import Derived.Test.YtogbclcnmogaeaaGreatDoorCnA
import Derived.Test.YtogbclcnmogaeaaGreatDoorAwA
set_option linter.all false
namespace Go.Proofs.YtogbclcnmogaeaaGreatDoor
open Go.RowKit
set_option maxHeartbeats 40000000
set_option maxRecDepth 100000

theorem both3 {K F : Nat → Nat → World → Prop} {p q : Prop} (h : (∀ P Q V, F P Q V → K P Q V) → p ∧ q) (k : ∀ P Q V, F P Q V → K P Q V) : p ∧ q := h k
theorem PlaitCancels_any (n : Int) (a : Option Addr) (cap : Nat) (l : List PassV) (w : World) (hS : PassesR w a cap l) :
    Calls Tryz.prog 13 #[.int .i64 n, .slice a l.length cap] w fun r w' => r = .returned (.bool true) ∧ Below w.heap.size w w' := by
  have hcap := hS.le
  have hm := hS.max
  have CSh := rShortPasses_any a cap l w hS
  by_cases h10 : 10 < l.length
  · clear CSh
    go_enter Tryz.func13, Tryz.ntmps13
    go_wp2_with fail
    refine (awake_any _).mono ?_
    rintro e w' ⟨rfl, hb⟩
    go_wp2_with fail
    go_ret
    exact ⟨rfl, hb⟩
  cases hsh : shortPB l
  · rw [hsh] at CSh
    have HSh := hid CSh; clear CSh hsh
    go_enter Tryz.func13, Tryz.ntmps13
    go_wp2_with fail
    refine HSh.out.mono ?_
    rintro e w1 ⟨rfl, b1⟩
    go_wp2_with fail
    refine (awake_any _).mono ?_
    rintro e w' ⟨rfl, hb⟩
    go_wp2_with fail
    go_ret
    exact ⟨rfl, bnext b1 hb⟩
  rw [hsh] at CSh
  have hww : ∀ p ∈ l, p.way.size ≤ 20 := by
    simp only [shortPB, Bool.and_eq_true, decide_eq_true_eq, List.all_eq_true] at hsh
    exact hsh.2
  have hw : ∀ p ∈ l, p.way.size ≤ 1048576 := fun p hp => by have := hww p hp; omega
  have RC := fun (w : World) (hS : PassesR w a cap l) => rCheckPasses_any n a cap l w hS (by omega) hw
  by_cases h : passesE n l = 0
  · obtain ⟨hn1, hn2, _, hall⟩ := passesE_zero h
    obtain ⟨m, rfl⟩ : ∃ m : Nat, n = m := ⟨n.toNat, by omega⟩
    obtain ⟨hWE, hWlen⟩ := lettersAll_word h (by omega)
    have CW := fun (a : Option Addr) (cap : Nat) (w : World) (hS : PassesR w a cap l) => Word_any m a cap l w hS (by omega) hw
    have CB := fun (a : Option Addr) (cap : Nat) (w : World) (hS : PassesR w a cap l) => Back_any m a cap l w hS (by omega) hw
    have eW0 : wordErr m l = 0 := by unfold wordErr; rw [if_neg (fun hh => hh h), if_neg (by omega)]
    have eW1 : wordL m l = lettersAll l := by unfold wordL; rw [if_pos eW0]
    rw [eW0, eW1] at CW
    rw [if_pos h, h] at CB
    rw [h] at RC
    -- the passes back
    have hBall := backL_ok hall
    have hBl : (backL l).length ≤ 10 := by rw [backL_len]; omega
    have hB0 : passesE m (backL l) = 0 := passesE_ok hn1 hn2 (by omega) hBall
    have hBw : ∀ p ∈ backL l, p.way.size ≤ 1048576 := fun p hp => by have := (passE_small hn2 (hBall p hp)).2.2.1; omega
    have RCB := fun (a : Option Addr) (cap : Nat) (w : World) (hS : PassesR w a cap (backL l)) => rCheckPasses_any m a cap (backL l) w hS (by omega) hBw
    rw [hB0] at RCB
    have CV := fun (a : Option Addr) (cap : Nat) (w : World) (hS : PassesR w a cap (backL l)) => Word_any m a cap (backL l) w hS (by omega) hBw
    have hVl : (lettersAll (backL l)).length = (lettersAll l).length := by rw [backL_word hall]; simp
    have eV0 : wordErr m (backL l) = 0 := by unfold wordErr; rw [if_neg (fun hh => hh hB0), if_neg (by omega)]
    have eV1 : wordL m (backL l) = lettersAll (backL l) := by unfold wordL; rw [if_pos eV0]
    rw [eV0, eV1] at CV
    have hneg := fun (i : Nat) => @backL_at_neg m l hall i
    -- the word
    have CK := fun (a : Option Addr) (cap : Nat) (w : World) (hS : Ints w a cap (lettersAll l)) => rCheckWord_any m a cap (lettersAll l) w hS
    rw [hWE] at CK
    obtain ⟨_, _, _, hfit⟩ := wordE_fits hWE
    have CP := fun (a : Option Addr) (cap : Nat) (w : World) (hS : Ints w a cap (lettersAll l)) => Passes_any m a cap (lettersAll l) w hS (by omega)
    have eP : passL m (lettersAll l) = passesOf (lettersAll l).length (lettersAll l) := if_pos hWE
    rw [hWE, eP] at CP
    have hPl := passesOf_size (lettersAll l).length (lettersAll l)
    have hPall : ∀ p ∈ passesOf (lettersAll l).length (lettersAll l), passE m p = 0 := passesOf_ok _ _ fun x hx => by
      obtain ⟨h1, h2, h3⟩ := hfit x hx
      unfold absI
      split <;> omega
    have hPW := passesOf_word (lettersAll l).length (lettersAll l) (Nat.le_refl _) (fun x hx => (hfit x hx).1)
    have hPN := passesOf_next (lettersAll l).length (lettersAll l) (Nat.le_refl _) (fun x hx => (hfit x hx).1)
    have hsm : ∀ k : Nat, k < (lettersAll l).length → -12 ≤ atD 0 (lettersAll l) k ∧ atD 0 (lettersAll l) k ≤ 12 := fun k hk => by
      obtain ⟨_, h2, h3⟩ := hfit (atD 0 (lettersAll l) k) (by simp [atD, hk])
      omega
    obtain ⟨W, hWd⟩ : ∃ W, W = lettersAll l := ⟨_, rfl⟩
    rw [← hWd] at CW CK CP hPl hPall hPW hPN hWlen hVl hneg hsm
    obtain ⟨PL, hPd⟩ : ∃ PL, PL = passesOf W.length W := ⟨_, rfl⟩
    rw [← hPd] at CP hPl hPall hPW hPN
    obtain ⟨BL, hBd⟩ : ∃ BL, BL = backL l := ⟨_, rfl⟩
    rw [← hBd] at CB RCB CV hVl hBl hneg
    have hBL : BL.length = l.length := by rw [hBd, backL_len]
    obtain ⟨V, hVd⟩ : ∃ V, V = lettersAll BL := ⟨_, rfl⟩
    rw [← hVd] at CV hVl hneg
    have hP0 : passesE m PL = 0 := passesE_ok hn1 hn2 (by omega) hPall
    have hPw : ∀ p ∈ PL, p.way.size ≤ 1048576 := fun p hp => by have := (passE_small hn2 (hPall p hp)).2.2.1; omega
    have RCP := fun (a : Option Addr) (cap : Nat) (w : World) (hS : PassesR w a cap PL) => rCheckPasses_any m a cap PL w hS (by omega) hPw
    rw [hP0] at RCP
    have CA := fun (a : Option Addr) (cap : Nat) (w : World) (hS : PassesR w a cap PL) => Word_any m a cap PL w hS (by omega) hPw
    have eA0 : wordErr m PL = 0 := by unfold wordErr; rw [if_neg (fun hh => hh hP0), hPW, if_neg (by omega)]
    have eA1 : wordL m PL = W := by unfold wordL; rw [if_pos eA0, hPW]
    rw [eA0, eA1] at CA
    have hne1 : ((BL.length : Int) != l.length) = false := by simp; omega
    have hne2 : ((V.length : Int) != W.length) = false := by simp; omega
    have HSh := hid CSh; have HRC := hid RC; have HW := hid CW; have HB := hid CB; have HRB := hid RCB; have HV := hid CV; have HK := hid CK; have HP := hid CP; have HRP := hid RCP; have HA := hid CA
    have HNEG := hid hneg; have HPALL := hid hPall; have HPN := hid hPN; have HVL := hid hVl; have HBL := hid hBL; have HSM := hid hsm
    clear CSh RC CW CB RCB CV CK CP RCP CA hneg hPall hPN hPW hPd hBd hVd hWd hPw hP0 eA0 eA1 eP hfit hWE eV0 eV1 hBw hB0 hBall eW0 eW1 hw hww hsh h hall hVl hBL hsm
    go_enter Tryz.func13, Tryz.ntmps13
    go_wp2_with fail
    refine HSh.out.mono ?_
    rintro e w1 ⟨rfl, b1⟩
    go_wp2_with fail
    refine (HRC.out w1 (hS.below b1)).mono ?_
    rintro e w2 ⟨rfl, b2⟩
    go_wp2_with fail
    refine (passes_any a cap l w2 (hS.below (bnext b1 b2)) (by omega)).mono ?_
    rintro e w3 ⟨v3, rfl, ho3, b3⟩
    obtain ⟨a3, c3, rfl, q3, _, _⟩ := ho3.reps
    go_wp2_with fail
    refine (HW.out a3 c3 w3 q3).mono ?_
    rintro e w4 ⟨aw, cw, rfl, hw4, _, b4⟩
    have t4 := bnext b1 (bnext b2 (bnext b3 b4))
    go_wp2_with fail
    refine (passes_any a cap l w4 (hS.below t4) (by omega)).mono ?_
    rintro e w5 ⟨v5, rfl, ho5, b5⟩
    obtain ⟨a5, c5, rfl, q5, _, _⟩ := ho5.reps
    go_wp2_with fail
    refine (HB.out a5 c5 w5 q5).mono ?_
    rintro e w6 ⟨ab, cb, rfl, hb6, _, b6⟩
    have t6 := bnext t4 (bnext b5 b6)
    have hw6 := hw4.below (bnext b5 b6)
    clear ho3 ho5 q3 q5 b1 b2 b3 b4 b5 b6 t4 hw4
    go_wp2_with fail
    refine (ownPasses_any ab cb BL w6 hb6 (by omega)).mono ?_
    rintro e w7 ⟨v7, rfl, ho7, b7⟩
    obtain ⟨a7, c7, rfl, q7, _, _⟩ := ho7.reps
    go_wp2_with fail
    refine (HRB.out a7 c7 w7 q7).mono ?_
    rintro e w8 ⟨rfl, b8⟩
    have t8 := bnext t6 (bnext b7 b8)
    have hw8 := hw6.below (bnext b7 b8)
    have hb8 := hb6.below (bnext b7 b8)
    clear ho7 q7 b7 b8 t6 hw6 hb6
    go_wp2_with fail
    refine (HK.out aw cw w8 hw8).mono ?_
    rintro e w9 ⟨rfl, b9⟩
    go_wp2_with fail
    refine (HV.out ab cb w9 (hb8.below b9)).mono ?_
    rintro e w10 ⟨av, cv, rfl, hv10, _, b10⟩
    have t10 := bnext t8 (bnext b9 b10)
    have hw10 := hw8.below (bnext b9 b10)
    clear b9 b10 t8 hw8 hb8
    go_wp2_with fail
    go_loopw [11, 91] (fun _ i wr => ∃ k : Nat, k ≤ W.length ∧ i = .int .i64 k ∧ Below w10.heap.size w10 wr) (fun _ i _ => W.length - (intOf i).toNat)
    case atStart => exact ⟨0, by omega, rfl, Below.refl _ _⟩
    case round =>
      obtain ⟨k, hk, rfl, hbr⟩ := hrel
      have hVr := hv10.below hbr
      have hWr := hw10.below hbr
      by_cases hlt : k < W.length
      · have e1 := HNEG.out k hlt
        have hVi : ((W.length - 1 - k : Nat) : Int) = (V.length : Int) - 1 - k := by have := HVL.out; omega
        rw [hVi] at e1
        have d1 : (atD 0 V ((V.length : Int) - 1 - k) != -atD 0 W k) = false := by rw [e1]; simp
        have hvl : V.length ≤ W.length ∧ W.length ≤ V.length := by have := HVL.out; omega
        obtain ⟨hvl1, hvl2⟩ := hvl
        obtain ⟨s1, s2⟩ := HSM.out k hlt
        have hw1 : IntKind.i64.wrap ((V.length : Int) - 1) = (V.length : Int) - 1 := IntWalk.i64_in _ (by omega)
        have hw2 : IntKind.i64.wrap ((V.length : Int) - 1 - k) = (V.length : Int) - 1 - k := IntWalk.i64_in _ (by omega)
        have hw3 : IntKind.i64.wrap (-atD 0 W k) = -atD 0 W k := IntWalk.i64_in _ (by omega)
        clear e1 hVi
        go_wp2_with fail
        refine wp_region_quiet_lit (by kernel_rfl) (by kernel_rfl) ?_
        repeat (first | ((with_reducible refine wpQD_idx 0 E_ints F_int cInt1 (by with_unfolding_all rfl) (by with_unfolding_all rfl) (hVr) (by first | omega | (simp; done)) (by first | omega | (simp; done)) (fun _ => by with_unfolding_all rfl) (fun _ => ?_)); (try simp only [Act.put, List.setIfInBounds_toArray, List.set_cons_zero, List.set_cons_succ]); (try simp only [cInt])) | ((with_reducible refine wpQD_idx 0 E_ints F_int cInt1 (by with_unfolding_all rfl) (by with_unfolding_all rfl) (hWr) (by first | omega | (simp; done)) (by first | omega | (simp; done)) (fun _ => by with_unfolding_all rfl) (fun _ => ?_)); (try simp only [Act.put, List.setIfInBounds_toArray, List.set_cons_zero, List.set_cons_succ]); (try simp only [cInt])) | quiet_step (fail))
        refine wpQuiet_nil ?_
        intro w2 hb2
        replace hb2 := below_drewN hb2
        go_wp2_with fail
        exact ⟨⟨k + 1, by omega, by go_num, bnext hbr hb2⟩, by simp [intOf]; omega⟩
      · clear hVr
        have t11 := bnext t10 hbr
        go_wp2_with fail
        refine (numbers_any aw cw W wr hWr (by omega)).mono ?_
        rintro e w11 ⟨v11, rfl, ho11, b11⟩
        obtain ⟨a11, c11, rfl, q11, _, _⟩ := ho11.reps
        go_wp2_with fail
        refine (HP.out a11 c11 w11 q11).mono ?_
        rintro e w12 ⟨ap, cp, rfl, hp12, _, b12⟩
        have t12 := bnext t11 (bnext b11 b12)
        have hw12 := hWr.below (bnext b11 b12)
        clear ho11 q11 b11 b12 t11 hWr hw10 hv10
        go_wp2_with fail
        refine (ownPasses_any ap cp PL w12 hp12 (by omega)).mono ?_
        rintro e w13 ⟨v13, rfl, ho13, b13⟩
        obtain ⟨a13, c13, rfl, q13, _, _⟩ := ho13.reps
        go_wp2_with fail
        refine (HRP.out a13 c13 w13 q13).mono ?_
        rintro e w14 ⟨rfl, b14⟩
        have hp14 := hp12.below (bnext b13 b14)
        have t14 := bnext t12 (bnext b13 b14)
        have hw14 := hw12.below (bnext b13 b14)
        clear ho13 q13 b13 b14 t12 hw12 hp12
        go_wp2_with fail
        refine (HA.out ap cp w14 hp14).mono ?_
        rintro e w15 ⟨aa, ca, rfl, ha15, _, b15⟩
        go_wp2_with fail
        refine (SameInts_any aa aw ca cw W W w15 ha15 (hw14.below b15) (by omega)).mono ?_
        rw [decide_eq_true rfl]
        rintro e w16 ⟨rfl, b16⟩
        have hp16 := hp14.below (bnext b15 b16)
        have t16 := bnext t14 (bnext b15 b16)
        clear ha15 hw14 b15 b16 t14 hp14
        go_wp2_with fail
        go_loopw [16, 17, 18, 19, 20] (fun i _ _ _ _ wq => ∃ j : Nat, (j < PL.length ∨ j = 0) ∧ i = .int .i64 ((j : Int) + 1) ∧ Below w16.heap.size w16 wq) (fun i _ _ _ _ _ => PL.length + 1 - (intOf i).toNat)
        case atStart => exact ⟨0, .inr rfl, rfl, Below.refl _ _⟩
        case round =>
          obtain ⟨j, hj, rfl, hbq⟩ := hrel
          have hpq := hp16.below hbq
          by_cases hlt2 : j + 1 < PL.length
          · obtain ⟨n1, n2⟩ := HPN.out j hlt2
            have hpA := HPALL.out (atD pass0 PL j) (by simp [atD, show j < PL.length by omega])
            have hpC := HPALL.out (atD pass0 PL ((j + 1 : Nat) : Int)) (by simp [atD, hlt2])
            obtain ⟨y1, y2, y3, y4, y5, y6, y7⟩ := passE_zero hpA
            obtain ⟨x1, x2, x3, x4, x5, x6, x7⟩ := passE_zero hpC
            have hxz := (passE_small hn2 hpC).2.2.1
            obtain ⟨A, hA⟩ : ∃ A, A = atD pass0 PL j := ⟨_, rfl⟩
            obtain ⟨D, hD⟩ : ∃ D, D = atD pass0 PL ((j + 1 : Nat) : Int) := ⟨_, rfl⟩
            rw [← hA, ← hD] at n1 n2
            rw [← hA] at y1 y2 y3 y4 y5 y6
            rw [← hD] at x1 x2 x3 x4 x5 x6 hxz
            have hVA : cPass (atD pass0 PL j) = .agg #[.int .i64 A.f, .int .i64 A.t, .string A.way] := by rw [hA]; rfl
            have hVD : cPass (atD pass0 PL ((j + 1 : Nat) : Int)) = .agg #[.int .i64 D.f, .int .i64 D.t, .string D.way] := by rw [hD]; rfl
            have hL0 : 0 < D.way.size := by unfold distP at x6; split at x6 <;> omega
            have hLl : (lettersL D).length = D.way.size := lettersL_len D
            have hLa : atD 0 (lettersL D) 0 = letterAt D 0 := by simp [atD, lettersL, lettersK, hL0]
            obtain ⟨f1, f2, _, _⟩ := letter_fits (p := D) hn2 (by rw [hD]; exact hpC) (atD 0 (lettersL D) 0) (by simp [atD, hLl, hL0])
            have CL := fun w => rLettersP_any D w x1 (by omega) x3 (by omega) (by omega)
            obtain ⟨LD, hLD⟩ : ∃ LD, LD = lettersL D := ⟨_, rfl⟩
            rw [← hLD] at hLl hLa CL f1 f2
            rw [← hLa] at n1 n2
            have HVA := hid hVA; have HVD := hid hVD; have HCL := hid CL; have HN1 := hid n1; have HN2 := hid n2; have HLL := hid hLl
            obtain ⟨bp, op, rfl, _⟩ := hpq.cells (by decide) pass0 j (by omega)
            have hwj : IntKind.i64.wrap (j : Int) = j := IntWalk.i64_in _ (by omega)
            clear hVA hVD CL n1 n2 hLl hLa hLD hA hD x6 x7 y6 y7 hpA hpC
            go_wp2_with fail
            refine wp_regionK (C := Below (wr).heap.size (wr)) [0, 1, 2, 3, 4, 5, 6, 7, 8] [_, _, _, _, _, _, _, _, _] 4 (by simp only [List.map_cons, List.map_nil, List.getElem?_toArray]; rfl) rfl (by kernel_rfl) (by kernel_rfl) (by kernel_rfl) ((Below.refl _ _).drew) ?_
            refine ⟨_, yieldsK_val (by with_unfolding_all rfl) (fun w' => by with_unfolding_all exact rfl), ?_⟩
            go_frame
            refine ⟨_, yieldsK_val (by with_unfolding_all rfl) (fun w' => by with_unfolding_all exact rfl), ?_⟩
            go_frame
            refine ⟨.int .i64 j, yieldsK_val (by with_unfolding_all rfl) (fun w' => by first | (go_simp; done) | (go_simp; rfl)), ?_⟩
            go_frame
            refine ⟨_, yieldsK_idx (k := (j : Int)) (n := PL.length) E_passes (by omega) (by omega) (by with_unfolding_all rfl) (by with_unfolding_all rfl) (by with_unfolding_all rfl), ?_⟩
            go_frame
            refine ⟨_, yieldsK_agg E_passes F_pass cPass1 pass0 hpq (k := j) (by omega) HVA.out (by with_unfolding_all rfl) (by with_unfolding_all rfl), ?_⟩
            go_frame
            refine ⟨_, yieldsK_val (by with_unfolding_all rfl) (fun w' => by with_unfolding_all exact rfl), ?_⟩
            go_frame
            refine ⟨_, yieldsK_val (by with_unfolding_all rfl) (fun w' => by with_unfolding_all exact rfl), ?_⟩
            go_frame
            refine ⟨_, yieldsK_idx (k := ((j : Int) + 1)) (n := PL.length) E_passes (by omega) (by omega) (by with_unfolding_all rfl) (by with_unfolding_all rfl) (by with_unfolding_all rfl), ?_⟩
            go_frame
            refine ⟨_, yieldsK_agg E_passes F_pass cPass1 pass0 hpq (k := j + 1) hlt2 HVD.out (by with_unfolding_all rfl) (by with_unfolding_all rfl), ?_⟩
            go_frame
            unfold wpPureK
            have hVd : ({ wr with drawn := wr.drawn + 1 } : World) = wr.drew := rfl
            rw [hVd]
            refine wpAnyC_on [9, 10] (by kernel_rfl) (by simp) ?_
            simp only [List.forall_mem_cons, List.not_mem_nil, false_implies, implies_true, and_true]
            obtain ⟨H, hH⟩ : ∃ H, H = wr.heap.size := ⟨_, rfl⟩
            obtain ⟨H1, hH1⟩ : ∃ H1, H1 = H + 1 := ⟨_, rfl⟩
            have hSB : SL wr.heap.size wr ((wr.drew.alloc (.cells #[.int .i64 0, .int .i64 0, .string ByteArray.empty] 116)).alloc (.cells #[.int .i64 0, .int .i64 0, .string ByteArray.empty] 116)) [pBlk H1 (.cells #[.int .i64 0, .int .i64 0, .string ByteArray.empty] 116), pBlk H (.cells #[.int .i64 0, .int .i64 0, .string ByteArray.empty] 116)] := by
              have := (((SL.nil wr).drew).box (.cells #[.int .i64 0, .int .i64 0, .string ByteArray.empty] 116)).box (.cells #[.int .i64 0, .int .i64 0, .string ByteArray.empty] 116)
              rw [hH1, hH]
              simpa using this
            apply both3 (F := fun P Q V => Below wr.heap.size wr V ∧ V.heap[P]? = some (.cells #[.int .i64 A.f, .int .i64 A.t, .string A.way] 116) ∧ V.heap[Q]? = some (.cells #[.int .i64 D.f, .int .i64 D.t, .string D.way] 116))
            case h =>
              intro key
              constructor
              · refine wpOp_value (v := .pointer (some ⟨H, 0, none⟩)) (w' := wr.drew.alloc (.cells #[.int .i64 0, .int .i64 0, .string ByteArray.empty] 116)) (by rw [List.getElem?_toArray]; rfl) (by with_unfolding_all rfl) (by rw [hH]; first | (go_simp; done) | (go_simp; rfl) | (simp [execOp, Act.eval, Result.andThen]; done)) ?_
                refine ⟨bal (Below.refl _ _).drew _, ?_⟩
                go_frame
                refine wpAnyC_on [10] (by kernel_rfl) (by simp) ?_
                simp only [List.forall_mem_cons, List.not_mem_nil, false_implies, implies_true, and_true]
                refine wpOp_value (v := .pointer (some ⟨H1, 0, none⟩)) (w' := (wr.drew.alloc (.cells #[.int .i64 0, .int .i64 0, .string ByteArray.empty] 116)).alloc (.cells #[.int .i64 0, .int .i64 0, .string ByteArray.empty] 116)) (by rw [List.getElem?_toArray]; rfl) (by with_unfolding_all rfl) (by rw [hH1, hH]; first | (go_simp; done) | (go_simp; rfl) | (simp [execOp, Act.eval, Result.andThen]; done)) ?_
                refine ⟨bal (bal (Below.refl _ _).drew _) _, ?_⟩
                go_frame
                refine wpAnyC_on [11] (by kernel_rfl) (by simp) ?_
                simp only [List.forall_mem_cons, List.not_mem_nil, false_implies, implies_true, and_true]
                refine wpOp_of_list (by rw [List.getElem?_toArray]; rfl) ?_
                ((with_reducible refine wpList_stoR (us := #[.int .i64 A.f, .int .i64 A.t, .string A.way]) 1 (by with_unfolding_all rfl) (by with_unfolding_all rfl) (hSB) (by with_unfolding_all rfl) (by kernel_rfl) (by with_unfolding_all rfl) (by with_unfolding_all rfl) ?_); intro w2 hS2)
                refine ⟨hS2.b, ?_⟩
                go_frame
                refine wpAnyC_on [12] (by kernel_rfl) (by simp) ?_
                simp only [List.forall_mem_cons, List.not_mem_nil, false_implies, implies_true, and_true]
                refine wpOp_of_list (by rw [List.getElem?_toArray]; rfl) ?_
                ((with_reducible refine wpList_stoR (us := #[.int .i64 D.f, .int .i64 D.t, .string D.way]) 0 (by with_unfolding_all rfl) (by with_unfolding_all rfl) (hS2) (by with_unfolding_all rfl) (by kernel_rfl) (by with_unfolding_all rfl) (by with_unfolding_all rfl) ?_); intro w3 hS3)
                refine ⟨hS3.b, ?_⟩
                go_frame
                refine wpAnyC_rest [] [] rfl rfl (by kernel_rfl) (by kernel_rfl) (by kernel_rfl) hS3.b ?_
                unfold wpPure
                refine of_wpList_nil (P := Tryz.prog) (ops := #[]) ?_
                have z1 := (hS3.blk 1 rfl).1
                have z0 := (hS3.blk 0 rfl).1
                have zb := hS3.b
                clear hS2 hS3
                revert z1 z0 zb
                generalize H = X
                generalize H1 = Y
                intro z1 z0 zb
                exact key X Y w3 ⟨zb, z1, z0⟩
              · refine wpOp_value (v := .pointer (some ⟨H, 0, none⟩)) (w' := wr.drew.alloc (.cells #[.int .i64 0, .int .i64 0, .string ByteArray.empty] 116)) (by rw [List.getElem?_toArray]; rfl) (by with_unfolding_all rfl) (by rw [hH]; first | (go_simp; done) | (go_simp; rfl) | (simp [execOp, Act.eval, Result.andThen]; done)) ?_
                refine ⟨bal (Below.refl _ _).drew _, ?_⟩
                go_frame
                refine wpAnyC_on [9] (by kernel_rfl) (by simp) ?_
                simp only [List.forall_mem_cons, List.not_mem_nil, false_implies, implies_true, and_true]
                refine wpOp_value (v := .pointer (some ⟨H1, 0, none⟩)) (w' := (wr.drew.alloc (.cells #[.int .i64 0, .int .i64 0, .string ByteArray.empty] 116)).alloc (.cells #[.int .i64 0, .int .i64 0, .string ByteArray.empty] 116)) (by rw [List.getElem?_toArray]; rfl) (by with_unfolding_all rfl) (by rw [hH1, hH]; first | (go_simp; done) | (go_simp; rfl) | (simp [execOp, Act.eval, Result.andThen]; done)) ?_
                refine ⟨bal (bal (Below.refl _ _).drew _) _, ?_⟩
                go_frame
                refine wpAnyC_on [11] (by kernel_rfl) (by simp) ?_
                simp only [List.forall_mem_cons, List.not_mem_nil, false_implies, implies_true, and_true]
                refine wpOp_of_list (by rw [List.getElem?_toArray]; rfl) ?_
                ((with_reducible refine wpList_stoR (us := #[.int .i64 A.f, .int .i64 A.t, .string A.way]) 0 (by with_unfolding_all rfl) (by with_unfolding_all rfl) (hSB) (by with_unfolding_all rfl) (by kernel_rfl) (by with_unfolding_all rfl) (by with_unfolding_all rfl) ?_); intro w2 hS2)
                refine ⟨hS2.b, ?_⟩
                go_frame
                refine wpAnyC_on [12] (by kernel_rfl) (by simp) ?_
                simp only [List.forall_mem_cons, List.not_mem_nil, false_implies, implies_true, and_true]
                refine wpOp_of_list (by rw [List.getElem?_toArray]; rfl) ?_
                ((with_reducible refine wpList_stoR (us := #[.int .i64 D.f, .int .i64 D.t, .string D.way]) 1 (by with_unfolding_all rfl) (by with_unfolding_all rfl) (hS2) (by with_unfolding_all rfl) (by kernel_rfl) (by with_unfolding_all rfl) (by with_unfolding_all rfl) ?_); intro w3 hS3)
                refine ⟨hS3.b, ?_⟩
                go_frame
                refine wpAnyC_rest [] [] rfl rfl (by kernel_rfl) (by kernel_rfl) (by kernel_rfl) hS3.b ?_
                unfold wpPure
                refine of_wpList_nil (P := Tryz.prog) (ops := #[]) ?_
                have z1 := (hS3.blk 1 rfl).1
                have z0 := (hS3.blk 0 rfl).1
                have zb := hS3.b
                clear hS2 hS3
                revert z1 z0 zb
                generalize H = X
                generalize H1 = Y
                intro z1 z0 zb
                exact key Y X w3 ⟨zb, z0, z1⟩
            case k =>
              rintro Pa Qa w3 ⟨hb3, hP3, hQ3⟩
              clear hSB hH hH1 HVA HVD hwj
              go_wp2_with (with_reducible refine wpList_ldS (n := 3) (us := #[.int .i64 D.f, .int .i64 D.t, .string D.way]) F_pass (by kernel_rfl) (by with_unfolding_all rfl) (by with_unfolding_all rfl) (by assumption) (by with_unfolding_all rfl) (by with_unfolding_all rfl) ?_)
              refine (HCL.out w3).mono ?_
              rintro e w4 ⟨v4, rfl, ho4, b4⟩
              obtain ⟨al, cl, rfl, hL4, _, _⟩ := ho4.reps
              have hP4 := (b4.block Pa (Array.getElem?_eq_some_iff.1 hP3).1).trans hP3
              have hll := HLL.out
              have hl0 : 0 < LD.length := by omega
              have hl1 : LD.length ≤ 11 := by omega
              clear hll
              have hwn : IntKind.i64.wrap (-atD 0 LD 0) = -atD 0 LD 0 := IntWalk.i64_in _ (by omega)
              go_wp2_with fail
              refine wp_region_quiet_lit (by kernel_rfl) (by kernel_rfl) ?_
              repeat (first | ((with_reducible refine wpQD_idx 0 E_ints F_int cInt1 (by with_unfolding_all rfl) (by with_unfolding_all rfl) (hL4) (by first | omega | (simp; done)) (by first | omega | (simp; done)) (fun _ => by with_unfolding_all rfl) (fun _ => ?_)); (try simp only [Act.put, List.setIfInBounds_toArray, List.set_cons_zero, List.set_cons_succ]); (try simp only [cInt])) | quiet_step (fail))
              refine wpQuiet_nil ?_
              intro w5 hb5
              replace hb5 := below_drewN hb5
              clear hwn
              have hmx : max (atD 0 LD 0) (-atD 0 LD 0) = absI (atD 0 LD 0) := by unfold absI; split <;> omega
              rw [hmx]
              obtain ⟨M, hM⟩ : ∃ M, M = absI (atD 0 LD 0) := ⟨_, rfl⟩
              have k1 := HN1.out
              have k2 := HN2.out
              rw [← hM] at k1 k2 ⊢
              have hb25 := bnext hbq (bnext hb3 (bnext b4 hb5))
              have hP5 := (hb5.block Pa (Array.getElem?_eq_some_iff.1 hP4).1).trans hP4
              have g0 : w5.cell? ⟨Pa, 0, none⟩ = some (.int .i64 A.f) := by simp [World.cell?, hP5]
              have g1 : w5.cell? ⟨Pa, 1, none⟩ = some (.int .i64 A.t) := by simp [World.cell?, hP5]
              clear hmx hM hP5 hP4 hP3 hQ3 hL4 ho4 f1 f2
              by_cases hud : A.f < A.t
              · have hnd : ¬ A.t < A.f := by omega
                have k3 : (M == A.t) = false := by simpa using k1 hud
                clear k1 k2
                by_cases h1 : 1 < A.t - A.f
                · go_wp2_with fail
                  exact ⟨⟨j + 1, .inl hlt2, by go_num, hb25⟩, by simp [intOf]; omega⟩
                · go_wp2_with fail
                  exact ⟨⟨j + 1, .inl hlt2, by go_num, hb25⟩, by simp [intOf]; omega⟩
              · have hnd : A.t < A.f := by omega
                have k3 : (M == A.t - 1) = false := by simpa using k2 hnd
                clear k1 k2
                go_wp2_with fail
                exact ⟨⟨j + 1, .inl hlt2, by go_num, hb25⟩, by simp [intOf]; omega⟩
          · go_wp2_with fail
            refine (awake_any _).mono ?_
            rintro e w' ⟨rfl, hb⟩
            go_wp2_with fail
            go_ret
            exact ⟨rfl, bnext t16 (bnext hbq hb)⟩
  · obtain ⟨q, hq⟩ : ∃ q, q = passesE n l := ⟨_, rfl⟩
    rw [← hq] at RC h
    have hne : (q != 0) = true := by simpa using h
    have HRC := hid RC; have HSh := hid CSh
    clear RC CSh hsh hww hw hq
    go_enter Tryz.func13, Tryz.ntmps13
    go_wp2_with fail
    refine HSh.out.mono ?_
    rintro e w1 ⟨rfl, b1⟩
    go_wp2_with fail
    refine (HRC.out w1 (hS.below b1)).mono ?_
    rintro e w2 ⟨rfl, b2⟩
    go_wp2_with fail
    refine (awake_any _).mono ?_
    rintro e w' ⟨rfl, hb⟩
    go_wp2_with fail
    go_ret
    exact ⟨rfl, bnext b1 (bnext b2 hb)⟩
end Go.Proofs.YtogbclcnmogaeaaGreatDoor
