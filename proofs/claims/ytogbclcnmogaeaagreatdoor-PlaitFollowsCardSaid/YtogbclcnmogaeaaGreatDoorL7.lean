/- Contract: PlaitFollows returns true. Condition: the slice can be read. -/
import Derived.Test.YtogbclcnmogaeaaGreatDoorFw
import Derived.Test.YtogbclcnmogaeaaGreatDoorAwA
set_option linter.all false
namespace Go.Proofs.YtogbclcnmogaeaaGreatDoor
open Go.RowKit
set_option maxHeartbeats 40000000
set_option maxRecDepth 100000

theorem PlaitFollows_any (n : Int) (a : Option Addr) (cap : Nat) (l : List PassV) (w : World) (hS : PassesR w a cap l) :
    Calls Tryz.prog 9 #[.int .i64 n, .slice a l.length cap] w fun r w' => r = .returned (.bool true) ∧ Below w.heap.size w w' := by
  have hcap := hS.le
  have hm := hS.max
  have CSh := rShortPasses_any a cap l w hS
  by_cases h10 : 10 < l.length
  · clear CSh
    go_enter Tryz.func9, Tryz.ntmps9
    go_wp2_with fail
    refine (awake_any _).mono ?_
    rintro e w' ⟨rfl, hb⟩
    go_wp2_with fail
    go_ret
    exact ⟨rfl, hb⟩
  cases hsh : shortPB l
  · rw [hsh] at CSh
    have HSh := hid CSh; clear CSh hsh
    go_enter Tryz.func9, Tryz.ntmps9
    go_wp2_with fail
    refine HSh.out.mono ?_
    rintro e w1 ⟨rfl, b1⟩
    go_wp2_with fail
    refine (awake_any _).mono ?_
    rintro e w' ⟨rfl, hb⟩
    go_wp2_with fail
    go_ret
    exact ⟨rfl, bnext b1 hb⟩
  rw [hsh] at CSh
  have hww : ∀ p ∈ l, p.way.size ≤ 20 := by
    simp only [shortPB, Bool.and_eq_true, decide_eq_true_eq, List.all_eq_true] at hsh
    exact hsh.2
  have hw : ∀ p ∈ l, p.way.size ≤ 1048576 := fun p hp => by have := hww p hp; omega
  have RC := fun (w : World) (hS : PassesR w a cap l) => rCheckPasses_any n a cap l w hS (by omega) hw
  by_cases h : passesE n l = 0
  · obtain ⟨hn1, hn2, _, hall⟩ := passesE_zero h
    obtain ⟨m, rfl⟩ : ∃ m : Nat, n = m := ⟨n.toNat, by omega⟩
    obtain ⟨hWE, hWlen⟩ := lettersAll_word h (by omega)
    have CW := fun (a : Option Addr) (cap : Nat) (w : World) (hS : PassesR w a cap l) => Word_any m a cap l w hS (by omega) hw
    have eW0 : wordErr m l = 0 := by unfold wordErr; rw [if_neg (fun hh => hh h), if_neg (by omega)]
    have eW1 : wordL m l = lettersAll l := by unfold wordL; rw [if_pos eW0]
    rw [eW0, eW1] at CW
    have CC := fun (a : Option Addr) (cap : Nat) (w : World) (hS : Ints w a cap (lettersAll l)) => Crosses_any m a cap (lettersAll l) w hS (by omega)
    have CA := fun (a : Option Addr) (cap : Nat) (w : World) (hS : Ints w a cap (lettersAll l)) => Alternates_any m a cap (lettersAll l) w hS (by omega)
    have e2 : crossL m (lettersAll l) = (rowL m (lettersAll l)).2 := if_pos hWE
    have e3 : altB m (lettersAll l) = altGo (fun _ => 0) 0 (rowL m (lettersAll l)).2 := by unfold altB; rw [if_pos hWE, e2]
    rw [hWE] at CC CA
    rw [e2] at CC
    rw [e3] at CA
    have hok : pairsOk m (rowL m (lettersAll l)).2 := by have := crossL_ok m (lettersAll l); rwa [e2] at this
    have hCl : (rowL m (lettersAll l)).2.length = (lettersAll l).length := by rw [rowL, rowGo_cl]; simp
    obtain ⟨W, hWd⟩ : ∃ W, W = lettersAll l := ⟨_, rfl⟩
    rw [← hWd] at CW CC CA hok hCl hWlen
    obtain ⟨C, hCd⟩ : ∃ C, C = (rowL m W).2 := ⟨_, rfl⟩
    rw [← hCd] at CC CA hok hCl
    obtain ⟨t1, t2⟩ := alt_top hok
    have found := fun (s : Int) => @alt_found m C hok s
    have none_ := @alt_none m C hok
    obtain ⟨A, hAd⟩ : ∃ A, A = altGo (fun _ => 0) 0 C := ⟨_, rfl⟩
    rw [← hAd] at CA t1 t2 found none_
    have hA : 0 ≤ A ∧ A ≤ m := by
      by_cases hA0 : A = 0
      · omega
      · have := t2 hA0; omega
    obtain ⟨hA1, hA2⟩ := hA
    have hCl2 : C.length ≤ 110 := by omega
    have hne : ((C.length : Int) != W.length) = false := by simp; omega
    rw [h] at RC
    have HW := hid CW; have HC := hid CC; have HA := hid CA; have HRC := hid RC; have HSh := hid CSh
    have HOK := hid hok; have HFo := hid found; have HNo := hid none_; have HALL := hid hall; have HWD := hid hWd; have HCD := hid hCd; have HCL := hid hCl
    clear CW CC CA RC CSh hsh hww hw h hall hWE eW0 eW1 e2 e3 hok t1 t2 found none_ hWd hCd hCl hAd
    go_enter Tryz.func9, Tryz.ntmps9
    go_wp2_with fail
    refine HSh.out.mono ?_
    rintro e w1 ⟨rfl, b1⟩
    go_wp2_with fail
    refine (HRC.out w1 (hS.below b1)).mono ?_
    rintro e w2 ⟨rfl, b2⟩
    go_wp2_with fail
    refine (passes_any a cap l w2 (hS.below (bnext b1 b2)) (by omega)).mono ?_
    rintro e w3 ⟨v3, rfl, ho3, b3⟩
    obtain ⟨a3, c3, rfl, q3, _, _⟩ := ho3.reps
    go_wp2_with fail
    refine (HW.out a3 c3 w3 q3).mono ?_
    rintro e w4 ⟨aw, cw, rfl, hw4, _, b4⟩
    go_wp2_with fail
    refine (numbers_any aw cw W w4 hw4 (by omega)).mono ?_
    rintro e w5 ⟨v5, rfl, ho5, b5⟩
    obtain ⟨a5, c5, rfl, q5, _, _⟩ := ho5.reps
    go_wp2_with fail
    refine (HC.out a5 c5 w5 q5).mono ?_
    rintro e w6 ⟨ac, cc, rfl, hc6, _, b6⟩
    go_wp2_with fail
    refine (numbers_any aw cw W w6 (hw4.below (bnext b5 b6)) (by omega)).mono ?_
    rintro e w7 ⟨v7, rfl, ho7, b7⟩
    obtain ⟨a7, c7, rfl, q7, _, _⟩ := ho7.reps
    go_wp2_with fail
    refine (HA.out a7 c7 w7 q7).mono ?_
    rintro e w8 ⟨rfl, b8⟩
    have t8 := bnext b1 (bnext b2 (bnext b3 (bnext b4 (bnext b5 (bnext b6 (bnext b7 b8))))))
    have hc8 := hc6.below (bnext b7 b8)
    have hS8 := hS.below t8
    clear hc6 hw4 ho3 ho5 ho7 q3 q5 q7 b1 b2 b3 b4 b5 b6 b7 b8
    have hN0 := SL.nil w8
    go_wp2_with ((with_reducible refine wpList_makeL (c := cInt) (m + 1) (0) E_ints cInt1 (by with_unfolding_all rfl) (by with_unfolding_all rfl) (by omega) (by omega) (hN0) ?_); intro ad w9 hS9)
    obtain ⟨N, hNe⟩ : ∃ N, N = m + 1 := ⟨_, rfl⟩
    rw [← hNe] at hS9 ⊢
    have hNi : N ≤ 13 := by omega
    have hN1 : N ≤ m + 1 := by omega
    have hN2 : m + 1 ≤ N := by omega
    have HN := hid hNe; clear hNe hN0
    go_loopw [12, 91] (fun _ i wr => ∃ (k : Nat) (R : List Int), k ≤ N ∧ i = .int .i64 k ∧ R.length = N ∧ (∀ j : Int, 0 ≤ j → j < k → atD 0 R j = j) ∧ SL w8.heap.size w8 wr [pOwn cInt 1 3 (.slice ad N N) R]) (fun _ i _ => N - (intOf i).toNat)
    case atStart => exact ⟨0, _, by omega, rfl, by simp, fun j h0 h1 => by omega, hS9⟩
    case round =>
      obtain ⟨k, R, hk, rfl, hRl, hR, hSR⟩ := hrel
      have hRi : N ≤ R.length := by omega
      have HRL := hid hRl; have HR := hid hR; clear hRl hR
      by_cases hlt : k < N
      · go_wp2_with (first | ((with_reducible refine wpList_storeL (u := (k : Int)) 0 E_ints cInt1 (sto_int) (by with_unfolding_all rfl) (by with_unfolding_all rfl) (hSR) (by with_unfolding_all rfl) (by first | omega | (simp; done) | (simp; omega)) (by first | omega | (simp; done) | (simp; omega)) (fun _ => by with_unfolding_all rfl) (fun _ => by with_unfolding_all rfl) ?_); intro _ w2 hS2))
        refine ⟨⟨k + 1, _, by omega, by go_num, by simpa using HRL.out, fun j h0 h1 => ?_, hS2⟩, by simp [intOf]; omega⟩
        rw [atD_set (by omega) (by omega) h0]
        split
        · next e => rw [e]
        · exact HR.out j h0 (by omega)
      · have hid_ : R = 0 :: startL m := by
          rw [← idL_start, ← HN.out]
          refine ext_atD (by rw [HRL.out, idL_len]) (fun j h0 h1 => ?_)
          rw [HR.out j h0 (by have := HRL.out; omega)]
          have h2 : j.toNat < N := by have := HRL.out; omega
          unfold atD idL
          rw [List.getD_eq_getElem?_getD, List.getElem?_map, List.getElem?_range h2]
          simp; omega
        subst hid_
        clear hRi
        go_wp2_with fail
        go_loopw [13, 15, 16, 17, 18, 19, 20, 21, 101] (fun at_ _ _ _ _ _ _ _ i wq => ∃ (j : Nat) (st : List Int) (cr : List (Int × Int)), j ≤ l.length ∧ i = .int .i64 j ∧ at_ = .int .i64 cr.length ∧ st.length = m ∧ SL w8.heap.size w8 wq [pOwn cInt 1 3 (.slice ad N N) (0 :: st)] ∧ rowGo st cr (lettersAll (l.drop j)) = rowL m W) (fun _ _ _ _ _ _ _ _ i _ => l.length - (intOf i).toNat)
        case atStart => exact ⟨0, startL m, [], by omega, rfl, rfl, startL_len m, hSR, by rw [HWD.out]; rfl⟩
        case round =>
          obtain ⟨j, st, cr, hj, rfl, rfl, hst, hSt, hgo⟩ := hrel
          have HST := hid hst; clear hst
          by_cases hjl : j < l.length
          · have hp := HALL.out (atD pass0 l j) (by simp [atD, hjl])
            obtain ⟨y1, y2, y3, y4, y5, y6, y7⟩ := passE_zero hp
            have hz := (passE_small hn2 hp).2.2.1
            rw [lettersAll_drop l j hjl] at hgo
            have hSr := hS8.below hSt.b
            have hRn : ((0 : Int) :: st).length = N := by rw [List.length_cons, HST.out]; omega
            have HRN := hid hRn; clear hRn
            obtain ⟨S0, hS0⟩ : ∃ S0, S0 = atD 0 ((0 : Int) :: st) (atD pass0 l j).f := ⟨_, rfl⟩
            have hSa := hSt.al (.cells #[.int .i64 (atD pass0 l j).f, .int .i64 (atD pass0 l j).t, .string (atD pass0 l j).way] 99)
            have hRa := hSa.rd 0 rfl
            have hSb := hSt.box (.cells #[.int .i64 (atD pass0 l j).f, .int .i64 (atD pass0 l j).t, .string (atD pass0 l j).way] 99)
            by_cases hud : (atD pass0 l j).f < (atD pass0 l j).t
            · go_wp2_with (first | (with_reducible refine wpList_idxS _ pass0 E_rpasses F_rpass cPass1 (by with_unfolding_all rfl) (by with_unfolding_all rfl) (hSr) (by first | omega | (simp; done)) (by first | omega | (simp; done)) (fun _ => by with_unfolding_all rfl) (fun _ => ?_)) | (with_reducible refine wpList_idxN _ 0 E_ints F_int cInt1 (by with_unfolding_all rfl) (by with_unfolding_all rfl) (hRa) (HRN.out) (by first | omega | (simp; done)) (by first | omega | (simp; done)) (fun _ => by with_unfolding_all rfl) (fun _ => ?_)))
              rw [← hS0]
              obtain ⟨P, hP⟩ : ∃ P, P = atD pass0 l j := ⟨_, rfl⟩
              obtain ⟨H, hH⟩ : ∃ H, H = wr.heap.size := ⟨_, rfl⟩
              rw [← hP, ← hH] at hSb
              rw [← hP] at hp y1 y2 y3 y4 y5 y6 hz hgo hud hS0
              rw [← hP, ← hH]
              have HS0 := hid hS0; have HGO0 := hid hgo; have HPE := hid hp
              clear hP hH hSa hRa hSr hS0 hgo hp y7
              go_loopw [13, 18, 19, 20, 21, 118] (fun at_ _ _ _ _ i wz => ∃ (c : Nat) (st2 : List Int) (cr2 : List (Int × Int)), c ≤ P.way.size ∧ i = .int .i64 c ∧ at_ = .int .i64 cr2.length ∧ st2.length = m ∧ SL w8.heap.size w8 wz [pBlk H (.cells #[.int .i64 P.f, .int .i64 P.t, .string P.way] 99), pOwn cInt 1 3 (.slice ad N N) (0 :: st2)] ∧ rowGo st2 cr2 ((lettersL P).drop c ++ lettersAll (l.drop (j + 1))) = rowL m W ∧ atD 0 ((0 : Int) :: st2) (P.f + (c : Int)) = S0) (fun _ _ _ _ _ i _ => P.way.size - (intOf i).toNat)
              case atStart => exact ⟨0, st, cr, by omega, rfl, rfl, HST.out, hSb, HGO0.out, by rw [HS0.out]; simp⟩
              case round =>
                obtain ⟨c, st2, cr2, hc, rfl, rfl, hst2, hSc, hgo2, hstr⟩ := hrel
                have HST2 := hid hst2
                by_cases hcl : c < P.way.size
                · rw [lettersL_drop P c hcl, List.cons_append] at hgo2
                  obtain ⟨hx1, hx2⟩ := cross_at (C := C) (by rw [hgo2, ← HCD.out])
                  rw [rowGo] at hgo2
                  obtain ⟨p1, p2, p3⟩ := (pass_step (n := m) (f := P.f) (t := P.t) (s := P.way) hn2 HPE.out hcl (by rw [hst2])).1 hud
                  have hRn2 : ((0 : Int) :: st2).length = N := by rw [List.length_cons, hst2]; omega
                  have hRi3 : N ≤ st2.length + 1 := by omega
                  have hRi2 : N ≤ ((0 : Int) :: st2).length := by omega
                  have HRN2 := hid hRn2
                  have k0 := hSc.cell 0 rfl 0 rfl
                  have k1 := hSc.cell 0 rfl 1 rfl
                  have k2 := hSc.cell 0 rfl 2 rfl
                  have hRc := hSc.rd 1 rfl
                  have hb := byteAt_in hcl
                  obtain ⟨bc, oc, rfl, _⟩ := hc8.cells (by decide) (0, 0) cr2.length hx2
                  clear hst2 hRn2
                  by_cases cu : ((P.way[c]'hcl).toNat : Int) = 117
                  · have d1 : (((P.way[c]'hcl).toNat : Int) == 117) = true := by simpa using cu
                    have hco : crossOf st2 (letterAt P c) = ((atD 0 ((0 : Int) :: st2) (P.f + (c : Int) + 1)), S0) := by
                      have := p1;  rw [if_pos (by rw [hb]; exact cu), hstr] at this; exact this
                    rw [hco] at hx1 hgo2
                    have hV : cPair (atD (0, 0) C cr2.length) = .agg #[.int .i64 (atD 0 ((0 : Int) :: st2) (P.f + (c : Int) + 1)), .int .i64 S0] := by rw [hx1]; rfl
                    rw [hstr] at p2
                    have HV := hid hV; have HGO := hid hgo2; have HP2 := hid p2
                    clear hV hgo2 hx1 p1 p2 hco hb cu hstr
                    have hSd := hSc.box (.cells #[.int .i64 S0, .int .i64 (atD 0 ((0 : Int) :: st2) (P.f + (c : Int) + 1))] 101)
                    have k2d := hSd.cell 1 rfl 2 rfl
                    have k0d := hSd.cell 1 rfl 0 rfl
                    go_wp2_with (first | (with_reducible refine wpList_idxN _ 0 E_ints F_int cInt1 (by with_unfolding_all rfl) (by with_unfolding_all rfl) (hRc) (HRN2.out) (by first | omega | (simp; done)) (by first | omega | (simp; done)) (fun _ => by with_unfolding_all rfl) (fun _ => ?_)) | ((with_reducible refine wpList_stoR (us := #[.int .i64 (atD 0 ((0 : Int) :: st2) (P.f + (c : Int) + 1)), .int .i64 S0]) 0 (by with_unfolding_all rfl) (by with_unfolding_all rfl) (hSd) (by with_unfolding_all rfl) (by kernel_rfl) (by with_unfolding_all rfl) (by with_unfolding_all rfl) ?_); intro w2 hSd2))
                    try go_frame
                    have hC2 := hc8.below hSd2.b
                    have hB2 := (hSd2.blk 0 rfl).1
                    refine wp_regionK (C := Below (w2).heap.size (w2)) [0, 1, 2, 3, 4, 5, 6, 7, 8, 9, 10, 11] [_, _, _, _, _, _, _, _, _, _, _, _] 0 (by simp only [List.map_cons, List.map_nil, List.getElem?_toArray]; rfl) rfl (by kernel_rfl) (by kernel_rfl) (by kernel_rfl) ((Below.refl _ _).drew) ?_
                    refine ⟨_, yieldsK_val (by with_unfolding_all rfl) (fun w' => by with_unfolding_all exact rfl), ?_⟩
                    go_frame
                    refine ⟨_, yieldsK_val (by with_unfolding_all rfl) (fun w' => by with_unfolding_all exact rfl), ?_⟩
                    go_frame
                    refine ⟨_, yieldsK_val (by with_unfolding_all rfl) (fun w' => by with_unfolding_all exact rfl), ?_⟩
                    go_frame
                    refine ⟨.bool false, yieldsK_val (by with_unfolding_all rfl) (fun w' => by first | (go_simp; done) | (go_simp; rfl)), ?_⟩
                    go_frame
                    refine ⟨_, yieldsK_val (by with_unfolding_all rfl) (fun w' => by with_unfolding_all exact rfl), ?_⟩
                    go_frame
                    refine ⟨_, yieldsK_val (by with_unfolding_all rfl) (fun w' => by with_unfolding_all exact rfl), ?_⟩
                    go_frame
                    refine ⟨_, yieldsK_val (by with_unfolding_all rfl) (fun w' => by with_unfolding_all exact rfl), ?_⟩
                    go_frame
                    refine ⟨_, yieldsK_idx (k := (cr2.length : Int)) E_cross (by omega) (by first | omega | (simp; omega)) (by with_unfolding_all rfl) (by with_unfolding_all rfl) (by with_unfolding_all rfl), ?_⟩
                    go_frame
                    refine ⟨_, yieldsK_agg E_cross F_cross cPair1 (0, 0) hC2 hx2 HV.out (by with_unfolding_all rfl) (by with_unfolding_all rfl), ?_⟩
                    go_frame
                    refine ⟨_, yieldsK_blk F_cross (by kernel_rfl) hB2 rfl (by with_unfolding_all rfl) (by with_unfolding_all rfl), ?_⟩
                    go_frame
                    refine ⟨.bool false, yieldsK_val (by with_unfolding_all rfl) (fun w' => by first | (go_simp; done) | (go_simp; rfl)), ?_⟩
                    go_frame
                    refine ⟨_, yieldsK_val (by with_unfolding_all rfl) (fun w' => by with_unfolding_all exact rfl), ?_⟩
                    go_frame
                    unfold wpPureK
                    have hVd : ({ w2 with drawn := w2.drawn + 1 } : World) = w2.drew := rfl
                    rw [hVd]
                    clear hVd
                    have hSe := hSd2.drew
                    refine wpAnyC_rest [] [] rfl rfl (by kernel_rfl) (by kernel_rfl) (by kernel_rfl) (Below.refl _ _).drew ?_
                    unfold wpPure
                    refine of_wpList_nil (P := Tryz.prog) (ops := #[]) ?_
                    go_wp2_with (first | ((with_reducible refine wpList_storeL (u := (atD 0 ((0 : Int) :: st2) (P.f + (c : Int) + 1))) 2 E_ints cInt1 (sto_int) (by with_unfolding_all rfl) (by with_unfolding_all rfl) (hSe) (by with_unfolding_all rfl) (by first | omega | (simp; done) | (simp; omega)) (by first | omega | (simp; done) | (simp; omega)) (fun _ => by with_unfolding_all rfl) (fun _ => by with_unfolding_all rfl) ?_); intro _ w3 hSf) | ((with_reducible refine wpList_storeL (u := S0) 2 E_ints cInt1 (sto_int) (by with_unfolding_all rfl) (by with_unfolding_all rfl) (hSf) (by with_unfolding_all rfl) (by first | omega | (simp; done) | (simp; omega)) (by first | omega | (simp; done) | (simp; omega)) (fun _ => by with_unfolding_all rfl) (fun _ => by with_unfolding_all rfl) ?_); intro _ w4 hSg))
                    have e := HP2.out
                    have hSt4 := hSg.tail
                    refine ⟨⟨c + 1, swapL st2 (absI (letterAt P c)), cr2 ++ [((atD 0 ((0 : Int) :: st2) (P.f + (c : Int) + 1)), S0)], by omega, by go_num, by rw [List.length_append]; rfl, by rw [swapL_len]; exact HST2.out, ?_, HGO.out, ?_⟩, by simp [intOf]; omega⟩
                    · rw [← e]; exact hSt4
                    · rw [← e, show P.f + ((c + 1 : Nat) : Int) = (P.f + (c : Int) + 1) by omega, atD_set (by omega) (by simp; omega) (by omega), if_pos rfl]

                  · have d1 : (((P.way[c]'hcl).toNat : Int) == 117) = false := by simpa using cu
                    have hco : crossOf st2 (letterAt P c) = (S0, (atD 0 ((0 : Int) :: st2) (P.f + (c : Int) + 1))) := by
                      have := p1;  rw [if_neg (by rw [hb]; exact cu), hstr] at this; exact this
                    rw [hco] at hx1 hgo2
                    have hV : cPair (atD (0, 0) C cr2.length) = .agg #[.int .i64 S0, .int .i64 (atD 0 ((0 : Int) :: st2) (P.f + (c : Int) + 1))] := by rw [hx1]; rfl
                    rw [hstr] at p2
                    have HV := hid hV; have HGO := hid hgo2; have HP2 := hid p2
                    clear hV hgo2 hx1 p1 p2 hco hb cu hstr
                    have hSd := hSc.box (.cells #[.int .i64 S0, .int .i64 (atD 0 ((0 : Int) :: st2) (P.f + (c : Int) + 1))] 101)
                    have k2d := hSd.cell 1 rfl 2 rfl
                    have k0d := hSd.cell 1 rfl 0 rfl
                    go_wp2_with (first | (with_reducible refine wpList_idxN _ 0 E_ints F_int cInt1 (by with_unfolding_all rfl) (by with_unfolding_all rfl) (hRc) (HRN2.out) (by first | omega | (simp; done)) (by first | omega | (simp; done)) (fun _ => by with_unfolding_all rfl) (fun _ => ?_)))
                    have hSd2 := hSd
                    obtain ⟨w2, hw2⟩ : ∃ w2, w2 = wr.alloc (.cells #[.int .i64 S0, .int .i64 (atD 0 ((0 : Int) :: st2) (P.f + (c : Int) + 1))] 101) := ⟨_, rfl⟩
                    rw [← hw2] at hSd2 ⊢
                    clear hw2
                    try go_frame
                    have hC2 := hc8.below hSd2.b
                    have hB2 := (hSd2.blk 0 rfl).1
                    refine wp_regionK (C := Below (w2).heap.size (w2)) [0, 1, 2, 3, 4, 5, 6, 7, 8, 9, 10, 11] [_, _, _, _, _, _, _, _, _, _, _, _] 0 (by simp only [List.map_cons, List.map_nil, List.getElem?_toArray]; rfl) rfl (by kernel_rfl) (by kernel_rfl) (by kernel_rfl) ((Below.refl _ _).drew) ?_
                    refine ⟨_, yieldsK_val (by with_unfolding_all rfl) (fun w' => by with_unfolding_all exact rfl), ?_⟩
                    go_frame
                    refine ⟨_, yieldsK_val (by with_unfolding_all rfl) (fun w' => by with_unfolding_all exact rfl), ?_⟩
                    go_frame
                    refine ⟨_, yieldsK_val (by with_unfolding_all rfl) (fun w' => by with_unfolding_all exact rfl), ?_⟩
                    go_frame
                    refine ⟨.bool false, yieldsK_val (by with_unfolding_all rfl) (fun w' => by first | (go_simp; done) | (go_simp; rfl)), ?_⟩
                    go_frame
                    refine ⟨_, yieldsK_val (by with_unfolding_all rfl) (fun w' => by with_unfolding_all exact rfl), ?_⟩
                    go_frame
                    refine ⟨_, yieldsK_val (by with_unfolding_all rfl) (fun w' => by with_unfolding_all exact rfl), ?_⟩
                    go_frame
                    refine ⟨_, yieldsK_val (by with_unfolding_all rfl) (fun w' => by with_unfolding_all exact rfl), ?_⟩
                    go_frame
                    refine ⟨_, yieldsK_idx (k := (cr2.length : Int)) E_cross (by omega) (by first | omega | (simp; omega)) (by with_unfolding_all rfl) (by with_unfolding_all rfl) (by with_unfolding_all rfl), ?_⟩
                    go_frame
                    refine ⟨_, yieldsK_agg E_cross F_cross cPair1 (0, 0) hC2 hx2 HV.out (by with_unfolding_all rfl) (by with_unfolding_all rfl), ?_⟩
                    go_frame
                    refine ⟨_, yieldsK_blk F_cross (by kernel_rfl) hB2 rfl (by with_unfolding_all rfl) (by with_unfolding_all rfl), ?_⟩
                    go_frame
                    refine ⟨.bool false, yieldsK_val (by with_unfolding_all rfl) (fun w' => by first | (go_simp; done) | (go_simp; rfl)), ?_⟩
                    go_frame
                    refine ⟨_, yieldsK_val (by with_unfolding_all rfl) (fun w' => by with_unfolding_all exact rfl), ?_⟩
                    go_frame
                    unfold wpPureK
                    have hVd : ({ w2 with drawn := w2.drawn + 1 } : World) = w2.drew := rfl
                    rw [hVd]
                    clear hVd
                    have hSe := hSd2.drew
                    refine wpAnyC_rest [] [] rfl rfl (by kernel_rfl) (by kernel_rfl) (by kernel_rfl) (Below.refl _ _).drew ?_
                    unfold wpPure
                    refine of_wpList_nil (P := Tryz.prog) (ops := #[]) ?_
                    go_wp2_with (first | ((with_reducible refine wpList_storeL (u := (atD 0 ((0 : Int) :: st2) (P.f + (c : Int) + 1))) 2 E_ints cInt1 (sto_int) (by with_unfolding_all rfl) (by with_unfolding_all rfl) (hSe) (by with_unfolding_all rfl) (by first | omega | (simp; done) | (simp; omega)) (by first | omega | (simp; done) | (simp; omega)) (fun _ => by with_unfolding_all rfl) (fun _ => by with_unfolding_all rfl) ?_); intro _ w3 hSf) | ((with_reducible refine wpList_storeL (u := S0) 2 E_ints cInt1 (sto_int) (by with_unfolding_all rfl) (by with_unfolding_all rfl) (hSf) (by with_unfolding_all rfl) (by first | omega | (simp; done) | (simp; omega)) (by first | omega | (simp; done) | (simp; omega)) (fun _ => by with_unfolding_all rfl) (fun _ => by with_unfolding_all rfl) ?_); intro _ w4 hSg))
                    have e := HP2.out
                    have hSt4 := hSg.tail
                    refine ⟨⟨c + 1, swapL st2 (absI (letterAt P c)), cr2 ++ [(S0, (atD 0 ((0 : Int) :: st2) (P.f + (c : Int) + 1)))], by omega, by go_num, by rw [List.length_append]; rfl, by rw [swapL_len]; exact HST2.out, ?_, HGO.out, ?_⟩, by simp [intOf]; omega⟩
                    · rw [← e]; exact hSt4
                    · rw [← e, show P.f + ((c + 1 : Nat) : Int) = (P.f + (c : Int) + 1) by omega, atD_set (by omega) (by simp; omega) (by omega), if_pos rfl]

                · have : c = P.way.size := by omega
                  subst this
                  rw [List.drop_of_length_le (by rw [lettersL_len]; exact Nat.le_refl _), List.nil_append] at hgo2
                  have HGO2 := hid hgo2; clear hgo2 hstr hst2
                  go_wp2_with fail
                  go_roundw
                  case rel => exact ⟨j + 1, st2, cr2, by omega, by go_num, rfl, HST2.out, hSc.tail, HGO2.out⟩
                  case measure => simp [intOf]; omega
            · have hdn : (atD pass0 l j).t < (atD pass0 l j).f := by omega
              go_wp2_with (first | (with_reducible refine wpList_idxS _ pass0 E_rpasses F_rpass cPass1 (by with_unfolding_all rfl) (by with_unfolding_all rfl) (hSr) (by first | omega | (simp; done)) (by first | omega | (simp; done)) (fun _ => by with_unfolding_all rfl) (fun _ => ?_)) | (with_reducible refine wpList_idxN _ 0 E_ints F_int cInt1 (by with_unfolding_all rfl) (by with_unfolding_all rfl) (hRa) (HRN.out) (by first | omega | (simp; done)) (by first | omega | (simp; done)) (fun _ => by with_unfolding_all rfl) (fun _ => ?_)))
              rw [← hS0]
              obtain ⟨P, hP⟩ : ∃ P, P = atD pass0 l j := ⟨_, rfl⟩
              obtain ⟨H, hH⟩ : ∃ H, H = wr.heap.size := ⟨_, rfl⟩
              rw [← hP, ← hH] at hSb
              rw [← hP] at hp y1 y2 y3 y4 y5 y6 hz hgo hdn hS0
              rw [← hP, ← hH]
              have HS0 := hid hS0; have HGO0 := hid hgo; have HPE := hid hp
              clear hP hH hSa hRa hSr hS0 hgo hp y7
              go_loopw [13, 18, 19, 20, 21, 118] (fun at_ _ _ _ _ i wz => ∃ (c : Nat) (st2 : List Int) (cr2 : List (Int × Int)), c ≤ P.way.size ∧ i = .int .i64 c ∧ at_ = .int .i64 cr2.length ∧ st2.length = m ∧ SL w8.heap.size w8 wz [pBlk H (.cells #[.int .i64 P.f, .int .i64 P.t, .string P.way] 99), pOwn cInt 1 3 (.slice ad N N) (0 :: st2)] ∧ rowGo st2 cr2 ((lettersL P).drop c ++ lettersAll (l.drop (j + 1))) = rowL m W ∧ atD 0 ((0 : Int) :: st2) (P.f - (c : Int)) = S0) (fun _ _ _ _ _ i _ => P.way.size - (intOf i).toNat)
              case atStart => exact ⟨0, st, cr, by omega, rfl, rfl, HST.out, hSb, HGO0.out, by rw [HS0.out]; simp⟩
              case round =>
                obtain ⟨c, st2, cr2, hc, rfl, rfl, hst2, hSc, hgo2, hstr⟩ := hrel
                have HST2 := hid hst2
                by_cases hcl : c < P.way.size
                · rw [lettersL_drop P c hcl, List.cons_append] at hgo2
                  obtain ⟨hx1, hx2⟩ := cross_at (C := C) (by rw [hgo2, ← HCD.out])
                  rw [rowGo] at hgo2
                  obtain ⟨p1, p2, p3, p4⟩ := (pass_step (n := m) (f := P.f) (t := P.t) (s := P.way) hn2 HPE.out hcl (by rw [hst2])).2 hdn
                  have hRn2 : ((0 : Int) :: st2).length = N := by rw [List.length_cons, hst2]; omega
                  have hRi3 : N ≤ st2.length + 1 := by omega
                  have hRi2 : N ≤ ((0 : Int) :: st2).length := by omega
                  have HRN2 := hid hRn2
                  have k0 := hSc.cell 0 rfl 0 rfl
                  have k1 := hSc.cell 0 rfl 1 rfl
                  have k2 := hSc.cell 0 rfl 2 rfl
                  have hRc := hSc.rd 1 rfl
                  have hb := byteAt_in hcl
                  obtain ⟨bc, oc, rfl, _⟩ := hc8.cells (by decide) (0, 0) cr2.length hx2
                  clear hst2 hRn2
                  by_cases cu : ((P.way[c]'hcl).toNat : Int) = 117
                  · have d1 : (((P.way[c]'hcl).toNat : Int) == 117) = true := by simpa using cu
                    have hco : crossOf st2 (letterAt P c) = ((atD 0 ((0 : Int) :: st2) (P.f + -(c : Int) + -1)), S0) := by
                      have := p1; rw [show P.f - (c : Int) - 1 = P.f + -(c : Int) + -1 by omega] at this;  rw [if_pos (by rw [hb]; exact cu), hstr] at this; exact this
                    rw [hco] at hx1 hgo2
                    have hV : cPair (atD (0, 0) C cr2.length) = .agg #[.int .i64 (atD 0 ((0 : Int) :: st2) (P.f + -(c : Int) + -1)), .int .i64 S0] := by rw [hx1]; rfl
                    rw [hstr] at p2
                    have HV := hid hV; have HGO := hid hgo2; have HP2 := hid p2
                    clear hV hgo2 hx1 p1 p2 hco hb cu hstr
                    have hSd := hSc.box (.cells #[.int .i64 S0, .int .i64 (atD 0 ((0 : Int) :: st2) (P.f + -(c : Int) + -1))] 101)
                    have k2d := hSd.cell 1 rfl 2 rfl
                    have k0d := hSd.cell 1 rfl 0 rfl
                    go_wp2_with (first | (with_reducible refine wpList_idxN _ 0 E_ints F_int cInt1 (by with_unfolding_all rfl) (by with_unfolding_all rfl) (hRc) (HRN2.out) (by first | omega | (simp; done)) (by first | omega | (simp; done)) (fun _ => by with_unfolding_all rfl) (fun _ => ?_)) | ((with_reducible refine wpList_stoR (us := #[.int .i64 (atD 0 ((0 : Int) :: st2) (P.f + -(c : Int) + -1)), .int .i64 S0]) 0 (by with_unfolding_all rfl) (by with_unfolding_all rfl) (hSd) (by with_unfolding_all rfl) (by kernel_rfl) (by with_unfolding_all rfl) (by with_unfolding_all rfl) ?_); intro w2 hSd2))
                    try go_frame
                    have hC2 := hc8.below hSd2.b
                    have hB2 := (hSd2.blk 0 rfl).1
                    refine wp_regionK (C := Below (w2).heap.size (w2)) [0, 1, 2, 3, 4, 5, 6, 7, 8, 9, 10, 11] [_, _, _, _, _, _, _, _, _, _, _, _] 0 (by simp only [List.map_cons, List.map_nil, List.getElem?_toArray]; rfl) rfl (by kernel_rfl) (by kernel_rfl) (by kernel_rfl) ((Below.refl _ _).drew) ?_
                    refine ⟨_, yieldsK_val (by with_unfolding_all rfl) (fun w' => by with_unfolding_all exact rfl), ?_⟩
                    go_frame
                    refine ⟨_, yieldsK_val (by with_unfolding_all rfl) (fun w' => by with_unfolding_all exact rfl), ?_⟩
                    go_frame
                    refine ⟨_, yieldsK_val (by with_unfolding_all rfl) (fun w' => by with_unfolding_all exact rfl), ?_⟩
                    go_frame
                    refine ⟨.bool false, yieldsK_val (by with_unfolding_all rfl) (fun w' => by first | (go_simp; done) | (go_simp; rfl)), ?_⟩
                    go_frame
                    refine ⟨_, yieldsK_val (by with_unfolding_all rfl) (fun w' => by with_unfolding_all exact rfl), ?_⟩
                    go_frame
                    refine ⟨_, yieldsK_val (by with_unfolding_all rfl) (fun w' => by with_unfolding_all exact rfl), ?_⟩
                    go_frame
                    refine ⟨_, yieldsK_val (by with_unfolding_all rfl) (fun w' => by with_unfolding_all exact rfl), ?_⟩
                    go_frame
                    refine ⟨_, yieldsK_idx (k := (cr2.length : Int)) E_cross (by omega) (by first | omega | (simp; omega)) (by with_unfolding_all rfl) (by with_unfolding_all rfl) (by with_unfolding_all rfl), ?_⟩
                    go_frame
                    refine ⟨_, yieldsK_agg E_cross F_cross cPair1 (0, 0) hC2 hx2 HV.out (by with_unfolding_all rfl) (by with_unfolding_all rfl), ?_⟩
                    go_frame
                    refine ⟨_, yieldsK_blk F_cross (by kernel_rfl) hB2 rfl (by with_unfolding_all rfl) (by with_unfolding_all rfl), ?_⟩
                    go_frame
                    refine ⟨.bool false, yieldsK_val (by with_unfolding_all rfl) (fun w' => by first | (go_simp; done) | (go_simp; rfl)), ?_⟩
                    go_frame
                    refine ⟨_, yieldsK_val (by with_unfolding_all rfl) (fun w' => by with_unfolding_all exact rfl), ?_⟩
                    go_frame
                    unfold wpPureK
                    have hVd : ({ w2 with drawn := w2.drawn + 1 } : World) = w2.drew := rfl
                    rw [hVd]
                    clear hVd
                    have hSe := hSd2.drew
                    refine wpAnyC_rest [] [] rfl rfl (by kernel_rfl) (by kernel_rfl) (by kernel_rfl) (Below.refl _ _).drew ?_
                    unfold wpPure
                    refine of_wpList_nil (P := Tryz.prog) (ops := #[]) ?_
                    go_wp2_with (first | ((with_reducible refine wpList_storeL (u := (atD 0 ((0 : Int) :: st2) (P.f + -(c : Int) + -1))) 2 E_ints cInt1 (sto_int) (by with_unfolding_all rfl) (by with_unfolding_all rfl) (hSe) (by with_unfolding_all rfl) (by first | omega | (simp; done) | (simp; omega)) (by first | omega | (simp; done) | (simp; omega)) (fun _ => by with_unfolding_all rfl) (fun _ => by with_unfolding_all rfl) ?_); intro _ w3 hSf) | ((with_reducible refine wpList_storeL (u := S0) 2 E_ints cInt1 (sto_int) (by with_unfolding_all rfl) (by with_unfolding_all rfl) (hSf) (by with_unfolding_all rfl) (by first | omega | (simp; done) | (simp; omega)) (by first | omega | (simp; done) | (simp; omega)) (fun _ => by with_unfolding_all rfl) (fun _ => by with_unfolding_all rfl) ?_); intro _ w4 hSg))
                    have e := HP2.out
                    rw [show P.f - (c : Int) - 1 = P.f + -(c : Int) + -1 by omega, show P.f - (c : Int) = P.f + -(c : Int) by omega] at e
                    have hSt4 := hSg.tail
                    refine ⟨⟨c + 1, swapL st2 (absI (letterAt P c)), cr2 ++ [((atD 0 ((0 : Int) :: st2) (P.f + -(c : Int) + -1)), S0)], by omega, by go_num, by rw [List.length_append]; rfl, by rw [swapL_len]; exact HST2.out, ?_, HGO.out, ?_⟩, by simp [intOf]; omega⟩
                    · rw [← e]; exact hSt4
                    · rw [← e, show P.f - ((c + 1 : Nat) : Int) = (P.f + -(c : Int) + -1) by omega, atD_set (by omega) (by simp; omega) (by omega), if_pos rfl]

                  · have d1 : (((P.way[c]'hcl).toNat : Int) == 117) = false := by simpa using cu
                    have hco : crossOf st2 (letterAt P c) = (S0, (atD 0 ((0 : Int) :: st2) (P.f + -(c : Int) + -1))) := by
                      have := p1; rw [show P.f - (c : Int) - 1 = P.f + -(c : Int) + -1 by omega] at this;  rw [if_neg (by rw [hb]; exact cu), hstr] at this; exact this
                    rw [hco] at hx1 hgo2
                    have hV : cPair (atD (0, 0) C cr2.length) = .agg #[.int .i64 S0, .int .i64 (atD 0 ((0 : Int) :: st2) (P.f + -(c : Int) + -1))] := by rw [hx1]; rfl
                    rw [hstr] at p2
                    have HV := hid hV; have HGO := hid hgo2; have HP2 := hid p2
                    clear hV hgo2 hx1 p1 p2 hco hb cu hstr
                    have hSd := hSc.box (.cells #[.int .i64 S0, .int .i64 (atD 0 ((0 : Int) :: st2) (P.f + -(c : Int) + -1))] 101)
                    have k2d := hSd.cell 1 rfl 2 rfl
                    have k0d := hSd.cell 1 rfl 0 rfl
                    go_wp2_with (first | (with_reducible refine wpList_idxN _ 0 E_ints F_int cInt1 (by with_unfolding_all rfl) (by with_unfolding_all rfl) (hRc) (HRN2.out) (by first | omega | (simp; done)) (by first | omega | (simp; done)) (fun _ => by with_unfolding_all rfl) (fun _ => ?_)))
                    have hSd2 := hSd
                    obtain ⟨w2, hw2⟩ : ∃ w2, w2 = wr.alloc (.cells #[.int .i64 S0, .int .i64 (atD 0 ((0 : Int) :: st2) (P.f + -(c : Int) + -1))] 101) := ⟨_, rfl⟩
                    rw [← hw2] at hSd2 ⊢
                    clear hw2
                    try go_frame
                    have hC2 := hc8.below hSd2.b
                    have hB2 := (hSd2.blk 0 rfl).1
                    refine wp_regionK (C := Below (w2).heap.size (w2)) [0, 1, 2, 3, 4, 5, 6, 7, 8, 9, 10, 11] [_, _, _, _, _, _, _, _, _, _, _, _] 0 (by simp only [List.map_cons, List.map_nil, List.getElem?_toArray]; rfl) rfl (by kernel_rfl) (by kernel_rfl) (by kernel_rfl) ((Below.refl _ _).drew) ?_
                    refine ⟨_, yieldsK_val (by with_unfolding_all rfl) (fun w' => by with_unfolding_all exact rfl), ?_⟩
                    go_frame
                    refine ⟨_, yieldsK_val (by with_unfolding_all rfl) (fun w' => by with_unfolding_all exact rfl), ?_⟩
                    go_frame
                    refine ⟨_, yieldsK_val (by with_unfolding_all rfl) (fun w' => by with_unfolding_all exact rfl), ?_⟩
                    go_frame
                    refine ⟨.bool false, yieldsK_val (by with_unfolding_all rfl) (fun w' => by first | (go_simp; done) | (go_simp; rfl)), ?_⟩
                    go_frame
                    refine ⟨_, yieldsK_val (by with_unfolding_all rfl) (fun w' => by with_unfolding_all exact rfl), ?_⟩
                    go_frame
                    refine ⟨_, yieldsK_val (by with_unfolding_all rfl) (fun w' => by with_unfolding_all exact rfl), ?_⟩
                    go_frame
                    refine ⟨_, yieldsK_val (by with_unfolding_all rfl) (fun w' => by with_unfolding_all exact rfl), ?_⟩
                    go_frame
                    refine ⟨_, yieldsK_idx (k := (cr2.length : Int)) E_cross (by omega) (by first | omega | (simp; omega)) (by with_unfolding_all rfl) (by with_unfolding_all rfl) (by with_unfolding_all rfl), ?_⟩
                    go_frame
                    refine ⟨_, yieldsK_agg E_cross F_cross cPair1 (0, 0) hC2 hx2 HV.out (by with_unfolding_all rfl) (by with_unfolding_all rfl), ?_⟩
                    go_frame
                    refine ⟨_, yieldsK_blk F_cross (by kernel_rfl) hB2 rfl (by with_unfolding_all rfl) (by with_unfolding_all rfl), ?_⟩
                    go_frame
                    refine ⟨.bool false, yieldsK_val (by with_unfolding_all rfl) (fun w' => by first | (go_simp; done) | (go_simp; rfl)), ?_⟩
                    go_frame
                    refine ⟨_, yieldsK_val (by with_unfolding_all rfl) (fun w' => by with_unfolding_all exact rfl), ?_⟩
                    go_frame
                    unfold wpPureK
                    have hVd : ({ w2 with drawn := w2.drawn + 1 } : World) = w2.drew := rfl
                    rw [hVd]
                    clear hVd
                    have hSe := hSd2.drew
                    refine wpAnyC_rest [] [] rfl rfl (by kernel_rfl) (by kernel_rfl) (by kernel_rfl) (Below.refl _ _).drew ?_
                    unfold wpPure
                    refine of_wpList_nil (P := Tryz.prog) (ops := #[]) ?_
                    go_wp2_with (first | ((with_reducible refine wpList_storeL (u := (atD 0 ((0 : Int) :: st2) (P.f + -(c : Int) + -1))) 2 E_ints cInt1 (sto_int) (by with_unfolding_all rfl) (by with_unfolding_all rfl) (hSe) (by with_unfolding_all rfl) (by first | omega | (simp; done) | (simp; omega)) (by first | omega | (simp; done) | (simp; omega)) (fun _ => by with_unfolding_all rfl) (fun _ => by with_unfolding_all rfl) ?_); intro _ w3 hSf) | ((with_reducible refine wpList_storeL (u := S0) 2 E_ints cInt1 (sto_int) (by with_unfolding_all rfl) (by with_unfolding_all rfl) (hSf) (by with_unfolding_all rfl) (by first | omega | (simp; done) | (simp; omega)) (by first | omega | (simp; done) | (simp; omega)) (fun _ => by with_unfolding_all rfl) (fun _ => by with_unfolding_all rfl) ?_); intro _ w4 hSg))
                    have e := HP2.out
                    rw [show P.f - (c : Int) - 1 = P.f + -(c : Int) + -1 by omega, show P.f - (c : Int) = P.f + -(c : Int) by omega] at e
                    have hSt4 := hSg.tail
                    refine ⟨⟨c + 1, swapL st2 (absI (letterAt P c)), cr2 ++ [(S0, (atD 0 ((0 : Int) :: st2) (P.f + -(c : Int) + -1)))], by omega, by go_num, by rw [List.length_append]; rfl, by rw [swapL_len]; exact HST2.out, ?_, HGO.out, ?_⟩, by simp [intOf]; omega⟩
                    · rw [← e]; exact hSt4
                    · rw [← e, show P.f - ((c + 1 : Nat) : Int) = (P.f + -(c : Int) + -1) by omega, atD_set (by omega) (by simp; omega) (by omega), if_pos rfl]

                · have : c = P.way.size := by omega
                  subst this
                  rw [List.drop_of_length_le (by rw [lettersL_len]; exact Nat.le_refl _), List.nil_append] at hgo2
                  have HGO2 := hid hgo2; clear hgo2 hstr hst2
                  go_wp2_with fail
                  go_roundw
                  case rel => exact ⟨j + 1, st2, cr2, by omega, by go_num, rfl, HST2.out, hSc.tail, HGO2.out⟩
                  case measure => simp [intOf]; omega
          · have : j = l.length := by omega
            subst this
            rw [List.drop_length] at hgo
            have e : C = cr := by rw [HCD.out, ← hgo]; rfl
            subst e
            clear hgo
            have hb0 := hSt.b
            go_wp2_with fail
            go_loopw [22, 23, 24, 26, 27, 177] (fun s _ _ _ _ _ wz => ∃ q : Nat, q ≤ m ∧ s = .int .i64 ((q : Int) + 1) ∧ (∀ t : Int, 1 ≤ t → t < (q : Int) + 1 → failGo t 0 C = false) ∧ Below w8.heap.size w8 wz) (fun s _ _ _ _ _ _ => m + 1 - (intOf s).toNat)
            case atStart => exact ⟨0, by omega, rfl, fun t h1 h2 => by omega, hb0⟩
            case round =>
              obtain ⟨q, hq, rfl, hno, hbz⟩ := hrel
              have HNO := hid hno; clear hno
              by_cases hql : q < m
              · have hqd : decide ((q : Int) + 1 ≤ (m : Int)) = true := by simp; omega
                have h0s : scanGo ((q : Int) + 1) 0 false (C.drop 0) = failGo ((q : Int) + 1) 0 C := by
                  have := scan_fail C ((q : Int) + 1) 0 false HOK.out (.inl rfl)
                  simpa [encS] using this
                have H0S := hid h0s; clear h0s
                go_wp2_with fail
                go_loopw [23, 24, 26, 27, 177] (fun la fl _ _ i wy => ∃ (c : Nat) (v : Int) (b : Bool), c ≤ C.length ∧ i = .int .i64 c ∧ la = .int .i64 v ∧ fl = .bool b ∧ scanGo ((q : Int) + 1) v b (C.drop c) = failGo ((q : Int) + 1) 0 C ∧ Below w8.heap.size w8 wy) (fun _ _ _ _ i _ => C.length - (intOf i).toNat)
                case atStart => exact ⟨0, 0, false, by omega, rfl, rfl, rfl, H0S.out, hbz⟩
                case round =>
                  obtain ⟨c, v, b, hc, rfl, rfl, rfl, hsc, hby⟩ := hrel
                  have hCy := hc8.below hby
                  by_cases hcl : c < C.length
                  · rw [scan_step hcl] at hsc
                    obtain ⟨T, hT⟩ : ∃ T, T = failGo ((q : Int) + 1) 0 C := ⟨_, rfl⟩
                    rw [← hT] at hsc
                    have HTT := hid hT; clear hT
                    have b2 := bal hby (.cells #[.int .i64 (atD (0, 0) C c).1, .int .i64 (atD (0, 0) C c).2] 101)
                    by_cases h1 : (atD (0, 0) C c).1 = (q : Int) + 1
                    · have e1 : sdOf ((q : Int) + 1) (atD (0, 0) C c) = 1 := by unfold sdOf; rw [if_pos h1]
                      have d1 : ((atD (0, 0) C c).1 == (q : Int) + 1) = true := by simpa using h1
                      clear h1
                      rw [e1, if_pos (by omega)] at hsc
                      cases b
                      · by_cases hv : v = 1
                        · have f3 : scanGo ((q : Int) + 1) 1 true (C.drop (c + 1)) = T := by rw [hv] at hsc; simpa using hsc
                          have F3 := hid f3; clear f3 hsc e1
                          have d3 : ((1 : Int) == v) = true := by simp [hv]
                          clear hv
                          go_wp2_with (with_reducible refine wpList_idxS _ (0, 0) E_cross F_cross cPair1 (by with_unfolding_all rfl) (by with_unfolding_all rfl) (hCy) (by first | omega | (simp; done)) (by first | omega | (simp; done)) (fun _ => by with_unfolding_all rfl) (fun _ => ?_))
                          exact ⟨⟨c + 1, 1, true, by omega, by go_num, rfl, rfl, by rw [← HTT.out]; exact F3.out, b2⟩, by simp [intOf]; omega⟩
                        · have hv2 : ¬ (1 : Int) = v := fun h => hv h.symm
                          have f3 : scanGo ((q : Int) + 1) 1 false (C.drop (c + 1)) = T := by simpa [hv2] using hsc
                          have F3 := hid f3; clear f3 hsc e1
                          have d3 : ((1 : Int) == v) = false := by simpa using hv2
                          clear hv hv2
                          go_wp2_with (with_reducible refine wpList_idxS _ (0, 0) E_cross F_cross cPair1 (by with_unfolding_all rfl) (by with_unfolding_all rfl) (hCy) (by first | omega | (simp; done)) (by first | omega | (simp; done)) (fun _ => by with_unfolding_all rfl) (fun _ => ?_))
                          exact ⟨⟨c + 1, 1, false, by omega, by go_num, rfl, rfl, by rw [← HTT.out]; exact F3.out, b2⟩, by simp [intOf]; omega⟩
                      · have f3 : scanGo ((q : Int) + 1) 1 true (C.drop (c + 1)) = T := by simpa using hsc
                        have F3 := hid f3; clear f3 hsc e1
                        go_wp2_with (with_reducible refine wpList_idxS _ (0, 0) E_cross F_cross cPair1 (by with_unfolding_all rfl) (by with_unfolding_all rfl) (hCy) (by first | omega | (simp; done)) (by first | omega | (simp; done)) (fun _ => by with_unfolding_all rfl) (fun _ => ?_))
                        exact ⟨⟨c + 1, 1, true, by omega, by go_num, rfl, rfl, by rw [← HTT.out]; exact F3.out, b2⟩, by simp [intOf]; omega⟩
                    · have d1 : ((atD (0, 0) C c).1 == (q : Int) + 1) = false := by simpa using h1
                      by_cases h2 : (atD (0, 0) C c).2 = (q : Int) + 1
                      · have e1 : sdOf ((q : Int) + 1) (atD (0, 0) C c) = 2 := by unfold sdOf; rw [if_neg h1, if_pos h2]
                        have d2 : ((atD (0, 0) C c).2 == (q : Int) + 1) = true := by simpa using h2
                        clear h1 h2
                        rw [e1, if_pos (by omega)] at hsc
                        cases b
                        · by_cases hv : v = 2
                          · have f3 : scanGo ((q : Int) + 1) 2 true (C.drop (c + 1)) = T := by rw [hv] at hsc; simpa using hsc
                            have F3 := hid f3; clear f3 hsc e1
                            have d3 : ((2 : Int) == v) = true := by simp [hv]
                            clear hv
                            go_wp2_with (with_reducible refine wpList_idxS _ (0, 0) E_cross F_cross cPair1 (by with_unfolding_all rfl) (by with_unfolding_all rfl) (hCy) (by first | omega | (simp; done)) (by first | omega | (simp; done)) (fun _ => by with_unfolding_all rfl) (fun _ => ?_))
                            exact ⟨⟨c + 1, 2, true, by omega, by go_num, rfl, rfl, by rw [← HTT.out]; exact F3.out, b2⟩, by simp [intOf]; omega⟩
                          · have hv2 : ¬ (2 : Int) = v := fun h => hv h.symm
                            have f3 : scanGo ((q : Int) + 1) 2 false (C.drop (c + 1)) = T := by simpa [hv2] using hsc
                            have F3 := hid f3; clear f3 hsc e1
                            have d3 : ((2 : Int) == v) = false := by simpa using hv2
                            clear hv hv2
                            go_wp2_with (with_reducible refine wpList_idxS _ (0, 0) E_cross F_cross cPair1 (by with_unfolding_all rfl) (by with_unfolding_all rfl) (hCy) (by first | omega | (simp; done)) (by first | omega | (simp; done)) (fun _ => by with_unfolding_all rfl) (fun _ => ?_))
                            exact ⟨⟨c + 1, 2, false, by omega, by go_num, rfl, rfl, by rw [← HTT.out]; exact F3.out, b2⟩, by simp [intOf]; omega⟩
                        · have f3 : scanGo ((q : Int) + 1) 2 true (C.drop (c + 1)) = T := by simpa using hsc
                          have F3 := hid f3; clear f3 hsc e1
                          go_wp2_with (with_reducible refine wpList_idxS _ (0, 0) E_cross F_cross cPair1 (by with_unfolding_all rfl) (by with_unfolding_all rfl) (hCy) (by first | omega | (simp; done)) (by first | omega | (simp; done)) (fun _ => by with_unfolding_all rfl) (fun _ => ?_))
                          exact ⟨⟨c + 1, 2, true, by omega, by go_num, rfl, rfl, by rw [← HTT.out]; exact F3.out, b2⟩, by simp [intOf]; omega⟩
                      · have e1 : sdOf ((q : Int) + 1) (atD (0, 0) C c) = 0 := by unfold sdOf; rw [if_neg h1, if_neg h2]
                        have d2 : ((atD (0, 0) C c).2 == (q : Int) + 1) = false := by simpa using h2
                        clear h1 h2
                        rw [e1, if_neg (by omega)] at hsc
                        have f3 : scanGo ((q : Int) + 1) v b (C.drop (c + 1)) = T := by simpa using hsc
                        have F3 := hid f3; clear f3 hsc e1
                        cases b
                        all_goals
                          go_wp2_with (with_reducible refine wpList_idxS _ (0, 0) E_cross F_cross cPair1 (by with_unfolding_all rfl) (by with_unfolding_all rfl) (hCy) (by first | omega | (simp; done)) (by first | omega | (simp; done)) (fun _ => by with_unfolding_all rfl) (fun _ => ?_))
                          exact ⟨⟨c + 1, v, _, by omega, by go_num, rfl, rfl, by rw [← HTT.out]; exact F3.out, b2⟩, by simp [intOf]; omega⟩
                  · have : c = C.length := by omega
                    subst this
                    rw [List.drop_length] at hsc
                    cases b
                    · have hf : failGo ((q : Int) + 1) 0 C = false := by rw [← hsc]; rfl
                      have hno2 : ∀ t : Int, 1 ≤ t → t < ((q + 1 : Nat) : Int) + 1 → failGo t 0 C = false := fun t h1 h2 => by
                        by_cases e : t = (q : Int) + 1
                        · rw [e]; exact hf
                        · exact HNO.out t h1 (by omega)
                      have HN2 := hid hno2; clear hno2 hf hsc
                      go_wp2_with fail
                      go_roundw
                      case rel => exact ⟨q + 1, by omega, by go_num, HN2.out, hby⟩
                      case measure => simp [intOf]; omega
                    · have hf : failGo ((q : Int) + 1) 0 C = true := by rw [← hsc]; rfl
                      have eA := HFo.out ((q : Int) + 1) (by omega) hf HNO.out
                      have d1 : (A == (q : Int) + 1) = true := by simpa using eA
                      clear eA hf hsc
                      go_wp2_with fail
                      refine (awake_any _).mono ?_
                      rintro e w' ⟨rfl, hb⟩
                      go_wp2_with fail
                      go_ret
                      exact ⟨rfl, bnext t8 (bnext hby hb)⟩
              · have eA : A = 0 := HNo.out (fun t h1 h2 => HNO.out t h1 (by omega))
                have d1 : (A == 0) = true := by simpa using eA
                clear eA
                go_wp2_with fail
                refine (awake_any _).mono ?_
                rintro e w' ⟨rfl, hb⟩
                go_wp2_with fail
                go_ret
                exact ⟨rfl, bnext t8 (bnext hbz hb)⟩
  · obtain ⟨q, hq⟩ : ∃ q, q = passesE n l := ⟨_, rfl⟩
    rw [← hq] at RC h
    have hne : (q != 0) = true := by simpa using h
    have HRC := hid RC; have HSh := hid CSh
    clear RC CSh hsh hww hw hq
    go_enter Tryz.func9, Tryz.ntmps9
    go_wp2_with fail
    refine HSh.out.mono ?_
    rintro e w1 ⟨rfl, b1⟩
    go_wp2_with fail
    refine (HRC.out w1 (hS.below b1)).mono ?_
    rintro e w2 ⟨rfl, b2⟩
    go_wp2_with fail
    refine (awake_any _).mono ?_
    rintro e w' ⟨rfl, hb⟩
    go_wp2_with fail
    go_ret
    exact ⟨rfl, bnext b1 (bnext b2 hb)⟩
end Go.Proofs.YtogbclcnmogaeaaGreatDoor
