/- Contracts and plain facts that the claim uses (K4c K4). Conditions: as each one states. -/
import Derived.Test.YtoebgfgihfjnnaaGreatDoorXd16
import Derived.Test.YtoebgfgihfjnnaaGreatDoorXd17
set_option linter.all false

namespace Go.Proofs.YtoebgfgihfjnnaaGreatDoor
open Go.RowKit
set_option maxHeartbeats 8000000
set_option maxRecDepth 100000
theorem mw_meet0 (m : MacV) (ad al : Option Addr) (cap cl : Nat) (l : List Int) (n : Int) (w : World) (hR : Ints w ad cap m.sw) (hL : Ints w al cl l) (hI : InI m.gears) (hw : LibW w) (hsb : (decide (m.sw.length ≤ 19) && decide (l.length ≤ 67)) = true) (hn60 : decide (60 < n) = false ∨ (decide (60 < n) = true ∧ decide (n ≤ 1000) = false)) (he : loadE m l = 0) (h20 : l.length ≤ 20) (hr : m.ring = false) (hnb : meetsM m l 0 = false) (h12 : l.length ≤ 12) (hn0 : 0 ≤ n) (hn1 : n ≤ 1000) (hme : meetsM m l n = true) :
  Calls Tryz.prog 3 #[mV m ad cap, .slice al l.length cl, .int .i64 n] w fun r w' => r = .returned (.bool true) ∧ Below w.heap.size w w' := by
 have d60 : decide (60 < n) = false := by
  rcases hn60 with h | ⟨_, h⟩
  ·exact h
  ·simp at h; omega
 clear hn60
 have hS0 := ((SL.nil w).box (.cells (mC m ad cap) 24)).box (.cells (mC m ad cap) 25)
 simp only [World.size_alloc] at hS0
 have HA := hid awake4_any
 have hlc := hL.le
 have CSh := fun w => rShort_any m ad cap al cl l.length w
 rw [hsb] at CSh
 have HSh := hid CSh
 clear CSh hsb
 have CK := fun w h h2 => lcheck_any m ad cap al cl l w h h2
 have KL : ChkL m ad cap al cl l := CheckLoad_any m ad cap al cl l fun w h => CheckMachine_any m ad cap w h hI
 have CO := fun w h h2 => mOrder_any m ad cap al cl l w h h2 KL
 have CX := fun w h h2 => mCrossings_any m ad cap al cl l w h h2 KL
 have CW := fun w h h2 => mWord_any m ad cap al cl l n w h h2 KL
 have CT := fun w h h2 => mStrands_any m ad cap al cl l n w h h2 KL
 have CG : ∀ w, Calls Tryz.prog 18 #[.bool m.ring, .int .i64 13] w fun r w' => r = .returned (.int .i64 (if m.ring then 13 else 0)) ∧ w = w' := fun w => lwhen_any m.ring 13 w
 have C5 : ∀ w, Calls Tryz.prog 18 #[.bool (decide (12 < (l.length : Int))), .int .i64 5] w fun r w' => r = .returned (.int .i64 (if decide (12 < (l.length : Int)) then 5 else 0)) ∧ w = w' := fun w => lwhen_any _ 5 w
 have C3 := fun w => rOutside_any n 0 1000 w
 have C33 : ∀ w, Calls Tryz.prog 18 #[.bool (decide (n < 0) || decide (1000 < n)), .int .i64 3] w fun r w' => r = .returned (.int .i64 (if (decide (n < 0) || decide (1000 < n)) then 3 else 0)) ∧ w = w' := fun w => lwhen_any _ 3 w
 clear KL
 have hlok := loadE_zero he
 have hlo := hlok.ok.lo
 have hhi := hlok.ok.hi
 have hl20 : decide (20 < (l.length : Int)) = false := decide_eq_false (by omega)
 have hn64 : l.length ≤ 64 := by omega
 rw [he] at CK
 have CN := fun w h => rNow_any m ad cap al cl l w h hlo hhi hlok.rng hn64 hlok.nodup
 have CRO := fun w h => rOrder_any m ad cap al cl l w h hlo hhi hlok.rng hn64
 have CRX := fun w h => rCrossings_any m ad cap al cl l w h hlo hhi hlok.rng hn64
 have CLX := fun a c w h => lcrossings_any a c (crossM m l) w h (by have := crossM_len m l; omega)
 have hxl : (crossM m l).length ≤ 48 := by have := crossM_len m l; omega
 have hol : (orderM m l).length ≤ 64 := by have := orderM_len m l; omega
 have hnw : decide (0 ≤ nowM m l) = false := by rw [now_meets hlok]; exact hnb
 have e1 : orderE m l = 0 := by unfold orderE; rw [if_neg (by simp [he]), hr, hnb]; rfl
 have e2 : crossE m l = 0 := by unfold crossE; rw [if_neg (by simp [he]), hnb]; rfl
 rw [e1, if_pos rfl] at CO
 rw [e2, if_pos rfl] at CX
 replace CG : ∀ w, Calls Tryz.prog 18 #[.bool m.ring, .int .i64 13] w fun r w' => r = .returned (.int .i64 0) ∧ w = w' := fun w => by have h := CG w; simp only [hr, Bool.false_eq_true, if_false] at h ⊢; exact h
 have e3 : weaveE m l n = 16 := by unfold weaveE; rw [if_neg (by simp [he]), hr, if_neg (by decide), if_neg (by omega), if_neg (by omega), hme]; try rfl
 have e4 : wrdE m l n = 16 := by unfold wrdE; rw [e3, if_pos (by decide)]
 rw [e4, if_neg (by decide)] at CW
 rw [e3, if_neg (by decide)] at CT
 rw [decide_eq_false (show ¬ 12 < (l.length : Int) by omega)] at C5
 simp only [Bool.false_eq_true, if_false] at C5
 have h12 : decide (12 < (l.length : Int)) = false := decide_eq_false (by omega)
 have hout : (decide (n < 0) || decide (1000 < n)) = false := by simp; omega
 rw [hout] at C33 C3
 simp only [Bool.false_eq_true, if_false] at C33
 have CME := fun w h h2 => rMeets_any m ad cap al cl l n w h h2 hlo hhi hlok.rng hn64 hlok.nodup
 rw [hme] at CME
 have HME := hid CME
 clear CME
 obtain ⟨OM, hOM⟩ : ∃ OM, OM = orderM m l := ⟨_, rfl⟩
 obtain ⟨XM, hXM⟩ : ∃ XM, XM = crossM m l := ⟨_, rfl⟩
 obtain ⟨NW, hNW⟩ : ∃ NW, NW = nowM m l := ⟨_, rfl⟩
 rw [← hNW] at CN hnw
 rw [← hOM] at CRO hol
 rw [← hXM] at CRX CLX hxl
 rw [← hOM] at CO
 rw [← hXM] at CX
 have HN := hid CN; have HRO := hid CRO; have HRX := hid CRX; have HLX := hid CLX
 clear CN CRO CRX CLX hOM hXM hNW e1 e2 e3 e4 hlok he hr hnb hlo hhi hme
 have HCK := hid CK; have HO := hid CO; have HX := hid CX; have HW := hid CW; have HT := hid CT; have HRG := hid CG; have H5 := hid C5; have H3 := hid C3; have H33 := hid C33
 clear CK CO CX CW CT CG C5 C3 C33 hI
 go_enter Tryz.func3, Tryz.ntmps3
 go_wp2_with fail
 refine (HA.out _ (hw.below hS0.b)).mono ?_
 rintro e w1 ⟨rfl, b1⟩
 have hS1 := hS0.mono b1
 have q1 := (hS1.blk 0 rfl).1
 have p1 := (hS1.blk 1 rfl).1
 clear hS0
 go_wp2_with (with_reducible refine wpList_ldS (n := 4) (us := mC m ad cap) A_rmach kR wU wU (by assumption) wU wU ?_)
 refine (HSh.out _).mono ?_
 rintro e w2 ⟨rfl, b2⟩
 have hS2 := hS1.mono b2
 have q2 := (hS2.blk 0 rfl).1
 have p2 := (hS2.blk 1 rfl).1
 clear hS1 q1 p1
 go_wp2_with (with_reducible refine wpList_ldS (n := 4) (us := mC m ad cap) A_rmach kR wU wU (by assumption) wU wU ?_)
 refine (HCK.out _ (hR.below hS2.b) (hL.below hS2.b)).mono ?_
 rintro e w3 ⟨rfl, b3⟩
 have hS3 := hS2.mono b3
 have q3 := (hS3.blk 0 rfl).1
 have p3 := (hS3.blk 1 rfl).1
 clear hS2 q2 p2
 go_wp2_with (with_reducible refine wpList_ldS (n := 4) (us := mC m ad cap) A_mach kR wU wU (by assumption) wU wU ?_)
 refine (HO.out _ (hR.below hS3.b) (hL.below hS3.b)).mono ?_
 rintro e w4 ⟨v4, rfl, ho4, b4⟩
 have hS4 := hS3.call (SL.ofOwn ho4 b4)
 simp only [List.cons_append, List.nil_append] at hS4
 have q4 := (hS4.blk 1 rfl).1
 have p4 := (hS4.blk 2 rfl).1
 clear hS3 q3 p3
 clear ho4 b4
 obtain ⟨aO, cO, rfl, _⟩ := hS4.slice 0 rfl
 go_wp2_with (with_reducible refine wpList_ldS (n := 4) (us := mC m ad cap) A_mach kR wU wU (by assumption) wU wU ?_)
 refine (HX.out _ (hR.below hS4.b) (hL.below hS4.b)).mono ?_
 rintro e w5 ⟨v5, rfl, ho5, b5⟩
 have hS5 := hS4.call (SL.ofOwn ho5 b5)
 simp only [List.cons_append, List.nil_append] at hS5
 have q5 := (hS5.blk 2 rfl).1
 have p5 := (hS5.blk 3 rfl).1
 clear hS4 q4 p4
 clear ho5 b5
 obtain ⟨aX, cX, rfl, _⟩ := hS5.slice 0 rfl
 go_wp2_with (with_reducible refine wpList_ldS (n := 4) (us := mC m ad cap) A_mach kR wU wU (by assumption) wU wU ?_)
 refine (HW.out _ (hR.below hS5.b) (hL.below hS5.b)).mono ?_
 rintro e w6 ⟨v6, rfl, ho6, b6⟩
 have hS6 := hS5.call (SL.ofOwn ho6 b6)
 simp only [List.cons_append, List.nil_append] at hS6
 have q6 := (hS6.blk 3 rfl).1
 have p6 := (hS6.blk 4 rfl).1
 clear hS5 q5 p5
 clear ho6 b6
 obtain ⟨aW, cW, rfl, _⟩ := hS6.slice 0 rfl
 go_wp2_with (with_reducible refine wpList_ldS (n := 4) (us := mC m ad cap) A_mach kR wU wU (by assumption) wU wU ?_)
 refine (HT.out _ (hR.below hS6.b) (hL.below hS6.b)).mono ?_
 rintro e w7 ⟨v7, rfl, ho7, b7⟩
 have hS7 := hS6.call (SL.ofOwn ho7 b7)
 simp only [List.cons_append, List.nil_append] at hS7
 have q7 := (hS7.blk 4 rfl).1
 have p7 := (hS7.blk 5 rfl).1
 clear hS6 q6 p6
 clear ho7 b7
 obtain ⟨aT, cT, rfl, _⟩ := hS7.slice 0 rfl
 go_wp2_with (with_reducible refine wpList_ldS (n := 4) (us := mC m ad cap) A_rmach kR wU wU (by assumption) wU wU ?_)
 refine (HN.out _ (hL.below hS7.b)).mono ?_
 rintro e w8 ⟨rfl, b8⟩
 have hS8 := hS7.mono b8
 have q8 := (hS8.blk 4 rfl).1
 have p8 := (hS8.blk 5 rfl).1
 clear hS7 q7 p7
 go_wp2_with fail
 refine (lwhen_any false 16 w8).mono ?_
 rintro e w' ⟨rfl, rfl⟩
 go_wp2_with (with_reducible refine wpList_ldB F_boolM wU wU p8 wU ?_)
 refine (HRG.out _).mono ?_
 rintro e w' ⟨rfl, rfl⟩
 have hS9 := hS8.al (.cells #[.int .i64 0, .int .i64 0] 3)
 have q9 := (hS9.blk 4 rfl).1
 have p9 := (hS9.blk 5 rfl).1
 clear hS8 q8 p8
 have hS10 := hS9.al (.cells #[.int .i64 0, .int .i64 0] 3)
 have q10 := (hS10.blk 4 rfl).1
 have p10 := (hS10.blk 5 rfl).1
 clear hS9 q9 p9
 go_wp2_with (first | (go_at_call 20; refine (lfirst4_any _ _ [_, _] _ (reps_newN cIntS [_, _] 2 rfl (by decide) _ _ (by simp) rfl) (by simp)).mono ?_; rw [firstE_z, firstE_z, firstE_nil]; rintro e w' ⟨rfl, rfl⟩) | (go_at_call 20; refine (lfirst4_any _ _ [_, _] _ (reps_newN cIntS [_, _] 2 rfl (by decide) _ _ (by simp) rfl) (by simp)).mono ?_; rw [firstE_z, firstE_z, firstE_nil]; rintro e w' ⟨rfl, rfl⟩) | (with_reducible refine wpList_ldS (n := 4) (us := mC m ad cap) A_rmach kR wU wU (by assumption) wU wU ?_))
 refine (HRO.out _ (hL.below hS10.b)).mono ?_
 rintro e w11 ⟨v11, rfl, ho11, b11⟩
 have hS11 := hS10.call (SL.ofOwn ho11 b11)
 simp only [List.cons_append, List.nil_append] at hS11
 have q11 := (hS11.blk 5 rfl).1
 have p11 := (hS11.blk 6 rfl).1
 clear hS10 q10 p10
 clear ho11 b11
 obtain ⟨aQ, cQ, rfl, _⟩ := hS11.slice 0 rfl
 go_wp2_with fail
 refine (llistOk_any aO aQ cO cQ _ OM _ (hS11.rd 4 rfl) (hS11.rd 0 rfl) rfl (by omega)).mono ?_
 rintro e w12 ⟨rfl, b12⟩
 have hS12 := hS11.mono b12
 have q12 := (hS12.blk 5 rfl).1
 have p12 := (hS12.blk 6 rfl).1
 clear hS11 q11 p11
 have hS13 := hS12.al (.cells #[.int .i64 0, .int .i64 0] 3)
 have q13 := (hS13.blk 5 rfl).1
 have p13 := (hS13.blk 6 rfl).1
 clear hS12 q12 p12
 go_wp2_with (go_at_call 20; refine (lfirst4_any _ _ [_, _] _ (reps_newN cIntS [_, _] 2 rfl (by decide) _ _ (by simp) rfl) (by simp)).mono ?_; rw [firstE_z, firstE_z, firstE_nil]; rintro e w' ⟨rfl, rfl⟩)
 refine wp_regionK (C := (fun V => Below w.heap.size w V ∧ V.heap[w.heap.size + 1]? = some (.cells (mC m ad cap) 25))) [0, 1, 2, 3, 4, 5, 6, 7, 8, 9, 10, 11, 12, 13, 14, 15, 16, 17, 18, 19, 21, 22] [_, _, _, _, _, _, _, _, _, _, _, _, _, _, _, _, _, _, _, _, _, _] 7 (by simp only [List.map_cons, List.map_nil, List.getElem?_toArray]; rfl) rfl kR kR kR (⟨hS13.b.drew, q13⟩) ?_
 refine ⟨_, yieldsK_val wU (fun w' => by with_unfolding_all exact rfl), ?_⟩
 go_frame
 refine ⟨.bool false, yieldsK_val wU (fun w' => by first | (go_simp; done) | (go_simp; rfl)), ?_⟩
 go_frame
 refine ⟨_, yieldsK_val wU (fun w' => by with_unfolding_all exact rfl), ?_⟩
 go_frame
 refine ⟨_, .inr (.inl ⟨by with_unfolding_all rfl, rfl⟩), ?_⟩
 go_frame
 refine ⟨_, .inr (.inl ⟨by with_unfolding_all rfl, rfl⟩), ?_⟩
 go_frame
 refine ⟨_, .inr (.inl ⟨by with_unfolding_all rfl, rfl⟩), ?_⟩
 go_frame
 refine ⟨_, .inr (.inl ⟨by with_unfolding_all rfl, rfl⟩), ?_⟩
 go_frame
 refine ⟨_, .inr (.inl ⟨by with_unfolding_all rfl, rfl⟩), ?_⟩
 go_frame
 refine ⟨_, .inr (.inl ⟨by with_unfolding_all rfl, rfl⟩), ?_⟩
 go_frame
 refine ⟨_, .inr (.inl ⟨by with_unfolding_all rfl, rfl⟩), ?_⟩
 go_frame
 refine ⟨_, .inr (.inl ⟨by with_unfolding_all rfl, rfl⟩), ?_⟩
 go_frame
 refine ⟨.bool false, yieldsK_val wU (fun w' => by first | (go_simp; done) | (go_simp; rfl)), ?_⟩
 go_frame
 refine ⟨_, yieldsK_val wU (fun w' => by with_unfolding_all exact rfl), ?_⟩
 go_frame
 refine ⟨_, yieldsK_val wU (fun w' => by with_unfolding_all exact rfl), ?_⟩
 go_frame
 refine ⟨.bool true, yieldsK_val wU (fun w' => by first | (go_simp; done) | (go_simp; rfl)), ?_⟩
 go_frame
 refine ⟨_, yieldsK_val wU (fun w' => by with_unfolding_all exact rfl), ?_⟩
 go_frame
 refine ⟨_, yieldsK_val wU (fun w' => by with_unfolding_all exact rfl), ?_⟩
 go_frame
 refine ⟨.bool false, yieldsK_val wU (fun w' => by first | (go_simp; done) | (go_simp; rfl)), ?_⟩
 go_frame
 refine ⟨_, yieldsK_val wU (fun w' => by with_unfolding_all exact rfl), ?_⟩
 go_frame
 refine ⟨_, yieldsK_val wU (fun w' => by with_unfolding_all exact rfl), ?_⟩
 go_frame
 refine ⟨_, yieldsK_blkC (n := 4) A_rmach kR (fun V h => h.2) rfl wU wU, ?_⟩
 go_frame
 refine ⟨_, yieldsK_val wU (fun w' => by with_unfolding_all exact rfl), ?_⟩
 go_frame
 unfold wpPureK
 have hVd : ∀ V : World, ({ V with drawn := V.drawn + 1 } : World) = V.drew := fun _ => rfl
 simp only [hVd]
 have hS14 := hS13.drew
 have q14 := (hS14.blk 5 rfl).1
 have p14 := (hS14.blk 6 rfl).1
 clear hS13 q13 p13
 refine wpAnyC_on [20] kR (by simp) ?_
 simp only [List.forall_mem_cons, List.not_mem_nil, false_implies, implies_true, and_true]
 refine wpOp_call (f := 24) (args := #[.slice aX XM.length cX]) (by rw [List.getElem?_toArray]; rfl) wU (by first | (go_simp; done) | (simp [execOp, Act.eval, Result.andThen]; done) | (simp [execOp, Act.eval, Result.andThen]; rfl)) ?_
 refine (HLX.out _ _ _ (hS14.rd 3 rfl)).mono ?_
 rintro e w15 ⟨v15, rfl, ho15, b15⟩
 have hS15 := hS14.call (SL.ofOwn ho15 b15)
 simp only [List.cons_append, List.nil_append] at hS15
 have q15 := (hS15.blk 6 rfl).1
 have p15 := (hS15.blk 7 rfl).1
 clear hS14 q14 p14
 clear ho15 b15
 obtain ⟨aY, cY, rfl, _⟩ := hS15.slice 0 rfl
 refine ⟨_, rfl, ⟨hS15.b, q15⟩, ?_⟩
 go_frame
 refine wpAnyC_on [23] kR (by simp) ?_
 simp only [List.forall_mem_cons, List.not_mem_nil, false_implies, implies_true, and_true]
 refine wpOp_call (f := 25) (args := #[mV m ad cap, .slice al l.length cl]) (by rw [List.getElem?_toArray]; rfl) wU (by first | (go_simp; done) | (simp [execOp, Act.eval, Result.andThen]; done) | (simp [execOp, Act.eval, Result.andThen]; rfl)) ?_
 refine (HRX.out _ (hL.below hS15.b)).mono ?_
 rintro e w16 ⟨v16, rfl, ho16, b16⟩
 have hS16 := hS15.call (SL.ofOwn ho16 b16)
 simp only [List.cons_append, List.nil_append] at hS16
 have q16 := (hS16.blk 7 rfl).1
 have p16 := (hS16.blk 8 rfl).1
 clear hS15 q15 p15
 clear ho16 b16
 obtain ⟨aZ, cZ, rfl, _⟩ := hS16.slice 0 rfl
 refine ⟨_, rfl, ⟨hS16.b, q16⟩, ?_⟩
 go_frame
 refine wpAnyC_on [24] kR (by simp) ?_
 simp only [List.forall_mem_cons, List.not_mem_nil, false_implies, implies_true, and_true]
 refine wpOp_call (f := 23) (args := #[.slice aY XM.length cY, .slice aZ XM.length cZ]) (by rw [List.getElem?_toArray]; rfl) wU (by first | (go_simp; done) | (simp [execOp, Act.eval, Result.andThen]; done) | (simp [execOp, Act.eval, Result.andThen]; rfl)) ?_
 refine (SameCrossings_same aY aZ cY cZ _ XM _ (hS16.rd 1 rfl) (hS16.rd 0 rfl) rfl (by omega)).mono ?_
 rintro e w17 ⟨rfl, b17⟩
 have hS17 := hS16.mono b17
 have q17 := (hS17.blk 7 rfl).1
 have p17 := (hS17.blk 8 rfl).1
 clear hS16 q16 p16
 refine ⟨_, rfl, ⟨hS17.b, q17⟩, ?_⟩
 go_frame
 refine wpAnyC_rest [25, 26, 27, 28] [_, _, _, _] rfl (by simp only [List.map_cons, List.map_nil, List.getElem?_toArray]; rfl) kR kR kR (⟨hS17.b, q17⟩) ?_
 repeat (refine ⟨_, .inl ⟨by with_unfolding_all rfl, fun w' _ => by with_unfolding_all exact rfl⟩, ?_⟩; go_frame)
 unfold wpPure
 refine of_wpList_nil (P := Tryz.prog) (ops := #[]) ?_
 go_wp2_with fail
 refine (H5.out _).mono ?_
 rintro e w' ⟨rfl, rfl⟩
 go_wp2_with fail
 refine (H3.out _).mono ?_
 rintro e w' ⟨rfl, rfl⟩
 go_wp2_with fail
 refine (H33.out _).mono ?_
 rintro e w' ⟨rfl, rfl⟩
 have hS18 := hS17.al (.cells #[.int .i64 0, .int .i64 0, .int .i64 0] 3)
 have q18 := (hS18.blk 7 rfl).1
 have p18 := (hS18.blk 8 rfl).1
 clear hS17 q17 p17
 go_wp2_with (first | (go_at_call 20; refine (lfirst4_any _ _ [_, _, _] _ (reps_newN cIntS [_, _, _] 3 rfl (by decide) _ _ (by simp) rfl) (by simp)).mono ?_; rw [firstE_z, firstE_z, firstE_z, firstE_nil]; rintro e w' ⟨rfl, rfl⟩) | (with_reducible refine wpList_ldS (n := 4) (us := mC m ad cap) A_rmach kR wU wU (by assumption) wU wU ?_))
 refine (HME.out _ (hR.below hS18.b) (hL.below hS18.b)).mono ?_
 rintro e w19 ⟨rfl, b19⟩
 have hS19 := hS18.mono b19
 have q19 := (hS19.blk 7 rfl).1
 have p19 := (hS19.blk 8 rfl).1
 clear hS18 q18 p18
 go_wp2_with fail
 refine (llistBad_any aW none cW 0 0 16 _ rfl).mono ?_
 rintro e w20 ⟨rfl, b20⟩
 have hS20 := hS19.mono b20
 have q20 := (hS20.blk 7 rfl).1
 have p20 := (hS20.blk 8 rfl).1
 clear hS19 q19 p19
 go_wp2_with fail
 refine (llistBad_any aT none cT 0 0 16 _ rfl).mono ?_
 rintro e w21 ⟨rfl, b21⟩
 have hS21 := hS20.mono b21
 have q21 := (hS21.blk 7 rfl).1
 have p21 := (hS21.blk 8 rfl).1
 clear hS20 q20 p20
 go_wp2_with fail
 go_ret
 exact ⟨rfl, hS21.b⟩
theorem mw_meet1 (m : MacV) (ad al : Option Addr) (cap cl : Nat) (l : List Int) (n : Int) (w : World) (hR : Ints w ad cap m.sw) (hL : Ints w al cl l) (hI : InI m.gears) (hw : LibW w) (hsb : (decide (m.sw.length ≤ 19) && decide (l.length ≤ 67)) = true) (hn60 : decide (60 < n) = false ∨ (decide (60 < n) = true ∧ decide (n ≤ 1000) = false)) (he : loadE m l = 0) (h20 : l.length ≤ 20) (hr : m.ring = false) (hnb : meetsM m l 0 = true) (h12 : l.length ≤ 12) (hn0 : 0 ≤ n) (hn1 : n ≤ 1000) (hme : meetsM m l n = true) :
  Calls Tryz.prog 3 #[mV m ad cap, .slice al l.length cl, .int .i64 n] w fun r w' => r = .returned (.bool true) ∧ Below w.heap.size w w' := by
 have d60 : decide (60 < n) = false := by
  rcases hn60 with h | ⟨_, h⟩
  ·exact h
  ·simp at h; omega
 clear hn60
 have hS0 := ((SL.nil w).box (.cells (mC m ad cap) 24)).box (.cells (mC m ad cap) 25)
 simp only [World.size_alloc] at hS0
 have HA := hid awake4_any
 have hlc := hL.le
 have CSh := fun w => rShort_any m ad cap al cl l.length w
 rw [hsb] at CSh
 have HSh := hid CSh
 clear CSh hsb
 have CK := fun w h h2 => lcheck_any m ad cap al cl l w h h2
 have KL : ChkL m ad cap al cl l := CheckLoad_any m ad cap al cl l fun w h => CheckMachine_any m ad cap w h hI
 have CO := fun w h h2 => mOrder_any m ad cap al cl l w h h2 KL
 have CX := fun w h h2 => mCrossings_any m ad cap al cl l w h h2 KL
 have CW := fun w h h2 => mWord_any m ad cap al cl l n w h h2 KL
 have CT := fun w h h2 => mStrands_any m ad cap al cl l n w h h2 KL
 have CG : ∀ w, Calls Tryz.prog 18 #[.bool m.ring, .int .i64 13] w fun r w' => r = .returned (.int .i64 (if m.ring then 13 else 0)) ∧ w = w' := fun w => lwhen_any m.ring 13 w
 have C5 : ∀ w, Calls Tryz.prog 18 #[.bool (decide (12 < (l.length : Int))), .int .i64 5] w fun r w' => r = .returned (.int .i64 (if decide (12 < (l.length : Int)) then 5 else 0)) ∧ w = w' := fun w => lwhen_any _ 5 w
 have C3 := fun w => rOutside_any n 0 1000 w
 have C33 : ∀ w, Calls Tryz.prog 18 #[.bool (decide (n < 0) || decide (1000 < n)), .int .i64 3] w fun r w' => r = .returned (.int .i64 (if (decide (n < 0) || decide (1000 < n)) then 3 else 0)) ∧ w = w' := fun w => lwhen_any _ 3 w
 clear KL
 have hlok := loadE_zero he
 have hlo := hlok.ok.lo
 have hhi := hlok.ok.hi
 have hl20 : decide (20 < (l.length : Int)) = false := decide_eq_false (by omega)
 have hn64 : l.length ≤ 64 := by omega
 rw [he] at CK
 have CN := fun w h => rNow_any m ad cap al cl l w h hlo hhi hlok.rng hn64 hlok.nodup
 have CRO := fun w h => rOrder_any m ad cap al cl l w h hlo hhi hlok.rng hn64
 have CRX := fun w h => rCrossings_any m ad cap al cl l w h hlo hhi hlok.rng hn64
 have CLX := fun a c w h => lcrossings_any a c (crossM m l) w h (by have := crossM_len m l; omega)
 have hxl : (crossM m l).length ≤ 48 := by have := crossM_len m l; omega
 have hol : (orderM m l).length ≤ 64 := by have := orderM_len m l; omega
 have hnw : decide (0 ≤ nowM m l) = true := by rw [now_meets hlok]; exact hnb
 have e1 : orderE m l = 16 := by unfold orderE; rw [if_neg (by simp [he]), hr, hnb]; rfl
 have e2 : crossE m l = 16 := by unfold crossE; rw [if_neg (by simp [he]), hnb]; rfl
 rw [e1, if_neg (by decide)] at CO
 rw [e2, if_neg (by decide)] at CX
 replace CG : ∀ w, Calls Tryz.prog 18 #[.bool m.ring, .int .i64 13] w fun r w' => r = .returned (.int .i64 0) ∧ w = w' := fun w => by have h := CG w; simp only [hr, Bool.false_eq_true, if_false] at h ⊢; exact h
 have e3 : weaveE m l n = 16 := by unfold weaveE; rw [if_neg (by simp [he]), hr, if_neg (by decide), if_neg (by omega), if_neg (by omega), hme]; try rfl
 have e4 : wrdE m l n = 16 := by unfold wrdE; rw [e3, if_pos (by decide)]
 rw [e4, if_neg (by decide)] at CW
 rw [e3, if_neg (by decide)] at CT
 rw [decide_eq_false (show ¬ 12 < (l.length : Int) by omega)] at C5
 simp only [Bool.false_eq_true, if_false] at C5
 have h12 : decide (12 < (l.length : Int)) = false := decide_eq_false (by omega)
 have hout : (decide (n < 0) || decide (1000 < n)) = false := by simp; omega
 rw [hout] at C33 C3
 simp only [Bool.false_eq_true, if_false] at C33
 have CME := fun w h h2 => rMeets_any m ad cap al cl l n w h h2 hlo hhi hlok.rng hn64 hlok.nodup
 rw [hme] at CME
 have HME := hid CME
 clear CME
 obtain ⟨OM, hOM⟩ : ∃ OM, OM = orderM m l := ⟨_, rfl⟩
 obtain ⟨XM, hXM⟩ : ∃ XM, XM = crossM m l := ⟨_, rfl⟩
 obtain ⟨NW, hNW⟩ : ∃ NW, NW = nowM m l := ⟨_, rfl⟩
 rw [← hNW] at CN hnw
 rw [← hOM] at CRO hol
 rw [← hXM] at CRX CLX hxl
 have HN := hid CN; have HRO := hid CRO; have HRX := hid CRX; have HLX := hid CLX
 clear CN CRO CRX CLX hOM hXM hNW e1 e2 e3 e4 hlok he hr hnb hlo hhi hme
 have HCK := hid CK; have HO := hid CO; have HX := hid CX; have HW := hid CW; have HT := hid CT; have HRG := hid CG; have H5 := hid C5; have H3 := hid C3; have H33 := hid C33
 clear CK CO CX CW CT CG C5 C3 C33 hI
 go_enter Tryz.func3, Tryz.ntmps3
 go_wp2_with fail
 refine (HA.out _ (hw.below hS0.b)).mono ?_
 rintro e w1 ⟨rfl, b1⟩
 have hS1 := hS0.mono b1
 have q1 := (hS1.blk 0 rfl).1
 have p1 := (hS1.blk 1 rfl).1
 clear hS0
 go_wp2_with (with_reducible refine wpList_ldS (n := 4) (us := mC m ad cap) A_rmach kR wU wU (by assumption) wU wU ?_)
 refine (HSh.out _).mono ?_
 rintro e w2 ⟨rfl, b2⟩
 have hS2 := hS1.mono b2
 have q2 := (hS2.blk 0 rfl).1
 have p2 := (hS2.blk 1 rfl).1
 clear hS1 q1 p1
 go_wp2_with (with_reducible refine wpList_ldS (n := 4) (us := mC m ad cap) A_rmach kR wU wU (by assumption) wU wU ?_)
 refine (HCK.out _ (hR.below hS2.b) (hL.below hS2.b)).mono ?_
 rintro e w3 ⟨rfl, b3⟩
 have hS3 := hS2.mono b3
 have q3 := (hS3.blk 0 rfl).1
 have p3 := (hS3.blk 1 rfl).1
 clear hS2 q2 p2
 go_wp2_with (with_reducible refine wpList_ldS (n := 4) (us := mC m ad cap) A_mach kR wU wU (by assumption) wU wU ?_)
 refine (HO.out _ (hR.below hS3.b) (hL.below hS3.b)).mono ?_
 rintro e w4 ⟨v4, rfl, ho4, b4⟩
 have hS4 := hS3.call (SL.ofOwn ho4 b4)
 simp only [List.cons_append, List.nil_append] at hS4
 have q4 := (hS4.blk 1 rfl).1
 have p4 := (hS4.blk 2 rfl).1
 clear hS3 q3 p3
 clear ho4 b4
 obtain ⟨aO, cO, rfl, _⟩ := hS4.slice 0 rfl
 go_wp2_with (with_reducible refine wpList_ldS (n := 4) (us := mC m ad cap) A_mach kR wU wU (by assumption) wU wU ?_)
 refine (HX.out _ (hR.below hS4.b) (hL.below hS4.b)).mono ?_
 rintro e w5 ⟨v5, rfl, ho5, b5⟩
 have hS5 := hS4.call (SL.ofOwn ho5 b5)
 simp only [List.cons_append, List.nil_append] at hS5
 have q5 := (hS5.blk 2 rfl).1
 have p5 := (hS5.blk 3 rfl).1
 clear hS4 q4 p4
 clear ho5 b5
 obtain ⟨aX, cX, rfl, _⟩ := hS5.slice 0 rfl
 go_wp2_with (with_reducible refine wpList_ldS (n := 4) (us := mC m ad cap) A_mach kR wU wU (by assumption) wU wU ?_)
 refine (HW.out _ (hR.below hS5.b) (hL.below hS5.b)).mono ?_
 rintro e w6 ⟨v6, rfl, ho6, b6⟩
 have hS6 := hS5.call (SL.ofOwn ho6 b6)
 simp only [List.cons_append, List.nil_append] at hS6
 have q6 := (hS6.blk 3 rfl).1
 have p6 := (hS6.blk 4 rfl).1
 clear hS5 q5 p5
 clear ho6 b6
 obtain ⟨aW, cW, rfl, _⟩ := hS6.slice 0 rfl
 go_wp2_with (with_reducible refine wpList_ldS (n := 4) (us := mC m ad cap) A_mach kR wU wU (by assumption) wU wU ?_)
 refine (HT.out _ (hR.below hS6.b) (hL.below hS6.b)).mono ?_
 rintro e w7 ⟨v7, rfl, ho7, b7⟩
 have hS7 := hS6.call (SL.ofOwn ho7 b7)
 simp only [List.cons_append, List.nil_append] at hS7
 have q7 := (hS7.blk 4 rfl).1
 have p7 := (hS7.blk 5 rfl).1
 clear hS6 q6 p6
 clear ho7 b7
 obtain ⟨aT, cT, rfl, _⟩ := hS7.slice 0 rfl
 go_wp2_with (with_reducible refine wpList_ldS (n := 4) (us := mC m ad cap) A_rmach kR wU wU (by assumption) wU wU ?_)
 refine (HN.out _ (hL.below hS7.b)).mono ?_
 rintro e w8 ⟨rfl, b8⟩
 have hS8 := hS7.mono b8
 have q8 := (hS8.blk 4 rfl).1
 have p8 := (hS8.blk 5 rfl).1
 clear hS7 q7 p7
 go_wp2_with fail
 refine (lwhen_any true 16 w8).mono ?_
 rintro e w' ⟨rfl, rfl⟩
 go_wp2_with (with_reducible refine wpList_ldB F_boolM wU wU p8 wU ?_)
 refine (HRG.out _).mono ?_
 rintro e w' ⟨rfl, rfl⟩
 have hS9 := hS8.al (.cells #[.int .i64 0, .int .i64 0] 3)
 have q9 := (hS9.blk 4 rfl).1
 have p9 := (hS9.blk 5 rfl).1
 clear hS8 q8 p8
 have hS10 := hS9.al (.cells #[.int .i64 0, .int .i64 16] 3)
 have q10 := (hS10.blk 4 rfl).1
 have p10 := (hS10.blk 5 rfl).1
 clear hS9 q9 p9
 go_wp2_with (first | (go_at_call 20; refine (lfirst4_any _ _ [_, _] _ (reps_newN cIntS [_, _] 2 rfl (by decide) _ _ (by simp) rfl) (by simp)).mono ?_; rw [firstE_z, firstE_z, firstE_nil]; rintro e w' ⟨rfl, rfl⟩) | (go_at_call 20; refine (lfirst4_any _ _ [_, _] _ (reps_newN cIntS [_, _] 2 rfl (by decide) _ _ (by simp) rfl) (by simp)).mono ?_; rw [firstE_z, firstE_head (by decide)]; rintro e w' ⟨rfl, rfl⟩))
 refine (llistBad_any aO none cO 0 0 16 _ rfl).mono ?_
 rintro e w11 ⟨rfl, b11⟩
 have hS11 := hS10.mono b11
 have q11 := (hS11.blk 4 rfl).1
 have p11 := (hS11.blk 5 rfl).1
 clear hS10 q10 p10
 have hS12 := hS11.al (.cells #[.int .i64 0, .int .i64 16] 3)
 have q12 := (hS12.blk 4 rfl).1
 have p12 := (hS12.blk 5 rfl).1
 clear hS11 q11 p11
 go_wp2_with (go_at_call 20; refine (lfirst4_any _ _ [_, _] _ (reps_newN cIntS [_, _] 2 rfl (by decide) _ _ (by simp) rfl) (by simp)).mono ?_; rw [firstE_z, firstE_head (by decide)]; rintro e w' ⟨rfl, rfl⟩)
 refine wp_region_q kR kR ?_
 repeat (first | ((with_reducible refine wpQ_skip wU ?_); (try simp only [Act.put, pA, pB, pC])) |  ((with_reducible refine wpB_load (by first | exact F_int | exact F_u64s) wU wU (by assumption) wU ?_); (try simp only [Act.put, pA, pB, pC])) | ((refine wpQ_oneG ?_ wU (fun w' => ?_) ?_); rotate_left; (go_simp; rfl); (try simp only [Act.put, pA, pB, pC])))
 refine wpQuiet_nil ?_
 intro w13 b13
 have hS13 := hS12.mono b13
 have q13 := (hS13.blk 4 rfl).1
 have p13 := (hS13.blk 5 rfl).1
 clear hS12 q12 p12
 go_wp2_with fail
 refine (H5.out _).mono ?_
 rintro e w' ⟨rfl, rfl⟩
 go_wp2_with fail
 refine (H3.out _).mono ?_
 rintro e w' ⟨rfl, rfl⟩
 go_wp2_with fail
 refine (H33.out _).mono ?_
 rintro e w' ⟨rfl, rfl⟩
 have hS14 := hS13.al (.cells #[.int .i64 0, .int .i64 0, .int .i64 0] 3)
 have q14 := (hS14.blk 4 rfl).1
 have p14 := (hS14.blk 5 rfl).1
 clear hS13 q13 p13
 go_wp2_with (first | (go_at_call 20; refine (lfirst4_any _ _ [_, _, _] _ (reps_newN cIntS [_, _, _] 3 rfl (by decide) _ _ (by simp) rfl) (by simp)).mono ?_; rw [firstE_z, firstE_z, firstE_z, firstE_nil]; rintro e w' ⟨rfl, rfl⟩) | (with_reducible refine wpList_ldS (n := 4) (us := mC m ad cap) A_rmach kR wU wU (by assumption) wU wU ?_))
 refine (HME.out _ (hR.below hS14.b) (hL.below hS14.b)).mono ?_
 rintro e w15 ⟨rfl, b15⟩
 have hS15 := hS14.mono b15
 have q15 := (hS15.blk 4 rfl).1
 have p15 := (hS15.blk 5 rfl).1
 clear hS14 q14 p14
 go_wp2_with fail
 refine (llistBad_any aW none cW 0 0 16 _ rfl).mono ?_
 rintro e w16 ⟨rfl, b16⟩
 have hS16 := hS15.mono b16
 have q16 := (hS16.blk 4 rfl).1
 have p16 := (hS16.blk 5 rfl).1
 clear hS15 q15 p15
 go_wp2_with fail
 refine (llistBad_any aT none cT 0 0 16 _ rfl).mono ?_
 rintro e w17 ⟨rfl, b17⟩
 have hS17 := hS16.mono b17
 have q17 := (hS17.blk 4 rfl).1
 have p17 := (hS17.blk 5 rfl).1
 clear hS16 q16 p16
 go_wp2_with fail
 go_ret
 exact ⟨rfl, hS17.b⟩
theorem mw_word0 (m : MacV) (ad al : Option Addr) (cap cl : Nat) (l : List Int) (n : Int) (w : World) (hR : Ints w ad cap m.sw) (hL : Ints w al cl l) (hI : InI m.gears) (hw : LibW w) (hsb : (decide (m.sw.length ≤ 19) && decide (l.length ≤ 67)) = true) (hn60 : decide (60 < n) = false ∨ (decide (60 < n) = true ∧ decide (n ≤ 1000) = false)) (he : loadE m l = 0) (h20 : l.length ≤ 20) (hr : m.ring = false) (hnb : meetsM m l 0 = false) (h12 : l.length ≤ 12) (hn0 : 0 ≤ n) (hn1 : n ≤ 1000) (hme : meetsM m l n = false) (hlong : ¬ 200 < (wrdL m l n).length) :
  Calls Tryz.prog 3 #[mV m ad cap, .slice al l.length cl, .int .i64 n] w fun r w' => r = .returned (.bool true) ∧ Below w.heap.size w w' := by
 have d60 : decide (60 < n) = false := by
  rcases hn60 with h | ⟨_, h⟩
  ·exact h
  ·simp at h; omega
 clear hn60
 have hS0 := ((SL.nil w).box (.cells (mC m ad cap) 24)).box (.cells (mC m ad cap) 25)
 simp only [World.size_alloc] at hS0
 have HA := hid awake4_any
 have hlc := hL.le
 have CSh := fun w => rShort_any m ad cap al cl l.length w
 rw [hsb] at CSh
 have HSh := hid CSh
 clear CSh hsb
 have CK := fun w h h2 => lcheck_any m ad cap al cl l w h h2
 have KL : ChkL m ad cap al cl l := CheckLoad_any m ad cap al cl l fun w h => CheckMachine_any m ad cap w h hI
 have CO := fun w h h2 => mOrder_any m ad cap al cl l w h h2 KL
 have CX := fun w h h2 => mCrossings_any m ad cap al cl l w h h2 KL
 have CW := fun w h h2 => mWord_any m ad cap al cl l n w h h2 KL
 have CT := fun w h h2 => mStrands_any m ad cap al cl l n w h h2 KL
 have CG : ∀ w, Calls Tryz.prog 18 #[.bool m.ring, .int .i64 13] w fun r w' => r = .returned (.int .i64 (if m.ring then 13 else 0)) ∧ w = w' := fun w => lwhen_any m.ring 13 w
 have C5 : ∀ w, Calls Tryz.prog 18 #[.bool (decide (12 < (l.length : Int))), .int .i64 5] w fun r w' => r = .returned (.int .i64 (if decide (12 < (l.length : Int)) then 5 else 0)) ∧ w = w' := fun w => lwhen_any _ 5 w
 have C3 := fun w => rOutside_any n 0 1000 w
 have C33 : ∀ w, Calls Tryz.prog 18 #[.bool (decide (n < 0) || decide (1000 < n)), .int .i64 3] w fun r w' => r = .returned (.int .i64 (if (decide (n < 0) || decide (1000 < n)) then 3 else 0)) ∧ w = w' := fun w => lwhen_any _ 3 w
 clear KL
 have hlok := loadE_zero he
 have hlo := hlok.ok.lo
 have hhi := hlok.ok.hi
 have hl20 : decide (20 < (l.length : Int)) = false := decide_eq_false (by omega)
 have hn64 : l.length ≤ 64 := by omega
 rw [he] at CK
 have CN := fun w h => rNow_any m ad cap al cl l w h hlo hhi hlok.rng hn64 hlok.nodup
 have CRO := fun w h => rOrder_any m ad cap al cl l w h hlo hhi hlok.rng hn64
 have CRX := fun w h => rCrossings_any m ad cap al cl l w h hlo hhi hlok.rng hn64
 have CLX := fun a c w h => lcrossings_any a c (crossM m l) w h (by have := crossM_len m l; omega)
 have hxl : (crossM m l).length ≤ 48 := by have := crossM_len m l; omega
 have hol : (orderM m l).length ≤ 64 := by have := orderM_len m l; omega
 have hnw : decide (0 ≤ nowM m l) = false := by rw [now_meets hlok]; exact hnb
 have e1 : orderE m l = 0 := by unfold orderE; rw [if_neg (by simp [he]), hr, hnb]; rfl
 have e2 : crossE m l = 0 := by unfold crossE; rw [if_neg (by simp [he]), hnb]; rfl
 rw [e1, if_pos rfl] at CO
 rw [e2, if_pos rfl] at CX
 replace CG : ∀ w, Calls Tryz.prog 18 #[.bool m.ring, .int .i64 13] w fun r w' => r = .returned (.int .i64 0) ∧ w = w' := fun w => by have h := CG w; simp only [hr, Bool.false_eq_true, if_false] at h ⊢; exact h
 have e3 : weaveE m l n = 0 := by unfold weaveE; rw [if_neg (by simp [he]), hr, if_neg (by decide), if_neg (by omega), if_neg (by omega), hme]; try rfl
 have e4 : wrdE m l n = 0 := by unfold wrdE; rw [e3, if_neg (by decide), if_neg hlong]
 rw [e4, if_pos rfl] at CW
 rw [e3, if_pos rfl] at CT
 rw [decide_eq_false (show ¬ 12 < (l.length : Int) by omega)] at C5
 simp only [Bool.false_eq_true, if_false] at C5
 have h12 : decide (12 < (l.length : Int)) = false := decide_eq_false (by omega)
 have hout : (decide (n < 0) || decide (1000 < n)) = false := by simp; omega
 rw [hout] at C33 C3
 simp only [Bool.false_eq_true, if_false] at C33
 have CME := fun w h h2 => rMeets_any m ad cap al cl l n w h h2 hlo hhi hlok.rng hn64 hlok.nodup
 rw [hme] at CME
 have HME := hid CME
 clear CME
 have h60 : ¬ 60 < n := of_decide_eq_false d60
 obtain ⟨N, rfl⟩ : ∃ N : Nat, n = N := ⟨n.toNat, by omega⟩
 have CRW := fun w h h2 => rWord4_any m ad cap al cl l N w h h2 hlok hr hme (by omega)
 have CRT := fun w h h2 => rStrands4_any m ad cap al cl l N w h h2 hlo hhi hlok.rng hn64 hlok.nodup (by omega)
 simp only [if_neg hlong] at CRW
 have hsl : (strandsL m l N).length ≤ 64 := by simp [strandsL]; omega
 obtain ⟨TL, hTL⟩ : ∃ TL, TL = strandsL m l N := ⟨_, rfl⟩
 rw [← hTL] at CT CRT hsl
 obtain ⟨WL, hWL⟩ : ∃ WL, WL = wrdL m l N := ⟨_, rfl⟩
 have hwl : WL.length ≤ 200 := by rw [hWL]; omega
 rw [← hWL] at CW CRW
 have HRW := hid CRW; have HRT := hid CRT
 clear CRW CRT hTL hWL hlong
 obtain ⟨OM, hOM⟩ : ∃ OM, OM = orderM m l := ⟨_, rfl⟩
 obtain ⟨XM, hXM⟩ : ∃ XM, XM = crossM m l := ⟨_, rfl⟩
 obtain ⟨NW, hNW⟩ : ∃ NW, NW = nowM m l := ⟨_, rfl⟩
 rw [← hNW] at CN hnw
 rw [← hOM] at CRO hol
 rw [← hXM] at CRX CLX hxl
 rw [← hOM] at CO
 rw [← hXM] at CX
 have HN := hid CN; have HRO := hid CRO; have HRX := hid CRX; have HLX := hid CLX
 clear CN CRO CRX CLX hOM hXM hNW e1 e2 e3 e4 hlok he hr hnb hlo hhi hme
 have HCK := hid CK; have HO := hid CO; have HX := hid CX; have HW := hid CW; have HT := hid CT; have HRG := hid CG; have H5 := hid C5; have H3 := hid C3; have H33 := hid C33
 clear CK CO CX CW CT CG C5 C3 C33 hI
 go_enter Tryz.func3, Tryz.ntmps3
 go_wp2_with fail
 refine (HA.out _ (hw.below hS0.b)).mono ?_
 rintro e w1 ⟨rfl, b1⟩
 have hS1 := hS0.mono b1
 have q1 := (hS1.blk 0 rfl).1
 have p1 := (hS1.blk 1 rfl).1
 clear hS0
 go_wp2_with (with_reducible refine wpList_ldS (n := 4) (us := mC m ad cap) A_rmach kR wU wU (by assumption) wU wU ?_)
 refine (HSh.out _).mono ?_
 rintro e w2 ⟨rfl, b2⟩
 have hS2 := hS1.mono b2
 have q2 := (hS2.blk 0 rfl).1
 have p2 := (hS2.blk 1 rfl).1
 clear hS1 q1 p1
 go_wp2_with (with_reducible refine wpList_ldS (n := 4) (us := mC m ad cap) A_rmach kR wU wU (by assumption) wU wU ?_)
 refine (HCK.out _ (hR.below hS2.b) (hL.below hS2.b)).mono ?_
 rintro e w3 ⟨rfl, b3⟩
 have hS3 := hS2.mono b3
 have q3 := (hS3.blk 0 rfl).1
 have p3 := (hS3.blk 1 rfl).1
 clear hS2 q2 p2
 go_wp2_with (with_reducible refine wpList_ldS (n := 4) (us := mC m ad cap) A_mach kR wU wU (by assumption) wU wU ?_)
 refine (HO.out _ (hR.below hS3.b) (hL.below hS3.b)).mono ?_
 rintro e w4 ⟨v4, rfl, ho4, b4⟩
 have hS4 := hS3.call (SL.ofOwn ho4 b4)
 simp only [List.cons_append, List.nil_append] at hS4
 have q4 := (hS4.blk 1 rfl).1
 have p4 := (hS4.blk 2 rfl).1
 clear hS3 q3 p3
 clear ho4 b4
 obtain ⟨aO, cO, rfl, _⟩ := hS4.slice 0 rfl
 go_wp2_with (with_reducible refine wpList_ldS (n := 4) (us := mC m ad cap) A_mach kR wU wU (by assumption) wU wU ?_)
 refine (HX.out _ (hR.below hS4.b) (hL.below hS4.b)).mono ?_
 rintro e w5 ⟨v5, rfl, ho5, b5⟩
 have hS5 := hS4.call (SL.ofOwn ho5 b5)
 simp only [List.cons_append, List.nil_append] at hS5
 have q5 := (hS5.blk 2 rfl).1
 have p5 := (hS5.blk 3 rfl).1
 clear hS4 q4 p4
 clear ho5 b5
 obtain ⟨aX, cX, rfl, _⟩ := hS5.slice 0 rfl
 go_wp2_with (with_reducible refine wpList_ldS (n := 4) (us := mC m ad cap) A_mach kR wU wU (by assumption) wU wU ?_)
 refine (HW.out _ (hR.below hS5.b) (hL.below hS5.b)).mono ?_
 rintro e w6 ⟨v6, rfl, ho6, b6⟩
 have hS6 := hS5.call (SL.ofOwn ho6 b6)
 simp only [List.cons_append, List.nil_append] at hS6
 have q6 := (hS6.blk 3 rfl).1
 have p6 := (hS6.blk 4 rfl).1
 clear hS5 q5 p5
 clear ho6 b6
 obtain ⟨aW, cW, rfl, _⟩ := hS6.slice 0 rfl
 go_wp2_with (with_reducible refine wpList_ldS (n := 4) (us := mC m ad cap) A_mach kR wU wU (by assumption) wU wU ?_)
 refine (HT.out _ (hR.below hS6.b) (hL.below hS6.b)).mono ?_
 rintro e w7 ⟨v7, rfl, ho7, b7⟩
 have hS7 := hS6.call (SL.ofOwn ho7 b7)
 simp only [List.cons_append, List.nil_append] at hS7
 have q7 := (hS7.blk 4 rfl).1
 have p7 := (hS7.blk 5 rfl).1
 clear hS6 q6 p6
 clear ho7 b7
 obtain ⟨aT, cT, rfl, _⟩ := hS7.slice 0 rfl
 go_wp2_with (with_reducible refine wpList_ldS (n := 4) (us := mC m ad cap) A_rmach kR wU wU (by assumption) wU wU ?_)
 refine (HN.out _ (hL.below hS7.b)).mono ?_
 rintro e w8 ⟨rfl, b8⟩
 have hS8 := hS7.mono b8
 have q8 := (hS8.blk 4 rfl).1
 have p8 := (hS8.blk 5 rfl).1
 clear hS7 q7 p7
 go_wp2_with fail
 refine (lwhen_any false 16 w8).mono ?_
 rintro e w' ⟨rfl, rfl⟩
 go_wp2_with (with_reducible refine wpList_ldB F_boolM wU wU p8 wU ?_)
 refine (HRG.out _).mono ?_
 rintro e w' ⟨rfl, rfl⟩
 have hS9 := hS8.al (.cells #[.int .i64 0, .int .i64 0] 3)
 have q9 := (hS9.blk 4 rfl).1
 have p9 := (hS9.blk 5 rfl).1
 clear hS8 q8 p8
 have hS10 := hS9.al (.cells #[.int .i64 0, .int .i64 0] 3)
 have q10 := (hS10.blk 4 rfl).1
 have p10 := (hS10.blk 5 rfl).1
 clear hS9 q9 p9
 go_wp2_with (first | (go_at_call 20; refine (lfirst4_any _ _ [_, _] _ (reps_newN cIntS [_, _] 2 rfl (by decide) _ _ (by simp) rfl) (by simp)).mono ?_; rw [firstE_z, firstE_z, firstE_nil]; rintro e w' ⟨rfl, rfl⟩) | (go_at_call 20; refine (lfirst4_any _ _ [_, _] _ (reps_newN cIntS [_, _] 2 rfl (by decide) _ _ (by simp) rfl) (by simp)).mono ?_; rw [firstE_z, firstE_z, firstE_nil]; rintro e w' ⟨rfl, rfl⟩) | (with_reducible refine wpList_ldS (n := 4) (us := mC m ad cap) A_rmach kR wU wU (by assumption) wU wU ?_))
 refine (HRO.out _ (hL.below hS10.b)).mono ?_
 rintro e w11 ⟨v11, rfl, ho11, b11⟩
 have hS11 := hS10.call (SL.ofOwn ho11 b11)
 simp only [List.cons_append, List.nil_append] at hS11
 have q11 := (hS11.blk 5 rfl).1
 have p11 := (hS11.blk 6 rfl).1
 clear hS10 q10 p10
 clear ho11 b11
 obtain ⟨aQ, cQ, rfl, _⟩ := hS11.slice 0 rfl
 go_wp2_with fail
 refine (llistOk_any aO aQ cO cQ _ OM _ (hS11.rd 4 rfl) (hS11.rd 0 rfl) rfl (by omega)).mono ?_
 rintro e w12 ⟨rfl, b12⟩
 have hS12 := hS11.mono b12
 have q12 := (hS12.blk 5 rfl).1
 have p12 := (hS12.blk 6 rfl).1
 clear hS11 q11 p11
 have hS13 := hS12.al (.cells #[.int .i64 0, .int .i64 0] 3)
 have q13 := (hS13.blk 5 rfl).1
 have p13 := (hS13.blk 6 rfl).1
 clear hS12 q12 p12
 go_wp2_with (go_at_call 20; refine (lfirst4_any _ _ [_, _] _ (reps_newN cIntS [_, _] 2 rfl (by decide) _ _ (by simp) rfl) (by simp)).mono ?_; rw [firstE_z, firstE_z, firstE_nil]; rintro e w' ⟨rfl, rfl⟩)
 refine wp_regionK (C := (fun V => Below w.heap.size w V ∧ V.heap[w.heap.size + 1]? = some (.cells (mC m ad cap) 25))) [0, 1, 2, 3, 4, 5, 6, 7, 8, 9, 10, 11, 12, 13, 14, 15, 16, 17, 18, 19, 21, 22] [_, _, _, _, _, _, _, _, _, _, _, _, _, _, _, _, _, _, _, _, _, _] 7 (by simp only [List.map_cons, List.map_nil, List.getElem?_toArray]; rfl) rfl kR kR kR (⟨hS13.b.drew, q13⟩) ?_
 refine ⟨_, yieldsK_val wU (fun w' => by with_unfolding_all exact rfl), ?_⟩
 go_frame
 refine ⟨.bool false, yieldsK_val wU (fun w' => by first | (go_simp; done) | (go_simp; rfl)), ?_⟩
 go_frame
 refine ⟨_, yieldsK_val wU (fun w' => by with_unfolding_all exact rfl), ?_⟩
 go_frame
 refine ⟨_, .inr (.inl ⟨by with_unfolding_all rfl, rfl⟩), ?_⟩
 go_frame
 refine ⟨_, .inr (.inl ⟨by with_unfolding_all rfl, rfl⟩), ?_⟩
 go_frame
 refine ⟨_, .inr (.inl ⟨by with_unfolding_all rfl, rfl⟩), ?_⟩
 go_frame
 refine ⟨_, .inr (.inl ⟨by with_unfolding_all rfl, rfl⟩), ?_⟩
 go_frame
 refine ⟨_, .inr (.inl ⟨by with_unfolding_all rfl, rfl⟩), ?_⟩
 go_frame
 refine ⟨_, .inr (.inl ⟨by with_unfolding_all rfl, rfl⟩), ?_⟩
 go_frame
 refine ⟨_, .inr (.inl ⟨by with_unfolding_all rfl, rfl⟩), ?_⟩
 go_frame
 refine ⟨_, .inr (.inl ⟨by with_unfolding_all rfl, rfl⟩), ?_⟩
 go_frame
 refine ⟨.bool false, yieldsK_val wU (fun w' => by first | (go_simp; done) | (go_simp; rfl)), ?_⟩
 go_frame
 refine ⟨_, yieldsK_val wU (fun w' => by with_unfolding_all exact rfl), ?_⟩
 go_frame
 refine ⟨_, yieldsK_val wU (fun w' => by with_unfolding_all exact rfl), ?_⟩
 go_frame
 refine ⟨.bool true, yieldsK_val wU (fun w' => by first | (go_simp; done) | (go_simp; rfl)), ?_⟩
 go_frame
 refine ⟨_, yieldsK_val wU (fun w' => by with_unfolding_all exact rfl), ?_⟩
 go_frame
 refine ⟨_, yieldsK_val wU (fun w' => by with_unfolding_all exact rfl), ?_⟩
 go_frame
 refine ⟨.bool false, yieldsK_val wU (fun w' => by first | (go_simp; done) | (go_simp; rfl)), ?_⟩
 go_frame
 refine ⟨_, yieldsK_val wU (fun w' => by with_unfolding_all exact rfl), ?_⟩
 go_frame
 refine ⟨_, yieldsK_val wU (fun w' => by with_unfolding_all exact rfl), ?_⟩
 go_frame
 refine ⟨_, yieldsK_blkC (n := 4) A_rmach kR (fun V h => h.2) rfl wU wU, ?_⟩
 go_frame
 refine ⟨_, yieldsK_val wU (fun w' => by with_unfolding_all exact rfl), ?_⟩
 go_frame
 unfold wpPureK
 have hVd : ∀ V : World, ({ V with drawn := V.drawn + 1 } : World) = V.drew := fun _ => rfl
 simp only [hVd]
 have hS14 := hS13.drew
 have q14 := (hS14.blk 5 rfl).1
 have p14 := (hS14.blk 6 rfl).1
 clear hS13 q13 p13
 refine wpAnyC_on [20] kR (by simp) ?_
 simp only [List.forall_mem_cons, List.not_mem_nil, false_implies, implies_true, and_true]
 refine wpOp_call (f := 24) (args := #[.slice aX XM.length cX]) (by rw [List.getElem?_toArray]; rfl) wU (by first | (go_simp; done) | (simp [execOp, Act.eval, Result.andThen]; done) | (simp [execOp, Act.eval, Result.andThen]; rfl)) ?_
 refine (HLX.out _ _ _ (hS14.rd 3 rfl)).mono ?_
 rintro e w15 ⟨v15, rfl, ho15, b15⟩
 have hS15 := hS14.call (SL.ofOwn ho15 b15)
 simp only [List.cons_append, List.nil_append] at hS15
 have q15 := (hS15.blk 6 rfl).1
 have p15 := (hS15.blk 7 rfl).1
 clear hS14 q14 p14
 clear ho15 b15
 obtain ⟨aY, cY, rfl, _⟩ := hS15.slice 0 rfl
 refine ⟨_, rfl, ⟨hS15.b, q15⟩, ?_⟩
 go_frame
 refine wpAnyC_on [23] kR (by simp) ?_
 simp only [List.forall_mem_cons, List.not_mem_nil, false_implies, implies_true, and_true]
 refine wpOp_call (f := 25) (args := #[mV m ad cap, .slice al l.length cl]) (by rw [List.getElem?_toArray]; rfl) wU (by first | (go_simp; done) | (simp [execOp, Act.eval, Result.andThen]; done) | (simp [execOp, Act.eval, Result.andThen]; rfl)) ?_
 refine (HRX.out _ (hL.below hS15.b)).mono ?_
 rintro e w16 ⟨v16, rfl, ho16, b16⟩
 have hS16 := hS15.call (SL.ofOwn ho16 b16)
 simp only [List.cons_append, List.nil_append] at hS16
 have q16 := (hS16.blk 7 rfl).1
 have p16 := (hS16.blk 8 rfl).1
 clear hS15 q15 p15
 clear ho16 b16
 obtain ⟨aZ, cZ, rfl, _⟩ := hS16.slice 0 rfl
 refine ⟨_, rfl, ⟨hS16.b, q16⟩, ?_⟩
 go_frame
 refine wpAnyC_on [24] kR (by simp) ?_
 simp only [List.forall_mem_cons, List.not_mem_nil, false_implies, implies_true, and_true]
 refine wpOp_call (f := 23) (args := #[.slice aY XM.length cY, .slice aZ XM.length cZ]) (by rw [List.getElem?_toArray]; rfl) wU (by first | (go_simp; done) | (simp [execOp, Act.eval, Result.andThen]; done) | (simp [execOp, Act.eval, Result.andThen]; rfl)) ?_
 refine (SameCrossings_same aY aZ cY cZ _ XM _ (hS16.rd 1 rfl) (hS16.rd 0 rfl) rfl (by omega)).mono ?_
 rintro e w17 ⟨rfl, b17⟩
 have hS17 := hS16.mono b17
 have q17 := (hS17.blk 7 rfl).1
 have p17 := (hS17.blk 8 rfl).1
 clear hS16 q16 p16
 refine ⟨_, rfl, ⟨hS17.b, q17⟩, ?_⟩
 go_frame
 refine wpAnyC_rest [25, 26, 27, 28] [_, _, _, _] rfl (by simp only [List.map_cons, List.map_nil, List.getElem?_toArray]; rfl) kR kR kR (⟨hS17.b, q17⟩) ?_
 repeat (refine ⟨_, .inl ⟨by with_unfolding_all rfl, fun w' _ => by with_unfolding_all exact rfl⟩, ?_⟩; go_frame)
 unfold wpPure
 refine of_wpList_nil (P := Tryz.prog) (ops := #[]) ?_
 go_wp2_with fail
 refine (H5.out _).mono ?_
 rintro e w' ⟨rfl, rfl⟩
 go_wp2_with fail
 refine (H3.out _).mono ?_
 rintro e w' ⟨rfl, rfl⟩
 go_wp2_with fail
 refine (H33.out _).mono ?_
 rintro e w' ⟨rfl, rfl⟩
 have hS18 := hS17.al (.cells #[.int .i64 0, .int .i64 0, .int .i64 0] 3)
 have q18 := (hS18.blk 7 rfl).1
 have p18 := (hS18.blk 8 rfl).1
 clear hS17 q17 p17
 go_wp2_with (first | (go_at_call 20; refine (lfirst4_any _ _ [_, _, _] _ (reps_newN cIntS [_, _, _] 3 rfl (by decide) _ _ (by simp) rfl) (by simp)).mono ?_; rw [firstE_z, firstE_z, firstE_z, firstE_nil]; rintro e w' ⟨rfl, rfl⟩) | (with_reducible refine wpList_ldS (n := 4) (us := mC m ad cap) A_rmach kR wU wU (by assumption) wU wU ?_))
 refine (HME.out _ (hR.below hS18.b) (hL.below hS18.b)).mono ?_
 rintro e w19 ⟨rfl, b19⟩
 have hS19 := hS18.mono b19
 have q19 := (hS19.blk 7 rfl).1
 have p19 := (hS19.blk 8 rfl).1
 clear hS18 q18 p18
 go_wp2_with (with_reducible refine wpList_ldS (n := 4) (us := mC m ad cap) A_rmach kR wU wU (by assumption) wU wU ?_)
 refine (HRW.out _ (hR.below hS19.b) (hL.below hS19.b)).mono ?_
 rintro e w20 ⟨v20, rfl, ho20, b20⟩
 have hS20 := hS19.call (SL.ofOwn ho20 b20)
 simp only [List.cons_append, List.nil_append] at hS20
 have q20 := (hS20.blk 8 rfl).1
 have p20 := (hS20.blk 9 rfl).1
 clear hS19 q19 p19
 clear ho20 b20
 obtain ⟨aV, cV, rfl, _⟩ := hS20.slice 0 rfl
 go_wp2_with fail
 refine (llistOk_any aW aV cW cV _ WL _ (hS20.rd 5 rfl) (hS20.rd 0 rfl) rfl (by omega)).mono ?_
 rintro e w21 ⟨rfl, b21⟩
 have hS21 := hS20.mono b21
 have q21 := (hS21.blk 8 rfl).1
 have p21 := (hS21.blk 9 rfl).1
 clear hS20 q20 p20
 go_wp2_with (with_reducible refine wpList_ldS (n := 4) (us := mC m ad cap) A_rmach kR wU wU (by assumption) wU wU ?_)
 refine (HRT.out _ (hR.below hS21.b) (hL.below hS21.b)).mono ?_
 rintro e w22 ⟨v22, rfl, ho22, b22⟩
 have hS22 := hS21.call (SL.ofOwn ho22 b22)
 simp only [List.cons_append, List.nil_append] at hS22
 have q22 := (hS22.blk 9 rfl).1
 have p22 := (hS22.blk 10 rfl).1
 clear hS21 q21 p21
 clear ho22 b22
 obtain ⟨aU, cU, rfl, _⟩ := hS22.slice 0 rfl
 go_wp2_with fail
 refine (llistOk_any aT aU cT cU _ TL _ (hS22.rd 5 rfl) (hS22.rd 0 rfl) rfl (by omega)).mono ?_
 rintro e w23 ⟨rfl, b23⟩
 have hS23 := hS22.mono b23
 have q23 := (hS23.blk 9 rfl).1
 have p23 := (hS23.blk 10 rfl).1
 clear hS22 q22 p22
 go_wp2_with fail
 go_ret
 exact ⟨rfl, hS23.b⟩
theorem mw_word1 (m : MacV) (ad al : Option Addr) (cap cl : Nat) (l : List Int) (n : Int) (w : World) (hR : Ints w ad cap m.sw) (hL : Ints w al cl l) (hI : InI m.gears) (hw : LibW w) (hsb : (decide (m.sw.length ≤ 19) && decide (l.length ≤ 67)) = true) (hn60 : decide (60 < n) = false ∨ (decide (60 < n) = true ∧ decide (n ≤ 1000) = false)) (he : loadE m l = 0) (h20 : l.length ≤ 20) (hr : m.ring = false) (hnb : meetsM m l 0 = false) (h12 : l.length ≤ 12) (hn0 : 0 ≤ n) (hn1 : n ≤ 1000) (hme : meetsM m l n = false) (hlong : 200 < (wrdL m l n).length) :
  Calls Tryz.prog 3 #[mV m ad cap, .slice al l.length cl, .int .i64 n] w fun r w' => r = .returned (.bool true) ∧ Below w.heap.size w w' := by
 have d60 : decide (60 < n) = false := by
  rcases hn60 with h | ⟨_, h⟩
  ·exact h
  ·simp at h; omega
 clear hn60
 have hS0 := ((SL.nil w).box (.cells (mC m ad cap) 24)).box (.cells (mC m ad cap) 25)
 simp only [World.size_alloc] at hS0
 have HA := hid awake4_any
 have hlc := hL.le
 have CSh := fun w => rShort_any m ad cap al cl l.length w
 rw [hsb] at CSh
 have HSh := hid CSh
 clear CSh hsb
 have CK := fun w h h2 => lcheck_any m ad cap al cl l w h h2
 have KL : ChkL m ad cap al cl l := CheckLoad_any m ad cap al cl l fun w h => CheckMachine_any m ad cap w h hI
 have CO := fun w h h2 => mOrder_any m ad cap al cl l w h h2 KL
 have CX := fun w h h2 => mCrossings_any m ad cap al cl l w h h2 KL
 have CW := fun w h h2 => mWord_any m ad cap al cl l n w h h2 KL
 have CT := fun w h h2 => mStrands_any m ad cap al cl l n w h h2 KL
 have CG : ∀ w, Calls Tryz.prog 18 #[.bool m.ring, .int .i64 13] w fun r w' => r = .returned (.int .i64 (if m.ring then 13 else 0)) ∧ w = w' := fun w => lwhen_any m.ring 13 w
 have C5 : ∀ w, Calls Tryz.prog 18 #[.bool (decide (12 < (l.length : Int))), .int .i64 5] w fun r w' => r = .returned (.int .i64 (if decide (12 < (l.length : Int)) then 5 else 0)) ∧ w = w' := fun w => lwhen_any _ 5 w
 have C3 := fun w => rOutside_any n 0 1000 w
 have C33 : ∀ w, Calls Tryz.prog 18 #[.bool (decide (n < 0) || decide (1000 < n)), .int .i64 3] w fun r w' => r = .returned (.int .i64 (if (decide (n < 0) || decide (1000 < n)) then 3 else 0)) ∧ w = w' := fun w => lwhen_any _ 3 w
 clear KL
 have hlok := loadE_zero he
 have hlo := hlok.ok.lo
 have hhi := hlok.ok.hi
 have hl20 : decide (20 < (l.length : Int)) = false := decide_eq_false (by omega)
 have hn64 : l.length ≤ 64 := by omega
 rw [he] at CK
 have CN := fun w h => rNow_any m ad cap al cl l w h hlo hhi hlok.rng hn64 hlok.nodup
 have CRO := fun w h => rOrder_any m ad cap al cl l w h hlo hhi hlok.rng hn64
 have CRX := fun w h => rCrossings_any m ad cap al cl l w h hlo hhi hlok.rng hn64
 have CLX := fun a c w h => lcrossings_any a c (crossM m l) w h (by have := crossM_len m l; omega)
 have hxl : (crossM m l).length ≤ 48 := by have := crossM_len m l; omega
 have hol : (orderM m l).length ≤ 64 := by have := orderM_len m l; omega
 have hnw : decide (0 ≤ nowM m l) = false := by rw [now_meets hlok]; exact hnb
 have e1 : orderE m l = 0 := by unfold orderE; rw [if_neg (by simp [he]), hr, hnb]; rfl
 have e2 : crossE m l = 0 := by unfold crossE; rw [if_neg (by simp [he]), hnb]; rfl
 rw [e1, if_pos rfl] at CO
 rw [e2, if_pos rfl] at CX
 replace CG : ∀ w, Calls Tryz.prog 18 #[.bool m.ring, .int .i64 13] w fun r w' => r = .returned (.int .i64 0) ∧ w = w' := fun w => by have h := CG w; simp only [hr, Bool.false_eq_true, if_false] at h ⊢; exact h
 have e3 : weaveE m l n = 0 := by unfold weaveE; rw [if_neg (by simp [he]), hr, if_neg (by decide), if_neg (by omega), if_neg (by omega), hme]; try rfl
 have e4 : wrdE m l n = 26 := by unfold wrdE; rw [e3, if_neg (by decide), if_pos hlong]
 rw [e4, if_neg (by decide)] at CW
 rw [e3, if_pos rfl] at CT
 rw [decide_eq_false (show ¬ 12 < (l.length : Int) by omega)] at C5
 simp only [Bool.false_eq_true, if_false] at C5
 have h12 : decide (12 < (l.length : Int)) = false := decide_eq_false (by omega)
 have hout : (decide (n < 0) || decide (1000 < n)) = false := by simp; omega
 rw [hout] at C33 C3
 simp only [Bool.false_eq_true, if_false] at C33
 have CME := fun w h h2 => rMeets_any m ad cap al cl l n w h h2 hlo hhi hlok.rng hn64 hlok.nodup
 rw [hme] at CME
 have HME := hid CME
 clear CME
 have h60 : ¬ 60 < n := of_decide_eq_false d60
 obtain ⟨N, rfl⟩ : ∃ N : Nat, n = N := ⟨n.toNat, by omega⟩
 have CRW := fun w h h2 => rWord4_any m ad cap al cl l N w h h2 hlok hr hme (by omega)
 have CRT := fun w h h2 => rStrands4_any m ad cap al cl l N w h h2 hlo hhi hlok.rng hn64 hlok.nodup (by omega)
 simp only [if_pos hlong] at CRW
 have hsl : (strandsL m l N).length ≤ 64 := by simp [strandsL]; omega
 obtain ⟨TL, hTL⟩ : ∃ TL, TL = strandsL m l N := ⟨_, rfl⟩
 rw [← hTL] at CT CRT hsl
 obtain ⟨WL, hWL⟩ : ∃ WL, WL = wrdL m l N := ⟨_, rfl⟩
 have HRW := hid CRW; have HRT := hid CRT
 clear CRW CRT hTL hWL hlong
 obtain ⟨OM, hOM⟩ : ∃ OM, OM = orderM m l := ⟨_, rfl⟩
 obtain ⟨XM, hXM⟩ : ∃ XM, XM = crossM m l := ⟨_, rfl⟩
 obtain ⟨NW, hNW⟩ : ∃ NW, NW = nowM m l := ⟨_, rfl⟩
 rw [← hNW] at CN hnw
 rw [← hOM] at CRO hol
 rw [← hXM] at CRX CLX hxl
 rw [← hOM] at CO
 rw [← hXM] at CX
 have HN := hid CN; have HRO := hid CRO; have HRX := hid CRX; have HLX := hid CLX
 clear CN CRO CRX CLX hOM hXM hNW e1 e2 e3 e4 hlok he hr hnb hlo hhi hme
 have HCK := hid CK; have HO := hid CO; have HX := hid CX; have HW := hid CW; have HT := hid CT; have HRG := hid CG; have H5 := hid C5; have H3 := hid C3; have H33 := hid C33
 clear CK CO CX CW CT CG C5 C3 C33 hI
 go_enter Tryz.func3, Tryz.ntmps3
 go_wp2_with fail
 refine (HA.out _ (hw.below hS0.b)).mono ?_
 rintro e w1 ⟨rfl, b1⟩
 have hS1 := hS0.mono b1
 have q1 := (hS1.blk 0 rfl).1
 have p1 := (hS1.blk 1 rfl).1
 clear hS0
 go_wp2_with (with_reducible refine wpList_ldS (n := 4) (us := mC m ad cap) A_rmach kR wU wU (by assumption) wU wU ?_)
 refine (HSh.out _).mono ?_
 rintro e w2 ⟨rfl, b2⟩
 have hS2 := hS1.mono b2
 have q2 := (hS2.blk 0 rfl).1
 have p2 := (hS2.blk 1 rfl).1
 clear hS1 q1 p1
 go_wp2_with (with_reducible refine wpList_ldS (n := 4) (us := mC m ad cap) A_rmach kR wU wU (by assumption) wU wU ?_)
 refine (HCK.out _ (hR.below hS2.b) (hL.below hS2.b)).mono ?_
 rintro e w3 ⟨rfl, b3⟩
 have hS3 := hS2.mono b3
 have q3 := (hS3.blk 0 rfl).1
 have p3 := (hS3.blk 1 rfl).1
 clear hS2 q2 p2
 go_wp2_with (with_reducible refine wpList_ldS (n := 4) (us := mC m ad cap) A_mach kR wU wU (by assumption) wU wU ?_)
 refine (HO.out _ (hR.below hS3.b) (hL.below hS3.b)).mono ?_
 rintro e w4 ⟨v4, rfl, ho4, b4⟩
 have hS4 := hS3.call (SL.ofOwn ho4 b4)
 simp only [List.cons_append, List.nil_append] at hS4
 have q4 := (hS4.blk 1 rfl).1
 have p4 := (hS4.blk 2 rfl).1
 clear hS3 q3 p3
 clear ho4 b4
 obtain ⟨aO, cO, rfl, _⟩ := hS4.slice 0 rfl
 go_wp2_with (with_reducible refine wpList_ldS (n := 4) (us := mC m ad cap) A_mach kR wU wU (by assumption) wU wU ?_)
 refine (HX.out _ (hR.below hS4.b) (hL.below hS4.b)).mono ?_
 rintro e w5 ⟨v5, rfl, ho5, b5⟩
 have hS5 := hS4.call (SL.ofOwn ho5 b5)
 simp only [List.cons_append, List.nil_append] at hS5
 have q5 := (hS5.blk 2 rfl).1
 have p5 := (hS5.blk 3 rfl).1
 clear hS4 q4 p4
 clear ho5 b5
 obtain ⟨aX, cX, rfl, _⟩ := hS5.slice 0 rfl
 go_wp2_with (with_reducible refine wpList_ldS (n := 4) (us := mC m ad cap) A_mach kR wU wU (by assumption) wU wU ?_)
 refine (HW.out _ (hR.below hS5.b) (hL.below hS5.b)).mono ?_
 rintro e w6 ⟨v6, rfl, ho6, b6⟩
 have hS6 := hS5.call (SL.ofOwn ho6 b6)
 simp only [List.cons_append, List.nil_append] at hS6
 have q6 := (hS6.blk 3 rfl).1
 have p6 := (hS6.blk 4 rfl).1
 clear hS5 q5 p5
 clear ho6 b6
 obtain ⟨aW, cW, rfl, _⟩ := hS6.slice 0 rfl
 go_wp2_with (with_reducible refine wpList_ldS (n := 4) (us := mC m ad cap) A_mach kR wU wU (by assumption) wU wU ?_)
 refine (HT.out _ (hR.below hS6.b) (hL.below hS6.b)).mono ?_
 rintro e w7 ⟨v7, rfl, ho7, b7⟩
 have hS7 := hS6.call (SL.ofOwn ho7 b7)
 simp only [List.cons_append, List.nil_append] at hS7
 have q7 := (hS7.blk 4 rfl).1
 have p7 := (hS7.blk 5 rfl).1
 clear hS6 q6 p6
 clear ho7 b7
 obtain ⟨aT, cT, rfl, _⟩ := hS7.slice 0 rfl
 go_wp2_with (with_reducible refine wpList_ldS (n := 4) (us := mC m ad cap) A_rmach kR wU wU (by assumption) wU wU ?_)
 refine (HN.out _ (hL.below hS7.b)).mono ?_
 rintro e w8 ⟨rfl, b8⟩
 have hS8 := hS7.mono b8
 have q8 := (hS8.blk 4 rfl).1
 have p8 := (hS8.blk 5 rfl).1
 clear hS7 q7 p7
 go_wp2_with fail
 refine (lwhen_any false 16 w8).mono ?_
 rintro e w' ⟨rfl, rfl⟩
 go_wp2_with (with_reducible refine wpList_ldB F_boolM wU wU p8 wU ?_)
 refine (HRG.out _).mono ?_
 rintro e w' ⟨rfl, rfl⟩
 have hS9 := hS8.al (.cells #[.int .i64 0, .int .i64 0] 3)
 have q9 := (hS9.blk 4 rfl).1
 have p9 := (hS9.blk 5 rfl).1
 clear hS8 q8 p8
 have hS10 := hS9.al (.cells #[.int .i64 0, .int .i64 0] 3)
 have q10 := (hS10.blk 4 rfl).1
 have p10 := (hS10.blk 5 rfl).1
 clear hS9 q9 p9
 go_wp2_with (first | (go_at_call 20; refine (lfirst4_any _ _ [_, _] _ (reps_newN cIntS [_, _] 2 rfl (by decide) _ _ (by simp) rfl) (by simp)).mono ?_; rw [firstE_z, firstE_z, firstE_nil]; rintro e w' ⟨rfl, rfl⟩) | (go_at_call 20; refine (lfirst4_any _ _ [_, _] _ (reps_newN cIntS [_, _] 2 rfl (by decide) _ _ (by simp) rfl) (by simp)).mono ?_; rw [firstE_z, firstE_z, firstE_nil]; rintro e w' ⟨rfl, rfl⟩) | (with_reducible refine wpList_ldS (n := 4) (us := mC m ad cap) A_rmach kR wU wU (by assumption) wU wU ?_))
 refine (HRO.out _ (hL.below hS10.b)).mono ?_
 rintro e w11 ⟨v11, rfl, ho11, b11⟩
 have hS11 := hS10.call (SL.ofOwn ho11 b11)
 simp only [List.cons_append, List.nil_append] at hS11
 have q11 := (hS11.blk 5 rfl).1
 have p11 := (hS11.blk 6 rfl).1
 clear hS10 q10 p10
 clear ho11 b11
 obtain ⟨aQ, cQ, rfl, _⟩ := hS11.slice 0 rfl
 go_wp2_with fail
 refine (llistOk_any aO aQ cO cQ _ OM _ (hS11.rd 4 rfl) (hS11.rd 0 rfl) rfl (by omega)).mono ?_
 rintro e w12 ⟨rfl, b12⟩
 have hS12 := hS11.mono b12
 have q12 := (hS12.blk 5 rfl).1
 have p12 := (hS12.blk 6 rfl).1
 clear hS11 q11 p11
 have hS13 := hS12.al (.cells #[.int .i64 0, .int .i64 0] 3)
 have q13 := (hS13.blk 5 rfl).1
 have p13 := (hS13.blk 6 rfl).1
 clear hS12 q12 p12
 go_wp2_with (go_at_call 20; refine (lfirst4_any _ _ [_, _] _ (reps_newN cIntS [_, _] 2 rfl (by decide) _ _ (by simp) rfl) (by simp)).mono ?_; rw [firstE_z, firstE_z, firstE_nil]; rintro e w' ⟨rfl, rfl⟩)
 refine wp_regionK (C := (fun V => Below w.heap.size w V ∧ V.heap[w.heap.size + 1]? = some (.cells (mC m ad cap) 25))) [0, 1, 2, 3, 4, 5, 6, 7, 8, 9, 10, 11, 12, 13, 14, 15, 16, 17, 18, 19, 21, 22] [_, _, _, _, _, _, _, _, _, _, _, _, _, _, _, _, _, _, _, _, _, _] 7 (by simp only [List.map_cons, List.map_nil, List.getElem?_toArray]; rfl) rfl kR kR kR (⟨hS13.b.drew, q13⟩) ?_
 refine ⟨_, yieldsK_val wU (fun w' => by with_unfolding_all exact rfl), ?_⟩
 go_frame
 refine ⟨.bool false, yieldsK_val wU (fun w' => by first | (go_simp; done) | (go_simp; rfl)), ?_⟩
 go_frame
 refine ⟨_, yieldsK_val wU (fun w' => by with_unfolding_all exact rfl), ?_⟩
 go_frame
 refine ⟨_, .inr (.inl ⟨by with_unfolding_all rfl, rfl⟩), ?_⟩
 go_frame
 refine ⟨_, .inr (.inl ⟨by with_unfolding_all rfl, rfl⟩), ?_⟩
 go_frame
 refine ⟨_, .inr (.inl ⟨by with_unfolding_all rfl, rfl⟩), ?_⟩
 go_frame
 refine ⟨_, .inr (.inl ⟨by with_unfolding_all rfl, rfl⟩), ?_⟩
 go_frame
 refine ⟨_, .inr (.inl ⟨by with_unfolding_all rfl, rfl⟩), ?_⟩
 go_frame
 refine ⟨_, .inr (.inl ⟨by with_unfolding_all rfl, rfl⟩), ?_⟩
 go_frame
 refine ⟨_, .inr (.inl ⟨by with_unfolding_all rfl, rfl⟩), ?_⟩
 go_frame
 refine ⟨_, .inr (.inl ⟨by with_unfolding_all rfl, rfl⟩), ?_⟩
 go_frame
 refine ⟨.bool false, yieldsK_val wU (fun w' => by first | (go_simp; done) | (go_simp; rfl)), ?_⟩
 go_frame
 refine ⟨_, yieldsK_val wU (fun w' => by with_unfolding_all exact rfl), ?_⟩
 go_frame
 refine ⟨_, yieldsK_val wU (fun w' => by with_unfolding_all exact rfl), ?_⟩
 go_frame
 refine ⟨.bool true, yieldsK_val wU (fun w' => by first | (go_simp; done) | (go_simp; rfl)), ?_⟩
 go_frame
 refine ⟨_, yieldsK_val wU (fun w' => by with_unfolding_all exact rfl), ?_⟩
 go_frame
 refine ⟨_, yieldsK_val wU (fun w' => by with_unfolding_all exact rfl), ?_⟩
 go_frame
 refine ⟨.bool false, yieldsK_val wU (fun w' => by first | (go_simp; done) | (go_simp; rfl)), ?_⟩
 go_frame
 refine ⟨_, yieldsK_val wU (fun w' => by with_unfolding_all exact rfl), ?_⟩
 go_frame
 refine ⟨_, yieldsK_val wU (fun w' => by with_unfolding_all exact rfl), ?_⟩
 go_frame
 refine ⟨_, yieldsK_blkC (n := 4) A_rmach kR (fun V h => h.2) rfl wU wU, ?_⟩
 go_frame
 refine ⟨_, yieldsK_val wU (fun w' => by with_unfolding_all exact rfl), ?_⟩
 go_frame
 unfold wpPureK
 have hVd : ∀ V : World, ({ V with drawn := V.drawn + 1 } : World) = V.drew := fun _ => rfl
 simp only [hVd]
 have hS14 := hS13.drew
 have q14 := (hS14.blk 5 rfl).1
 have p14 := (hS14.blk 6 rfl).1
 clear hS13 q13 p13
 refine wpAnyC_on [20] kR (by simp) ?_
 simp only [List.forall_mem_cons, List.not_mem_nil, false_implies, implies_true, and_true]
 refine wpOp_call (f := 24) (args := #[.slice aX XM.length cX]) (by rw [List.getElem?_toArray]; rfl) wU (by first | (go_simp; done) | (simp [execOp, Act.eval, Result.andThen]; done) | (simp [execOp, Act.eval, Result.andThen]; rfl)) ?_
 refine (HLX.out _ _ _ (hS14.rd 3 rfl)).mono ?_
 rintro e w15 ⟨v15, rfl, ho15, b15⟩
 have hS15 := hS14.call (SL.ofOwn ho15 b15)
 simp only [List.cons_append, List.nil_append] at hS15
 have q15 := (hS15.blk 6 rfl).1
 have p15 := (hS15.blk 7 rfl).1
 clear hS14 q14 p14
 clear ho15 b15
 obtain ⟨aY, cY, rfl, _⟩ := hS15.slice 0 rfl
 refine ⟨_, rfl, ⟨hS15.b, q15⟩, ?_⟩
 go_frame
 refine wpAnyC_on [23] kR (by simp) ?_
 simp only [List.forall_mem_cons, List.not_mem_nil, false_implies, implies_true, and_true]
 refine wpOp_call (f := 25) (args := #[mV m ad cap, .slice al l.length cl]) (by rw [List.getElem?_toArray]; rfl) wU (by first | (go_simp; done) | (simp [execOp, Act.eval, Result.andThen]; done) | (simp [execOp, Act.eval, Result.andThen]; rfl)) ?_
 refine (HRX.out _ (hL.below hS15.b)).mono ?_
 rintro e w16 ⟨v16, rfl, ho16, b16⟩
 have hS16 := hS15.call (SL.ofOwn ho16 b16)
 simp only [List.cons_append, List.nil_append] at hS16
 have q16 := (hS16.blk 7 rfl).1
 have p16 := (hS16.blk 8 rfl).1
 clear hS15 q15 p15
 clear ho16 b16
 obtain ⟨aZ, cZ, rfl, _⟩ := hS16.slice 0 rfl
 refine ⟨_, rfl, ⟨hS16.b, q16⟩, ?_⟩
 go_frame
 refine wpAnyC_on [24] kR (by simp) ?_
 simp only [List.forall_mem_cons, List.not_mem_nil, false_implies, implies_true, and_true]
 refine wpOp_call (f := 23) (args := #[.slice aY XM.length cY, .slice aZ XM.length cZ]) (by rw [List.getElem?_toArray]; rfl) wU (by first | (go_simp; done) | (simp [execOp, Act.eval, Result.andThen]; done) | (simp [execOp, Act.eval, Result.andThen]; rfl)) ?_
 refine (SameCrossings_same aY aZ cY cZ _ XM _ (hS16.rd 1 rfl) (hS16.rd 0 rfl) rfl (by omega)).mono ?_
 rintro e w17 ⟨rfl, b17⟩
 have hS17 := hS16.mono b17
 have q17 := (hS17.blk 7 rfl).1
 have p17 := (hS17.blk 8 rfl).1
 clear hS16 q16 p16
 refine ⟨_, rfl, ⟨hS17.b, q17⟩, ?_⟩
 go_frame
 refine wpAnyC_rest [25, 26, 27, 28] [_, _, _, _] rfl (by simp only [List.map_cons, List.map_nil, List.getElem?_toArray]; rfl) kR kR kR (⟨hS17.b, q17⟩) ?_
 repeat (refine ⟨_, .inl ⟨by with_unfolding_all rfl, fun w' _ => by with_unfolding_all exact rfl⟩, ?_⟩; go_frame)
 unfold wpPure
 refine of_wpList_nil (P := Tryz.prog) (ops := #[]) ?_
 go_wp2_with fail
 refine (H5.out _).mono ?_
 rintro e w' ⟨rfl, rfl⟩
 go_wp2_with fail
 refine (H3.out _).mono ?_
 rintro e w' ⟨rfl, rfl⟩
 go_wp2_with fail
 refine (H33.out _).mono ?_
 rintro e w' ⟨rfl, rfl⟩
 have hS18 := hS17.al (.cells #[.int .i64 0, .int .i64 0, .int .i64 0] 3)
 have q18 := (hS18.blk 7 rfl).1
 have p18 := (hS18.blk 8 rfl).1
 clear hS17 q17 p17
 go_wp2_with (first | (go_at_call 20; refine (lfirst4_any _ _ [_, _, _] _ (reps_newN cIntS [_, _, _] 3 rfl (by decide) _ _ (by simp) rfl) (by simp)).mono ?_; rw [firstE_z, firstE_z, firstE_z, firstE_nil]; rintro e w' ⟨rfl, rfl⟩) | (with_reducible refine wpList_ldS (n := 4) (us := mC m ad cap) A_rmach kR wU wU (by assumption) wU wU ?_))
 refine (HME.out _ (hR.below hS18.b) (hL.below hS18.b)).mono ?_
 rintro e w19 ⟨rfl, b19⟩
 have hS19 := hS18.mono b19
 have q19 := (hS19.blk 7 rfl).1
 have p19 := (hS19.blk 8 rfl).1
 clear hS18 q18 p18
 go_wp2_with (with_reducible refine wpList_ldS (n := 4) (us := mC m ad cap) A_rmach kR wU wU (by assumption) wU wU ?_)
 refine (HRW.out _ (hR.below hS19.b) (hL.below hS19.b)).mono ?_
 rintro e w20 ⟨v20, rfl, ho20, b20⟩
 have hS20 := hS19.call (SL.ofOwn ho20 b20)
 simp only [List.cons_append, List.nil_append] at hS20
 have q20 := (hS20.blk 8 rfl).1
 have p20 := (hS20.blk 9 rfl).1
 clear hS19 q19 p19
 clear ho20 b20
 obtain ⟨aV, cV, rfl, _⟩ := hS20.slice 0 rfl
 go_wp2_with fail
 refine (llistBad_any aW aV cW cV 0 26 _ rfl).mono ?_
 rintro e w21 ⟨rfl, b21⟩
 have hS21 := hS20.mono b21
 have q21 := (hS21.blk 8 rfl).1
 have p21 := (hS21.blk 9 rfl).1
 clear hS20 q20 p20
 go_wp2_with (with_reducible refine wpList_ldS (n := 4) (us := mC m ad cap) A_rmach kR wU wU (by assumption) wU wU ?_)
 refine (HRT.out _ (hR.below hS21.b) (hL.below hS21.b)).mono ?_
 rintro e w22 ⟨v22, rfl, ho22, b22⟩
 have hS22 := hS21.call (SL.ofOwn ho22 b22)
 simp only [List.cons_append, List.nil_append] at hS22
 have q22 := (hS22.blk 9 rfl).1
 have p22 := (hS22.blk 10 rfl).1
 clear hS21 q21 p21
 clear ho22 b22
 obtain ⟨aU, cU, rfl, _⟩ := hS22.slice 0 rfl
 go_wp2_with fail
 refine (llistOk_any aT aU cT cU _ TL _ (hS22.rd 5 rfl) (hS22.rd 0 rfl) rfl (by omega)).mono ?_
 rintro e w23 ⟨rfl, b23⟩
 have hS23 := hS22.mono b23
 have q23 := (hS23.blk 9 rfl).1
 have p23 := (hS23.blk 10 rfl).1
 clear hS22 q22 p22
 go_wp2_with fail
 go_ret
 exact ⟨rfl, hS23.b⟩
end Go.Proofs.YtoebgfgihfjnnaaGreatDoor

namespace Go.Proofs.YtoebgfgihfjnnaaGreatDoor
open Go.RowKit
set_option maxHeartbeats 8000000
set_option maxRecDepth 100000
theorem meets_mono {m : MacV} {l : List Int} (h : meetsM m l 0 = true) {n : Int} (hn : 0 ≤ n) : meetsM m l n = true := by
 unfold meetsM at *
 cases hf : firstM m l with
 | none => rw [hf] at h; exact h
 | some v =>
  rw [hf] at h
  simp only [decide_eq_true_eq] at h ⊢
  omega
theorem MachineWords_any (m : MacV) (ad al : Option Addr) (cap cl : Nat) (l : List Int) (n : Int) (w : World) (hR : Ints w ad cap m.sw) (hL : Ints w al cl l) (hI : InI m.gears) (hw : LibW w) :
  Calls Tryz.prog 3 #[mV m ad cap, .slice al l.length cl, .int .i64 n] w fun r w' => r = .returned (.bool true) ∧ Below w.heap.size w w' := by
 by_cases hskip : decide (60 < n) = true ∧ decide (n ≤ 1000) = true
 ·obtain ⟨d60, d61⟩ := hskip
  cases hsb : (decide (m.sw.length ≤ 19) && decide (l.length ≤ 67))
  all_goals
   have hS0 := ((SL.nil w).box (.cells (mC m ad cap) 24)).box (.cells (mC m ad cap) 25)
   simp only [World.size_alloc] at hS0
   have HA := hid awake4_any
   have hlc := hL.le
   have CSh := fun w => rShort_any m ad cap al cl l.length w
   rw [hsb] at CSh
   have HSh := hid CSh
   clear CSh hsb
   go_enter Tryz.func3, Tryz.ntmps3
   go_wp2_with fail
   refine (HA.out _ (hw.below hS0.b)).mono ?_
   rintro e w1 ⟨rfl, b1⟩
   have hS1 := hS0.mono b1
   have q1 := (hS1.blk 0 rfl).1
   have p1 := (hS1.blk 1 rfl).1
   clear hS0
   go_wp2_with (with_reducible refine wpList_ldS (n := 4) (us := mC m ad cap) A_rmach kR wU wU (by assumption) wU wU ?_)
   refine (HSh.out _).mono ?_
   rintro e w2 ⟨rfl, b2⟩
   have hS2 := hS1.mono b2
   have q2 := (hS2.blk 0 rfl).1
   have p2 := (hS2.blk 1 rfl).1
   clear hS1 q1 p1
   go_wp2_with fail
   refine (HA.out _ (hw.below hS2.b)).mono ?_
   rintro e w3 ⟨rfl, b3⟩
   have hS3 := hS2.mono b3
   have q3 := (hS3.blk 0 rfl).1
   have p3 := (hS3.blk 1 rfl).1
   clear hS2 q2 p2
   go_wp2_with fail
   go_ret
   exact ⟨rfl, hS3.b⟩
 ·have hn60 : decide (60 < n) = false ∨ (decide (60 < n) = true ∧ decide (n ≤ 1000) = false) := by
   cases h1 : decide (60 < n)
   ·exact .inl rfl
   ·cases h2 : decide (n ≤ 1000)
    ·exact .inr ⟨rfl, rfl⟩
    ·exact absurd ⟨h1, h2⟩ hskip
  cases hsb : (decide (m.sw.length ≤ 19) && decide (l.length ≤ 67))
  ·rcases hn60 with d60 | ⟨d60, d61⟩
   all_goals
    have hS0 := ((SL.nil w).box (.cells (mC m ad cap) 24)).box (.cells (mC m ad cap) 25)
    simp only [World.size_alloc] at hS0
    have HA := hid awake4_any
    have hlc := hL.le
    have CSh := fun w => rShort_any m ad cap al cl l.length w
    rw [hsb] at CSh
    have HSh := hid CSh
    clear CSh hsb
    go_enter Tryz.func3, Tryz.ntmps3
    go_wp2_with fail
    refine (HA.out _ (hw.below hS0.b)).mono ?_
    rintro e w1 ⟨rfl, b1⟩
    have hS1 := hS0.mono b1
    have q1 := (hS1.blk 0 rfl).1
    have p1 := (hS1.blk 1 rfl).1
    clear hS0
    go_wp2_with (with_reducible refine wpList_ldS (n := 4) (us := mC m ad cap) A_rmach kR wU wU (by assumption) wU wU ?_)
    refine (HSh.out _).mono ?_
    rintro e w2 ⟨rfl, b2⟩
    have hS2 := hS1.mono b2
    have q2 := (hS2.blk 0 rfl).1
    have p2 := (hS2.blk 1 rfl).1
    clear hS1 q1 p1
    go_wp2_with fail
    refine (HA.out _ (hw.below hS2.b)).mono ?_
    rintro e w3 ⟨rfl, b3⟩
    have hS3 := hS2.mono b3
    have q3 := (hS3.blk 0 rfl).1
    have p3 := (hS3.blk 1 rfl).1
    clear hS2 q2 p2
    go_wp2_with fail
    go_ret
    exact ⟨rfl, hS3.b⟩
  ·by_cases he : loadE m l = 0
   ·by_cases h20 : l.length ≤ 20
    ·cases hr : m.ring
     ·cases hnb : meetsM m l 0
      ·by_cases h12 : l.length ≤ 12
       ·by_cases hno : n < 0 ∨ 1000 < n
        ·exact mw_out0 m ad al cap cl l n w hR hL hI hw hsb hn60 he h20 hr hnb h12 hno
        ·cases hme : meetsM m l n
         ·by_cases hlong : 200 < (wrdL m l n).length
          ·exact mw_word1 m ad al cap cl l n w hR hL hI hw hsb hn60 he h20 hr hnb h12 (by omega) (by omega) hme hlong
          ·exact mw_word0 m ad al cap cl l n w hR hL hI hw hsb hn60 he h20 hr hnb h12 (by omega) (by omega) hme hlong
         ·exact mw_meet0 m ad al cap cl l n w hR hL hI hw hsb hn60 he h20 hr hnb h12 (by omega) (by omega) hme
       ·exact mw_five0 m ad al cap cl l n w hR hL hI hw hsb hn60 he h20 hr hnb (by omega)
      ·by_cases h12 : l.length ≤ 12
       ·by_cases hno : n < 0 ∨ 1000 < n
        ·exact mw_out1 m ad al cap cl l n w hR hL hI hw hsb hn60 he h20 hr hnb h12 hno
        ·cases hme : meetsM m l n
         ·exact absurd (meets_mono (n := n) hnb (by omega)) (by rw [hme]; decide)
         ·exact mw_meet1 m ad al cap cl l n w hR hL hI hw hsb hn60 he h20 hr hnb h12 (by omega) (by omega) hme
       ·exact mw_five1 m ad al cap cl l n w hR hL hI hw hsb hn60 he h20 hr hnb (by omega)
     ·cases hnb : meetsM m l 0
      ·exact mw_ring0 m ad al cap cl l n w hR hL hI hw hsb hn60 he h20 hr hnb
      ·exact mw_ring1 m ad al cap cl l n w hR hL hI hw hsb hn60 he h20 hr hnb
    ·exact mw_big m ad al cap cl l n w hR hL hI hw hsb hn60 he (by omega)
   ·exact mw_bad m ad al cap cl l n w hR hL hI hw hsb hn60 he
end Go.Proofs.YtoebgfgihfjnnaaGreatDoor
