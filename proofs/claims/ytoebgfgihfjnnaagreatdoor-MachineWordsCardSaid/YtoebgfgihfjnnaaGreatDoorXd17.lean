/- Contracts and plain facts that the claim uses (K4b QrW). Conditions: as each one states. -/
import Derived.Test.YtoebgfgihfjnnaaGreatDoorXd11
import Derived.Test.YtoebgfgihfjnnaaGreatDoorXd12
import Derived.Test.YtoebgfgihfjnnaaGreatDoorXd16
set_option linter.all false

namespace Go.Proofs.YtoebgfgihfjnnaaGreatDoor
open Go.RowKit
set_option maxHeartbeats 8000000
set_option maxRecDepth 100000
theorem mw_five0 (m : MacV) (ad al : Option Addr) (cap cl : Nat) (l : List Int) (n : Int) (w : World) (hR : Ints w ad cap m.sw) (hL : Ints w al cl l) (hI : InI m.gears) (hw : LibW w) (hsb : (decide (m.sw.length ≤ 19) && decide (l.length ≤ 67)) = true) (hn60 : decide (60 < n) = false ∨ (decide (60 < n) = true ∧ decide (n ≤ 1000) = false)) (he : loadE m l = 0) (h20 : l.length ≤ 20) (hr : m.ring = false) (hnb : meetsM m l 0 = false) (h12 : 12 < l.length) :
  Calls Tryz.prog 3 #[mV m ad cap, .slice al l.length cl, .int .i64 n] w fun r w' => r = .returned (.bool true) ∧ Below w.heap.size w w' := by
 have hS0 := ((SL.nil w).box (.cells (mC m ad cap) 24)).box (.cells (mC m ad cap) 25)
 simp only [World.size_alloc] at hS0
 have HA := hid awake4_any
 have hlc := hL.le
 have CSh := fun w => rShort_any m ad cap al cl l.length w
 rw [hsb] at CSh
 have HSh := hid CSh
 clear CSh hsb
 have CK := fun w h h2 => lcheck_any m ad cap al cl l w h h2
 have KL : ChkL m ad cap al cl l := CheckLoad_any m ad cap al cl l fun w h => CheckMachine_any m ad cap w h hI
 have CO := fun w h h2 => mOrder_any m ad cap al cl l w h h2 KL
 have CX := fun w h h2 => mCrossings_any m ad cap al cl l w h h2 KL
 have CW := fun w h h2 => mWord_any m ad cap al cl l n w h h2 KL
 have CT := fun w h h2 => mStrands_any m ad cap al cl l n w h h2 KL
 have CG : ∀ w, Calls Tryz.prog 18 #[.bool m.ring, .int .i64 13] w fun r w' => r = .returned (.int .i64 (if m.ring then 13 else 0)) ∧ w = w' := fun w => lwhen_any m.ring 13 w
 have C5 : ∀ w, Calls Tryz.prog 18 #[.bool (decide (12 < (l.length : Int))), .int .i64 5] w fun r w' => r = .returned (.int .i64 (if decide (12 < (l.length : Int)) then 5 else 0)) ∧ w = w' := fun w => lwhen_any _ 5 w
 have C3 := fun w => rOutside_any n 0 1000 w
 have C33 : ∀ w, Calls Tryz.prog 18 #[.bool (decide (n < 0) || decide (1000 < n)), .int .i64 3] w fun r w' => r = .returned (.int .i64 (if (decide (n < 0) || decide (1000 < n)) then 3 else 0)) ∧ w = w' := fun w => lwhen_any _ 3 w
 clear KL
 have hlok := loadE_zero he
 have hlo := hlok.ok.lo
 have hhi := hlok.ok.hi
 have hl20 : decide (20 < (l.length : Int)) = false := decide_eq_false (by omega)
 have hn64 : l.length ≤ 64 := by omega
 rw [he] at CK
 have CN := fun w h => rNow_any m ad cap al cl l w h hlo hhi hlok.rng hn64 hlok.nodup
 have CRO := fun w h => rOrder_any m ad cap al cl l w h hlo hhi hlok.rng hn64
 have CRX := fun w h => rCrossings_any m ad cap al cl l w h hlo hhi hlok.rng hn64
 have CLX := fun a c w h => lcrossings_any a c (crossM m l) w h (by have := crossM_len m l; omega)
 have hxl : (crossM m l).length ≤ 48 := by have := crossM_len m l; omega
 have hol : (orderM m l).length ≤ 64 := by have := orderM_len m l; omega
 have hnw : decide (0 ≤ nowM m l) = false := by rw [now_meets hlok]; exact hnb
 have e1 : orderE m l = 0 := by unfold orderE; rw [if_neg (by simp [he]), hr, hnb]; rfl
 have e2 : crossE m l = 0 := by unfold crossE; rw [if_neg (by simp [he]), hnb]; rfl
 rw [e1, if_pos rfl] at CO
 rw [e2, if_pos rfl] at CX
 replace CG : ∀ w, Calls Tryz.prog 18 #[.bool m.ring, .int .i64 13] w fun r w' => r = .returned (.int .i64 0) ∧ w = w' := fun w => by have h := CG w; simp only [hr, Bool.false_eq_true, if_false] at h ⊢; exact h
 have e3 : weaveE m l n = 5 := by unfold weaveE; rw [if_neg (by simp [he]), hr, if_neg (by decide), if_pos (by omega)]; try rfl
 have e4 : wrdE m l n = 5 := by unfold wrdE; rw [e3, if_pos (by decide)]
 rw [e4, if_neg (by decide)] at CW
 rw [e3, if_neg (by decide)] at CT
 rw [decide_eq_true (show 12 < (l.length : Int) by omega)] at C5
 simp only [if_true] at C5
 obtain ⟨x3, hx3⟩ : ∃ x3 : Int, x3 = if (decide (n < 0) || decide (1000 < n)) then 3 else 0 := ⟨_, rfl⟩
 rw [← hx3] at C33
 clear hx3
 have h12 : decide (12 < (l.length : Int)) = true := decide_eq_true (by omega)
 obtain ⟨OM, hOM⟩ : ∃ OM, OM = orderM m l := ⟨_, rfl⟩
 obtain ⟨XM, hXM⟩ : ∃ XM, XM = crossM m l := ⟨_, rfl⟩
 obtain ⟨NW, hNW⟩ : ∃ NW, NW = nowM m l := ⟨_, rfl⟩
 rw [← hNW] at CN hnw
 rw [← hOM] at CRO hol
 rw [← hXM] at CRX CLX hxl
 rw [← hOM] at CO
 rw [← hXM] at CX
 have HN := hid CN; have HRO := hid CRO; have HRX := hid CRX; have HLX := hid CLX
 clear CN CRO CRX CLX hOM hXM hNW e1 e2 e3 e4 hlok he hr hnb hlo hhi
 have HCK := hid CK; have HO := hid CO; have HX := hid CX; have HW := hid CW; have HT := hid CT; have HRG := hid CG; have H5 := hid C5; have H3 := hid C3; have H33 := hid C33
 clear CK CO CX CW CT CG C5 C3 C33 hI
 rcases hn60 with d60 | ⟨d60, d61⟩
 all_goals
  go_enter Tryz.func3, Tryz.ntmps3
  go_wp2_with fail
  refine (HA.out _ (hw.below hS0.b)).mono ?_
  rintro e w1 ⟨rfl, b1⟩
  have hS1 := hS0.mono b1
  have q1 := (hS1.blk 0 rfl).1
  have p1 := (hS1.blk 1 rfl).1
  clear hS0
  go_wp2_with (with_reducible refine wpList_ldS (n := 4) (us := mC m ad cap) A_rmach kR wU wU (by assumption) wU wU ?_)
  refine (HSh.out _).mono ?_
  rintro e w2 ⟨rfl, b2⟩
  have hS2 := hS1.mono b2
  have q2 := (hS2.blk 0 rfl).1
  have p2 := (hS2.blk 1 rfl).1
  clear hS1 q1 p1
  go_wp2_with (with_reducible refine wpList_ldS (n := 4) (us := mC m ad cap) A_rmach kR wU wU (by assumption) wU wU ?_)
  refine (HCK.out _ (hR.below hS2.b) (hL.below hS2.b)).mono ?_
  rintro e w3 ⟨rfl, b3⟩
  have hS3 := hS2.mono b3
  have q3 := (hS3.blk 0 rfl).1
  have p3 := (hS3.blk 1 rfl).1
  clear hS2 q2 p2
  go_wp2_with (with_reducible refine wpList_ldS (n := 4) (us := mC m ad cap) A_mach kR wU wU (by assumption) wU wU ?_)
  refine (HO.out _ (hR.below hS3.b) (hL.below hS3.b)).mono ?_
  rintro e w4 ⟨v4, rfl, ho4, b4⟩
  have hS4 := hS3.call (SL.ofOwn ho4 b4)
  simp only [List.cons_append, List.nil_append] at hS4
  have q4 := (hS4.blk 1 rfl).1
  have p4 := (hS4.blk 2 rfl).1
  clear hS3 q3 p3
  clear ho4 b4
  obtain ⟨aO, cO, rfl, _⟩ := hS4.slice 0 rfl
  go_wp2_with (with_reducible refine wpList_ldS (n := 4) (us := mC m ad cap) A_mach kR wU wU (by assumption) wU wU ?_)
  refine (HX.out _ (hR.below hS4.b) (hL.below hS4.b)).mono ?_
  rintro e w5 ⟨v5, rfl, ho5, b5⟩
  have hS5 := hS4.call (SL.ofOwn ho5 b5)
  simp only [List.cons_append, List.nil_append] at hS5
  have q5 := (hS5.blk 2 rfl).1
  have p5 := (hS5.blk 3 rfl).1
  clear hS4 q4 p4
  clear ho5 b5
  obtain ⟨aX, cX, rfl, _⟩ := hS5.slice 0 rfl
  go_wp2_with (with_reducible refine wpList_ldS (n := 4) (us := mC m ad cap) A_mach kR wU wU (by assumption) wU wU ?_)
  refine (HW.out _ (hR.below hS5.b) (hL.below hS5.b)).mono ?_
  rintro e w6 ⟨v6, rfl, ho6, b6⟩
  have hS6 := hS5.call (SL.ofOwn ho6 b6)
  simp only [List.cons_append, List.nil_append] at hS6
  have q6 := (hS6.blk 3 rfl).1
  have p6 := (hS6.blk 4 rfl).1
  clear hS5 q5 p5
  clear ho6 b6
  obtain ⟨aW, cW, rfl, _⟩ := hS6.slice 0 rfl
  go_wp2_with (with_reducible refine wpList_ldS (n := 4) (us := mC m ad cap) A_mach kR wU wU (by assumption) wU wU ?_)
  refine (HT.out _ (hR.below hS6.b) (hL.below hS6.b)).mono ?_
  rintro e w7 ⟨v7, rfl, ho7, b7⟩
  have hS7 := hS6.call (SL.ofOwn ho7 b7)
  simp only [List.cons_append, List.nil_append] at hS7
  have q7 := (hS7.blk 4 rfl).1
  have p7 := (hS7.blk 5 rfl).1
  clear hS6 q6 p6
  clear ho7 b7
  obtain ⟨aT, cT, rfl, _⟩ := hS7.slice 0 rfl
  go_wp2_with (with_reducible refine wpList_ldS (n := 4) (us := mC m ad cap) A_rmach kR wU wU (by assumption) wU wU ?_)
  refine (HN.out _ (hL.below hS7.b)).mono ?_
  rintro e w8 ⟨rfl, b8⟩
  have hS8 := hS7.mono b8
  have q8 := (hS8.blk 4 rfl).1
  have p8 := (hS8.blk 5 rfl).1
  clear hS7 q7 p7
  go_wp2_with fail
  refine (lwhen_any false 16 w8).mono ?_
  rintro e w' ⟨rfl, rfl⟩
  go_wp2_with (with_reducible refine wpList_ldB F_boolM wU wU p8 wU ?_)
  refine (HRG.out _).mono ?_
  rintro e w' ⟨rfl, rfl⟩
  have hS9 := hS8.al (.cells #[.int .i64 0, .int .i64 0] 3)
  have q9 := (hS9.blk 4 rfl).1
  have p9 := (hS9.blk 5 rfl).1
  clear hS8 q8 p8
  have hS10 := hS9.al (.cells #[.int .i64 0, .int .i64 0] 3)
  have q10 := (hS10.blk 4 rfl).1
  have p10 := (hS10.blk 5 rfl).1
  clear hS9 q9 p9
  go_wp2_with (first | (go_at_call 20; refine (lfirst4_any _ _ [_, _] _ (reps_newN cIntS [_, _] 2 rfl (by decide) _ _ (by simp) rfl) (by simp)).mono ?_; rw [firstE_z, firstE_z, firstE_nil]; rintro e w' ⟨rfl, rfl⟩) | (go_at_call 20; refine (lfirst4_any _ _ [_, _] _ (reps_newN cIntS [_, _] 2 rfl (by decide) _ _ (by simp) rfl) (by simp)).mono ?_; rw [firstE_z, firstE_z, firstE_nil]; rintro e w' ⟨rfl, rfl⟩) | (with_reducible refine wpList_ldS (n := 4) (us := mC m ad cap) A_rmach kR wU wU (by assumption) wU wU ?_))
  refine (HRO.out _ (hL.below hS10.b)).mono ?_
  rintro e w11 ⟨v11, rfl, ho11, b11⟩
  have hS11 := hS10.call (SL.ofOwn ho11 b11)
  simp only [List.cons_append, List.nil_append] at hS11
  have q11 := (hS11.blk 5 rfl).1
  have p11 := (hS11.blk 6 rfl).1
  clear hS10 q10 p10
  clear ho11 b11
  obtain ⟨aQ, cQ, rfl, _⟩ := hS11.slice 0 rfl
  go_wp2_with fail
  refine (llistOk_any aO aQ cO cQ _ OM _ (hS11.rd 4 rfl) (hS11.rd 0 rfl) rfl (by omega)).mono ?_
  rintro e w12 ⟨rfl, b12⟩
  have hS12 := hS11.mono b12
  have q12 := (hS12.blk 5 rfl).1
  have p12 := (hS12.blk 6 rfl).1
  clear hS11 q11 p11
  have hS13 := hS12.al (.cells #[.int .i64 0, .int .i64 0] 3)
  have q13 := (hS13.blk 5 rfl).1
  have p13 := (hS13.blk 6 rfl).1
  clear hS12 q12 p12
  go_wp2_with (go_at_call 20; refine (lfirst4_any _ _ [_, _] _ (reps_newN cIntS [_, _] 2 rfl (by decide) _ _ (by simp) rfl) (by simp)).mono ?_; rw [firstE_z, firstE_z, firstE_nil]; rintro e w' ⟨rfl, rfl⟩)
  refine wp_regionK (C := (fun V => Below w.heap.size w V ∧ V.heap[w.heap.size + 1]? = some (.cells (mC m ad cap) 25))) [0, 1, 2, 3, 4, 5, 6, 7, 8, 9, 10, 11, 12, 13, 14, 15, 16, 17, 18, 19, 21, 22] [_, _, _, _, _, _, _, _, _, _, _, _, _, _, _, _, _, _, _, _, _, _] 7 (by simp only [List.map_cons, List.map_nil, List.getElem?_toArray]; rfl) rfl kR kR kR (⟨hS13.b.drew, q13⟩) ?_
  refine ⟨_, yieldsK_val wU (fun w' => by with_unfolding_all exact rfl), ?_⟩
  go_frame
  refine ⟨.bool false, yieldsK_val wU (fun w' => by first | (go_simp; done) | (go_simp; rfl)), ?_⟩
  go_frame
  refine ⟨_, yieldsK_val wU (fun w' => by with_unfolding_all exact rfl), ?_⟩
  go_frame
  refine ⟨_, .inr (.inl ⟨by with_unfolding_all rfl, rfl⟩), ?_⟩
  go_frame
  refine ⟨_, .inr (.inl ⟨by with_unfolding_all rfl, rfl⟩), ?_⟩
  go_frame
  refine ⟨_, .inr (.inl ⟨by with_unfolding_all rfl, rfl⟩), ?_⟩
  go_frame
  refine ⟨_, .inr (.inl ⟨by with_unfolding_all rfl, rfl⟩), ?_⟩
  go_frame
  refine ⟨_, .inr (.inl ⟨by with_unfolding_all rfl, rfl⟩), ?_⟩
  go_frame
  refine ⟨_, .inr (.inl ⟨by with_unfolding_all rfl, rfl⟩), ?_⟩
  go_frame
  refine ⟨_, .inr (.inl ⟨by with_unfolding_all rfl, rfl⟩), ?_⟩
  go_frame
  refine ⟨_, .inr (.inl ⟨by with_unfolding_all rfl, rfl⟩), ?_⟩
  go_frame
  refine ⟨.bool false, yieldsK_val wU (fun w' => by first | (go_simp; done) | (go_simp; rfl)), ?_⟩
  go_frame
  refine ⟨_, yieldsK_val wU (fun w' => by with_unfolding_all exact rfl), ?_⟩
  go_frame
  refine ⟨_, yieldsK_val wU (fun w' => by with_unfolding_all exact rfl), ?_⟩
  go_frame
  refine ⟨.bool true, yieldsK_val wU (fun w' => by first | (go_simp; done) | (go_simp; rfl)), ?_⟩
  go_frame
  refine ⟨_, yieldsK_val wU (fun w' => by with_unfolding_all exact rfl), ?_⟩
  go_frame
  refine ⟨_, yieldsK_val wU (fun w' => by with_unfolding_all exact rfl), ?_⟩
  go_frame
  refine ⟨.bool false, yieldsK_val wU (fun w' => by first | (go_simp; done) | (go_simp; rfl)), ?_⟩
  go_frame
  refine ⟨_, yieldsK_val wU (fun w' => by with_unfolding_all exact rfl), ?_⟩
  go_frame
  refine ⟨_, yieldsK_val wU (fun w' => by with_unfolding_all exact rfl), ?_⟩
  go_frame
  refine ⟨_, yieldsK_blkC (n := 4) A_rmach kR (fun V h => h.2) rfl wU wU, ?_⟩
  go_frame
  refine ⟨_, yieldsK_val wU (fun w' => by with_unfolding_all exact rfl), ?_⟩
  go_frame
  unfold wpPureK
  have hVd : ∀ V : World, ({ V with drawn := V.drawn + 1 } : World) = V.drew := fun _ => rfl
  simp only [hVd]
  have hS14 := hS13.drew
  have q14 := (hS14.blk 5 rfl).1
  have p14 := (hS14.blk 6 rfl).1
  clear hS13 q13 p13
  refine wpAnyC_on [20] kR (by simp) ?_
  simp only [List.forall_mem_cons, List.not_mem_nil, false_implies, implies_true, and_true]
  refine wpOp_call (f := 24) (args := #[.slice aX XM.length cX]) (by rw [List.getElem?_toArray]; rfl) wU (by first | (go_simp; done) | (simp [execOp, Act.eval, Result.andThen]; done) | (simp [execOp, Act.eval, Result.andThen]; rfl)) ?_
  refine (HLX.out _ _ _ (hS14.rd 3 rfl)).mono ?_
  rintro e w15 ⟨v15, rfl, ho15, b15⟩
  have hS15 := hS14.call (SL.ofOwn ho15 b15)
  simp only [List.cons_append, List.nil_append] at hS15
  have q15 := (hS15.blk 6 rfl).1
  have p15 := (hS15.blk 7 rfl).1
  clear hS14 q14 p14
  clear ho15 b15
  obtain ⟨aY, cY, rfl, _⟩ := hS15.slice 0 rfl
  refine ⟨_, rfl, ⟨hS15.b, q15⟩, ?_⟩
  go_frame
  refine wpAnyC_on [23] kR (by simp) ?_
  simp only [List.forall_mem_cons, List.not_mem_nil, false_implies, implies_true, and_true]
  refine wpOp_call (f := 25) (args := #[mV m ad cap, .slice al l.length cl]) (by rw [List.getElem?_toArray]; rfl) wU (by first | (go_simp; done) | (simp [execOp, Act.eval, Result.andThen]; done) | (simp [execOp, Act.eval, Result.andThen]; rfl)) ?_
  refine (HRX.out _ (hL.below hS15.b)).mono ?_
  rintro e w16 ⟨v16, rfl, ho16, b16⟩
  have hS16 := hS15.call (SL.ofOwn ho16 b16)
  simp only [List.cons_append, List.nil_append] at hS16
  have q16 := (hS16.blk 7 rfl).1
  have p16 := (hS16.blk 8 rfl).1
  clear hS15 q15 p15
  clear ho16 b16
  obtain ⟨aZ, cZ, rfl, _⟩ := hS16.slice 0 rfl
  refine ⟨_, rfl, ⟨hS16.b, q16⟩, ?_⟩
  go_frame
  refine wpAnyC_on [24] kR (by simp) ?_
  simp only [List.forall_mem_cons, List.not_mem_nil, false_implies, implies_true, and_true]
  refine wpOp_call (f := 23) (args := #[.slice aY XM.length cY, .slice aZ XM.length cZ]) (by rw [List.getElem?_toArray]; rfl) wU (by first | (go_simp; done) | (simp [execOp, Act.eval, Result.andThen]; done) | (simp [execOp, Act.eval, Result.andThen]; rfl)) ?_
  refine (SameCrossings_same aY aZ cY cZ _ XM _ (hS16.rd 1 rfl) (hS16.rd 0 rfl) rfl (by omega)).mono ?_
  rintro e w17 ⟨rfl, b17⟩
  have hS17 := hS16.mono b17
  have q17 := (hS17.blk 7 rfl).1
  have p17 := (hS17.blk 8 rfl).1
  clear hS16 q16 p16
  refine ⟨_, rfl, ⟨hS17.b, q17⟩, ?_⟩
  go_frame
  refine wpAnyC_rest [25, 26, 27, 28] [_, _, _, _] rfl (by simp only [List.map_cons, List.map_nil, List.getElem?_toArray]; rfl) kR kR kR (⟨hS17.b, q17⟩) ?_
  repeat (refine ⟨_, .inl ⟨by with_unfolding_all rfl, fun w' _ => by with_unfolding_all exact rfl⟩, ?_⟩; go_frame)
  unfold wpPure
  refine of_wpList_nil (P := Tryz.prog) (ops := #[]) ?_
  go_wp2_with fail
  refine (H5.out _).mono ?_
  rintro e w' ⟨rfl, rfl⟩
  go_wp2_with fail
  refine (H3.out _).mono ?_
  rintro e w' ⟨rfl, rfl⟩
  go_wp2_with fail
  refine (H33.out _).mono ?_
  rintro e w' ⟨rfl, rfl⟩
  have hS18 := hS17.al (.cells #[.int .i64 0, .int .i64 5, .int .i64 x3] 3)
  have q18 := (hS18.blk 7 rfl).1
  have p18 := (hS18.blk 8 rfl).1
  clear hS17 q17 p17
  go_wp2_with (go_at_call 20; refine (lfirst4_any _ _ [_, _, _] _ (reps_newN cIntS [_, _, _] 3 rfl (by decide) _ _ (by simp) rfl) (by simp)).mono ?_; rw [firstE_z, firstE_head (by decide)]; rintro e w' ⟨rfl, rfl⟩)
  refine (llistBad_any aW none cW 0 0 5 _ rfl).mono ?_
  rintro e w19 ⟨rfl, b19⟩
  have hS19 := hS18.mono b19
  have q19 := (hS19.blk 7 rfl).1
  have p19 := (hS19.blk 8 rfl).1
  clear hS18 q18 p18
  go_wp2_with fail
  refine (llistBad_any aT none cT 0 0 5 _ rfl).mono ?_
  rintro e w20 ⟨rfl, b20⟩
  have hS20 := hS19.mono b20
  have q20 := (hS20.blk 7 rfl).1
  have p20 := (hS20.blk 8 rfl).1
  clear hS19 q19 p19
  go_wp2_with fail
  go_ret
  exact ⟨rfl, hS20.b⟩
theorem mw_out0 (m : MacV) (ad al : Option Addr) (cap cl : Nat) (l : List Int) (n : Int) (w : World) (hR : Ints w ad cap m.sw) (hL : Ints w al cl l) (hI : InI m.gears) (hw : LibW w) (hsb : (decide (m.sw.length ≤ 19) && decide (l.length ≤ 67)) = true) (hn60 : decide (60 < n) = false ∨ (decide (60 < n) = true ∧ decide (n ≤ 1000) = false)) (he : loadE m l = 0) (h20 : l.length ≤ 20) (hr : m.ring = false) (hnb : meetsM m l 0 = false) (h12 : l.length ≤ 12) (hno : n < 0 ∨ 1000 < n) :
  Calls Tryz.prog 3 #[mV m ad cap, .slice al l.length cl, .int .i64 n] w fun r w' => r = .returned (.bool true) ∧ Below w.heap.size w w' := by
 have hS0 := ((SL.nil w).box (.cells (mC m ad cap) 24)).box (.cells (mC m ad cap) 25)
 simp only [World.size_alloc] at hS0
 have HA := hid awake4_any
 have hlc := hL.le
 have CSh := fun w => rShort_any m ad cap al cl l.length w
 rw [hsb] at CSh
 have HSh := hid CSh
 clear CSh hsb
 have CK := fun w h h2 => lcheck_any m ad cap al cl l w h h2
 have KL : ChkL m ad cap al cl l := CheckLoad_any m ad cap al cl l fun w h => CheckMachine_any m ad cap w h hI
 have CO := fun w h h2 => mOrder_any m ad cap al cl l w h h2 KL
 have CX := fun w h h2 => mCrossings_any m ad cap al cl l w h h2 KL
 have CW := fun w h h2 => mWord_any m ad cap al cl l n w h h2 KL
 have CT := fun w h h2 => mStrands_any m ad cap al cl l n w h h2 KL
 have CG : ∀ w, Calls Tryz.prog 18 #[.bool m.ring, .int .i64 13] w fun r w' => r = .returned (.int .i64 (if m.ring then 13 else 0)) ∧ w = w' := fun w => lwhen_any m.ring 13 w
 have C5 : ∀ w, Calls Tryz.prog 18 #[.bool (decide (12 < (l.length : Int))), .int .i64 5] w fun r w' => r = .returned (.int .i64 (if decide (12 < (l.length : Int)) then 5 else 0)) ∧ w = w' := fun w => lwhen_any _ 5 w
 have C3 := fun w => rOutside_any n 0 1000 w
 have C33 : ∀ w, Calls Tryz.prog 18 #[.bool (decide (n < 0) || decide (1000 < n)), .int .i64 3] w fun r w' => r = .returned (.int .i64 (if (decide (n < 0) || decide (1000 < n)) then 3 else 0)) ∧ w = w' := fun w => lwhen_any _ 3 w
 clear KL
 have hlok := loadE_zero he
 have hlo := hlok.ok.lo
 have hhi := hlok.ok.hi
 have hl20 : decide (20 < (l.length : Int)) = false := decide_eq_false (by omega)
 have hn64 : l.length ≤ 64 := by omega
 rw [he] at CK
 have CN := fun w h => rNow_any m ad cap al cl l w h hlo hhi hlok.rng hn64 hlok.nodup
 have CRO := fun w h => rOrder_any m ad cap al cl l w h hlo hhi hlok.rng hn64
 have CRX := fun w h => rCrossings_any m ad cap al cl l w h hlo hhi hlok.rng hn64
 have CLX := fun a c w h => lcrossings_any a c (crossM m l) w h (by have := crossM_len m l; omega)
 have hxl : (crossM m l).length ≤ 48 := by have := crossM_len m l; omega
 have hol : (orderM m l).length ≤ 64 := by have := orderM_len m l; omega
 have hnw : decide (0 ≤ nowM m l) = false := by rw [now_meets hlok]; exact hnb
 have e1 : orderE m l = 0 := by unfold orderE; rw [if_neg (by simp [he]), hr, hnb]; rfl
 have e2 : crossE m l = 0 := by unfold crossE; rw [if_neg (by simp [he]), hnb]; rfl
 rw [e1, if_pos rfl] at CO
 rw [e2, if_pos rfl] at CX
 replace CG : ∀ w, Calls Tryz.prog 18 #[.bool m.ring, .int .i64 13] w fun r w' => r = .returned (.int .i64 0) ∧ w = w' := fun w => by have h := CG w; simp only [hr, Bool.false_eq_true, if_false] at h ⊢; exact h
 have e3 : weaveE m l n = 3 := by unfold weaveE; rw [if_neg (by simp [he]), hr, if_neg (by decide), if_neg (by omega), if_pos (by omega)]; try rfl
 have e4 : wrdE m l n = 3 := by unfold wrdE; rw [e3, if_pos (by decide)]
 rw [e4, if_neg (by decide)] at CW
 rw [e3, if_neg (by decide)] at CT
 rw [decide_eq_false (show ¬ 12 < (l.length : Int) by omega)] at C5
 simp only [Bool.false_eq_true, if_false] at C5
 have h12 : decide (12 < (l.length : Int)) = false := decide_eq_false (by omega)
 have hout : (decide (n < 0) || decide (1000 < n)) = true := by simp; omega
 rw [hout] at C33 C3
 simp only [if_true] at C33
 obtain ⟨OM, hOM⟩ : ∃ OM, OM = orderM m l := ⟨_, rfl⟩
 obtain ⟨XM, hXM⟩ : ∃ XM, XM = crossM m l := ⟨_, rfl⟩
 obtain ⟨NW, hNW⟩ : ∃ NW, NW = nowM m l := ⟨_, rfl⟩
 rw [← hNW] at CN hnw
 rw [← hOM] at CRO hol
 rw [← hXM] at CRX CLX hxl
 rw [← hOM] at CO
 rw [← hXM] at CX
 have HN := hid CN; have HRO := hid CRO; have HRX := hid CRX; have HLX := hid CLX
 clear CN CRO CRX CLX hOM hXM hNW e1 e2 e3 e4 hlok he hr hnb hlo hhi
 have HCK := hid CK; have HO := hid CO; have HX := hid CX; have HW := hid CW; have HT := hid CT; have HRG := hid CG; have H5 := hid C5; have H3 := hid C3; have H33 := hid C33
 clear CK CO CX CW CT CG C5 C3 C33 hI
 rcases hn60 with d60 | ⟨d60, d61⟩
 all_goals
  go_enter Tryz.func3, Tryz.ntmps3
  go_wp2_with fail
  refine (HA.out _ (hw.below hS0.b)).mono ?_
  rintro e w1 ⟨rfl, b1⟩
  have hS1 := hS0.mono b1
  have q1 := (hS1.blk 0 rfl).1
  have p1 := (hS1.blk 1 rfl).1
  clear hS0
  go_wp2_with (with_reducible refine wpList_ldS (n := 4) (us := mC m ad cap) A_rmach kR wU wU (by assumption) wU wU ?_)
  refine (HSh.out _).mono ?_
  rintro e w2 ⟨rfl, b2⟩
  have hS2 := hS1.mono b2
  have q2 := (hS2.blk 0 rfl).1
  have p2 := (hS2.blk 1 rfl).1
  clear hS1 q1 p1
  go_wp2_with (with_reducible refine wpList_ldS (n := 4) (us := mC m ad cap) A_rmach kR wU wU (by assumption) wU wU ?_)
  refine (HCK.out _ (hR.below hS2.b) (hL.below hS2.b)).mono ?_
  rintro e w3 ⟨rfl, b3⟩
  have hS3 := hS2.mono b3
  have q3 := (hS3.blk 0 rfl).1
  have p3 := (hS3.blk 1 rfl).1
  clear hS2 q2 p2
  go_wp2_with (with_reducible refine wpList_ldS (n := 4) (us := mC m ad cap) A_mach kR wU wU (by assumption) wU wU ?_)
  refine (HO.out _ (hR.below hS3.b) (hL.below hS3.b)).mono ?_
  rintro e w4 ⟨v4, rfl, ho4, b4⟩
  have hS4 := hS3.call (SL.ofOwn ho4 b4)
  simp only [List.cons_append, List.nil_append] at hS4
  have q4 := (hS4.blk 1 rfl).1
  have p4 := (hS4.blk 2 rfl).1
  clear hS3 q3 p3
  clear ho4 b4
  obtain ⟨aO, cO, rfl, _⟩ := hS4.slice 0 rfl
  go_wp2_with (with_reducible refine wpList_ldS (n := 4) (us := mC m ad cap) A_mach kR wU wU (by assumption) wU wU ?_)
  refine (HX.out _ (hR.below hS4.b) (hL.below hS4.b)).mono ?_
  rintro e w5 ⟨v5, rfl, ho5, b5⟩
  have hS5 := hS4.call (SL.ofOwn ho5 b5)
  simp only [List.cons_append, List.nil_append] at hS5
  have q5 := (hS5.blk 2 rfl).1
  have p5 := (hS5.blk 3 rfl).1
  clear hS4 q4 p4
  clear ho5 b5
  obtain ⟨aX, cX, rfl, _⟩ := hS5.slice 0 rfl
  go_wp2_with (with_reducible refine wpList_ldS (n := 4) (us := mC m ad cap) A_mach kR wU wU (by assumption) wU wU ?_)
  refine (HW.out _ (hR.below hS5.b) (hL.below hS5.b)).mono ?_
  rintro e w6 ⟨v6, rfl, ho6, b6⟩
  have hS6 := hS5.call (SL.ofOwn ho6 b6)
  simp only [List.cons_append, List.nil_append] at hS6
  have q6 := (hS6.blk 3 rfl).1
  have p6 := (hS6.blk 4 rfl).1
  clear hS5 q5 p5
  clear ho6 b6
  obtain ⟨aW, cW, rfl, _⟩ := hS6.slice 0 rfl
  go_wp2_with (with_reducible refine wpList_ldS (n := 4) (us := mC m ad cap) A_mach kR wU wU (by assumption) wU wU ?_)
  refine (HT.out _ (hR.below hS6.b) (hL.below hS6.b)).mono ?_
  rintro e w7 ⟨v7, rfl, ho7, b7⟩
  have hS7 := hS6.call (SL.ofOwn ho7 b7)
  simp only [List.cons_append, List.nil_append] at hS7
  have q7 := (hS7.blk 4 rfl).1
  have p7 := (hS7.blk 5 rfl).1
  clear hS6 q6 p6
  clear ho7 b7
  obtain ⟨aT, cT, rfl, _⟩ := hS7.slice 0 rfl
  go_wp2_with (with_reducible refine wpList_ldS (n := 4) (us := mC m ad cap) A_rmach kR wU wU (by assumption) wU wU ?_)
  refine (HN.out _ (hL.below hS7.b)).mono ?_
  rintro e w8 ⟨rfl, b8⟩
  have hS8 := hS7.mono b8
  have q8 := (hS8.blk 4 rfl).1
  have p8 := (hS8.blk 5 rfl).1
  clear hS7 q7 p7
  go_wp2_with fail
  refine (lwhen_any false 16 w8).mono ?_
  rintro e w' ⟨rfl, rfl⟩
  go_wp2_with (with_reducible refine wpList_ldB F_boolM wU wU p8 wU ?_)
  refine (HRG.out _).mono ?_
  rintro e w' ⟨rfl, rfl⟩
  have hS9 := hS8.al (.cells #[.int .i64 0, .int .i64 0] 3)
  have q9 := (hS9.blk 4 rfl).1
  have p9 := (hS9.blk 5 rfl).1
  clear hS8 q8 p8
  have hS10 := hS9.al (.cells #[.int .i64 0, .int .i64 0] 3)
  have q10 := (hS10.blk 4 rfl).1
  have p10 := (hS10.blk 5 rfl).1
  clear hS9 q9 p9
  go_wp2_with (first | (go_at_call 20; refine (lfirst4_any _ _ [_, _] _ (reps_newN cIntS [_, _] 2 rfl (by decide) _ _ (by simp) rfl) (by simp)).mono ?_; rw [firstE_z, firstE_z, firstE_nil]; rintro e w' ⟨rfl, rfl⟩) | (go_at_call 20; refine (lfirst4_any _ _ [_, _] _ (reps_newN cIntS [_, _] 2 rfl (by decide) _ _ (by simp) rfl) (by simp)).mono ?_; rw [firstE_z, firstE_z, firstE_nil]; rintro e w' ⟨rfl, rfl⟩) | (with_reducible refine wpList_ldS (n := 4) (us := mC m ad cap) A_rmach kR wU wU (by assumption) wU wU ?_))
  refine (HRO.out _ (hL.below hS10.b)).mono ?_
  rintro e w11 ⟨v11, rfl, ho11, b11⟩
  have hS11 := hS10.call (SL.ofOwn ho11 b11)
  simp only [List.cons_append, List.nil_append] at hS11
  have q11 := (hS11.blk 5 rfl).1
  have p11 := (hS11.blk 6 rfl).1
  clear hS10 q10 p10
  clear ho11 b11
  obtain ⟨aQ, cQ, rfl, _⟩ := hS11.slice 0 rfl
  go_wp2_with fail
  refine (llistOk_any aO aQ cO cQ _ OM _ (hS11.rd 4 rfl) (hS11.rd 0 rfl) rfl (by omega)).mono ?_
  rintro e w12 ⟨rfl, b12⟩
  have hS12 := hS11.mono b12
  have q12 := (hS12.blk 5 rfl).1
  have p12 := (hS12.blk 6 rfl).1
  clear hS11 q11 p11
  have hS13 := hS12.al (.cells #[.int .i64 0, .int .i64 0] 3)
  have q13 := (hS13.blk 5 rfl).1
  have p13 := (hS13.blk 6 rfl).1
  clear hS12 q12 p12
  go_wp2_with (go_at_call 20; refine (lfirst4_any _ _ [_, _] _ (reps_newN cIntS [_, _] 2 rfl (by decide) _ _ (by simp) rfl) (by simp)).mono ?_; rw [firstE_z, firstE_z, firstE_nil]; rintro e w' ⟨rfl, rfl⟩)
  refine wp_regionK (C := (fun V => Below w.heap.size w V ∧ V.heap[w.heap.size + 1]? = some (.cells (mC m ad cap) 25))) [0, 1, 2, 3, 4, 5, 6, 7, 8, 9, 10, 11, 12, 13, 14, 15, 16, 17, 18, 19, 21, 22] [_, _, _, _, _, _, _, _, _, _, _, _, _, _, _, _, _, _, _, _, _, _] 7 (by simp only [List.map_cons, List.map_nil, List.getElem?_toArray]; rfl) rfl kR kR kR (⟨hS13.b.drew, q13⟩) ?_
  refine ⟨_, yieldsK_val wU (fun w' => by with_unfolding_all exact rfl), ?_⟩
  go_frame
  refine ⟨.bool false, yieldsK_val wU (fun w' => by first | (go_simp; done) | (go_simp; rfl)), ?_⟩
  go_frame
  refine ⟨_, yieldsK_val wU (fun w' => by with_unfolding_all exact rfl), ?_⟩
  go_frame
  refine ⟨_, .inr (.inl ⟨by with_unfolding_all rfl, rfl⟩), ?_⟩
  go_frame
  refine ⟨_, .inr (.inl ⟨by with_unfolding_all rfl, rfl⟩), ?_⟩
  go_frame
  refine ⟨_, .inr (.inl ⟨by with_unfolding_all rfl, rfl⟩), ?_⟩
  go_frame
  refine ⟨_, .inr (.inl ⟨by with_unfolding_all rfl, rfl⟩), ?_⟩
  go_frame
  refine ⟨_, .inr (.inl ⟨by with_unfolding_all rfl, rfl⟩), ?_⟩
  go_frame
  refine ⟨_, .inr (.inl ⟨by with_unfolding_all rfl, rfl⟩), ?_⟩
  go_frame
  refine ⟨_, .inr (.inl ⟨by with_unfolding_all rfl, rfl⟩), ?_⟩
  go_frame
  refine ⟨_, .inr (.inl ⟨by with_unfolding_all rfl, rfl⟩), ?_⟩
  go_frame
  refine ⟨.bool false, yieldsK_val wU (fun w' => by first | (go_simp; done) | (go_simp; rfl)), ?_⟩
  go_frame
  refine ⟨_, yieldsK_val wU (fun w' => by with_unfolding_all exact rfl), ?_⟩
  go_frame
  refine ⟨_, yieldsK_val wU (fun w' => by with_unfolding_all exact rfl), ?_⟩
  go_frame
  refine ⟨.bool true, yieldsK_val wU (fun w' => by first | (go_simp; done) | (go_simp; rfl)), ?_⟩
  go_frame
  refine ⟨_, yieldsK_val wU (fun w' => by with_unfolding_all exact rfl), ?_⟩
  go_frame
  refine ⟨_, yieldsK_val wU (fun w' => by with_unfolding_all exact rfl), ?_⟩
  go_frame
  refine ⟨.bool false, yieldsK_val wU (fun w' => by first | (go_simp; done) | (go_simp; rfl)), ?_⟩
  go_frame
  refine ⟨_, yieldsK_val wU (fun w' => by with_unfolding_all exact rfl), ?_⟩
  go_frame
  refine ⟨_, yieldsK_val wU (fun w' => by with_unfolding_all exact rfl), ?_⟩
  go_frame
  refine ⟨_, yieldsK_blkC (n := 4) A_rmach kR (fun V h => h.2) rfl wU wU, ?_⟩
  go_frame
  refine ⟨_, yieldsK_val wU (fun w' => by with_unfolding_all exact rfl), ?_⟩
  go_frame
  unfold wpPureK
  have hVd : ∀ V : World, ({ V with drawn := V.drawn + 1 } : World) = V.drew := fun _ => rfl
  simp only [hVd]
  have hS14 := hS13.drew
  have q14 := (hS14.blk 5 rfl).1
  have p14 := (hS14.blk 6 rfl).1
  clear hS13 q13 p13
  refine wpAnyC_on [20] kR (by simp) ?_
  simp only [List.forall_mem_cons, List.not_mem_nil, false_implies, implies_true, and_true]
  refine wpOp_call (f := 24) (args := #[.slice aX XM.length cX]) (by rw [List.getElem?_toArray]; rfl) wU (by first | (go_simp; done) | (simp [execOp, Act.eval, Result.andThen]; done) | (simp [execOp, Act.eval, Result.andThen]; rfl)) ?_
  refine (HLX.out _ _ _ (hS14.rd 3 rfl)).mono ?_
  rintro e w15 ⟨v15, rfl, ho15, b15⟩
  have hS15 := hS14.call (SL.ofOwn ho15 b15)
  simp only [List.cons_append, List.nil_append] at hS15
  have q15 := (hS15.blk 6 rfl).1
  have p15 := (hS15.blk 7 rfl).1
  clear hS14 q14 p14
  clear ho15 b15
  obtain ⟨aY, cY, rfl, _⟩ := hS15.slice 0 rfl
  refine ⟨_, rfl, ⟨hS15.b, q15⟩, ?_⟩
  go_frame
  refine wpAnyC_on [23] kR (by simp) ?_
  simp only [List.forall_mem_cons, List.not_mem_nil, false_implies, implies_true, and_true]
  refine wpOp_call (f := 25) (args := #[mV m ad cap, .slice al l.length cl]) (by rw [List.getElem?_toArray]; rfl) wU (by first | (go_simp; done) | (simp [execOp, Act.eval, Result.andThen]; done) | (simp [execOp, Act.eval, Result.andThen]; rfl)) ?_
  refine (HRX.out _ (hL.below hS15.b)).mono ?_
  rintro e w16 ⟨v16, rfl, ho16, b16⟩
  have hS16 := hS15.call (SL.ofOwn ho16 b16)
  simp only [List.cons_append, List.nil_append] at hS16
  have q16 := (hS16.blk 7 rfl).1
  have p16 := (hS16.blk 8 rfl).1
  clear hS15 q15 p15
  clear ho16 b16
  obtain ⟨aZ, cZ, rfl, _⟩ := hS16.slice 0 rfl
  refine ⟨_, rfl, ⟨hS16.b, q16⟩, ?_⟩
  go_frame
  refine wpAnyC_on [24] kR (by simp) ?_
  simp only [List.forall_mem_cons, List.not_mem_nil, false_implies, implies_true, and_true]
  refine wpOp_call (f := 23) (args := #[.slice aY XM.length cY, .slice aZ XM.length cZ]) (by rw [List.getElem?_toArray]; rfl) wU (by first | (go_simp; done) | (simp [execOp, Act.eval, Result.andThen]; done) | (simp [execOp, Act.eval, Result.andThen]; rfl)) ?_
  refine (SameCrossings_same aY aZ cY cZ _ XM _ (hS16.rd 1 rfl) (hS16.rd 0 rfl) rfl (by omega)).mono ?_
  rintro e w17 ⟨rfl, b17⟩
  have hS17 := hS16.mono b17
  have q17 := (hS17.blk 7 rfl).1
  have p17 := (hS17.blk 8 rfl).1
  clear hS16 q16 p16
  refine ⟨_, rfl, ⟨hS17.b, q17⟩, ?_⟩
  go_frame
  refine wpAnyC_rest [25, 26, 27, 28] [_, _, _, _] rfl (by simp only [List.map_cons, List.map_nil, List.getElem?_toArray]; rfl) kR kR kR (⟨hS17.b, q17⟩) ?_
  repeat (refine ⟨_, .inl ⟨by with_unfolding_all rfl, fun w' _ => by with_unfolding_all exact rfl⟩, ?_⟩; go_frame)
  unfold wpPure
  refine of_wpList_nil (P := Tryz.prog) (ops := #[]) ?_
  go_wp2_with fail
  refine (H5.out _).mono ?_
  rintro e w' ⟨rfl, rfl⟩
  go_wp2_with fail
  refine (H3.out _).mono ?_
  rintro e w' ⟨rfl, rfl⟩
  go_wp2_with fail
  refine (H33.out _).mono ?_
  rintro e w' ⟨rfl, rfl⟩
  have hS18 := hS17.al (.cells #[.int .i64 0, .int .i64 0, .int .i64 3] 3)
  have q18 := (hS18.blk 7 rfl).1
  have p18 := (hS18.blk 8 rfl).1
  clear hS17 q17 p17
  go_wp2_with (go_at_call 20; refine (lfirst4_any _ _ [_, _, _] _ (reps_newN cIntS [_, _, _] 3 rfl (by decide) _ _ (by simp) rfl) (by simp)).mono ?_; rw [firstE_z, firstE_z, firstE_head (by decide)]; rintro e w' ⟨rfl, rfl⟩)
  refine (llistBad_any aW none cW 0 0 3 _ rfl).mono ?_
  rintro e w19 ⟨rfl, b19⟩
  have hS19 := hS18.mono b19
  have q19 := (hS19.blk 7 rfl).1
  have p19 := (hS19.blk 8 rfl).1
  clear hS18 q18 p18
  go_wp2_with fail
  refine (llistBad_any aT none cT 0 0 3 _ rfl).mono ?_
  rintro e w20 ⟨rfl, b20⟩
  have hS20 := hS19.mono b20
  have q20 := (hS20.blk 7 rfl).1
  have p20 := (hS20.blk 8 rfl).1
  clear hS19 q19 p19
  go_wp2_with fail
  go_ret
  exact ⟨rfl, hS20.b⟩
theorem mw_five1 (m : MacV) (ad al : Option Addr) (cap cl : Nat) (l : List Int) (n : Int) (w : World) (hR : Ints w ad cap m.sw) (hL : Ints w al cl l) (hI : InI m.gears) (hw : LibW w) (hsb : (decide (m.sw.length ≤ 19) && decide (l.length ≤ 67)) = true) (hn60 : decide (60 < n) = false ∨ (decide (60 < n) = true ∧ decide (n ≤ 1000) = false)) (he : loadE m l = 0) (h20 : l.length ≤ 20) (hr : m.ring = false) (hnb : meetsM m l 0 = true) (h12 : 12 < l.length) :
  Calls Tryz.prog 3 #[mV m ad cap, .slice al l.length cl, .int .i64 n] w fun r w' => r = .returned (.bool true) ∧ Below w.heap.size w w' := by
 have hS0 := ((SL.nil w).box (.cells (mC m ad cap) 24)).box (.cells (mC m ad cap) 25)
 simp only [World.size_alloc] at hS0
 have HA := hid awake4_any
 have hlc := hL.le
 have CSh := fun w => rShort_any m ad cap al cl l.length w
 rw [hsb] at CSh
 have HSh := hid CSh
 clear CSh hsb
 have CK := fun w h h2 => lcheck_any m ad cap al cl l w h h2
 have KL : ChkL m ad cap al cl l := CheckLoad_any m ad cap al cl l fun w h => CheckMachine_any m ad cap w h hI
 have CO := fun w h h2 => mOrder_any m ad cap al cl l w h h2 KL
 have CX := fun w h h2 => mCrossings_any m ad cap al cl l w h h2 KL
 have CW := fun w h h2 => mWord_any m ad cap al cl l n w h h2 KL
 have CT := fun w h h2 => mStrands_any m ad cap al cl l n w h h2 KL
 have CG : ∀ w, Calls Tryz.prog 18 #[.bool m.ring, .int .i64 13] w fun r w' => r = .returned (.int .i64 (if m.ring then 13 else 0)) ∧ w = w' := fun w => lwhen_any m.ring 13 w
 have C5 : ∀ w, Calls Tryz.prog 18 #[.bool (decide (12 < (l.length : Int))), .int .i64 5] w fun r w' => r = .returned (.int .i64 (if decide (12 < (l.length : Int)) then 5 else 0)) ∧ w = w' := fun w => lwhen_any _ 5 w
 have C3 := fun w => rOutside_any n 0 1000 w
 have C33 : ∀ w, Calls Tryz.prog 18 #[.bool (decide (n < 0) || decide (1000 < n)), .int .i64 3] w fun r w' => r = .returned (.int .i64 (if (decide (n < 0) || decide (1000 < n)) then 3 else 0)) ∧ w = w' := fun w => lwhen_any _ 3 w
 clear KL
 have hlok := loadE_zero he
 have hlo := hlok.ok.lo
 have hhi := hlok.ok.hi
 have hl20 : decide (20 < (l.length : Int)) = false := decide_eq_false (by omega)
 have hn64 : l.length ≤ 64 := by omega
 rw [he] at CK
 have CN := fun w h => rNow_any m ad cap al cl l w h hlo hhi hlok.rng hn64 hlok.nodup
 have CRO := fun w h => rOrder_any m ad cap al cl l w h hlo hhi hlok.rng hn64
 have CRX := fun w h => rCrossings_any m ad cap al cl l w h hlo hhi hlok.rng hn64
 have CLX := fun a c w h => lcrossings_any a c (crossM m l) w h (by have := crossM_len m l; omega)
 have hxl : (crossM m l).length ≤ 48 := by have := crossM_len m l; omega
 have hol : (orderM m l).length ≤ 64 := by have := orderM_len m l; omega
 have hnw : decide (0 ≤ nowM m l) = true := by rw [now_meets hlok]; exact hnb
 have e1 : orderE m l = 16 := by unfold orderE; rw [if_neg (by simp [he]), hr, hnb]; rfl
 have e2 : crossE m l = 16 := by unfold crossE; rw [if_neg (by simp [he]), hnb]; rfl
 rw [e1, if_neg (by decide)] at CO
 rw [e2, if_neg (by decide)] at CX
 replace CG : ∀ w, Calls Tryz.prog 18 #[.bool m.ring, .int .i64 13] w fun r w' => r = .returned (.int .i64 0) ∧ w = w' := fun w => by have h := CG w; simp only [hr, Bool.false_eq_true, if_false] at h ⊢; exact h
 have e3 : weaveE m l n = 5 := by unfold weaveE; rw [if_neg (by simp [he]), hr, if_neg (by decide), if_pos (by omega)]; try rfl
 have e4 : wrdE m l n = 5 := by unfold wrdE; rw [e3, if_pos (by decide)]
 rw [e4, if_neg (by decide)] at CW
 rw [e3, if_neg (by decide)] at CT
 rw [decide_eq_true (show 12 < (l.length : Int) by omega)] at C5
 simp only [if_true] at C5
 obtain ⟨x3, hx3⟩ : ∃ x3 : Int, x3 = if (decide (n < 0) || decide (1000 < n)) then 3 else 0 := ⟨_, rfl⟩
 rw [← hx3] at C33
 clear hx3
 have h12 : decide (12 < (l.length : Int)) = true := decide_eq_true (by omega)
 obtain ⟨OM, hOM⟩ : ∃ OM, OM = orderM m l := ⟨_, rfl⟩
 obtain ⟨XM, hXM⟩ : ∃ XM, XM = crossM m l := ⟨_, rfl⟩
 obtain ⟨NW, hNW⟩ : ∃ NW, NW = nowM m l := ⟨_, rfl⟩
 rw [← hNW] at CN hnw
 rw [← hOM] at CRO hol
 rw [← hXM] at CRX CLX hxl
 have HN := hid CN; have HRO := hid CRO; have HRX := hid CRX; have HLX := hid CLX
 clear CN CRO CRX CLX hOM hXM hNW e1 e2 e3 e4 hlok he hr hnb hlo hhi
 have HCK := hid CK; have HO := hid CO; have HX := hid CX; have HW := hid CW; have HT := hid CT; have HRG := hid CG; have H5 := hid C5; have H3 := hid C3; have H33 := hid C33
 clear CK CO CX CW CT CG C5 C3 C33 hI
 rcases hn60 with d60 | ⟨d60, d61⟩
 all_goals
  go_enter Tryz.func3, Tryz.ntmps3
  go_wp2_with fail
  refine (HA.out _ (hw.below hS0.b)).mono ?_
  rintro e w1 ⟨rfl, b1⟩
  have hS1 := hS0.mono b1
  have q1 := (hS1.blk 0 rfl).1
  have p1 := (hS1.blk 1 rfl).1
  clear hS0
  go_wp2_with (with_reducible refine wpList_ldS (n := 4) (us := mC m ad cap) A_rmach kR wU wU (by assumption) wU wU ?_)
  refine (HSh.out _).mono ?_
  rintro e w2 ⟨rfl, b2⟩
  have hS2 := hS1.mono b2
  have q2 := (hS2.blk 0 rfl).1
  have p2 := (hS2.blk 1 rfl).1
  clear hS1 q1 p1
  go_wp2_with (with_reducible refine wpList_ldS (n := 4) (us := mC m ad cap) A_rmach kR wU wU (by assumption) wU wU ?_)
  refine (HCK.out _ (hR.below hS2.b) (hL.below hS2.b)).mono ?_
  rintro e w3 ⟨rfl, b3⟩
  have hS3 := hS2.mono b3
  have q3 := (hS3.blk 0 rfl).1
  have p3 := (hS3.blk 1 rfl).1
  clear hS2 q2 p2
  go_wp2_with (with_reducible refine wpList_ldS (n := 4) (us := mC m ad cap) A_mach kR wU wU (by assumption) wU wU ?_)
  refine (HO.out _ (hR.below hS3.b) (hL.below hS3.b)).mono ?_
  rintro e w4 ⟨v4, rfl, ho4, b4⟩
  have hS4 := hS3.call (SL.ofOwn ho4 b4)
  simp only [List.cons_append, List.nil_append] at hS4
  have q4 := (hS4.blk 1 rfl).1
  have p4 := (hS4.blk 2 rfl).1
  clear hS3 q3 p3
  clear ho4 b4
  obtain ⟨aO, cO, rfl, _⟩ := hS4.slice 0 rfl
  go_wp2_with (with_reducible refine wpList_ldS (n := 4) (us := mC m ad cap) A_mach kR wU wU (by assumption) wU wU ?_)
  refine (HX.out _ (hR.below hS4.b) (hL.below hS4.b)).mono ?_
  rintro e w5 ⟨v5, rfl, ho5, b5⟩
  have hS5 := hS4.call (SL.ofOwn ho5 b5)
  simp only [List.cons_append, List.nil_append] at hS5
  have q5 := (hS5.blk 2 rfl).1
  have p5 := (hS5.blk 3 rfl).1
  clear hS4 q4 p4
  clear ho5 b5
  obtain ⟨aX, cX, rfl, _⟩ := hS5.slice 0 rfl
  go_wp2_with (with_reducible refine wpList_ldS (n := 4) (us := mC m ad cap) A_mach kR wU wU (by assumption) wU wU ?_)
  refine (HW.out _ (hR.below hS5.b) (hL.below hS5.b)).mono ?_
  rintro e w6 ⟨v6, rfl, ho6, b6⟩
  have hS6 := hS5.call (SL.ofOwn ho6 b6)
  simp only [List.cons_append, List.nil_append] at hS6
  have q6 := (hS6.blk 3 rfl).1
  have p6 := (hS6.blk 4 rfl).1
  clear hS5 q5 p5
  clear ho6 b6
  obtain ⟨aW, cW, rfl, _⟩ := hS6.slice 0 rfl
  go_wp2_with (with_reducible refine wpList_ldS (n := 4) (us := mC m ad cap) A_mach kR wU wU (by assumption) wU wU ?_)
  refine (HT.out _ (hR.below hS6.b) (hL.below hS6.b)).mono ?_
  rintro e w7 ⟨v7, rfl, ho7, b7⟩
  have hS7 := hS6.call (SL.ofOwn ho7 b7)
  simp only [List.cons_append, List.nil_append] at hS7
  have q7 := (hS7.blk 4 rfl).1
  have p7 := (hS7.blk 5 rfl).1
  clear hS6 q6 p6
  clear ho7 b7
  obtain ⟨aT, cT, rfl, _⟩ := hS7.slice 0 rfl
  go_wp2_with (with_reducible refine wpList_ldS (n := 4) (us := mC m ad cap) A_rmach kR wU wU (by assumption) wU wU ?_)
  refine (HN.out _ (hL.below hS7.b)).mono ?_
  rintro e w8 ⟨rfl, b8⟩
  have hS8 := hS7.mono b8
  have q8 := (hS8.blk 4 rfl).1
  have p8 := (hS8.blk 5 rfl).1
  clear hS7 q7 p7
  go_wp2_with fail
  refine (lwhen_any true 16 w8).mono ?_
  rintro e w' ⟨rfl, rfl⟩
  go_wp2_with (with_reducible refine wpList_ldB F_boolM wU wU p8 wU ?_)
  refine (HRG.out _).mono ?_
  rintro e w' ⟨rfl, rfl⟩
  have hS9 := hS8.al (.cells #[.int .i64 0, .int .i64 0] 3)
  have q9 := (hS9.blk 4 rfl).1
  have p9 := (hS9.blk 5 rfl).1
  clear hS8 q8 p8
  have hS10 := hS9.al (.cells #[.int .i64 0, .int .i64 16] 3)
  have q10 := (hS10.blk 4 rfl).1
  have p10 := (hS10.blk 5 rfl).1
  clear hS9 q9 p9
  go_wp2_with (first | (go_at_call 20; refine (lfirst4_any _ _ [_, _] _ (reps_newN cIntS [_, _] 2 rfl (by decide) _ _ (by simp) rfl) (by simp)).mono ?_; rw [firstE_z, firstE_z, firstE_nil]; rintro e w' ⟨rfl, rfl⟩) | (go_at_call 20; refine (lfirst4_any _ _ [_, _] _ (reps_newN cIntS [_, _] 2 rfl (by decide) _ _ (by simp) rfl) (by simp)).mono ?_; rw [firstE_z, firstE_head (by decide)]; rintro e w' ⟨rfl, rfl⟩))
  refine (llistBad_any aO none cO 0 0 16 _ rfl).mono ?_
  rintro e w11 ⟨rfl, b11⟩
  have hS11 := hS10.mono b11
  have q11 := (hS11.blk 4 rfl).1
  have p11 := (hS11.blk 5 rfl).1
  clear hS10 q10 p10
  have hS12 := hS11.al (.cells #[.int .i64 0, .int .i64 16] 3)
  have q12 := (hS12.blk 4 rfl).1
  have p12 := (hS12.blk 5 rfl).1
  clear hS11 q11 p11
  go_wp2_with (go_at_call 20; refine (lfirst4_any _ _ [_, _] _ (reps_newN cIntS [_, _] 2 rfl (by decide) _ _ (by simp) rfl) (by simp)).mono ?_; rw [firstE_z, firstE_head (by decide)]; rintro e w' ⟨rfl, rfl⟩)
  refine wp_region_q kR kR ?_
  repeat (first | ((with_reducible refine wpQ_skip wU ?_); (try simp only [Act.put, pA, pB, pC])) |  ((with_reducible refine wpB_load (by first | exact F_int | exact F_u64s) wU wU (by assumption) wU ?_); (try simp only [Act.put, pA, pB, pC])) | ((refine wpQ_oneG ?_ wU (fun w' => ?_) ?_); rotate_left; (go_simp; rfl); (try simp only [Act.put, pA, pB, pC])))
  refine wpQuiet_nil ?_
  intro w13 b13
  have hS13 := hS12.mono b13
  have q13 := (hS13.blk 4 rfl).1
  have p13 := (hS13.blk 5 rfl).1
  clear hS12 q12 p12
  go_wp2_with fail
  refine (H5.out _).mono ?_
  rintro e w' ⟨rfl, rfl⟩
  go_wp2_with fail
  refine (H3.out _).mono ?_
  rintro e w' ⟨rfl, rfl⟩
  go_wp2_with fail
  refine (H33.out _).mono ?_
  rintro e w' ⟨rfl, rfl⟩
  have hS14 := hS13.al (.cells #[.int .i64 0, .int .i64 5, .int .i64 x3] 3)
  have q14 := (hS14.blk 4 rfl).1
  have p14 := (hS14.blk 5 rfl).1
  clear hS13 q13 p13
  go_wp2_with (go_at_call 20; refine (lfirst4_any _ _ [_, _, _] _ (reps_newN cIntS [_, _, _] 3 rfl (by decide) _ _ (by simp) rfl) (by simp)).mono ?_; rw [firstE_z, firstE_head (by decide)]; rintro e w' ⟨rfl, rfl⟩)
  refine (llistBad_any aW none cW 0 0 5 _ rfl).mono ?_
  rintro e w15 ⟨rfl, b15⟩
  have hS15 := hS14.mono b15
  have q15 := (hS15.blk 4 rfl).1
  have p15 := (hS15.blk 5 rfl).1
  clear hS14 q14 p14
  go_wp2_with fail
  refine (llistBad_any aT none cT 0 0 5 _ rfl).mono ?_
  rintro e w16 ⟨rfl, b16⟩
  have hS16 := hS15.mono b16
  have q16 := (hS16.blk 4 rfl).1
  have p16 := (hS16.blk 5 rfl).1
  clear hS15 q15 p15
  go_wp2_with fail
  go_ret
  exact ⟨rfl, hS16.b⟩
theorem mw_out1 (m : MacV) (ad al : Option Addr) (cap cl : Nat) (l : List Int) (n : Int) (w : World) (hR : Ints w ad cap m.sw) (hL : Ints w al cl l) (hI : InI m.gears) (hw : LibW w) (hsb : (decide (m.sw.length ≤ 19) && decide (l.length ≤ 67)) = true) (hn60 : decide (60 < n) = false ∨ (decide (60 < n) = true ∧ decide (n ≤ 1000) = false)) (he : loadE m l = 0) (h20 : l.length ≤ 20) (hr : m.ring = false) (hnb : meetsM m l 0 = true) (h12 : l.length ≤ 12) (hno : n < 0 ∨ 1000 < n) :
  Calls Tryz.prog 3 #[mV m ad cap, .slice al l.length cl, .int .i64 n] w fun r w' => r = .returned (.bool true) ∧ Below w.heap.size w w' := by
 have hS0 := ((SL.nil w).box (.cells (mC m ad cap) 24)).box (.cells (mC m ad cap) 25)
 simp only [World.size_alloc] at hS0
 have HA := hid awake4_any
 have hlc := hL.le
 have CSh := fun w => rShort_any m ad cap al cl l.length w
 rw [hsb] at CSh
 have HSh := hid CSh
 clear CSh hsb
 have CK := fun w h h2 => lcheck_any m ad cap al cl l w h h2
 have KL : ChkL m ad cap al cl l := CheckLoad_any m ad cap al cl l fun w h => CheckMachine_any m ad cap w h hI
 have CO := fun w h h2 => mOrder_any m ad cap al cl l w h h2 KL
 have CX := fun w h h2 => mCrossings_any m ad cap al cl l w h h2 KL
 have CW := fun w h h2 => mWord_any m ad cap al cl l n w h h2 KL
 have CT := fun w h h2 => mStrands_any m ad cap al cl l n w h h2 KL
 have CG : ∀ w, Calls Tryz.prog 18 #[.bool m.ring, .int .i64 13] w fun r w' => r = .returned (.int .i64 (if m.ring then 13 else 0)) ∧ w = w' := fun w => lwhen_any m.ring 13 w
 have C5 : ∀ w, Calls Tryz.prog 18 #[.bool (decide (12 < (l.length : Int))), .int .i64 5] w fun r w' => r = .returned (.int .i64 (if decide (12 < (l.length : Int)) then 5 else 0)) ∧ w = w' := fun w => lwhen_any _ 5 w
 have C3 := fun w => rOutside_any n 0 1000 w
 have C33 : ∀ w, Calls Tryz.prog 18 #[.bool (decide (n < 0) || decide (1000 < n)), .int .i64 3] w fun r w' => r = .returned (.int .i64 (if (decide (n < 0) || decide (1000 < n)) then 3 else 0)) ∧ w = w' := fun w => lwhen_any _ 3 w
 clear KL
 have hlok := loadE_zero he
 have hlo := hlok.ok.lo
 have hhi := hlok.ok.hi
 have hl20 : decide (20 < (l.length : Int)) = false := decide_eq_false (by omega)
 have hn64 : l.length ≤ 64 := by omega
 rw [he] at CK
 have CN := fun w h => rNow_any m ad cap al cl l w h hlo hhi hlok.rng hn64 hlok.nodup
 have CRO := fun w h => rOrder_any m ad cap al cl l w h hlo hhi hlok.rng hn64
 have CRX := fun w h => rCrossings_any m ad cap al cl l w h hlo hhi hlok.rng hn64
 have CLX := fun a c w h => lcrossings_any a c (crossM m l) w h (by have := crossM_len m l; omega)
 have hxl : (crossM m l).length ≤ 48 := by have := crossM_len m l; omega
 have hol : (orderM m l).length ≤ 64 := by have := orderM_len m l; omega
 have hnw : decide (0 ≤ nowM m l) = true := by rw [now_meets hlok]; exact hnb
 have e1 : orderE m l = 16 := by unfold orderE; rw [if_neg (by simp [he]), hr, hnb]; rfl
 have e2 : crossE m l = 16 := by unfold crossE; rw [if_neg (by simp [he]), hnb]; rfl
 rw [e1, if_neg (by decide)] at CO
 rw [e2, if_neg (by decide)] at CX
 replace CG : ∀ w, Calls Tryz.prog 18 #[.bool m.ring, .int .i64 13] w fun r w' => r = .returned (.int .i64 0) ∧ w = w' := fun w => by have h := CG w; simp only [hr, Bool.false_eq_true, if_false] at h ⊢; exact h
 have e3 : weaveE m l n = 3 := by unfold weaveE; rw [if_neg (by simp [he]), hr, if_neg (by decide), if_neg (by omega), if_pos (by omega)]; try rfl
 have e4 : wrdE m l n = 3 := by unfold wrdE; rw [e3, if_pos (by decide)]
 rw [e4, if_neg (by decide)] at CW
 rw [e3, if_neg (by decide)] at CT
 rw [decide_eq_false (show ¬ 12 < (l.length : Int) by omega)] at C5
 simp only [Bool.false_eq_true, if_false] at C5
 have h12 : decide (12 < (l.length : Int)) = false := decide_eq_false (by omega)
 have hout : (decide (n < 0) || decide (1000 < n)) = true := by simp; omega
 rw [hout] at C33 C3
 simp only [if_true] at C33
 obtain ⟨OM, hOM⟩ : ∃ OM, OM = orderM m l := ⟨_, rfl⟩
 obtain ⟨XM, hXM⟩ : ∃ XM, XM = crossM m l := ⟨_, rfl⟩
 obtain ⟨NW, hNW⟩ : ∃ NW, NW = nowM m l := ⟨_, rfl⟩
 rw [← hNW] at CN hnw
 rw [← hOM] at CRO hol
 rw [← hXM] at CRX CLX hxl
 have HN := hid CN; have HRO := hid CRO; have HRX := hid CRX; have HLX := hid CLX
 clear CN CRO CRX CLX hOM hXM hNW e1 e2 e3 e4 hlok he hr hnb hlo hhi
 have HCK := hid CK; have HO := hid CO; have HX := hid CX; have HW := hid CW; have HT := hid CT; have HRG := hid CG; have H5 := hid C5; have H3 := hid C3; have H33 := hid C33
 clear CK CO CX CW CT CG C5 C3 C33 hI
 rcases hn60 with d60 | ⟨d60, d61⟩
 all_goals
  go_enter Tryz.func3, Tryz.ntmps3
  go_wp2_with fail
  refine (HA.out _ (hw.below hS0.b)).mono ?_
  rintro e w1 ⟨rfl, b1⟩
  have hS1 := hS0.mono b1
  have q1 := (hS1.blk 0 rfl).1
  have p1 := (hS1.blk 1 rfl).1
  clear hS0
  go_wp2_with (with_reducible refine wpList_ldS (n := 4) (us := mC m ad cap) A_rmach kR wU wU (by assumption) wU wU ?_)
  refine (HSh.out _).mono ?_
  rintro e w2 ⟨rfl, b2⟩
  have hS2 := hS1.mono b2
  have q2 := (hS2.blk 0 rfl).1
  have p2 := (hS2.blk 1 rfl).1
  clear hS1 q1 p1
  go_wp2_with (with_reducible refine wpList_ldS (n := 4) (us := mC m ad cap) A_rmach kR wU wU (by assumption) wU wU ?_)
  refine (HCK.out _ (hR.below hS2.b) (hL.below hS2.b)).mono ?_
  rintro e w3 ⟨rfl, b3⟩
  have hS3 := hS2.mono b3
  have q3 := (hS3.blk 0 rfl).1
  have p3 := (hS3.blk 1 rfl).1
  clear hS2 q2 p2
  go_wp2_with (with_reducible refine wpList_ldS (n := 4) (us := mC m ad cap) A_mach kR wU wU (by assumption) wU wU ?_)
  refine (HO.out _ (hR.below hS3.b) (hL.below hS3.b)).mono ?_
  rintro e w4 ⟨v4, rfl, ho4, b4⟩
  have hS4 := hS3.call (SL.ofOwn ho4 b4)
  simp only [List.cons_append, List.nil_append] at hS4
  have q4 := (hS4.blk 1 rfl).1
  have p4 := (hS4.blk 2 rfl).1
  clear hS3 q3 p3
  clear ho4 b4
  obtain ⟨aO, cO, rfl, _⟩ := hS4.slice 0 rfl
  go_wp2_with (with_reducible refine wpList_ldS (n := 4) (us := mC m ad cap) A_mach kR wU wU (by assumption) wU wU ?_)
  refine (HX.out _ (hR.below hS4.b) (hL.below hS4.b)).mono ?_
  rintro e w5 ⟨v5, rfl, ho5, b5⟩
  have hS5 := hS4.call (SL.ofOwn ho5 b5)
  simp only [List.cons_append, List.nil_append] at hS5
  have q5 := (hS5.blk 2 rfl).1
  have p5 := (hS5.blk 3 rfl).1
  clear hS4 q4 p4
  clear ho5 b5
  obtain ⟨aX, cX, rfl, _⟩ := hS5.slice 0 rfl
  go_wp2_with (with_reducible refine wpList_ldS (n := 4) (us := mC m ad cap) A_mach kR wU wU (by assumption) wU wU ?_)
  refine (HW.out _ (hR.below hS5.b) (hL.below hS5.b)).mono ?_
  rintro e w6 ⟨v6, rfl, ho6, b6⟩
  have hS6 := hS5.call (SL.ofOwn ho6 b6)
  simp only [List.cons_append, List.nil_append] at hS6
  have q6 := (hS6.blk 3 rfl).1
  have p6 := (hS6.blk 4 rfl).1
  clear hS5 q5 p5
  clear ho6 b6
  obtain ⟨aW, cW, rfl, _⟩ := hS6.slice 0 rfl
  go_wp2_with (with_reducible refine wpList_ldS (n := 4) (us := mC m ad cap) A_mach kR wU wU (by assumption) wU wU ?_)
  refine (HT.out _ (hR.below hS6.b) (hL.below hS6.b)).mono ?_
  rintro e w7 ⟨v7, rfl, ho7, b7⟩
  have hS7 := hS6.call (SL.ofOwn ho7 b7)
  simp only [List.cons_append, List.nil_append] at hS7
  have q7 := (hS7.blk 4 rfl).1
  have p7 := (hS7.blk 5 rfl).1
  clear hS6 q6 p6
  clear ho7 b7
  obtain ⟨aT, cT, rfl, _⟩ := hS7.slice 0 rfl
  go_wp2_with (with_reducible refine wpList_ldS (n := 4) (us := mC m ad cap) A_rmach kR wU wU (by assumption) wU wU ?_)
  refine (HN.out _ (hL.below hS7.b)).mono ?_
  rintro e w8 ⟨rfl, b8⟩
  have hS8 := hS7.mono b8
  have q8 := (hS8.blk 4 rfl).1
  have p8 := (hS8.blk 5 rfl).1
  clear hS7 q7 p7
  go_wp2_with fail
  refine (lwhen_any true 16 w8).mono ?_
  rintro e w' ⟨rfl, rfl⟩
  go_wp2_with (with_reducible refine wpList_ldB F_boolM wU wU p8 wU ?_)
  refine (HRG.out _).mono ?_
  rintro e w' ⟨rfl, rfl⟩
  have hS9 := hS8.al (.cells #[.int .i64 0, .int .i64 0] 3)
  have q9 := (hS9.blk 4 rfl).1
  have p9 := (hS9.blk 5 rfl).1
  clear hS8 q8 p8
  have hS10 := hS9.al (.cells #[.int .i64 0, .int .i64 16] 3)
  have q10 := (hS10.blk 4 rfl).1
  have p10 := (hS10.blk 5 rfl).1
  clear hS9 q9 p9
  go_wp2_with (first | (go_at_call 20; refine (lfirst4_any _ _ [_, _] _ (reps_newN cIntS [_, _] 2 rfl (by decide) _ _ (by simp) rfl) (by simp)).mono ?_; rw [firstE_z, firstE_z, firstE_nil]; rintro e w' ⟨rfl, rfl⟩) | (go_at_call 20; refine (lfirst4_any _ _ [_, _] _ (reps_newN cIntS [_, _] 2 rfl (by decide) _ _ (by simp) rfl) (by simp)).mono ?_; rw [firstE_z, firstE_head (by decide)]; rintro e w' ⟨rfl, rfl⟩))
  refine (llistBad_any aO none cO 0 0 16 _ rfl).mono ?_
  rintro e w11 ⟨rfl, b11⟩
  have hS11 := hS10.mono b11
  have q11 := (hS11.blk 4 rfl).1
  have p11 := (hS11.blk 5 rfl).1
  clear hS10 q10 p10
  have hS12 := hS11.al (.cells #[.int .i64 0, .int .i64 16] 3)
  have q12 := (hS12.blk 4 rfl).1
  have p12 := (hS12.blk 5 rfl).1
  clear hS11 q11 p11
  go_wp2_with (go_at_call 20; refine (lfirst4_any _ _ [_, _] _ (reps_newN cIntS [_, _] 2 rfl (by decide) _ _ (by simp) rfl) (by simp)).mono ?_; rw [firstE_z, firstE_head (by decide)]; rintro e w' ⟨rfl, rfl⟩)
  refine wp_region_q kR kR ?_
  repeat (first | ((with_reducible refine wpQ_skip wU ?_); (try simp only [Act.put, pA, pB, pC])) |  ((with_reducible refine wpB_load (by first | exact F_int | exact F_u64s) wU wU (by assumption) wU ?_); (try simp only [Act.put, pA, pB, pC])) | ((refine wpQ_oneG ?_ wU (fun w' => ?_) ?_); rotate_left; (go_simp; rfl); (try simp only [Act.put, pA, pB, pC])))
  refine wpQuiet_nil ?_
  intro w13 b13
  have hS13 := hS12.mono b13
  have q13 := (hS13.blk 4 rfl).1
  have p13 := (hS13.blk 5 rfl).1
  clear hS12 q12 p12
  go_wp2_with fail
  refine (H5.out _).mono ?_
  rintro e w' ⟨rfl, rfl⟩
  go_wp2_with fail
  refine (H3.out _).mono ?_
  rintro e w' ⟨rfl, rfl⟩
  go_wp2_with fail
  refine (H33.out _).mono ?_
  rintro e w' ⟨rfl, rfl⟩
  have hS14 := hS13.al (.cells #[.int .i64 0, .int .i64 0, .int .i64 3] 3)
  have q14 := (hS14.blk 4 rfl).1
  have p14 := (hS14.blk 5 rfl).1
  clear hS13 q13 p13
  go_wp2_with (go_at_call 20; refine (lfirst4_any _ _ [_, _, _] _ (reps_newN cIntS [_, _, _] 3 rfl (by decide) _ _ (by simp) rfl) (by simp)).mono ?_; rw [firstE_z, firstE_z, firstE_head (by decide)]; rintro e w' ⟨rfl, rfl⟩)
  refine (llistBad_any aW none cW 0 0 3 _ rfl).mono ?_
  rintro e w15 ⟨rfl, b15⟩
  have hS15 := hS14.mono b15
  have q15 := (hS15.blk 4 rfl).1
  have p15 := (hS15.blk 5 rfl).1
  clear hS14 q14 p14
  go_wp2_with fail
  refine (llistBad_any aT none cT 0 0 3 _ rfl).mono ?_
  rintro e w16 ⟨rfl, b16⟩
  have hS16 := hS15.mono b16
  have q16 := (hS16.blk 4 rfl).1
  have p16 := (hS16.blk 5 rfl).1
  clear hS15 q15 p15
  go_wp2_with fail
  go_ret
  exact ⟨rfl, hS16.b⟩
end Go.Proofs.YtoebgfgihfjnnaaGreatDoor

namespace Go.Proofs.YtoebgfgihfjnnaaGreatDoor
open Go.RowKit
set_option maxHeartbeats 8000000
set_option maxRecDepth 100000
theorem rStrands4_any (m : MacV) (ad : Option Addr) (cap : Nat) (al : Option Addr) (cl : Nat) (l : List Int) (N : Nat) (w : World) (hR : Ints w ad cap m.sw) (hL : Ints w al cl l) (hg0 : 1 ≤ m.gears) (hg : m.gears ≤ 16) (hl : ∀ x ∈ l, 0 ≤ x ∧ x < 4 * m.gears) (hn : l.length ≤ 64) (hnd : l.Nodup) (hN : N ≤ 1000000) :
  Calls Tryz.prog 29 #[mV m ad cap, .slice al l.length cl, .int .i64 N] w fun r w' => ∃ v, r = .returned v ∧ OwnI w.heap.size w' v (strandsL m l N) ∧ Below w.heap.size w w' := by
 have hcap := hL.le
 have hmx := hL.max
 have hS := (SL.nil w).box (.cells (mC m ad cap) 25)
 have hltr : ∀ x ∈ atL m l N, 0 ≤ x ∧ x < 4 * m.gears := atL_rng hl N
 have hltn : (atL m l N).Nodup := by
  unfold atL
  rw [List.nodup_iff_pairwise_ne, List.pairwise_map]
  exact (List.nodup_iff_pairwise_ne.1 hnd).imp_of_mem fun {x y} hx hy hxy e => hxy (itM_inj (hl x hx).1 (hl x hx).2 (hl y hy).1 (hl y hy).2 N e)
 have hlll : (atL m l N).length = l.length := by simp [atL]
 have HOR : Hid (∀ w, Ints w al cl l → _) := hid fun w h => rOrder_any m ad cap al cl l w h hg0 hg hl hn
 have CSP := fun w h h2 => rSteps_any m ad cap al cl l N w h h2 hg0 hg hl hn (by omega)
 have HO2 : Hid (∀ a c w, Ints w a c (atL m l N) → _) := hid fun a c w h => rOrder_any m ad cap a c (atL m l N) w h hg0 hg hltr (by rw [hlll]; exact hn)
 have HLT : Hid (∀ i : Nat, i < (orderM m l).length → _) := hid fun i hi => later_at (n := (N : Int)) (by omega) hl hnd hltr hltn hi
 have hna := orderM_length (by omega) hl hnd
 have hss : (strandsL m l N).length = (orderM m l).length := by simp [strandsL]
 have e0 : (l.map fun s => itM m s N) = atL m l N := rfl
 rw [e0] at CSP
 simp only [Int.toNat_natCast] at HLT
 obtain ⟨SS, hSS⟩ : ∃ SS, SS = strandsL m l N := ⟨_, rfl⟩
 obtain ⟨LT, hLT⟩ : ∃ LT, LT = atL m l N := ⟨_, rfl⟩
 obtain ⟨OA, hOA⟩ : ∃ OA, OA = orderM m l := ⟨_, rfl⟩
 obtain ⟨OB, hOB⟩ : ∃ OB, OB = orderM m (atL m l N) := ⟨_, rfl⟩
 have hoa64 : OA.length ≤ 64 := by rw [hOA]; have := orderM_len m l; omega
 have hob64 : OB.length ≤ 64 := by rw [hOB]; have := orderM_len m (atL m l N); omega
 rw [← hSS] at hss ⊢
 rw [← hOA] at hna hss
 simp only [← hSS, ← hOA, ← hOB] at HLT
 simp only [← hOA] at HOR
 simp only [← hOB] at HO2
 simp only [← hLT] at HO2 CSP
 have HSP := hid CSP
 obtain ⟨n, hnn⟩ : ∃ n, n = l.length := ⟨_, rfl⟩
 have HNA : Hid (OA.length = n) := hid (hna.trans hnn.symm)
 have HNS : Hid (SS.length = n) := hid (hss.trans (hna.trans hnn.symm))
 have HNN := hid hnn
 have hn64 : n ≤ 64 := by omega
 clear CSP hSS hLT hOA hOB hss hna hltr hltn hlll e0 hl hnd hnn
 go_enter Tryz.func29, Tryz.ntmps29
 go_wp2_with fail
 obtain ⟨W, hW⟩ : ∃ W, W = w.alloc (.cells (mC m ad cap) 25) := ⟨_, rfl⟩
 rw [← hW] at hS ⊢
 have q0 := (hS.blk 0 rfl).1
 have hlt0 := (hS.blk 0 rfl).2.2
 have hWb := hS.b
 have hR2 := hR.below hWb
 have hL2 := hL.below hWb
 clear hW hS
 refine wp_regionK (C := Below (W).heap.size (W)) [0, 1, 3, 4, 5, 6] [_, _, _, _, _, _] 5 (by simp only [List.map_cons, List.map_nil, List.getElem?_toArray]; rfl) rfl kR kR kR ((Below.refl _ _).drew) ?_
 refine ⟨_, yieldsK_blkC (n := 4) A_rmach kR (fun V h => (h.block _ hlt0).trans q0) rfl wU wU, ?_⟩
 go_frame
 refine ⟨_, yieldsK_val wU (fun w' => by with_unfolding_all exact rfl), ?_⟩
 go_frame
 refine ⟨_, yieldsK_blkC (n := 4) A_rmach kR (fun V h => (h.block _ hlt0).trans q0) rfl wU wU, ?_⟩
 go_frame
 refine ⟨_, yieldsK_blkC (n := 4) A_rmach kR (fun V h => (h.block _ hlt0).trans q0) rfl wU wU, ?_⟩
 go_frame
 refine ⟨_, yieldsK_val wU (fun w' => by with_unfolding_all exact rfl), ?_⟩
 go_frame
 refine ⟨_, yieldsK_val wU (fun w' => by with_unfolding_all exact rfl), ?_⟩
 go_frame
 unfold wpPureK
 have hVd : ({ W with drawn := W.drawn + 1 } : World) = W.drew := rfl
 rw [hVd]
 have hT0 : SL W.heap.size W W.drew [] := (SL.nil W).drew
 refine wpAnyC_on [2] kR (by simp) ?_
 simp only [List.forall_mem_cons, List.not_mem_nil, false_implies, implies_true, and_true]
 refine wpOp_call (f := 22) (args := #[mV m ad cap, .slice al l.length cl]) (by rw [List.getElem?_toArray]; rfl) wU (by first | (go_simp; done) | (simp [execOp, Act.eval, Result.andThen]; done) | (simp [execOp, Act.eval, Result.andThen]; rfl)) ?_
 refine (HOR.out _ (hL2.below hT0.b)).mono ?_
 rintro e w1 ⟨v1, rfl, ho1, b1⟩
 have hT1 := hT0.call (SL.ofOwn ho1 b1)
 simp only [List.cons_append, List.nil_append] at hT1
 obtain ⟨aA, cA, rfl, _⟩ := hT1.slice 0 rfl
 refine ⟨_, rfl, hT1.b, ?_⟩
 go_frame
 refine wpAnyC_on [7] kR (by simp) ?_
 simp only [List.forall_mem_cons, List.not_mem_nil, false_implies, implies_true, and_true]
 refine wpOp_call (f := 80) (args := #[mV m ad cap, .slice al l.length cl, .int .i64 N]) (by rw [List.getElem?_toArray]; rfl) wU (by first | (go_simp; done) | (simp [execOp, Act.eval, Result.andThen]; done) | (simp [execOp, Act.eval, Result.andThen]; rfl)) ?_
 refine (HSP.out _ (hR2.below hT1.b) (hL2.below hT1.b)).mono ?_
 rintro e w2 ⟨v2, rfl, ho2, b2⟩
 have hT2 := hT1.call (SL.ofOwn ho2 b2)
 simp only [List.cons_append, List.nil_append] at hT2
 obtain ⟨aS, cS, rfl, _⟩ := hT2.slice 0 rfl
 refine ⟨_, rfl, hT2.b, ?_⟩
 go_frame
 refine wpAnyC_on [8] kR (by simp) ?_
 simp only [List.forall_mem_cons, List.not_mem_nil, false_implies, implies_true, and_true]
 refine wpOp_call (f := 22) (args := #[mV m ad cap, .slice aS LT.length cS]) (by rw [List.getElem?_toArray]; rfl) wU (by first | (go_simp; done) | (simp [execOp, Act.eval, Result.andThen]; done) | (simp [execOp, Act.eval, Result.andThen]; rfl)) ?_
 refine (HO2.out aS cS _ (hT2.rd 0 rfl)).mono ?_
 rintro e w3 ⟨v3, rfl, ho3, b3⟩
 have hT3 := hT2.call (SL.ofOwn ho3 b3)
 simp only [List.cons_append, List.nil_append] at hT3
 obtain ⟨aB, cB, rfl, _⟩ := hT3.slice 0 rfl
 refine ⟨_, rfl, hT3.b, ?_⟩
 go_frame
 refine wpAnyC_on [9] kR (by simp) ?_
 simp only [List.forall_mem_cons, List.not_mem_nil, false_implies, implies_true, and_true]
 refine wpOp_value (v := .slice aA OA.length cA) (w' := w3) (by rw [List.getElem?_toArray]; rfl) wU (by first | (go_simp; done) | (go_simp; rfl) | (simp [execOp, Act.eval, Result.andThen]; done)) ?_
 refine ⟨hT3.b, ?_⟩
 go_frame
 refine wpAnyC_on [10] kR (by simp) ?_
 simp only [List.forall_mem_cons, List.not_mem_nil, false_implies, implies_true, and_true]
 refine wpOp_value (v := .slice aB OB.length cB) (w' := w3) (by rw [List.getElem?_toArray]; rfl) wU (by first | (go_simp; done) | (go_simp; rfl) | (simp [execOp, Act.eval, Result.andThen]; done)) ?_
 refine ⟨hT3.b, ?_⟩
 go_frame
 refine wpAnyC_rest [] [] rfl rfl kR kR kR hT3.b ?_
 unfold wpPure
 refine of_wpList_nil (P := Tryz.prog) (ops := #[]) ?_
 have hU := hT3.pick [2, 0] (by decide) [pOwn cInt 1 3 (.slice aA OA.length cA) OA, pOwn cInt 1 3 (.slice aB OB.length cB) OB] rfl
 go_wp2_with ((with_reducible refine wpList_makeL (c := cInt) (l.length) (0) E_ints cInt1 wU wU (by omega) (by omega) (hU) ?_); intro ad1 w5 hS5)
 rw [← HNN.out] at hS5 ⊢
 go_loopw [10, 11] (fun i _ wr => ∃ (k : Nat) (O : List Int), k ≤ OA.length ∧ i = .int .i64 k ∧ O.length = n ∧ (∀ q : Nat, q < k → atD 0 O q = atD 0 SS q) ∧ SL W.heap.size W wr [pOwn cInt 1 3 (.slice ad1 n n) O, pOwn cInt 1 3 (.slice aA OA.length cA) OA, pOwn cInt 1 3 (.slice aB OB.length cB) OB]) (fun i _ _ => OA.length - (intOf i).toNat)
 case atStart => exact ⟨0, List.replicate n 0, by omega, rfl, by simp, fun q hq => absurd hq (Nat.not_lt_zero q), hS5⟩
 case round =>
  clear hS5 hU
  obtain ⟨k, O, hk, rfl, hOl, hdone, hSr⟩ := hrel
  have HD := hid hdone; have HOl := hid hOl
  clear hdone hOl
  by_cases hlt : k < OA.length
  ·obtain ⟨K, hK, hKs, hKa, hKn⟩ := HLT.out k hlt
   have HKs := hid hKs; have HKa := hid hKa; have HKn := hid hKn
   clear hKs hKa hKn
   go_wp2_with fail
   go_loopw [11] (fun i wq => ∃ (j : Nat) (O2 : List Int), j ≤ OB.length ∧ i = .int .i64 j ∧ O2.length = n ∧ (∀ q : Nat, q < k → atD 0 O2 q = atD 0 SS q) ∧ (K < j → atD 0 O2 k = atD 0 SS k) ∧ SL W.heap.size W wq [pOwn cInt 1 3 (.slice ad1 n n) O2, pOwn cInt 1 3 (.slice aA OA.length cA) OA, pOwn cInt 1 3 (.slice aB OB.length cB) OB]) (fun i _ => OB.length - (intOf i).toNat)
   case atStart => exact ⟨0, O, by omega, rfl, HOl.out, HD.out, fun h => absurd h (Nat.not_lt_zero _), hSr⟩
   case round =>
    clear hSr
    obtain ⟨j, O2, hj, rfl, hOl2, hd2, hk2, hSq⟩ := hrel
    have HD2 := hid hd2; have HK2 := hid hk2; have HOl2 := hid hOl2
    clear hd2 hk2 hOl2
    by_cases hjl : j < OB.length
    ·have hRa := hSq.rd 1 rfl
     have hRb := hSq.rd 2 rfl
     have hka : (k : Int) < OA.length := by omega
     have hjb : (j : Int) < OB.length := by omega
     obtain ⟨x, hx⟩ : ∃ x, x = atD 0 OA k := ⟨_, rfl⟩
     obtain ⟨y, hy⟩ : ∃ y, y = atD 0 OB j := ⟨_, rfl⟩
     have HX := hid hx; have HY := hid hy
     clear hx hy
     by_cases hjK : j = K
     ·have hd : (x == y) = true := by
       have : x = y := by rw [HX.out, HY.out, hjK]; exact HKa.out.symm
       simpa using this
      have hkn : (k : Int) < O2.length := by rw [HOl2.out]; have := HNA.out; omega
      have hOl3 : (O2.set (k : Int).toNat (j : Int)).length = n := by rw [List.length_set]; exact HOl2.out
      have hd3 : ∀ q : Nat, q < k → atD 0 (O2.set (k : Int).toNat (j : Int)) q = atD 0 SS q := fun q hq => set_done (Int.natCast_nonneg k) hkn (Int.natCast_nonneg q) (fun e => absurd e (by omega)) (fun _ => HD2.out q hq)
      have hk3 : K < j + 1 → atD 0 (O2.set (k : Int).toNat (j : Int)) k = atD 0 SS k := fun _ => set_done (Int.natCast_nonneg k) hkn (Int.natCast_nonneg k) (fun _ => by rw [HKs.out, hjK]) (fun e => absurd rfl e)
      have H3 := hid hOl3; have H4 := hid hd3; have H5 := hid hk3
      clear hOl3 hd3 hk3 hjK
      go_wp2_with fail
      refine wp_region_q kR kR ?_
      repeat (first | (((with_reducible refine wpB_idx2 0 E_ints F_int cInt1 wU (rfl) wU (hRa) oD oD (fun _ => wU) (fun _ => ?_)); (try simp only [Act.put, pA, pB, pC]); (try simp only [cInt])); rw [← HX.out]) | (((with_reducible refine wpB_idx2 0 E_ints F_int cInt1 wU (rfl) wU (hRb) oD oD (fun _ => wU) (fun _ => ?_)); (try simp only [Act.put, pA, pB, pC]); (try simp only [cInt])); rw [← HY.out]) |  ((with_reducible refine wpB_load (by first | exact F_int | exact F_u64s) wU wU (by assumption) wU ?_); (try simp only [Act.put, pA, pB, pC])) | ((refine wpQ_oneG ?_ wU (fun w' => ?_) ?_); rotate_left; (go_simp; rfl); (try simp only [Act.put, pA, pB, pC])))
      refine wpQuiet_nil ?_
      intro w6 hb6
      have hS6 := hSq.mono hb6
      go_wp2_with ((with_reducible refine wpList_storeL (u := (j : Int)) 0 E_ints cInt1 (sto_int) wU wU (hS6) wU (by first | omega | (simp; done) | (simp; omega)) (by first | omega | (simp; done) | (simp; omega)) (fun _ => wU) (fun _ => wU) ?_); intro _ w7 hS7)
      exact ⟨⟨j + 1, O2.set (k : Int).toNat (j : Int), Nat.succ_le_of_lt hjl, by go_num, H3.out, H4.out, H5.out, hS7⟩, by simp [intOf]; omega⟩
     ·have hd : (x == y) = false := by
       have : x ≠ y := fun e => HKn.out j hjl hjK (by rw [← HY.out, ← HX.out, e])
       simpa using this
      have hk3 : K < j + 1 → atD 0 O2 k = atD 0 SS k := fun h => HK2.out (by omega)
      have H5 := hid hk3
      clear hk3 hjK
      go_wp2_with fail
      refine wp_region_q kR kR ?_
      repeat (first | (((with_reducible refine wpB_idx2 0 E_ints F_int cInt1 wU (rfl) wU (hRa) oD oD (fun _ => wU) (fun _ => ?_)); (try simp only [Act.put, pA, pB, pC]); (try simp only [cInt])); rw [← HX.out]) | (((with_reducible refine wpB_idx2 0 E_ints F_int cInt1 wU (rfl) wU (hRb) oD oD (fun _ => wU) (fun _ => ?_)); (try simp only [Act.put, pA, pB, pC]); (try simp only [cInt])); rw [← HY.out]) |  ((with_reducible refine wpB_load (by first | exact F_int | exact F_u64s) wU wU (by assumption) wU ?_); (try simp only [Act.put, pA, pB, pC])) | ((refine wpQ_oneG ?_ wU (fun w' => ?_) ?_); rotate_left; (go_simp; rfl); (try simp only [Act.put, pA, pB, pC])))
      refine wpQuiet_nil ?_
      intro w6 hb6
      have hS6 := hSq.mono hb6
      go_wp2_with fail
      exact ⟨⟨j + 1, O2, Nat.succ_le_of_lt hjl, by go_num, HOl2.out, HD2.out, H5.out, hS6⟩, by simp [intOf]; omega⟩
    ·have hd3 : ∀ q : Nat, q < k + 1 → atD 0 O2 q = atD 0 SS q := fun q hq => by
      by_cases e : q = k
      ·subst e; exact HK2.out (by omega)
      ·exact HD2.out q (by omega)
     have H3 := hid hd3
     clear hd3
     go_wp2_with fail
     exact ⟨⟨k + 1, O2, Nat.succ_le_of_lt hlt, by go_num, HOl2.out, H3.out, hSq⟩, by simp [intOf]; omega⟩
  ·have hfin : O = SS := by
    have hka : k = n := by have := HNA.out; omega
    refine List.ext_getElem (by rw [HOl.out, HNS.out]) fun q h1 h2 => ?_
    have := HD.out q (by have := HOl.out; omega)
    simpa [atD, h1, h2] using this
   have HFI := hid hfin
   clear hfin
   go_wp2_with fail
   go_ret
   exact ⟨_, rfl, (by rw [← HFI.out]; exact (hSr.own 0 rfl).mono hWb.size), bnext hWb hSr.b⟩
end Go.Proofs.YtoebgfgihfjnnaaGreatDoor
