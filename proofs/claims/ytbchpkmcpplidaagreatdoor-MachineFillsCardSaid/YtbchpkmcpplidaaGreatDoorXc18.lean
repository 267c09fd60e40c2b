/- Contracts and plain facts that the claim uses (K3c K3). Conditions: as each one states. -/
import Derived.Test.YtbchpkmcpplidaaGreatDoorXc10
import Derived.Test.YtbchpkmcpplidaaGreatDoorXc17
set_option linter.all false

namespace Go.Proofs.YtbchpkmcpplidaaGreatDoor
open Go.RowKit
set_option maxHeartbeats 8000000
set_option maxRecDepth 100000
theorem mf_out_bad (m : MacV) (ad al : Option Addr) (cap cl : Nat) (l : List Int) (w : World) (hR : Ints w ad cap m.sw) (hL : Ints w al cl l) (hI : InI m.gears) (hw : LibW w) (hsb : (decide (m.sw.length ≤ 19) && decide (l.length ≤ 67)) = true) (hm : macE m = 0) (hG : 4 < m.gears) (he : loadE m l ≠ 0) :
  Calls Tryz.prog 5 #[mV m ad cap, .slice al l.length cl] w fun r w' => r = .returned (.bool true) ∧ Below w.heap.size w w' := by
 have hS0 := ((SL.nil w).box (.cells (mC m ad cap) 24)).box (.cells (mC m ad cap) 25)
 simp only [World.size_alloc] at hS0
 have HA := hid awake4_any
 have hlc := hL.le
 have CSh := fun w => rShort_any m ad cap al cl l.length w
 rw [hsb] at CSh
 have HSh := hid CSh
 clear CSh hsb
 have CM := fun w h => rCheckMachine_any m ad cap w h
 have CK := fun w h h2 => lcheck_any m ad cap al cl l w h h2
 have KM : ChkM m ad cap := fun w h => CheckMachine_any m ad cap w h hI
 have KL : ChkL m ad cap al cl l := CheckLoad_any m ad cap al cl l KM
 have CFI := fun w h => mFill_any m ad cap w h KM
 have CFR := fun w h h2 => mFree_any m ad cap al cl l w h h2 KL
 clear KM KL
 have hok := (macE_zero hm).1
 have hlo := hok.lo
 have hhi := hok.hi
 rw [hm] at CM
 have HM := hid CM
 clear CM
 have hfe : fillE m = 22 := by unfold fillE; rw [if_neg (by simp [hm]), if_pos (by omega)]
 rw [hfe, if_neg (by decide)] at CFI
 have HFI := hid CFI
 have hg3 : decide (m.gears ≤ 3) = false := decide_eq_false (by omega)
 have hg4 : decide (4 < m.gears) = true := decide_eq_true hG
 clear CFI hfe hok
 obtain ⟨E, hE⟩ : ∃ E, E = loadE m l := ⟨_, rfl⟩
 have hEn : E ≠ 0 := by rw [hE]; exact he
 have hne : (E != 0) = true := by simpa using hEn
 have hne2 : (E == 0) = false := by simpa using hEn
 have hac : accE m l = E := by unfold accE; rw [if_pos he]; exact hE.symm
 rw [hac, if_neg hEn] at CFR
 rw [← hE] at CK
 have HCK := hid CK; have HFR := hid CFR
 clear CK CFR hac hE he hm hEn
 go_enter Tryz.func5, Tryz.ntmps5
 go_wp2_with fail
 refine (HA.out _ (hw.below hS0.b)).mono ?_
 rintro e w1 ⟨rfl, b1⟩
 have hS1 := hS0.mono b1
 have q1 := (hS1.blk 0 rfl).1
 have p1 := (hS1.blk 1 rfl).1
 clear hS0
 go_wp2_with (with_reducible refine wpList_ldS (n := 4) (us := mC m ad cap) A_rmach (by kernel_rfl) (by with_unfolding_all rfl) (by with_unfolding_all rfl) (by assumption) (by with_unfolding_all rfl) (by with_unfolding_all rfl) ?_)
 refine (HSh.out _).mono ?_
 rintro e w2 ⟨rfl, b2⟩
 have hS2 := hS1.mono b2
 have q2 := (hS2.blk 0 rfl).1
 have p2 := (hS2.blk 1 rfl).1
 clear hS1 q1 p1
 go_wp2_with (with_reducible refine wpList_ldS (n := 4) (us := mC m ad cap) A_rmach (by kernel_rfl) (by with_unfolding_all rfl) (by with_unfolding_all rfl) (by assumption) (by with_unfolding_all rfl) (by with_unfolding_all rfl) ?_)
 refine (HM.out _ (hR.below hS2.b)).mono ?_
 rintro e w3 ⟨rfl, b3⟩
 have hS3 := hS2.mono b3
 have q3 := (hS3.blk 0 rfl).1
 have p3 := (hS3.blk 1 rfl).1
 clear hS2 q2 p2
 go_wp2_with (first | (with_reducible refine wpList_ldS (n := 4) (us := mC m ad cap) A_mach (by kernel_rfl) (by with_unfolding_all rfl) (by with_unfolding_all rfl) (by assumption) (by with_unfolding_all rfl) (by with_unfolding_all rfl) ?_) | (with_reducible refine wpList_ldB F_int (by with_unfolding_all rfl) (by with_unfolding_all rfl) p3 (by with_unfolding_all rfl) ?_))
 refine (HFI.out _ (hR.below hS3.b)).mono ?_
 rintro e w4 ⟨v4, rfl, ho4, b4⟩
 have hS4 := hS3.mono b4
 have q4 := (hS4.blk 0 rfl).1
 have p4 := (hS4.blk 1 rfl).1
 clear hS3 q3 p3
 obtain ⟨a4, c4, rfl, h4, _, _⟩ := ho4.reps
 clear ho4
 go_wp2_with (with_reducible refine wpList_ldB F_int (by with_unfolding_all rfl) (by with_unfolding_all rfl) p4 (by with_unfolding_all rfl) ?_)
 refine (lwhen_any true 22 w4).mono ?_
 rintro e w' ⟨rfl, rfl⟩
 have hS5 := hS4.al (.cells #[.int .i64 0, .int .i64 22] 3)
 have q5 := (hS5.blk 0 rfl).1
 have p5 := (hS5.blk 1 rfl).1
 clear hS4 q4 p4
 go_wp2_with ((go_at_call 23; refine (lfirst4_any _ _ [_, _] _ (reps_newN cIntS [_, _] 2 rfl (by decide) _ _ (by simp) rfl) (by simp)).mono ?_; rw [firstE_z, firstE_head (by decide)]; rintro e w' ⟨rfl, rfl⟩))
 refine (llistBad_any a4 none c4 0 0 22 _ rfl).mono ?_
 rintro e w6 ⟨rfl, b6⟩
 have hS6 := hS5.mono b6
 have q6 := (hS6.blk 0 rfl).1
 have p6 := (hS6.blk 1 rfl).1
 clear hS5 q5 p5
 clear h4
 go_wp2_with (with_reducible refine wpList_ldS (n := 4) (us := mC m ad cap) A_rmach (by kernel_rfl) (by with_unfolding_all rfl) (by with_unfolding_all rfl) (by assumption) (by with_unfolding_all rfl) (by with_unfolding_all rfl) ?_)
 refine (HCK.out _ (hR.below hS6.b) (hL.below hS6.b)).mono ?_
 rintro e w7 ⟨rfl, b7⟩
 have hS7 := hS6.mono b7
 have q7 := (hS7.blk 0 rfl).1
 have p7 := (hS7.blk 1 rfl).1
 clear hS6 q6 p6
 go_wp2_with (with_reducible refine wpList_ldS (n := 4) (us := mC m ad cap) A_mach (by kernel_rfl) (by with_unfolding_all rfl) (by with_unfolding_all rfl) (by assumption) (by with_unfolding_all rfl) (by with_unfolding_all rfl) ?_)
 refine (HFR.out _ (hR.below hS7.b) (hL.below hS7.b)).mono ?_
 rintro e w8 ⟨v8, rfl, ho8, b8⟩
 have hS8 := hS7.mono b8
 have q8 := (hS8.blk 0 rfl).1
 have p8 := (hS8.blk 1 rfl).1
 clear hS7 q7 p7
 obtain ⟨a8, c8, rfl, h8, _, _⟩ := ho8.reps
 clear ho8
 go_wp2_with fail
 refine (llistBad_any a8 none c8 0 0 E _ hne).mono ?_
 rintro e w9 ⟨rfl, b9⟩
 go_wp2_with fail
 go_ret
 exact ⟨rfl, bnext hS8.b b9⟩
theorem mf_out_long (m : MacV) (ad al : Option Addr) (cap cl : Nat) (l : List Int) (w : World) (hR : Ints w ad cap m.sw) (hL : Ints w al cl l) (hI : InI m.gears) (hw : LibW w) (hsb : (decide (m.sw.length ≤ 19) && decide (l.length ≤ 67)) = true) (hm : macE m = 0) (hG : 4 < m.gears) (he : loadE m l = 0) (h10 : 10 < l.length) :
  Calls Tryz.prog 5 #[mV m ad cap, .slice al l.length cl] w fun r w' => r = .returned (.bool true) ∧ Below w.heap.size w w' := by
 have hS0 := ((SL.nil w).box (.cells (mC m ad cap) 24)).box (.cells (mC m ad cap) 25)
 simp only [World.size_alloc] at hS0
 have HA := hid awake4_any
 have hlc := hL.le
 have CSh := fun w => rShort_any m ad cap al cl l.length w
 rw [hsb] at CSh
 have HSh := hid CSh
 clear CSh hsb
 have CM := fun w h => rCheckMachine_any m ad cap w h
 have CK := fun w h h2 => lcheck_any m ad cap al cl l w h h2
 have KM : ChkM m ad cap := fun w h => CheckMachine_any m ad cap w h hI
 have KL : ChkL m ad cap al cl l := CheckLoad_any m ad cap al cl l KM
 have CFI := fun w h => mFill_any m ad cap w h KM
 have CFR := fun w h h2 => mFree_any m ad cap al cl l w h h2 KL
 clear KM KL
 have hok := (macE_zero hm).1
 have hlo := hok.lo
 have hhi := hok.hi
 rw [hm] at CM
 have HM := hid CM
 clear CM
 have hfe : fillE m = 22 := by unfold fillE; rw [if_neg (by simp [hm]), if_pos (by omega)]
 rw [hfe, if_neg (by decide)] at CFI
 have HFI := hid CFI
 have hg3 : decide (m.gears ≤ 3) = false := decide_eq_false (by omega)
 have hg4 : decide (4 < m.gears) = true := decide_eq_true hG
 clear CFI hfe hok
 have hlok := loadE_zero he
 have hfew := hlok.few
 have hn64 : l.length ≤ 64 := by omega
 have CRM := fun w h h2 => rMeet_any m ad cap al cl l w h h2 hlo hhi hlok.rng hn64 hlok.nodup
 rw [he] at CK
 have HCK := hid CK
 clear CK
 clear CRM CFR hlok he hm
 go_enter Tryz.func5, Tryz.ntmps5
 go_wp2_with fail
 refine (HA.out _ (hw.below hS0.b)).mono ?_
 rintro e w1 ⟨rfl, b1⟩
 have hS1 := hS0.mono b1
 have q1 := (hS1.blk 0 rfl).1
 have p1 := (hS1.blk 1 rfl).1
 clear hS0
 go_wp2_with (with_reducible refine wpList_ldS (n := 4) (us := mC m ad cap) A_rmach (by kernel_rfl) (by with_unfolding_all rfl) (by with_unfolding_all rfl) (by assumption) (by with_unfolding_all rfl) (by with_unfolding_all rfl) ?_)
 refine (HSh.out _).mono ?_
 rintro e w2 ⟨rfl, b2⟩
 have hS2 := hS1.mono b2
 have q2 := (hS2.blk 0 rfl).1
 have p2 := (hS2.blk 1 rfl).1
 clear hS1 q1 p1
 go_wp2_with (with_reducible refine wpList_ldS (n := 4) (us := mC m ad cap) A_rmach (by kernel_rfl) (by with_unfolding_all rfl) (by with_unfolding_all rfl) (by assumption) (by with_unfolding_all rfl) (by with_unfolding_all rfl) ?_)
 refine (HM.out _ (hR.below hS2.b)).mono ?_
 rintro e w3 ⟨rfl, b3⟩
 have hS3 := hS2.mono b3
 have q3 := (hS3.blk 0 rfl).1
 have p3 := (hS3.blk 1 rfl).1
 clear hS2 q2 p2
 go_wp2_with (first | (with_reducible refine wpList_ldS (n := 4) (us := mC m ad cap) A_mach (by kernel_rfl) (by with_unfolding_all rfl) (by with_unfolding_all rfl) (by assumption) (by with_unfolding_all rfl) (by with_unfolding_all rfl) ?_) | (with_reducible refine wpList_ldB F_int (by with_unfolding_all rfl) (by with_unfolding_all rfl) p3 (by with_unfolding_all rfl) ?_))
 refine (HFI.out _ (hR.below hS3.b)).mono ?_
 rintro e w4 ⟨v4, rfl, ho4, b4⟩
 have hS4 := hS3.mono b4
 have q4 := (hS4.blk 0 rfl).1
 have p4 := (hS4.blk 1 rfl).1
 clear hS3 q3 p3
 obtain ⟨a4, c4, rfl, h4, _, _⟩ := ho4.reps
 clear ho4
 go_wp2_with (with_reducible refine wpList_ldB F_int (by with_unfolding_all rfl) (by with_unfolding_all rfl) p4 (by with_unfolding_all rfl) ?_)
 refine (lwhen_any true 22 w4).mono ?_
 rintro e w' ⟨rfl, rfl⟩
 have hS5 := hS4.al (.cells #[.int .i64 0, .int .i64 22] 3)
 have q5 := (hS5.blk 0 rfl).1
 have p5 := (hS5.blk 1 rfl).1
 clear hS4 q4 p4
 go_wp2_with ((go_at_call 23; refine (lfirst4_any _ _ [_, _] _ (reps_newN cIntS [_, _] 2 rfl (by decide) _ _ (by simp) rfl) (by simp)).mono ?_; rw [firstE_z, firstE_head (by decide)]; rintro e w' ⟨rfl, rfl⟩))
 refine (llistBad_any a4 none c4 0 0 22 _ rfl).mono ?_
 rintro e w6 ⟨rfl, b6⟩
 have hS6 := hS5.mono b6
 have q6 := (hS6.blk 0 rfl).1
 have p6 := (hS6.blk 1 rfl).1
 clear hS5 q5 p5
 clear h4
 go_wp2_with (with_reducible refine wpList_ldS (n := 4) (us := mC m ad cap) A_rmach (by kernel_rfl) (by with_unfolding_all rfl) (by with_unfolding_all rfl) (by assumption) (by with_unfolding_all rfl) (by with_unfolding_all rfl) ?_)
 refine (HCK.out _ (hR.below hS6.b) (hL.below hS6.b)).mono ?_
 rintro e w7 ⟨rfl, b7⟩
 have hS7 := hS6.mono b7
 have q7 := (hS7.blk 0 rfl).1
 have p7 := (hS7.blk 1 rfl).1
 clear hS6 q6 p6
 go_wp2_with fail
 go_ret
 exact ⟨rfl, hS7.b⟩
theorem mf_out_none (m : MacV) (ad al : Option Addr) (cap cl : Nat) (l : List Int) (w : World) (hR : Ints w ad cap m.sw) (hL : Ints w al cl l) (hI : InI m.gears) (hw : LibW w) (hsb : (decide (m.sw.length ≤ 19) && decide (l.length ≤ 67)) = true) (hm : macE m = 0) (hG : 4 < m.gears) (he : loadE m l = 0) (h10 : l.length ≤ 10) (hff : firstM m l = none) :
  Calls Tryz.prog 5 #[mV m ad cap, .slice al l.length cl] w fun r w' => r = .returned (.bool true) ∧ Below w.heap.size w w' := by
 have hS0 := ((SL.nil w).box (.cells (mC m ad cap) 24)).box (.cells (mC m ad cap) 25)
 simp only [World.size_alloc] at hS0
 have HA := hid awake4_any
 have hlc := hL.le
 have CSh := fun w => rShort_any m ad cap al cl l.length w
 rw [hsb] at CSh
 have HSh := hid CSh
 clear CSh hsb
 have CM := fun w h => rCheckMachine_any m ad cap w h
 have CK := fun w h h2 => lcheck_any m ad cap al cl l w h h2
 have KM : ChkM m ad cap := fun w h => CheckMachine_any m ad cap w h hI
 have KL : ChkL m ad cap al cl l := CheckLoad_any m ad cap al cl l KM
 have CFI := fun w h => mFill_any m ad cap w h KM
 have CFR := fun w h h2 => mFree_any m ad cap al cl l w h h2 KL
 clear KM KL
 have hok := (macE_zero hm).1
 have hlo := hok.lo
 have hhi := hok.hi
 rw [hm] at CM
 have HM := hid CM
 clear CM
 have hfe : fillE m = 22 := by unfold fillE; rw [if_neg (by simp [hm]), if_pos (by omega)]
 rw [hfe, if_neg (by decide)] at CFI
 have HFI := hid CFI
 have hg3 : decide (m.gears ≤ 3) = false := decide_eq_false (by omega)
 have hg4 : decide (4 < m.gears) = true := decide_eq_true hG
 clear CFI hfe hok
 have hlok := loadE_zero he
 have hfew := hlok.few
 have hn64 : l.length ≤ 64 := by omega
 have CRM := fun w h h2 => rMeet_any m ad cap al cl l w h h2 hlo hhi hlok.rng hn64 hlok.nodup
 rw [he] at CK
 have HCK := hid CK
 clear CK
 have CR2 := fun w h h2 => rFree_any m ad cap al cl l w h h2 hlo hhi hlok.rng hn64
 have hac : accE m l = 0 := by unfold accE; rw [if_neg (by simp [he]), hff]; rfl
 rw [hff] at CRM
 dsimp only [meetV] at CRM
 rw [hac, if_pos rfl] at CFR
 have hfrl : (freeM m l).length ≤ 64 := by have := freeM_len (m := m) (l := l); omega
 obtain ⟨FR, hFRR⟩ : ∃ FR, FR = freeM m l := ⟨_, rfl⟩
 rw [← hFRR] at CFR hfrl
 simp only [← hFRR] at CR2
 have HFR := hid CFR; have HRM := hid CRM; have HRF2 := hid CR2
 clear CFR CRM CR2 hFRR hff hac hlok he hm
 go_enter Tryz.func5, Tryz.ntmps5
 go_wp2_with fail
 refine (HA.out _ (hw.below hS0.b)).mono ?_
 rintro e w1 ⟨rfl, b1⟩
 have hS1 := hS0.mono b1
 have q1 := (hS1.blk 0 rfl).1
 have p1 := (hS1.blk 1 rfl).1
 clear hS0
 go_wp2_with (with_reducible refine wpList_ldS (n := 4) (us := mC m ad cap) A_rmach (by kernel_rfl) (by with_unfolding_all rfl) (by with_unfolding_all rfl) (by assumption) (by with_unfolding_all rfl) (by with_unfolding_all rfl) ?_)
 refine (HSh.out _).mono ?_
 rintro e w2 ⟨rfl, b2⟩
 have hS2 := hS1.mono b2
 have q2 := (hS2.blk 0 rfl).1
 have p2 := (hS2.blk 1 rfl).1
 clear hS1 q1 p1
 go_wp2_with (with_reducible refine wpList_ldS (n := 4) (us := mC m ad cap) A_rmach (by kernel_rfl) (by with_unfolding_all rfl) (by with_unfolding_all rfl) (by assumption) (by with_unfolding_all rfl) (by with_unfolding_all rfl) ?_)
 refine (HM.out _ (hR.below hS2.b)).mono ?_
 rintro e w3 ⟨rfl, b3⟩
 have hS3 := hS2.mono b3
 have q3 := (hS3.blk 0 rfl).1
 have p3 := (hS3.blk 1 rfl).1
 clear hS2 q2 p2
 go_wp2_with (first | (with_reducible refine wpList_ldS (n := 4) (us := mC m ad cap) A_mach (by kernel_rfl) (by with_unfolding_all rfl) (by with_unfolding_all rfl) (by assumption) (by with_unfolding_all rfl) (by with_unfolding_all rfl) ?_) | (with_reducible refine wpList_ldB F_int (by with_unfolding_all rfl) (by with_unfolding_all rfl) p3 (by with_unfolding_all rfl) ?_))
 refine (HFI.out _ (hR.below hS3.b)).mono ?_
 rintro e w4 ⟨v4, rfl, ho4, b4⟩
 have hS4 := hS3.mono b4
 have q4 := (hS4.blk 0 rfl).1
 have p4 := (hS4.blk 1 rfl).1
 clear hS3 q3 p3
 obtain ⟨a4, c4, rfl, h4, _, _⟩ := ho4.reps
 clear ho4
 go_wp2_with (with_reducible refine wpList_ldB F_int (by with_unfolding_all rfl) (by with_unfolding_all rfl) p4 (by with_unfolding_all rfl) ?_)
 refine (lwhen_any true 22 w4).mono ?_
 rintro e w' ⟨rfl, rfl⟩
 have hS5 := hS4.al (.cells #[.int .i64 0, .int .i64 22] 3)
 have q5 := (hS5.blk 0 rfl).1
 have p5 := (hS5.blk 1 rfl).1
 clear hS4 q4 p4
 go_wp2_with ((go_at_call 23; refine (lfirst4_any _ _ [_, _] _ (reps_newN cIntS [_, _] 2 rfl (by decide) _ _ (by simp) rfl) (by simp)).mono ?_; rw [firstE_z, firstE_head (by decide)]; rintro e w' ⟨rfl, rfl⟩))
 refine (llistBad_any a4 none c4 0 0 22 _ rfl).mono ?_
 rintro e w6 ⟨rfl, b6⟩
 have hS6 := hS5.mono b6
 have q6 := (hS6.blk 0 rfl).1
 have p6 := (hS6.blk 1 rfl).1
 clear hS5 q5 p5
 clear h4
 go_wp2_with (with_reducible refine wpList_ldS (n := 4) (us := mC m ad cap) A_rmach (by kernel_rfl) (by with_unfolding_all rfl) (by with_unfolding_all rfl) (by assumption) (by with_unfolding_all rfl) (by with_unfolding_all rfl) ?_)
 refine (HCK.out _ (hR.below hS6.b) (hL.below hS6.b)).mono ?_
 rintro e w7 ⟨rfl, b7⟩
 have hS7 := hS6.mono b7
 have q7 := (hS7.blk 0 rfl).1
 have p7 := (hS7.blk 1 rfl).1
 clear hS6 q6 p6
 go_wp2_with (with_reducible refine wpList_ldS (n := 4) (us := mC m ad cap) A_mach (by kernel_rfl) (by with_unfolding_all rfl) (by with_unfolding_all rfl) (by assumption) (by with_unfolding_all rfl) (by with_unfolding_all rfl) ?_)
 refine (HFR.out _ (hR.below hS7.b) (hL.below hS7.b)).mono ?_
 rintro e w8 ⟨v8, rfl, ho8, b8⟩
 have hS8 := hS7.mono b8
 have q8 := (hS8.blk 0 rfl).1
 have p8 := (hS8.blk 1 rfl).1
 clear hS7 q7 p7
 obtain ⟨a8, c8, rfl, h8, _, _⟩ := ho8.reps
 clear ho8
 go_wp2_with (with_reducible refine wpList_ldS (n := 4) (us := mC m ad cap) A_rmach (by kernel_rfl) (by with_unfolding_all rfl) (by with_unfolding_all rfl) (by assumption) (by with_unfolding_all rfl) (by with_unfolding_all rfl) ?_)
 refine (HRM.out _ (hR.below hS8.b) (hL.below hS8.b)).mono ?_
 rintro e w9 ⟨rfl, b9⟩
 have hS9 := hS8.mono b9
 have q9 := (hS9.blk 0 rfl).1
 have p9 := (hS9.blk 1 rfl).1
 clear hS8 q8 p8
 replace h8 := h8.below b9
 go_wp2_with fail
 refine (lwhen_any false 16 w9).mono ?_
 rintro e w' ⟨rfl, rfl⟩
 go_wp2_with (with_reducible refine wpList_ldS (n := 4) (us := mC m ad cap) A_rmach (by kernel_rfl) (by with_unfolding_all rfl) (by with_unfolding_all rfl) (by assumption) (by with_unfolding_all rfl) (by with_unfolding_all rfl) ?_)
 refine (HRF2.out _ (hR.below hS9.b) (hL.below hS9.b)).mono ?_
 rintro e w10 ⟨v10, rfl, ho10, b10⟩
 obtain ⟨a10, c10, rfl, h10, _, _⟩ := ho10.reps
 have hS10 := hS9.mono b10
 have q10 := (hS10.blk 0 rfl).1
 have p10 := (hS10.blk 1 rfl).1
 clear hS9 q9 p9
 replace h8 := h8.below b10
 clear ho10
 go_wp2_with fail
 refine (llistOk_any a8 a10 c8 c10 _ FR _ h8 h10 rfl (by omega)).mono ?_
 rintro e w11 ⟨rfl, b11⟩
 go_wp2_with fail
 go_ret
 exact ⟨rfl, bnext hS10.b b11⟩
theorem mf_out_some (m : MacV) (ad al : Option Addr) (cap cl : Nat) (l : List Int) (w : World) (hR : Ints w ad cap m.sw) (hL : Ints w al cl l) (hI : InI m.gears) (hw : LibW w) (hsb : (decide (m.sw.length ≤ 19) && decide (l.length ≤ 67)) = true) (hm : macE m = 0) (hG : 4 < m.gears) (he : loadE m l = 0) (h10 : l.length ≤ 10) (v : Nat × Int) (hff : firstM m l = some v) :
  Calls Tryz.prog 5 #[mV m ad cap, .slice al l.length cl] w fun r w' => r = .returned (.bool true) ∧ Below w.heap.size w w' := by
 have hS0 := ((SL.nil w).box (.cells (mC m ad cap) 24)).box (.cells (mC m ad cap) 25)
 simp only [World.size_alloc] at hS0
 have HA := hid awake4_any
 have hlc := hL.le
 have CSh := fun w => rShort_any m ad cap al cl l.length w
 rw [hsb] at CSh
 have HSh := hid CSh
 clear CSh hsb
 have CM := fun w h => rCheckMachine_any m ad cap w h
 have CK := fun w h h2 => lcheck_any m ad cap al cl l w h h2
 have KM : ChkM m ad cap := fun w h => CheckMachine_any m ad cap w h hI
 have KL : ChkL m ad cap al cl l := CheckLoad_any m ad cap al cl l KM
 have CFI := fun w h => mFill_any m ad cap w h KM
 have CFR := fun w h h2 => mFree_any m ad cap al cl l w h h2 KL
 clear KM KL
 have hok := (macE_zero hm).1
 have hlo := hok.lo
 have hhi := hok.hi
 rw [hm] at CM
 have HM := hid CM
 clear CM
 have hfe : fillE m = 22 := by unfold fillE; rw [if_neg (by simp [hm]), if_pos (by omega)]
 rw [hfe, if_neg (by decide)] at CFI
 have HFI := hid CFI
 have hg3 : decide (m.gears ≤ 3) = false := decide_eq_false (by omega)
 have hg4 : decide (4 < m.gears) = true := decide_eq_true hG
 clear CFI hfe hok
 have hlok := loadE_zero he
 have hfew := hlok.few
 have hn64 : l.length ≤ 64 := by omega
 have CRM := fun w h h2 => rMeet_any m ad cap al cl l w h h2 hlo hhi hlok.rng hn64 hlok.nodup
 rw [he] at CK
 have HCK := hid CK
 clear CK
 obtain ⟨V1, V2⟩ := v
 have hac : accE m l = 16 := by unfold accE; rw [if_neg (by simp [he]), hff]; rfl
 rw [hff] at CRM
 dsimp only [meetV] at CRM
 rw [hac, if_neg (by decide)] at CFR
 have hv0 : decide (0 ≤ (V1 : Int)) = true := by simp
 have HFR := hid CFR; have HRM := hid CRM
 clear CFR CRM hff hac hlok he hm
 go_enter Tryz.func5, Tryz.ntmps5
 go_wp2_with fail
 refine (HA.out _ (hw.below hS0.b)).mono ?_
 rintro e w1 ⟨rfl, b1⟩
 have hS1 := hS0.mono b1
 have q1 := (hS1.blk 0 rfl).1
 have p1 := (hS1.blk 1 rfl).1
 clear hS0
 go_wp2_with (with_reducible refine wpList_ldS (n := 4) (us := mC m ad cap) A_rmach (by kernel_rfl) (by with_unfolding_all rfl) (by with_unfolding_all rfl) (by assumption) (by with_unfolding_all rfl) (by with_unfolding_all rfl) ?_)
 refine (HSh.out _).mono ?_
 rintro e w2 ⟨rfl, b2⟩
 have hS2 := hS1.mono b2
 have q2 := (hS2.blk 0 rfl).1
 have p2 := (hS2.blk 1 rfl).1
 clear hS1 q1 p1
 go_wp2_with (with_reducible refine wpList_ldS (n := 4) (us := mC m ad cap) A_rmach (by kernel_rfl) (by with_unfolding_all rfl) (by with_unfolding_all rfl) (by assumption) (by with_unfolding_all rfl) (by with_unfolding_all rfl) ?_)
 refine (HM.out _ (hR.below hS2.b)).mono ?_
 rintro e w3 ⟨rfl, b3⟩
 have hS3 := hS2.mono b3
 have q3 := (hS3.blk 0 rfl).1
 have p3 := (hS3.blk 1 rfl).1
 clear hS2 q2 p2
 go_wp2_with (first | (with_reducible refine wpList_ldS (n := 4) (us := mC m ad cap) A_mach (by kernel_rfl) (by with_unfolding_all rfl) (by with_unfolding_all rfl) (by assumption) (by with_unfolding_all rfl) (by with_unfolding_all rfl) ?_) | (with_reducible refine wpList_ldB F_int (by with_unfolding_all rfl) (by with_unfolding_all rfl) p3 (by with_unfolding_all rfl) ?_))
 refine (HFI.out _ (hR.below hS3.b)).mono ?_
 rintro e w4 ⟨v4, rfl, ho4, b4⟩
 have hS4 := hS3.mono b4
 have q4 := (hS4.blk 0 rfl).1
 have p4 := (hS4.blk 1 rfl).1
 clear hS3 q3 p3
 obtain ⟨a4, c4, rfl, h4, _, _⟩ := ho4.reps
 clear ho4
 go_wp2_with (with_reducible refine wpList_ldB F_int (by with_unfolding_all rfl) (by with_unfolding_all rfl) p4 (by with_unfolding_all rfl) ?_)
 refine (lwhen_any true 22 w4).mono ?_
 rintro e w' ⟨rfl, rfl⟩
 have hS5 := hS4.al (.cells #[.int .i64 0, .int .i64 22] 3)
 have q5 := (hS5.blk 0 rfl).1
 have p5 := (hS5.blk 1 rfl).1
 clear hS4 q4 p4
 go_wp2_with ((go_at_call 23; refine (lfirst4_any _ _ [_, _] _ (reps_newN cIntS [_, _] 2 rfl (by decide) _ _ (by simp) rfl) (by simp)).mono ?_; rw [firstE_z, firstE_head (by decide)]; rintro e w' ⟨rfl, rfl⟩))
 refine (llistBad_any a4 none c4 0 0 22 _ rfl).mono ?_
 rintro e w6 ⟨rfl, b6⟩
 have hS6 := hS5.mono b6
 have q6 := (hS6.blk 0 rfl).1
 have p6 := (hS6.blk 1 rfl).1
 clear hS5 q5 p5
 clear h4
 go_wp2_with (with_reducible refine wpList_ldS (n := 4) (us := mC m ad cap) A_rmach (by kernel_rfl) (by with_unfolding_all rfl) (by with_unfolding_all rfl) (by assumption) (by with_unfolding_all rfl) (by with_unfolding_all rfl) ?_)
 refine (HCK.out _ (hR.below hS6.b) (hL.below hS6.b)).mono ?_
 rintro e w7 ⟨rfl, b7⟩
 have hS7 := hS6.mono b7
 have q7 := (hS7.blk 0 rfl).1
 have p7 := (hS7.blk 1 rfl).1
 clear hS6 q6 p6
 go_wp2_with (with_reducible refine wpList_ldS (n := 4) (us := mC m ad cap) A_mach (by kernel_rfl) (by with_unfolding_all rfl) (by with_unfolding_all rfl) (by assumption) (by with_unfolding_all rfl) (by with_unfolding_all rfl) ?_)
 refine (HFR.out _ (hR.below hS7.b) (hL.below hS7.b)).mono ?_
 rintro e w8 ⟨v8, rfl, ho8, b8⟩
 have hS8 := hS7.mono b8
 have q8 := (hS8.blk 0 rfl).1
 have p8 := (hS8.blk 1 rfl).1
 clear hS7 q7 p7
 obtain ⟨a8, c8, rfl, h8, _, _⟩ := ho8.reps
 clear ho8
 go_wp2_with (with_reducible refine wpList_ldS (n := 4) (us := mC m ad cap) A_rmach (by kernel_rfl) (by with_unfolding_all rfl) (by with_unfolding_all rfl) (by assumption) (by with_unfolding_all rfl) (by with_unfolding_all rfl) ?_)
 refine (HRM.out _ (hR.below hS8.b) (hL.below hS8.b)).mono ?_
 rintro e w9 ⟨rfl, b9⟩
 have hS9 := hS8.mono b9
 have q9 := (hS9.blk 0 rfl).1
 have p9 := (hS9.blk 1 rfl).1
 clear hS8 q8 p8
 go_wp2_with fail
 refine (lwhen_any true 16 w9).mono ?_
 rintro e w' ⟨rfl, rfl⟩
 go_wp2_with fail
 refine (llistBad_any a8 none c8 0 0 16 _ rfl).mono ?_
 rintro e w10 ⟨rfl, b10⟩
 go_wp2_with fail
 go_ret
 exact ⟨rfl, bnext hS9.b b10⟩
end Go.Proofs.YtbchpkmcpplidaaGreatDoor

namespace Go.Proofs.YtbchpkmcpplidaaGreatDoor
open Go.RowKit
set_option maxHeartbeats 8000000
set_option maxRecDepth 100000
theorem MachineFills_any (m : MacV) (ad al : Option Addr) (cap cl : Nat) (l : List Int) (w : World) (hR : Ints w ad cap m.sw) (hL : Ints w al cl l) (hI : InI m.gears) (hw : LibW w) :
  Calls Tryz.prog 5 #[mV m ad cap, .slice al l.length cl] w fun r w' => r = .returned (.bool true) ∧ Below w.heap.size w w' := by
 cases hsb : (decide (m.sw.length ≤ 19) && decide (l.length ≤ 67))
 ·skip
  have hS0 := ((SL.nil w).box (.cells (mC m ad cap) 24)).box (.cells (mC m ad cap) 25)
  simp only [World.size_alloc] at hS0
  have HA := hid awake4_any
  have hlc := hL.le
  have CSh := fun w => rShort_any m ad cap al cl l.length w
  rw [hsb] at CSh
  have HSh := hid CSh
  clear CSh hsb
  go_enter Tryz.func5, Tryz.ntmps5
  go_wp2_with fail
  refine (HA.out _ (hw.below hS0.b)).mono ?_
  rintro e w1 ⟨rfl, b1⟩
  have hS1 := hS0.mono b1
  have q1 := (hS1.blk 0 rfl).1
  have p1 := (hS1.blk 1 rfl).1
  clear hS0
  go_wp2_with (with_reducible refine wpList_ldS (n := 4) (us := mC m ad cap) A_rmach (by kernel_rfl) (by with_unfolding_all rfl) (by with_unfolding_all rfl) (by assumption) (by with_unfolding_all rfl) (by with_unfolding_all rfl) ?_)
  refine (HSh.out _).mono ?_
  rintro e w2 ⟨rfl, b2⟩
  have hS2 := hS1.mono b2
  have q2 := (hS2.blk 0 rfl).1
  have p2 := (hS2.blk 1 rfl).1
  clear hS1 q1 p1
  go_wp2_with fail
  refine (HA.out _ (hw.below hS2.b)).mono ?_
  rintro e w3 ⟨rfl, b3⟩
  have hS3 := hS2.mono b3
  have q3 := (hS3.blk 0 rfl).1
  have p3 := (hS3.blk 1 rfl).1
  clear hS2 q2 p2
  go_wp2_with fail
  go_ret
  exact ⟨rfl, hS3.b⟩
 ·by_cases hm : macE m = 0
  ·by_cases hG : m.gears ≤ 3
   ·skip
    by_cases he : loadE m l = 0
    ·by_cases h10 : l.length ≤ 10
     ·cases hff : firstM m l with
      | none => exact mf_good_none m ad al cap cl l w hR hL hI hw hsb hm hG he h10 hff
      | some v => exact mf_good_some m ad al cap cl l w hR hL hI hw hsb hm hG he h10 v hff
     ·exact mf_good_long m ad al cap cl l w hR hL hI hw hsb hm hG he (by omega)
    ·exact mf_good_bad m ad al cap cl l w hR hL hI hw hsb hm hG he
   ·by_cases hG2 : 4 < m.gears
    ·skip
     by_cases he : loadE m l = 0
     ·by_cases h10 : l.length ≤ 10
      ·cases hff : firstM m l with
       | none => exact mf_out_none m ad al cap cl l w hR hL hI hw hsb hm hG2 he h10 hff
       | some v => exact mf_out_some m ad al cap cl l w hR hL hI hw hsb hm hG2 he h10 v hff
      ·exact mf_out_long m ad al cap cl l w hR hL hI hw hsb hm hG2 he (by omega)
     ·exact mf_out_bad m ad al cap cl l w hR hL hI hw hsb hm hG2 he
    ·skip
     by_cases he : loadE m l = 0
     ·by_cases h10 : l.length ≤ 10
      ·cases hff : firstM m l with
       | none => exact mf_four_none m ad al cap cl l w hR hL hI hw hsb hm hG hG2 he h10 hff
       | some v => exact mf_four_some m ad al cap cl l w hR hL hI hw hsb hm hG hG2 he h10 v hff
      ·exact mf_four_long m ad al cap cl l w hR hL hI hw hsb hm hG hG2 he (by omega)
     ·exact mf_four_bad m ad al cap cl l w hR hL hI hw hsb hm hG hG2 he
  ·cases hG : decide (4 < m.gears)
   ·exact mf_mac_false m ad al cap cl l w hR hL hI hw hsb hm hG
   ·exact mf_mac_true m ad al cap cl l w hR hL hI hw hsb hm hG
end Go.Proofs.YtbchpkmcpplidaaGreatDoor
