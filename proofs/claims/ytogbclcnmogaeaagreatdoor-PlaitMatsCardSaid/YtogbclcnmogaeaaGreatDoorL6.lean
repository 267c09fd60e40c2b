/- Contract: PlaitMats returns true. No condition. -/
import Derived.Test.YtogbclcnmogaeaaGreatDoorRD
import Derived.Test.YtogbclcnmogaeaaGreatDoorAwA
set_option linter.all false
namespace Go.Proofs.YtogbclcnmogaeaaGreatDoor
open Go.RowKit
set_option maxHeartbeats 2000000
set_option maxRecDepth 100000

theorem routeGo_len (x y s : Int) : ∀ (f : Nat) (b : Int), (routeGo x y s b f).length ≤ f
  | 0, b => by simp [routeGo]
  | f + 1, b => by
    rw [routeGo]
    split
    · simp
    · have := routeGo_len x y s f ((b + x) % y); simp; omega
theorem PlaitMats_any (x y s : Int) (w : World) :
    Calls Tryz.prog 8 #[.int .i64 x, .int .i64 y, .int .i64 s] w fun r w' => r = .returned (.bool true) ∧ Below w.heap.size w w' := by
  have CS := fun w => Strands_any x y w
  have CR := fun w => Route_any x y s w
  have CM := fun w => Mat_any x y w
  have CH := fun w => Head_any x y w
  have CC := fun w => rCheckMat_any x y w
  by_cases hM : matE x y = 0
  · obtain ⟨h1, h2, h3, h4⟩ := matE_zero hM
    have eM : matL x y = matK y (x - 1).toNat := if_pos hM
    rw [if_pos hM, hM] at CS
    rw [eM, hM] at CM
    rw [hM] at CC
    have RM := fun w => rMat_any x y w h1 h2 h3 h4
    have RS := fun w => rStrands_any x y w (by omega) (by omega) (by omega) (by omega)
    have RH := fun w => rCheckHead_any x y w
    have hLM : (matK y (x - 1).toNat).length ≤ 100 := by rw [matK_len]; omega
    have hg0 : (Int.gcd x y : Int) ≤ y := Int.le_of_dvd (by omega) (Int.gcd_dvd_right x y)
    have hER : routeE x y s = if s < 0 ∨ (Int.gcd x y : Int) ≤ s then 10 else 0 := by simp [routeE, hM]
    have hEH : headE x y = if 12 < x ∨ 200 < (x - 1) * y then 5 else 0 := by simp [headE, hM]
    obtain ⟨LM, hlm⟩ : ∃ q, q = matK y (x - 1).toNat := ⟨_, rfl⟩
    rw [← hlm] at CM RM hLM
    obtain ⟨g, hg⟩ : ∃ q : Int, q = (Int.gcd x y : Int) := ⟨_, rfl⟩
    rw [← hg] at CS RS hg0 hER
    have HCS := hid CS; have HCM := hid CM; have HCC := hid CC; have HRM := hid RM; have HRS := hid RS
    clear CS CM CC RM RS hlm hg hM eM
    by_cases hR : s < 0 ∨ g ≤ s
    · have e1 : routeE x y s = 10 := by rw [hER, if_pos hR]
      rw [e1, if_neg (by decide)] at CR
      have HCR := hid CR; clear CR hER e1
      by_cases hH : 12 < x ∨ 200 < (x - 1) * y
      · have e2 : headE x y = 5 := by rw [hEH, if_pos hH]
        have e3 : headL x y = [] := by rw [headL, e2]; rfl
        rw [e2] at RH
        rw [e2, e3] at CH
        have HRH := hid RH; have HCH := hid CH; clear RH CH hEH e2 e3 hH
        rcases (show s < 0 ∨ (¬ s < 0 ∧ g ≤ s) by omega) with hR | ⟨hR0, hR⟩
        all_goals
          go_enter Tryz.func8, Tryz.ntmps8
          go_wp2_with fail
          refine (HCS.out w).mono ?_
          rintro e w1 ⟨rfl, b1⟩
          go_wp2_with fail
          refine (HCR.out w1).mono ?_
          rintro e w2 ⟨ar, cr, rfl, hr2, _, b2⟩
          go_wp2_with fail
          refine (HCM.out w2).mono ?_
          rintro e w3 ⟨am, cm, rfl, hm3, _, b3⟩
          go_wp2_with fail
          refine (HCH.out w3).mono ?_
          rintro e w4 ⟨ah, ch, rfl, hh4, _, b4⟩
          have t4 := bnext b1 (bnext b2 (bnext b3 b4))
          go_wp2_with fail
          refine (HCC.out w4).mono ?_
          rintro e w' ⟨rfl, rfl⟩
          go_wp2_with fail
          refine (HRS.out w4).mono ?_
          rintro e w5 ⟨rfl, b5⟩
          go_wp2_with fail
          refine (HRM.out w5).mono ?_
          rintro e w6 ⟨v6, rfl, ho6, b6⟩
          obtain ⟨a6, c6, rfl, h6, _, _⟩ := ho6.reps
          go_wp2_with fail
          refine (SameWords_any am a6 cm c6 LM LM w6 (hm3.below (bnext b4 (bnext b5 b6))) h6 (by omega)).mono ?_
          rw [decide_eq_true rfl]
          rintro e w7 ⟨rfl, b7⟩
          have t7 := bnext t4 (bnext b5 (bnext b6 b7))
          go_wp2_with fail
          refine (HRH.out w7).mono ?_
          rintro e w' ⟨rfl, rfl⟩
          go_wp2_with fail
          refine (awake_any w7).mono ?_
          rintro e w8 ⟨rfl, b8⟩
          go_wp2_with fail
          go_ret
          exact ⟨rfl, bnext t7 b8⟩
      · have e2 : headE x y = 0 := by rw [hEH, if_neg hH]
        have e3 : headL x y = cyc (headK (x - 1).toNat) ((x - 1).toNat * y.toNat) := by rw [headL, e2]; rfl
        have hx12 : x ≤ 12 := by omega
        have RHd := fun w => rHead_any x y w h1 hx12 h3 h4
        rw [e2] at RH
        rw [e2, e3] at CH
        obtain ⟨LH, hlh⟩ : ∃ q, q = cyc (headK (x - 1).toNat) ((x - 1).toNat * y.toNat) := ⟨_, rfl⟩
        have hLH : LH.length ≤ 2000 := by
          rw [hlh, cyc_len]
          have := Nat.mul_le_mul (show (x - 1).toNat ≤ 11 by omega) (show y.toNat ≤ 100 by omega)
          omega
        rw [← hlh] at RHd CH
        have HRH := hid RH; have HCH := hid CH; have HRD := hid RHd; clear RH CH RHd hEH e2 e3 hH hlh
        rcases (show s < 0 ∨ (¬ s < 0 ∧ g ≤ s) by omega) with hR | ⟨hR0, hR⟩
        all_goals
          go_enter Tryz.func8, Tryz.ntmps8
          go_wp2_with fail
          refine (HCS.out w).mono ?_
          rintro e w1 ⟨rfl, b1⟩
          go_wp2_with fail
          refine (HCR.out w1).mono ?_
          rintro e w2 ⟨ar, cr, rfl, hr2, _, b2⟩
          go_wp2_with fail
          refine (HCM.out w2).mono ?_
          rintro e w3 ⟨am, cm, rfl, hm3, _, b3⟩
          go_wp2_with fail
          refine (HCH.out w3).mono ?_
          rintro e w4 ⟨ah, ch, rfl, hh4, _, b4⟩
          have t4 := bnext b1 (bnext b2 (bnext b3 b4))
          go_wp2_with fail
          refine (HCC.out w4).mono ?_
          rintro e w' ⟨rfl, rfl⟩
          go_wp2_with fail
          refine (HRS.out w4).mono ?_
          rintro e w5 ⟨rfl, b5⟩
          go_wp2_with fail
          refine (HRM.out w5).mono ?_
          rintro e w6 ⟨v6, rfl, ho6, b6⟩
          obtain ⟨a6, c6, rfl, h6, _, _⟩ := ho6.reps
          go_wp2_with fail
          refine (SameWords_any am a6 cm c6 LM LM w6 (hm3.below (bnext b4 (bnext b5 b6))) h6 (by omega)).mono ?_
          rw [decide_eq_true rfl]
          rintro e w7 ⟨rfl, b7⟩
          have t7 := bnext t4 (bnext b5 (bnext b6 b7))
          go_wp2_with fail
          refine (HRH.out w7).mono ?_
          rintro e w' ⟨rfl, rfl⟩
          go_wp2_with fail
          refine (HRD.out w7).mono ?_
          rintro e w8 ⟨v8, rfl, ho8, b8⟩
          obtain ⟨a8, c8, rfl, h8, _, _⟩ := ho8.reps
          go_wp2_with fail
          refine (SameInts_any ah a8 ch c8 LH LH w8 (hh4.below (bnext b5 (bnext b6 (bnext b7 b8)))) h8 (by omega)).mono ?_
          rw [decide_eq_true rfl]
          rintro e w9 ⟨rfl, b9⟩
          go_wp2_with fail
          refine (awake_any w9).mono ?_
          rintro e w10 ⟨rfl, b10⟩
          go_wp2_with fail
          go_ret
          exact ⟨rfl, bnext t7 (bnext b8 (bnext b9 b10))⟩
    · have e1 : routeE x y s = 0 := by rw [hER, if_neg hR]
      rw [e1, if_pos rfl] at CR
      have h5 : 0 ≤ s := by omega
      have h6' : s < g := by omega
      have RR := fun w => rRoute_any x y s w h1 h2 h3 h4 h5 (by omega)
      have hLR : (routeL x y s).length ≤ 101 := by
        have := routeGo_len x y s y.toNat ((s + x) % y)
        unfold routeL; simp; omega
      obtain ⟨LR, hlr⟩ : ∃ q, q = routeL x y s := ⟨_, rfl⟩
      rw [← hlr] at CR RR hLR
      have HCR := hid CR; have HRR := hid RR; clear CR RR hER e1 hlr hR
      by_cases hH : 12 < x ∨ 200 < (x - 1) * y
      · have e2 : headE x y = 5 := by rw [hEH, if_pos hH]
        have e3 : headL x y = [] := by rw [headL, e2]; rfl
        rw [e2] at RH
        rw [e2, e3] at CH
        have HRH := hid RH; have HCH := hid CH; clear RH CH hEH e2 e3 hH
        go_enter Tryz.func8, Tryz.ntmps8
        go_wp2_with fail
        refine (HCS.out w).mono ?_
        rintro e w1 ⟨rfl, b1⟩
        go_wp2_with fail
        refine (HCR.out w1).mono ?_
        rintro e w2 ⟨ar, cr, rfl, hr2, _, b2⟩
        go_wp2_with fail
        refine (HCM.out w2).mono ?_
        rintro e w3 ⟨am, cm, rfl, hm3, _, b3⟩
        go_wp2_with fail
        refine (HCH.out w3).mono ?_
        rintro e w4 ⟨ah, ch, rfl, hh4, _, b4⟩
        have t4 := bnext b1 (bnext b2 (bnext b3 b4))
        go_wp2_with fail
        refine (HCC.out w4).mono ?_
        rintro e w' ⟨rfl, rfl⟩
        go_wp2_with fail
        refine (HRS.out w4).mono ?_
        rintro e w5 ⟨rfl, b5⟩
        go_wp2_with fail
        refine (HRM.out w5).mono ?_
        rintro e w6 ⟨v6, rfl, ho6, b6⟩
        obtain ⟨a6, c6, rfl, h6, _, _⟩ := ho6.reps
        go_wp2_with fail
        refine (SameWords_any am a6 cm c6 LM LM w6 (hm3.below (bnext b4 (bnext b5 b6))) h6 (by omega)).mono ?_
        rw [decide_eq_true rfl]
        rintro e w7 ⟨rfl, b7⟩
        have t7 := bnext t4 (bnext b5 (bnext b6 b7))
        have hr7 := hr2.below (bnext b3 (bnext b4 (bnext b5 (bnext b6 b7))))
        go_wp2_with fail
        refine (HRR.out w7).mono ?_
        rintro e w8 ⟨v8, rfl, ho8, b8⟩
        obtain ⟨a8, c8, rfl, h8, _, _⟩ := ho8.reps
        go_wp2_with fail
        refine (SameInts_any ar a8 cr c8 LR LR w8 (hr7.below b8) h8 (by omega)).mono ?_
        rw [decide_eq_true rfl]
        rintro e w9 ⟨rfl, b9⟩
        go_wp2_with fail
        refine (HRH.out w9).mono ?_
        rintro e w' ⟨rfl, rfl⟩
        go_wp2_with fail
        refine (awake_any w9).mono ?_
        rintro e w10 ⟨rfl, b10⟩
        go_wp2_with fail
        go_ret
        exact ⟨rfl, bnext t7 (bnext b8 (bnext b9 b10))⟩
      · have e2 : headE x y = 0 := by rw [hEH, if_neg hH]
        have e3 : headL x y = cyc (headK (x - 1).toNat) ((x - 1).toNat * y.toNat) := by rw [headL, e2]; rfl
        have hx12 : x ≤ 12 := by omega
        have RHd := fun w => rHead_any x y w h1 hx12 h3 h4
        rw [e2] at RH
        rw [e2, e3] at CH
        obtain ⟨LH, hlh⟩ : ∃ q, q = cyc (headK (x - 1).toNat) ((x - 1).toNat * y.toNat) := ⟨_, rfl⟩
        have hLH : LH.length ≤ 2000 := by
          rw [hlh, cyc_len]
          have := Nat.mul_le_mul (show (x - 1).toNat ≤ 11 by omega) (show y.toNat ≤ 100 by omega)
          omega
        rw [← hlh] at RHd CH
        have HRH := hid RH; have HCH := hid CH; have HRD := hid RHd; clear RH CH RHd hEH e2 e3 hH hlh
        go_enter Tryz.func8, Tryz.ntmps8
        go_wp2_with fail
        refine (HCS.out w).mono ?_
        rintro e w1 ⟨rfl, b1⟩
        go_wp2_with fail
        refine (HCR.out w1).mono ?_
        rintro e w2 ⟨ar, cr, rfl, hr2, _, b2⟩
        go_wp2_with fail
        refine (HCM.out w2).mono ?_
        rintro e w3 ⟨am, cm, rfl, hm3, _, b3⟩
        go_wp2_with fail
        refine (HCH.out w3).mono ?_
        rintro e w4 ⟨ah, ch, rfl, hh4, _, b4⟩
        have t4 := bnext b1 (bnext b2 (bnext b3 b4))
        go_wp2_with fail
        refine (HCC.out w4).mono ?_
        rintro e w' ⟨rfl, rfl⟩
        go_wp2_with fail
        refine (HRS.out w4).mono ?_
        rintro e w5 ⟨rfl, b5⟩
        go_wp2_with fail
        refine (HRM.out w5).mono ?_
        rintro e w6 ⟨v6, rfl, ho6, b6⟩
        obtain ⟨a6, c6, rfl, h6, _, _⟩ := ho6.reps
        go_wp2_with fail
        refine (SameWords_any am a6 cm c6 LM LM w6 (hm3.below (bnext b4 (bnext b5 b6))) h6 (by omega)).mono ?_
        rw [decide_eq_true rfl]
        rintro e w7 ⟨rfl, b7⟩
        have t7 := bnext t4 (bnext b5 (bnext b6 b7))
        have hr7 := hr2.below (bnext b3 (bnext b4 (bnext b5 (bnext b6 b7))))
        have hh7 := hh4.below (bnext b5 (bnext b6 b7))
        go_wp2_with fail
        refine (HRR.out w7).mono ?_
        rintro e w8 ⟨v8, rfl, ho8, b8⟩
        obtain ⟨a8, c8, rfl, h8, _, _⟩ := ho8.reps
        go_wp2_with fail
        refine (SameInts_any ar a8 cr c8 LR LR w8 (hr7.below b8) h8 (by omega)).mono ?_
        rw [decide_eq_true rfl]
        rintro e w9 ⟨rfl, b9⟩
        go_wp2_with fail
        refine (HRH.out w9).mono ?_
        rintro e w' ⟨rfl, rfl⟩
        go_wp2_with fail
        refine (HRD.out w9).mono ?_
        rintro e w10 ⟨v10, rfl, ho10, b10⟩
        obtain ⟨a10, c10, rfl, h10, _, _⟩ := ho10.reps
        go_wp2_with fail
        refine (SameInts_any ah a10 ch c10 LH LH w10 (hh7.below (bnext b8 (bnext b9 b10))) h10 (by omega)).mono ?_
        rw [decide_eq_true rfl]
        rintro e w11 ⟨rfl, b11⟩
        go_wp2_with fail
        refine (awake_any w11).mono ?_
        rintro e w12 ⟨rfl, b12⟩
        go_wp2_with fail
        go_ret
        exact ⟨rfl, bnext t7 (bnext b8 (bnext b9 (bnext b10 (bnext b11 b12))))⟩
  · have e0 : matE x y = 3 := by unfold matE at *; split at hM <;> simp_all
    have e1 : routeE x y s = 3 := by simp [routeE, e0]
    have e2 : headE x y = 3 := by simp [headE, e0]
    have e3 : matL x y = [] := if_neg hM
    have e4 : headL x y = [] := by rw [headL, e2]; rfl
    rw [if_neg hM, e0] at CS
    rw [e1, if_neg (by decide)] at CR
    rw [e3, e0] at CM
    rw [e2, e4] at CH
    rw [e0] at CC
    have HCS := hid CS; have HCR := hid CR; have HCM := hid CM; have HCH := hid CH; have HCC := hid CC
    clear CS CR CM CH CC e0 e1 e2 e3 e4 hM
    go_enter Tryz.func8, Tryz.ntmps8
    go_wp2_with fail
    refine (HCS.out w).mono ?_
    rintro e w1 ⟨rfl, b1⟩
    go_wp2_with fail
    refine (HCR.out w1).mono ?_
    rintro e w2 ⟨ar, cr, rfl, hr2, _, b2⟩
    go_wp2_with fail
    refine (HCM.out w2).mono ?_
    rintro e w3 ⟨am, cm, rfl, hm3, _, b3⟩
    go_wp2_with fail
    refine (HCH.out w3).mono ?_
    rintro e w4 ⟨ah, ch, rfl, hh4, _, b4⟩
    go_wp2_with fail
    refine (HCC.out w4).mono ?_
    rintro e w' ⟨rfl, rfl⟩
    go_wp2_with fail
    refine (awake_any w4).mono ?_
    rintro e w5 ⟨rfl, b5⟩
    go_wp2_with fail
    go_ret
    exact ⟨rfl, bnext b1 (bnext b2 (bnext b3 (bnext b4 b5)))⟩
end Go.Proofs.YtogbclcnmogaeaaGreatDoor
