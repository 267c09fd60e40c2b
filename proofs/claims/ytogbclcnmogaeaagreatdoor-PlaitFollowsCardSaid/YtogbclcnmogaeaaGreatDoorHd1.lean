/- Contract: Head. Conditions: none. -/
import Derived.Test.YtogbclcnmogaeaaGreatDoorRp1
import Derived.Test.YtogbclcnmogaeaaGreatDoorPnA
import Derived.Test.YtogbclcnmogaeaaGreatDoorPlB
set_option linter.all false
namespace Go.Proofs.YtogbclcnmogaeaaGreatDoor
open Go.RowKit
set_option maxHeartbeats 1000000
set_option maxRecDepth 100000

def headE (x y : Int) : Int := if matE x y ≠ 0 then matE x y else if 12 < x ∨ 200 < (x - 1) * y then 5 else 0
def headA (k : Nat) : Int := ((k : Int) + 1) * (1 - 2 * ((k : Int) % 2))
def headK (k : Nat) : List Int := (List.range k).map headA
theorem headK_succ (k : Nat) : headK (k + 1) = headK k ++ [headA k] := by simp [headK, List.range_succ]
theorem headK_len (k : Nat) : (headK k).length = k := by simp [headK]
def headL (x y : Int) : List Int := if headE x y = 0 then cyc (headK (x - 1).toNat) ((x - 1).toNat * y.toNat) else []

theorem Head_any (x y : Int) (w : World) :
    Calls Tryz.prog 65 #[.int .i64 x, .int .i64 y] w fun r w' => RetLE w (headL x y) (headE x y) r w' := by
  have hck := fun w => checkMat_any x y w
  by_cases h : matE x y = 0
  · obtain ⟨h1, h2, h3, h4⟩ := matE_zero h
    rw [h] at hck
    have HCK := hid hck; clear hck
    have hmul : 0 ≤ (x - 1) * y ∧ (x - 1) * y ≤ 10000 := ⟨Int.mul_nonneg (by omega) (by omega), by
      have := Int.mul_le_mul (show x - 1 ≤ 100 by omega) h4 (by omega) (by omega)
      omega⟩
    obtain ⟨hm1, hm2⟩ := hmul
    by_cases c1 : 12 < x
    · have e1 : headE x y = 5 := by simp [headE, h, c1]
      have e2 : headL x y = [] := by rw [headL, e1]; rfl
      rw [e1, e2]
      clear e1 e2 h
      go_enter Tryz.func65, Tryz.ntmps65
      go_wp2_with (first | (go_at_call 124; refine (HCK.out _).mono ?_; rintro e w' ⟨rfl, rfl⟩) | (go_at_call 102; refine (when_any _ _ _).mono ?_; rintro e w' ⟨rfl, rfl⟩) | (go_at_call 99; refine (first_any _ _ [_, _] _ (reps_newN cIntS [_, _] 2 rfl (by decide) _ _ (by simp) rfl)).mono ?_; rintro e w' ⟨rfl, rfl⟩))
      go_ret2
      exact RetLE.none rfl (bal (Below.refl _ _) _)
    by_cases c2 : 200 < (x - 1) * y
    · have e1 : headE x y = 5 := by simp [headE, h, c2]
      have e2 : headL x y = [] := by rw [headL, e1]; rfl
      rw [e1, e2]
      clear e1 e2 h
      go_enter Tryz.func65, Tryz.ntmps65
      go_wp2_with (first | (go_at_call 124; refine (HCK.out _).mono ?_; rintro e w' ⟨rfl, rfl⟩) | (go_at_call 102; refine (when_any _ _ _).mono ?_; rintro e w' ⟨rfl, rfl⟩) | (go_at_call 99; refine (first_any _ _ [_, _] _ (reps_newN cIntS [_, _] 2 rfl (by decide) _ _ (by simp) rfl)).mono ?_; rintro e w' ⟨rfl, rfl⟩))
      go_ret2
      exact RetLE.none rfl (bal (Below.refl _ _) _)
    · have e1 : headE x y = 0 := by simp [headE, h, c1, c2]
      have e2 : headL x y = cyc (headK (x - 1).toNat) ((x - 1).toNat * y.toNat) := by rw [headL, e1]; rfl
      rw [e1, e2]
      clear e1 e2 h
      obtain ⟨m, hm⟩ : ∃ m : Nat, x = m + 1 := ⟨(x - 1).toNat, by omega⟩
      subst hm
      obtain ⟨c, rfl⟩ : ∃ c : Nat, y = c := ⟨y.toNat, by omega⟩
      have e0 : ((m : Int) + 1 - 1).toNat = m := by omega
      rw [e0]
      clear e0
      have e3 : (m : Int) + 1 - 1 = m := by omega
      rw [e3] at c2 hm1 hm2
      clear e3
      go_enter Tryz.func65, Tryz.ntmps65
      go_wp2_with (first | (go_at_call 124; refine (HCK.out _).mono ?_; rintro e w' ⟨rfl, rfl⟩) | (go_at_call 102; refine (when_any _ _ _).mono ?_; rintro e w' ⟨rfl, rfl⟩) | (go_at_call 99; refine (first_any _ _ [_, _] _ (reps_newN cIntS [_, _] 2 rfl (by decide) _ _ (by simp) rfl)).mono ?_; rintro e w' ⟨rfl, rfl⟩))
      go_loopw [7, 8, 29] (fun v _ i wr => ∃ k : Nat, k ≤ m ∧ i = .int .i64 k ∧ OwnI w.heap.size wr v (headK k) ∧ Below w.heap.size w wr) (fun _ _ i _ => m - (intOf i).toNat)
      case atStart => exact ⟨0, by omega, rfl, own_nil cIntS, bal (Below.refl _ _) _⟩
      case round =>
        obtain ⟨k, hk, rfl, hO, hbr⟩ := hrel
        have hle : (headK k).length ≤ 100 := by rw [headK_len]; omega
        have hbs := hbr.size
        by_cases hlt : k < m
        · have hs := headK_succ k
          by_cases hp : (k : Int) % 2 = 0
          · have hA : headA k = (k : Int) + 1 := by rw [headA, hp]; omega
            rw [hA] at hs
            have HS := hid hs; clear hs hA
            go_wp2_with (first | ((with_reducible refine wpList_app (l := (headK k)) (ys := [((k : Int) + 1)]) E_ints (by with_unfolding_all rfl) (by with_unfolding_all rfl) ((hO).alloc _) (reps_new1 cIntS (((k : Int) + 1)) _ _ (by simp) rfl) cIntO (by simp; omega) (by first | omega | (simp; omega)) (by simp; omega) ?_); intro v3 w3 ho3 hg3 hat3))
            refine ⟨⟨k + 1, by omega, by go_num, by rw [HS.out]; exact ho3, below_own (bal hbr (.cells #[.int .i64 ((k : Int) + 1)] 3)) hg3 (hO.alloc _) (Nat.le_refl _)⟩, by simp [intOf]; omega⟩
          · have hp1 : (k : Int) % 2 = 1 := by omega
            have hA : headA k = -((k : Int) + 1) := by rw [headA, hp1]; omega
            rw [hA] at hs
            have HS := hid hs; clear hs hA hp
            go_wp2_with (first | ((with_reducible refine wpList_app (l := (headK k)) (ys := [(-((k : Int) + 1))]) E_ints (by with_unfolding_all rfl) (by with_unfolding_all rfl) ((hO).alloc _) (reps_new1 cIntS ((-((k : Int) + 1))) _ _ (by simp) rfl) cIntO (by simp; omega) (by first | omega | (simp; omega)) (by simp; omega) ?_); intro v3 w3 ho3 hg3 hat3))
            refine ⟨⟨k + 1, by omega, by go_num, by rw [HS.out]; exact ho3, below_own (bal hbr (.cells #[.int .i64 (-((k : Int) + 1))] 3)) hg3 (hO.alloc _) (Nat.le_refl _)⟩, by simp [intOf]; omega⟩
        · have : k = m := by omega
          subst this
          rw [headK_len] at hle
          obtain ⟨ar, capr, rfl, hrr, _, _⟩ := hO.reps
          have hre := Repeat_any ar capr c (headK k) wr hrr (by rw [headK_len]; omega) (by rw [headK_len]; omega) (by omega) (by omega)
          rw [headK_len] at hre ⊢
          have HRE := hid hre; clear hre
          go_wp2_with fail
          refine HRE.out.mono ?_
          rintro e w5 ⟨v5, rfl, ho5, hb5⟩
          go_wp2_with fail
          go_ret2
          exact RetLE.own v5 rfl ho5 hbs (hbr.trans (hb5.mono hbs))
  · have e1 : headE x y = matE x y := by simp [headE, h]
    have e3 : matE x y = 3 := by unfold matE at *; split at h <;> simp_all
    have e2 : headL x y = [] := by rw [headL, if_neg (by rw [e1]; exact h)]
    rw [e3] at hck
    rw [e1, e2, e3]
    have HCK := hid hck; clear hck h e1 e2 e3
    by_cases c1 : 12 < x
    · go_enter Tryz.func65, Tryz.ntmps65
      go_wp2_with (first | (go_at_call 124; refine (HCK.out _).mono ?_; rintro e w' ⟨rfl, rfl⟩) | (go_at_call 102; refine (when_any _ _ _).mono ?_; rintro e w' ⟨rfl, rfl⟩) | (go_at_call 99; refine (first_any _ _ [_, _] _ (reps_newN cIntS [_, _] 2 rfl (by decide) _ _ (by simp) rfl)).mono ?_; rintro e w' ⟨rfl, rfl⟩))
      all_goals go_ret2
      all_goals exact RetLE.none rfl (bal (Below.refl _ _) _)
    · go_enter Tryz.func65, Tryz.ntmps65
      go_wp2_with (first | (go_at_call 124; refine (HCK.out _).mono ?_; rintro e w' ⟨rfl, rfl⟩) | (go_at_call 102; refine (when_any _ _ _).mono ?_; rintro e w' ⟨rfl, rfl⟩) | (go_at_call 99; refine (first_any _ _ [_, _] _ (reps_newN cIntS [_, _] 2 rfl (by decide) _ _ (by simp) rfl)).mono ?_; rintro e w' ⟨rfl, rfl⟩))
      all_goals go_ret2
      all_goals exact RetLE.none rfl (bal (Below.refl _ _) _)
end Go.Proofs.YtogbclcnmogaeaaGreatDoor
