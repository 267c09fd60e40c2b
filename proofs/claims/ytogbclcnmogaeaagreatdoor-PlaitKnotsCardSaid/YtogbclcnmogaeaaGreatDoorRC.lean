/- Contracts of the reference: CheckMat, Strands, Route, Mat, CheckHead, Head. Conditions: sizes as stated. -/
import Derived.Test.YtogbclcnmogaeaaGreatDoorRA
import Derived.Test.YtogbclcnmogaeaaGreatDoorSnA
import Derived.Test.YtogbclcnmogaeaaGreatDoorAlA
import Derived.Test.YtogbclcnmogaeaaGreatDoorPnA
set_option linter.all false
namespace Go.Proofs.YtogbclcnmogaeaaGreatDoor
open Go.RowKit
set_option maxHeartbeats 1000000
set_option maxRecDepth 100000

theorem rCheckMat_any (x y : Int) (w : World) :
    Calls Tryz.prog 66 #[.int .i64 x, .int .i64 y] w fun r w' => r = .returned (.int .i64 (matE x y)) ∧ w = w' := by
  cases h1 : btw x 2 100
  · have e : matE x y = 3 := by unfold matE; rw [if_pos (by simp [btw] at h1; omega)]
    rw [e]
    have H1 := hid h1; clear h1 e
    go_enter Tryz.func66, Tryz.ntmps66
    go_wp2_with fail
    refine (rbetween_any _ _ _ _).mono ?_; rw [H1.out]; rintro e w' ⟨rfl, rfl⟩
    go_wp2_with fail
    go_ret
    exact ⟨rfl, rfl⟩
  · cases h2 : btw y 2 100
    · have e : matE x y = 3 := by unfold matE; rw [if_pos (by simp [btw] at h2; omega)]
      rw [e]
      have H1 := hid h1; have H2 := hid h2; clear h1 h2 e
      go_enter Tryz.func66, Tryz.ntmps66
      go_wp2_with fail
      refine (rbetween_any _ _ _ _).mono ?_; rw [H1.out]; rintro e w' ⟨rfl, rfl⟩
      go_wp2_with fail
      refine (rbetween_any _ _ _ _).mono ?_; rw [H2.out]; rintro e w' ⟨rfl, rfl⟩
      go_wp2_with fail
      go_ret
      exact ⟨rfl, rfl⟩
    · have e : matE x y = 0 := by unfold matE; rw [if_neg (by simp [btw] at h1 h2; omega)]
      rw [e]
      have H1 := hid h1; have H2 := hid h2; clear h1 h2 e
      go_enter Tryz.func66, Tryz.ntmps66
      go_wp2_with fail
      refine (rbetween_any _ _ _ _).mono ?_; rw [H1.out]; rintro e w' ⟨rfl, rfl⟩
      go_wp2_with fail
      refine (rbetween_any _ _ _ _).mono ?_; rw [H2.out]; rintro e w' ⟨rfl, rfl⟩
      go_wp2_with fail
      go_ret
      exact ⟨rfl, rfl⟩

theorem rgcd_any (x y : Int) (w : World) (hx : 0 ≤ x) (hx2 : x ≤ 1048576) (hy : 0 ≤ y) (hy2 : y ≤ 1048576) :
    Calls Tryz.prog 187 #[.int .i64 x, .int .i64 y] w fun r w' => r = .returned (.int .i64 (Int.gcd x y)) ∧ Below w.heap.size w w' := by
  go_enter Tryz.func187, Tryz.ntmps187
  go_wp2
  go_loopw [0, 1] (fun p q wr => ∃ a b : Int, p = .int .i64 a ∧ q = .int .i64 b ∧ 0 ≤ a ∧ a ≤ 1048576 ∧ 0 ≤ b ∧ b ≤ 1048576 ∧ Int.gcd a b = Int.gcd x y ∧ Below w.heap.size w wr) (fun _ q _ => (intOf q).toNat)
  case atStart => exact ⟨x, y, rfl, rfl, hx, hx2, hy, hy2, rfl, Below.refl _ _⟩
  case round =>
    obtain ⟨a, b, rfl, rfl, ha, ha2, hb, hb2, hg, hbr⟩ := hrel
    have HG := hid hg; clear hg
    by_cases hlt : 0 < b
    · have hm0 := Int.emod_nonneg a (by omega : b ≠ 0)
      have hm1 := Int.emod_lt_of_pos a hlt
      have hne : ¬ b = 0 := by omega
      have hwr : IntKind.i64.wrap (a.tmod b) = a % b := by rw [Int.tmod_eq_emod_of_nonneg ha]; exact IntWalk.i64_in _ (by omega)
      go_wp2_with fail
      refine wp_region_quiet_lit (by kernel_rfl) (by kernel_rfl) ?_
      repeat (first | fail | quiet_step (fail))
      refine wpQuiet_nil ?_
      intro w2 hb2
      replace hb2 := below_drewN hb2
      clear hwr
      go_wp2_with fail
      rw [Int.tmod_eq_emod_of_nonneg (b := b) ha]
      refine ⟨⟨b, a % b, rfl, rfl, by omega, by omega, by omega, by omega, ?_, bnext hbr hb2⟩, by simp [intOf]; omega⟩
      rw [← HG.out, gcd_step ha hb]
    · have : b = 0 := by omega
      subst this
      have hfin : a = Int.gcd x y := by
        rw [← HG.out, Int.gcd_zero]; omega
      have HF := hid hfin; clear hfin
      go_wp2_with fail
      go_ret
      exact ⟨by rw [← HF.out]; rfl, hbr⟩
theorem rGcd_any (x y : Int) (w : World) (hx : 0 ≤ x) (hx2 : x ≤ 1048576) (hy : 0 ≤ y) (hy2 : y ≤ 1048576) :
    Calls Tryz.prog 127 #[.int .i64 x, .int .i64 y] w fun r w' => r = .returned (.int .i64 (Int.gcd x y)) ∧ Below w.heap.size w w' := by
  have hg := fun w => rgcd_any x y w hx hx2 hy hy2
  have HG := hid hg; clear hg
  have m1 : max x (-x) = x := by omega
  have m2 : max y (-y) = y := by omega
  have n1 : ¬ x < -x := by omega
  have n2 : ¬ y < -y := by omega
  go_enter Tryz.func127, Tryz.ntmps127
  go_wp2_with fail
  refine (HG.out _).mono ?_
  rintro e w1 ⟨rfl, hb1⟩
  go_wp2_with fail
  go_ret
  exact ⟨rfl, hb1⟩
theorem rStrands_any (x y : Int) (w : World) (hx : 0 ≤ x) (hx2 : x ≤ 1048576) (hy : 0 ≤ y) (hy2 : y ≤ 1048576) :
    Calls Tryz.prog 67 #[.int .i64 x, .int .i64 y] w fun r w' => r = .returned (.int .i64 (Int.gcd x y)) ∧ Below w.heap.size w w' := by
  have hg := fun w => rGcd_any x y w hx hx2 hy hy2
  have HG := hid hg; clear hg
  go_enter Tryz.func67, Tryz.ntmps67
  go_wp2_with fail
  refine (HG.out _).mono ?_
  rintro e w1 ⟨rfl, hb1⟩
  go_wp2_with fail
  go_ret
  exact ⟨rfl, hb1⟩

theorem rRoute_any (x y s : Int) (w : World) (h1 : 2 ≤ x) (h2 : x ≤ 100) (h3 : 2 ≤ y) (h4 : y ≤ 100) (h5 : 0 ≤ s) (h6 : s < y) :
    Calls Tryz.prog 70 #[.int .i64 x, .int .i64 y, .int .i64 s] w fun r w' => ∃ v, r = .returned v ∧ OwnI w.heap.size w' v (routeL x y s) ∧ Below w.heap.size w w' := by
  have hq0 := Int.emod_nonneg (s + x) (by omega : y ≠ 0)
  have hq1 := Int.emod_lt_of_pos (s + x) (by omega : 0 < y)
  go_enter Tryz.func70, Tryz.ntmps70
  go_wp2_with fail
  go_loopw [7, 8] (fun v b wr => ∃ (k f : Nat) (q : Int) (o : List Int), (k : Int) + f = y ∧ 0 < f ∧ b = .int .i64 q ∧ q = (s + ((k : Int) + 1) * x) % y ∧ OwnI w.heap.size wr v o ∧ o.length = k + 1 ∧ lenV v = k + 1 ∧ o ++ routeGo x y s q f = routeL x y s ∧ Below w.heap.size w wr) (fun v _ _ => y.toNat - lenV v)
  case atStart =>
    refine ⟨0, y.toNat, (s + x) % y, [s], by omega, by omega, rfl, by simp, own_newN cIntS [s] 1 rfl (by decide) _ rfl (Nat.le_refl _) rfl, rfl, rfl, rfl, bal (Below.refl _ _) _⟩
  case round =>
    obtain ⟨k, f, q, o, hkf, hf, rfl, hq, hO, hol, hlv, hgo, hbr⟩ := hrel
    have hqq0 := Int.emod_nonneg (s + ((k : Int) + 1) * x) (by omega : y ≠ 0)
    have hqq1 := Int.emod_lt_of_pos (s + ((k : Int) + 1) * x) (by omega : 0 < y)
    rw [← hq] at hqq0 hqq1
    obtain ⟨g, rfl⟩ : ∃ g, f = g + 1 := ⟨f - 1, by omega⟩
    have hole : o.length ≤ 100 := by omega
    have HOL := hid hol; clear hol
    have HLV := hid hlv; clear hlv
    have HGO := hid hgo; clear hgo
    have HKF := hid hkf
    have hbs := hbr.size
    by_cases hqs : q = s
    · have hb : (q != s) = false := by simp [hqs]
      have hfin : o = routeL x y s := by
        have := HGO.out; rw [routeGo, if_pos hqs] at this; simpa using this
      have HF := hid hfin; clear hfin hq hqs hkf
      go_wp2_with fail
      go_ret
      exact ⟨_, rfl, by rw [← HF.out]; exact hO, hbr⟩
    · have hb : (q != s) = true := by simpa using hqs
      have hg1 : 0 < g := by
        rcases Nat.eq_zero_or_pos g with h0 | h0
        · exfalso; apply hqs; rw [hq, show ((k : Int) + 1) = y by omega]; exact routeGo_ends x y s (by omega) (by omega)
        · exact h0
      have hst : routeGo x y s q (g + 1) = q :: routeGo x y s ((q + x) % y) g := by rw [routeGo, if_neg hqs]
      have hnq : (q + x) % y = (s + (((k + 1 : Nat) : Int) + 1) * x) % y := by
        rw [hq, Int.emod_add_emod]; congr 1; rw [show ((k + 1 : Nat) : Int) = (k : Int) + 1 by omega, Int.add_mul ((k : Int) + 1) 1 x, Int.one_mul]; omega
      have HST := hid hst; clear hst
      have HNQ := hid hnq; clear hnq
      have HQ := hid hq; clear hq hqs
      have hr0 := Int.emod_nonneg (q + x) (by omega : y ≠ 0)
      clear hkf
      go_wp2_with (first | ((with_reducible refine wpList_app (l := o) (ys := [q]) E_ints (by with_unfolding_all rfl) (by with_unfolding_all rfl) ((hO).alloc _) (reps_new1 cIntS (q) _ _ (by simp) rfl) cIntO (by simp; omega) (by first | omega | (simp; omega)) (by simp; omega) ?_); intro v3 w3 ho3 hg3 hat3))
      have hkf := HKF.out
      have hlv3 : lenV v3 = k + 2 := by
        obtain ⟨a3, cap3, rfl, _⟩ := ho3.reps
        show (o ++ [q]).length = k + 2
        rw [List.length_append, HOL.out]; rfl
      refine ⟨⟨k + 1, g, _, _, by omega, hg1, rfl, HNQ.out, ho3, by rw [List.length_append, HOL.out]; rfl, hlv3, ?_, below_own (bal hbr (.cells #[.int .i64 q] 3)) hg3 (hO.alloc _) (Nat.le_refl _)⟩, ?_⟩
      · have := HGO.out; rw [HST.out] at this; simpa using this
      · rw [hlv3, HLV.out]; omega
end Go.Proofs.YtogbclcnmogaeaaGreatDoor
