/- Contracts: checkMat, strands, Strands, size. Conditions: numbers fit an int. Contract: Route. Conditions: numbers fit an int. -/
import Derived.Test.YtmomeggnegcheaaGreatDoorPlA
import Derived.Test.YtmomeggnegcheaaGreatDoorQA
import Derived.Test.YtmomeggnegcheaaGreatDoorPlB
import Derived.Test.YtmomeggnegcheaaGreatDoorTyA
set_option linter.all false
/- Contracts: checkMat, strands, Strands, size. Conditions: numbers fit an int. -/
namespace Go.Proofs.YtmomeggnegcheaaGreatDoor
open Go.RowKit
set_option maxHeartbeats 400000
set_option maxRecDepth 100000

def matE (x y : Int) : Int := if x < 2 ∨ y < 2 ∨ 100 < x ∨ 100 < y then 3 else 0
theorem checkMat_any (x y : Int) (w : World) :
    Calls Tryz.prog 97 #[.int .i64 x, .int .i64 y] w fun r w' => r = .returned (.int .i64 (matE x y)) ∧ w = w' := by
  by_cases h1 : min x y < 2
  · have e : matE x y = 3 := by unfold matE; rw [if_pos (by omega)]
    rw [e]
    go_enter Tryz.func97, Tryz.ntmps97
    go_wp2_with (go_at_call 89; refine (when_any _ _ _).mono ?_; rintro e w' ⟨rfl, rfl⟩)
    all_goals
      go_ret
      exact ⟨rfl, rfl⟩
  by_cases h2 : 100 < max x y
  · have e : matE x y = 3 := by unfold matE; rw [if_pos (by omega)]
    rw [e]
    go_enter Tryz.func97, Tryz.ntmps97
    go_wp2_with (go_at_call 89; refine (when_any _ _ _).mono ?_; rintro e w' ⟨rfl, rfl⟩)
    all_goals
      go_ret
      exact ⟨rfl, rfl⟩
  · have e : matE x y = 0 := by unfold matE; rw [if_neg (by omega)]
    rw [e]
    go_enter Tryz.func97, Tryz.ntmps97
    go_wp2_with (go_at_call 89; refine (when_any _ _ _).mono ?_; rintro e w' ⟨rfl, rfl⟩)
    all_goals
      go_ret
      exact ⟨rfl, rfl⟩
theorem matE_zero {x y : Int} (h : matE x y = 0) : 2 ≤ x ∧ x ≤ 100 ∧ 2 ≤ y ∧ y ≤ 100 := by
  unfold matE at h; split at h <;> omega

theorem gcd_step {a b : Int} (ha : 0 ≤ a) (hb : 0 ≤ b) : Int.gcd b (a % b) = Int.gcd a b := by
  obtain ⟨m, rfl⟩ := Int.eq_ofNat_of_zero_le ha
  obtain ⟨n, rfl⟩ := Int.eq_ofNat_of_zero_le hb
  show Nat.gcd n (m % n) = Nat.gcd m n
  rw [Nat.gcd_comm m n, Nat.gcd_rec n m, Nat.gcd_comm]
theorem strands_any (x y : Int) (w : World) (hx : 0 ≤ x) (hx2 : x ≤ 1048576) (hy : 0 ≤ y) (hy2 : y ≤ 1048576) :
    Calls Tryz.prog 98 #[.int .i64 x, .int .i64 y] w fun r w' => r = .returned (.int .i64 (Int.gcd x y)) ∧ Below w.heap.size w w' := by
  go_enter Tryz.func98, Tryz.ntmps98
  go_wp2
  go_loopw [0, 1] (fun p q wr => ∃ a b : Int, p = .int .i64 a ∧ q = .int .i64 b ∧ 0 ≤ a ∧ a ≤ 1048576 ∧ 0 ≤ b ∧ b ≤ 1048576 ∧ Int.gcd a b = Int.gcd x y ∧ Below w.heap.size w wr) (fun _ q _ => (intOf q).toNat)
  case atStart => exact ⟨x, y, rfl, rfl, hx, hx2, hy, hy2, rfl, Below.refl _ _⟩
  case round =>
    obtain ⟨a, b, rfl, rfl, ha, ha2, hb, hb2, hg, hbr⟩ := hrel
    have HG := hid hg; clear hg
    by_cases hlt : 0 < b
    · have hm0 := Int.emod_nonneg a (by omega : b ≠ 0)
      have hm1 := Int.emod_lt_of_pos a hlt
      have hne : ¬ b = 0 := by omega
      have hwr : IntKind.i64.wrap (a.tmod b) = a % b := by rw [Int.tmod_eq_emod_of_nonneg ha]; exact IntWalk.i64_in _ (by omega)
      go_wp2_with fail
      refine wp_region_quiet_lit (by kernel_rfl) (by kernel_rfl) ?_
      repeat (first | fail | quiet_step (fail))
      refine wpQuiet_nil ?_
      intro w2 hb2
      replace hb2 := below_drewN hb2
      clear hwr
      go_wp2_with fail
      rw [Int.tmod_eq_emod_of_nonneg (b := b) ha]
      refine ⟨⟨b, a % b, rfl, rfl, by omega, by omega, by omega, by omega, ?_, bnext hbr hb2⟩, by simp [intOf]; omega⟩
      rw [← HG.out, gcd_step ha hb]
    · have : b = 0 := by omega
      subst this
      have hfin : a = Int.gcd x y := by
        rw [← HG.out, Int.gcd_zero]; omega
      have HF := hid hfin; clear hfin
      go_wp2_with fail
      go_ret
      exact ⟨by rw [← HF.out]; rfl, hbr⟩

theorem Strands_any (x y : Int) (w : World) :
    Calls Tryz.prog 47 #[.int .i64 x, .int .i64 y] w fun r w' => r = .returned (.tuple #[.int .i64 (if matE x y = 0 then Int.gcd x y else 0), .int .i64 (matE x y)]) ∧ Below w.heap.size w w' := by
  have hc := checkMat_any x y w
  by_cases h : matE x y = 0
  · obtain ⟨h1, h2, h3, h4⟩ := matE_zero h
    rw [if_pos h, h]
    rw [h] at hc
    have HC := hid hc; clear hc h
    go_enter Tryz.func47, Tryz.ntmps47
    go_wp2_with fail
    refine HC.out.mono ?_
    rintro e w1 ⟨rfl, rfl⟩
    go_wp2_with fail
    refine (strands_any x y w (by omega) (by omega) (by omega) (by omega)).mono ?_
    rintro e w1 ⟨rfl, hb⟩
    go_wp2_with fail
    go_ret2
    exact ⟨rfl, hb⟩
  · rw [if_neg h]
    have hne : (matE x y != 0) = true := by simpa using h
    have HC := hid hc; clear hc h
    go_enter Tryz.func47, Tryz.ntmps47
    go_wp2_with fail
    refine HC.out.mono ?_
    rintro e w1 ⟨rfl, rfl⟩
    go_wp2_with fail
    go_ret2
    exact ⟨rfl, Below.refl _ _⟩

def absI (n : Int) : Int := if 0 ≤ n then n else -n
theorem size_any (n : Int) (w : World) (h : -9223372036854775807 ≤ n) (h2 : n ≤ 9223372036854775807) :
    Calls Tryz.prog 96 #[.int .i64 n] w fun r w' => r = .returned (.int .i64 (absI n)) ∧ w = w' := by
  go_enter Tryz.func96, Tryz.ntmps96
  go_wp2
  · go_ret
    exact ⟨by rw [show absI n = -n by unfold absI; split <;> omega]; rfl, rfl⟩
  · go_ret
    exact ⟨by rw [show absI n = n by unfold absI; split <;> omega]; rfl, rfl⟩
end Go.Proofs.YtmomeggnegcheaaGreatDoor

/- Contract: Route. Conditions: numbers fit an int. -/
namespace Go.Proofs.YtmomeggnegcheaaGreatDoor
open Go.RowKit
set_option maxHeartbeats 400000
set_option maxRecDepth 100000

/-- the bights of a strand: at most f more from b on. -/
def routeGo (x y s : Int) : Int → Nat → List Int
  | _, 0 => []
  | b, f + 1 => if b = s then [] else b :: routeGo x y s ((b + x) % y) f
def routeL (x y s : Int) : List Int := s :: routeGo x y s ((s + x) % y) y.toNat
def routeE (x y s : Int) : Int := if matE x y ≠ 0 then matE x y else if s < 0 ∨ (Int.gcd x y : Int) ≤ s then 10 else 0
/-- after k steps from s, in y slots: (s + k x) mod y. -/
theorem routeGo_ends (x y s : Int) (hs : 0 ≤ s) (hsy : s < y) : (s + y * x) % y = s := by
  rw [Int.add_mul_emod_self_left, Int.emod_eq_of_lt hs hsy]

theorem Route_any (x y s : Int) (w : World) :
    Calls Tryz.prog 48 #[.int .i64 x, .int .i64 y, .int .i64 s] w fun r w' => RetLE w (if routeE x y s = 0 then routeL x y s else []) (routeE x y s) r w' := by
  have hc := checkMat_any x y w
  by_cases h : matE x y = 0
  · obtain ⟨h1, h2, h3, h4⟩ := matE_zero h
    rw [h] at hc
    have HC := hid hc; clear hc
    have hg0 : (Int.gcd x y : Int) ≤ y := Int.le_of_dvd (by omega) (Int.gcd_dvd_right x y)
    by_cases h5 : s < 0
    · have hE : routeE x y s = 10 := by simp [routeE, h, h5]
      rw [hE]
      clear h hE hg0
      go_enter Tryz.func48, Tryz.ntmps48
      go_wp2_with fail
      refine HC.out.mono ?_
      rintro e w1 ⟨rfl, rfl⟩
      go_wp2_with fail
      go_ret2
      exact RetLE.none rfl (Below.refl _ _)
    by_cases h6 : (Int.gcd x y : Int) ≤ s
    · have hE : routeE x y s = 10 := by simp [routeE, h, h6]
      rw [hE]
      clear h hE
      have hst := strands_any x y w (by omega) (by omega) (by omega) (by omega)
      obtain ⟨g, hg⟩ : ∃ g : Int, g = (Int.gcd x y : Int) := ⟨_, rfl⟩
      rw [← hg] at hst h6 hg0
      clear hg
      have HST := hid hst; clear hst
      go_enter Tryz.func48, Tryz.ntmps48
      go_wp2_with fail
      refine HC.out.mono ?_
      rintro e w1 ⟨rfl, rfl⟩
      go_wp2_with (go_at_call 98; refine HST.out.mono ?_; rintro e w1 ⟨rfl, hb1⟩)
      go_ret2
      exact RetLE.none rfl hb1
    · have hE : routeE x y s = 0 := by simp [routeE, h, h5, h6]
      rw [hE, if_pos rfl]
      clear h hE
      have hst := strands_any x y w (by omega) (by omega) (by omega) (by omega)
      obtain ⟨g, hg⟩ : ∃ g : Int, g = (Int.gcd x y : Int) := ⟨_, rfl⟩
      rw [← hg] at hst h6 hg0
      clear hg
      have HST := hid hst; clear hst
      go_enter Tryz.func48, Tryz.ntmps48
      go_wp2_with fail
      refine HC.out.mono ?_
      rintro e w1 ⟨rfl, rfl⟩
      go_wp2_with (go_at_call 98; refine HST.out.mono ?_; rintro e w1 ⟨rfl, hb1⟩)
      have hq0 := Int.emod_nonneg (s + x) (by omega : y ≠ 0)
      have hq1 := Int.emod_lt_of_pos (s + x) (by omega : 0 < y)
      go_loopw [9, 10] (fun v b wr => ∃ (k f : Nat) (q : Int) (o : List Int), (k : Int) + f = y ∧ 0 < f ∧ b = .int .i64 q ∧ q = (s + ((k : Int) + 1) * x) % y ∧ OwnI w.heap.size wr v o ∧ o.length = k + 1 ∧ lenV v = k + 1 ∧ o ++ routeGo x y s q f = routeL x y s ∧ Below w.heap.size w wr) (fun v _ _ => y.toNat - lenV v)
      case atStart =>
        refine ⟨0, y.toNat, (s + x) % y, [s], by omega, by omega, rfl, by simp, own_newN cIntS [s] 1 rfl (by decide) _ rfl hb1.size rfl, rfl, rfl, rfl, bal hb1 _⟩
      case round =>
        obtain ⟨k, f, q, o, hkf, hf, rfl, hq, hO, hol, hlv, hgo, hbr⟩ := hrel
        have hqq0 := Int.emod_nonneg (s + ((k : Int) + 1) * x) (by omega : y ≠ 0)
        have hqq1 := Int.emod_lt_of_pos (s + ((k : Int) + 1) * x) (by omega : 0 < y)
        rw [← hq] at hqq0 hqq1
        obtain ⟨g, rfl⟩ : ∃ g, f = g + 1 := ⟨f - 1, by omega⟩
        have hole : o.length ≤ 100 := by omega
        have HOL := hid hol; clear hol
        have HLV := hid hlv; clear hlv
        have HGO := hid hgo; clear hgo
        have HKF := hid hkf
        have hbs := hbr.size
        by_cases hqs : q = s
        · have hb : (q != s) = false := by simp [hqs]
          have hfin : o = routeL x y s := by
            have := HGO.out; rw [routeGo, if_pos hqs] at this; simpa using this
          have HF := hid hfin; clear hfin hq hqs hkf
          go_wp2_with fail
          go_ret2
          rw [← HF.out]
          exact RetLE.own _ rfl hO (Nat.le_refl _) hbr
        · have hb : (q != s) = true := by simpa using hqs
          have hg1 : 0 < g := by
            rcases Nat.eq_zero_or_pos g with h0 | h0
            · exfalso; apply hqs; rw [hq, show ((k : Int) + 1) = y by omega]; exact routeGo_ends x y s (by omega) (by omega)
            · exact h0
          have hst : routeGo x y s q (g + 1) = q :: routeGo x y s ((q + x) % y) g := by rw [routeGo, if_neg hqs]
          have hnq : (q + x) % y = (s + (((k + 1 : Nat) : Int) + 1) * x) % y := by
            rw [hq, Int.emod_add_emod]; congr 1; rw [show ((k + 1 : Nat) : Int) = (k : Int) + 1 by omega, Int.add_mul ((k : Int) + 1) 1 x, Int.one_mul]; omega
          have HST := hid hst; clear hst
          have HNQ := hid hnq; clear hnq
          have HQ := hid hq; clear hq hqs
          have hr0 := Int.emod_nonneg (q + x) (by omega : y ≠ 0)
          clear hkf
          go_wp2_with (first | ((with_reducible refine wpList_app (l := o) (ys := [q]) E_ints (by with_unfolding_all rfl) (by with_unfolding_all rfl) ((hO).alloc _) (reps_new1 cIntS (q) _ _ (by simp) rfl) cIntO (by simp; omega) (by first | omega | (simp; omega)) (by simp; omega) ?_); intro v3 w3 ho3 hg3 hat3))
          have hkf := HKF.out
          have hlv3 : lenV v3 = k + 2 := by
            obtain ⟨a3, cap3, rfl, _⟩ := ho3.reps
            show (o ++ [q]).length = k + 2
            rw [List.length_append, HOL.out]; rfl
          refine ⟨⟨k + 1, g, _, _, by omega, hg1, rfl, HNQ.out, ho3, by rw [List.length_append, HOL.out]; rfl, hlv3, ?_, below_own (bal hbr (.cells #[.int .i64 q] 3)) hg3 (hO.alloc _) (Nat.le_refl _)⟩, ?_⟩
          · have := HGO.out; rw [HST.out] at this; simpa using this
          · rw [hlv3, HLV.out]; omega
  · have hE : routeE x y s = matE x y := by simp [routeE, h]
    rw [hE, if_neg h]
    have hne : (matE x y != 0) = true := by simpa using h
    have HC := hid hc; clear hc h hE
    go_enter Tryz.func48, Tryz.ntmps48
    go_wp2_with fail
    refine HC.out.mono ?_
    rintro e w1 ⟨rfl, rfl⟩
    go_wp2_with fail
    go_ret2
    exact RetLE.none rfl (Below.refl _ _)
end Go.Proofs.YtmomeggnegcheaaGreatDoor
