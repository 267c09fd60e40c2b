/- Contracts of the reference: Mat, CheckHead, Head. Conditions: sizes as stated. -/
import Derived.Test.YtogbclcnmogaeaaGreatDoorRC
set_option linter.all false
namespace Go.Proofs.YtogbclcnmogaeaaGreatDoor
open Go.RowKit
set_option maxHeartbeats 1000000
set_option maxRecDepth 100000

def repC (c : UInt8) (k : Nat) : ByteArray := ⟨(List.replicate k c).toArray⟩
theorem repC_size (c : UInt8) (k : Nat) : (repC c k).size = k := by show (List.replicate k c).toArray.size = _; simp
theorem repC_succ (c : UInt8) (k : Nat) : repC c (k + 1) = repC c k ++ ⟨#[c]⟩ := by
  unfold repC; rw [ByteArray.mk_append_mk, List.replicate_succ']; try simp
theorem repeatL_C (c : UInt8) : ∀ k, Lib.repeatL [c] k = List.replicate k c
  | 0 => rfl
  | k + 1 => by rw [Lib.repeatL, repeatL_C c k]; rfl
theorem matRow_even {y : Int} {k : Nat} (h : (k : Int) % 2 = 0) : matRow y k = repC 47 y.toNat := by
  rw [matRow, if_pos h]; unfold repC; rw [← repeatL_C]; rfl
theorem matRow_odd {y : Int} {k : Nat} (h : ¬ (k : Int) % 2 = 0) : matRow y k = repC 92 y.toNat := by
  rw [matRow, if_neg h]; unfold repC; rw [← repeatL_C]; rfl

theorem rMat_any (x y : Int) (w : World) (h1 : 2 ≤ x) (h2 : x ≤ 100) (h3 : 2 ≤ y) (h4 : y ≤ 100) :
    Calls Tryz.prog 69 #[.int .i64 x, .int .i64 y] w fun r w' => ∃ v, r = .returned v ∧ OwnS w.heap.size w' v (matK y (x - 1).toNat) ∧ Below w.heap.size w w' := by
  obtain ⟨m, hm⟩ : ∃ m : Nat, x = m + 1 := ⟨(x - 1).toNat, by omega⟩
  subst hm
  obtain ⟨c, rfl⟩ : ∃ c : Nat, y = c := ⟨y.toNat, by omega⟩
  have e0 : ((m : Int) + 1 - 1).toNat = m := by omega
  rw [e0]
  clear e0
  go_enter Tryz.func69, Tryz.ntmps69
  go_wp2
  go_loopw [5, 6, 7, 8] (fun v i _ _ wr => ∃ k : Nat, k ≤ m ∧ i = .int .i64 ((k : Int) + 1) ∧ OwnS w.heap.size wr v (matK c k) ∧ Below w.heap.size w wr) (fun _ i _ _ _ => m + 1 - (intOf i).toNat)
  case atStart => exact ⟨0, by omega, rfl, own_nil cStrS, Below.refl _ _⟩
  case round =>
    obtain ⟨k, hk, rfl, hO, hbr⟩ := hrel
    have hle : (matK c k).length ≤ 100 := by rw [matK_len]; omega
    have hbs := hbr.size
    by_cases hlt : k < m
    · have hs := matK_succ c k
      by_cases hp : (k : Int) % 2 = 0
      · rw [matRow_even hp] at hs
        have HS := hid hs; clear hs
        have hp1 : ((k : Int) + 1) % 2 = 1 := by omega
        go_wp2_with fail
        go_loopw [7, 8] (fun s j wq => ∃ n : Nat, n ≤ c ∧ j = .int .i64 n ∧ s = .string (repC 47 n) ∧ wr = wq) (fun _ j _ => c - (intOf j).toNat)
        case atStart => exact ⟨0, by omega, rfl, rfl, rfl⟩
        case round =>
          obtain ⟨n, hn, rfl, rfl, rfl⟩ := hrel
          have hsz : (repC 47 n).size ≤ 100 := by rw [repC_size]; omega
          by_cases hnl : n < c
          · have hrs := repC_succ 47 n
            have HRS := hid hrs; clear hrs
            go_wp2_with fail
            exact ⟨⟨n + 1, by omega, by go_num, by rw [HRS.out], by trivial⟩, by simp [intOf]; omega⟩
          · have : n = c := by omega
            subst this
            go_wp2_with (first | ((with_reducible refine wpList_app (l := (matK n k)) (ys := [(repC 47 n)]) E_strs (by with_unfolding_all rfl) (by with_unfolding_all rfl) ((hO).alloc _) (reps_new1 cStrS ((repC 47 n)) _ _ (by simp) rfl) cStrO (by simp; omega) (by first | omega | (simp; omega)) (by simp; omega) ?_); intro v3 w3 ho3 hg3 hat3))
            exact ⟨⟨k + 1, by omega, by go_num, by rw [HS.out]; exact ho3, below_own (bal hbr (.cells #[.string (repC 47 n)] 9)) hg3 (hO.alloc _) (Nat.le_refl _)⟩, by simp [intOf]; omega⟩
      · rw [matRow_odd hp] at hs
        have HS := hid hs; clear hs
        have hp1 : ((k : Int) + 1) % 2 = 0 := by omega
        go_wp2_with fail
        go_loopw [7, 8] (fun s j wq => ∃ n : Nat, n ≤ c ∧ j = .int .i64 n ∧ s = .string (repC 92 n) ∧ wr = wq) (fun _ j _ => c - (intOf j).toNat)
        case atStart => exact ⟨0, by omega, rfl, rfl, rfl⟩
        case round =>
          obtain ⟨n, hn, rfl, rfl, rfl⟩ := hrel
          have hsz : (repC 92 n).size ≤ 100 := by rw [repC_size]; omega
          by_cases hnl : n < c
          · have hrs := repC_succ 92 n
            have HRS := hid hrs; clear hrs
            go_wp2_with fail
            exact ⟨⟨n + 1, by omega, by go_num, by rw [HRS.out], by trivial⟩, by simp [intOf]; omega⟩
          · have : n = c := by omega
            subst this
            go_wp2_with (first | ((with_reducible refine wpList_app (l := (matK n k)) (ys := [(repC 92 n)]) E_strs (by with_unfolding_all rfl) (by with_unfolding_all rfl) ((hO).alloc _) (reps_new1 cStrS ((repC 92 n)) _ _ (by simp) rfl) cStrO (by simp; omega) (by first | omega | (simp; omega)) (by simp; omega) ?_); intro v3 w3 ho3 hg3 hat3))
            exact ⟨⟨k + 1, by omega, by go_num, by rw [HS.out]; exact ho3, below_own (bal hbr (.cells #[.string (repC 92 n)] 9)) hg3 (hO.alloc _) (Nat.le_refl _)⟩, by simp [intOf]; omega⟩
    · have : k = m := by omega
      subst this
      clear hle
      go_wp2_with fail
      go_ret
      exact ⟨_, rfl, hO, hbr⟩

theorem rCheckHead_any (x y : Int) (w : World) :
    Calls Tryz.prog 71 #[.int .i64 x, .int .i64 y] w fun r w' => r = .returned (.int .i64 (headE x y)) ∧ w = w' := by
  have hck := fun w => rCheckMat_any x y w
  by_cases h : matE x y = 0
  · obtain ⟨h1, h2, h3, h4⟩ := matE_zero h
    rw [h] at hck
    have HCK := hid hck; clear hck
    have hmul : 0 ≤ (x - 1) * y ∧ (x - 1) * y ≤ 10000 := ⟨Int.mul_nonneg (by omega) (by omega), by
      have := Int.mul_le_mul (show x - 1 ≤ 100 by omega) h4 (by omega) (by omega)
      omega⟩
    obtain ⟨hm1, hm2⟩ := hmul
    by_cases c1 : 12 < x
    · have e1 : headE x y = 5 := by simp [headE, h, c1]
      rw [e1]
      clear e1 h
      go_enter Tryz.func71, Tryz.ntmps71
      go_wp2_with (go_at_call 66; refine (HCK.out _).mono ?_; rintro e w' ⟨rfl, rfl⟩)
      go_ret
      exact ⟨rfl, rfl⟩
    by_cases c2 : 200 < (x - 1) * y
    · have e1 : headE x y = 5 := by simp [headE, h, c2]
      rw [e1]
      clear e1 h
      go_enter Tryz.func71, Tryz.ntmps71
      go_wp2_with (go_at_call 66; refine (HCK.out _).mono ?_; rintro e w' ⟨rfl, rfl⟩)
      go_ret
      exact ⟨rfl, rfl⟩
    · have e1 : headE x y = 0 := by simp [headE, h, c1, c2]
      rw [e1]
      clear e1 h
      go_enter Tryz.func71, Tryz.ntmps71
      go_wp2_with (go_at_call 66; refine (HCK.out _).mono ?_; rintro e w' ⟨rfl, rfl⟩)
      go_ret
      exact ⟨rfl, rfl⟩
  · have e1 : headE x y = matE x y := by simp [headE, h]
    have e3 : matE x y = 3 := by unfold matE at *; split at h <;> simp_all
    rw [e3] at hck
    rw [e1, e3]
    have HCK := hid hck; clear hck h e1 e3
    go_enter Tryz.func71, Tryz.ntmps71
    go_wp2_with (go_at_call 66; refine (HCK.out _).mono ?_; rintro e w' ⟨rfl, rfl⟩)
    go_ret
    exact ⟨rfl, rfl⟩

def headR (m k : Nat) : List Int := (List.replicate k (headK m)).flatten
theorem headR_succ (m k : Nat) : headR m (k + 1) = headR m k ++ headK m := by unfold headR; rw [List.replicate_succ', List.flatten_append]; simp
theorem headR_len (m : Nat) : ∀ k, (headR m k).length = m * k
  | 0 => by simp [headR]
  | k + 1 => by rw [headR_succ, List.length_append, headR_len m k, headK_len, Nat.mul_succ]
theorem headR_cyc (m : Nat) : ∀ k, headR m k = cyc (headK m) (m * k)
  | 0 => by simp [headR, cyc]
  | k + 1 => by
    have e : cyc (headK m) m = headK m := by have := cyc_once (headK m); rwa [headK_len] at this
    rw [headR_succ, headR_cyc m k, Nat.mul_succ, cyc_add _ _ _ (by rw [headK_len]; exact Nat.mul_mod_right _ _), e]

theorem rHead_any (x y : Int) (w : World) (h1 : 2 ≤ x) (h2 : x ≤ 12) (h3 : 2 ≤ y) (h4 : y ≤ 100) :
    Calls Tryz.prog 72 #[.int .i64 x, .int .i64 y] w fun r w' => ∃ v, r = .returned v ∧ OwnI w.heap.size w' v (cyc (headK (x - 1).toNat) ((x - 1).toNat * y.toNat)) ∧ Below w.heap.size w w' := by
  obtain ⟨m, hm⟩ : ∃ m : Nat, x = m + 1 := ⟨(x - 1).toNat, by omega⟩
  subst hm
  obtain ⟨c, rfl⟩ : ∃ c : Nat, y = c := ⟨y.toNat, by omega⟩
  have e0 : ((m : Int) + 1 - 1).toNat = m := by omega
  rw [e0, Int.toNat_natCast, ← headR_cyc]
  clear e0
  go_enter Tryz.func72, Tryz.ntmps72
  go_wp2
  go_loopw [5, 6, 7] (fun v i _ wr => ∃ k : Nat, k ≤ c ∧ i = .int .i64 k ∧ OwnI w.heap.size wr v (headR m k) ∧ Below w.heap.size w wr) (fun _ i _ _ => c - (intOf i).toNat)
  case atStart => exact ⟨0, by omega, rfl, own_nil cIntS, Below.refl _ _⟩
  case round =>
    obtain ⟨k, hk, rfl, hO, hbr⟩ := hrel
    by_cases hlt : k < c
    · go_wp2_with fail
      go_loopw [5, 7] (fun v j wq => ∃ n : Nat, n ≤ m ∧ j = .int .i64 ((n : Int) + 1) ∧ OwnI w.heap.size wq v (headR m k ++ headK n) ∧ Below w.heap.size w wq) (fun _ j _ => m + 1 - (intOf j).toNat)
      case atStart => exact ⟨0, by omega, rfl, by simpa [headK] using hO, hbr⟩
      case round =>
        obtain ⟨n, hn, rfl, hO2, hb2⟩ := hrel
        have hbs := hb2.size
        have hle : (headR m k ++ headK n).length ≤ 2000 := by
          rw [List.length_append, headR_len, headK_len]
          have := Nat.mul_le_mul (show m ≤ 11 by omega) (show k ≤ 100 by omega)
          omega
        obtain ⟨o, hoe⟩ : ∃ o, o = headR m k ++ headK n := ⟨_, rfl⟩
        rw [← hoe] at hO2 hle
        have HOE := hid hoe; clear hoe
        by_cases hnl : n < m
        · have hs := headK_succ n
          by_cases hp : (n : Int) % 2 = 0
          · have hA : headA n = (n : Int) + 1 := by rw [headA, hp]; omega
            rw [hA] at hs
            have hs2 : headR m k ++ headK (n + 1) = o ++ [(n : Int) + 1] := by rw [hs, HOE.out, List.append_assoc]
            have HS := hid hs2; clear hs hs2 hA
            have hp1 : ((n : Int) + 1) % 2 = 1 := by omega
            go_wp2_with (first | ((with_reducible refine wpList_app (l := o) (ys := [((n : Int) + 1)]) E_ints (by with_unfolding_all rfl) (by with_unfolding_all rfl) ((hO2).alloc _) (reps_new1 cIntS (((n : Int) + 1)) _ _ (by simp) rfl) cIntO (by simp; omega) (by first | omega | (simp; omega)) (by simp; omega) ?_); intro v3 w3 ho3 hg3 hat3))
            exact ⟨⟨n + 1, by omega, by go_num, by rw [HS.out]; exact ho3, below_own (bal hb2 (.cells #[.int .i64 ((n : Int) + 1)] 3)) hg3 (hO2.alloc _) (Nat.le_refl _)⟩, by simp [intOf]; omega⟩
          · have hA : headA n = -((n : Int) + 1) := by rw [headA, show (n : Int) % 2 = 1 by omega]; omega
            rw [hA] at hs
            have hs2 : headR m k ++ headK (n + 1) = o ++ [-((n : Int) + 1)] := by rw [hs, HOE.out, List.append_assoc]
            have HS := hid hs2; clear hs hs2 hA
            have hp1 : ((n : Int) + 1) % 2 = 0 := by omega
            go_wp2_with (first | ((with_reducible refine wpList_app (l := o) (ys := [(-((n : Int) + 1))]) E_ints (by with_unfolding_all rfl) (by with_unfolding_all rfl) ((hO2).alloc _) (reps_new1 cIntS ((-((n : Int) + 1))) _ _ (by simp) rfl) cIntO (by simp; omega) (by first | omega | (simp; omega)) (by simp; omega) ?_); intro v3 w3 ho3 hg3 hat3))
            exact ⟨⟨n + 1, by omega, by go_num, by rw [HS.out]; exact ho3, below_own (bal hb2 (.cells #[.int .i64 (-((n : Int) + 1))] 3)) hg3 (hO2.alloc _) (Nat.le_refl _)⟩, by simp [intOf]; omega⟩
        · have : n = m := by omega
          subst this
          rw [HOE.out, ← headR_succ] at hO2
          clear hle
          go_wp2_with fail
          go_roundw
          case rel => exact ⟨k + 1, by omega, by go_num, hO2, hb2⟩
          case measure => simp [intOf]; omega
    · have : k = c := by omega
      subst this
      go_wp2_with fail
      go_ret
      exact ⟨_, rfl, hO, hbr⟩
end Go.Proofs.YtogbclcnmogaeaaGreatDoor
