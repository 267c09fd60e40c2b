/- Contract of the reference: Period. Conditions: the list is a permutation of at most 64 numbers. -/
import Derived.Test.YtogbclcnmogaeaaGreatDoorNrD
import Derived.Test.YtogbclcnmogaeaaGreatDoorPeA
set_option linter.all false
namespace Go.Proofs.YtogbclcnmogaeaaGreatDoor
open Go.RowKit
set_option maxHeartbeats 2000000
set_option maxRecDepth 100000

theorem rPeriod_any (a : Option Addr) (cap : Nat) (p : List Int) (w : World) (hS : Ints w a cap p) (hp : IsP p) (h64 : p.length ≤ 64) :
    Calls Tryz.prog 41 #[.slice a p.length cap] w fun r w' => r = .returned (.string (itoaB (periodN p))) ∧ Below w.heap.size w w' := by
  have CY := fun w hS => rCycles_any a cap p w hS hp (by omega)
  have CF := fun n w hn => rFromInt_any n w hn
  have CD := fun p n w hp hn hn0 => rDiv_any p n w hp hn hn0
  have CN := fun p q w hp hq => rNum_any p q w hp hq
  have CM := fun p r w hp hr => rMul_any p 1 r 1 w hp (by decide) hr (by decide) (by decide) (by decide)
  have HY := hid CY; have HF := hid CF; have HD := hid CD; have HN := hid CN; have HM := hid CM
  clear CY CF CD CN CM
  have hcap := hS.le
  have hm0 := hS.max
  have h1B : itoaB (1 : Int) = ⟨#[49]⟩ := by
    have := itoaB_nat 1
    rw [decD_small (by decide)] at this
    exact this
  go_enter Tryz.func41, Tryz.ntmps41
  go_wp2_with fail
  refine (HY.out _ hS).mono ?_
  rintro e w3 ⟨v, qs, rfl, hqs, hS0⟩
  obtain ⟨av, cv, rfl, _⟩ := hS0.slice 0 rfl
  have hlq : lensQ qs = (cycK p p.length).map List.length := by rw [← hqs]; simp [lensQ]
  have hsum : (lensQ qs).sum ≤ 64 := by rw [hlq]; exact Nat.le_trans (cycK_sum hp (Nat.le_refl _)) h64
  have hpos : ∀ n ∈ lensQ qs, 0 < n := by
    rw [hlq]; intro n hn
    obtain ⟨l, hl, rfl⟩ := List.mem_map.1 hn
    exact cycK_pos hp (Nat.le_refl _) l hl
  have hper : periodN p = perF (lensQ qs) := by rw [hlq]; rfl
  have hnq : qs.length ≤ 64 := by
    have h1 := cycK_len p p.length
    have h2 : (lensQ qs).length = (cycK p p.length).length := by rw [hlq]; simp
    rw [lens_len] at h2; omega
  have HPER := hid hper; have HPOS := hid hpos; have HQL : Hid ((qs.map Prod.fst).length = qs.length) := hid (by simp)
  have HQL2 : Hid (qs.length = (qs.map Prod.fst).length) := hid (by simp)
  have H1B := hid h1B
  clear hper hpos hlq hqs h1B
  rw [HQL.out]
  go_wp2_with fail
  go_loopw [3, 5, 6] (fun ov i _ wr => ∃ k : Nat, k ≤ qs.length ∧ i = .int .i64 k ∧ ov = .string (itoaB ((perF ((lensQ qs).take k) : Nat) : Int)) ∧
      SL w.heap.size w wr (pOwn cSl 1 22 (.slice av qs.length cv) (qs.map Prod.fst) :: qs.map inP)) (fun _ i _ _ => qs.length - (intOf i).toNat)
  case atStart => exact ⟨0, by omega, rfl, by rw [show perF ((lensQ qs).take 0) = 1 from rfl, show (((1 : Nat) : Int)) = 1 from rfl, H1B.out], by rw [← HQL.out]; rw [HQL.out]; simpa using hS0⟩
  case round =>
    clear hS0
    obtain ⟨k, hk, rfl, rfl, hSr⟩ := hrel
    have hRq := hSr.rd 0 rfl
    by_cases hlt : k < qs.length
    · have hlk : k < (lensQ qs).length := by rw [lens_len]; exact hlt
      have hpt := perF_take hlk
      obtain ⟨P0, hP0⟩ : ∃ P0, P0 = perF ((lensQ qs).take k) := ⟨_, rfl⟩
      obtain ⟨n, hn⟩ : ∃ n, n = (lensQ qs)[k] := ⟨_, rfl⟩
      have hn0 : 0 < n := by rw [hn]; exact HPOS.out _ (List.getElem_mem hlk)
      have hn1 : n ≤ 64 := by
        have h1 := sum_take_le (lensQ qs) (k + 1)
        rw [List.take_succ_eq_append_getElem hlk, List.sum_append] at h1
        rw [hn]; simp at h1; omega
      have hp1 : P0 < 100000000 := by rw [hP0]; exact perF_small _ (fun m hm => HPOS.out m (List.mem_of_mem_take hm)) (Nat.le_trans (sum_take_le _ _) hsum)
      have hp2 : perF ((lensQ qs).take (k + 1)) < 100000000 := perF_small _ (fun m hm => HPOS.out m (List.mem_of_mem_take hm)) (Nat.le_trans (sum_take_le _ _) hsum)
      have hd1 : P0 / Nat.gcd P0 n ≤ P0 := Nat.div_le_self _ _
      have hd2 : n / Nat.gcd P0 n ≤ n := Nat.div_le_self _ _
      have hM := fun w => HM.out (P0 / Nat.gcd P0 n) n w (by omega) (by omega)
      rw [Nat.mul_one, Nat.gcd_one_right, Nat.div_one, Nat.div_one, textQ_one, textQ_one, textQ_one] at hM
      have hF := fun w => HF.out n w (by omega)
      have hD := fun w => HD.out P0 n w (by omega) (by omega) hn0
      have hN := fun w => HN.out (P0 / Nat.gcd P0 n) (n / Nat.gcd P0 n) w (by omega) (by omega)
      rw [hpt, ← hn, ← hP0] at hp2
      have hlc : P0 / Nat.gcd P0 n * n = lcmF P0 n := rfl
      rw [hlc] at hM
      obtain ⟨T, hT⟩ : ∃ T, T = textQ (P0 / Nat.gcd P0 n) (n / Nat.gcd P0 n) := ⟨_, rfl⟩
      rw [← hT] at hD hN
      obtain ⟨U, hU⟩ : ∃ U, U = itoaB ((P0 / Nat.gcd P0 n : Nat) : Int) := ⟨_, rfl⟩
      rw [← hU] at hN hM
      rw [← hn, ← hP0] at hpt
      have HPT := hid hpt; have HMM := hid hM; have HFF := hid hF; have HDD := hid hD; have HNN := hid hN
      have hel : (atD (none, 0, 0) (qs.map Prod.fst) k).2.1 = n := by
        have hw := (hSr.own (k + 1) (c := cInt) (sz := 1) (e := 3) (v := cSl qs[k].1) (l := qs[k].2) (by simp [inP, hlt]))
        obtain ⟨a', cap', e1, _⟩ := hw.reps
        have e2 : qs[k].1.2.1 = qs[k].2.length := by have := congrArg (fun v : Value => match v with | .slice _ n _ => n | _ => 0) e1; simpa using this
        rw [hn]
        simp [atD, hlt, e2, lensQ]
      have HEL := hid hel
      rw [← hP0]
      clear hpt hM hF hD hN hel hT hU hlc hn hP0 hlk hp2 hd1 hd2
      go_wp2_with ((with_reducible refine wpList_idxN _ ((none, 0, 0) : SlH) E_sls F_sl cSl1 (by with_unfolding_all rfl) (by with_unfolding_all rfl) (hRq) (HQL.out) (by first | omega | (simp; done)) (by first | omega | (simp; done)) (fun _ => by with_unfolding_all rfl) (fun _ => ?_)); (try simp only [cSl]); rw [HEL.out])
      refine (HFF.out _).mono ?_
      rintro e w4 ⟨rfl, b4⟩
      go_wp2_with fail
      refine (HDD.out _).mono ?_
      rintro e w5 ⟨rfl, b5⟩
      go_wp2_with fail
      refine (HNN.out _).mono ?_
      rintro e w6 ⟨rfl, b6⟩
      go_wp2_with fail
      refine (HMM.out _).mono ?_
      rintro e w7 ⟨rfl, b7⟩
      go_wp2_with fail
      exact ⟨⟨k + 1, by omega, by go_num, by rw [HPT.out], (((hSr.mono b4).mono b5).mono b6).mono b7⟩, by simp [intOf]; omega⟩
    · have hkq : k = qs.length := by omega
      have hlk : (lensQ qs).take k = lensQ qs := List.take_of_length_le (by rw [lens_len]; omega)
      rw [hlk, ← HPER.out]
      clear hlk
      have HKQ := hid hkq; clear hkq
      go_wp2_with fail
      go_ret
      exact ⟨rfl, hSr.b⟩
end Go.Proofs.YtogbclcnmogaeaaGreatDoor
