/- Contracts of the reference: alternating, Sennit. Conditions: sizes as stated. Plain facts: the ends of passes as rows of strands. -/
import Derived.Test.YtogbclcnmogaeaaGreatDoorNrE
import Derived.Test.YtogbclcnmogaeaaGreatDoorKnA
import Derived.Test.YtogbclcnmogaeaaGreatDoorRoA
import Derived.Test.YtogbclcnmogaeaaGreatDoorSnA
import Derived.Test.YtogbclcnmogaeaaGreatDoorRPA
set_option linter.all false
namespace Go.Proofs.YtogbclcnmogaeaaGreatDoor
open Go.RowKit
set_option maxHeartbeats 2000000
set_option maxRecDepth 100000

def altT (c : Nat) : ByteArray := bT ((List.range c).map fun (k : Nat) => if k % 2 = 0 then (111 : UInt8) else 117)
theorem altT_size (c : Nat) : (altT c).size = c := by unfold altT; rw [bT_size]; simp
theorem ou_at : ∀ d : Nat, d < 2 → (⟨#[111, 117]⟩ : ByteArray).extract d (d + 1) = bT [if d % 2 = 0 then (111 : UInt8) else 117] := by decide
theorem altT_succ (c : Nat) : altT (c + 1) = altT c ++ (⟨#[111, 117]⟩ : ByteArray).extract (c % 2) (c % 2 + 1) := by
  rw [ou_at _ (Nat.mod_lt _ (by decide))]
  unfold altT
  rw [bT_app, List.range_succ, List.map_append]
  simp
theorem ouN_alt : ∀ c : Nat, c ≤ 6 → (ouN c).extract 0 c = altT c := by
  intro c hc
  have : c = 0 ∨ c = 1 ∨ c = 2 ∨ c = 3 ∨ c = 4 ∨ c = 5 ∨ c = 6 := by omega
  rcases this with rfl | rfl | rfl | rfl | rfl | rfl | rfl <;> decide +kernel
theorem ralternating_any (c : Nat) (w : World) (hc : c ≤ 1000) :
    Calls Tryz.prog 123 #[.int .i64 c] w fun r w' => r = .returned (.string (altT c)) ∧ w = w' := by
  have h0 : altT 0 = ⟨#[]⟩ := rfl
  go_enter Tryz.func123, Tryz.ntmps123
  go_wp2_with fail
  go_loopw [3, 4] (fun sv i wr => ∃ k : Nat, k ≤ c ∧ i = .int .i64 k ∧ sv = .string (altT k) ∧ w = wr) (fun _ i _ => c - (intOf i).toNat)
  case atStart => exact ⟨0, by omega, rfl, by rw [h0], rfl⟩
  case round =>
    obtain ⟨k, hk, rfl, rfl, rfl⟩ := hrel
    have hsz : (altT k).size ≤ 1000 := by rw [altT_size]; omega
    by_cases hlt : k < c
    · have HS := hid (altT_succ k)
      go_wp2_with fail
      exact ⟨⟨k + 1, by omega, by go_num, by rw [HS.out], by trivial⟩, by simp [intOf]; omega⟩
    · have : k = c := by omega
      subst this
      go_wp2_with fail
      go_ret
      exact ⟨rfl, rfl⟩

theorem rSennit_any (n : Nat) (s : Nat) (w : World) (h1 : 2 ≤ n) (h2 : n ≤ 12) (h3 : s ≤ 1000) :
    Calls Tryz.prog 61 #[.int .i64 n, .int .i64 s] w fun r w' => ∃ v, r = .returned v ∧ Own cPass 3 w.heap.size 99 w' v (senK n ((n : Int) / 2) s) ∧ Below w.heap.size w w' := by
  obtain ⟨half, hh⟩ : ∃ c : Nat, (n : Int) / 2 = c := ⟨((n : Int) / 2).toNat, by omega⟩
  have hhb : half ≤ 6 ∧ half ≤ n := by omega
  obtain ⟨hh1, hh2⟩ := hhb
  have CA := fun w => ralternating_any half w (by omega)
  rw [hh]
  have hal := ouN_alt half hh1
  obtain ⟨A, hA⟩ : ∃ A, A = altT half := ⟨_, rfl⟩
  rw [← hA] at CA hal
  have hst : ∀ k : Nat, senP n half k = if (k : Int) % 2 = 1 then ⟨n, n - half, A⟩ else ⟨1, half + 1, A⟩ := by
    intro k
    unfold senP
    rw [Int.toNat_natCast, hal]
  have HST := hid hst; have HA := hid CA
  clear hst CA hal hA
  have hS0 := (SL.nil w).nilS (α := PassV) (c := cPass) (sz := 3) (e := 99) cPassS
  go_enter Tryz.func61, Tryz.ntmps61
  go_wp2_with fail
  clear hh
  go_loopw [5, 7, 8] (fun v i _ wr => ∃ k : Nat, k ≤ s ∧ i = .int .i64 k ∧ SL w.heap.size w wr [pOwn cPass 3 99 v (senK n half k)]) (fun _ i _ _ => s - (intOf i).toNat)
  case atStart => exact ⟨0, by omega, rfl, hS0⟩
  case round =>
    clear hS0
    obtain ⟨k, hk, rfl, hSL⟩ := hrel
    have hle : (senK n half k).length ≤ 1000 := by rw [senK_len]; omega
    by_cases hlt : k < s
    · have hs := senK_succ n half k
      rw [HST.out k] at hs
      have hSa := hSL.box (.cells #[.int .i64 0, .int .i64 0, .string ⟨#[]⟩] 99)
      by_cases hp : (k : Int) % 2 = 1
      · rw [if_pos hp] at hs
        have HS := hid hs; clear hs
        have hb : ((k : Int) % 2 == 1) = true := by simpa using hp
        clear hp
        go_wp2_with (first | (go_at_call 123; with_reducible refine (HA.out _).mono ?_; rintro e w' ⟨rfl, rfl⟩) | ((with_reducible refine wpList_stoR (us := #[.int .i64 1, .int .i64 (half + 1), .string A]) 0 (by with_unfolding_all rfl) (by with_unfolding_all rfl) (hSa) (by with_unfolding_all rfl) (by kernel_rfl) (by with_unfolding_all rfl) (by with_unfolding_all rfl) ?_); intro w2 hS2) | ((with_reducible refine wpList_stoR (us := #[.int .i64 n, .int .i64 (n - half), .string A]) 0 (by with_unfolding_all rfl) (by with_unfolding_all rfl) (hS2) (by with_unfolding_all rfl) (by kernel_rfl) (by with_unfolding_all rfl) (by with_unfolding_all rfl) ?_); intro w3 hS3) | (with_reducible refine wpList_ldS (n := 3) (us := #[.int .i64 n, .int .i64 (n - half), .string A]) F_rpass (by kernel_rfl) (by with_unfolding_all rfl) (by with_unfolding_all rfl) (hS3.blk 0 rfl).1 (by with_unfolding_all rfl) (by with_unfolding_all rfl) ?_) | ((with_reducible refine wpList_pushL (y := (⟨n, n - half, A⟩ : PassV)) 1 E_rpasses (by with_unfolding_all rfl) (by with_unfolding_all rfl) (hS3) (by with_unfolding_all rfl) cPassO ⟨rfl, rfl⟩ (by first | with_unfolding_all rfl | simp) (by with_unfolding_all rfl) (by first | omega | (simp; omega)) (by first | omega | (simp; omega)) ?_); intro v4 w4 hS4))
        exact ⟨⟨k + 1, by omega, by go_num, by rw [HS.out]; exact hS4.tail⟩, by simp [intOf]; omega⟩
      · rw [if_neg hp] at hs
        have HS := hid hs; clear hs
        have hb : ((k : Int) % 2 == 1) = false := by simpa using hp
        clear hp
        go_wp2_with (first | (go_at_call 123; with_reducible refine (HA.out _).mono ?_; rintro e w' ⟨rfl, rfl⟩) | ((with_reducible refine wpList_stoR (us := #[.int .i64 1, .int .i64 (half + 1), .string A]) 0 (by with_unfolding_all rfl) (by with_unfolding_all rfl) (hSa) (by with_unfolding_all rfl) (by kernel_rfl) (by with_unfolding_all rfl) (by with_unfolding_all rfl) ?_); intro w2 hS2) | (with_reducible refine wpList_ldS (n := 3) (us := #[.int .i64 1, .int .i64 (half + 1), .string A]) F_rpass (by kernel_rfl) (by with_unfolding_all rfl) (by with_unfolding_all rfl) (hS2.blk 0 rfl).1 (by with_unfolding_all rfl) (by with_unfolding_all rfl) ?_) | ((with_reducible refine wpList_pushL (y := (⟨1, half + 1, A⟩ : PassV)) 1 E_rpasses (by with_unfolding_all rfl) (by with_unfolding_all rfl) (hS2) (by with_unfolding_all rfl) cPassO ⟨rfl, rfl⟩ (by first | with_unfolding_all rfl | simp) (by with_unfolding_all rfl) (by first | omega | (simp; omega)) (by first | omega | (simp; omega)) ?_); intro v4 w4 hS4))
        exact ⟨⟨k + 1, by omega, by go_num, by rw [HS.out]; exact hS4.tail⟩, by simp [intOf]; omega⟩
    · have : k = s := by omega
      subst this
      go_wp2_with fail
      go_ret
      exact ⟨_, rfl, hSL.own 0 rfl, hSL.b⟩

theorem ends_row5 {n : Nat} {l : List PassV} (hf : ∀ x ∈ lettersAll l, 1 ≤ absI x ∧ absI x < n) : endsP n l = row5 (idL n) (lettersAll l) := by
  have e : endsP n l = lessL (rowL n (lettersAll l)).1 n := by simp [endsP]
  rw [e, rowL, rowGo_row5]
  refine ext_atD (by rw [lessL_len, row5_len, idL_len]) (fun j j0 j1 => ?_)
  rw [lessL_len] at j1
  have h1 : atD 0 (lessL (row5 (startL n) (lettersAll l)) n) j = atD 0 (row5 (startL n) (lettersAll l)) j - 1 := by
    unfold lessL
    conv => lhs; unfold atD
    rw [List.getD_eq_getElem?_getD, List.getElem?_map, List.getElem?_range (by omega)]
    simp [Int.toNat_of_nonneg j0]
    unfold atD
    rw [List.getD_eq_getElem?_getD]
  rw [h1, row5_less (lettersAll l) (idL n) (startL n) (by rw [startL_len, idL_len]) (fun x hx => by rw [idL_len]; exact hf x hx) (fun i i0 i1 => ?_) j j0 (by rw [idL_len]; exact j1)]
  · omega
  · rw [idL_len] at i1
    rw [idL_at i0 i1]
    unfold startL atD
    rw [List.getD_eq_getElem?_getD, List.getElem?_map, List.getElem?_range (by omega)]
    simp; omega
theorem period_12 {p : List Int} (hp : IsP p) (h : p.length ≤ 12) : periodN p < 100 := by
  have h1 := perF_cube ((cycK p p.length).map List.length)
  have h2 := Nat.le_trans (cycK_sum hp (Nat.le_refl _)) h
  have h3 : (3 : Nat) ^ ((cycK p p.length).map List.length).sum ≤ 3 ^ 12 := Nat.pow_le_pow_right (by decide) h2
  have h4 : periodN p ^ 3 ≤ 3 ^ 12 := Nat.le_trans h1 h3
  rcases Nat.lt_or_ge (periodN p) 100 with h5 | h5
  · exact h5
  · exfalso
    have := Nat.le_trans (Nat.pow_le_pow_left h5 3) h4
    exact absurd this (by decide)
end Go.Proofs.YtogbclcnmogaeaaGreatDoor
