/- Contract: PlaitCrosses returns true. Conditions: the slice can be read, the numbers fit an int. -/
import Derived.Test.YtogbclcnmogaeaaGreatDoorRG
import Derived.Test.YtogbclcnmogaeaaGreatDoorRH
import Derived.Test.YtogbclcnmogaeaaGreatDoorAwA
set_option linter.all false
namespace Go.Proofs.YtogbclcnmogaeaaGreatDoor
open Go.RowKit
set_option maxHeartbeats 2000000
set_option maxRecDepth 100000

theorem passesOf_len : ∀ (f : Nat) (r : List Int), (passesOf f r).length ≤ f
  | 0, r => by simp [passesOf]
  | f + 1, r => by
    rcases Nat.eq_zero_or_pos r.length with h | h
    · have : r = [] := List.eq_nil_of_length_eq_zero h
      subst this; simp [passesOf]
    · rw [passesOf_step h]; have := passesOf_len f (r.drop (passCount r)); simp; omega
theorem PlaitCrosses_any (n : Int) (a : Option Addr) (cap : Nat) (l : List Int) (w : World) (hS : Ints w a cap l) (hI : ∀ x ∈ l, InI x) (hn : InI n) :
    Calls Tryz.prog 6 #[.int .i64 n, .slice a l.length cap] w fun r w' => r = .returned (.bool true) ∧ Below w.heap.size w w' := by
  have hcap := hS.le
  have hm := hS.max
  by_cases h202 : l.length ≤ 202
  · have hd : decide (l.length ≤ 202) = true := by simpa using h202
    have HD := hid hd; clear hd
    have CP := fun (a : Option Addr) (cap : Nat) (w : World) (hS : Ints w a cap l) => Passes_any n a cap l w hS (by omega)
    have CC := fun (a : Option Addr) (cap : Nat) (w : World) (hS : Ints w a cap l) => Crosses_any n a cap l w hS (by omega)
    have CA := fun (a : Option Addr) (cap : Nat) (w : World) (hS : Ints w a cap l) => Alternates_any n a cap l w hS (by omega)
    have CW := fun (a : Option Addr) (cap : Nat) (w : World) (hS : Ints w a cap l) => rCheckWord_any n a cap l w hS
    by_cases h : wordE n l = 0
    · obtain ⟨h1, h2, h3, hall⟩ := wordE_fits h
      have hf := wordE_fitsW h
      have e1 : passL n l = passesOf l.length l := if_pos h
      have e2 : crossL n l = (rowL n.toNat l).2 := if_pos h
      have e3 : altB n l = altGo (fun _ => 0) 0 (rowL n.toNat l).2 := by unfold altB; rw [if_pos h, e2]
      have hL1 : (passesOf l.length l).length ≤ 200 := by have := passesOf_len l.length l; omega
      have hL2 : (rowL n.toNat l).2.length ≤ 200 := by have := crossL_len n l; rwa [e2] at this
      rw [e1, h] at CP
      rw [e2, h] at CC
      rw [e3, h] at CA
      rw [h] at CW
      have RP := fun (a : Option Addr) (cap : Nat) (w : World) (hS : Ints w a cap l) => rPasses_any a cap l w hS (by omega) (fun x hx => by have := hall x hx; omega)
      have RC := fun (a : Option Addr) (cap : Nat) (w : World) (hS : Ints w a cap l) => rCrosses_any n.toNat a cap l w hS (by omega) (by omega) (by omega) hf
      have RA := fun (a : Option Addr) (cap : Nat) (w : World) (hS : Ints w a cap l) => rAlternates_any n.toNat a cap l w hS (by omega) (by omega) (by omega) hf
      have hnn : ((n.toNat : Nat) : Int) = n := by omega
      rw [hnn] at RC RA
      obtain ⟨P, hP⟩ : ∃ P, P = passesOf l.length l := ⟨_, rfl⟩
      obtain ⟨C, hC⟩ : ∃ C, C = (rowL n.toNat l).2 := ⟨_, rfl⟩
      obtain ⟨A, hA⟩ : ∃ A, A = altGo (fun _ => 0) 0 (rowL n.toNat l).2 := ⟨_, rfl⟩
      rw [← hP] at CP RP hL1
      rw [← hA] at CA RA
      rw [← hC] at CC RC hL2
      have HCP := hid CP; have HCC := hid CC; have HCA := hid CA; have HCW := hid CW; have HRP := hid RP; have HRC := hid RC; have HRA := hid RA
      clear CP CC CA CW RP RC RA hP hC hA h e1 e2 e3 hf hall hI
      go_enter Tryz.func6, Tryz.ntmps6
      go_wp2_with fail
      refine (shortWord_any _ _ _ _).mono ?_; rw [HD.out]; rintro e w' ⟨rfl, rfl⟩
      go_wp2_with fail
      refine (numbers_any a cap l _ hS (by omega)).mono ?_
      rintro e w1 ⟨v1, rfl, ho1, b1⟩
      obtain ⟨a1, c1, rfl, q1, _, _⟩ := ho1.reps
      go_wp2_with fail
      refine (HCP.out a1 c1 w1 q1).mono ?_
      rintro e w2 ⟨ap, cp, rfl, hp2, _, b2⟩
      go_wp2_with fail
      refine (numbers_any a cap l w2 (hS.below (bnext b1 b2)) (by omega)).mono ?_
      rintro e w3 ⟨v3, rfl, ho3, b3⟩
      obtain ⟨a3, c3, rfl, q3, _, _⟩ := ho3.reps
      go_wp2_with fail
      refine (HCC.out a3 c3 w3 q3).mono ?_
      rintro e w4 ⟨ac, cc, rfl, hc4, _, b4⟩
      have t4 := bnext b1 (bnext b2 (bnext b3 b4))
      go_wp2_with fail
      refine (numbers_any a cap l w4 (hS.below t4) (by omega)).mono ?_
      rintro e w5 ⟨v5, rfl, ho5, b5⟩
      obtain ⟨a5, c5, rfl, q5, _, _⟩ := ho5.reps
      go_wp2_with fail
      refine (HCA.out a5 c5 w5 q5).mono ?_
      rintro e w6 ⟨rfl, b6⟩
      have t6 := bnext t4 (bnext b5 b6)
      go_wp2_with fail
      refine (HCW.out a cap w6 (hS.below t6)).mono ?_
      rintro e w7 ⟨rfl, b7⟩
      have t7 := bnext t6 b7
      have hp7 := hp2.below (bnext b3 (bnext b4 (bnext b5 (bnext b6 b7))))
      have hc7 := hc4.below (bnext b5 (bnext b6 b7))
      have hS7 := hS.below t7
      clear hp2 hc4 ho1 ho3 ho5 q1 q3 q5 b1 b2 b3 b4 b5 b6 b7 t4 t6 hS
      go_wp2_with fail
      refine (ownPasses_any ap cp P w7 hp7 (by omega)).mono ?_
      rintro e w8 ⟨v8, rfl, ho8, b8⟩
      obtain ⟨a8, c8, rfl, h8, _, _⟩ := ho8.reps
      go_wp2_with fail
      refine (HRP.out a cap w8 (hS7.below b8)).mono ?_
      rintro e w9 ⟨v9, rfl, ho9, b9⟩
      obtain ⟨a9, c9, rfl, h9, _, _⟩ := ho9.reps
      go_wp2_with fail
      refine (SamePasses_same a8 a9 c8 c9 P w9 (h8.below b9) h9 (by omega)).mono ?_
      rintro e w10 ⟨rfl, b10⟩
      have t10 := bnext b8 (bnext b9 b10)
      go_wp2_with fail
      refine (ownCrosses_any ac cc C w10 (hc7.below t10) (by omega)).mono ?_
      rintro e w11 ⟨v11, rfl, ho11, b11⟩
      obtain ⟨a11, c11, rfl, h11, _, _⟩ := ho11.reps
      go_wp2_with fail
      refine (HRC.out a cap w11 (hS7.below (bnext t10 b11))).mono ?_
      rintro e w12 ⟨v12, rfl, ho12, b12⟩
      obtain ⟨a12, c12, rfl, h12, _, _⟩ := ho12.reps
      go_wp2_with fail
      refine (SameCrosses_same a11 a12 c11 c12 C w12 (h11.below b12) h12 (by omega)).mono ?_
      rintro e w13 ⟨rfl, b13⟩
      have t13 := bnext t10 (bnext b11 (bnext b12 b13))
      go_wp2_with fail
      refine (HRA.out a cap w13 (hS7.below t13)).mono ?_
      rintro e w14 ⟨rfl, b14⟩
      go_wp2_with fail
      refine (awake_any w14).mono ?_
      rintro e w15 ⟨rfl, b15⟩
      go_wp2_with fail
      go_ret
      exact ⟨rfl, bnext t7 (bnext t13 (bnext b14 b15))⟩
    · have e1 : passL n l = [] := if_neg h
      have e2 : crossL n l = [] := if_neg h
      have e3 : altB n l = 0 := if_neg h
      rw [e1] at CP
      rw [e2] at CC
      rw [e3] at CA
      obtain ⟨q, hq⟩ : ∃ q, q = wordE n l := ⟨_, rfl⟩
      rw [← hq] at CP CC CA CW h
      have HCP := hid CP; have HCC := hid CC; have HCA := hid CA; have HCW := hid CW
      clear CP CC CA CW hq e1 e2 e3 hI
      go_enter Tryz.func6, Tryz.ntmps6
      go_wp2_with fail
      refine (shortWord_any _ _ _ _).mono ?_; rw [HD.out]; rintro e w' ⟨rfl, rfl⟩
      go_wp2_with fail
      refine (numbers_any a cap l _ hS (by omega)).mono ?_
      rintro e w1 ⟨v1, rfl, ho1, b1⟩
      obtain ⟨a1, c1, rfl, q1, _, _⟩ := ho1.reps
      go_wp2_with fail
      refine (HCP.out a1 c1 w1 q1).mono ?_
      rintro e w2 ⟨ap, cp, rfl, hp2, _, b2⟩
      go_wp2_with fail
      refine (numbers_any a cap l w2 (hS.below (bnext b1 b2)) (by omega)).mono ?_
      rintro e w3 ⟨v3, rfl, ho3, b3⟩
      obtain ⟨a3, c3, rfl, q3, _, _⟩ := ho3.reps
      go_wp2_with fail
      refine (HCC.out a3 c3 w3 q3).mono ?_
      rintro e w4 ⟨ac, cc, rfl, hc4, _, b4⟩
      have t4 := bnext b1 (bnext b2 (bnext b3 b4))
      go_wp2_with fail
      refine (numbers_any a cap l w4 (hS.below t4) (by omega)).mono ?_
      rintro e w5 ⟨v5, rfl, ho5, b5⟩
      obtain ⟨a5, c5, rfl, q5, _, _⟩ := ho5.reps
      go_wp2_with fail
      refine (HCA.out a5 c5 w5 q5).mono ?_
      rintro e w6 ⟨rfl, b6⟩
      have t6 := bnext t4 (bnext b5 b6)
      go_wp2_with fail
      refine (HCW.out a cap w6 (hS.below t6)).mono ?_
      rintro e w7 ⟨rfl, b7⟩
      have t7 := bnext t6 b7
      clear hp2 hc4 ho1 ho3 ho5 q1 q3 q5 b1 b2 b3 b4 b5 b6 b7 t4 t6 hS
      go_wp2_with fail
      refine (awake_any w7).mono ?_
      rintro e w8 ⟨rfl, b8⟩
      go_wp2_with fail
      go_ret
      exact ⟨rfl, bnext t7 b8⟩
  · have hd : decide (l.length ≤ 202) = false := by simpa using h202
    have HD := hid hd; clear hd
    go_enter Tryz.func6, Tryz.ntmps6
    go_wp2_with fail
    refine (shortWord_any _ _ _ _).mono ?_; rw [HD.out]; rintro e w' ⟨rfl, rfl⟩
    go_wp2_with fail
    refine (awake_any _).mono ?_
    rintro e w' ⟨rfl, hb⟩
    go_wp2_with fail
    go_ret
    exact ⟨rfl, hb⟩
end Go.Proofs.YtogbclcnmogaeaaGreatDoor
