/- Contracts of the reference's numbers: Digits, decimalForm, Check at a whole number; Sign, Neg, Add, Sub, Cmp at a whole number and 60; CheckPerm. Conditions: whole numbers from 1 on of at most 9 digits. -/
import Derived.Test.YtmomeggnegcheaaGreatDoorNrT
set_option linter.all false
namespace Go.Proofs.YtmomeggnegcheaaGreatDoor
open Go.RowKit
set_option maxHeartbeats 2000000
set_option maxRecDepth 100000

theorem decD_first {u : Nat} (h : 0 < u) : ∃ b r, Lib.decDigits u = b :: r ∧ 49 ≤ b.toNat ∧ b.toNat ≤ 57 := by
  induction u using Nat.strongRecOn with
  | _ u ih =>
    by_cases h10 : u < 10
    · rw [decD_small h10]
      refine ⟨_, [], rfl, ?_⟩
      rw [digB h10]; omega
    · rw [decD_big h10]
      obtain ⟨b, r, e, h1, h2⟩ := ih (u / 10) (by omega) (by omega)
      rw [e]
      exact ⟨b, r ++ [UInt8.ofNat (48 + u % 10)], rfl, h1, h2⟩
theorem itoaB_first {p : Nat} (h : 0 < p) : 49 ≤ byteAt (itoaB (p : Int)) 0 ∧ byteAt (itoaB (p : Int)) 0 ≤ 57 := by
  obtain ⟨b, r, e, h1, h2⟩ := decD_first h
  rw [itoaB_bT, bT_at (k := 0) (by rw [e]; simp)]
  simp only [e, List.getElem_cons_zero]
  omega
theorem slashAt_none {s : ByteArray} (h : ∀ j, j < s.size → 48 ≤ byteAt s j ∧ byteAt s j ≤ 57) : SlashAt s s.size :=
  ⟨Nat.le_refl _, fun j hj => by have := h j hj; omega, fun h => absurd h (Nat.lt_irrefl _)⟩

theorem rDigits_any (s : ByteArray) (w : World) (hz : s.size ≤ 1048576) (hd : ∀ k, k < s.size → 48 ≤ byteAt s k ∧ byteAt s k ≤ 57) :
    Calls Tryz.prog 121 #[.string s] w fun r w' => r = .returned (.bool true) ∧ w = w' := by
  have HD := hid hd; clear hd
  go_enter Tryz.func121, Tryz.ntmps121
  go_wp2_with fail
  go_loopw [3] (fun i wr => ∃ k : Nat, k ≤ s.size ∧ i = .int .i64 k ∧ w = wr) (fun i _ => s.size - (intOf i).toNat)
  case atStart => exact ⟨0, by omega, rfl, rfl⟩
  case round =>
    obtain ⟨k, hk, rfl, rfl⟩ := hrel
    by_cases hlt : k < s.size
    · have hb := HD.out k hlt
      rw [byteAt_in hlt] at hb
      have d1 : ¬ (((s[k]'hlt).toNat : Int) < 48) := by omega
      have d2 : ¬ (57 < ((s[k]'hlt).toNat : Int)) := by omega
      go_wp2_with fail
      exact ⟨⟨k + 1, by omega, by go_num, by trivial⟩, by simp [intOf]; omega⟩
    · have : k = s.size := by omega
      subst this
      go_wp2_with fail
      go_ret
      exact ⟨rfl, rfl⟩
theorem rdecimalForm_any (p : Nat) (w : World) (h0 : 0 < p) (hp : p < 1000000000) :
    Calls Tryz.prog 70 #[.string (itoaB p)] w fun r w' => r = .returned (.bool true) ∧ w = w' := by
  obtain ⟨z3, z4⟩ := itoaB_len hp
  have hf := itoaB_first h0
  have CD := fun w => rDigits_any (itoaB (p : Int)) w (by omega) (fun k hk => itoaB_dig hk)
  obtain ⟨s, hs⟩ : ∃ s, s = itoaB (p : Int) := ⟨_, rfl⟩
  rw [← hs] at z3 z4 hf CD ⊢
  clear hs
  have z4' : 0 < s.size := z4
  rw [byteAt_in z4'] at hf
  have d1 : (((s[0]'z4').toNat : Int) == 48) = false := by simp; omega
  have HCD := hid CD; clear CD hf
  have d2 : ((s.size : Int) == 0) = false := beq_eq_false_iff_ne.2 (by omega)
  have d3 : ¬ s = ByteArray.empty := by rintro rfl; exact absurd z4 (by decide)
  go_enter Tryz.func70, Tryz.ntmps70
  by_cases h1 : 1 < s.size
  · go_wp2_with fail
    refine (HCD.out _).mono ?_
    rintro e w' ⟨rfl, rfl⟩
    go_wp2_with fail
    go_ret
    exact ⟨rfl, rfl⟩
  · go_wp2_with fail
    refine (HCD.out _).mono ?_
    rintro e w' ⟨rfl, rfl⟩
    go_wp2_with fail
    go_ret
    exact ⟨rfl, rfl⟩

theorem rCheckPerm_any (a : Option Addr) (cap : Nat) (p : List Int) (w : World) (hS : Ints w a cap p) (hp : IsP p) (h : p.length ≤ 256) :
    Calls Tryz.prog 23 #[.slice a p.length cap] w fun r w' => r = .returned (.int .i64 0) ∧ Below w.heap.size w w' := by
  have hcap := hS.le
  have hm := hS.max
  have HP := hid hp; clear hp
  go_enter Tryz.func23, Tryz.ntmps23
  go_wp2
  go_loopw [3, 4] (fun i _ wr => ∃ k : Nat, k ≤ p.length ∧ i = .int .i64 k ∧ Below w.heap.size w wr) (fun i _ _ => p.length - (intOf i).toNat)
  case atStart => exact ⟨0, by omega, rfl, Below.refl _ _⟩
  case round =>
    obtain ⟨k, hk, rfl, hb⟩ := hrel
    have hR := hS.below hb
    by_cases hlt : k < p.length
    · have hr := HP.out.rng k (by omega) (by omega)
      have d1 : ¬ atD 0 p k < 0 := by omega
      have d2 : ¬ (p.length : Int) ≤ atD 0 p k := by omega
      clear hr
      go_wp2_with (first | (with_reducible refine wpList_idx _ 0 E_ints F_int cInt1 (by with_unfolding_all rfl) (by with_unfolding_all rfl) (hR) (by first | omega | (simp; done)) (by first | omega | (simp; done)) (fun _ => by with_unfolding_all rfl) (fun _ => ?_)) | (with_reducible refine wpList_idxG 0 E_ints F_int cInt1 (by with_unfolding_all rfl) (by with_unfolding_all rfl) (hR) (rfl) (by first | omega | (simp; done)) (by first | omega | (simp; done)) (fun _ => by with_unfolding_all rfl) (by with_unfolding_all rfl) (fun _ => by with_unfolding_all rfl) (fun _ => ?_)))
      go_loopw [4] (fun i wq => ∃ j : Nat, j ≤ k ∧ i = .int .i64 j ∧ Below w.heap.size w wq) (fun i _ => k - (intOf i).toNat)
      case atStart => exact ⟨0, by omega, rfl, hb⟩
      case round =>
        obtain ⟨j, hj, rfl, hb2⟩ := hrel
        have hR2 := hS.below hb2
        by_cases hjk : j < k
        · have hjl : j < p.length := by omega
          have hne : atD 0 p j ≠ atD 0 p k := fun e => by have := HP.out.inj j k (by omega) (by omega) (by omega) (by omega) e; omega
          have d3 : (atD 0 p j == atD 0 p k) = false := by simpa using hne
          clear hne
          go_wp2_with fail
          refine wp_region_quiet_lit (by kernel_rfl) (by kernel_rfl) ?_
          repeat (first | ((with_reducible refine wpQD_idx 0 E_ints F_int cInt1 (by with_unfolding_all rfl) (by with_unfolding_all rfl) (hR2) (by first | omega | (simp; done)) (by first | omega | (simp; done)) (fun _ => by with_unfolding_all rfl) (fun _ => ?_)); (try simp only [Act.put, List.setIfInBounds_toArray, List.set_cons_zero, List.set_cons_succ]); (try simp only [cInt])) | quiet_step (fail))
          refine wpQuiet_nil ?_
          intro w2 hb3
          replace hb3 := below_drewN hb3
          go_wp2_with fail
          go_roundw
          case rel => exact ⟨j + 1, by omega, by simp, bnext hb2 hb3⟩
          case measure => simp [intOf]; omega
        · have : j = k := by omega
          subst this
          go_wp2_with fail
          go_roundw
          case rel => exact ⟨j + 1, by omega, by simp, hb2⟩
          case measure => simp [intOf]; omega
    · have : k = p.length := by omega
      subst this
      go_wp2_with fail
      go_ret
      exact ⟨rfl, hb⟩

theorem rCheck_any (p : Nat) (w : World) (h0 : 0 < p) (hp : p < 1000000000) :
    Calls Tryz.prog 24 #[.string (itoaB p)] w fun r w' => r = .returned (.int .i64 0) ∧ Below w.heap.size w w' := by
  obtain ⟨z3, z4⟩ := itoaB_len hp
  have hf := itoaB_first h0
  have CD := fun w => rdecimalForm_any p w h0 hp
  have CS := fun w => rslash_any (itoaB (p : Int)) _ w (slashAt_none (fun j hj => itoaB_dig hj)) (by omega)
  have hx : (itoaB (p : Int)).extract 0 (itoaB (p : Int)).size = itoaB (p : Int) := by rw [ByteArray.extract_zero_size]
  obtain ⟨s, hs⟩ : ∃ s, s = itoaB (p : Int) := ⟨_, rfl⟩
  rw [← hs] at z3 z4 hf CD CS hx ⊢
  clear hs
  have z4' : 0 < s.size := z4
  rw [byteAt_in z4'] at hf
  have d1 : (((s[0]'z4').toNat : Int) == 45) = false := by simp; omega
  have HCD := hid CD; have HCS := hid CS; have HX := hid hx; clear CD CS hf hx
  go_enter Tryz.func24, Tryz.ntmps24
  go_wp2_with fail
  refine (HCS.out _).mono ?_
  rintro e w' ⟨rfl, rfl⟩
  go_wp2_with fail
  refine (HCD.out _).mono ?_
  rintro e w' ⟨rfl, rfl⟩
  go_wp2_with fail
  go_ret
  exact ⟨rfl, Below.refl _ _⟩

theorem rSign_any (p : Nat) (w : World) (h0 : 0 < p) (hp : p < 1000000000) :
    Calls Tryz.prog 76 #[.string (itoaB p)] w fun r w' => r = .returned (.int .i64 1) ∧ w = w' := by
  obtain ⟨z3, z4⟩ := itoaB_len hp
  have hf := itoaB_first h0
  have h48 : (⟨#[48]⟩ : ByteArray).toList = [48] := by rw [ByteArray.toList_eq]
  have hne : ((itoaB (p : Int)).toList == [48]) = false := by
    rw [← h48, eqS]
    refine decide_eq_false (fun e2 => ?_)
    rw [e2] at hf
    exact absurd hf (by decide)
  obtain ⟨s, hs⟩ : ∃ s, s = itoaB (p : Int) := ⟨_, rfl⟩
  rw [← hs] at z3 z4 hf hne ⊢
  clear hs
  have z4' : 0 < s.size := z4
  rw [byteAt_in z4'] at hf
  have d1 : (((s[0]'z4').toNat : Int) == 45) = false := by simp; omega
  clear hf h48
  go_enter Tryz.func76, Tryz.ntmps76
  go_wp2_with fail
  go_ret
  exact ⟨rfl, rfl⟩

/-- the quotient minus 60, and its sign. -/
theorem rCmp60_any (p : Nat) (w : World) (h0 : 60 < p) (hp : p < 1000000000) :
    Calls Tryz.prog 27 #[.string (itoaB p), .string ⟨#[54, 48]⟩] w fun r w' => r = .returned (.int .i64 1) ∧ Below w.heap.size w w' := by
  have e60 : itoaB ((60 : Nat) : Int) = ⟨#[54, 48]⟩ := by rw [itoaB_nat]; rw [decD_big (by decide), decD_small (by decide)]; rfl
  have CS := fun w => rSign_any 60 w (by decide) (by decide)
  rw [e60] at CS
  have CV := fun w => rvalue_any 60 w (by decide)
  rw [e60] at CV
  have CL := fun w => rslash_any ⟨#[54, 48]⟩ 2 w ⟨by decide, fun j hj => by (have : j = 0 ∨ j = 1 := by omega); rcases this with rfl | rfl <;> decide, fun h => absurd h (by decide)⟩ (by decide)
  have CQ := fun w => rquick_any p 1 w hp (by decide)
  rw [textQ_one] at CQ
  have CO := fun w => rOf_any (p - 60) 1 w (by omega) (by decide) (by decide)
  have CF := fun w => rSign_any (p - 60) w (by omega) (by omega)
  rw [Nat.gcd_one_right, Nat.div_one, Nat.div_one, textQ_one] at CO
  have ep : ((p - 60 : Nat) : Int) = (p : Int) - 60 := by omega
  obtain ⟨s, hs⟩ : ∃ s, s = itoaB (p : Int) := ⟨_, rfl⟩
  obtain ⟨D, hD⟩ : ∃ s, s = itoaB ((p - 60 : Nat) : Int) := ⟨_, rfl⟩
  rw [← hs] at CQ ⊢
  rw [← hD] at CO CF
  rw [ep] at CO
  have HS := hid CS; have HV := hid CV; have HL := hid CL; have HQ := hid CQ; have HO := hid CO; have HF := hid CF
  clear CS CV CL CQ CO CF e60 ep hs hD
  -- Neg
  have hneg : ∀ w, Calls Tryz.prog 127 #[.string ⟨#[54, 48]⟩] w fun r w' => r = .returned (.string ⟨#[45, 54, 48]⟩) ∧ w = w' := by
    intro w
    go_enter Tryz.func127, Tryz.ntmps127
    go_wp2_with fail
    refine (HS.out _).mono ?_
    rintro e w' ⟨rfl, rfl⟩
    go_wp2_with fail
    refine (HS.out _).mono ?_
    rintro e w' ⟨rfl, rfl⟩
    go_wp2_with fail
    go_ret
    exact ⟨rfl, rfl⟩
  have hq : ∀ w, Calls Tryz.prog 116 #[.string ⟨#[45, 54, 48]⟩] w fun r w' => r = .returned (.tuple #[.int .i64 (-60), .int .i64 1, .bool true]) ∧ w = w' := by
    intro w
    have hx1 : (⟨#[45, 54, 48]⟩ : ByteArray).extract 1 3 = ⟨#[54, 48]⟩ := by decide
    have hx2 : (⟨#[54, 48]⟩ : ByteArray).extract 0 2 = ⟨#[54, 48]⟩ := by decide
    have HX1 := hid hx1; have HX2 := hid hx2; clear hx1 hx2
    go_enter Tryz.func116, Tryz.ntmps116
    go_wp2_with fail
    rw [HX1.out]
    refine (HL.out _).mono ?_
    rintro e w' ⟨rfl, rfl⟩
    go_wp2_with fail
    rw [HX2.out]
    refine (HV.out _).mono ?_
    rintro e w' ⟨rfl, rfl⟩
    go_wp2_with fail
    go_ret3
    exact ⟨rfl, rfl⟩
  have HN := hid hneg; have HK := hid hq
  clear hneg hq
  have hadd : ∀ w, Calls Tryz.prog 126 #[.string s, .string ⟨#[45, 54, 48]⟩] w fun r w' => r = .returned (.string D) ∧ Below w.heap.size w w' := by
    intro w
    go_enter Tryz.func126, Tryz.ntmps126
    go_wp2_with fail
    refine (HQ.out _).mono ?_
    rintro e w' ⟨rfl, rfl⟩
    go_wp2_with fail
    refine (HK.out _).mono ?_
    rintro e w' ⟨rfl, rfl⟩
    go_wp2_with fail
    refine (HO.out _).mono ?_
    rintro e w' ⟨rfl, b1⟩
    go_wp2_with fail
    go_ret
    exact ⟨rfl, b1⟩
  have HA := hid hadd; clear hadd
  have hsub : ∀ w, Calls Tryz.prog 77 #[.string s, .string ⟨#[54, 48]⟩] w fun r w' => r = .returned (.string D) ∧ Below w.heap.size w w' := by
    intro w
    go_enter Tryz.func77, Tryz.ntmps77
    go_wp2_with fail
    refine (HN.out _).mono ?_
    rintro e w' ⟨rfl, rfl⟩
    go_wp2_with fail
    refine (HA.out _).mono ?_
    rintro e w' ⟨rfl, b1⟩
    go_wp2_with fail
    go_ret
    exact ⟨rfl, b1⟩
  have HB := hid hsub; clear hsub
  go_enter Tryz.func27, Tryz.ntmps27
  go_wp2_with fail
  refine (HB.out _).mono ?_
  rintro e w' ⟨rfl, b1⟩
  go_wp2_with fail
  refine (HF.out _).mono ?_
  rintro e w' ⟨rfl, rfl⟩
  go_wp2_with fail
  go_ret
  exact ⟨rfl, b1⟩
end Go.Proofs.YtmomeggnegcheaaGreatDoor
