/- Contracts of the reference's arithmetic in small numbers: Reciprocal, Of, Mul, Num, Div, and the period of a permutation. Conditions: numbers of at most 9 digits; at most 64 places. -/
import Derived.Test.YtogbclcnmogaeaaGreatDoorNrC
import Derived.Test.YtogbclcnmogaeaaGreatDoorKnB
set_option linter.all false
namespace Go.Proofs.YtogbclcnmogaeaaGreatDoor
open Go.RowKit
set_option maxHeartbeats 2000000
set_option maxRecDepth 100000

theorem rReciprocal_any (x : Nat) (w : World) (hx : x < 1000000000) (h0 : 0 < x) :
    Calls Tryz.prog 173 #[.string (itoaB x)] w fun r w' => r = .returned (.string (textQ 1 x)) ∧ Below w.heap.size w w' := by
  have CP := fun w => rparts_any x w hx
  have CF := fun a b c d w hS hT => rfraction_any 1 x a b c d w (by decide) hx (by decide) h0 hS hT
  rw [Nat.gcd_one_left, Nat.div_one, Nat.div_one] at CF
  have HP := hid CP; have HF := hid CF
  clear CP CF
  go_enter Tryz.func173, Tryz.ntmps173
  go_wp2_with fail
  refine (HP.out w).mono ?_
  rintro e w1 ⟨a, c, b, d, rfl, h1, h2, b1⟩
  have hS0 := ((SL.nil w1).box (.cells #[.bool false, .slice none 0 0] 170)).box (.cells #[.bool false, .slice none 0 0] 170)
  simp only [World.size_alloc] at hS0
  go_wp2_with (first | ((with_reducible refine wpList_stoR (us := #[.bool false, .slice a (wD x).length c]) 1 (by with_unfolding_all rfl) (by with_unfolding_all rfl) (hS0) (by with_unfolding_all rfl) (by kernel_rfl) (by with_unfolding_all rfl) (by with_unfolding_all rfl) ?_); intro w3 hS3) | ((with_reducible refine wpList_stoR (us := #[.bool false, .slice b (wD 1).length d]) 0 (by with_unfolding_all rfl) (by with_unfolding_all rfl) (hS3) (by with_unfolding_all rfl) (by kernel_rfl) (by with_unfolding_all rfl) (by with_unfolding_all rfl) ?_); intro w4 hS4) | (with_reducible refine wpList_ldS (n := 2) (us := #[.bool false, .slice b (wD 1).length d]) A_integer (by kernel_rfl) (by with_unfolding_all rfl) (by with_unfolding_all rfl) (hS4.blk 0 rfl).1 (by with_unfolding_all rfl) (by with_unfolding_all rfl) ?_) | (with_reducible refine wpList_ldS (n := 2) (us := #[.bool false, .slice a (wD x).length c]) A_integer (by kernel_rfl) (by with_unfolding_all rfl) (by with_unfolding_all rfl) (hS4.blk 1 rfl).1 (by with_unfolding_all rfl) (by with_unfolding_all rfl) ?_))
  refine (HF.out b a d c w4 (h2.below hS4.b) (h1.below hS4.b)).mono ?_
  rintro e w5 ⟨rfl, b5⟩
  go_wp2_with fail
  go_ret
  exact ⟨rfl, bnext b1 (bnext hS4.b b5)⟩

theorem rgcdL_any (x y : Int) (w : World) (hx : 0 ≤ x) (hx2 : x ≤ 4611686018427387904) (hy : 0 ≤ y) (hy2 : y ≤ 4611686018427387904) :
    Calls Tryz.prog 187 #[.int .i64 x, .int .i64 y] w fun r w' => r = .returned (.int .i64 (Int.gcd x y)) ∧ Below w.heap.size w w' := by
  go_enter Tryz.func187, Tryz.ntmps187
  go_wp2
  go_loopw [0, 1] (fun p q wr => ∃ a b : Int, p = .int .i64 a ∧ q = .int .i64 b ∧ 0 ≤ a ∧ a ≤ 4611686018427387904 ∧ 0 ≤ b ∧ b ≤ 4611686018427387904 ∧ Int.gcd a b = Int.gcd x y ∧ Below w.heap.size w wr) (fun _ q _ => (intOf q).toNat)
  case atStart => exact ⟨x, y, rfl, rfl, hx, hx2, hy, hy2, rfl, Below.refl _ _⟩
  case round =>
    obtain ⟨a, b, rfl, rfl, ha, ha2, hb, hb2, hg, hbr⟩ := hrel
    have HG := hid hg; clear hg
    by_cases hlt : 0 < b
    · have hm0 := Int.emod_nonneg a (by omega : b ≠ 0)
      have hm1 := Int.emod_lt_of_pos a hlt
      have hne : ¬ b = 0 := by omega
      have hwr : IntKind.i64.wrap (a.tmod b) = a % b := by rw [Int.tmod_eq_emod_of_nonneg ha]; exact IntWalk.i64_in _ (by omega)
      go_wp2_with fail
      refine wp_region_quiet_lit (by kernel_rfl) (by kernel_rfl) ?_
      repeat (first | fail | quiet_step (fail))
      refine wpQuiet_nil ?_
      intro w2 hb2
      replace hb2 := below_drewN hb2
      clear hwr
      go_wp2_with fail
      rw [Int.tmod_eq_emod_of_nonneg (b := b) ha]
      refine ⟨⟨b, a % b, rfl, rfl, by omega, by omega, by omega, by omega, ?_, bnext hbr hb2⟩, by simp [intOf]; omega⟩
      rw [← HG.out, gcd_step ha hb]
    · have : b = 0 := by omega
      subst this
      have hfin : a = Int.gcd x y := by
        rw [← HG.out, Int.gcd_zero]; omega
      have HF := hid hfin; clear hfin
      go_wp2_with fail
      go_ret
      exact ⟨by rw [← HF.out]; rfl, hbr⟩

theorem rOf_any (x y : Nat) (w : World) (hx : x < 1000000000000000000) (hy : y < 1000000000000000000) (hy0 : 0 < y) :
    Calls Tryz.prog 170 #[.int .i64 x, .int .i64 y] w fun r w' => r = .returned (.string (textQ (x / Nat.gcd x y) (y / Nat.gcd x y))) ∧ Below w.heap.size w w' := by
  have CG := fun w => rgcdL_any x y w (by omega) (by omega) (by omega) (by omega)
  have eg : ((Int.gcd (x : Int) (y : Int) : Nat) : Int) = ((Nat.gcd x y : Nat) : Int) := rfl
  rw [eg] at CG
  have hg0 : 0 < Nat.gcd x y := Nat.gcd_pos_of_pos_right _ hy0
  have hgy : Nat.gcd x y ≤ y := Nat.gcd_le_right _ hy0
  have hq0 : 0 < y / Nat.gcd x y := Nat.div_pos hgy hg0
  obtain ⟨g, hg⟩ : ∃ g, g = Nat.gcd x y := ⟨_, rfl⟩
  rw [← hg] at CG hg0 hgy hq0 ⊢
  have hp1 : x / g ≤ x := Nat.div_le_self _ _
  have hq1 : y / g ≤ y := Nat.div_le_self _ _
  have tp : (x : Int).tdiv g = (x : Int) / g := Int.tdiv_eq_ediv_of_nonneg (by omega)
  have tq : (y : Int).tdiv g = (y : Int) / g := Int.tdiv_eq_ediv_of_nonneg (by omega)
  have ep : (x : Int) / g = ((x / g : Nat) : Int) := rfl
  have eq : (y : Int) / g = ((y / g : Nat) : Int) := rfl
  obtain ⟨p, hp⟩ : ∃ p, p = x / g := ⟨_, rfl⟩
  obtain ⟨q, hq⟩ : ∃ q, q = y / g := ⟨_, rfl⟩
  rw [← hp] at ep hp1 ⊢
  rw [← hq] at eq hq1 hq0 ⊢
  have ewp : IntKind.i64.wrap ((x : Int) / g) = (x : Int) / g := by rw [ep]; exact IntWalk.i64_in _ (by omega)
  have ewq : IntKind.i64.wrap ((y : Int) / g) = (y : Int) / g := by rw [eq]; exact IntWalk.i64_in _ (by omega)
  have CP := fun w => rdecimal_any p w (by omega)
  have CQ := fun w => rdecimal_any q w (by omega)
  have hzp : (itoaB (p : Int)).size ≤ 18 := by have := decD_len 17 p (by omega); rw [itoaB_bT, bT_size]; exact this
  have hzq : (itoaB (q : Int)).size ≤ 18 := by have := decD_len 17 q (by omega); rw [itoaB_bT, bT_size]; exact this
  have hm1 : max (x : Int) (-(x : Int)) = x := by omega
  have hm2 : max (p : Int) (-(p : Int)) = p := by omega
  have hn1 : ¬ (x : Int) < -x := by omega
  have hn2 : ¬ (p : Int) < -p := by omega
  have hgn : ¬ (g : Int) = 0 := by omega
  have hgn2 : ¬ g = 0 := by omega
  have HG := hid CG; have HP := hid CP; have HQ := hid CQ; have EP := hid ep; have EQ := hid eq
  clear CG CP CQ ep eq hp hq hg eg
  have he : (⟨#[]⟩ : ByteArray) ++ itoaB (p : Int) = itoaB (p : Int) := by rw [itoaB_bT, show (⟨#[]⟩ : ByteArray) = bT [] from rfl, bT_app]; rfl
  go_enter Tryz.func170, Tryz.ntmps170
  go_wp2_with fail
  refine (HG.out _).mono ?_
  rintro e w1 ⟨rfl, b1⟩
  go_wp2_with fail
  refine wp_region_quiet_lit (by kernel_rfl) (by kernel_rfl) ?_
  repeat (first  | quiet_step (fail))
  refine wpQuiet_nil ?_
  intro w2 b2
  replace b2 := below_drewN b2
  clear ewp ewq tp tq
  rw [EP.out, EQ.out]
  have t2 := bnext b1 b2
  go_wp2_with fail
  refine (HP.out _).mono ?_
  rintro e w' ⟨rfl, rfl⟩
  by_cases h1 : q = 1
  · subst h1
    have HTQ := hid (textQ_one p)
    go_wp2_with fail
    go_ret
    exact ⟨by rw [HTQ.out]; first | rfl | (rw [← he]; rfl), t2⟩
  · have h1' : (1 : Int) < q := by omega
    have ht : textQ p q = itoaB (p : Int) ++ ⟨#[47]⟩ ++ itoaB (q : Int) := by unfold textQ; rw [if_neg h1]
    have HTQ := hid ht; clear ht
    go_wp2_with fail
    refine (HQ.out _).mono ?_
    rintro e w' ⟨rfl, rfl⟩
    go_wp2_with fail
    go_ret
    exact ⟨by rw [HTQ.out]; first | rfl | (rw [← he]; rfl), t2⟩

theorem rMul_any (p q r s : Nat) (w : World) (hp : p < 1000000000) (hq : q < 1000000000) (hr : r < 1000000000) (hs : s < 1000000000) (hq0 : 0 < q) (hs0 : 0 < s) :
    Calls Tryz.prog 110 #[.string (textQ p q), .string (textQ r s)] w fun e w' => e = .returned (.string (textQ (p * r / Nat.gcd (p * r) (q * s)) (q * s / Nat.gcd (p * r) (q * s)))) ∧ Below w.heap.size w w' := by
  have h1 : p * r < 1000000000000000000 := by
    have := Nat.mul_le_mul (show p ≤ 999999999 by omega) (show r ≤ 999999999 by omega); omega
  have h2 : q * s < 1000000000000000000 := by
    have := Nat.mul_le_mul (show q ≤ 999999999 by omega) (show s ≤ 999999999 by omega); omega
  have h3 : 0 < q * s := Nat.mul_pos hq0 hs0
  have CA := fun w => rquick_any p q w hp hq
  have CB := fun w => rquick_any r s w hr hs
  have CO := fun w => rOf_any (p * r) (q * s) w h1 h2 h3
  have e1 : ((p * r : Nat) : Int) = (p : Int) * r := Int.natCast_mul _ _
  have e2 : ((q * s : Nat) : Int) = (q : Int) * s := Int.natCast_mul _ _
  rw [e1, e2] at CO
  have b1 : 0 ≤ (p : Int) * r ∧ (p : Int) * r < 1000000000000000000 := by rw [← e1]; omega
  have b2 : 0 ≤ (q : Int) * s ∧ (q : Int) * s < 1000000000000000000 := by rw [← e2]; omega
  have w1 : IntKind.i64.wrap ((p : Int) * r) = (p : Int) * r := IntWalk.i64_in _ (by omega)
  have w2 : IntKind.i64.wrap ((q : Int) * s) = (q : Int) * s := IntWalk.i64_in _ (by omega)
  have HA := hid CA; have HB := hid CB; have HO := hid CO
  clear CA CB CO e1 e2 b1 b2
  go_enter Tryz.func110, Tryz.ntmps110
  go_wp2_with fail
  refine (HA.out w).mono ?_
  rintro e w' ⟨rfl, rfl⟩
  go_wp2_with fail
  refine (HB.out w).mono ?_
  rintro e w' ⟨rfl, rfl⟩
  go_wp2_with fail
  refine (HO.out w).mono ?_
  rintro e w5 ⟨rfl, b5⟩
  go_wp2_with fail
  go_ret
  exact ⟨rfl, b5⟩
theorem rNum_any (p q : Nat) (w : World) (hp : p < 1000000000) (hq : q < 1000000000) :
    Calls Tryz.prog 111 #[.string (textQ p q)] w fun e w' => e = .returned (.string (itoaB p)) ∧ Below w.heap.size w w' := by
  obtain ⟨z1, z2⟩ := textQ_size hp hq
  have CS := fun w => rslash_any (textQ p q) (itoaB (p : Int)).size w (textQ_slash p q) (by omega)
  have hle := (textQ_slash p q).le
  have HN := hid (textQ_num p q)
  obtain ⟨k, hk⟩ : ∃ k, k = (itoaB (p : Int)).size := ⟨_, rfl⟩
  rw [← hk] at CS hle HN
  have HS := hid CS
  clear CS hk
  go_enter Tryz.func111, Tryz.ntmps111
  go_wp2_with fail
  refine (HS.out w).mono ?_
  rintro e w' ⟨rfl, rfl⟩
  go_wp2_with fail
  go_ret
  exact ⟨by rw [← HN.out]; rfl, Below.refl _ _⟩
theorem rDiv_any (p n : Nat) (w : World) (hp : p < 1000000000) (hn : n < 1000000000) (hn0 : 0 < n) :
    Calls Tryz.prog 112 #[.string (itoaB p), .string (itoaB n)] w fun e w' => e = .returned (.string (textQ (p / Nat.gcd p n) (n / Nat.gcd p n))) ∧ Below w.heap.size w w' := by
  have CR := fun w => rReciprocal_any n w hn hn0
  have CM := fun w => rMul_any p 1 1 n w hp (by omega) (by omega) hn (by omega) hn0
  rw [textQ_one, Nat.mul_one, Nat.one_mul] at CM
  have HR := hid CR; have HM := hid CM; clear CR CM
  go_enter Tryz.func112, Tryz.ntmps112
  go_wp2_with fail
  refine (HR.out w).mono ?_
  rintro e w1 ⟨rfl, b1⟩
  go_wp2_with fail
  refine (HM.out w1).mono ?_
  rintro e w2 ⟨rfl, b2⟩
  go_wp2_with fail
  go_ret
  exact ⟨rfl, bnext b1 b2⟩
end Go.Proofs.YtogbclcnmogaeaaGreatDoor
