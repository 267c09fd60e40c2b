/- Contracts of the reference's arithmetic in small numbers: Reciprocal, Of, Mul, Num, Div, and the period of a permutation. Conditions: numbers of at most 9 digits; at most 64 places. Contract of the reference: Period. Conditions: the list is a permutation of at most 64 numbers. -/
import Derived.Test.YtmomeggnegcheaaGreatDoorNrM
import Derived.Test.YtmomeggnegcheaaGreatDoorKnM
import Derived.Test.YtmomeggnegcheaaGreatDoorPeA
set_option linter.all false
/- Contracts of the reference's arithmetic in small numbers: Reciprocal, Of, Mul, Num, Div, and the period of a permutation. Conditions: numbers of at most 9 digits; at most 64 places. -/
namespace Go.Proofs.YtmomeggnegcheaaGreatDoor
open Go.RowKit
set_option maxHeartbeats 2000000
set_option maxRecDepth 100000

theorem rReciprocal_any (x : Nat) (w : World) (hx : x < 1000000000) (h0 : 0 < x) :
    Calls Tryz.prog 120 #[.string (itoaB x)] w fun r w' => r = .returned (.string (textQ 1 x)) ∧ Below w.heap.size w w' := by
  have CP := fun w => rparts_any x w hx
  have CF := fun a b c d w hS hT => rfraction_any 1 x a b c d w (by decide) hx (by decide) h0 hS hT
  rw [Nat.gcd_one_left, Nat.div_one, Nat.div_one] at CF
  have HP := hid CP; have HF := hid CF
  clear CP CF
  go_enter Tryz.func120, Tryz.ntmps120
  go_wp2_with fail
  refine (HP.out w).mono ?_
  rintro e w1 ⟨a, c, b, d, rfl, h1, h2, b1⟩
  have hS0 := ((SL.nil w1).box (.cells #[.bool false, .slice none 0 0] 121)).box (.cells #[.bool false, .slice none 0 0] 121)
  simp only [World.size_alloc] at hS0
  go_wp2_with (first | ((with_reducible refine wpList_stoR (us := #[.bool false, .slice a (wD x).length c]) 1 (by with_unfolding_all rfl) (by with_unfolding_all rfl) (hS0) (by with_unfolding_all rfl) (by kernel_rfl) (by with_unfolding_all rfl) (by with_unfolding_all rfl) ?_); intro w3 hS3) | ((with_reducible refine wpList_stoR (us := #[.bool false, .slice b (wD 1).length d]) 0 (by with_unfolding_all rfl) (by with_unfolding_all rfl) (hS3) (by with_unfolding_all rfl) (by kernel_rfl) (by with_unfolding_all rfl) (by with_unfolding_all rfl) ?_); intro w4 hS4) | (with_reducible refine wpList_ldS (n := 2) (us := #[.bool false, .slice b (wD 1).length d]) A_integer (by kernel_rfl) (by with_unfolding_all rfl) (by with_unfolding_all rfl) (hS4.blk 0 rfl).1 (by with_unfolding_all rfl) (by with_unfolding_all rfl) ?_) | (with_reducible refine wpList_ldS (n := 2) (us := #[.bool false, .slice a (wD x).length c]) A_integer (by kernel_rfl) (by with_unfolding_all rfl) (by with_unfolding_all rfl) (hS4.blk 1 rfl).1 (by with_unfolding_all rfl) (by with_unfolding_all rfl) ?_))
  refine (HF.out b a d c w4 (h2.below hS4.b) (h1.below hS4.b)).mono ?_
  rintro e w5 ⟨rfl, b5⟩
  go_wp2_with fail
  go_ret
  exact ⟨rfl, bnext b1 (bnext hS4.b b5)⟩

theorem rgcdL_any (x y : Int) (w : World) (hx : 0 ≤ x) (hx2 : x ≤ 4611686018427387904) (hy : 0 ≤ y) (hy2 : y ≤ 4611686018427387904) :
    Calls Tryz.prog 155 #[.int .i64 x, .int .i64 y] w fun r w' => r = .returned (.int .i64 (Int.gcd x y)) ∧ Below w.heap.size w w' := by
  go_enter Tryz.func155, Tryz.ntmps155
  go_wp2
  go_loopw [0, 1] (fun p q wr => ∃ a b : Int, p = .int .i64 a ∧ q = .int .i64 b ∧ 0 ≤ a ∧ a ≤ 4611686018427387904 ∧ 0 ≤ b ∧ b ≤ 4611686018427387904 ∧ Int.gcd a b = Int.gcd x y ∧ Below w.heap.size w wr) (fun _ q _ => (intOf q).toNat)
  case atStart => exact ⟨x, y, rfl, rfl, hx, hx2, hy, hy2, rfl, Below.refl _ _⟩
  case round =>
    obtain ⟨a, b, rfl, rfl, ha, ha2, hb, hb2, hg, hbr⟩ := hrel
    have HG := hid hg; clear hg
    by_cases hlt : 0 < b
    · have hm0 := Int.emod_nonneg a (by omega : b ≠ 0)
      have hm1 := Int.emod_lt_of_pos a hlt
      have hne : ¬ b = 0 := by omega
      have hwr : IntKind.i64.wrap (a.tmod b) = a % b := by rw [Int.tmod_eq_emod_of_nonneg ha]; exact IntWalk.i64_in _ (by omega)
      go_wp2_with fail
      refine wp_region_quiet_lit (by kernel_rfl) (by kernel_rfl) ?_
      repeat (first | fail | quiet_step (fail))
      refine wpQuiet_nil ?_
      intro w2 hb2
      replace hb2 := below_drewN hb2
      clear hwr
      go_wp2_with fail
      rw [Int.tmod_eq_emod_of_nonneg (b := b) ha]
      refine ⟨⟨b, a % b, rfl, rfl, by omega, by omega, by omega, by omega, ?_, bnext hbr hb2⟩, by simp [intOf]; omega⟩
      rw [← HG.out, gcd_step ha hb]
    · have : b = 0 := by omega
      subst this
      have hfin : a = Int.gcd x y := by
        rw [← HG.out, Int.gcd_zero]; omega
      have HF := hid hfin; clear hfin
      go_wp2_with fail
      go_ret
      exact ⟨by rw [← HF.out]; rfl, hbr⟩

theorem rOf_any (x y : Nat) (w : World) (hx : x < 1000000000000000000) (hy : y < 1000000000000000000) (hy0 : 0 < y) :
    Calls Tryz.prog 117 #[.int .i64 x, .int .i64 y] w fun r w' => r = .returned (.string (textQ (x / Nat.gcd x y) (y / Nat.gcd x y))) ∧ Below w.heap.size w w' := by
  have CG := fun w => rgcdL_any x y w (by omega) (by omega) (by omega) (by omega)
  have eg : ((Int.gcd (x : Int) (y : Int) : Nat) : Int) = ((Nat.gcd x y : Nat) : Int) := rfl
  rw [eg] at CG
  have hg0 : 0 < Nat.gcd x y := Nat.gcd_pos_of_pos_right _ hy0
  have hgy : Nat.gcd x y ≤ y := Nat.gcd_le_right _ hy0
  have hq0 : 0 < y / Nat.gcd x y := Nat.div_pos hgy hg0
  obtain ⟨g, hg⟩ : ∃ g, g = Nat.gcd x y := ⟨_, rfl⟩
  rw [← hg] at CG hg0 hgy hq0 ⊢
  have hp1 : x / g ≤ x := Nat.div_le_self _ _
  have hq1 : y / g ≤ y := Nat.div_le_self _ _
  have tp : (x : Int).tdiv g = (x : Int) / g := Int.tdiv_eq_ediv_of_nonneg (by omega)
  have tq : (y : Int).tdiv g = (y : Int) / g := Int.tdiv_eq_ediv_of_nonneg (by omega)
  have ep : (x : Int) / g = ((x / g : Nat) : Int) := rfl
  have eq : (y : Int) / g = ((y / g : Nat) : Int) := rfl
  obtain ⟨p, hp⟩ : ∃ p, p = x / g := ⟨_, rfl⟩
  obtain ⟨q, hq⟩ : ∃ q, q = y / g := ⟨_, rfl⟩
  rw [← hp] at ep hp1 ⊢
  rw [← hq] at eq hq1 hq0 ⊢
  have ewp : IntKind.i64.wrap ((x : Int) / g) = (x : Int) / g := by rw [ep]; exact IntWalk.i64_in _ (by omega)
  have ewq : IntKind.i64.wrap ((y : Int) / g) = (y : Int) / g := by rw [eq]; exact IntWalk.i64_in _ (by omega)
  have CP := fun w => rdecimal_any p w (by omega)
  have CQ := fun w => rdecimal_any q w (by omega)
  have hzp : (itoaB (p : Int)).size ≤ 18 := by have := decD_len 17 p (by omega); rw [itoaB_bT, bT_size]; exact this
  have hzq : (itoaB (q : Int)).size ≤ 18 := by have := decD_len 17 q (by omega); rw [itoaB_bT, bT_size]; exact this
  have hm1 : max (x : Int) (-(x : Int)) = x := by omega
  have hm2 : max (p : Int) (-(p : Int)) = p := by omega
  have hn1 : ¬ (x : Int) < -x := by omega
  have hn2 : ¬ (p : Int) < -p := by omega
  have hgn : ¬ (g : Int) = 0 := by omega
  have hgn2 : ¬ g = 0 := by omega
  have HG := hid CG; have HP := hid CP; have HQ := hid CQ; have EP := hid ep; have EQ := hid eq
  clear CG CP CQ ep eq hp hq hg eg
  have he : (⟨#[]⟩ : ByteArray) ++ itoaB (p : Int) = itoaB (p : Int) := by rw [itoaB_bT, show (⟨#[]⟩ : ByteArray) = bT [] from rfl, bT_app]; rfl
  go_enter Tryz.func117, Tryz.ntmps117
  go_wp2_with fail
  refine (HG.out _).mono ?_
  rintro e w1 ⟨rfl, b1⟩
  go_wp2_with fail
  refine wp_region_quiet_lit (by kernel_rfl) (by kernel_rfl) ?_
  repeat (first  | quiet_step (fail))
  refine wpQuiet_nil ?_
  intro w2 b2
  replace b2 := below_drewN b2
  clear ewp ewq tp tq
  rw [EP.out, EQ.out]
  have t2 := bnext b1 b2
  go_wp2_with fail
  refine (HP.out _).mono ?_
  rintro e w' ⟨rfl, rfl⟩
  by_cases h1 : q = 1
  · subst h1
    have HTQ := hid (textQ_one p)
    go_wp2_with fail
    go_ret
    exact ⟨by rw [HTQ.out]; first | rfl | (rw [← he]; rfl), t2⟩
  · have h1' : (1 : Int) < q := by omega
    have ht : textQ p q = itoaB (p : Int) ++ ⟨#[47]⟩ ++ itoaB (q : Int) := by unfold textQ; rw [if_neg h1]
    have HTQ := hid ht; clear ht
    go_wp2_with fail
    refine (HQ.out _).mono ?_
    rintro e w' ⟨rfl, rfl⟩
    go_wp2_with fail
    go_ret
    exact ⟨by rw [HTQ.out]; first | rfl | (rw [← he]; rfl), t2⟩

theorem rMul_any (p q r s : Nat) (w : World) (hp : p < 1000000000) (hq : q < 1000000000) (hr : r < 1000000000) (hs : s < 1000000000) (hq0 : 0 < q) (hs0 : 0 < s) :
    Calls Tryz.prog 66 #[.string (textQ p q), .string (textQ r s)] w fun e w' => e = .returned (.string (textQ (p * r / Nat.gcd (p * r) (q * s)) (q * s / Nat.gcd (p * r) (q * s)))) ∧ Below w.heap.size w w' := by
  have h1 : p * r < 1000000000000000000 := by
    have := Nat.mul_le_mul (show p ≤ 999999999 by omega) (show r ≤ 999999999 by omega); omega
  have h2 : q * s < 1000000000000000000 := by
    have := Nat.mul_le_mul (show q ≤ 999999999 by omega) (show s ≤ 999999999 by omega); omega
  have h3 : 0 < q * s := Nat.mul_pos hq0 hs0
  have CA := fun w => rquick_any p q w hp hq
  have CB := fun w => rquick_any r s w hr hs
  have CO := fun w => rOf_any (p * r) (q * s) w h1 h2 h3
  have e1 : ((p * r : Nat) : Int) = (p : Int) * r := Int.natCast_mul _ _
  have e2 : ((q * s : Nat) : Int) = (q : Int) * s := Int.natCast_mul _ _
  rw [e1, e2] at CO
  have b1 : 0 ≤ (p : Int) * r ∧ (p : Int) * r < 1000000000000000000 := by rw [← e1]; omega
  have b2 : 0 ≤ (q : Int) * s ∧ (q : Int) * s < 1000000000000000000 := by rw [← e2]; omega
  have w1 : IntKind.i64.wrap ((p : Int) * r) = (p : Int) * r := IntWalk.i64_in _ (by omega)
  have w2 : IntKind.i64.wrap ((q : Int) * s) = (q : Int) * s := IntWalk.i64_in _ (by omega)
  have HA := hid CA; have HB := hid CB; have HO := hid CO
  clear CA CB CO e1 e2 b1 b2
  go_enter Tryz.func66, Tryz.ntmps66
  go_wp2_with fail
  refine (HA.out w).mono ?_
  rintro e w' ⟨rfl, rfl⟩
  go_wp2_with fail
  refine (HB.out w).mono ?_
  rintro e w' ⟨rfl, rfl⟩
  go_wp2_with fail
  refine (HO.out w).mono ?_
  rintro e w5 ⟨rfl, b5⟩
  go_wp2_with fail
  go_ret
  exact ⟨rfl, b5⟩
theorem rNum_any (p q : Nat) (w : World) (hp : p < 1000000000) (hq : q < 1000000000) :
    Calls Tryz.prog 67 #[.string (textQ p q)] w fun e w' => e = .returned (.string (itoaB p)) ∧ Below w.heap.size w w' := by
  obtain ⟨z1, z2⟩ := textQ_size hp hq
  have CS := fun w => rslash_any (textQ p q) (itoaB (p : Int)).size w (textQ_slash p q) (by omega)
  have hle := (textQ_slash p q).le
  have HN := hid (textQ_num p q)
  obtain ⟨k, hk⟩ : ∃ k, k = (itoaB (p : Int)).size := ⟨_, rfl⟩
  rw [← hk] at CS hle HN
  have HS := hid CS
  clear CS hk
  go_enter Tryz.func67, Tryz.ntmps67
  go_wp2_with fail
  refine (HS.out w).mono ?_
  rintro e w' ⟨rfl, rfl⟩
  go_wp2_with fail
  go_ret
  exact ⟨by rw [← HN.out]; rfl, Below.refl _ _⟩
theorem rDiv_any (p n : Nat) (w : World) (hp : p < 1000000000) (hn : n < 1000000000) (hn0 : 0 < n) :
    Calls Tryz.prog 68 #[.string (itoaB p), .string (itoaB n)] w fun e w' => e = .returned (.string (textQ (p / Nat.gcd p n) (n / Nat.gcd p n))) ∧ Below w.heap.size w w' := by
  have CR := fun w => rReciprocal_any n w hn hn0
  have CM := fun w => rMul_any p 1 1 n w hp (by omega) (by omega) hn (by omega) hn0
  rw [textQ_one, Nat.mul_one, Nat.one_mul] at CM
  have HR := hid CR; have HM := hid CM; clear CR CM
  go_enter Tryz.func68, Tryz.ntmps68
  go_wp2_with fail
  refine (HR.out w).mono ?_
  rintro e w1 ⟨rfl, b1⟩
  go_wp2_with fail
  refine (HM.out w1).mono ?_
  rintro e w2 ⟨rfl, b2⟩
  go_wp2_with fail
  go_ret
  exact ⟨rfl, bnext b1 b2⟩
end Go.Proofs.YtmomeggnegcheaaGreatDoor

/- Contract of the reference: Period. Conditions: the list is a permutation of at most 64 numbers. -/
namespace Go.Proofs.YtmomeggnegcheaaGreatDoor
open Go.RowKit
set_option maxHeartbeats 2000000
set_option maxRecDepth 100000

theorem rPeriod_any (a : Option Addr) (cap : Nat) (p : List Int) (w : World) (hS : Ints w a cap p) (hp : IsP p) (h64 : p.length ≤ 64) :
    Calls Tryz.prog 22 #[.slice a p.length cap] w fun r w' => r = .returned (.string (itoaB (periodN p))) ∧ Below w.heap.size w w' := by
  have CY := fun w hS => rCycles_any a cap p w hS hp (by omega)
  have CF := fun n w hn => rFromInt_any n w hn
  have CD := fun p n w hp hn hn0 => rDiv_any p n w hp hn hn0
  have CN := fun p q w hp hq => rNum_any p q w hp hq
  have CM := fun p r w hp hr => rMul_any p 1 r 1 w hp (by decide) hr (by decide) (by decide) (by decide)
  have HY := hid CY; have HF := hid CF; have HD := hid CD; have HN := hid CN; have HM := hid CM
  clear CY CF CD CN CM
  have hcap := hS.le
  have hm0 := hS.max
  have h1B : itoaB (1 : Int) = ⟨#[49]⟩ := by
    have := itoaB_nat 1
    rw [decD_small (by decide)] at this
    exact this
  go_enter Tryz.func22, Tryz.ntmps22
  go_wp2_with fail
  refine (HY.out _ hS).mono ?_
  rintro e w3 ⟨v, qs, rfl, hqs, hS0⟩
  obtain ⟨av, cv, rfl, _⟩ := hS0.slice 0 rfl
  have hlq : lensQ qs = (cycK p p.length).map List.length := by rw [← hqs]; simp [lensQ]
  have hsum : (lensQ qs).sum ≤ 64 := by rw [hlq]; exact Nat.le_trans (cycK_sum hp (Nat.le_refl _)) h64
  have hpos : ∀ n ∈ lensQ qs, 0 < n := by
    rw [hlq]; intro n hn
    obtain ⟨l, hl, rfl⟩ := List.mem_map.1 hn
    exact cycK_pos hp (Nat.le_refl _) l hl
  have hper : periodN p = perF (lensQ qs) := by rw [hlq]; rfl
  have hnq : qs.length ≤ 64 := by
    have h1 := cycK_len p p.length
    have h2 : (lensQ qs).length = (cycK p p.length).length := by rw [hlq]; simp
    rw [lens_len] at h2; omega
  have HPER := hid hper; have HPOS := hid hpos; have HQL : Hid ((qs.map Prod.fst).length = qs.length) := hid (by simp)
  have HQL2 : Hid (qs.length = (qs.map Prod.fst).length) := hid (by simp)
  have H1B := hid h1B
  clear hper hpos hlq hqs h1B
  rw [HQL.out]
  go_wp2_with fail
  go_loopw [3, 5, 6] (fun ov i _ wr => ∃ k : Nat, k ≤ qs.length ∧ i = .int .i64 k ∧ ov = .string (itoaB ((perF ((lensQ qs).take k) : Nat) : Int)) ∧
      SL w.heap.size w wr (pOwn cSl 1 22 (.slice av qs.length cv) (qs.map Prod.fst) :: qs.map inP)) (fun _ i _ _ => qs.length - (intOf i).toNat)
  case atStart => exact ⟨0, by omega, rfl, by rw [show perF ((lensQ qs).take 0) = 1 from rfl, show (((1 : Nat) : Int)) = 1 from rfl, H1B.out], by rw [← HQL.out]; rw [HQL.out]; simpa using hS0⟩
  case round =>
    clear hS0
    obtain ⟨k, hk, rfl, rfl, hSr⟩ := hrel
    have hRq := hSr.rd 0 rfl
    by_cases hlt : k < qs.length
    · have hlk : k < (lensQ qs).length := by rw [lens_len]; exact hlt
      have hpt := perF_take hlk
      obtain ⟨P0, hP0⟩ : ∃ P0, P0 = perF ((lensQ qs).take k) := ⟨_, rfl⟩
      obtain ⟨n, hn⟩ : ∃ n, n = (lensQ qs)[k] := ⟨_, rfl⟩
      have hn0 : 0 < n := by rw [hn]; exact HPOS.out _ (List.getElem_mem hlk)
      have hn1 : n ≤ 64 := by
        have h1 := sum_take_le (lensQ qs) (k + 1)
        rw [List.take_succ_eq_append_getElem hlk, List.sum_append] at h1
        rw [hn]; simp at h1; omega
      have hp1 : P0 < 100000000 := by rw [hP0]; exact perF_small _ (fun m hm => HPOS.out m (List.mem_of_mem_take hm)) (Nat.le_trans (sum_take_le _ _) hsum)
      have hp2 : perF ((lensQ qs).take (k + 1)) < 100000000 := perF_small _ (fun m hm => HPOS.out m (List.mem_of_mem_take hm)) (Nat.le_trans (sum_take_le _ _) hsum)
      have hd1 : P0 / Nat.gcd P0 n ≤ P0 := Nat.div_le_self _ _
      have hd2 : n / Nat.gcd P0 n ≤ n := Nat.div_le_self _ _
      have hM := fun w => HM.out (P0 / Nat.gcd P0 n) n w (by omega) (by omega)
      rw [Nat.mul_one, Nat.gcd_one_right, Nat.div_one, Nat.div_one, textQ_one, textQ_one, textQ_one] at hM
      have hF := fun w => HF.out n w (by omega)
      have hD := fun w => HD.out P0 n w (by omega) (by omega) hn0
      have hN := fun w => HN.out (P0 / Nat.gcd P0 n) (n / Nat.gcd P0 n) w (by omega) (by omega)
      rw [hpt, ← hn, ← hP0] at hp2
      have hlc : P0 / Nat.gcd P0 n * n = lcmF P0 n := rfl
      rw [hlc] at hM
      obtain ⟨T, hT⟩ : ∃ T, T = textQ (P0 / Nat.gcd P0 n) (n / Nat.gcd P0 n) := ⟨_, rfl⟩
      rw [← hT] at hD hN
      obtain ⟨U, hU⟩ : ∃ U, U = itoaB ((P0 / Nat.gcd P0 n : Nat) : Int) := ⟨_, rfl⟩
      rw [← hU] at hN hM
      rw [← hn, ← hP0] at hpt
      have HPT := hid hpt; have HMM := hid hM; have HFF := hid hF; have HDD := hid hD; have HNN := hid hN
      have hel : (atD (none, 0, 0) (qs.map Prod.fst) k).2.1 = n := by
        have hw := (hSr.own (k + 1) (c := cInt) (sz := 1) (e := 3) (v := cSl qs[k].1) (l := qs[k].2) (by simp [inP, hlt]))
        obtain ⟨a', cap', e1, _⟩ := hw.reps
        have e2 : qs[k].1.2.1 = qs[k].2.length := by have := congrArg (fun v : Value => match v with | .slice _ n _ => n | _ => 0) e1; simpa using this
        rw [hn]
        simp [atD, hlt, e2, lensQ]
      have HEL := hid hel
      rw [← hP0]
      clear hpt hM hF hD hN hel hT hU hlc hn hP0 hlk hp2 hd1 hd2
      go_wp2_with ((with_reducible refine wpList_idxN _ ((none, 0, 0) : SlH) E_sls F_sl cSl1 (by with_unfolding_all rfl) (by with_unfolding_all rfl) (hRq) (HQL.out) (by first | omega | (simp; done)) (by first | omega | (simp; done)) (fun _ => by with_unfolding_all rfl) (fun _ => ?_)); (try simp only [cSl]); rw [HEL.out])
      refine (HFF.out _).mono ?_
      rintro e w4 ⟨rfl, b4⟩
      go_wp2_with fail
      refine (HDD.out _).mono ?_
      rintro e w5 ⟨rfl, b5⟩
      go_wp2_with fail
      refine (HNN.out _).mono ?_
      rintro e w6 ⟨rfl, b6⟩
      go_wp2_with fail
      refine (HMM.out _).mono ?_
      rintro e w7 ⟨rfl, b7⟩
      go_wp2_with fail
      exact ⟨⟨k + 1, by omega, by go_num, by rw [HPT.out], (((hSr.mono b4).mono b5).mono b6).mono b7⟩, by simp [intOf]; omega⟩
    · have hkq : k = qs.length := by omega
      have hlk : (lensQ qs).take k = lensQ qs := List.take_of_length_le (by rw [lens_len]; omega)
      rw [hlk, ← HPER.out]
      clear hlk
      have HKQ := hid hkq; clear hkq
      go_wp2_with fail
      go_ret
      exact ⟨rfl, hSr.b⟩
end Go.Proofs.YtmomeggnegcheaaGreatDoor
