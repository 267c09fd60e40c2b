/- Contracts of the reference's arithmetic in small numbers: division, fractions as texts, Mul, Div, Num. Conditions: numbers of at most 9 digits. -/
import Derived.Test.YtogbclcnmogaeaaGreatDoorNrB
import Derived.Test.YtogbclcnmogaeaaGreatDoorSlB
set_option linter.all false
namespace Go.Proofs.YtogbclcnmogaeaaGreatDoor
open Go.RowKit
set_option maxHeartbeats 2000000
set_option maxRecDepth 100000

theorem rdivDigits_any (x y : Nat) (a b : Option Addr) (cap cap2 : Nat) (w : World) (hx : x < 1000000000) (hy : y < 1000000000) (hy0 : 0 < y) (hS : Ints w a cap (wD x)) (hT : Ints w b cap2 (wD y)) :
    Calls Tryz.prog 191 #[.slice a (wD x).length cap, .slice b (wD y).length cap2] w fun r w' => ∃ a1 c1 a2 c2, r = .returned (.tuple #[.slice a1 (wD (x / y)).length c1, .slice a2 (wD (x % y)).length c2]) ∧ Ints w' a1 c1 (wD (x / y)) ∧ Ints w' a2 c2 (wD (x % y)) ∧ Below w.heap.size w w' := by
  have CC := rcompare_any x y a b cap cap2 w hy0 hS hT
  by_cases h1 : x < y
  · have e0 : cmpN x y = -1 := by unfold cmpN; rw [if_pos h1]
    have e1 : x / y = 0 := Nat.div_eq_of_lt h1
    have e2 : x % y = x := Nat.mod_eq_of_lt h1
    rw [e0] at CC
    rw [e1, e2]
    have HC := hid CC
    clear e0 e1 e2 CC
    go_enter Tryz.func191, Tryz.ntmps191
    go_wp2_with fail
    refine HC.out.mono ?_
    rintro e w1 ⟨rfl, b1⟩
    go_wp2_with fail
    go_ret2
    exact ⟨none, 0, a, cap, rfl, ints_nil _, hS.below b1, b1⟩
  · have hc : 0 ≤ cmpN x y := by unfold cmpN; rw [if_neg h1]; split <;> omega
    have hxw := wD_pos (show 0 < x by omega)
    have hyw := wD_pos hy0
    rw [hxw] at hS CC ⊢
    rw [hyw] at hT CC ⊢
    have hy1 : atD 0 [(y : Int)] 0 = y := rfl
    have CD := fun w hS => rdivDigit_any x y a cap w hx hy hy0 hS
    have CT := fun a cap w hS => rtrim_any (x % y) a cap w hS
    obtain ⟨k, hk⟩ : ∃ k, k = cmpN x y := ⟨_, rfl⟩
    rw [← hk] at CC hc
    have HC := hid CC; have HD := hid CD; have HT := hid CT
    clear CC CD CT hk hxw hyw
    go_enter Tryz.func191, Tryz.ntmps191
    go_wp2_with fail
    refine HC.out.mono ?_
    rintro e w1 ⟨rfl, b1⟩
    have hT1 := hT.below b1
    go_wp2_with ((with_reducible refine wpList_idx _ 0 E_ints F_int cInt1 (by with_unfolding_all rfl) (by with_unfolding_all rfl) (hT1) (by first | omega | (simp; done)) (by first | omega | (simp; done)) (fun _ => by with_unfolding_all rfl) (fun _ => ?_)); try rw [hy1])
    refine (HD.out w1 (hS.below b1)).mono ?_
    rintro e w2 ⟨a2, c2, rfl, hq, b2⟩
    have hR := reps_new1 (w := w2) (e := 3) cIntS ((x % y : Nat) : Int) #[.int .i64 ((x % y : Nat) : Int)] (0, 0) rfl rfl
    go_wp2_with fail
    refine (HT.out _ _ _ hR).mono ?_
    rintro e w3 ⟨rfl, rfl⟩
    go_wp2_with fail
    go_ret2
    exact ⟨_, _, _, _, rfl, hq.alloc _, wd_ints hR, bal (bnext b1 b2) _⟩

theorem rcommon_any (x y : Nat) (a b : Option Addr) (cap cap2 : Nat) (w : World) (hx : x < 1000000000) (hy : y < 1000000000) (hS : Ints w a cap (wD x)) (hT : Ints w b cap2 (wD y)) :
    Calls Tryz.prog 132 #[.slice a (wD x).length cap, .slice b (wD y).length cap2] w fun r w' => ∃ a1 c1, r = .returned (.slice a1 (wD (Nat.gcd x y)).length c1) ∧ Ints w' a1 c1 (wD (Nat.gcd x y)) ∧ Below w.heap.size w w' := by
  go_enter Tryz.func132, Tryz.ntmps132
  go_wp2_with fail
  go_loopg [0, 1, 5, 6] y (fun g va vb _ _ wr => ∃ (p q : Nat) (a b : Option Addr) (ca cb : Nat), g = q ∧ va = .slice a (wD p).length ca ∧ vb = .slice b (wD q).length cb ∧ Ints wr a ca (wD p) ∧ Ints wr b cb (wD q) ∧ p < 1000000000 ∧ q < 1000000000 ∧ Aside (Nat.gcd p q = Nat.gcd x y) ∧ Below w.heap.size w wr)
  case atStart => exact ⟨x, y, a, b, cap, cap2, rfl, rfl, rfl, hS, hT, hx, hy, rfl, Below.refl _ _⟩
  case round =>
    obtain ⟨p, q, a, b, ca, cb, rfl, rfl, rfl, hSr, hTr, hp, hq, HG, hbr⟩ := hrel
    by_cases h0 : gk = 0
    · subst h0
      have e : p = Nat.gcd x y := by rw [← HG.out, Nat.gcd_zero_right]
      have HE := hid e
      have hl : (wD 0).length ≤ 0 := Nat.le_refl _
      clear e
      go_wp2_with fail
      go_ret
      rw [← HE.out]
      exact ⟨a, ca, rfl, hSr, hbr⟩
    · have hl : 0 < (wD gk).length := by rw [wD_pos (by omega)]; simp
      have CD := fun w hS hT => rdivDigits_any p gk a b ca cb w hp hq (by omega) hS hT
      have HD := hid CD
      clear CD
      go_wp2_with fail
      refine (HD.out wr hSr hTr).mono ?_
      rintro e w2 ⟨a1, c1, a2, c2, rfl, h1, h2, b2⟩
      have hm : p % gk < gk := Nat.mod_lt _ (by omega)
      go_wp2_with fail
      go_roundg (p % gk)
      case measure => exact hm
      case rel => exact ⟨gk, p % gk, b, a2, cb, c2, rfl, rfl, rfl, hTr.below b2, h2, hq, by omega, by show Nat.gcd gk (p % gk) = _; rw [← HG.out, Nat.gcd_comm gk, ← Nat.gcd_rec, Nat.gcd_comm], bnext hbr b2⟩

theorem rparts_any (x : Nat) (w : World) (hx : x < 1000000000) :
    Calls Tryz.prog 131 #[.string (itoaB x)] w fun r w' => ∃ a c b d, r = .returned (.tuple #[.agg #[.bool false, .slice a (wD x).length c], .agg #[.bool false, .slice b (wD 1).length d]]) ∧ Ints w' a c (wD x) ∧ Ints w' b d (wD 1) ∧ Below w.heap.size w w' := by
  have hsl := textQ_slash x 1
  rw [textQ_one] at hsl
  have hz := (itoaB_len hx).1
  have CP := fun w => rparse_any x w hx
  have CW := fun w => rwhole_any 1 w (by decide)
  obtain ⟨s, hs⟩ : ∃ s, s = itoaB (x : Int) := ⟨_, rfl⟩
  rw [← hs] at hsl hz CP ⊢
  have CS := fun w => rslash_any s s.size w hsl (by omega)
  have HP := hid CP; have HW := hid CW; have HS := hid CS
  clear CP CW CS hs hsl
  have hS0 := ((SL.nil w).box (.cells #[.bool false, .slice none 0 0] 170)).box (.cells #[.bool false, .slice none 0 0] 170)
  simp only [World.size_alloc] at hS0
  go_enter Tryz.func131, Tryz.ntmps131
  go_wp2_with fail
  refine (HS.out _).mono ?_
  rintro e w' ⟨rfl, rfl⟩
  go_wp2_with fail
  refine (HP.out _).mono ?_
  rintro e w1 ⟨a, c, rfl, h1, f1, b1⟩
  have hS1 := hS0.newRd b1 h1 (by decide) f1
  go_wp2_with fail
  refine (HW.out _).mono ?_
  rintro e w2 ⟨b, d, rfl, h2, f2, b2⟩
  have hS2 := hS1.newRd b2 h2 (by decide) f2
  clear hS0 hS1
  go_wp2_with (first | ((with_reducible refine wpList_stoR (us := #[.bool false, .slice a (wD x).length c]) 3 (by with_unfolding_all rfl) (by with_unfolding_all rfl) (hS2) (by with_unfolding_all rfl) (by kernel_rfl) (by with_unfolding_all rfl) (by with_unfolding_all rfl) ?_); intro w3 hS3) | ((with_reducible refine wpList_stoR (us := #[.bool false, .slice b (wD 1).length d]) 2 (by with_unfolding_all rfl) (by with_unfolding_all rfl) (hS3) (by with_unfolding_all rfl) (by kernel_rfl) (by with_unfolding_all rfl) (by with_unfolding_all rfl) ?_); intro w4 hS4))
  exact bodyPost_ret (results_cell2 rfl rfl rfl A_integer (by kernel_rfl) (by kernel_rfl) (hS4.blk 3 rfl).1 (hS4.blk 2 rfl).1) rfl ⟨a, c, b, d, rfl, hS4.rdR 1 rfl, hS4.rdR 0 rfl, hS4.b⟩

theorem rfraction_any (x y : Nat) (a b : Option Addr) (c d : Nat) (w : World) (hx : x < 1000000000) (hy : y < 1000000000) (hx0 : 0 < x) (hy0 : 0 < y) (hS : Ints w a c (wD x)) (hT : Ints w b d (wD y)) :
    Calls Tryz.prog 171 #[.agg #[.bool false, .slice a (wD x).length c], .agg #[.bool false, .slice b (wD y).length d]] w fun r w' => r = .returned (.string (textQ (x / Nat.gcd x y) (y / Nat.gcd x y))) ∧ Below w.heap.size w w' := by
  have hg0 : 0 < Nat.gcd x y := Nat.gcd_pos_of_pos_left _ hx0
  have hgx : Nat.gcd x y ≤ x := Nat.gcd_le_left _ hx0
  have CC := fun w hS hT => rcommon_any x y a b c d w hx hy hS hT
  obtain ⟨g, hg⟩ : ∃ g, g = Nat.gcd x y := ⟨_, rfl⟩
  rw [← hg] at hg0 hgx CC ⊢
  have hp0 : 0 < x / g := by rw [hg]; exact Nat.div_pos (Nat.gcd_le_left _ hx0) (Nat.gcd_pos_of_pos_left _ hx0)
  have hq0 : 0 < y / g := by rw [hg]; exact Nat.div_pos (Nat.gcd_le_right _ hy0) (Nat.gcd_pos_of_pos_left _ hx0)
  have hp1 : x / g ≤ x := Nat.div_le_self _ _
  have hq1 : y / g ≤ y := Nat.div_le_self _ _
  have CD1 := fun a1 c1 w hS hT => rdivDigits_any x g a a1 c c1 w hx (by omega) hg0 hS hT
  have CD2 := fun a1 c1 w hS hT => rdivDigits_any y g b a1 d c1 w hy (by omega) hg0 hS hT
  obtain ⟨p, hp⟩ : ∃ p, p = x / g := ⟨_, rfl⟩
  obtain ⟨q, hq⟩ : ∃ q, q = y / g := ⟨_, rfl⟩
  rw [← hp] at hp0 hp1 CD1 ⊢
  rw [← hq] at hq0 hq1 CD2 ⊢
  have hpw := wD_pos hp0
  have hqw := wD_pos hq0
  rw [hpw] at CD1
  rw [hqw] at CD2
  have CG1 := fun a c w hS => rsigned_any p a c w hS
  have CG2 := fun a c w hS => rsigned_any q a c w hS
  have CT1 := fun v w hv => rtext_any p v w (by omega) hv
  have CT2 := fun v w hv => rtext_any q v w (by omega) hv
  have hzp := (itoaB_len (show p < 1000000000 by omega)).1
  have hzq := (itoaB_len (show q < 1000000000 by omega)).1
  have HC := hid CC; have HD1 := hid CD1; have HD2 := hid CD2; have HG1 := hid CG1; have HG2 := hid CG2; have HT1 := hid CT1; have HT2 := hid CT2
  clear CC CD1 CD2 CG1 CG2 CT1 CT2 hpw hqw hp hq hg
  have hS0 := ((SL.nil w).box (.cells #[.bool false, .slice a (wD x).length c] 170)).box (.cells #[.bool false, .slice b (wD y).length d] 170)
  simp only [World.size_alloc] at hS0
  go_enter Tryz.func171, Tryz.ntmps171
  go_wp2_with fail
  refine (HC.out _ (hS.below hS0.b) (hT.below hS0.b)).mono ?_
  rintro e w1 ⟨a1, c1, rfl, h1, b1⟩
  have hS1 := hS0.mono b1
  have k1 := hS1.cell 1 rfl 1 rfl
  go_wp2_with fail
  refine (HD1.out a1 c1 w1 (hS.below hS1.b) h1).mono ?_
  rintro e w2 ⟨a2, c2, a3, c3, rfl, h2, h3, b2⟩
  have hS2 := hS1.mono b2
  have h12 := h1.below b2
  have k2 := hS2.cell 0 rfl 1 rfl
  clear k1 h3
  go_wp2_with fail
  refine (HD2.out a1 c1 w2 (hT.below hS2.b) h12).mono ?_
  rintro e w3 ⟨a4, c4, a5, c5, rfl, h4, h5, b3⟩
  have hS3 := hS2.mono b3
  have k3 := hS3.cell 1 rfl 0 rfl
  clear k2 h5
  go_wp2_with fail
  refine (HG1.out a2 c2 w3 (h2.below b3)).mono ?_
  rintro e w4 ⟨rfl, b4⟩
  go_wp2_with fail
  refine (HT1.out _ w4 ⟨a2, c2, rfl, wd_ints ((h2.below b3).below b4)⟩).mono ?_
  rintro e w5 ⟨rfl, b5⟩
  have hS5 := (hS3.mono b4).mono b5
  have h45 := (h4.below b4).below b5
  clear k3 h2 h12 h1 h4
  have hq1' : atD 0 [(q : Int)] 0 = q := rfl
  by_cases e1 : q = 1
  · subst e1
    have HTQ := hid (textQ_one p)
    go_wp2_with ((with_reducible refine wpList_idxG 0 E_ints F_int cInt1 (by with_unfolding_all rfl) (by with_unfolding_all rfl) (h45) (rfl) (by first | omega | (simp; done)) (by first | omega | (simp; done)) (fun _ => by with_unfolding_all rfl) (by with_unfolding_all rfl) (fun _ => by with_unfolding_all rfl) (fun _ => ?_)); try rw [hq1'])
    go_ret
    exact ⟨by rw [HTQ.out]; rfl, hS5.b⟩
  · have hd : ((q : Int) == 1) = false := by simp; omega
    have ht : textQ p q = itoaB (p : Int) ++ ⟨#[47]⟩ ++ itoaB (q : Int) := by unfold textQ; rw [if_neg e1]
    have HTQ := hid ht; clear ht
    go_wp2_with ((with_reducible refine wpList_idxG 0 E_ints F_int cInt1 (by with_unfolding_all rfl) (by with_unfolding_all rfl) (h45) (rfl) (by first | omega | (simp; done)) (by first | omega | (simp; done)) (fun _ => by with_unfolding_all rfl) (by with_unfolding_all rfl) (fun _ => by with_unfolding_all rfl) (fun _ => ?_)); try rw [hq1'])
    refine (HG2.out a4 c4 w5 h45).mono ?_
    rintro e w6 ⟨rfl, b6⟩
    go_wp2_with fail
    refine (HT2.out _ w6 ⟨a4, c4, rfl, wd_ints (h45.below b6)⟩).mono ?_
    rintro e w7 ⟨rfl, b7⟩
    go_wp2_with fail
    go_ret
    exact ⟨by rw [HTQ.out]; rfl, ((hS5.mono b6).mono b7).b⟩
end Go.Proofs.YtogbclcnmogaeaaGreatDoor
