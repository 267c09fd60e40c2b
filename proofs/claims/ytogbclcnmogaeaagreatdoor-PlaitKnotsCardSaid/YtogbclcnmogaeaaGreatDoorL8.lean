/- Contract: PlaitKnots returns true. No condition. -/
import Derived.Test.YtogbclcnmogaeaaGreatDoorKnQ
import Derived.Test.YtogbclcnmogaeaaGreatDoorSlB
import Derived.Test.YtogbclcnmogaeaaGreatDoorAwA
set_option linter.all false
namespace Go.Proofs.YtogbclcnmogaeaaGreatDoor
open Go.RowKit
set_option maxHeartbeats 4000000
set_option maxRecDepth 100000

theorem PlaitKnots_any (x y : Int) (w : World) :
    Calls Tryz.prog 10 #[.int .i64 x, .int .i64 y] w fun r w' => r = .returned (.bool true) ∧ Below w.heap.size w w' := by
  have CM := fun w => rCheckMat_any x y w
  by_cases h : ¬ matE x y = 0
  · obtain ⟨q, hq⟩ : ∃ q, q = matE x y := ⟨_, rfl⟩
    rw [← hq] at CM h
    have hne : (q != 0) = true := by simpa using h
    have HM := hid CM
    clear CM hq
    go_enter Tryz.func10, Tryz.ntmps10
    go_wp2_with fail
    refine (HM.out w).mono ?_
    rintro e w' ⟨rfl, rfl⟩
    go_wp2_with fail
    refine (awake_any _).mono ?_
    rintro e w' ⟨rfl, hb⟩
    go_wp2_with fail
    go_ret
    exact ⟨rfl, hb⟩
  replace h := Classical.not_not.1 h
  obtain ⟨hx1, hx2, hy1, hy2⟩ := matE_zero h
  rw [h] at CM
  have HM := hid CM
  clear CM
  by_cases hx : 30 < x
  · go_enter Tryz.func10, Tryz.ntmps10
    go_wp2_with fail
    refine (HM.out w).mono ?_
    rintro e w' ⟨rfl, rfl⟩
    go_wp2_with fail
    refine (awake_any _).mono ?_
    rintro e w' ⟨rfl, hb⟩
    go_wp2_with fail
    go_ret
    exact ⟨rfl, hb⟩
  by_cases hy : 30 < y
  · go_enter Tryz.func10, Tryz.ntmps10
    go_wp2_with fail
    refine (HM.out w).mono ?_
    rintro e w' ⟨rfl, rfl⟩
    go_wp2_with fail
    refine (awake_any _).mono ?_
    rintro e w' ⟨rfl, hb⟩
    go_wp2_with fail
    go_ret
    exact ⟨rfl, hb⟩
  obtain ⟨m, rfl⟩ : ∃ m : Nat, x = m + 1 := ⟨(x - 1).toNat, by omega⟩
  obtain ⟨Y, rfl⟩ : ∃ Y : Nat, y = Y := ⟨y.toNat, by omega⟩
  have hK := knot_r (x := m + 1) (y := Y) (by omega) (by omega) (by omega) (by omega)
  have hg0 : 0 < Nat.gcd (m + 1) Y := Nat.gcd_pos_of_pos_left _ (by omega)
  have hgY : Nat.gcd (m + 1) Y ≤ Y := Nat.gcd_le_right _ (by omega)
  have CS := fun w => Strands_any ((m : Int) + 1) Y w
  have egx : ((Int.gcd ((m : Int) + 1) (Y : Int) : Nat) : Int) = ((Nat.gcd (m + 1) Y : Nat) : Int) := rfl
  rw [h, if_pos rfl, egx] at CS
  have CA := fun w => Mat_any ((m : Int) + 1) Y w
  have eL : matL ((m : Int) + 1) Y = matK Y m := by rw [matL, if_pos h]; congr 1; omega
  rw [h, eL] at CA
  have hkl := matK_len Y m
  have CR : ∀ k : Nat, k < Nat.gcd (m + 1) Y → ∀ w, Calls Tryz.prog 63 #[.int .i64 ((m : Int) + 1), .int .i64 Y, .int .i64 k] w fun r w' => RetLE w (routeL ((m + 1 : Nat) : Int) (Y : Int) (k : Int)) 0 r w' := by
    intro k hk w
    have e0 : routeE ((m : Int) + 1) Y k = 0 := by
      unfold routeE
      rw [if_neg (fun hh => hh h), if_neg]
      rw [egx]
      omega
    have := Route_any ((m : Int) + 1) Y k w
    rw [e0, if_pos rfl] at this
    exact this
  have CH := fun w => Head_any ((m : Int) + 1) Y w
  have hone := hK.one
  have hnew := fun (k j : Nat) (hk : k < Nat.gcd (m + 1) Y) hj => knot_new (j := j) hK hk hj
  have hmY : (m : Int) * Y ≤ 29 * 30 := by
    have := Int.mul_le_mul (show (m : Int) ≤ 29 by omega) (show (Y : Int) ≤ 30 by omega) (by omega) (by omega)
    omega
  have hmY0 : 0 ≤ (m : Int) * Y := Int.mul_nonneg (by omega) (by omega)
  obtain ⟨N, hN⟩ : ∃ N, N = Nat.gcd (m + 1) Y := ⟨_, rfl⟩
  rw [← hN] at hg0 hgY CS CR hone hnew
  obtain ⟨Q, hQ⟩ : ∃ Q, Q = Y / N := ⟨_, rfl⟩
  rw [← hQ] at hone
  have hQ1 : Q ≤ Y := by rw [hQ]; exact Nat.div_le_self _ _
  have hQ0 : 0 < Q := by rw [hQ]; exact Nat.div_pos hgY hg0
  have tdq : (Y : Int).tdiv N = (Y : Int) / N := Int.tdiv_eq_ediv_of_nonneg (by omega)
  have edq : (Y : Int) / N = Q := by rw [hQ]; exact (Int.natCast_ediv Y N).symm
  obtain ⟨L, hL⟩ : ∃ L, L = matK Y m := ⟨_, rfl⟩
  rw [← hL] at CA hkl
  have hrow : ∀ k : Nat, k < m → atD ByteArray.empty L k = if (k : Int) % 2 = 0 then repC 47 Y else repC 92 Y := by
    intro k hk
    have e : atD ByteArray.empty L k = matRow Y k := by rw [hL]; simp [atD, matK, hk]
    rw [e]
    split
    · rw [matRow_even (by assumption)]; rfl
    · rw [matRow_odd (by assumption)]; rfl
  have hL1 : L.length ≤ 29 := by omega
  have hLne : ((L.length : Int) != m) = false := by simp; omega
  have HS := hid CS; have HA := hid CA; have HR := hid CR; have HH := hid CH; have HONE := hid hone; have HNEW := hid hnew; have HROW := hid hrow; have HL := hid hkl; have HN := hid hN; have HMAT := hid h
  have TDQ := hid tdq; have EDQ := hid edq
  clear CS CA CR CH hone hnew hrow hkl hN hL hQ hK egx eL h tdq edq
  have hwp : IntKind.i64.wrap ((m : Int) + 1 - 1) = m := by rw [show (m : Int) + 1 - 1 = m by omega]; exact IntWalk.i64_in _ (by omega)
  go_enter Tryz.func10, Tryz.ntmps10
  go_wp2_with fail
  refine (HM.out w).mono ?_
  rintro e w' ⟨rfl, rfl⟩
  go_wp2_with fail
  refine (HS.out w).mono ?_
  rintro e w1 ⟨rfl, b1⟩
  go_wp2_with fail
  refine (HA.out w1).mono ?_
  rintro e w2 ⟨am, cm, rfl, hm2, _, b2⟩
  have t2 := bnext b1 b2
  clear b1 b2
  have hS0 := SL.nil w2
  go_wp2_with ((with_reducible refine wpList_makeL (c := cBool) (Y) (false) E_bools cBool1 (by with_unfolding_all rfl) (by with_unfolding_all rfl) (by omega) (by omega) (hS0) ?_); intro ad w3 hS3)
  go_loopw [68] (fun i wr => ∃ (k : Nat) (S : List Bool), k ≤ N ∧ i = .int .i64 k ∧ S.length = Y ∧ (∀ b : Int, 0 ≤ b → b < Y → atD false S b = decide (b ∈ routesL (m + 1) Y k)) ∧ SL w2.heap.size w2 wr [pOwn cBool 1 4 (.slice ad Y Y) S]) (fun i _ => N - (intOf i).toNat)
  case atStart =>
    refine ⟨0, List.replicate Y false, by omega, rfl, by simp, fun b h0 h1 => ?_, hS3⟩
    have : b.toNat < Y := by omega
    simp [atD, routesL, this]
  case round =>
    clear hS3 hS0
    obtain ⟨k, S, hk, rfl, hSl, hSn, hSL⟩ := hrel
    have HSl := hid hSl; have HSn := hid hSn
    clear hSl hSn
    by_cases hlt : k < N
    · obtain ⟨r1, r2, r3⟩ := HONE.out k hlt
      have CR := fun w => HR.out k hlt w
      have hnw := fun j => HNEW.out k j hlt
      have hrs := routesL_succ (m + 1) Y k
      obtain ⟨R, hR⟩ : ∃ R, R = routeL ((m + 1 : Nat) : Int) (Y : Int) (k : Int) := ⟨_, rfl⟩
      rw [← hR] at r1 r2 r3 CR hnw hrs
      have HCR := hid CR; have HR1 := hid r1; have HR3 := hid r3; have HNW := hid hnw; have HRS := hid hrs
      have hRQ1 : R.length ≤ Q := by omega
      have hRQ2 : Q ≤ R.length := by omega
      clear CR r1 r3 hnw hrs hR
      go_wp2_with fail
      refine (HCR.out wr).mono ?_
      rintro e w5 ⟨al, cl, rfl, hl, hf, bl⟩
      have hS5 := hSL.newRd bl hl (by decide) hf
      have d1 : ((R.length : Int) != (Y : Int) / N) = false := by rw [EDQ.out]; simp; omega
      have d2 : (atD 0 R 0 != (k : Int)) = false := by rw [r2]; simp
      have tdq := TDQ.out
      have hwq : IntKind.i64.wrap ((Y : Int) / N) = (Y : Int) / N := by rw [EDQ.out]; exact IntWalk.i64_in _ (by omega)
      have hNn : ¬ N = 0 := by omega
      clear hl hf bl
      go_wp2_with (with_reducible refine wpList_idxG 0 E_ints F_int cInt1 (by with_unfolding_all rfl) (by with_unfolding_all rfl) ((hS5.rdR 0 rfl)) (rfl) (by first | omega | (simp; done)) (by first | omega | (simp; done)) (fun _ => by with_unfolding_all rfl) (by with_unfolding_all rfl) (fun _ => by with_unfolding_all rfl) (fun _ => ?_))
      clear tdq hwq d1 d2 r2
      go_loopw [97] (fun i wq => ∃ (j : Nat) (S2 : List Bool), j ≤ R.length ∧ i = .int .i64 j ∧ S2.length = Y ∧ (∀ b : Int, 0 ≤ b → b < Y → atD false S2 b = decide (b ∈ routesL (m + 1) Y k ++ R.take j)) ∧ SL w2.heap.size w2 wq [pRd cInt 1 al cl R, pOwn cBool 1 4 (.slice ad Y Y) S2]) (fun i _ => R.length - (intOf i).toNat)
      case atStart => exact ⟨0, S, by omega, rfl, HSl.out, fun b h0 h1 => by rw [List.take_zero, List.append_nil]; exact HSn.out b h0 h1, hS5⟩
      case round =>
        clear hS5
        obtain ⟨j, S2, hj, rfl, hSl2, hSn2, hSq⟩ := hrel
        have HSl2 := hid hSl2; have HSn2 := hid hSn2
        clear hSl2 hSn2
        by_cases hjl : j < R.length
        · obtain ⟨⟨b0, b1⟩, b2⟩ := HR3.out j (by omega)
          have hnew := HNW.out j hjl
          obtain ⟨B, hB⟩ : ∃ B, B = atD 0 R j := ⟨_, rfl⟩
          rw [← hB] at b0 b1 b2 hnew
          have hat := HSn2.out B b0 b1
          rw [decide_eq_false hnew] at hat
          have htk : R.take (j + 1) = R.take j ++ [B] := by rw [List.take_succ_eq_append_getElem hjl, hB]; simp [atD, hjl]
          have hjq0 : 0 ≤ ((j : Int) + 1) % R.length := Int.emod_nonneg _ (by omega)
          have hjq1 : ((j : Int) + 1) % R.length < R.length := Int.emod_lt_of_pos _ (by omega)
          have tm1 : ((j : Int) + 1).tmod R.length = ((j : Int) + 1) % R.length := Int.tmod_eq_emod_of_nonneg (by omega)
          have tm2 : (B + ((m : Int) + 1)).tmod Y = (B + ((m : Int) + 1)) % Y := Int.tmod_eq_emod_of_nonneg (by omega)
          have hbq0 : 0 ≤ (B + ((m : Int) + 1)) % Y := Int.emod_nonneg _ (by omega)
          have hbq1 : (B + ((m : Int) + 1)) % Y < Y := Int.emod_lt_of_pos _ (by omega)
          have w1_ : IntKind.i64.wrap ((j : Int) + 1) = (j : Int) + 1 := IntWalk.i64_in _ (by omega)
          have w2_ : IntKind.i64.wrap (((j : Int) + 1) % R.length) = ((j : Int) + 1) % R.length := IntWalk.i64_in _ (by omega)
          have w3_ : IntKind.i64.wrap (B + ((m : Int) + 1)) = B + ((m : Int) + 1) := IntWalk.i64_in _ (by omega)
          have w4_ : IntKind.i64.wrap ((B + ((m : Int) + 1)) % Y) = (B + ((m : Int) + 1)) % Y := IntWalk.i64_in _ (by omega)
          have hYn : ¬ Y = 0 := by omega
          have hRn : ¬ R.length = 0 := by omega
          have d3 : (atD 0 R (((j : Int) + 1) % R.length) != (B + ((m : Int) + 1)) % Y) = false := by
            have e : (((j + 1) % Q : Nat) : Int) = ((j : Int) + 1) % R.length := by rw [HR1.out]; rfl
            rw [← e, b2]; simp
          have g1 : decide (B < 0) = false := by simp; omega
          have g2 : decide ((Y : Int) ≤ B) = false := by simp; omega
          have HAT := hid hat; have HB := hid hB; have HTK := hid htk
          clear hat hB htk hnew b2
          have hRr := hSq.rdR 0 rfl
          have hSr := hSq.rd 1 rfl
          go_wp2_with ((with_reducible refine wpList_idx _ 0 E_ints F_int cInt1 (by with_unfolding_all rfl) (by with_unfolding_all rfl) (hRr) (by first | omega | (simp; done)) (by first | omega | (simp; done)) (fun _ => by with_unfolding_all rfl) (fun _ => ?_)); rw [← HB.out])
          refine wp_region_quiet_lit (by kernel_rfl) (by kernel_rfl) ?_
          repeat (first | (((with_reducible refine wpQD_idxG false E_bools F_bool cBool1 (by with_unfolding_all rfl) (by with_unfolding_all rfl) (hSr) (HSl2.out) (by first | omega | (simp; done)) (by first | omega | (simp; done)) (fun _ => by with_unfolding_all rfl) (by with_unfolding_all rfl) (fun _ => by with_unfolding_all rfl) (fun _ => ?_)); (try simp only [Act.put, List.setIfInBounds_toArray, List.set_cons_zero, List.set_cons_succ]); (try simp only [cInt])); rw [HAT.out]) | ((with_reducible refine wpQD_idxG 0 E_ints F_int cInt1 (by with_unfolding_all rfl) (by with_unfolding_all rfl) (hRr) (rfl) (by first | omega | (simp; done)) (by first | omega | (simp; done)) (fun _ => by with_unfolding_all rfl) (by with_unfolding_all rfl) (fun _ => by with_unfolding_all rfl) (fun _ => ?_)); (try simp only [Act.put, List.setIfInBounds_toArray, List.set_cons_zero, List.set_cons_succ]); (try simp only [cInt])) | quiet_step (fail))
          refine wpQuiet_nil ?_
          intro w6 hb6
          replace hb6 := below_drewN hb6
          clear tm1 tm2 w1_ w2_ w3_ w4_ hjq0 hjq1 hbq0 hbq1 d3 g1 g2
          have hSq6 := hSq.mono hb6
          have hBS : B < S2.length := by rw [HSl2.out]; exact b1
          go_wp2_with ((with_reducible refine wpList_storeL (u := true) 1 E_bools cBool1 (sto_bool) (by with_unfolding_all rfl) (by with_unfolding_all rfl) (hSq6) (by with_unfolding_all rfl) (by first | omega | (simp; done) | (simp; omega)) (by first | omega | (simp; done) | (simp; omega)) (fun _ => by with_unfolding_all rfl) (fun _ => by with_unfolding_all rfl) ?_); intro _ w7 hS7)
          refine ⟨⟨j + 1, _, by omega, by go_num, ?_, fun b h0 h1 => ?_, hS7⟩, by simp [intOf]; omega⟩
          · rw [List.length_set]; exact HSl2.out
          · rw [atB_set b0 (by rw [HSl2.out]; exact b1) h0, HTK.out, HSn2.out b h0 h1, ← List.append_assoc]
            by_cases e : b = B
            · subst e; simp
            · rw [if_neg e]; simp [e]
        · have hje : R.take j = R := List.take_of_length_le (by omega)
          rw [hje, ← HRS.out] at HSn2
          clear hje
          go_wp2_with fail
          exact ⟨⟨k + 1, S2, by omega, by go_num, HSl2.out, HSn2.out, hSq.tail⟩, by simp [intOf]; omega⟩
    · have t3 := bnext t2 hSL.b
      have hm3 := hm2.below hSL.b
      clear hSL HSl HSn
      obtain ⟨wo, hwo⟩ : ∃ wo, wo = wr := ⟨_, rfl⟩
      rw [← hwo] at t3 hm3 ⊢
      clear hwo
      go_wp2_with fail
      go_loopw [138] (fun i wq => ∃ j : Nat, j ≤ L.length ∧ i = .int .i64 j ∧ Below wo.heap.size wo wq) (fun i _ => L.length - (intOf i).toNat)
      case atStart => exact ⟨0, by omega, rfl, Below.refl _ _⟩
      case round =>
        obtain ⟨j, hj, rfl, hbq⟩ := hrel
        have hmq := hm3.below hbq
        by_cases hjl : j < L.length
        · have hrw := HROW.out j (by have := HL.out; omega)
          by_cases hp : (j : Int) % 2 = 0
          · rw [if_pos hp] at hrw
            obtain ⟨s, hs⟩ : ∃ s, s = repC 47 Y := ⟨_, rfl⟩
            have hss : s.size = Y := by rw [hs, repC_size]
            have hs0 : 0 < s.size := by omega
            have hsz : s.size ≤ 30 := by omega
            have hsb : ∀ (i : Nat) (h : i < s.size), ((s[i]'h).toNat : Int) = 47 := by subst hs; exact fun i h => repC_at 47 Y i h
            have d0 := hsb 0 hs0
            rw [← hs] at hrw
            have HRW := hid hrw; have HSB := hid hsb
            have dl : ((s.size : Int) != Y) = false := by rw [hss]; simp
            have HSS := hid hss
            clear hrw hsb hs hss
            by_cases h0 : j = 0
            · have gj : decide ((0 : Int) < j) = false := by simp; omega
              have gj2 : decide (0 < j) = false := by simp; omega
              clear h0 hp
              go_wp2_with ((with_reducible refine wpList_idx _ ByteArray.empty E_strs F_str cStr1 (by with_unfolding_all rfl) (by with_unfolding_all rfl) (hmq) (by first | omega | (simp; done)) (by first | omega | (simp; done)) (fun _ => by with_unfolding_all rfl) (fun _ => ?_)); rw [HRW.out])
              refine wp_region_quiet_lit (by kernel_rfl) (by kernel_rfl) ?_
              repeat (first | ((with_reducible refine wpQ_skip (by with_unfolding_all rfl) ?_); (try simp only [Act.put, List.setIfInBounds_toArray, List.set_cons_zero, List.set_cons_succ])) | quiet_step (fail))
              refine wpQuiet_nil ?_
              intro w8 hb8
              replace hb8 := below_drewN hb8
              have hbq8 := bnext hbq hb8
              clear hmq
              go_wp2_with fail
              go_loopw [164] (fun i wz => ∃ c : Nat, c ≤ s.size ∧ i = .int .i64 c ∧ Below wo.heap.size wo wz) (fun i _ => s.size - (intOf i).toNat)
              case atStart => exact ⟨0, by omega, rfl, hbq8⟩
              case round =>
                obtain ⟨c, hc, rfl, hbz⟩ := hrel
                by_cases hcl : c < s.size
                · have dc := HSB.out c hcl
                  go_wp2_with fail
                  refine wp_region_quiet_lit (by kernel_rfl) (by kernel_rfl) ?_
                  repeat (first | ((with_reducible refine wpQ_skip (by with_unfolding_all rfl) ?_); (try simp only [Act.put, List.setIfInBounds_toArray, List.set_cons_zero, List.set_cons_succ])) | quiet_step (fail))
                  refine wpQuiet_nil ?_
                  intro w9 hb9
                  replace hb9 := below_drewN hb9
                  go_wp2_with fail
                  exact ⟨⟨c + 1, by omega, by go_num, bnext hbz hb9⟩, by simp [intOf]; omega⟩
                · go_wp2_with fail
                  exact ⟨⟨j + 1, by omega, by go_num, hbz⟩, by simp [intOf]; omega⟩
            · obtain ⟨i, hi⟩ : ∃ i, j = i + 1 := ⟨j - 1, by omega⟩
              have gj : decide ((0 : Int) < j) = true := by simp; omega
              have gj2 : decide (0 < j) = true := by simp; omega
              have hrt := HROW.out i (by have := HL.out; omega)
              have hpi : ¬ (i : Int) % 2 = 0 := by omega
              rw [if_neg hpi] at hrt
              obtain ⟨u, hu⟩ : ∃ u, u = repC 92 Y := ⟨_, rfl⟩
              have hu0 : 0 < u.size := by rw [hu, repC_size]; omega
              have e0 : ((u[0]'hu0).toNat : Int) = 92 := by subst hu; exact repC_at 92 Y 0 _
              rw [← hu] at hrt
              have HRT := hid hrt
              have hji : (j : Int) - 1 = i := by omega
              have hw1 : IntKind.i64.wrap ((j : Int) - 1) = i := by rw [hji]; exact IntWalk.i64_in _ (by omega)
              have hil : i < L.length := by omega
              clear hu hrt hji hi h0 hp hpi
              go_wp2_with ((with_reducible refine wpList_idx _ ByteArray.empty E_strs F_str cStr1 (by with_unfolding_all rfl) (by with_unfolding_all rfl) (hmq) (by first | omega | (simp; done)) (by first | omega | (simp; done)) (fun _ => by with_unfolding_all rfl) (fun _ => ?_)); rw [HRW.out])
              refine wp_region_quiet_lit (by kernel_rfl) (by kernel_rfl) ?_
              repeat (first | (((with_reducible refine wpQD_idxG ByteArray.empty E_strs F_str cStr1 (by with_unfolding_all rfl) (by with_unfolding_all rfl) (hmq) (rfl) (by first | omega | (simp; done)) (by first | omega | (simp; done)) (fun _ => by with_unfolding_all rfl) (by with_unfolding_all rfl) (fun _ => by with_unfolding_all rfl) (fun _ => ?_)); (try simp only [Act.put, List.setIfInBounds_toArray, List.set_cons_zero, List.set_cons_succ]); (try simp only [cInt])); rw [HRT.out]) | quiet_step (fail))
              refine wpQuiet_nil ?_
              intro w8 hb8
              replace hb8 := below_drewN hb8
              have hbq8 := bnext hbq hb8
              clear hmq
              go_wp2_with fail
              go_loopw [164] (fun i wz => ∃ c : Nat, c ≤ s.size ∧ i = .int .i64 c ∧ Below wo.heap.size wo wz) (fun i _ => s.size - (intOf i).toNat)
              case atStart => exact ⟨0, by omega, rfl, hbq8⟩
              case round =>
                obtain ⟨c, hc, rfl, hbz⟩ := hrel
                by_cases hcl : c < s.size
                · have dc := HSB.out c hcl
                  go_wp2_with fail
                  refine wp_region_quiet_lit (by kernel_rfl) (by kernel_rfl) ?_
                  repeat (first | ((with_reducible refine wpQ_skip (by with_unfolding_all rfl) ?_); (try simp only [Act.put, List.setIfInBounds_toArray, List.set_cons_zero, List.set_cons_succ])) | quiet_step (fail))
                  refine wpQuiet_nil ?_
                  intro w9 hb9
                  replace hb9 := below_drewN hb9
                  go_wp2_with fail
                  exact ⟨⟨c + 1, by omega, by go_num, bnext hbz hb9⟩, by simp [intOf]; omega⟩
                · go_wp2_with fail
                  exact ⟨⟨j + 1, by omega, by go_num, hbz⟩, by simp [intOf]; omega⟩
          · rw [if_neg hp] at hrw
            obtain ⟨s, hs⟩ : ∃ s, s = repC 92 Y := ⟨_, rfl⟩
            have hss : s.size = Y := by rw [hs, repC_size]
            have hs0 : 0 < s.size := by omega
            have hsz : s.size ≤ 30 := by omega
            have hsb : ∀ (i : Nat) (h : i < s.size), ((s[i]'h).toNat : Int) = 92 := by subst hs; exact fun i h => repC_at 92 Y i h
            have d0 := hsb 0 hs0
            rw [← hs] at hrw
            have HRW := hid hrw; have HSB := hid hsb
            have dl : ((s.size : Int) != Y) = false := by rw [hss]; simp
            have HSS := hid hss
            clear hrw hsb hs hss
            by_cases h0 : j = 0
            · have gj : decide ((0 : Int) < j) = false := by simp; omega
              have gj2 : decide (0 < j) = false := by simp; omega
              clear h0 hp
              go_wp2_with ((with_reducible refine wpList_idx _ ByteArray.empty E_strs F_str cStr1 (by with_unfolding_all rfl) (by with_unfolding_all rfl) (hmq) (by first | omega | (simp; done)) (by first | omega | (simp; done)) (fun _ => by with_unfolding_all rfl) (fun _ => ?_)); rw [HRW.out])
              refine wp_region_quiet_lit (by kernel_rfl) (by kernel_rfl) ?_
              repeat (first | ((with_reducible refine wpQ_skip (by with_unfolding_all rfl) ?_); (try simp only [Act.put, List.setIfInBounds_toArray, List.set_cons_zero, List.set_cons_succ])) | quiet_step (fail))
              refine wpQuiet_nil ?_
              intro w8 hb8
              replace hb8 := below_drewN hb8
              have hbq8 := bnext hbq hb8
              clear hmq
              go_wp2_with fail
              go_loopw [164] (fun i wz => ∃ c : Nat, c ≤ s.size ∧ i = .int .i64 c ∧ Below wo.heap.size wo wz) (fun i _ => s.size - (intOf i).toNat)
              case atStart => exact ⟨0, by omega, rfl, hbq8⟩
              case round =>
                obtain ⟨c, hc, rfl, hbz⟩ := hrel
                by_cases hcl : c < s.size
                · have dc := HSB.out c hcl
                  go_wp2_with fail
                  refine wp_region_quiet_lit (by kernel_rfl) (by kernel_rfl) ?_
                  repeat (first | ((with_reducible refine wpQ_skip (by with_unfolding_all rfl) ?_); (try simp only [Act.put, List.setIfInBounds_toArray, List.set_cons_zero, List.set_cons_succ])) | quiet_step (fail))
                  refine wpQuiet_nil ?_
                  intro w9 hb9
                  replace hb9 := below_drewN hb9
                  go_wp2_with fail
                  exact ⟨⟨c + 1, by omega, by go_num, bnext hbz hb9⟩, by simp [intOf]; omega⟩
                · go_wp2_with fail
                  exact ⟨⟨j + 1, by omega, by go_num, hbz⟩, by simp [intOf]; omega⟩
            · obtain ⟨i, hi⟩ : ∃ i, j = i + 1 := ⟨j - 1, by omega⟩
              have gj : decide ((0 : Int) < j) = true := by simp; omega
              have gj2 : decide (0 < j) = true := by simp; omega
              have hrt := HROW.out i (by have := HL.out; omega)
              have hpi : (i : Int) % 2 = 0 := by omega
              rw [if_pos hpi] at hrt
              obtain ⟨u, hu⟩ : ∃ u, u = repC 47 Y := ⟨_, rfl⟩
              have hu0 : 0 < u.size := by rw [hu, repC_size]; omega
              have e0 : ((u[0]'hu0).toNat : Int) = 47 := by subst hu; exact repC_at 47 Y 0 _
              rw [← hu] at hrt
              have HRT := hid hrt
              have hji : (j : Int) - 1 = i := by omega
              have hw1 : IntKind.i64.wrap ((j : Int) - 1) = i := by rw [hji]; exact IntWalk.i64_in _ (by omega)
              have hil : i < L.length := by omega
              clear hu hrt hji hi h0 hp hpi
              go_wp2_with ((with_reducible refine wpList_idx _ ByteArray.empty E_strs F_str cStr1 (by with_unfolding_all rfl) (by with_unfolding_all rfl) (hmq) (by first | omega | (simp; done)) (by first | omega | (simp; done)) (fun _ => by with_unfolding_all rfl) (fun _ => ?_)); rw [HRW.out])
              refine wp_region_quiet_lit (by kernel_rfl) (by kernel_rfl) ?_
              repeat (first | (((with_reducible refine wpQD_idxG ByteArray.empty E_strs F_str cStr1 (by with_unfolding_all rfl) (by with_unfolding_all rfl) (hmq) (rfl) (by first | omega | (simp; done)) (by first | omega | (simp; done)) (fun _ => by with_unfolding_all rfl) (by with_unfolding_all rfl) (fun _ => by with_unfolding_all rfl) (fun _ => ?_)); (try simp only [Act.put, List.setIfInBounds_toArray, List.set_cons_zero, List.set_cons_succ]); (try simp only [cInt])); rw [HRT.out]) | quiet_step (fail))
              refine wpQuiet_nil ?_
              intro w8 hb8
              replace hb8 := below_drewN hb8
              have hbq8 := bnext hbq hb8
              clear hmq
              go_wp2_with fail
              go_loopw [164] (fun i wz => ∃ c : Nat, c ≤ s.size ∧ i = .int .i64 c ∧ Below wo.heap.size wo wz) (fun i _ => s.size - (intOf i).toNat)
              case atStart => exact ⟨0, by omega, rfl, hbq8⟩
              case round =>
                obtain ⟨c, hc, rfl, hbz⟩ := hrel
                by_cases hcl : c < s.size
                · have dc := HSB.out c hcl
                  go_wp2_with fail
                  refine wp_region_quiet_lit (by kernel_rfl) (by kernel_rfl) ?_
                  repeat (first | ((with_reducible refine wpQ_skip (by with_unfolding_all rfl) ?_); (try simp only [Act.put, List.setIfInBounds_toArray, List.set_cons_zero, List.set_cons_succ])) | quiet_step (fail))
                  refine wpQuiet_nil ?_
                  intro w9 hb9
                  replace hb9 := below_drewN hb9
                  go_wp2_with fail
                  exact ⟨⟨c + 1, by omega, by go_num, bnext hbz hb9⟩, by simp [intOf]; omega⟩
                · go_wp2_with fail
                  exact ⟨⟨j + 1, by omega, by go_num, hbz⟩, by simp [intOf]; omega⟩
        · clear hmq
          have t4 := bnext t3 hbq
          by_cases hE : headE ((m : Int) + 1) Y = 0
          · have hb12 : (m : Int) + 1 ≤ 12 ∧ (m : Int) * Y ≤ 200 := by
              unfold headE at hE
              rw [if_neg (fun hh => hh HMAT.out), show (m : Int) + 1 - 1 = m by omega] at hE
              split at hE
              · omega
              · omega
            obtain ⟨hb1, hb2⟩ := hb12
            have hb2n : m * Y ≤ 200 := by
              have : ((m * Y : Nat) : Int) ≤ 200 := by rw [Int.natCast_mul]; exact hb2
              omega
            have CH := fun w => HH.out w
            have eW : headL ((m : Int) + 1) Y = headR m Y := by
              unfold headL
              rw [if_pos hE, headR_cyc, show ((m : Int) + 1 - 1).toNat = m by omega, Int.toNat_natCast]
            rw [hE, eW] at CH
            have hWl := headR_len m Y
            have hfit := headR_fit m Y
            have CW := fun a cap w hS => rCheckWord_any ((m : Int) + 1) a cap (headR m Y) w hS
            rw [wordE_fit (by omega) hb1 (by omega) hfit] at CW
            have CP := fun a cap w hS => r5Perm_any (m + 1) a cap (headR m Y) w hS (by omega) (by omega) (fun x hx => by have := hfit x hx; omega)
            have hR := row5_isP (headR m Y) (idL (m + 1)) (idL_isP _) (fun x hx => by rw [idL_len]; have := hfit x hx; omega)
            have hI := invL_isP hR
            have hIl : (invL (row5 (idL (m + 1)) (headR m Y))).length = m + 1 := by rw [invL_len, row5_len, idL_len]
            have CC := fun a cap w hS => rCycles_any a cap (invL (row5 (idL (m + 1)) (headR m Y))) w hS hI (by omega)
            have hcy := head_cyc (m := m) (y := Y) (by omega) (by omega) (by omega) hb2n
            rw [← HN.out] at hcy
            have ecast : ((m + 1 : Nat) : Int) = (m : Int) + 1 := rfl
            rw [ecast] at CP
            have dW : (((headR m Y).length : Int) != (m : Int) * Y) = false := by rw [hWl, Int.natCast_mul]; simp
            obtain ⟨I, hId⟩ : ∃ I, I = invL (row5 (idL (m + 1)) (headR m Y)) := ⟨_, rfl⟩
            rw [← hId] at CP CC hIl hcy
            obtain ⟨W, hWd⟩ : ∃ W, W = headR m Y := ⟨_, rfl⟩
            rw [← hWd] at CH CW CP dW hWl
            have hWm : W.length ≤ 200 := by omega
            have hwY : IntKind.i64.wrap ((m : Int) * Y) = (m : Int) * Y := IntWalk.i64_in _ (by omega)
            have HCH := hid CH; have HCW := hid CW; have HCP := hid CP; have HCC := hid CC; have HIL := hid hIl; have HCY := hid hcy
            clear CH CW CP CC hIl hcy ecast hId hWd hWl hI hR hfit eW hE
            go_wp2_with fail
            refine (HCH.out wr).mono ?_
            rintro e w8 ⟨ah, ch, rfl, hh, _, b8⟩
            go_wp2_with fail
            refine (HCW.out ah ch w8 hh).mono ?_
            rintro e w9 ⟨rfl, b9⟩
            have hh9 := hh.below b9
            go_wp2_with fail
            refine (HCP.out ah ch w9 hh9).mono ?_
            rintro e w10 ⟨v10, rfl, ho10, b10⟩
            obtain ⟨a10, c10, rfl, q10, _, _⟩ := ho10.reps
            go_wp2_with fail
            refine (HCC.out a10 c10 w10 q10).mono ?_
            rintro e w11 ⟨v11, qs, rfl, hqs, hS11⟩
            obtain ⟨a11, c11, rfl, _⟩ := hS11.slice 0 rfl
            have hql : (qs.map Prod.fst).length = N := by
              have := congrArg List.length hqs
              rw [HIL.out, HCY.out] at this
              simpa using this
            have dq : (((qs.map Prod.fst).length : Int) == (N : Int)) = true := by rw [hql]; simp
            have hql2 : qs.length = N := by simpa using hql
            have dq2 : ((qs.length : Int) == (N : Int)) = true := by rw [hql2]; simp
            have dq3 : (qs.length == N) = true := by rw [hql2]; simp
            have t11 := bnext t4 (bnext b8 (bnext b9 (bnext b10 hS11.b)))
            clear hql hql2 hqs
            go_wp2_with fail
            refine (awake_any _).mono ?_
            rintro e w' ⟨rfl, hb⟩
            go_wp2_with fail
            go_ret
            exact ⟨rfl, bnext t11 hb⟩
          · have hb12 : 12 < (m : Int) + 1 ∨ 200 < (m : Int) * Y := by
              unfold headE at hE
              rw [if_neg (fun hh => hh HMAT.out), show (m : Int) + 1 - 1 = m by omega] at hE
              split at hE
              · assumption
              · exact absurd rfl hE
            have e5 : headE ((m : Int) + 1) Y = 5 := by
              unfold headE
              rw [if_neg (fun hh => hh HMAT.out), show (m : Int) + 1 - 1 = m by omega, if_pos hb12]
            have eL : headL ((m : Int) + 1) Y = [] := by unfold headL; rw [if_neg hE]
            have CH := fun w => HH.out w
            rw [e5, eL] at CH
            have HCH := hid CH
            have hwY : IntKind.i64.wrap ((m : Int) * Y) = (m : Int) * Y := IntWalk.i64_in _ (by omega)
            clear CH e5 eL hE
            by_cases c1 : 12 < (m : Int) + 1
            · clear hb12
              go_wp2_with fail
              refine (HCH.out wr).mono ?_
              rintro e w8 ⟨ah, ch, rfl, hh, _, b8⟩
              go_wp2_with fail
              refine (awake_any _).mono ?_
              rintro e w' ⟨rfl, hb⟩
              go_wp2_with fail
              go_ret
              exact ⟨rfl, bnext t4 (bnext b8 hb)⟩
            · have c2 : 200 < (m : Int) * Y := by omega
              clear hb12
              go_wp2_with fail
              refine (HCH.out wr).mono ?_
              rintro e w8 ⟨ah, ch, rfl, hh, _, b8⟩
              go_wp2_with fail
              refine (awake_any _).mono ?_
              rintro e w' ⟨rfl, hb⟩
              go_wp2_with fail
              go_ret
              exact ⟨rfl, bnext t4 (bnext b8 hb)⟩
end Go.Proofs.YtogbclcnmogaeaaGreatDoor
