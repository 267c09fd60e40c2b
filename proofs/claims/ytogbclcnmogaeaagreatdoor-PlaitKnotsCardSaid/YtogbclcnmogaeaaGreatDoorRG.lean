/- Contracts of the reference: Identity, Crosses, Alternates. Conditions: slices readable, letters fit, sizes as stated. -/
import Derived.Test.YtogbclcnmogaeaaGreatDoorRE
import Derived.Test.YtogbclcnmogaeaaGreatDoorRlB
import Derived.Test.YtogbclcnmogaeaaGreatDoorSlA
import Derived.Test.YtogbclcnmogaeaaGreatDoorRF
set_option linter.all false
namespace Go.Proofs.YtogbclcnmogaeaaGreatDoor
open Go.RowKit
set_option maxHeartbeats 1000000
set_option maxRecDepth 100000

def idL (n : Nat) : List Int := (List.range n).map fun (i : Nat) => (i : Int)
theorem idL_succ (n : Nat) : idL (n + 1) = idL n ++ [(n : Int)] := by simp [idL, List.range_succ]
theorem idL_len (n : Nat) : (idL n).length = n := by simp [idL]
theorem idL_start (n : Nat) : idL (n + 1) = 0 :: startL n := by
  unfold idL startL
  rw [List.range_succ_eq_map]
  simp
theorem rIdentity_any (n : Nat) (w : World) (hn : n ≤ 100000) :
    Calls Tryz.prog 108 #[.int .i64 n] w fun r w' => ∃ v, r = .returned v ∧ OwnI w.heap.size w' v (idL n) ∧ Below w.heap.size w w' := by
  go_enter Tryz.func108, Tryz.ntmps108
  go_wp2
  go_loopw [3, 4] (fun v i wr => ∃ k : Nat, k ≤ n ∧ i = .int .i64 k ∧ OwnI w.heap.size wr v (idL k) ∧ Below w.heap.size w wr) (fun _ i _ => n - (intOf i).toNat)
  case atStart => exact ⟨0, by omega, rfl, own_nil cIntS, Below.refl _ _⟩
  case round =>
    obtain ⟨k, hk, rfl, hO, hbr⟩ := hrel
    have hle : (idL k).length ≤ 100000 := by rw [idL_len]; omega
    have hbs := hbr.size
    by_cases hlt : k < n
    · have hs := idL_succ k
      have HS := hid hs; clear hs
      go_wp2_with ((with_reducible refine wpList_app (l := (idL k)) (ys := [(k : Int)]) E_ints (by with_unfolding_all rfl) (by with_unfolding_all rfl) ((hO).alloc _) (reps_new1 cIntS ((k : Int)) _ _ (by simp) rfl) cIntO (by simp; omega) (by first | omega | (simp; omega)) (by simp; omega) ?_); intro v3 w3 ho3 hg3 hat3)
      exact ⟨⟨k + 1, by omega, by go_num, by rw [HS.out]; exact ho3, below_own (bal hbr (.cells #[.int .i64 (k : Int)] 3)) hg3 (hO.alloc _) (Nat.le_refl _)⟩, by simp [intOf]; omega⟩
    · have : k = n := by omega
      subst this
      go_wp2_with fail
      go_ret
      exact ⟨_, rfl, hO, hbr⟩

theorem cons_at {st : List Int} {x k : Int} (h : 1 ≤ k) : atD 0 (x :: st) k = atD 0 st (k - 1) := by
  have e : k.toNat = (k - 1).toNat + 1 := by omega
  show (x :: st).getD k.toNat 0 = st.getD (k - 1).toNat 0
  rw [e]; rfl
theorem cons_set {st : List Int} {x k v : Int} (h : 1 ≤ k) : (x :: st).set k.toNat v = x :: st.set (k - 1).toNat v := by
  have e : k.toNat = (k - 1).toNat + 1 := by omega
  rw [e]; rfl
theorem rCrosses_any (n : Nat) (a : Option Addr) (cap : Nat) (l : List Int) (w : World) (hS : Ints w a cap l) (h1 : 1 ≤ n) (h2 : n ≤ 12) (h3 : l.length ≤ 200) (hf : fitsW n l) :
    Calls Tryz.prog 52 #[.int .i64 n, .slice a l.length cap] w fun r w' => ∃ v, r = .returned v ∧ Own cPair 2 w.heap.size 163 w' v (rowL n l).2 ∧ Below w.heap.size w w' := by
  have hcap := hS.le
  have hm0 := hS.max
  have CI := fun w => rIdentity_any (n + 1) w (by omega)
  have hcast : ((n + 1 : Nat) : Int) = (n : Int) + 1 := by omega
  rw [hcast] at CI
  have HCI := hid CI; have HF := hid hf
  clear CI hcast hf
  go_enter Tryz.func52, Tryz.ntmps52
  go_wp2_with fail
  refine (HCI.out w).mono ?_
  rintro e w1 ⟨v1, rfl, ho1, b1⟩
  rw [idL_start] at ho1
  have hS1 := SL.ofOwn ho1 b1
  clear ho1 b1
  obtain ⟨a1, c1, rfl, _⟩ := hS1.slice 0 rfl
  obtain ⟨N, hN⟩ : ∃ N, N = (0 :: startL n).length := ⟨_, rfl⟩
  rw [← hN] at hS1 ⊢
  have hNn : N = n + 1 := by rw [hN]; simp [startL_len]
  have HN := hid hNn; clear hN hNn
  go_wp2_with fail
  go_loopw [5, 7, 8, 9, 10] (fun v i _ _ _ wr => ∃ (j : Nat) (st : List Int) (cr : List (Int × Int)), j ≤ l.length ∧ i = .int .i64 j ∧ st.length = n ∧ cr.length = j ∧ SL w.heap.size w wr [pOwn cPair 2 163 v cr, pOwn cInt 1 3 (.slice a1 N c1) (0 :: st)] ∧ rowGo st cr (l.drop j) = rowL n l) (fun _ i _ _ _ _ => l.length - (intOf i).toNat)
  case atStart => exact ⟨0, startL n, [], by omega, rfl, startL_len n, rfl, hS1.nilS cPairS, rfl⟩
  case round =>
    obtain ⟨j, st, cr, hj, rfl, hst, hcr, hSL, hgo⟩ := hrel
    have hSr := hS.below hSL.b
    have HST := hid hst; have HCR := hid hcr; clear hst hcr
    by_cases hlt : j < l.length
    · have hstep := rowGo_step st cr l j hlt
      rw [hgo] at hstep
      obtain ⟨x1, x2, x3, x4⟩ := HF.out (atD 0 l j) (by simp [atD, hlt])
      have hx0 : atD 0 l j ≠ 0 := fun h => by rw [h] at x3; simp [absI] at x3
      obtain ⟨m, hme⟩ : ∃ m, m = absI (atD 0 l j) := ⟨_, rfl⟩
      have csz := fun w => rsize_any (atD 0 l j) w (by omega) (by omega)
      rw [← hme] at csz hstep x3 x4
      obtain ⟨R, hR⟩ : ∃ R, R = (0 : Int) :: st := ⟨_, rfl⟩
      rw [← hR] at hSL
      have hRl : R.length = N := by rw [hR, HN.out, List.length_cons, HST.out]
      have hN1 : m + 1 < N := by rw [HN.out]; omega
      have hRi : N ≤ R.length := by omega
      have eA : atD 0 R m = atD 0 st (m - 1) := by rw [hR, cons_at x3]
      have eB : atD 0 R (m + 1) = atD 0 st m := by rw [hR, cons_at (by omega)]; congr 1; omega
      have hset : (R.set m.toNat (atD 0 R (m + 1))).set (m + 1).toNat (atD 0 R m) = 0 :: swapL st m := by
        rw [eA, eB, hR, cons_set x3, cons_set (by omega)]
        unfold swapL
        rw [show m + 1 - 1 = m by omega]
      have hco : crossOf st (atD 0 l j) = if atD 0 l j < 0 then (atD 0 R (m + 1), atD 0 R m) else (atD 0 R m, atD 0 R (m + 1)) := by
        unfold crossOf; rw [← hme, eA, eB]
      have hRr := hSL.rd 1 rfl
      have hwr : IntKind.i64.wrap (m + 1) = m + 1 := IntWalk.i64_in _ (by omega)
      have hle : cr.length ≤ 200 := by rw [HCR.out]; omega
      have HSTEP := hid hstep; have SZ := hid csz; have HRL := hid hRl; have HSET := hid hset; have HCO := hid hco; have HGO := hid hgo
      clear hstep csz hRl hset hco hme eA eB hR hgo
      by_cases hpos : 0 < atD 0 l j
      · have hc : crossOf st (atD 0 l j) = (atD 0 R m, atD 0 R (m + 1)) := by rw [HCO.out, if_neg (by omega)]
        have HC := hid hc; clear hc
        go_wp2_with (first | (with_reducible refine wpList_idx _ 0 E_ints F_int cInt1 (by with_unfolding_all rfl) (by with_unfolding_all rfl) (hSr) (by first | omega | (simp; done)) (by first | omega | (simp; done)) (fun _ => by with_unfolding_all rfl) (fun _ => ?_)) | (go_at_call 119; with_reducible refine (SZ.out _).mono ?_; rintro e w' ⟨rfl, rfl⟩))
        refine wp_region_quiet_lit (by kernel_rfl) (by kernel_rfl) ?_
        repeat (first | ((with_reducible refine wpQD_idxN 0 E_ints F_int cInt1 (by with_unfolding_all rfl) (by with_unfolding_all rfl) (hRr) (HRL.out) (by first | omega | (simp; done)) (by first | omega | (simp; done)) (fun _ => by with_unfolding_all rfl) (fun _ => ?_)); (try simp only [Act.put, List.setIfInBounds_toArray, List.set_cons_zero, List.set_cons_succ]); (try simp only [cInt])) | quiet_step (fail))
        refine wpQuiet_nil ?_
        intro w5 hb5
        replace hb5 := below_drewN hb5
        have hSL5 := hSL.mono hb5
        have hSr5 := hS.below hSL5.b
        go_wp2_with (first | (with_reducible refine wpList_idx _ 0 E_ints F_int cInt1 (by with_unfolding_all rfl) (by with_unfolding_all rfl) (hSr5) (by first | omega | (simp; done)) (by first | omega | (simp; done)) (fun _ => by with_unfolding_all rfl) (fun _ => ?_)) | ((with_reducible refine wpList_pushL (y := (atD 0 R m, atD 0 R (m + 1))) 0 E_rcross (by with_unfolding_all rfl) (by with_unfolding_all rfl) (hSL5) (by with_unfolding_all rfl) cPairO ⟨rfl, rfl⟩ (by first | with_unfolding_all rfl | simp) (by with_unfolding_all rfl) (by first | omega | (simp; omega)) (by first | omega | (simp; omega)) ?_); intro v3 w3 hS3) | ((with_reducible refine wpList_storeL (u := (atD 0 R (m + 1))) 1 E_ints cInt1 (sto_int) (by with_unfolding_all rfl) (by with_unfolding_all rfl) (hS3) (by with_unfolding_all rfl) (by first | omega | (simp; done) | (simp; omega)) (by first | omega | (simp; done) | (simp; omega)) (fun _ => by with_unfolding_all rfl) (fun _ => by with_unfolding_all rfl) ?_); intro _ w4 hS4) | ((with_reducible refine wpList_storeL (u := (atD 0 R m)) 1 E_ints cInt1 (sto_int) (by with_unfolding_all rfl) (by with_unfolding_all rfl) (hS4) (by with_unfolding_all rfl) (by first | omega | (simp; done) | (simp; omega)) (by first | omega | (simp; done) | (simp; omega)) (fun _ => by with_unfolding_all rfl) (fun _ => by with_unfolding_all rfl) ?_); intro _ w6 hS6))
        refine ⟨⟨j + 1, swapL st m, cr ++ [(atD 0 R m, atD 0 R (m + 1))], by omega, by go_num, by rw [swapL_len]; exact HST.out, by rw [List.length_append, HCR.out]; rfl, ?_, ?_⟩, by simp [intOf]; omega⟩
        · rw [← HSET.out]; exact hS6
        · rw [← HC.out]; exact HSTEP.out.symm
      · have hc : crossOf st (atD 0 l j) = (atD 0 R (m + 1), atD 0 R m) := by
          rw [HCO.out, if_pos (by omega)]
        have HC := hid hc; clear hc
        go_wp2_with (first | (with_reducible refine wpList_idx _ 0 E_ints F_int cInt1 (by with_unfolding_all rfl) (by with_unfolding_all rfl) (hSr) (by first | omega | (simp; done)) (by first | omega | (simp; done)) (fun _ => by with_unfolding_all rfl) (fun _ => ?_)) | (go_at_call 119; with_reducible refine (SZ.out _).mono ?_; rintro e w' ⟨rfl, rfl⟩))
        refine wp_region_quiet_lit (by kernel_rfl) (by kernel_rfl) ?_
        repeat (first | ((with_reducible refine wpQD_idxN 0 E_ints F_int cInt1 (by with_unfolding_all rfl) (by with_unfolding_all rfl) (hRr) (HRL.out) (by first | omega | (simp; done)) (by first | omega | (simp; done)) (fun _ => by with_unfolding_all rfl) (fun _ => ?_)); (try simp only [Act.put, List.setIfInBounds_toArray, List.set_cons_zero, List.set_cons_succ]); (try simp only [cInt])) | quiet_step (fail))
        refine wpQuiet_nil ?_
        intro w5 hb5
        replace hb5 := below_drewN hb5
        have hSL5 := hSL.mono hb5
        have hSr5 := hS.below hSL5.b
        go_wp2_with (first | (with_reducible refine wpList_idx _ 0 E_ints F_int cInt1 (by with_unfolding_all rfl) (by with_unfolding_all rfl) (hSr5) (by first | omega | (simp; done)) (by first | omega | (simp; done)) (fun _ => by with_unfolding_all rfl) (fun _ => ?_)) | ((with_reducible refine wpList_pushL (y := (atD 0 R (m + 1), atD 0 R m)) 0 E_rcross (by with_unfolding_all rfl) (by with_unfolding_all rfl) (hSL5) (by with_unfolding_all rfl) cPairO ⟨rfl, rfl⟩ (by first | with_unfolding_all rfl | simp) (by with_unfolding_all rfl) (by first | omega | (simp; omega)) (by first | omega | (simp; omega)) ?_); intro v3 w3 hS3) | ((with_reducible refine wpList_storeL (u := (atD 0 R (m + 1))) 1 E_ints cInt1 (sto_int) (by with_unfolding_all rfl) (by with_unfolding_all rfl) (hS3) (by with_unfolding_all rfl) (by first | omega | (simp; done) | (simp; omega)) (by first | omega | (simp; done) | (simp; omega)) (fun _ => by with_unfolding_all rfl) (fun _ => by with_unfolding_all rfl) ?_); intro _ w4 hS4) | ((with_reducible refine wpList_storeL (u := (atD 0 R m)) 1 E_ints cInt1 (sto_int) (by with_unfolding_all rfl) (by with_unfolding_all rfl) (hS4) (by with_unfolding_all rfl) (by first | omega | (simp; done) | (simp; omega)) (by first | omega | (simp; done) | (simp; omega)) (fun _ => by with_unfolding_all rfl) (fun _ => by with_unfolding_all rfl) ?_); intro _ w6 hS6))
        refine ⟨⟨j + 1, swapL st m, cr ++ [(atD 0 R (m + 1), atD 0 R m)], by omega, by go_num, by rw [swapL_len]; exact HST.out, by rw [List.length_append, HCR.out]; rfl, ?_, ?_⟩, by simp [intOf]; omega⟩
        · rw [← HSET.out]; exact hS6
        · rw [← HC.out]; exact HSTEP.out.symm
    · have : j = l.length := by omega
      subst this
      rw [List.drop_length] at hgo
      have e : cr = (rowL n l).2 := by rw [← hgo]; rfl
      have HE := hid e; clear e hgo
      go_wp2_with fail
      go_ret
      exact ⟨_, rfl, by rw [← HE.out]; exact hSL.own 0 rfl, hSL.b⟩

theorem rAlternates_any (n : Nat) (a : Option Addr) (cap : Nat) (l : List Int) (w : World) (hS : Ints w a cap l) (h1 : 1 ≤ n) (h2 : n ≤ 12) (h3 : l.length ≤ 200) (hf : fitsW n l) :
    Calls Tryz.prog 53 #[.int .i64 n, .slice a l.length cap] w fun r w' => r = .returned (.int .i64 (altGo (fun _ => 0) 0 (rowL n l).2)) ∧ Below w.heap.size w w' := by
  have hcap := hS.le
  have hm := hS.max
  have CC := rCrosses_any n a cap l w hS h1 h2 h3 hf
  have hok : pairsOk n (rowL n l).2 := rowGo_ok l _ _ (fun x hx => (hf x hx).2.2) (startL_len _) (injS_start _) (fun p hp => by cases hp)
  have hcl : (rowL n l).2.length ≤ 200 := by rw [rowL, rowGo_cl]; simpa using h3
  obtain ⟨C, hC⟩ : ∃ C, C = (rowL n l).2 := ⟨_, rfl⟩
  rw [← hC] at CC hok hcl ⊢
  have found := fun (s : Int) => @alt_found n C hok s
  have none_ := @alt_none n C hok
  obtain ⟨A, hA⟩ : ∃ A, A = altGo (fun _ => 0) 0 C := ⟨_, rfl⟩
  rw [← hA] at found none_ ⊢
  have HFo := hid found; have HN := hid none_; have HC := hid CC
  clear CC found none_ hA hC hok hf
  go_enter Tryz.func53, Tryz.ntmps53
  go_wp2_with fail
  refine HC.out.mono ?_
  rintro e w1 ⟨v1, rfl, ho1, b1⟩
  obtain ⟨a1, c1, rfl, hP, _, _⟩ := ho1.reps
  go_wp2_with fail
  go_loopw [6, 7, 8, 9] (fun s _ _ _ wr => ∃ k : Nat, k ≤ n ∧ s = .int .i64 ((k : Int) + 1) ∧ (∀ t : Int, 1 ≤ t → t < (k : Int) + 1 → failGo t 0 C = false) ∧ Below w1.heap.size w1 wr) (fun s _ _ _ _ => n + 1 - (intOf s).toNat)
  case atStart => exact ⟨0, by omega, rfl, fun t ht1 ht2 => by omega, Below.refl _ _⟩
  case round =>
    obtain ⟨k, hk, rfl, hno, hbr⟩ := hrel
    have HNO := hid hno; clear hno
    by_cases hlt : k < n
    · go_wp2_with fail
      go_loopw [7, 8, 9] (fun last i _ wq => ∃ (j : Nat) (la : Int), j ≤ C.length ∧ i = .int .i64 j ∧ last = .int .i64 la ∧ failGo ((k : Int) + 1) la (C.drop j) = failGo ((k : Int) + 1) 0 C ∧ Below w1.heap.size w1 wq) (fun _ i _ _ => C.length - (intOf i).toNat)
      case atStart => exact ⟨0, 0, by omega, rfl, rfl, rfl, hbr⟩
      case round =>
        obtain ⟨j, la, hj, rfl, rfl, hgo, hbq⟩ := hrel
        have hPq := hP.below hbq
        by_cases hjl : j < C.length
        · have fn := fun v => @fail_next ((k : Int) + 1) la C j (failGo ((k : Int) + 1) 0 C) hjl hgo v
          clear hgo
          obtain ⟨bP, oP, rfl, hcs⟩ := hPq.cells (by decide) (0, 0) j hjl
          have k0 := hcs 0 (.int .i64 (atD (0, 0) C j).1) rfl
          have k1 := hcs 1 (.int .i64 (atD (0, 0) C j).2) rfl
          obtain ⟨o, ho⟩ : ∃ o, o = (atD (0, 0) C j).1 := ⟨_, rfl⟩
          obtain ⟨u, hu⟩ : ∃ u, u = (atD (0, 0) C j).2 := ⟨_, rfl⟩
          rw [← ho] at k0
          rw [← hu] at k1
          have hsd : sideOf ((k : Int) + 1) (atD (0, 0) C j) = if u = (k : Int) + 1 then -1 else if o = (k : Int) + 1 then 1 else 0 := by rw [hu, ho]; rfl
          have HSD := hid hsd; have FN := hid fn; have HF1 := hid (HFo.out ((k : Int) + 1) (by omega))
          clear hsd fn ho hu hcs
          simp at k0 k1
          by_cases hu : u = (k : Int) + 1
          · have hv : sideOf ((k : Int) + 1) (atD (0, 0) C j) = -1 := by rw [HSD.out, if_pos hu]
            obtain ⟨f1, f2⟩ := FN.out _ hv
            subst hu
            by_cases hla : la = -1
            · have hA : A = (k : Int) + 1 := HF1.out (f1 ⟨by omega, hla.symm⟩) HNO.out
              have HA := hid hA
              clear f1 f2 hv hA
              subst hla
              by_cases ho : o = (k : Int) + 1
              all_goals
                (try subst ho)
                go_wp2_with fail
                go_ret
                exact ⟨by rw [HA.out]; rfl, bnext b1 hbq⟩
            · have f3 := f2 (fun h => hla h.2.symm)
              rw [if_pos (by omega)] at f3
              have F3 := hid f3
              have hla2 : ¬ (-1 = la) := fun h => hla h.symm
              clear f1 f2 f3 hv
              by_cases ho : o = (k : Int) + 1
              all_goals
                (try subst ho)
                go_wp2_with fail
                exact ⟨⟨j + 1, -1, by omega, by go_num, rfl, F3.out, hbq⟩, by simp [intOf]; omega⟩
          · by_cases ho : o = (k : Int) + 1
            · have hv : sideOf ((k : Int) + 1) (atD (0, 0) C j) = 1 := by rw [HSD.out, if_neg hu, if_pos ho]
              obtain ⟨f1, f2⟩ := FN.out _ hv
              subst ho
              by_cases hla : la = 1
              · have hA : A = (k : Int) + 1 := HF1.out (f1 ⟨by omega, hla.symm⟩) HNO.out
                have HA := hid hA
                clear f1 f2 hv hA
                subst hla
                go_wp2_with fail
                go_ret
                exact ⟨by rw [HA.out]; rfl, bnext b1 hbq⟩
              · have f3 := f2 (fun h => hla h.2.symm)
                rw [if_pos (by omega)] at f3
                have F3 := hid f3
                have hla2 : ¬ (1 = la) := fun h => hla h.symm
                clear f1 f2 f3 hv
                go_wp2_with fail
                exact ⟨⟨j + 1, 1, by omega, by go_num, rfl, F3.out, hbq⟩, by simp [intOf]; omega⟩
            · have hv : sideOf ((k : Int) + 1) (atD (0, 0) C j) = 0 := by rw [HSD.out, if_neg hu, if_neg ho]
              obtain ⟨f1, f2⟩ := FN.out _ hv
              have f3 := f2 (fun h => h.1 rfl)
              rw [if_neg (fun h => h rfl)] at f3
              have F3 := hid f3
              clear f1 f2 f3 hv
              go_wp2_with fail
              exact ⟨⟨j + 1, la, by omega, by go_num, rfl, F3.out, hbq⟩, by simp [intOf]; omega⟩
        · have : j = C.length := by omega
          subst this
          rw [List.drop_length] at hgo
          have hno2 : ∀ t : Int, 1 ≤ t → t < ((k + 1 : Nat) : Int) + 1 → failGo t 0 C = false := fun t h1 h2 => by
            by_cases e : t = (k : Int) + 1
            · rw [e, ← hgo]; rfl
            · exact HNO.out t h1 (by omega)
          have HN2 := hid hno2; clear hno2 hgo
          go_wp2_with fail
          go_roundw
          case rel => exact ⟨k + 1, by omega, by go_num, HN2.out, hbq⟩
          case measure => simp [intOf]; omega
    · have : k = n := by omega
      subst this
      have e : A = 0 := HN.out (fun t h1 h2 => HNO.out t h1 (by omega))
      have HE := hid e; clear e
      go_wp2_with fail
      go_ret
      exact ⟨by rw [HE.out]; rfl, bnext b1 hbr⟩
end Go.Proofs.YtogbclcnmogaeaaGreatDoor
