/- Contracts of the reference: Strands and Perm (chapter 5), Ends (chapter 7), Inverse and Cycles (chapter 1). Conditions: slices readable, letters fit, numbers in range. -/
import Derived.Test.YtogbclcnmogaeaaGreatDoorEnP
import Derived.Test.YtogbclcnmogaeaaGreatDoorRE
import Derived.Test.YtogbclcnmogaeaaGreatDoorCyA
import Derived.Test.YtogbclcnmogaeaaGreatDoorRlB
set_option linter.all false
namespace Go.Proofs.YtogbclcnmogaeaaGreatDoor
open Go.RowKit
set_option maxHeartbeats 4000000
set_option maxRecDepth 100000

theorem r5size_any (n : Int) (w : World) (h : -9223372036854775807 ≤ n) (h2 : n ≤ 9223372036854775807) :
    Calls Tryz.prog 188 #[.int .i64 n] w fun r w' => r = .returned (.int .i64 (absI n)) ∧ w = w' := by
  have m1 : max n (0 - n) = absI n := by unfold absI; split <;> omega
  have m2 : max n (-n) = absI n := by unfold absI; split <;> omega
  go_enter Tryz.func188, Tryz.ntmps188
  go_wp2
  go_ret
  first | exact ⟨rfl, rfl⟩ | exact ⟨by rw [← m1], rfl⟩ | exact ⟨by rw [← m2], rfl⟩

theorem r5Strands_any (n : Nat) (a : Option Addr) (cap : Nat) (l : List Int) (w : World) (hS : Ints w a cap l) (h2 : n ≤ 12) (h3 : l.length ≤ 100000) (hf : ∀ x ∈ l, 1 ≤ absI x ∧ absI x < n) :
    Calls Tryz.prog 128 #[.int .i64 n, .slice a l.length cap] w fun r w' => ∃ v, r = .returned v ∧ OwnI w.heap.size w' v (row5 (idL n) l) ∧ Below w.heap.size w w' := by
  have hcap := hS.le
  have hm0 := hS.max
  have CI := fun w => rIdentity_any n w (by omega)
  have HCI := hid CI; have HF := hid hf
  clear CI
  clear hf
  go_enter Tryz.func128, Tryz.ntmps128
  go_wp2_with fail
  refine (HCI.out w).mono ?_
  rintro e w1 ⟨v1, rfl, ho1, b1⟩
  have hS1 := SL.ofOwn ho1 b1
  obtain ⟨a1, c1, rfl, _⟩ := hS1.slice 0 rfl
  obtain ⟨N, hN⟩ : ∃ N, N = (idL n).length := ⟨_, rfl⟩
  rw [← hN] at hS1 ⊢
  have hNn : N = n := by rw [hN, idL_len]
  have HN := hid hNn; have HN2 := hid hN
  clear ho1 b1 hN hNn
  go_wp2_with fail
  go_loopw [6, 7] (fun i _ wr => ∃ (j : Nat) (st : List Int), j ≤ l.length ∧ i = .int .i64 j ∧ st.length = N ∧ SL w.heap.size w wr [pOwn cInt 1 3 (.slice a1 N c1) st] ∧ row5 st (l.drop j) = row5 (idL n) l) (fun i _ _ => l.length - (intOf i).toNat)
  case atStart => exact ⟨0, idL n, by omega, rfl, HN2.out.symm, hS1, rfl⟩
  case round =>
    clear hS1
    obtain ⟨j, st, hj, rfl, hst, hSL, hgo⟩ := hrel
    have hSr := hS.below hSL.b
    by_cases hlt : j < l.length
    · rw [row5_drop st l j hlt] at hgo
      obtain ⟨x1, x2⟩ := HF.out (atD 0 l j) (by simp [atD, hlt])
      obtain ⟨m, hme⟩ : ∃ m, m = absI (atD 0 l j) := ⟨_, rfl⟩
      have hx3 : -12 ≤ atD 0 l j ∧ atD 0 l j ≤ 12 := by unfold absI at x2; split at x2 <;> omega
      have csz := fun w => r5size_any (atD 0 l j) w (by omega) (by omega)
      rw [← hme] at csz hgo x1 x2
      have SZ := hid csz; have HGO := hid hgo
      clear csz hgo hme hx3
      have hNn := HN.out
      have hO := hSL.own 0 rfl
      have hst2 := hst
      rw [← hst2] at hO hNn
      obtain ⟨g, e2, hgB, hcm, hfm, _⟩ := own_store cInt1 hO 0 m (by omega) (by omega)
      cases e2
      obtain ⟨g', e2, _, hcm1, hfm1, ho2, hg2⟩ := own_store cInt1 hO (atD 0 st m) (m - 1) (by omega) (by omega)
      cases e2
      have ho2' : OwnI w.heap.size (wr.setCell ⟨g, (m - 1).toNat, none⟩ (cInt (atD 0 st m))) (.slice (some ⟨g, 0, none⟩) (st.set (m - 1).toNat (atD 0 st m)).length c1) (st.set (m - 1).toNat (atD 0 st m)) := by simpa using ho2
      obtain ⟨g', e2, _, _, _, ho3, hg3⟩ := own_store cInt1 ho2' (atD 0 st (m - 1)) m (by omega) (by simp; omega)
      cases e2
      obtain ⟨b'', o'', e1, hcv⟩ := (hSL.rd 0 rfl).cells (by decide) 0 m.toNat (by omega)
      cases e1
      have hvm := hcv 0 (.int .i64 (atD 0 st m)) rfl
      obtain ⟨b'', o'', e1, hcv1⟩ := (hSL.rd 0 rfl).cells (by decide) 0 (m - 1).toNat (by omega)
      cases e1
      have hvm1 := hcv1 0 (.int .i64 (atD 0 st (m - 1))) rfl
      simp only [Nat.mul_one, Nat.add_zero, Nat.zero_add] at hvm hvm1
      obtain ⟨vm, hvs⟩ := cell?_setCell_some (w := wr) (p := ⟨g, (m - 1).toNat, none⟩) (x := .int .i64 (atD 0 st m)) (q := ⟨g, m.toNat, none⟩) (v := .int .i64 (atD 0 st m)) hvm
      have e0 : (m - 1).toNat = m.toNat - 1 := by omega
      simp only [e0] at hcm1 hfm1 ho3 hg2 hg3 hvm1 hvs
      have hmN : m < N := by have := HN.out; omega
      have hm0 : 0 ≤ m := by omega
      have hm1 : 0 ≤ m - 1 := by omega
      have hmN1 : m - 1 < N := by omega
      have HO3 := hid ho3; have HG2 := hid hg2; have HG3 := hid hg3; have HSL := hid hSL; have HST := hid hst
      have HE0 := hid e0
      clear ho2 ho2' ho3 hg2 hg3 hO hcv hcv1 hSL hst hst2 hNn e0
      go_wp2_with (first | (with_reducible refine wpList_idx _ 0 E_ints F_int cInt1 (by with_unfolding_all rfl) (by with_unfolding_all rfl) (hSr) (by first | omega | (simp; done)) (by first | omega | (simp; done)) (fun _ => by with_unfolding_all rfl) (fun _ => ?_)) | (go_at_call 188; with_reducible refine (SZ.out _).mono ?_; rintro e w' ⟨rfl, rfl⟩))
      go_region
      go_wp2_with fail
      have eS : (st.set (m.toNat - 1) (atD 0 st m)).set m.toNat (atD 0 st (m - 1)) = swapL st m := by unfold swapL; rw [HE0.out]
      have ho := HO3.out
      rw [List.length_set, HST.out, eS] at ho
      have hsb := HSL.out.b
      have hb2 := hsb.grown HG2.out hsb.size (fun k hk => by cases hk; omega)
      have hb3 := hb2.grown HG3.out hb2.size (fun k hk => by cases hk; omega)
      exact ⟨⟨j + 1, swapL st m, by omega, by go_num, by rw [swapL_len]; exact HST.out, SL.ofOwn ho.drew hb3.drew, HGO.out⟩, by simp [intOf]; omega⟩
    · have : j = l.length := by omega
      subst this
      rw [List.drop_length] at hgo
      have HE := hid hgo; clear hgo
      go_wp2_with fail
      go_ret
      refine ⟨_, rfl, ?_, hSL.b⟩
      have := HE.out
      rw [row5] at this
      rw [← this]
      exact hSL.own 0 rfl

theorem rInverse_any (a : Option Addr) (cap : Nat) (p : List Int) (w : World) (hS : Ints w a cap p) (h3 : p.length ≤ 100000) (hf : ∀ x ∈ p, 0 ≤ x ∧ x < p.length) :
    Calls Tryz.prog 122 #[.slice a p.length cap] w fun r w' => ∃ v, r = .returned v ∧ OwnI w.heap.size w' v (invL p) ∧ Below w.heap.size w w' := by
  have hcap := hS.le
  have hm0 := hS.max
  have HF := hid hf; clear hf
  have hS0 := SL.nil w
  go_enter Tryz.func122, Tryz.ntmps122
  go_wp2_with ((with_reducible refine wpList_makeL (c := cInt) (p.length) (0) E_ints cInt1 (by with_unfolding_all rfl) (by with_unfolding_all rfl) (by omega) (by omega) (hS0) ?_); intro ad w1 hS1)
  go_loopw [4] (fun i wr => ∃ (j : Nat), j ≤ p.length ∧ i = .int .i64 j ∧ SL w.heap.size w wr [pOwn cInt 1 3 (.slice ad p.length p.length) (invK p j)]) (fun i _ => p.length - (intOf i).toNat)
  case atStart => exact ⟨0, by omega, rfl, hS1⟩
  case round =>
    obtain ⟨j, hj, rfl, hSL⟩ := hrel
    have hSr := hS.below hSL.b
    have hs := invK_succ p j
    have hl1 := invK_len p j
    obtain ⟨q, hq⟩ : ∃ q, q = invK p j := ⟨_, rfl⟩
    have HQ := hid hq
    rw [← hq] at hSL hs hl1
    clear hq
    by_cases hlt : j < p.length
    · have hx := HF.out (atD 0 p j) (by simp [atD, hlt])
      have hxl : atD 0 p j < q.length := by rw [hl1]; exact hx.2
      have HS := hid hs; clear hs
      go_wp2_with (first | (with_reducible refine wpList_idx _ 0 E_ints F_int cInt1 (by with_unfolding_all rfl) (by with_unfolding_all rfl) (hSr) (by first | omega | (simp; done)) (by first | omega | (simp; done)) (fun _ => by with_unfolding_all rfl) (fun _ => ?_)) | ((with_reducible refine wpList_storeL (u := (j : Int)) 0 E_ints cInt1 (sto_int) (by with_unfolding_all rfl) (by with_unfolding_all rfl) (hSL) (by with_unfolding_all rfl) (by first | omega | (simp; done) | (simp; omega)) (by first | omega | (simp; done) | (simp; omega)) (fun _ => by with_unfolding_all rfl) (fun _ => by with_unfolding_all rfl) ?_); intro _ w3 hS3))
      exact ⟨⟨j + 1, by omega, by go_num, by rw [HS.out]; exact hS3⟩, by simp [intOf]; omega⟩
    · have : j = p.length := by omega
      subst this
      clear hl1 hs
      go_wp2_with fail
      go_ret
      refine ⟨_, rfl, ?_, hSL.b⟩
      have := hSL.own 0 rfl
      rw [HQ.out] at this
      exact this

theorem rEnds_any (n : Nat) (a : Option Addr) (cap : Nat) (l : List Int) (w : World) (hS : Ints w a cap l) (h2 : n ≤ 12) (h3 : l.length ≤ 100000) (hf : ∀ x ∈ l, 1 ≤ absI x ∧ absI x < n) :
    Calls Tryz.prog 59 #[.int .i64 n, .slice a l.length cap] w fun r w' => ∃ v, r = .returned v ∧ OwnI w.heap.size w' v (invL (row5 (idL n) l)) ∧ Below w.heap.size w w' := by
  have hcap := hS.le
  have hm0 := hS.max
  have CI := fun w => rIdentity_any n w (by omega)
  have HCI := hid CI; have HF := hid hf
  clear CI
  have hisp := row5_isP l (idL n) (idL_isP n) (fun x hx => by rw [idL_len]; exact hf x hx)
  have CINV := fun (a : Option Addr) (cap : Nat) (w : World) (hS : Ints w a cap (row5 (idL n) l)) => rInverse_any a cap (row5 (idL n) l) w hS (by rw [row5_len, idL_len]; omega) (isP_mem hisp)
  clear hisp
  clear hf
  go_enter Tryz.func59, Tryz.ntmps59
  go_wp2_with fail
  refine (HCI.out w).mono ?_
  rintro e w1 ⟨v1, rfl, ho1, b1⟩
  have hS1 := SL.ofOwn ho1 b1
  obtain ⟨a1, c1, rfl, _⟩ := hS1.slice 0 rfl
  obtain ⟨N, hN⟩ : ∃ N, N = (idL n).length := ⟨_, rfl⟩
  rw [← hN] at hS1 ⊢
  have hNn : N = n := by rw [hN, idL_len]
  have HN := hid hNn; have HN2 := hid hN
  clear ho1 b1 hN hNn
  go_wp2_with fail
  go_loopw [6, 7] (fun i _ wr => ∃ (j : Nat) (st : List Int), j ≤ l.length ∧ i = .int .i64 j ∧ st.length = N ∧ SL w.heap.size w wr [pOwn cInt 1 3 (.slice a1 N c1) st] ∧ row5 st (l.drop j) = row5 (idL n) l) (fun i _ _ => l.length - (intOf i).toNat)
  case atStart => exact ⟨0, idL n, by omega, rfl, HN2.out.symm, hS1, rfl⟩
  case round =>
    clear hS1
    obtain ⟨j, st, hj, rfl, hst, hSL, hgo⟩ := hrel
    have hSr := hS.below hSL.b
    by_cases hlt : j < l.length
    · rw [row5_drop st l j hlt] at hgo
      obtain ⟨x1, x2⟩ := HF.out (atD 0 l j) (by simp [atD, hlt])
      obtain ⟨m, hme⟩ : ∃ m, m = absI (atD 0 l j) := ⟨_, rfl⟩
      have hx3 : -12 ≤ atD 0 l j ∧ atD 0 l j ≤ 12 := by unfold absI at x2; split at x2 <;> omega
      have csz := fun w => rsize_any (atD 0 l j) w (by omega) (by omega)
      rw [← hme] at csz hgo x1 x2
      have SZ := hid csz; have HGO := hid hgo
      clear csz hgo hme hx3
      have hNn := HN.out
      have hO := hSL.own 0 rfl
      have hst2 := hst
      rw [← hst2] at hO hNn
      obtain ⟨g, e2, hgB, hcm, hfm, _⟩ := own_store cInt1 hO 0 m (by omega) (by omega)
      cases e2
      obtain ⟨g', e2, _, hcm1, hfm1, ho2, hg2⟩ := own_store cInt1 hO (atD 0 st m) (m - 1) (by omega) (by omega)
      cases e2
      have ho2' : OwnI w.heap.size (wr.setCell ⟨g, (m - 1).toNat, none⟩ (cInt (atD 0 st m))) (.slice (some ⟨g, 0, none⟩) (st.set (m - 1).toNat (atD 0 st m)).length c1) (st.set (m - 1).toNat (atD 0 st m)) := by simpa using ho2
      obtain ⟨g', e2, _, _, _, ho3, hg3⟩ := own_store cInt1 ho2' (atD 0 st (m - 1)) m (by omega) (by simp; omega)
      cases e2
      obtain ⟨b'', o'', e1, hcv⟩ := (hSL.rd 0 rfl).cells (by decide) 0 m.toNat (by omega)
      cases e1
      have hvm := hcv 0 (.int .i64 (atD 0 st m)) rfl
      obtain ⟨b'', o'', e1, hcv1⟩ := (hSL.rd 0 rfl).cells (by decide) 0 (m - 1).toNat (by omega)
      cases e1
      have hvm1 := hcv1 0 (.int .i64 (atD 0 st (m - 1))) rfl
      simp only [Nat.mul_one, Nat.add_zero, Nat.zero_add] at hvm hvm1
      obtain ⟨vm, hvs⟩ := cell?_setCell_some (w := wr) (p := ⟨g, (m - 1).toNat, none⟩) (x := .int .i64 (atD 0 st m)) (q := ⟨g, m.toNat, none⟩) (v := .int .i64 (atD 0 st m)) hvm
      have e0 : (m - 1).toNat = m.toNat - 1 := by omega
      simp only [e0] at hcm1 hfm1 ho3 hg2 hg3 hvm1 hvs
      have hmN : m < N := by have := HN.out; omega
      have hm0 : 0 ≤ m := by omega
      have hm1 : 0 ≤ m - 1 := by omega
      have hmN1 : m - 1 < N := by omega
      have HO3 := hid ho3; have HG2 := hid hg2; have HG3 := hid hg3; have HSL := hid hSL; have HST := hid hst
      have HE0 := hid e0
      clear ho2 ho2' ho3 hg2 hg3 hO hcv hcv1 hSL hst hst2 hNn e0
      go_wp2_with (first | (with_reducible refine wpList_idx _ 0 E_ints F_int cInt1 (by with_unfolding_all rfl) (by with_unfolding_all rfl) (hSr) (by first | omega | (simp; done)) (by first | omega | (simp; done)) (fun _ => by with_unfolding_all rfl) (fun _ => ?_)) | (go_at_call 119; with_reducible refine (SZ.out _).mono ?_; rintro e w' ⟨rfl, rfl⟩))
      go_region
      go_wp2_with fail
      have eS : (st.set (m.toNat - 1) (atD 0 st m)).set m.toNat (atD 0 st (m - 1)) = swapL st m := by unfold swapL; rw [HE0.out]
      have ho := HO3.out
      rw [List.length_set, HST.out, eS] at ho
      have hsb := HSL.out.b
      have hb2 := hsb.grown HG2.out hsb.size (fun k hk => by cases hk; omega)
      have hb3 := hb2.grown HG3.out hb2.size (fun k hk => by cases hk; omega)
      exact ⟨⟨j + 1, swapL st m, by omega, by go_num, by rw [swapL_len]; exact HST.out, SL.ofOwn ho.drew hb3.drew, HGO.out⟩, by simp [intOf]; omega⟩
    · have : j = l.length := by omega
      subst this
      rw [List.drop_length] at hgo
      have HE := hid hgo; clear hgo
      have hre := hSL.rd 0 rfl
      have he := HE.out
      rw [row5] at he
      subst he
      have hst3 := hst
      rw [hst] at CINV
      have HCV := hid CINV; clear CINV
      go_wp2_with fail
      refine (HCV.out a1 c1 wr hre).mono ?_
      rintro e w2 ⟨v2, rfl, ho2, b2⟩
      go_wp2_with fail
      go_ret
      exact ⟨_, rfl, ho2.mono hSL.b.size, bnext hSL.b b2⟩

theorem r5Perm_any (n : Nat) (a : Option Addr) (cap : Nat) (l : List Int) (w : World) (hS : Ints w a cap l) (h2 : n ≤ 12) (h3 : l.length ≤ 100000) (hf : ∀ x ∈ l, 1 ≤ absI x ∧ absI x < n) :
    Calls Tryz.prog 75 #[.int .i64 n, .slice a l.length cap] w fun r w' => ∃ v, r = .returned v ∧ OwnI w.heap.size w' v (invL (row5 (idL n) l)) ∧ Below w.heap.size w w' := by
  have hl : (row5 (idL n) l).length = n := by rw [row5_len, idL_len]
  have hisp := row5_isP l (idL n) (idL_isP n) (fun x hx => by rw [idL_len]; exact hf x hx)
  have hcap := hS.le
  have hm0 := hS.max
  have CS := r5Strands_any n a cap l w hS h2 h3 hf
  have CI := fun (a : Option Addr) (cap : Nat) (w : World) (hS : Ints w a cap (row5 (idL n) l)) => rInverse_any a cap (row5 (idL n) l) w hS (by omega) (isP_mem hisp)
  obtain ⟨R, hR⟩ : ∃ R, R = row5 (idL n) l := ⟨_, rfl⟩
  rw [← hR] at CS CI hl ⊢
  have HCS := hid CS; have HCI := hid CI
  clear CS CI hl hR hisp hf
  go_enter Tryz.func75, Tryz.ntmps75
  go_wp2_with fail
  refine HCS.out.mono ?_
  rintro e w1 ⟨v1, rfl, ho1, b1⟩
  obtain ⟨a1, c1, rfl, q1, _, _⟩ := ho1.reps
  go_wp2_with fail
  refine (HCI.out a1 c1 w1 q1).mono ?_
  rintro e w2 ⟨v2, rfl, ho2, b2⟩
  go_wp2_with fail
  go_ret
  exact ⟨_, rfl, ho2.mono b1.size, bnext b1 b2⟩

end Go.Proofs.YtogbclcnmogaeaaGreatDoor
