/- Contracts of the reference: CheckRound, find, Round. Conditions: slices readable, stands without an error, sizes as stated. -/
import Derived.Test.YtmomeggnegcheaaGreatDoorCiA
import Derived.Test.YtmomeggnegcheaaGreatDoorRyA
import Derived.Test.YtmomeggnegcheaaGreatDoorRG
import Derived.Test.YtmomeggnegcheaaGreatDoorRoA
import Derived.Test.YtmomeggnegcheaaGreatDoorSlB
set_option linter.all false
namespace Go.Proofs.YtmomeggnegcheaaGreatDoor
open Go.RowKit
set_option maxHeartbeats 2000000
set_option maxRecDepth 100000

theorem rCheckRound_any (a a2 : Option Addr) (cap cap2 : Nat) (l : List Int) (ms : List (Int × Int)) (w : World) (hS : Ints w a cap l) (hM : Pairs w a2 cap2 ms) (hc : checkStand l = 0) (hn : manyE ms.length = 0) (hms : ms.length ≤ 1048576) :
    Calls Tryz.prog 18 #[.slice a l.length cap, .slice a2 ms.length cap2] w fun r w' => r = .returned (.int .i64 (roundE l ms)) ∧ Below w.heap.size w w' := by
  have hcap := hS.le
  have hm := hS.max
  have hcap2 := hM.le
  have hm2 := hM.max
  have hsz := (checkStand_zero hc).1
  have hsz2 := (checkStand_zero hc).2.1
  have CR := fun w (hS : Ints w a cap l) (hM : Pairs w a2 cap2 ms) => rReplay_any a a2 cap cap2 l ms w hS hM (by omega) (by omega) hms
  have hr : roundE l ms = if (replayL l ms).2 ≠ [] then 18 else if shapeGo l (replayL l ms).1 0 l.length then 0 else 19 := by simp [roundE, hc, hn]
  obtain ⟨t, ht⟩ : ∃ t, t = (replayL l ms).1 := ⟨_, rfl⟩
  obtain ⟨aside, hasd⟩ : ∃ t, t = (replayL l ms).2 := ⟨_, rfl⟩
  obtain ⟨E, hE⟩ : ∃ E, E = roundE l ms := ⟨_, rfl⟩
  rw [← ht, ← hasd, ← hE] at hr
  rw [← ht, ← hasd] at CR
  rw [← hE]
  have HCR := hid CR; have HR := hid hr
  clear CR hr ht hasd hE hc hn
  go_enter Tryz.func18, Tryz.ntmps18
  go_wp2_with fail
  refine (HCR.out w hS hM).mono ?_
  rintro e w3 ⟨a3, cap3, v3, rfl, hlen3, hS3, hA3, b3⟩
  obtain ⟨a4, cap4, rfl, hr4, _, _⟩ := hA3.reps
  have HL := hid hlen3; clear hlen3
  by_cases has : aside = []
  · subst has
    have hS4 := hS.below b3
    have hr := HR.out
    simp only [ne_eq, not_true, if_false] at hr
    have HR3 := hid hr; clear hr HR hA3
    go_wp2_with fail
    go_loopw [7] (fun i wr => ∃ k : Nat, k ≤ l.length ∧ i = .int .i64 k ∧ shapeGo l t k (l.length - k) = shapeGo l t 0 l.length ∧ Below w3.heap.size w3 wr) (fun i _ => l.length - (intOf i).toNat)
    case atStart => exact ⟨0, by omega, rfl, rfl, Below.refl _ _⟩
    case round =>
      obtain ⟨k, hk, rfl, hsh, hbr⟩ := hrel
      by_cases hlt : k < l.length
      · have hst : shapeGo l t k (l.length - k) = (sameB (atD 0 l k) (atD 0 t k) && shapeGo l t (k + 1) (l.length - (k + 1))) := by
          rw [show l.length - k = (l.length - (k + 1)) + 1 by omega, shapeGo]
        rw [hsh] at hst
        have HST := hid hst; clear hst
        have HSH := hid hsh; clear hsh
        have hx : (k : Int) < t.length := by rw [HL.out]; omega
        go_wp2_with fail
        have hS5 := hS4.below hbr
        have hS6 := hS3.below hbr
        refine wp_region_quiet_lit (by kernel_rfl) (by kernel_rfl) ?_
        repeat (first | ((with_reducible refine wpQD_idx 0 E_ints F_int cInt1 (by with_unfolding_all rfl) (by with_unfolding_all rfl) (hS5) (by first | omega | (simp; done)) (by first | omega | (simp; done)) (fun _ => by with_unfolding_all rfl) (fun _ => ?_)); (try simp only [Act.put, List.setIfInBounds_toArray, List.set_cons_zero, List.set_cons_succ]); (try simp only [cInt])) | ((with_reducible refine wpQD_idxN 0 E_ints F_int cInt1 (by with_unfolding_all rfl) (by with_unfolding_all rfl) (hS6) (HL.out) (by first | omega | (simp; done)) (by first | omega | (simp; done)) (fun _ => by with_unfolding_all rfl) (fun _ => ?_)); (try simp only [Act.put, List.setIfInBounds_toArray, List.set_cons_zero, List.set_cons_succ]); (try simp only [cInt])) | quiet_step (fail))
        refine wpQuiet_nil ?_
        intro w5 hb5
        replace hb5 := below_drewN hb5
        have b5 := bnext hbr hb5
        go_wp2_with fail
        · have hd : (!((atD 0 l k == 0) == (atD 0 t k == 0))) = true := by assumption
          have hs0 : sameB (atD 0 l k) (atD 0 t k) = false := by
            revert hd; unfold sameB; cases (atD 0 l k == 0) <;> cases (atD 0 t k == 0) <;> simp
          have hst := HST.out
          rw [hs0, Bool.false_and] at hst
          have hr := HR3.out
          simp [hst] at hr
          go_ret
          exact ⟨by rw [hr]; rfl, bnext b3 b5⟩
        · have hd : (!((atD 0 l k == 0) == (atD 0 t k == 0))) = false := by assumption
          have hs0 : sameB (atD 0 l k) (atD 0 t k) = true := by
            revert hd; unfold sameB; cases (atD 0 l k == 0) <;> cases (atD 0 t k == 0) <;> simp
          have hst := HST.out
          rw [hs0, Bool.true_and] at hst
          exact ⟨⟨k + 1, by omega, by go_num, hst.symm, b5⟩, by simp [intOf]; omega⟩
      · have : k = l.length := by omega
        subst this
        rw [Nat.sub_self, shapeGo] at hsh
        have hr := HR3.out
        rw [← hsh, if_pos rfl] at hr
        have HRR := hid hr
        clear hr hsh
        go_wp2_with fail
        go_ret
        exact ⟨by rw [HRR.out]; rfl, bnext b3 hbr⟩
  · have h0 : 0 < aside.length := by cases aside <;> simp_all
    have hr := HR.out
    rw [if_pos has] at hr
    clear has
    have HRR := hid hr; clear hr
    go_wp2_with fail
    go_ret
    exact ⟨by rw [HRR.out]; rfl, b3⟩

theorem rfind_any (x : Int) (a : Option Addr) (cap : Nat) (l : List Int) (w : World) (hS : Ints w a cap l) (hl : l.length ≤ 1048576) (K : Nat) (hK : K < l.length) (hat : atD 0 l K = x) (hno : ∀ j : Nat, j < K → atD 0 l j ≠ x) :
    Calls Tryz.prog 64 #[.slice a l.length cap, .int .i64 x] w fun r w' => r = .returned (.int .i64 K) ∧ Below w.heap.size w w' := by
  have hcap := hS.le
  have hm := hS.max
  have HN := hid hno; have HA := hid hat
  clear hno hat
  go_enter Tryz.func64, Tryz.ntmps64
  go_wp2_with fail
  go_loopw [5] (fun i wr => ∃ k : Nat, k ≤ K ∧ i = .int .i64 k ∧ Below w.heap.size w wr) (fun i _ => l.length - (intOf i).toNat)
  case atStart => exact ⟨0, by omega, rfl, Below.refl _ _⟩
  case round =>
    obtain ⟨k, hk, rfl, hbr⟩ := hrel
    have hSr := hS.below hbr
    have hlt : k < l.length := by omega
    by_cases e : k = K
    · subst e
      have d : (atD 0 l k == x) = true := by simpa using HA.out
      go_wp2_with (with_reducible refine wpList_idx _ 0 E_ints F_int cInt1 (by with_unfolding_all rfl) (by with_unfolding_all rfl) (hSr) (by first | omega | (simp; done)) (by first | omega | (simp; done)) (fun _ => by with_unfolding_all rfl) (fun _ => ?_))
      go_ret
      exact ⟨rfl, hbr⟩
    · have d : (atD 0 l k == x) = false := by simpa using HN.out k (by omega)
      have hkK : k < K := by omega
      go_wp2_with (with_reducible refine wpList_idx _ 0 E_ints F_int cInt1 (by with_unfolding_all rfl) (by with_unfolding_all rfl) (hSr) (by first | omega | (simp; done)) (by first | omega | (simp; done)) (fun _ => by with_unfolding_all rfl) (fun _ => ?_))
      exact ⟨⟨k + 1, by omega, by go_num, hbr⟩, by simp [intOf]; omega⟩

/-- the first slots of the permutation, the rest as it was. -/
def permI (p : List Int) (k : Nat) : List Int := (List.range p.length).map fun (j : Nat) => if j < k then atD 0 p j else (j : Int)
theorem permI_len (p : List Int) (k : Nat) : (permI p k).length = p.length := by simp [permI]
theorem permI_at {p : List Int} {k : Nat} {j : Int} (h0 : 0 ≤ j) (h1 : j < p.length) : atD 0 (permI p k) j = if j < k then atD 0 p j else j := by
  unfold permI atD
  rw [List.getD_eq_getElem?_getD, List.getElem?_map, List.getElem?_range (by omega)]
  by_cases h : j < k
  · rw [if_pos h]; simp [show j.toNat < k by omega]
  · rw [if_neg h]; simp [show ¬ j.toNat < k by omega]; omega
theorem permI_zero (p : List Int) : permI p 0 = idL p.length := by unfold permI idL; simp
theorem permI_all (p : List Int) : permI p p.length = p := by
  refine ext_atD (permI_len _ _) (fun j j0 j1 => ?_)
  rw [permI_len] at j1
  rw [permI_at j0 j1, if_pos j1]
theorem permI_set {p : List Int} {k : Nat} (hk : k < p.length) : (permI p k).set k (atD 0 p k) = permI p (k + 1) := by
  refine ext_atD (by rw [List.length_set, permI_len, permI_len]) (fun j j0 j1 => ?_)
  rw [List.length_set, permI_len] at j1
  have := atD_set (l := permI p k) (i := (k : Int)) (x := atD 0 p k) (j := j) (by omega) (by rw [permI_len]; omega) j0
  rw [Int.toNat_natCast] at this
  rw [this, permI_at j0 j1, permI_at j0 j1]
  by_cases e : j = k
  · subst e; rw [if_pos rfl, if_pos (by omega)]
  · rw [if_neg e]
    by_cases h : j < k
    · rw [if_pos h, if_pos (by omega)]
    · rw [if_neg h, if_neg (by omega)]
theorem permI_stay {p : List Int} {k : Nat} (hk : k < p.length) (h : atD 0 p k = k) : permI p k = permI p (k + 1) := by
  rw [← permI_set hk, h]
  refine ext_atD (by rw [List.length_set]) (fun j j0 j1 => ?_)
  rw [permI_len] at j1
  have := atD_set (l := permI p k) (i := (k : Int)) (x := (k : Int)) (j := j) (by omega) (by rw [permI_len]; omega) j0
  rw [Int.toNat_natCast] at this
  rw [this, permI_at j0 j1]
  by_cases e : j = k
  · subst e; rw [if_pos rfl, if_neg (by omega)]
  · rw [if_neg e]

theorem rRound_any (a a2 : Option Addr) (cap cap2 : Nat) (l : List Int) (ms : List (Int × Int)) (w : World) (hS : Ints w a cap l) (hM : Pairs w a2 cap2 ms) (h : roundE l ms = 0) (hms : ms.length ≤ 1048576) :
    Calls Tryz.prog 21 #[.slice a l.length cap, .slice a2 ms.length cap2] w fun r w' => ∃ v, r = .returned v ∧ OwnI w.heap.size w' v (RoundL l ms) ∧ Below w.heap.size w w' := by
  have hP := round_p h
  have hcap := hS.le
  have hm := hS.max
  have hcap2 := hM.le
  have hm2 := hM.max
  have hsz := hP.st.lo
  have hsz2 := hP.st.hi
  have CR := fun w (hS : Ints w a cap l) (hM : Pairs w a2 cap2 ms) => rReplayB_any a a2 cap cap2 l ms w hS hM (by omega) (by omega) hms
  have CI := fun w => rIdentity_any l.length w (by omega)
  rw [okAll_run hP.ok] at CR
  obtain ⟨t, ht⟩ : ∃ t, t = runL l ms := ⟨_, rfl⟩
  have htl : t.length = l.length := by rw [ht, runL_len]
  obtain ⟨p, hp⟩ : ∃ p, p = RoundL l ms := ⟨_, rfl⟩
  have hpl : p.length = l.length := by rw [hp]; exact hP.len
  have CF : ∀ (k : Nat), k < l.length → atD 0 l k ≠ 0 → ∀ (a : Option Addr) (cap : Nat) (w : World), Ints w a cap t →
      Calls Tryz.prog 64 #[.slice a l.length cap, .int .i64 (atD 0 l k)] w fun r w' => r = .returned (.int .i64 (atD 0 p k)) ∧ Below w.heap.size w w' := by
    intro k hk hne a cap w hS
    have hr := hP.rng k (by omega) (by omega)
    have hmv := hP.mv k (by omega) (by omega) hne
    rw [← hp] at hr hmv
    have hat : ∀ j : Int, 0 ≤ j → j < l.length → atD 0 t j = atD 0 l (mvT ms j) := fun j a b => by rw [ht]; exact runL_at ms l hP.ok j a b
    have := rfind_any (atD 0 l k) a cap t w hS (by omega) (atD 0 p k).toNat (by omega) (by rw [Int.toNat_of_nonneg hr.1, hat _ hr.1 hr.2, hmv]) (by
      intro j hj e
      rw [hat j (by omega) (by omega)] at e
      have hj2 := mvT_rng ms l hP.ok j (by omega) (by omega)
      have e2 := hP.st.ne k _ (by omega) (by omega) hj2.1 hj2.2 hne e.symm
      rw [← hmv] at e2
      have := mvT_inj ms _ _ e2
      omega)
    rw [htl, Int.toNat_of_nonneg hr.1] at this
    exact this
  have hfr : ∀ k : Nat, k < l.length → atD 0 l k = 0 → atD 0 p k = k := fun k hk hz => by rw [hp]; exact hP.fr k (by omega) (by omega) hz
  have hz0 := permI_zero p
  have hza := permI_all p
  rw [hpl] at hz0 hza
  rw [← ht] at CR
  rw [← hp]
  have HCR := hid CR; have HCI := hid CI; have HCF := hid CF; have HFR := hid hfr; have HZ0 := hid hz0; have HZA := hid hza; have HPL := hid hpl; have HTL := hid htl
  clear CR CI CF hfr hz0 hza hpl htl ht hp hP h
  go_enter Tryz.func21, Tryz.ntmps21
  go_wp2_with fail
  refine (HCR.out w hS hM).mono ?_
  rintro e w3 ⟨a3, cap3, v3, rfl, hlen3, hS3, hA3, b3, hf3⟩
  obtain ⟨a4_, c4_, rfl, _⟩ := hA3.reps
  clear hA3 hlen3
  go_wp2_with fail
  refine (HCI.out w3).mono ?_
  rintro e w4 ⟨v4, rfl, ho4, b4⟩
  rw [← HZ0.out] at ho4
  have hSL0 := ((SL.nil w).newRd b3 hS3 (by decide) hf3).call (SL.ofOwn ho4 b4)
  obtain ⟨a5, c5, rfl, _⟩ := hSL0.slice 0 rfl
  rw [permI_len, HPL.out] at hSL0 ⊢
  clear ho4 b4 hS3 hf3
  go_wp2_with fail
  go_loopw [8] (fun i wr => ∃ k : Nat, k ≤ l.length ∧ i = .int .i64 k ∧ SL w.heap.size w wr [pOwn cInt 1 3 (.slice a5 l.length c5) (permI p k), pRd cInt 1 a3 cap3 t]) (fun i _ => l.length - (intOf i).toNat)
  case atStart => exact ⟨0, by omega, rfl, hSL0⟩
  case round =>
    clear hSL0
    obtain ⟨k, hk, rfl, hSL⟩ := hrel
    have hSr := hS.below hSL.b
    by_cases hlt : k < l.length
    · have hpk : k < p.length := by rw [HPL.out]; exact hlt
      have hst := permI_set hpk
      have hil := permI_len p k
      by_cases z : atD 0 l k = 0
      · have d : (atD 0 l k != 0) = false := by simpa using z
        have hsy := permI_stay hpk (HFR.out k hlt z)
        have HSY := hid hsy
        clear hst hil hsy z
        go_wp2_with (with_reducible refine wpList_idx _ 0 E_ints F_int cInt1 (by with_unfolding_all rfl) (by with_unfolding_all rfl) (hSr) (by first | omega | (simp; done)) (by first | omega | (simp; done)) (fun _ => by with_unfolding_all rfl) (fun _ => ?_))
        exact ⟨⟨k + 1, by omega, by go_num, by rw [← HSY.out]; exact hSL⟩, by simp [intOf]; omega⟩
      · have d : (atD 0 l k != 0) = true := by simpa using z
        have CF := HCF.out k hlt z
        have HF := hid CF; have HST := hid hst
        have hkp : (k : Int) < (permI p k).length := by rw [hil]; omega
        have hT := hSL.rdR 1 rfl
        clear CF hst hil z
        go_wp2_with (with_reducible refine wpList_idx _ 0 E_ints F_int cInt1 (by with_unfolding_all rfl) (by with_unfolding_all rfl) (hSr) (by first | omega | (simp; done)) (by first | omega | (simp; done)) (fun _ => by with_unfolding_all rfl) (fun _ => ?_))
        refine (HF.out a3 cap3 wr hT).mono ?_
        rintro e w5 ⟨rfl, b5⟩
        have hS5 := hSL.mono b5
        go_wp2_with ((with_reducible refine wpList_storeL (u := (atD 0 p k)) 0 E_ints cInt1 (sto_int) (by with_unfolding_all rfl) (by with_unfolding_all rfl) (hS5) (by with_unfolding_all rfl) (by first | omega | (simp; done) | (simp; omega)) (by first | omega | (simp; done) | (simp; omega)) (fun _ => by with_unfolding_all rfl) (fun _ => by with_unfolding_all rfl) ?_); intro _ w6 hS6)
        refine ⟨⟨k + 1, by omega, by go_num, ?_⟩, by simp [intOf]; omega⟩
        rw [← HST.out]
        exact hS6
    · have : k = l.length := by omega
      subst this
      rw [HZA.out] at hSL
      go_wp2_with fail
      go_ret
      exact ⟨_, rfl, hSL.own 0 rfl, hSL.b⟩
end Go.Proofs.YtmomeggnegcheaaGreatDoor
