/- Contracts of the reference: CheckRound, find, Round. Conditions: slices readable, stands without an error, sizes as stated. Contract of the reference: Spans. Conditions: slices readable, the stand without an error, all moves legal, sizes as stated. -/
import Derived.Test.YtmomeggnegcheaaGreatDoorCiA
import Derived.Test.YtmomeggnegcheaaGreatDoorRyA
import Derived.Test.YtmomeggnegcheaaGreatDoorRG
import Derived.Test.YtmomeggnegcheaaGreatDoorRoA
import Derived.Test.YtmomeggnegcheaaGreatDoorSlB
import Derived.Test.YtmomeggnegcheaaGreatDoorSpA
set_option linter.all false
/- Contracts of the reference: CheckRound, find, Round. Conditions: slices readable, stands without an error, sizes as stated. -/
namespace Go.Proofs.YtmomeggnegcheaaGreatDoor
open Go.RowKit
set_option maxHeartbeats 2000000
set_option maxRecDepth 100000

theorem rCheckRound_any (a a2 : Option Addr) (cap cap2 : Nat) (l : List Int) (ms : List (Int × Int)) (w : World) (hS : Ints w a cap l) (hM : Pairs w a2 cap2 ms) (hc : checkStand l = 0) (hn : manyE ms.length = 0) (hms : ms.length ≤ 1048576) :
    Calls Tryz.prog 18 #[.slice a l.length cap, .slice a2 ms.length cap2] w fun r w' => r = .returned (.int .i64 (roundE l ms)) ∧ Below w.heap.size w w' := by
  have hcap := hS.le
  have hm := hS.max
  have hcap2 := hM.le
  have hm2 := hM.max
  have hsz := (checkStand_zero hc).1
  have hsz2 := (checkStand_zero hc).2.1
  have CR := fun w (hS : Ints w a cap l) (hM : Pairs w a2 cap2 ms) => rReplay_any a a2 cap cap2 l ms w hS hM (by omega) (by omega) hms
  have hr : roundE l ms = if (replayL l ms).2 ≠ [] then 18 else if shapeGo l (replayL l ms).1 0 l.length then 0 else 19 := by simp [roundE, hc, hn]
  obtain ⟨t, ht⟩ : ∃ t, t = (replayL l ms).1 := ⟨_, rfl⟩
  obtain ⟨aside, hasd⟩ : ∃ t, t = (replayL l ms).2 := ⟨_, rfl⟩
  obtain ⟨E, hE⟩ : ∃ E, E = roundE l ms := ⟨_, rfl⟩
  rw [← ht, ← hasd, ← hE] at hr
  rw [← ht, ← hasd] at CR
  rw [← hE]
  have HCR := hid CR; have HR := hid hr
  clear CR hr ht hasd hE hc hn
  go_enter Tryz.func18, Tryz.ntmps18
  go_wp2_with fail
  refine (HCR.out w hS hM).mono ?_
  rintro e w3 ⟨a3, cap3, v3, rfl, hlen3, hS3, hA3, b3⟩
  obtain ⟨a4, cap4, rfl, hr4, _, _⟩ := hA3.reps
  have HL := hid hlen3; clear hlen3
  by_cases has : aside = []
  · subst has
    have hS4 := hS.below b3
    have hr := HR.out
    simp only [ne_eq, not_true, if_false] at hr
    have HR3 := hid hr; clear hr HR hA3
    go_wp2_with fail
    go_loopw [7] (fun i wr => ∃ k : Nat, k ≤ l.length ∧ i = .int .i64 k ∧ shapeGo l t k (l.length - k) = shapeGo l t 0 l.length ∧ Below w3.heap.size w3 wr) (fun i _ => l.length - (intOf i).toNat)
    case atStart => exact ⟨0, by omega, rfl, rfl, Below.refl _ _⟩
    case round =>
      obtain ⟨k, hk, rfl, hsh, hbr⟩ := hrel
      by_cases hlt : k < l.length
      · have hst : shapeGo l t k (l.length - k) = (sameB (atD 0 l k) (atD 0 t k) && shapeGo l t (k + 1) (l.length - (k + 1))) := by
          rw [show l.length - k = (l.length - (k + 1)) + 1 by omega, shapeGo]
        rw [hsh] at hst
        have HST := hid hst; clear hst
        have HSH := hid hsh; clear hsh
        have hx : (k : Int) < t.length := by rw [HL.out]; omega
        go_wp2_with fail
        have hS5 := hS4.below hbr
        have hS6 := hS3.below hbr
        refine wp_region_quiet_lit (by kernel_rfl) (by kernel_rfl) ?_
        repeat (first | ((with_reducible refine wpQD_idx 0 E_ints F_int cInt1 (by with_unfolding_all rfl) (by with_unfolding_all rfl) (hS5) (by first | omega | (simp; done)) (by first | omega | (simp; done)) (fun _ => by with_unfolding_all rfl) (fun _ => ?_)); (try simp only [Act.put, List.setIfInBounds_toArray, List.set_cons_zero, List.set_cons_succ]); (try simp only [cInt])) | ((with_reducible refine wpQD_idxN 0 E_ints F_int cInt1 (by with_unfolding_all rfl) (by with_unfolding_all rfl) (hS6) (HL.out) (by first | omega | (simp; done)) (by first | omega | (simp; done)) (fun _ => by with_unfolding_all rfl) (fun _ => ?_)); (try simp only [Act.put, List.setIfInBounds_toArray, List.set_cons_zero, List.set_cons_succ]); (try simp only [cInt])) | quiet_step (fail))
        refine wpQuiet_nil ?_
        intro w5 hb5
        replace hb5 := below_drewN hb5
        have b5 := bnext hbr hb5
        go_wp2_with fail
        · have hd : (!((atD 0 l k == 0) == (atD 0 t k == 0))) = true := by assumption
          have hs0 : sameB (atD 0 l k) (atD 0 t k) = false := by
            revert hd; unfold sameB; cases (atD 0 l k == 0) <;> cases (atD 0 t k == 0) <;> simp
          have hst := HST.out
          rw [hs0, Bool.false_and] at hst
          have hr := HR3.out
          simp [hst] at hr
          go_ret
          exact ⟨by rw [hr]; rfl, bnext b3 b5⟩
        · have hd : (!((atD 0 l k == 0) == (atD 0 t k == 0))) = false := by assumption
          have hs0 : sameB (atD 0 l k) (atD 0 t k) = true := by
            revert hd; unfold sameB; cases (atD 0 l k == 0) <;> cases (atD 0 t k == 0) <;> simp
          have hst := HST.out
          rw [hs0, Bool.true_and] at hst
          exact ⟨⟨k + 1, by omega, by go_num, hst.symm, b5⟩, by simp [intOf]; omega⟩
      · have : k = l.length := by omega
        subst this
        rw [Nat.sub_self, shapeGo] at hsh
        have hr := HR3.out
        rw [← hsh, if_pos rfl] at hr
        have HRR := hid hr
        clear hr hsh
        go_wp2_with fail
        go_ret
        exact ⟨by rw [HRR.out]; rfl, bnext b3 hbr⟩
  · have h0 : 0 < aside.length := by cases aside <;> simp_all
    have hr := HR.out
    rw [if_pos has] at hr
    clear has
    have HRR := hid hr; clear hr
    go_wp2_with fail
    go_ret
    exact ⟨by rw [HRR.out]; rfl, b3⟩

theorem rfind_any (x : Int) (a : Option Addr) (cap : Nat) (l : List Int) (w : World) (hS : Ints w a cap l) (hl : l.length ≤ 1048576) (K : Nat) (hK : K < l.length) (hat : atD 0 l K = x) (hno : ∀ j : Nat, j < K → atD 0 l j ≠ x) :
    Calls Tryz.prog 64 #[.slice a l.length cap, .int .i64 x] w fun r w' => r = .returned (.int .i64 K) ∧ Below w.heap.size w w' := by
  have hcap := hS.le
  have hm := hS.max
  have HN := hid hno; have HA := hid hat
  clear hno hat
  go_enter Tryz.func64, Tryz.ntmps64
  go_wp2_with fail
  go_loopw [5] (fun i wr => ∃ k : Nat, k ≤ K ∧ i = .int .i64 k ∧ Below w.heap.size w wr) (fun i _ => l.length - (intOf i).toNat)
  case atStart => exact ⟨0, by omega, rfl, Below.refl _ _⟩
  case round =>
    obtain ⟨k, hk, rfl, hbr⟩ := hrel
    have hSr := hS.below hbr
    have hlt : k < l.length := by omega
    by_cases e : k = K
    · subst e
      have d : (atD 0 l k == x) = true := by simpa using HA.out
      go_wp2_with (with_reducible refine wpList_idx _ 0 E_ints F_int cInt1 (by with_unfolding_all rfl) (by with_unfolding_all rfl) (hSr) (by first | omega | (simp; done)) (by first | omega | (simp; done)) (fun _ => by with_unfolding_all rfl) (fun _ => ?_))
      go_ret
      exact ⟨rfl, hbr⟩
    · have d : (atD 0 l k == x) = false := by simpa using HN.out k (by omega)
      have hkK : k < K := by omega
      go_wp2_with (with_reducible refine wpList_idx _ 0 E_ints F_int cInt1 (by with_unfolding_all rfl) (by with_unfolding_all rfl) (hSr) (by first | omega | (simp; done)) (by first | omega | (simp; done)) (fun _ => by with_unfolding_all rfl) (fun _ => ?_))
      exact ⟨⟨k + 1, by omega, by go_num, hbr⟩, by simp [intOf]; omega⟩

/-- the first slots of the permutation, the rest as it was. -/
def permI (p : List Int) (k : Nat) : List Int := (List.range p.length).map fun (j : Nat) => if j < k then atD 0 p j else (j : Int)
theorem permI_len (p : List Int) (k : Nat) : (permI p k).length = p.length := by simp [permI]
theorem permI_at {p : List Int} {k : Nat} {j : Int} (h0 : 0 ≤ j) (h1 : j < p.length) : atD 0 (permI p k) j = if j < k then atD 0 p j else j := by
  unfold permI atD
  rw [List.getD_eq_getElem?_getD, List.getElem?_map, List.getElem?_range (by omega)]
  by_cases h : j < k
  · rw [if_pos h]; simp [show j.toNat < k by omega]
  · rw [if_neg h]; simp [show ¬ j.toNat < k by omega]; omega
theorem permI_zero (p : List Int) : permI p 0 = idL p.length := by unfold permI idL; simp
theorem permI_all (p : List Int) : permI p p.length = p := by
  refine ext_atD (permI_len _ _) (fun j j0 j1 => ?_)
  rw [permI_len] at j1
  rw [permI_at j0 j1, if_pos j1]
theorem permI_set {p : List Int} {k : Nat} (hk : k < p.length) : (permI p k).set k (atD 0 p k) = permI p (k + 1) := by
  refine ext_atD (by rw [List.length_set, permI_len, permI_len]) (fun j j0 j1 => ?_)
  rw [List.length_set, permI_len] at j1
  have := atD_set (l := permI p k) (i := (k : Int)) (x := atD 0 p k) (j := j) (by omega) (by rw [permI_len]; omega) j0
  rw [Int.toNat_natCast] at this
  rw [this, permI_at j0 j1, permI_at j0 j1]
  by_cases e : j = k
  · subst e; rw [if_pos rfl, if_pos (by omega)]
  · rw [if_neg e]
    by_cases h : j < k
    · rw [if_pos h, if_pos (by omega)]
    · rw [if_neg h, if_neg (by omega)]
theorem permI_stay {p : List Int} {k : Nat} (hk : k < p.length) (h : atD 0 p k = k) : permI p k = permI p (k + 1) := by
  rw [← permI_set hk, h]
  refine ext_atD (by rw [List.length_set]) (fun j j0 j1 => ?_)
  rw [permI_len] at j1
  have := atD_set (l := permI p k) (i := (k : Int)) (x := (k : Int)) (j := j) (by omega) (by rw [permI_len]; omega) j0
  rw [Int.toNat_natCast] at this
  rw [this, permI_at j0 j1]
  by_cases e : j = k
  · subst e; rw [if_pos rfl, if_neg (by omega)]
  · rw [if_neg e]

theorem rRound_any (a a2 : Option Addr) (cap cap2 : Nat) (l : List Int) (ms : List (Int × Int)) (w : World) (hS : Ints w a cap l) (hM : Pairs w a2 cap2 ms) (h : roundE l ms = 0) (hms : ms.length ≤ 1048576) :
    Calls Tryz.prog 21 #[.slice a l.length cap, .slice a2 ms.length cap2] w fun r w' => ∃ v, r = .returned v ∧ OwnI w.heap.size w' v (RoundL l ms) ∧ Below w.heap.size w w' := by
  have hP := round_p h
  have hcap := hS.le
  have hm := hS.max
  have hcap2 := hM.le
  have hm2 := hM.max
  have hsz := hP.st.lo
  have hsz2 := hP.st.hi
  have CR := fun w (hS : Ints w a cap l) (hM : Pairs w a2 cap2 ms) => rReplayB_any a a2 cap cap2 l ms w hS hM (by omega) (by omega) hms
  have CI := fun w => rIdentity_any l.length w (by omega)
  rw [okAll_run hP.ok] at CR
  obtain ⟨t, ht⟩ : ∃ t, t = runL l ms := ⟨_, rfl⟩
  have htl : t.length = l.length := by rw [ht, runL_len]
  obtain ⟨p, hp⟩ : ∃ p, p = RoundL l ms := ⟨_, rfl⟩
  have hpl : p.length = l.length := by rw [hp]; exact hP.len
  have CF : ∀ (k : Nat), k < l.length → atD 0 l k ≠ 0 → ∀ (a : Option Addr) (cap : Nat) (w : World), Ints w a cap t →
      Calls Tryz.prog 64 #[.slice a l.length cap, .int .i64 (atD 0 l k)] w fun r w' => r = .returned (.int .i64 (atD 0 p k)) ∧ Below w.heap.size w w' := by
    intro k hk hne a cap w hS
    have hr := hP.rng k (by omega) (by omega)
    have hmv := hP.mv k (by omega) (by omega) hne
    rw [← hp] at hr hmv
    have hat : ∀ j : Int, 0 ≤ j → j < l.length → atD 0 t j = atD 0 l (mvT ms j) := fun j a b => by rw [ht]; exact runL_at ms l hP.ok j a b
    have := rfind_any (atD 0 l k) a cap t w hS (by omega) (atD 0 p k).toNat (by omega) (by rw [Int.toNat_of_nonneg hr.1, hat _ hr.1 hr.2, hmv]) (by
      intro j hj e
      rw [hat j (by omega) (by omega)] at e
      have hj2 := mvT_rng ms l hP.ok j (by omega) (by omega)
      have e2 := hP.st.ne k _ (by omega) (by omega) hj2.1 hj2.2 hne e.symm
      rw [← hmv] at e2
      have := mvT_inj ms _ _ e2
      omega)
    rw [htl, Int.toNat_of_nonneg hr.1] at this
    exact this
  have hfr : ∀ k : Nat, k < l.length → atD 0 l k = 0 → atD 0 p k = k := fun k hk hz => by rw [hp]; exact hP.fr k (by omega) (by omega) hz
  have hz0 := permI_zero p
  have hza := permI_all p
  rw [hpl] at hz0 hza
  rw [← ht] at CR
  rw [← hp]
  have HCR := hid CR; have HCI := hid CI; have HCF := hid CF; have HFR := hid hfr; have HZ0 := hid hz0; have HZA := hid hza; have HPL := hid hpl; have HTL := hid htl
  clear CR CI CF hfr hz0 hza hpl htl ht hp hP h
  go_enter Tryz.func21, Tryz.ntmps21
  go_wp2_with fail
  refine (HCR.out w hS hM).mono ?_
  rintro e w3 ⟨a3, cap3, v3, rfl, hlen3, hS3, hA3, b3, hf3⟩
  obtain ⟨a4_, c4_, rfl, _⟩ := hA3.reps
  clear hA3 hlen3
  go_wp2_with fail
  refine (HCI.out w3).mono ?_
  rintro e w4 ⟨v4, rfl, ho4, b4⟩
  rw [← HZ0.out] at ho4
  have hSL0 := ((SL.nil w).newRd b3 hS3 (by decide) hf3).call (SL.ofOwn ho4 b4)
  obtain ⟨a5, c5, rfl, _⟩ := hSL0.slice 0 rfl
  rw [permI_len, HPL.out] at hSL0 ⊢
  clear ho4 b4 hS3 hf3
  go_wp2_with fail
  go_loopw [8] (fun i wr => ∃ k : Nat, k ≤ l.length ∧ i = .int .i64 k ∧ SL w.heap.size w wr [pOwn cInt 1 3 (.slice a5 l.length c5) (permI p k), pRd cInt 1 a3 cap3 t]) (fun i _ => l.length - (intOf i).toNat)
  case atStart => exact ⟨0, by omega, rfl, hSL0⟩
  case round =>
    clear hSL0
    obtain ⟨k, hk, rfl, hSL⟩ := hrel
    have hSr := hS.below hSL.b
    by_cases hlt : k < l.length
    · have hpk : k < p.length := by rw [HPL.out]; exact hlt
      have hst := permI_set hpk
      have hil := permI_len p k
      by_cases z : atD 0 l k = 0
      · have d : (atD 0 l k != 0) = false := by simpa using z
        have hsy := permI_stay hpk (HFR.out k hlt z)
        have HSY := hid hsy
        clear hst hil hsy z
        go_wp2_with (with_reducible refine wpList_idx _ 0 E_ints F_int cInt1 (by with_unfolding_all rfl) (by with_unfolding_all rfl) (hSr) (by first | omega | (simp; done)) (by first | omega | (simp; done)) (fun _ => by with_unfolding_all rfl) (fun _ => ?_))
        exact ⟨⟨k + 1, by omega, by go_num, by rw [← HSY.out]; exact hSL⟩, by simp [intOf]; omega⟩
      · have d : (atD 0 l k != 0) = true := by simpa using z
        have CF := HCF.out k hlt z
        have HF := hid CF; have HST := hid hst
        have hkp : (k : Int) < (permI p k).length := by rw [hil]; omega
        have hT := hSL.rdR 1 rfl
        clear CF hst hil z
        go_wp2_with (with_reducible refine wpList_idx _ 0 E_ints F_int cInt1 (by with_unfolding_all rfl) (by with_unfolding_all rfl) (hSr) (by first | omega | (simp; done)) (by first | omega | (simp; done)) (fun _ => by with_unfolding_all rfl) (fun _ => ?_))
        refine (HF.out a3 cap3 wr hT).mono ?_
        rintro e w5 ⟨rfl, b5⟩
        have hS5 := hSL.mono b5
        go_wp2_with ((with_reducible refine wpList_storeL (u := (atD 0 p k)) 0 E_ints cInt1 (sto_int) (by with_unfolding_all rfl) (by with_unfolding_all rfl) (hS5) (by with_unfolding_all rfl) (by first | omega | (simp; done) | (simp; omega)) (by first | omega | (simp; done) | (simp; omega)) (fun _ => by with_unfolding_all rfl) (fun _ => by with_unfolding_all rfl) ?_); intro _ w6 hS6)
        refine ⟨⟨k + 1, by omega, by go_num, ?_⟩, by simp [intOf]; omega⟩
        rw [← HST.out]
        exact hS6
    · have : k = l.length := by omega
      subst this
      rw [HZA.out] at hSL
      go_wp2_with fail
      go_ret
      exact ⟨_, rfl, hSL.own 0 rfl, hSL.b⟩
end Go.Proofs.YtmomeggnegcheaaGreatDoor

/- Contract of the reference: Spans. Conditions: slices readable, the stand without an error, all moves legal, sizes as stated. -/
namespace Go.Proofs.YtmomeggnegcheaaGreatDoor
open Go.RowKit
set_option maxHeartbeats 2000000
set_option maxRecDepth 100000

section
variable {P : Program} {ops : Array Oper} {rest : List Oper} {a : Act} {Qa : Act → Prop} {α : Type} {c : α → Value} {sz bytes : Nat} {t e t2 e2 : TypeId} {z : Value} {ad : Option Addr} {cap : Nat} {l : List α} {k : Int} {w : World}
  {d1 d2 d3 : Tmp} {ty1 ty2 ty3 : TypeId} {p1 p2 p3 : String} {s x : Operand} {af1 af2 af3 : Array Edge} {j : Nat}
/-- one field of an element, read in a quiet region. -/
theorem wpQD_fld (d : α) (v : Value) (E : ETy P t e z sz bytes) (hF : Flat P e2)
   (hf : ∀ (b o : Nat) (w' : World), (Instr.fieldAt t2 (.pointer (some ⟨b, o, none⟩)) j).run P w' = .ok (.pointer (some ⟨b, o + j, none⟩)) w')
   (hs : a.eval s = .slice ad l.length cap) (hx : a.eval x = .int .i64 k) (hR : Reps c sz w ad cap l) (h0 : 0 ≤ k) (hlt : k < l.length)
   (hv : (c (atD d l k)).cells.toList[j]? = some v) (hd : ∀ p, (a.put (some d1) p).eval (.tmp d1) = p) (hd2 : ∀ p q, ((a.put (some d1) p).put (some d2) q).eval (.tmp d2) = q)
   (hK : ∀ p q, wpQuiet P ops (fun w' => ∃ n, w' = w.drewN n) Qa rest (((a.put (some d1) p).put (some d2) q).put (some d3) v)) :
   wpQuiet P ops (fun w' => ∃ n, w' = w.drewN n) Qa (⟨some d1, .indexAddr t s x, ty1, p1, af1, none⟩ :: ⟨some d2, .fieldAddr t2 (.tmp d1) j, ty2, p2, af2, none⟩ :: ⟨some d3, .load e2 (.tmp d2), ty3, p3, af3, none⟩ :: rest) a := by
  have hkl : k.toNat < l.length := by omega
  obtain ⟨b, o, rfl, hcs⟩ := hR.cells E.pos d k.toNat hkl
  have hcell := hcs j v hv
  have hadd : (⟨b, o, none⟩ : Addr).add (k.toNat * sz) = ⟨b, o + k.toNat * sz, none⟩ := Addr.add_z ..
  refine wpQ_in (.pointer (some ((⟨b, o, none⟩ : Addr).add (k.toNat * sz)))) rfl (fun w' hw' => ?_) (wpQ_in (.pointer (some ⟨b, o + k.toNat * sz + j, none⟩)) rfl (fun w' hw' => ?_) (wpQ_in v rfl (fun w' hw' => ?_) (hK _ _)))
  · have h1 := run_indexAt_sl (P := P) (a := ⟨b, o, none⟩) (cap := cap) w' E h0 hlt
    simp [execOp, hs, hx, h1, Result.andThen]
  · have h1 := hf b (o + k.toNat * sz) w'
    rw [← hadd] at h1
    simp only [execOp, hd]
    rw [hadd] at h1 ⊢
    simp [h1, Result.andThen]
  · have h2 := run_loadAt_cell (P := P) w' (a := (⟨b, o + k.toNat * sz + j, none⟩ : Addr)) (v := v) hF (by
      have hb := below_drewN hw'
      exact (hb.cell (World.block_lt_of_cell? w _ hcell)).trans hcell)
    simp [execOp, hd2, h2, Result.andThen]
theorem wpList_fld {Q : Exit → Act → World → Prop} (d : α) (v : Value) (E : ETy P t e z sz bytes) (hF : Flat P e2)
   (hf : ∀ (b o : Nat) (w' : World), (Instr.fieldAt t2 (.pointer (some ⟨b, o, none⟩)) j).run P w' = .ok (.pointer (some ⟨b, o + j, none⟩)) w')
   (hs : a.eval s = .slice ad l.length cap) (hx : a.eval x = .int .i64 k) (hR : Reps c sz w ad cap l) (h0 : 0 ≤ k) (hlt : k < l.length)
   (hv : (c (atD d l k)).cells.toList[j]? = some v) (hd : ∀ p, (a.put (some d1) p).eval (.tmp d1) = p) (hd2 : ∀ p q, ((a.put (some d1) p).put (some d2) q).eval (.tmp d2) = q)
   (hK : ∀ p q, wpList P ops Q rest (((a.put (some d1) p).put (some d2) q).put (some d3) v) w) :
   wpList P ops Q (⟨some d1, .indexAddr t s x, ty1, p1, af1, none⟩ :: ⟨some d2, .fieldAddr t2 (.tmp d1) j, ty2, p2, af2, none⟩ :: ⟨some d3, .load e2 (.tmp d2), ty3, p3, af3, none⟩ :: rest) a w := by
  have hkl : k.toNat < l.length := by omega
  obtain ⟨b, o, rfl, hcs⟩ := hR.cells E.pos d k.toNat hkl
  have hcell := hcs j v hv
  have hadd : (⟨b, o, none⟩ : Addr).add (k.toNat * sz) = ⟨b, o + k.toNat * sz, none⟩ := Addr.add_z ..
  have h1 := run_indexAt_sl (P := P) (a := ⟨b, o, none⟩) (cap := cap) w E h0 hlt
  have h2 := hf b (o + k.toNat * sz) w
  have h3 := run_loadAt_cell (P := P) w (a := (⟨b, o + k.toNat * sz + j, none⟩ : Addr)) (v := v) hF hcell
  rw [hadd] at h1
  refine wpList_step fun K hK' => ?_
  rw [if_pos (by simp [Region.wanted])]
  unfold Oper.wp
  simp only [execOp, hs, hx]
  simp [h1, Result.andThen]
  refine hK' _ _ (wpList_step fun K2 hK2 => ?_)
  rw [if_pos (by simp [Region.wanted])]
  unfold Oper.wp
  simp only [execOp, hd]
  simp [h2, Result.andThen]
  refine hK2 _ _ (wpList_step fun K3 hK3 => ?_)
  rw [if_pos (by simp [Region.wanted])]
  unfold Oper.wp
  simp only [execOp, hd2]
  simp [h3, Result.andThen]
  exact hK3 _ _ (hK _ _)
end
theorem fld_rmove0 (b o : Nat) (w' : World) : (Instr.fieldAt 52 (.pointer (some ⟨b, o, none⟩)) 0).run Tryz.prog w' = .ok (.pointer (some ⟨b, o + 0, none⟩)) w' := by
  simp [go_sem, Tryz.underlying52]
theorem fld_rmove1 (b o : Nat) (w' : World) : (Instr.fieldAt 52 (.pointer (some ⟨b, o, none⟩)) 1).run Tryz.prog w' = .ok (.pointer (some ⟨b, o + 1, none⟩)) w' := by
  simp [go_sem, Tryz.underlying52]

/-- the inner loop's condition and place. -/
theorem sp_far {n : Nat} (f t : Int) (hn : 0 < n) (hf0 : 0 ≤ f) (hf1 : f < n) (ht0 : 0 ≤ t) (ht1 : t < n) : (t - f + n).tmod n = spFar n f t := by
  rw [Int.tmod_eq_emod_of_nonneg (by omega)]
  unfold spFar
  rw [Int.add_emod_right]
theorem spFar_rng {n : Nat} (f t : Int) (hn : 0 < n) : 0 ≤ spFar n f t ∧ spFar n f t < n := ⟨Int.emod_nonneg _ (by omega), Int.emod_lt_of_pos _ (by omega)⟩
theorem spLen_rng {n : Nat} (f t : Int) (hn : 0 < n) : 0 ≤ spLen n f t ∧ spLen n f t < n := by
  have := spFar_rng f t hn
  unfold spLen; split <;> omega
/-- the spans so far, all moves being legal. -/
theorem rSpans_any (a a2 : Option Addr) (cap cap2 : Nat) (l : List Int) (ms : List (Int × Int)) (w : World) (hS : Ints w a cap l) (hM : Pairs w a2 cap2 ms) (hl0 : 0 < l.length) (hl : l.length ≤ 64) (hms : ms.length ≤ 1000) (hok : (spansGo l ms []).2 = true) :
    Calls Tryz.prog 19 #[.slice a l.length cap, .slice a2 ms.length cap2] w fun r w' => ∃ v, r = .returned v ∧ OwnI w.heap.size w' v (spansGo l ms []).1 ∧ Below w.heap.size w w' := by
  have hcap := hS.le
  have hm := hS.max
  have hcap2 := hM.le
  have hm2 := hM.max
  have HOK := hid hok; clear hok
  have HL64 := hid hl
  go_enter Tryz.func19, Tryz.ntmps19
  go_wp2_with fail
  go_loopw [0, 5, 7, 8, 9, 10, 11, 12] (fun v0 v5 i _ _ _ _ _ wr => ∃ (k : Nat) (s acc : List Int) (a0 : Option Addr) (cap0 : Nat), k ≤ ms.length ∧ i = .int .i64 k ∧ v0 = .slice a0 l.length cap0 ∧ s.length = l.length ∧ acc.length = k ∧
      SL w.heap.size w wr [pSrc cInt 1 3 w (.slice a0 l.length cap0) s, pOwn cInt 1 3 v5 acc] ∧ spansGo s (ms.drop k) acc = spansGo l ms []) (fun _ _ i _ _ _ _ _ _ => ms.length - (intOf i).toNat)
  case atStart => exact ⟨0, l, [], a, cap, by omega, rfl, rfl, rfl, rfl, ((SL.nil w).nilS (α := Int) (e := 3) cIntS).newSrc hS, rfl⟩
  case round =>
    obtain ⟨k, s, acc, a0, cap0, hk, rfl, rfl, hsl, hal, hSL, hgo⟩ := hrel
    by_cases hlt : k < ms.length
    · have hstep := spansGo_step s ms k acc hlt
      rw [hgo] at hstep
      have hleg : legalN s (atD (0, 0) ms k).1 (atD (0, 0) ms k).2 = 0 := by
        have h := HOK.out
        rw [hstep] at h
        by_cases h1 : legalN s (atD (0, 0) ms k).1 (atD (0, 0) ms k).2 = 0
        · exact h1
        · rw [if_neg h1] at h; cases h
      rw [if_pos hleg] at hstep
      obtain ⟨hf0, hf1, ht0, ht1, _, _⟩ := legalN_zero hleg
      obtain ⟨F, hF⟩ : ∃ F, F = (atD (0, 0) ms k).1 := ⟨_, rfl⟩
      obtain ⟨T, hT⟩ : ∃ T, T = (atD (0, 0) ms k).2 := ⟨_, rfl⟩
      have hcell : cPair (atD (0, 0) ms k) = .agg #[.int .i64 F, .int .i64 T] := by rw [hF, hT]; rfl
      have hv0 : (cPair (atD (0, 0) ms k)).cells.toList[0]? = some (.int .i64 F) := by rw [hcell]; rfl
      have hv1 : (cPair (atD (0, 0) ms k)).cells.toList[1]? = some (.int .i64 T) := by rw [hcell]; rfl
      rw [← hF, ← hT] at hstep
      rw [← hF] at hf0 hf1
      rw [← hT] at ht0 ht1
      have hsl' := hsl
      rw [hsl] at hf1 ht1 hstep
      obtain ⟨N, hN⟩ : ∃ N, N = l.length := ⟨_, rfl⟩
      have hMr := hM.below hSL.b
      have hfar := sp_far F T hl0 hf0 hf1 ht0 ht1
      have hfr := spFar_rng F T hl0
      obtain ⟨U, hU⟩ : ∃ U, U = spFar l.length F T := ⟨_, rfl⟩
      rw [← hU] at hfar hfr
      have hw1 : IntKind.i64.wrap (T - F) = T - F := IntWalk.i64_in _ (by omega)
      have hw2 : IntKind.i64.wrap (T - F + l.length) = T - F + l.length := IntWalk.i64_in _ (by omega)
      have hw3 : IntKind.i64.wrap U = U := IntWalk.i64_in _ (by omega)
      have hnz : ¬ l.length = 0 := by omega
      have hw4 : IntKind.i64.wrap ((l.length : Int) - U) = (l.length : Int) - U := IntWalk.i64_in _ (by omega)
      have HST := hid hstep; have HGO := hid hgo; have HSLN := hid hsl; have HAL := hid hal; have HF := hid hF; have HT := hid hT; have HCE := hid hcell; have HU := hid hU; have HLG := hid hleg
      clear hstep hgo hsl hal hF hT hcell hU hsl' hN hleg
      go_wp2_with fail
      refine wp_region_quiet_lit (by kernel_rfl) (by kernel_rfl) ?_
      repeat (first | (with_reducible refine wpQD_fld (0, 0) (.int .i64 T) E_rmoves F_int fld_rmove1 (by with_unfolding_all rfl) (by with_unfolding_all rfl) hMr (by omega) (by omega) hv1 (fun _ => by with_unfolding_all rfl) (fun _ _ => by with_unfolding_all rfl) (fun _ _ => ?_); (try simp only [Act.put, List.setIfInBounds_toArray, List.set_cons_zero, List.set_cons_succ])) | (with_reducible refine wpQD_fld (0, 0) (.int .i64 F) E_rmoves F_int fld_rmove0 (by with_unfolding_all rfl) (by with_unfolding_all rfl) hMr (by omega) (by omega) hv0 (fun _ => by with_unfolding_all rfl) (fun _ _ => by with_unfolding_all rfl) (fun _ _ => ?_); (try simp only [Act.put, List.setIfInBounds_toArray, List.set_cons_zero, List.set_cons_succ])) | quiet_step (fail))
      refine wpQuiet_nil ?_
      intro w5 hb5
      replace hb5 := below_drewN hb5
      have hSL5 := hSL.mono hb5
      have hM5 := hM.below hSL5.b
      clear hSL hMr
      by_cases hb : (l.length : Int) - U < U
      · have hA : spFrom l.length F T = T := by unfold spFrom; rw [← HU.out, if_pos hb]
        have hLn : (l.length : Int) - U = spLen l.length F T := by unfold spLen; rw [← HU.out, if_pos hb]
        have HA := hid hA; have HLN := hid hLn; clear hA hLn
        go_wp2_with (first | (with_reducible refine wpList_fld (0, 0) (.int .i64 T) E_rmoves F_int fld_rmove1 (by with_unfolding_all rfl) (by with_unfolding_all rfl) hM5 (by omega) (by omega) hv1 (fun _ => by with_unfolding_all rfl) (fun _ _ => by with_unfolding_all rfl) (fun _ _ => ?_); (try simp only [Act.put, List.setIfInBounds_toArray, List.set_cons_zero, List.set_cons_succ])) | (with_reducible refine wpList_fld (0, 0) (.int .i64 F) E_rmoves F_int fld_rmove0 (by with_unfolding_all rfl) (by with_unfolding_all rfl) hM5 (by omega) (by omega) hv0 (fun _ => by with_unfolding_all rfl) (fun _ _ => by with_unfolding_all rfl) (fun _ _ => ?_); (try simp only [Act.put, List.setIfInBounds_toArray, List.set_cons_zero, List.set_cons_succ])))
        have hlr : 0 ≤ ((l.length : Int) - U) ∧ ((l.length : Int) - U) < l.length := by omega
        have hN0 : ¬ l.length = 0 := by omega
        go_loopw [11, 12] (fun c i wq => ∃ j : Nat, c = .int .i64 (cntOf s (spUpto l.length hl0 F T j)) ∧ i = .int .i64 ((j : Int) + 1) ∧ (j = 0 ∨ (j : Int) + 1 ≤ ((l.length : Int) - U)) ∧ SL w.heap.size w wq [pSrc cInt 1 3 w (.slice a0 l.length cap0) s, pOwn cInt 1 3 u5 acc]) (fun _ i _ => l.length - (intOf i).toNat)
        case atStart => exact ⟨0, rfl, rfl, .inl rfl, hSL5⟩
        case round =>
          obtain ⟨j, rfl, rfl, hj, hq⟩ := hrel
          have hcb := cntOf_bd s (spUpto l.length hl0 F T j)
          rw [spUpto_len] at hcb
          by_cases hjl : (j : Int) + 1 < ((l.length : Int) - U)
          · have hj64 : (j : Int) ≤ 64 := by omega
            obtain ⟨X, hX⟩ : ∃ X, X = (T + ((j : Int) + 1)) % (l.length : Int) := ⟨_, rfl⟩
            have htm : (T + ((j : Int) + 1)).tmod l.length = X := by rw [hX, Int.tmod_eq_emod_of_nonneg (by omega)]
            have hx0 : 0 ≤ X := by rw [hX]; exact Int.emod_nonneg _ (by omega)
            have hx1 : X < l.length := by rw [hX]; exact Int.emod_lt_of_pos _ (by omega)
            have hsp : (spAt l.length hl0 F T j).1 = X := by show (spFrom l.length F T + ((j : Int) + 1)) % (l.length : Int) = X; rw [HA.out, hX]
            have hcn : cntOf s (spUpto l.length hl0 F T (j + 1)) = cntOf s (spUpto l.length hl0 F T j) + nz (atD 0 s X) := by rw [spUpto_succ, cntOf_snoc, hsp]
            have hwx : IntKind.i64.wrap X = X := IntWalk.i64_in _ (by omega)
            have hwa : IntKind.i64.wrap (T + ((j : Int) + 1)) = T + ((j : Int) + 1) := IntWalk.i64_in _ (by omega)
            obtain ⟨a', cap', e', hRs⟩ := hq.src 0 rfl
            have HCN := hid hcn; clear hcn hsp hX hj
            rw [HSLN.out] at e'
            cases e'
            by_cases hz : atD 0 s X = 0
            · have hzb : (atD 0 s X != 0) = false := by simp [hz]
              have HZ := hid hz; clear hz
              go_wp2_with (with_reducible refine wpList_idxN _ 0 E_ints F_int cInt1 (by with_unfolding_all rfl) (by with_unfolding_all rfl) (hRs) (HSLN.out) (by first | omega | (simp; done)) (by first | omega | (simp; done)) (fun _ => by with_unfolding_all rfl) (fun _ => ?_))
              exact ⟨⟨j + 1, by rw [HCN.out, HZ.out]; simp [nz], by go_num, .inr (by omega), hq⟩, by simp [intOf]; omega⟩
            · have hzb : (atD 0 s X != 0) = true := by simpa using hz
              have HZ := hid hz; clear hz
              have hwc : IntKind.i64.wrap (cntOf s (spUpto l.length hl0 F T j) + 1) = cntOf s (spUpto l.length hl0 F T j) + 1 := IntWalk.i64_in _ (by omega)
              go_wp2_with (with_reducible refine wpList_idxN _ 0 E_ints F_int cInt1 (by with_unfolding_all rfl) (by with_unfolding_all rfl) (hRs) (HSLN.out) (by first | omega | (simp; done)) (by first | omega | (simp; done)) (fun _ => by with_unfolding_all rfl) (fun _ => ?_))
              exact ⟨⟨j + 1, by rw [HCN.out]; simp [nz, HZ.out], by go_num, .inr (by omega), hq⟩, by simp [intOf]; omega⟩
          · have hjc : j = spCnt l.length F T := by unfold spCnt; rw [← HLN.out]; omega
            have hsn : cntOf s (spUpto l.length hl0 F T j) = spanN s l.length F T := by unfold spanN; rw [dif_pos hl0, hjc]
            obtain ⟨C, hC⟩ : ∃ C, C = cntOf s (spUpto l.length hl0 F T j) := ⟨_, rfl⟩
            rw [← hC] at hsn ⊢
            have HSN := hid hsn
            clear hsn hC hjc hcb
            have hac : acc.length ≤ 1000 := by rw [HAL.out]; omega
            go_wp2_with (first | (((with_reducible refine wpList_pushL (y := C) 1 E_ints (by with_unfolding_all rfl) (by with_unfolding_all rfl) (hq) (by with_unfolding_all rfl) cIntO ⟨rfl, rfl⟩ (by first | with_unfolding_all rfl | simp) (by with_unfolding_all rfl) (by first | omega | (simp; omega)) (by first | omega | (simp; omega)) ?_); intro v3 w3 hS3); have hM3 := hM.below hS3.b) | (with_reducible refine wpList_idxS _ (0, 0) E_rmoves F_rmove cPair1 (by with_unfolding_all rfl) (by with_unfolding_all rfl) (hM3) (by first | omega | (simp; done)) (by first | omega | (simp; done)) (fun _ => by with_unfolding_all rfl) (fun _ => ?_)))
            rw [← HF.out, ← HT.out]
            obtain ⟨a', cap', e', hRs⟩ := hS3.src 0 rfl
            rw [HSLN.out] at e'
            cases e'
            have hc := rNext_any F T a0 cap0 s w3 hRs (by rw [HSLN.out]; omega) hf0 (by rw [HSLN.out]; exact hf1) ht0 (by rw [HSLN.out]; exact ht1)
            rw [HSLN.out] at hc
            refine hc.mono ?_
            clear hc
            rintro e w4 ⟨v4, rfl, ho4, hb4⟩
            have hQ := hS3.call (SL.ofOwn ho4 hb4)
            obtain ⟨a6, cap6, rfl, _⟩ := hQ.slice 0 rfl
            have hR2 := hQ.weaken 0 rfl (pSrc cInt 1 3 w (.slice a6 (nextL s F T).length cap6) (nextL s F T)) (fun b hb => .inr hb)
            have hR3 := hR2.pick [0, 2] (by decide) [_, _] rfl
            have hnl : (nextL s F T).length = l.length := by rw [nextL_len, HSLN.out]
            rw [hnl] at hR3 ⊢
            have HNL := hid hnl; clear hnl
            go_wp2_with fail
            exact ⟨⟨k + 1, nextL s F T, acc ++ [C], a6, cap6, by omega, by go_num, rfl, HNL.out, by rw [List.length_append, HAL.out]; rfl, hR3, by rw [HSN.out]; exact HST.out.symm⟩, by simp [intOf]; omega⟩
      · have hA : spFrom l.length F T = F := by unfold spFrom; rw [← HU.out, if_neg hb]
        have hLn : U = spLen l.length F T := by unfold spLen; rw [← HU.out, if_neg hb]
        have HA := hid hA; have HLN := hid hLn; clear hA hLn
        go_wp2_with (first | (with_reducible refine wpList_fld (0, 0) (.int .i64 T) E_rmoves F_int fld_rmove1 (by with_unfolding_all rfl) (by with_unfolding_all rfl) hM5 (by omega) (by omega) hv1 (fun _ => by with_unfolding_all rfl) (fun _ _ => by with_unfolding_all rfl) (fun _ _ => ?_); (try simp only [Act.put, List.setIfInBounds_toArray, List.set_cons_zero, List.set_cons_succ])) | (with_reducible refine wpList_fld (0, 0) (.int .i64 F) E_rmoves F_int fld_rmove0 (by with_unfolding_all rfl) (by with_unfolding_all rfl) hM5 (by omega) (by omega) hv0 (fun _ => by with_unfolding_all rfl) (fun _ _ => by with_unfolding_all rfl) (fun _ _ => ?_); (try simp only [Act.put, List.setIfInBounds_toArray, List.set_cons_zero, List.set_cons_succ])))
        have hlr : 0 ≤ U ∧ U < l.length := by omega
        have hN0 : ¬ l.length = 0 := by omega
        go_loopw [11, 12] (fun c i wq => ∃ j : Nat, c = .int .i64 (cntOf s (spUpto l.length hl0 F T j)) ∧ i = .int .i64 ((j : Int) + 1) ∧ (j = 0 ∨ (j : Int) + 1 ≤ U) ∧ SL w.heap.size w wq [pSrc cInt 1 3 w (.slice a0 l.length cap0) s, pOwn cInt 1 3 u5 acc]) (fun _ i _ => l.length - (intOf i).toNat)
        case atStart => exact ⟨0, rfl, rfl, .inl rfl, hSL5⟩
        case round =>
          obtain ⟨j, rfl, rfl, hj, hq⟩ := hrel
          have hcb := cntOf_bd s (spUpto l.length hl0 F T j)
          rw [spUpto_len] at hcb
          by_cases hjl : (j : Int) + 1 < U
          · have hj64 : (j : Int) ≤ 64 := by omega
            obtain ⟨X, hX⟩ : ∃ X, X = (F + ((j : Int) + 1)) % (l.length : Int) := ⟨_, rfl⟩
            have htm : (F + ((j : Int) + 1)).tmod l.length = X := by rw [hX, Int.tmod_eq_emod_of_nonneg (by omega)]
            have hx0 : 0 ≤ X := by rw [hX]; exact Int.emod_nonneg _ (by omega)
            have hx1 : X < l.length := by rw [hX]; exact Int.emod_lt_of_pos _ (by omega)
            have hsp : (spAt l.length hl0 F T j).1 = X := by show (spFrom l.length F T + ((j : Int) + 1)) % (l.length : Int) = X; rw [HA.out, hX]
            have hcn : cntOf s (spUpto l.length hl0 F T (j + 1)) = cntOf s (spUpto l.length hl0 F T j) + nz (atD 0 s X) := by rw [spUpto_succ, cntOf_snoc, hsp]
            have hwx : IntKind.i64.wrap X = X := IntWalk.i64_in _ (by omega)
            have hwa : IntKind.i64.wrap (F + ((j : Int) + 1)) = F + ((j : Int) + 1) := IntWalk.i64_in _ (by omega)
            obtain ⟨a', cap', e', hRs⟩ := hq.src 0 rfl
            have HCN := hid hcn; clear hcn hsp hX hj
            rw [HSLN.out] at e'
            cases e'
            by_cases hz : atD 0 s X = 0
            · have hzb : (atD 0 s X != 0) = false := by simp [hz]
              have HZ := hid hz; clear hz
              go_wp2_with (with_reducible refine wpList_idxN _ 0 E_ints F_int cInt1 (by with_unfolding_all rfl) (by with_unfolding_all rfl) (hRs) (HSLN.out) (by first | omega | (simp; done)) (by first | omega | (simp; done)) (fun _ => by with_unfolding_all rfl) (fun _ => ?_))
              exact ⟨⟨j + 1, by rw [HCN.out, HZ.out]; simp [nz], by go_num, .inr (by omega), hq⟩, by simp [intOf]; omega⟩
            · have hzb : (atD 0 s X != 0) = true := by simpa using hz
              have HZ := hid hz; clear hz
              have hwc : IntKind.i64.wrap (cntOf s (spUpto l.length hl0 F T j) + 1) = cntOf s (spUpto l.length hl0 F T j) + 1 := IntWalk.i64_in _ (by omega)
              go_wp2_with (with_reducible refine wpList_idxN _ 0 E_ints F_int cInt1 (by with_unfolding_all rfl) (by with_unfolding_all rfl) (hRs) (HSLN.out) (by first | omega | (simp; done)) (by first | omega | (simp; done)) (fun _ => by with_unfolding_all rfl) (fun _ => ?_))
              exact ⟨⟨j + 1, by rw [HCN.out]; simp [nz, HZ.out], by go_num, .inr (by omega), hq⟩, by simp [intOf]; omega⟩
          · have hjc : j = spCnt l.length F T := by unfold spCnt; rw [← HLN.out]; omega
            have hsn : cntOf s (spUpto l.length hl0 F T j) = spanN s l.length F T := by unfold spanN; rw [dif_pos hl0, hjc]
            obtain ⟨C, hC⟩ : ∃ C, C = cntOf s (spUpto l.length hl0 F T j) := ⟨_, rfl⟩
            rw [← hC] at hsn ⊢
            have HSN := hid hsn
            clear hsn hC hjc hcb
            have hac : acc.length ≤ 1000 := by rw [HAL.out]; omega
            go_wp2_with (first | (((with_reducible refine wpList_pushL (y := C) 1 E_ints (by with_unfolding_all rfl) (by with_unfolding_all rfl) (hq) (by with_unfolding_all rfl) cIntO ⟨rfl, rfl⟩ (by first | with_unfolding_all rfl | simp) (by with_unfolding_all rfl) (by first | omega | (simp; omega)) (by first | omega | (simp; omega)) ?_); intro v3 w3 hS3); have hM3 := hM.below hS3.b) | (with_reducible refine wpList_idxS _ (0, 0) E_rmoves F_rmove cPair1 (by with_unfolding_all rfl) (by with_unfolding_all rfl) (hM3) (by first | omega | (simp; done)) (by first | omega | (simp; done)) (fun _ => by with_unfolding_all rfl) (fun _ => ?_)))
            rw [← HF.out, ← HT.out]
            obtain ⟨a', cap', e', hRs⟩ := hS3.src 0 rfl
            rw [HSLN.out] at e'
            cases e'
            have hc := rNext_any F T a0 cap0 s w3 hRs (by rw [HSLN.out]; omega) hf0 (by rw [HSLN.out]; exact hf1) ht0 (by rw [HSLN.out]; exact ht1)
            rw [HSLN.out] at hc
            refine hc.mono ?_
            clear hc
            rintro e w4 ⟨v4, rfl, ho4, hb4⟩
            have hQ := hS3.call (SL.ofOwn ho4 hb4)
            obtain ⟨a6, cap6, rfl, _⟩ := hQ.slice 0 rfl
            have hR2 := hQ.weaken 0 rfl (pSrc cInt 1 3 w (.slice a6 (nextL s F T).length cap6) (nextL s F T)) (fun b hb => .inr hb)
            have hR3 := hR2.pick [0, 2] (by decide) [_, _] rfl
            have hnl : (nextL s F T).length = l.length := by rw [nextL_len, HSLN.out]
            rw [hnl] at hR3 ⊢
            have HNL := hid hnl; clear hnl
            go_wp2_with fail
            exact ⟨⟨k + 1, nextL s F T, acc ++ [C], a6, cap6, by omega, by go_num, rfl, HNL.out, by rw [List.length_append, HAL.out]; rfl, hR3, by rw [HSN.out]; exact HST.out.symm⟩, by simp [intOf]; omega⟩
    · have : k = ms.length := by omega
      subst this
      rw [List.drop_length, spansGo] at hgo
      have hfin : acc = (spansGo l ms []).1 := by rw [← hgo]
      have HFI := hid hfin; clear hfin hgo HOK
      go_wp2_with fail
      go_ret
      exact ⟨_, rfl, by rw [← HFI.out]; exact hSL.own 1 rfl, hSL.b⟩
end Go.Proofs.YtmomeggnegcheaaGreatDoor
