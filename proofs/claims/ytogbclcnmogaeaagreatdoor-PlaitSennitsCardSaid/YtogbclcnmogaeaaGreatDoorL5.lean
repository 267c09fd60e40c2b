/- Contract: PlaitSennits returns true. Condition: the slice can be read. -/
import Derived.Test.YtogbclcnmogaeaaGreatDoorSnB
import Derived.Test.YtogbclcnmogaeaaGreatDoorAwA
set_option linter.all false
namespace Go.Proofs.YtogbclcnmogaeaaGreatDoor
open Go.RowKit
set_option maxHeartbeats 4000000
set_option maxRecDepth 100000

theorem lettersAll_len5 {n : Int} (hn : n ≤ 12) : ∀ (l : List PassV), (∀ p ∈ l, passE n p = 0) → (lettersAll l).length ≤ 11 * l.length
  | [], _ => by simp [lettersAll]
  | p :: r, h => by
    have h1 := (passE_small hn (h p (by simp))).2.2.1
    have h2 := lettersAll_len5 hn r (fun q hq => h q (by simp [hq]))
    unfold lettersAll at h2 ⊢
    rw [List.flatMap_cons, List.length_append, lettersL_len, List.length_cons]
    omega
theorem PlaitSennits_any (n s : Int) (a : Option Addr) (cap : Nat) (l : List PassV) (w : World) (hS : PassesR w a cap l) :
    Calls Tryz.prog 7 #[.int .i64 n, .int .i64 s, .slice a l.length cap] w fun r w' => r = .returned (.bool true) ∧ Below w.heap.size w w' := by
  have hcap := hS.le
  have hm := hS.max
  have CSh := rShortPasses_any a cap l w hS
  cases hsh : shortPB l
  · rw [hsh] at CSh
    have HSh := hid CSh; clear CSh hsh
    go_enter Tryz.func7, Tryz.ntmps7
    go_wp2_with fail
    refine HSh.out.mono ?_
    rintro e w1 ⟨rfl, b1⟩
    go_wp2_with fail
    refine (awake_any _).mono ?_
    rintro e w' ⟨rfl, hb⟩
    go_wp2_with fail
    go_ret
    exact ⟨rfl, bnext b1 hb⟩
  rw [hsh] at CSh
  have hsl : l.length ≤ 1002 ∧ ∀ p ∈ l, p.way.size ≤ 20 := by
    simp only [shortPB, shortM, Bool.and_eq_true, Bool.or_eq_true, decide_eq_true_eq, List.all_eq_true] at hsh
    exact ⟨by omega, hsh.2⟩
  obtain ⟨hll, hww⟩ := hsl
  have hw : ∀ p ∈ l, p.way.size ≤ 1048576 := fun p hp => by have := hww p hp; omega
  have HSh := hid CSh
  clear hsh CSh hww
  by_cases hmid : 100 < s ∧ s ≤ 1000
  · obtain ⟨m1, m2⟩ := hmid
    clear hw
    go_enter Tryz.func7, Tryz.ntmps7
    go_wp2_with fail
    refine HSh.out.mono ?_
    rintro e w1 ⟨rfl, b1⟩
    go_wp2_with fail
    refine (awake_any _).mono ?_
    rintro e w' ⟨rfl, hb⟩
    go_wp2_with fail
    go_ret
    exact ⟨rfl, bnext b1 hb⟩
  have CN := fun w => Sennit_any n s w
  have RC := fun (a : Option Addr) (cap : Nat) (w : World) (hS : PassesR w a cap l) => rCheckPasses_any n a cap l w hS (by omega) hw
  have hz : senE n s = 0 → 2 ≤ n ∧ n ≤ 12 ∧ 0 ≤ s ∧ s ≤ 100 := fun h => by unfold senE at h; split at h <;> omega
  have hy : senE n s ≠ 0 → senE n s = 3 ∧ senL n s = [] ∧ (n < 2 ∨ 12 < n ∨ s < 0 ∨ 1000 < s) := fun h => by
    refine ⟨?_, if_neg h, ?_⟩
    · unfold senE at *; split at h <;> simp_all
    · unfold senE at h; split at h
      · assumption
      · exact absurd rfl h
  by_cases h : passesE n l = 0
  · obtain ⟨hn1, hn2, hl2, hall⟩ := passesE_zero h
    obtain ⟨m, rfl⟩ : ∃ m : Nat, n = m := ⟨n.toNat, by omega⟩
    have hfit : ∀ x ∈ lettersAll l, 1 ≤ absI x ∧ absI x < m := by
      intro x hx
      obtain ⟨p, hp, hx⟩ := List.mem_flatMap.1 hx
      have := letter_fits hn2 (hall p hp) x hx
      simpa using this.2.2
    have hWl : (lettersAll l).length ≤ 11 * 1002 := by
      have := lettersAll_len5 hn2 l hall
      omega
    have hR := row5_isP (lettersAll l) (idL m) (idL_isP m) (fun x hx => by rw [idL_len]; exact hfit x hx)
    have hRl : (row5 (idL m) (lettersAll l)).length = m := by rw [row5_len, idL_len]
    have hen := ends_row5 hfit
    have hpi := period_inv hR
    have hii := invL_isP hR
    have hil := invL_len (row5 (idL m) (lettersAll l))
    have hp12 := period_12 hR (by rw [hRl]; omega)
    have hpe := permE_ok hR (by rw [hRl]; omega)
    have RP := fun (a : Option Addr) (cap : Nat) (w : World) (hS : PassesR w a cap l) => Repeat_passes m a cap l w hS (by omega) hw (fun _ _ => by rw [hen]; exact itoaOk_small w _ (by omega) (by omega))
    have eB : rptB m l = itoaB (periodN (row5 (idL m) (lettersAll l))) := by unfold rptB; rw [if_pos h, hen]; unfold perS; rw [if_pos hpe]
    have eE : rptE m l = 0 := by unfold rptE; rw [if_pos h, hen]; exact hpe
    rw [eB, eE] at RP
    rw [h] at RC
    have WD := fun w hS => rWord_any m a cap l w hS hn2 hl2 hall
    have EN := fun a cap w hS => rEnds_any m a cap (lettersAll l) w hS (by omega) (by omega) hfit
    have PD := fun a cap w hS => rPeriod_any a cap (invL (row5 (idL m) (lettersAll l))) w hS hii (by rw [hil, hRl]; omega)
    rw [hpi] at PD
    obtain ⟨P, hP⟩ : ∃ P, P = itoaB (periodN (row5 (idL m) (lettersAll l))) := ⟨_, rfl⟩
    rw [← hP] at RP PD
    obtain ⟨I, hI⟩ : ∃ I, I = invL (row5 (idL m) (lettersAll l)) := ⟨_, rfl⟩
    rw [← hI] at EN PD
    obtain ⟨W, hW⟩ : ∃ W, W = lettersAll l := ⟨_, rfl⟩
    rw [← hW] at WD EN
    have HRP := hid RP; have HRC := hid RC; have HWD := hid WD; have HEN := hid EN; have HPD := hid PD
    clear RP RC WD EN PD eB eE hfit hR hRl hen hpi hii hil hp12 hpe hP hI hW hWl h hall hw
    by_cases hse : senE m s = 0
    · obtain ⟨_, _, z3, z4⟩ := hz hse
      obtain ⟨k, rfl⟩ : ∃ k : Nat, s = k := ⟨s.toNat, by omega⟩
      have eL : senL m k = senK m ((m : Int) / 2) k := by rw [senL, if_pos hse]; rfl
      have hkl := senK_len m ((m : Int) / 2) k
      have RS := fun w => rSennit_any m k w (by omega) (by omega) (by omega)
      rw [hse, eL] at CN
      obtain ⟨SL_, hSL_⟩ : ∃ L, L = senK m ((m : Int) / 2) k := ⟨_, rfl⟩
      rw [← hSL_] at CN RS hkl
      have hkl2 : SL_.length ≤ 100 := by omega
      have HCN := hid CN; have HRS := hid RS
      clear CN RS hse eL hkl hSL_ hz hy
      go_enter Tryz.func7, Tryz.ntmps7
      go_wp2_with fail
      refine HSh.out.mono ?_
      rintro e w0 ⟨rfl, b0⟩
      go_wp2_with fail
      refine (HCN.out w0).mono ?_
      rintro e w1 ⟨as_, cs, rfl, hs1, _, b1⟩
      have t1 := bnext b0 b1
      go_wp2_with fail
      refine (passes_any a cap l w1 (hS.below t1) (by omega)).mono ?_
      rintro e w2 ⟨v2, rfl, ho2, b2⟩
      obtain ⟨a2, c2, rfl, q2, _, _⟩ := ho2.reps
      go_wp2_with fail
      refine (HRP.out a2 c2 w2 q2).mono ?_
      rintro e w3 ⟨rfl, b3⟩
      have t3 := bnext t1 (bnext b2 b3)
      have hs3 := hs1.below (bnext b2 b3)
      clear ho2 q2 hs1 b0 b1 b2 b3 t1
      go_wp2_with fail
      refine (HRC.out a cap w3 (hS.below t3)).mono ?_
      rintro e w4 ⟨rfl, b4⟩
      have t4 := bnext t3 b4
      have hs4 := hs3.below b4
      clear hs3 t3 b4
      go_wp2_with fail
      refine (HWD.out w4 (hS.below t4)).mono ?_
      rintro e w5 ⟨v5, rfl, ho5, b5⟩
      obtain ⟨a5, c5, rfl, q5, _, _⟩ := ho5.reps
      go_wp2_with fail
      refine (HEN.out a5 c5 w5 q5).mono ?_
      rintro e w6 ⟨v6, rfl, ho6, b6⟩
      obtain ⟨a6, c6, rfl, q6, _, _⟩ := ho6.reps
      go_wp2_with fail
      refine (HPD.out a6 c6 w6 q6).mono ?_
      rintro e w7 ⟨rfl, b7⟩
      have t7 := bnext t4 (bnext b5 (bnext b6 b7))
      have hs7 := hs4.below (bnext b5 (bnext b6 b7))
      clear ho5 ho6 q5 q6 b5 b6 b7 t4 hs4
      go_wp2_with fail
      refine (ownPasses_any as_ cs SL_ w7 hs7 (by omega)).mono ?_
      rintro e w8 ⟨v8, rfl, ho8, b8⟩
      obtain ⟨a8, c8, rfl, q8, _, _⟩ := ho8.reps
      go_wp2_with fail
      refine (HRS.out w8).mono ?_
      rintro e w9 ⟨v9, rfl, ho9, b9⟩
      obtain ⟨a9, c9, rfl, q9, _, _⟩ := ho9.reps
      go_wp2_with fail
      refine (SamePasses_same a8 a9 c8 c9 SL_ w9 (q8.below b9) q9 (by omega)).mono ?_
      rintro e w10 ⟨rfl, b10⟩
      have t10 := bnext t7 (bnext b8 (bnext b9 b10))
      go_wp2_with fail
      refine (awake_any _).mono ?_
      rintro e w' ⟨rfl, hb⟩
      go_wp2_with fail
      go_ret
      exact ⟨rfl, bnext t10 hb⟩
    · obtain ⟨y1, y2, y3⟩ := hy hse
      rw [y1, y2] at CN
      have HCN := hid CN
      have hbad : s < 0 ∨ 1000 < s := by omega
      clear CN y1 y2 y3 hse hz hy
      rcases hbad with c | c
      · have c0 : ¬ (m : Int) < 2 := by omega
        have c1 : ¬ 12 < (m : Int) := by omega
        have c3 : ¬ 100 < s := by omega
        go_enter Tryz.func7, Tryz.ntmps7
        go_wp2_with fail
        refine HSh.out.mono ?_
        rintro e w0 ⟨rfl, b0⟩
        go_wp2_with fail
        refine (HCN.out w0).mono ?_
        rintro e w1 ⟨as_, cs, rfl, hs1, _, b1⟩
        have t1 := bnext b0 b1
        go_wp2_with fail
        refine (passes_any a cap l w1 (hS.below t1) (by omega)).mono ?_
        rintro e w2 ⟨v2, rfl, ho2, b2⟩
        obtain ⟨a2, c2, rfl, q2, _, _⟩ := ho2.reps
        go_wp2_with fail
        refine (HRP.out a2 c2 w2 q2).mono ?_
        rintro e w3 ⟨rfl, b3⟩
        have t3 := bnext t1 (bnext b2 b3)
        have hs3 := hs1.below (bnext b2 b3)
        clear ho2 q2 hs1 b0 b1 b2 b3 t1
        go_wp2_with fail
        refine (HRC.out a cap w3 (hS.below t3)).mono ?_
        rintro e w4 ⟨rfl, b4⟩
        have t4 := bnext t3 b4
        have hs4 := hs3.below b4
        clear hs3 t3 b4
        go_wp2_with fail
        refine (HWD.out w4 (hS.below t4)).mono ?_
        rintro e w5 ⟨v5, rfl, ho5, b5⟩
        obtain ⟨a5, c5, rfl, q5, _, _⟩ := ho5.reps
        go_wp2_with fail
        refine (HEN.out a5 c5 w5 q5).mono ?_
        rintro e w6 ⟨v6, rfl, ho6, b6⟩
        obtain ⟨a6, c6, rfl, q6, _, _⟩ := ho6.reps
        go_wp2_with fail
        refine (HPD.out a6 c6 w6 q6).mono ?_
        rintro e w7 ⟨rfl, b7⟩
        have t7 := bnext t4 (bnext b5 (bnext b6 b7))
        have hs7 := hs4.below (bnext b5 (bnext b6 b7))
        clear ho5 ho6 q5 q6 b5 b6 b7 t4 hs4
        go_wp2_with fail
        refine (awake_any _).mono ?_
        rintro e w' ⟨rfl, hb⟩
        go_wp2_with fail
        go_ret
        exact ⟨rfl, bnext t7 hb⟩
      · have c0 : ¬ (m : Int) < 2 := by omega
        have c1 : ¬ 12 < (m : Int) := by omega
        have c2 : ¬ s < 0 := by omega
        have c3 : 100 < s := by omega
        go_enter Tryz.func7, Tryz.ntmps7
        go_wp2_with fail
        refine HSh.out.mono ?_
        rintro e w0 ⟨rfl, b0⟩
        go_wp2_with fail
        refine (HCN.out w0).mono ?_
        rintro e w1 ⟨as_, cs, rfl, hs1, _, b1⟩
        have t1 := bnext b0 b1
        go_wp2_with fail
        refine (passes_any a cap l w1 (hS.below t1) (by omega)).mono ?_
        rintro e w2 ⟨v2, rfl, ho2, b2⟩
        obtain ⟨a2, c2, rfl, q2, _, _⟩ := ho2.reps
        go_wp2_with fail
        refine (HRP.out a2 c2 w2 q2).mono ?_
        rintro e w3 ⟨rfl, b3⟩
        have t3 := bnext t1 (bnext b2 b3)
        have hs3 := hs1.below (bnext b2 b3)
        clear ho2 q2 hs1 b0 b1 b2 b3 t1
        go_wp2_with fail
        refine (HRC.out a cap w3 (hS.below t3)).mono ?_
        rintro e w4 ⟨rfl, b4⟩
        have t4 := bnext t3 b4
        have hs4 := hs3.below b4
        clear hs3 t3 b4
        go_wp2_with fail
        refine (HWD.out w4 (hS.below t4)).mono ?_
        rintro e w5 ⟨v5, rfl, ho5, b5⟩
        obtain ⟨a5, c5, rfl, q5, _, _⟩ := ho5.reps
        go_wp2_with fail
        refine (HEN.out a5 c5 w5 q5).mono ?_
        rintro e w6 ⟨v6, rfl, ho6, b6⟩
        obtain ⟨a6, c6, rfl, q6, _, _⟩ := ho6.reps
        go_wp2_with fail
        refine (HPD.out a6 c6 w6 q6).mono ?_
        rintro e w7 ⟨rfl, b7⟩
        have t7 := bnext t4 (bnext b5 (bnext b6 b7))
        have hs7 := hs4.below (bnext b5 (bnext b6 b7))
        clear ho5 ho6 q5 q6 b5 b6 b7 t4 hs4
        go_wp2_with fail
        refine (awake_any _).mono ?_
        rintro e w' ⟨rfl, hb⟩
        go_wp2_with fail
        go_ret
        exact ⟨rfl, bnext t7 hb⟩
  · obtain ⟨q, hq⟩ : ∃ q, q = passesE n l := ⟨_, rfl⟩
    have RP := fun (a : Option Addr) (cap : Nat) (w : World) (hS : PassesR w a cap l) => Repeat_passes n a cap l w hS (by omega) hw (fun e => absurd e h)
    have eB : rptB n l = ⟨#[]⟩ := by unfold rptB; rw [if_neg h]
    have eE : rptE n l = passesE n l := by unfold rptE; rw [if_neg h]
    rw [eB, eE, ← hq] at RP
    rw [← hq] at RC h
    have hne : (q == 0) = false := by simpa using h
    have hne2 : (q != 0) = true := by simpa using h
    have HRP := hid RP; have HRC := hid RC
    clear RP RC eB eE hq hw
    by_cases hse : senE n s = 0
    · obtain ⟨z1, z2, z3, z4⟩ := hz hse
      obtain ⟨m, rfl⟩ : ∃ m : Nat, n = m := ⟨n.toNat, by omega⟩
      obtain ⟨k, rfl⟩ : ∃ k : Nat, s = k := ⟨s.toNat, by omega⟩
      have eL : senL m k = senK m ((m : Int) / 2) k := by rw [senL, if_pos hse]; rfl
      have hkl := senK_len m ((m : Int) / 2) k
      have RS := fun w => rSennit_any m k w (by omega) (by omega) (by omega)
      rw [hse, eL] at CN
      obtain ⟨SL_, hSL_⟩ : ∃ L, L = senK m ((m : Int) / 2) k := ⟨_, rfl⟩
      rw [← hSL_] at CN RS hkl
      have hkl2 : SL_.length ≤ 100 := by omega
      have HCN := hid CN; have HRS := hid RS
      clear CN RS hse eL hkl hSL_ hz hy
      go_enter Tryz.func7, Tryz.ntmps7
      go_wp2_with fail
      refine HSh.out.mono ?_
      rintro e w0 ⟨rfl, b0⟩
      go_wp2_with fail
      refine (HCN.out w0).mono ?_
      rintro e w1 ⟨as_, cs, rfl, hs1, _, b1⟩
      have t1 := bnext b0 b1
      go_wp2_with fail
      refine (passes_any a cap l w1 (hS.below t1) (by omega)).mono ?_
      rintro e w2 ⟨v2, rfl, ho2, b2⟩
      obtain ⟨a2, c2, rfl, q2, _, _⟩ := ho2.reps
      go_wp2_with fail
      refine (HRP.out a2 c2 w2 q2).mono ?_
      rintro e w3 ⟨rfl, b3⟩
      have t3 := bnext t1 (bnext b2 b3)
      have hs3 := hs1.below (bnext b2 b3)
      clear ho2 q2 hs1 b0 b1 b2 b3 t1
      go_wp2_with fail
      refine (HRC.out a cap w3 (hS.below t3)).mono ?_
      rintro e w4 ⟨rfl, b4⟩
      have t4 := bnext t3 b4
      have hs4 := hs3.below b4
      clear hs3 t3 b4
      go_wp2_with fail
      refine (ownPasses_any as_ cs SL_ w4 hs4 (by omega)).mono ?_
      rintro e w8 ⟨v8, rfl, ho8, b8⟩
      obtain ⟨a8, c8, rfl, q8, _, _⟩ := ho8.reps
      go_wp2_with fail
      refine (HRS.out w8).mono ?_
      rintro e w9 ⟨v9, rfl, ho9, b9⟩
      obtain ⟨a9, c9, rfl, q9, _, _⟩ := ho9.reps
      go_wp2_with fail
      refine (SamePasses_same a8 a9 c8 c9 SL_ w9 (q8.below b9) q9 (by omega)).mono ?_
      rintro e w10 ⟨rfl, b10⟩
      have t10 := bnext t4 (bnext b8 (bnext b9 b10))
      go_wp2_with fail
      refine (awake_any _).mono ?_
      rintro e w' ⟨rfl, hb⟩
      go_wp2_with fail
      go_ret
      exact ⟨rfl, bnext t10 hb⟩
    · obtain ⟨y1, y2, y3⟩ := hy hse
      rw [y1, y2] at CN
      have HCN := hid CN
      have hbad : (n < 2 ∧ s ≤ 100) ∨ (n < 2 ∧ 1000 < s) ∨ (12 < n ∧ s ≤ 100) ∨ (12 < n ∧ 1000 < s) ∨ (s < 0 ∧ 2 ≤ n ∧ n ≤ 12) ∨ (1000 < s ∧ 2 ≤ n ∧ n ≤ 12) := by omega
      clear CN y1 y2 y3 hse hz hy
      rcases hbad with c | c | c | c | c | c
      · obtain ⟨c, _⟩ := c
        have c3 : ¬ 100 < s := by omega
        go_enter Tryz.func7, Tryz.ntmps7
        go_wp2_with fail
        refine HSh.out.mono ?_
        rintro e w0 ⟨rfl, b0⟩
        go_wp2_with fail
        refine (HCN.out w0).mono ?_
        rintro e w1 ⟨as_, cs, rfl, hs1, _, b1⟩
        have t1 := bnext b0 b1
        go_wp2_with fail
        refine (passes_any a cap l w1 (hS.below t1) (by omega)).mono ?_
        rintro e w2 ⟨v2, rfl, ho2, b2⟩
        obtain ⟨a2, c2, rfl, q2, _, _⟩ := ho2.reps
        go_wp2_with fail
        refine (HRP.out a2 c2 w2 q2).mono ?_
        rintro e w3 ⟨rfl, b3⟩
        have t3 := bnext t1 (bnext b2 b3)
        have hs3 := hs1.below (bnext b2 b3)
        clear ho2 q2 hs1 b0 b1 b2 b3 t1
        go_wp2_with fail
        refine (HRC.out a cap w3 (hS.below t3)).mono ?_
        rintro e w4 ⟨rfl, b4⟩
        have t4 := bnext t3 b4
        have hs4 := hs3.below b4
        clear hs3 t3 b4
        go_wp2_with fail
        refine (awake_any _).mono ?_
        rintro e w' ⟨rfl, hb⟩
        go_wp2_with fail
        go_ret
        exact ⟨rfl, bnext t4 hb⟩
      · obtain ⟨c, c4⟩ := c
        have c3 : 100 < s := by omega
        go_enter Tryz.func7, Tryz.ntmps7
        go_wp2_with fail
        refine HSh.out.mono ?_
        rintro e w0 ⟨rfl, b0⟩
        go_wp2_with fail
        refine (HCN.out w0).mono ?_
        rintro e w1 ⟨as_, cs, rfl, hs1, _, b1⟩
        have t1 := bnext b0 b1
        go_wp2_with fail
        refine (passes_any a cap l w1 (hS.below t1) (by omega)).mono ?_
        rintro e w2 ⟨v2, rfl, ho2, b2⟩
        obtain ⟨a2, c2, rfl, q2, _, _⟩ := ho2.reps
        go_wp2_with fail
        refine (HRP.out a2 c2 w2 q2).mono ?_
        rintro e w3 ⟨rfl, b3⟩
        have t3 := bnext t1 (bnext b2 b3)
        have hs3 := hs1.below (bnext b2 b3)
        clear ho2 q2 hs1 b0 b1 b2 b3 t1
        go_wp2_with fail
        refine (HRC.out a cap w3 (hS.below t3)).mono ?_
        rintro e w4 ⟨rfl, b4⟩
        have t4 := bnext t3 b4
        have hs4 := hs3.below b4
        clear hs3 t3 b4
        go_wp2_with fail
        refine (awake_any _).mono ?_
        rintro e w' ⟨rfl, hb⟩
        go_wp2_with fail
        go_ret
        exact ⟨rfl, bnext t4 hb⟩
      · obtain ⟨c, _⟩ := c
        have c0 : ¬ n < 2 := by omega
        have c3 : ¬ 100 < s := by omega
        go_enter Tryz.func7, Tryz.ntmps7
        go_wp2_with fail
        refine HSh.out.mono ?_
        rintro e w0 ⟨rfl, b0⟩
        go_wp2_with fail
        refine (HCN.out w0).mono ?_
        rintro e w1 ⟨as_, cs, rfl, hs1, _, b1⟩
        have t1 := bnext b0 b1
        go_wp2_with fail
        refine (passes_any a cap l w1 (hS.below t1) (by omega)).mono ?_
        rintro e w2 ⟨v2, rfl, ho2, b2⟩
        obtain ⟨a2, c2, rfl, q2, _, _⟩ := ho2.reps
        go_wp2_with fail
        refine (HRP.out a2 c2 w2 q2).mono ?_
        rintro e w3 ⟨rfl, b3⟩
        have t3 := bnext t1 (bnext b2 b3)
        have hs3 := hs1.below (bnext b2 b3)
        clear ho2 q2 hs1 b0 b1 b2 b3 t1
        go_wp2_with fail
        refine (HRC.out a cap w3 (hS.below t3)).mono ?_
        rintro e w4 ⟨rfl, b4⟩
        have t4 := bnext t3 b4
        have hs4 := hs3.below b4
        clear hs3 t3 b4
        go_wp2_with fail
        refine (awake_any _).mono ?_
        rintro e w' ⟨rfl, hb⟩
        go_wp2_with fail
        go_ret
        exact ⟨rfl, bnext t4 hb⟩
      · obtain ⟨c, c4⟩ := c
        have c0 : ¬ n < 2 := by omega
        have c3 : 100 < s := by omega
        go_enter Tryz.func7, Tryz.ntmps7
        go_wp2_with fail
        refine HSh.out.mono ?_
        rintro e w0 ⟨rfl, b0⟩
        go_wp2_with fail
        refine (HCN.out w0).mono ?_
        rintro e w1 ⟨as_, cs, rfl, hs1, _, b1⟩
        have t1 := bnext b0 b1
        go_wp2_with fail
        refine (passes_any a cap l w1 (hS.below t1) (by omega)).mono ?_
        rintro e w2 ⟨v2, rfl, ho2, b2⟩
        obtain ⟨a2, c2, rfl, q2, _, _⟩ := ho2.reps
        go_wp2_with fail
        refine (HRP.out a2 c2 w2 q2).mono ?_
        rintro e w3 ⟨rfl, b3⟩
        have t3 := bnext t1 (bnext b2 b3)
        have hs3 := hs1.below (bnext b2 b3)
        clear ho2 q2 hs1 b0 b1 b2 b3 t1
        go_wp2_with fail
        refine (HRC.out a cap w3 (hS.below t3)).mono ?_
        rintro e w4 ⟨rfl, b4⟩
        have t4 := bnext t3 b4
        have hs4 := hs3.below b4
        clear hs3 t3 b4
        go_wp2_with fail
        refine (awake_any _).mono ?_
        rintro e w' ⟨rfl, hb⟩
        go_wp2_with fail
        go_ret
        exact ⟨rfl, bnext t4 hb⟩
      · obtain ⟨c, c5, c6⟩ := c
        have c0 : ¬ n < 2 := by omega
        have c1 : ¬ 12 < n := by omega
        have c3 : ¬ 100 < s := by omega
        go_enter Tryz.func7, Tryz.ntmps7
        go_wp2_with fail
        refine HSh.out.mono ?_
        rintro e w0 ⟨rfl, b0⟩
        go_wp2_with fail
        refine (HCN.out w0).mono ?_
        rintro e w1 ⟨as_, cs, rfl, hs1, _, b1⟩
        have t1 := bnext b0 b1
        go_wp2_with fail
        refine (passes_any a cap l w1 (hS.below t1) (by omega)).mono ?_
        rintro e w2 ⟨v2, rfl, ho2, b2⟩
        obtain ⟨a2, c2, rfl, q2, _, _⟩ := ho2.reps
        go_wp2_with fail
        refine (HRP.out a2 c2 w2 q2).mono ?_
        rintro e w3 ⟨rfl, b3⟩
        have t3 := bnext t1 (bnext b2 b3)
        have hs3 := hs1.below (bnext b2 b3)
        clear ho2 q2 hs1 b0 b1 b2 b3 t1
        go_wp2_with fail
        refine (HRC.out a cap w3 (hS.below t3)).mono ?_
        rintro e w4 ⟨rfl, b4⟩
        have t4 := bnext t3 b4
        have hs4 := hs3.below b4
        clear hs3 t3 b4
        go_wp2_with fail
        refine (awake_any _).mono ?_
        rintro e w' ⟨rfl, hb⟩
        go_wp2_with fail
        go_ret
        exact ⟨rfl, bnext t4 hb⟩
      · obtain ⟨c, c5, c6⟩ := c
        have c0 : ¬ n < 2 := by omega
        have c1 : ¬ 12 < n := by omega
        have c2 : ¬ s < 0 := by omega
        have c3 : 100 < s := by omega
        go_enter Tryz.func7, Tryz.ntmps7
        go_wp2_with fail
        refine HSh.out.mono ?_
        rintro e w0 ⟨rfl, b0⟩
        go_wp2_with fail
        refine (HCN.out w0).mono ?_
        rintro e w1 ⟨as_, cs, rfl, hs1, _, b1⟩
        have t1 := bnext b0 b1
        go_wp2_with fail
        refine (passes_any a cap l w1 (hS.below t1) (by omega)).mono ?_
        rintro e w2 ⟨v2, rfl, ho2, b2⟩
        obtain ⟨a2, c2, rfl, q2, _, _⟩ := ho2.reps
        go_wp2_with fail
        refine (HRP.out a2 c2 w2 q2).mono ?_
        rintro e w3 ⟨rfl, b3⟩
        have t3 := bnext t1 (bnext b2 b3)
        have hs3 := hs1.below (bnext b2 b3)
        clear ho2 q2 hs1 b0 b1 b2 b3 t1
        go_wp2_with fail
        refine (HRC.out a cap w3 (hS.below t3)).mono ?_
        rintro e w4 ⟨rfl, b4⟩
        have t4 := bnext t3 b4
        have hs4 := hs3.below b4
        clear hs3 t3 b4
        go_wp2_with fail
        refine (awake_any _).mono ?_
        rintro e w' ⟨rfl, hb⟩
        go_wp2_with fail
        go_ret
        exact ⟨rfl, bnext t4 hb⟩
end Go.Proofs.YtogbclcnmogaeaaGreatDoor
