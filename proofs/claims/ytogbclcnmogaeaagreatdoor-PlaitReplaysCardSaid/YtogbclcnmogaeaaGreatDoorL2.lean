/- Contract: PlaitTurns returns true. Conditions: the slices can be read, the numbers fit an int. -/
import Derived.Test.YtogbclcnmogaeaaGreatDoorRB
import Derived.Test.YtogbclcnmogaeaaGreatDoorAwA
set_option linter.all false
namespace Go.Proofs.YtogbclcnmogaeaaGreatDoor
open Go.RowKit
set_option maxHeartbeats 2000000
set_option maxRecDepth 100000

theorem lfirst_any (a : Option Addr) (cap : Nat) (l : List Int) (w : World) (h : Ints w a cap l) :
    Calls Tryz.prog 29 #[.slice a l.length cap] w fun r w' => r = .returned (.int .i64 (firstE l)) ∧ w = w' := by
  have hcap := h.le
  have hm := h.max
  go_enter Tryz.func29, Tryz.ntmps29
  go_wp2
  go_loop [7] (fun i => ∃ k : Nat, k ≤ l.length ∧ i = .int .i64 k ∧ firstE (l.drop k) = firstE l) (fun i => l.length - (intOf i).toNat)
  case atStart => exact ⟨0, by omega, rfl, by simp⟩
  case round =>
    obtain ⟨k, hk, rfl, hf⟩ := hrel
    by_cases hlt : k < l.length
    · have hs := firstE_drop l k hlt
      have HF := hid hf; clear hf
      have HS := hid hs; clear hs
      go_wp2_with (with_reducible refine wpList_idx _ 0 E_ints F_int cInt1 (by with_unfolding_all rfl) (by with_unfolding_all rfl) (h) (by first | omega | (simp; done)) (by first | omega | (simp; done)) (fun _ => by with_unfolding_all rfl) (fun _ => ?_))
      · go_ret
        have h1 : (atD 0 l k != 0) = true := by assumption
        refine ⟨?_, rfl⟩
        have := HS.out; rw [HF.out, h1, if_pos rfl] at this; rw [this]; rfl
      · go_round
        case rel =>
          have h1 : (atD 0 l k != 0) = false := by assumption
          refine ⟨k + 1, by omega, by go_num, ?_⟩
          have := HS.out; rw [HF.out, h1] at this; exact this.symm
        case measure => simp [intOf]; omega
    · have : k = l.length := by omega
      subst this
      rw [firstE_end] at hf
      have HF := hid hf; clear hf
      go_wp2
      go_ret
      exact ⟨by rw [← HF.out]; rfl, rfl⟩

theorem PlaitTurns_any (x : Int) (a a2 : Option Addr) (cap cap2 : Nat) (l t : List Int) (w : World) (hS : Ints w a cap l) (hT : Ints w a2 cap2 t) (hI : ∀ x ∈ l, InI x) (hI2 : ∀ x ∈ t, InI x) (hx : InI x) :
    Calls Tryz.prog 4 #[.slice a l.length cap, .slice a2 t.length cap2, .int .i64 x] w fun r w' => r = .returned (.bool true) ∧ Below w.heap.size w w' := by
  have hcap := hS.le
  have hm := hS.max
  have hcap2 := hT.le
  have hm2 := hT.max
  by_cases h66 : l.length ≤ 66
  · have hd : decide (l.length ≤ 66) = true := by simpa using h66
    have HD := hid hd; clear hd
    by_cases h662 : t.length ≤ 66
    · have hd : decide (t.length ≤ 66) = true := by simpa using h662
      have HD2 := hid hd; clear hd
      obtain ⟨q1, hq1⟩ : ∃ q, q = checkStand l := ⟨_, rfl⟩
      obtain ⟨q2, hq2⟩ : ∃ q, q = checkStand t := ⟨_, rfl⟩
      obtain ⟨eA, heA⟩ : ∃ q, q = alikeE l t := ⟨_, rfl⟩
      obtain ⟨nA, hnA⟩ : ∃ q, q = alikeN l t := ⟨_, rfl⟩
      obtain ⟨L, hL⟩ : ∃ L, L = (if q1 = 0 then turnedL l (x % l.length) else []) := ⟨_, rfl⟩
      have CT := fun (a : Option Addr) (cap : Nat) (w : World) (hS : Ints w a cap l) => Turned_any x a cap l w hS hI hx
      have CA := fun (a a2 : Option Addr) (cap cap2 : Nat) (w : World) (hS : Ints w a cap l) (hT : Ints w a2 cap2 t) => Alike_any a a2 cap cap2 l t w hS hT hI hI2 (by omega) (by omega)
      have C1 := fun (a : Option Addr) (cap : Nat) (w : World) (hS : Ints w a cap l) => rCheckStand_any a cap l w hS
      have C2 := fun (a : Option Addr) (cap : Nat) (w : World) (hS : Ints w a cap t) => rCheckStand_any a cap t w hS
      rw [← hq1, ← hL] at CT
      rw [← heA, ← hnA] at CA
      rw [← hq1] at C1
      rw [← hq2] at C2
      have HCT := hid CT; have HCA := hid CA; have HC1 := hid C1; have HC2 := hid C2
      have HQ1 := hid hq1; have HQ2 := hid hq2; have HE := hid heA; have HN := hid hnA; have HL := hid hL
      clear CT CA C1 C2 hq1 hq2 heA hnA hL
      go_enter Tryz.func4, Tryz.ntmps4
      go_wp2_with fail
      refine (shortStand_any _ _ _ _).mono ?_; rw [HD.out]; rintro e w' ⟨rfl, rfl⟩
      go_wp2_with fail
      refine (shortStand_any _ _ _ _).mono ?_; rw [HD2.out]; rintro e w' ⟨rfl, rfl⟩
      go_wp2_with fail
      refine (numbers_any a cap l _ hS (by omega)).mono ?_
      rintro e w1 ⟨v1, rfl, ho1, b1⟩
      obtain ⟨a1, c1, rfl, h1, _, _⟩ := ho1.reps
      go_wp2_with fail
      refine (HCT.out a1 c1 w1 h1).mono ?_
      rintro e w2 ⟨ax, cx, rfl, hx2, _, b2⟩
      go_wp2_with fail
      refine (numbers_any a cap l w2 (hS.below (bnext b1 b2)) (by omega)).mono ?_
      rintro e w3 ⟨v3, rfl, ho3, b3⟩
      obtain ⟨a3, c3, rfl, h3, _, _⟩ := ho3.reps
      go_wp2_with fail
      refine (numbers_any a2 cap2 t w3 (hT.below (bnext b1 (bnext b2 b3))) (by omega)).mono ?_
      rintro e w4 ⟨v4, rfl, ho4, b4⟩
      obtain ⟨a4, c4, rfl, h4, _, _⟩ := ho4.reps
      go_wp2_with fail
      refine (HCA.out a3 a4 c3 c4 w4 (h3.below b4) h4).mono ?_
      rintro e w5 ⟨rfl, b5⟩
      have t5 := bnext b1 (bnext b2 (bnext b3 (bnext b4 b5)))
      go_wp2_with fail
      refine (HC1.out a cap w5 (hS.below t5)).mono ?_
      rintro e w6 ⟨rfl, b6⟩
      go_wp2_with fail
      refine (HC2.out a2 cap2 w6 (hT.below (bnext t5 b6))).mono ?_
      rintro e w7 ⟨rfl, b7⟩
      have t7 := bnext t5 (bnext b6 b7)
      have hx7 := hx2.below (bnext b3 (bnext b4 (bnext b5 (bnext b6 b7))))
      have hS7 := hS.below t7
      have hT7 := hT.below t7
      clear hx2 ho1 ho3 ho4 h1 h3 h4 b1 b2 b3 b4 b5 b6 b7 t5 hS hT
      by_cases h0 : q1 = 0
      · subst h0
        have e4 : turnedL l (x % l.length) = L := by rw [HL.out, if_pos rfl]
        have hsz := (checkStand_zero HQ1.out.symm).1
        have hsz2 := (checkStand_zero HQ1.out.symm).2.1
        have hLl : L.length ≤ 64 := by rw [← e4, turnedL_len]; omega
        have RT := fun (a : Option Addr) (cap : Nat) (w : World) (hS : Ints w a cap l) => rTurned_any x a cap l w hS hx (by omega) (by omega)
        rw [e4] at RT
        have HRT := hid RT; clear RT e4
        by_cases h2 : q2 = 0
        · subst h2
          by_cases hlen : l.length = t.length
          · have RA := fun (a a2 : Option Addr) (cap cap2 : Nat) (w : World) (hS : Ints w a cap l) (hT : Ints w a2 cap2 t) => rAlike_any a a2 cap cap2 l t w hS hT hlen (by omega) (by omega)
            obtain ⟨g, hg⟩ : ∃ g, g = alikeGo l t 0 l.length := ⟨_, rfl⟩
            have e5 : eA = if g < 0 then 7 else 0 := by rw [HE.out, alikeE, ← HQ1.out, ← HQ2.out, ← hg]; simp [hlen]
            have e6 : nA = if g < 0 then 0 else g := by
              rw [HN.out, alikeN, ← HE.out, e5, ← hg]
              split <;> simp
            rw [← hg] at RA
            have HRA := hid RA; clear RA hg
            have hb : ((l.length : Int) != t.length) = false := by simp; omega
            have HLEN := hid hlen; clear hlen
            by_cases hneg : g < 0
            · rw [if_pos hneg] at e5 e6
              subst e5 e6
              go_wp2_with (go_at_call 29; refine (lfirst_any _ _ [_, _] _ (reps_newN cIntS [_, _] 2 rfl (by decide) _ _ (by simp) rfl)).mono ?_; rintro e w' ⟨rfl, rfl⟩)
              refine (HRT.out a cap _ (hS7.below (bal (Below.refl _ _) _))).mono ?_
              rintro e w8 ⟨v8, rfl, ho8, b8⟩
              obtain ⟨a8, c8, rfl, h8, _, _⟩ := ho8.reps
              have t8 := bnext (bal (Below.refl _ _) _) b8
              go_wp2_with fail
              refine (SameInts_any ax a8 cx c8 L L w8 (hx7.below t8) h8 (by omega)).mono ?_
              rw [decide_eq_true rfl]
              rintro e w9 ⟨rfl, b9⟩
              have t9 := bnext t8 b9
              go_wp2_with fail
              refine (HRA.out a a2 cap cap2 w9 (hS7.below t9) (hT7.below t9)).mono ?_
              rintro e w10 ⟨rfl, b10⟩
              go_wp2_with fail
              refine (awake_any w10).mono ?_
              rintro e w11 ⟨rfl, b11⟩
              go_wp2_with fail
              go_ret
              exact ⟨rfl, bnext t7 (bnext t9 (bnext b10 b11))⟩
            · rw [if_neg hneg] at e5 e6
              subst e5 e6
              go_wp2_with (go_at_call 29; refine (lfirst_any _ _ [_, _] _ (reps_newN cIntS [_, _] 2 rfl (by decide) _ _ (by simp) rfl)).mono ?_; rintro e w' ⟨rfl, rfl⟩)
              refine (HRT.out a cap _ (hS7.below (bal (Below.refl _ _) _))).mono ?_
              rintro e w8 ⟨v8, rfl, ho8, b8⟩
              obtain ⟨a8, c8, rfl, h8, _, _⟩ := ho8.reps
              have t8 := bnext (bal (Below.refl _ _) _) b8
              go_wp2_with fail
              refine (SameInts_any ax a8 cx c8 L L w8 (hx7.below t8) h8 (by omega)).mono ?_
              rw [decide_eq_true rfl]
              rintro e w9 ⟨rfl, b9⟩
              have t9 := bnext t8 b9
              go_wp2_with fail
              refine (HRA.out a a2 cap cap2 w9 (hS7.below t9) (hT7.below t9)).mono ?_
              rintro e w10 ⟨rfl, b10⟩
              go_wp2_with fail
              refine (awake_any w10).mono ?_
              rintro e w11 ⟨rfl, b11⟩
              go_wp2_with fail
              go_ret
              exact ⟨rfl, bnext t7 (bnext t9 (bnext b10 b11))⟩
          · have e5 : eA = 2 := by rw [HE.out, alikeE, ← HQ1.out, ← HQ2.out]; simp [hlen]
            have e6 : nA = 0 := by rw [HN.out, alikeN, ← HE.out, e5]; rfl
            subst e5 e6
            have hb : ((l.length : Int) != t.length) = true := by rw [bne_iff_ne]; omega
            clear hlen
            go_wp2_with (go_at_call 29; refine (lfirst_any _ _ [_, _] _ (reps_newN cIntS [_, _] 2 rfl (by decide) _ _ (by simp) rfl)).mono ?_; rintro e w' ⟨rfl, rfl⟩)
            refine (HRT.out a cap _ (hS7.below (bal (Below.refl _ _) _))).mono ?_
            rintro e w8 ⟨v8, rfl, ho8, b8⟩
            obtain ⟨a8, c8, rfl, h8, _, _⟩ := ho8.reps
            have t8 := bnext (bal (Below.refl _ _) _) b8
            go_wp2_with fail
            refine (SameInts_any ax a8 cx c8 L L w8 (hx7.below t8) h8 (by omega)).mono ?_
            rw [decide_eq_true rfl]
            rintro e w9 ⟨rfl, b9⟩
            have t9 := bnext t8 b9
            go_wp2_with fail
            refine (awake_any w9).mono ?_
            rintro e w11 ⟨rfl, b11⟩
            go_wp2_with fail
            go_ret
            exact ⟨rfl, bnext t7 (bnext t9 b11)⟩
        · have e5 : eA = q2 := by rw [HE.out, alikeE, ← HQ1.out, ← HQ2.out]; simp [h2]
          have e6 : nA = 0 := by rw [HN.out, alikeN, ← HE.out, if_neg (by omega)]
          subst e5 e6
          go_wp2_with (go_at_call 29; refine (lfirst_any _ _ [_, _] _ (reps_newN cIntS [_, _] 2 rfl (by decide) _ _ (by simp) rfl)).mono ?_; rintro e w' ⟨rfl, rfl⟩)
          refine (HRT.out a cap _ (hS7.below (bal (Below.refl _ _) _))).mono ?_
          rintro e w8 ⟨v8, rfl, ho8, b8⟩
          obtain ⟨a8, c8, rfl, h8, _, _⟩ := ho8.reps
          have t8 := bnext (bal (Below.refl _ _) _) b8
          go_wp2_with fail
          refine (SameInts_any ax a8 cx c8 L L w8 (hx7.below t8) h8 (by omega)).mono ?_
          rw [decide_eq_true rfl]
          rintro e w9 ⟨rfl, b9⟩
          have t9 := bnext t8 b9
          go_wp2_with fail
          refine (awake_any w9).mono ?_
          rintro e w11 ⟨rfl, b11⟩
          go_wp2_with fail
          go_ret
          exact ⟨rfl, bnext t7 (bnext t9 b11)⟩
      · have e4 : L = [] := by rw [HL.out, if_neg h0]
        have e5 : eA = q1 := by rw [HE.out, alikeE, ← HQ1.out]; simp [h0]
        have e6 : nA = 0 := by rw [HN.out, alikeN, ← HE.out, if_neg (by omega)]
        subst e4 e5 e6
        go_wp2_with (go_at_call 29; refine (lfirst_any _ _ [_, _] _ (reps_newN cIntS [_, _] 2 rfl (by decide) _ _ (by simp) rfl)).mono ?_; rintro e w' ⟨rfl, rfl⟩)
        refine (SameInts_any ax none cx 0 [] [] _ (hx7.below (bal (Below.refl _ _) _)) (ints_nil _) (by simp)).mono ?_
        rw [decide_eq_true rfl]
        rintro e w9 ⟨rfl, b9⟩
        have t9 := bnext (bal (Below.refl _ _) _) b9
        go_wp2_with fail
        refine (awake_any w9).mono ?_
        rintro e w11 ⟨rfl, b11⟩
        go_wp2_with fail
        go_ret
        exact ⟨rfl, bnext t7 (bnext t9 b11)⟩
    · have hd : decide (t.length ≤ 66) = false := by simpa using h662
      have HD2 := hid hd; clear hd
      go_enter Tryz.func4, Tryz.ntmps4
      go_wp2_with fail
      refine (shortStand_any _ _ _ _).mono ?_; rw [HD.out]; rintro e w' ⟨rfl, rfl⟩
      go_wp2_with fail
      refine (shortStand_any _ _ _ _).mono ?_; rw [HD2.out]; rintro e w' ⟨rfl, rfl⟩
      go_wp2_with fail
      refine (awake_any _).mono ?_
      rintro e w' ⟨rfl, hb⟩
      go_wp2_with fail
      go_ret
      exact ⟨rfl, hb⟩
  · have hd : decide (l.length ≤ 66) = false := by simpa using h66
    have HD := hid hd; clear hd
    go_enter Tryz.func4, Tryz.ntmps4
    go_wp2_with fail
    refine (shortStand_any _ _ _ _).mono ?_; rw [HD.out]; rintro e w' ⟨rfl, rfl⟩
    go_wp2_with fail
    refine (awake_any _).mono ?_
    rintro e w' ⟨rfl, hb⟩
    go_wp2_with fail
    go_ret
    exact ⟨rfl, hb⟩
end Go.Proofs.YtogbclcnmogaeaaGreatDoor
