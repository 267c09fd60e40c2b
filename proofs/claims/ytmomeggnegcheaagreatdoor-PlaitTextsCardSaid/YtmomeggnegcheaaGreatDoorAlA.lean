/- Contracts: the examples' stand and round. No condition. Contract: Alike. Conditions: slices readable, numbers fit an int. Contract: Head. Conditions: none. -/
import Derived.Test.YtmomeggnegcheaaGreatDoorPlA
import Derived.Test.YtmomeggnegcheaaGreatDoorTyA
import Derived.Test.YtmomeggnegcheaaGreatDoorSmA
import Derived.Test.YtmomeggnegcheaaGreatDoorPlB
import Derived.Deep.LoopGhost
import Derived.Test.YtmomeggnegcheaaGreatDoorRp1
import Derived.Test.YtmomeggnegcheaaGreatDoorPnA
set_option linter.all false
/- Contracts: the examples' stand and round. No condition. -/
namespace Go.Proofs.YtmomeggnegcheaaGreatDoor
open Go.RowKit
set_option maxHeartbeats 1000000
set_option maxRecDepth 100000

theorem reps_of_own {α : Type} {c : α → Value} {sz B : Nat} {e : TypeId} {w : World} {a : Option Addr} {n cap : Nat} {l : List α} (h : Own c sz B e w (.slice a n cap) l) (hn : n = l.length) : Reps c sz w a cap l := by
  subst hn
  obtain ⟨a', cap', e1, hr, _⟩ := h.reps
  cases e1
  exact hr

def standX : List Int := [1, 2, 0, 0, 3, 4, 0, 0]
theorem stand_any (w : World) : Calls Tryz.prog 37 #[] w fun r w' => ∃ v, r = .returned v ∧ OwnI w.heap.size w' v standX ∧ Below w.heap.size w w' := by
  go_enter Tryz.func37, Tryz.ntmps37
  go_wp2
  go_ret
  exact ⟨_, rfl, own_newN cIntS standX 8 rfl (by decide) _ rfl (Nat.le_refl _) rfl, bal (Below.refl _ _) _⟩
def roundX : List (Int × Int) := [(1, 3), (5, 7), (0, 1), (4, 5), (3, 4), (7, 0)]
theorem roundX_any (w : World) : Calls Tryz.prog 39 #[] w fun r w' => ∃ v, r = .returned v ∧ Own cPair 2 w.heap.size 55 w' v roundX ∧ Below w.heap.size w w' := by
  go_enter Tryz.func39, Tryz.ntmps39
  go_wp2
  go_ret
  exact ⟨_, rfl, own_newN cPairS roundX 6 rfl (by decide) _ rfl (Nat.le_refl _) rfl, bal (Below.refl _ _) _⟩
end Go.Proofs.YtmomeggnegcheaaGreatDoor

/- Contract: Alike. Conditions: slices readable, numbers fit an int. -/
namespace Go.Proofs.YtmomeggnegcheaaGreatDoor
open Go.RowKit
set_option maxHeartbeats 1000000
set_option maxRecDepth 100000

def sameAt (l t : List Int) (b : Int) (k : Nat) : Nat → Bool
  | 0 => true
  | n + 1 => decide (atD 0 t (((k : Int) + b) % t.length) = atD 0 l k) && sameAt l t b (k + 1) n
/-- the least turn from b on, or -1. -/
def alikeGo (l t : List Int) (b : Nat) : Nat → Int
  | 0 => -1
  | n + 1 => if sameAt l t b 0 l.length then b else alikeGo l t (b + 1) n
def alikeE (l t : List Int) : Int :=
  if checkStand l ≠ 0 then checkStand l else if checkStand t ≠ 0 then checkStand t else if l.length ≠ t.length then 2 else if alikeGo l t 0 l.length < 0 then 7 else 0
def alikeN (l t : List Int) : Int := if alikeE l t = 0 then alikeGo l t 0 l.length else 0

theorem Alike_any (a a2 : Option Addr) (cap cap2 : Nat) (l t : List Int) (w : World) (hS : Ints w a cap l) (hT : Ints w a2 cap2 t) (hI : ∀ x ∈ l, InI x) (hI2 : ∀ x ∈ t, InI x) (hl : l.length ≤ 1048576) (ht : t.length ≤ 1048576) :
    Calls Tryz.prog 40 #[.slice a l.length cap, .slice a2 t.length cap2] w fun r w' => r = .returned (.tuple #[.int .i64 (alikeN l t), .int .i64 (alikeE l t)]) ∧ Below w.heap.size w w' := by
  have hcap := hS.le
  have hm := hS.max
  have hcap2 := hT.le
  have hm2 := hT.max
  have hc1 := CheckStand_any a cap l w hS hI
  have hc2 := fun w hT => CheckStand_any a2 cap2 t w hT hI2
  by_cases h : checkStand l = 0 ∧ checkStand t = 0 ∧ l.length = t.length
  · obtain ⟨h1, h2, h3⟩ := h
    have hsz := (checkStand_zero h1).1
    have hsz2 := (checkStand_zero h1).2.1
    have eE : alikeE l t = if alikeGo l t 0 l.length < 0 then 7 else 0 := by simp [alikeE, h1, h2, h3]
    rw [h1] at hc1; rw [h2] at hc2
    have hb : ((l.length : Int) != t.length) = false := by simp; omega
    have HE := hid eE; have HC1 := hid hc1; have HC2 := hid hc2; have HL := hid h3
    have h3n : l.length ≤ t.length := by omega
    have h3m : t.length ≤ l.length := by omega
    clear eE hc1 hc2 h1 h2 h3
    go_enter Tryz.func40, Tryz.ntmps40
    go_wp2
    go_step3
    go_wp2_with (first | (go_at_call 55; with_reducible refine HC1.out.mono ?_; rintro e w1 ⟨rfl, hb1⟩) | (go_at_call 55; with_reducible refine (HC2.out w1 (hT.below hb1)).mono ?_; rintro e w2 ⟨rfl, hb2⟩) | (go_at_call 89; refine (when_any _ _ _).mono ?_; rintro e w' ⟨rfl, rfl⟩) | (go_at_call 54; refine (first_any _ _ [_, _, _] _ (reps_newN cIntS [_, _, _] 3 rfl (by decide) _ _ (by simp) rfl)).mono ?_; rintro e w' ⟨rfl, rfl⟩))
    have hb2' := bnext hb1 hb2
    have b0 : Below w.heap.size w (w2.alloc (.cells #[.int .i64 0, .int .i64 0, .int .i64 0] 27)) := bal hb2' _
    go_step3
    go_wp2
    go_loopg [7, 27] l.length (fun g _ i wr => ∃ b : Nat, b + g = l.length ∧ i = .int .i64 b ∧ Aside (alikeGo l t b g = alikeGo l t 0 l.length) ∧ Below w.heap.size w wr)
    case atStart => exact ⟨0, by omega, rfl, rfl, b0⟩
    case round =>
      obtain ⟨b, hbg, rfl, HA, hbr⟩ := hrel
      cases gk with
      | zero =>
        have : ¬ ((b : Int) < l.length) := by omega
        have e1 : alikeGo l t 0 l.length = -1 := by rw [← HA.out]; rfl
        have e2 : alikeE l t = 7 := by rw [HE.out, e1]; rfl
        have e3 : alikeN l t = 0 := by rw [alikeN, e2]; rfl
        have H2 := hid e2; have H3 := hid e3; clear e1 e2 e3
        go_wp2_with fail
        try rw [Exit.noGoto_ret]
        go_ret2
        exact ⟨by rw [H2.out, H3.out]; rfl, hbr⟩
      | succ g =>
        have hlt : ((b : Int) < l.length) := by omega
        have hst : alikeGo l t b (g + 1) = if sameAt l t b 0 l.length then (b : Int) else alikeGo l t (b + 1) g := rfl
        have HST := hid hst; clear hst
        go_wp2_with fail
        obtain ⟨wo, hwo⟩ : ∃ wo, wo = wr := ⟨_, rfl⟩
        have hSr := hS.below hbr
        have hTr := hT.below hbr
        have HB := hid hbr; clear hbr
        go_loopg [8, 9, 32] l.length (fun g2 _ _ i wy => ∃ k : Nat, k + g2 = l.length ∧ i = .int .i64 k ∧ Aside (sameAt l t b k g2 = sameAt l t b 0 l.length) ∧ wo = wy)
        case atStart => exact ⟨0, by omega, rfl, rfl, hwo⟩
        case round =>
          obtain ⟨k, hkg, rfl, HK, rfl⟩ := hrel
          subst hwo
          cases gk with
          | zero =>
            have : ¬ ((k : Int) < l.length) := by omega
            have e0 : sameAt l t b 0 l.length = true := by rw [← HK.out]; rfl
            have e1 : alikeGo l t 0 l.length = b := by rw [← HA.out, HST.out, e0]; rfl
            have e2 : alikeE l t = 0 := by rw [HE.out, e1]; simp
            have e3 : alikeN l t = b := by rw [alikeN, e2, e1]; rfl
            have H2 := hid e2; have H3 := hid e3; clear e0 e1 e2 e3
            go_wp2_with fail
            try rw [Exit.noGoto_ret]
            go_ret2
            exact ⟨by rw [H2.out, H3.out]; rfl, HB.out⟩
          | succ g2 =>
            have hlt2 : ((k : Int) < l.length) := by omega
            have q0 : 0 ≤ ((k : Int) + b) % (t.length : Int) := Int.emod_nonneg _ (by omega)
            have q1 : ((k : Int) + b) % (t.length : Int) < t.length := Int.emod_lt_of_pos _ (by omega)
            have hst2 : sameAt l t b k (g2 + 1) = (decide (atD 0 t (((k : Int) + b) % t.length) = atD 0 l k) && sameAt l t b (k + 1) g2) := rfl
            have HST2 := hid hst2; clear hst2
            go_wp2_with (first | (with_reducible refine wpList_idx _ 0 E_ints F_int cInt1 (by with_unfolding_all rfl) (by with_unfolding_all rfl) (hSr) (by first | omega | (simp; done)) (by first | omega | (simp; done)) (fun _ => by with_unfolding_all rfl) (fun _ => ?_)) | (with_reducible refine wpList_idx _ 0 E_ints F_int cInt1 (by with_unfolding_all rfl) (by with_unfolding_all rfl) (hTr) (by first | omega | (simp; done)) (by first | omega | (simp; done)) (fun _ => by with_unfolding_all rfl) (fun _ => ?_)))
            · have hd : (atD 0 t (((k : Int) + b) % (t.length : Int)) != atD 0 l k) = true := by assumption
              have e0 : sameAt l t b 0 l.length = false := by rw [← HK.out, HST2.out, show decide (atD 0 t (((k : Int) + b) % t.length) = atD 0 l k) = false by simpa using hd]; rfl
              have H0 := hid e0; clear e0
              go_roundg g
              case measure => omega
              case rel => exact ⟨b + 1, by omega, by go_num, by show _ = _; rw [← HA.out, HST.out, H0.out]; rfl, HB.out⟩
            · have hd : (atD 0 t (((k : Int) + b) % (t.length : Int)) != atD 0 l k) = false := by assumption
              have e0 : sameAt l t b (k + 1) g2 = sameAt l t b 0 l.length := by rw [← HK.out, HST2.out, show decide (atD 0 t (((k : Int) + b) % t.length) = atD 0 l k) = true by simpa using hd]; rfl
              have H0 := hid e0; clear e0
              go_roundg g2
              case measure => omega
              case rel => exact ⟨k + 1, by omega, by go_num, H0.out, rfl⟩
  · have hE : alikeE l t = if checkStand l ≠ 0 then checkStand l else if checkStand t ≠ 0 then checkStand t else 2 := by
      unfold alikeE
      by_cases h1 : checkStand l = 0 <;> by_cases h2 : checkStand t = 0 <;> simp_all
    have hne : alikeE l t ≠ 0 := by rw [hE]; by_cases h1 : checkStand l = 0 <;> by_cases h2 : checkStand t = 0 <;> simp_all
    have hN : alikeN l t = 0 := by rw [alikeN, if_neg hne]
    rw [hN]
    obtain ⟨q1, hq1⟩ : ∃ q, q = checkStand l := ⟨_, rfl⟩
    obtain ⟨q2, hq2⟩ : ∃ q, q = checkStand t := ⟨_, rfl⟩
    obtain ⟨q, hq⟩ : ∃ q, q = alikeE l t := ⟨_, rfl⟩
    rw [← hq1] at hc1; rw [← hq2] at hc2
    rw [← hq1, ← hq2, ← hq] at hE
    rw [← hq]
    have h' : q1 = 0 → q2 = 0 → ((l.length : Int) != t.length) = true := fun h1 h2 => by
      have : l.length ≠ t.length := fun h3 => h ⟨by rw [← hq1, h1], by rw [← hq2, h2], h3⟩
      rw [bne_iff_ne]; omega
    have HC1 := hid hc1; have HC2 := hid hc2
    clear hc1 hc2 hq1 hq2 hq hN hne h
    by_cases h1 : q1 = 0
    · subst h1
      by_cases h2 : q2 = 0
      · subst h2
        have hb := h' rfl rfl
        have : q = 2 := hE
        subst this
        clear h' hE
        go_enter Tryz.func40, Tryz.ntmps40
        go_wp2
        go_step3
        go_wp2_with (first | (go_at_call 55; with_reducible refine HC1.out.mono ?_; rintro e w1 ⟨rfl, hb1⟩) | (go_at_call 55; with_reducible refine (HC2.out w1 (hT.below hb1)).mono ?_; rintro e w2 ⟨rfl, hb2⟩) | (go_at_call 89; refine (when_any _ _ _).mono ?_; rintro e w' ⟨rfl, rfl⟩) | (go_at_call 54; refine (first_any _ _ [_, _, _] _ (reps_newN cIntS [_, _, _] 3 rfl (by decide) _ _ (by simp) rfl)).mono ?_; rintro e w' ⟨rfl, rfl⟩))
        all_goals (first | rw [Exit.noGoto_ret] | skip)
        all_goals go_ret2
        all_goals exact ⟨rfl, bal (bnext hb1 hb2) _⟩
      · have hb := h2
        have : q = q2 := by simpa [h2] using hE
        subst this
        clear h' hE
        go_enter Tryz.func40, Tryz.ntmps40
        go_wp2
        go_step3
        go_wp2_with (first | (go_at_call 55; with_reducible refine HC1.out.mono ?_; rintro e w1 ⟨rfl, hb1⟩) | (go_at_call 55; with_reducible refine (HC2.out w1 (hT.below hb1)).mono ?_; rintro e w2 ⟨rfl, hb2⟩) | (go_at_call 89; refine (when_any _ _ _).mono ?_; rintro e w' ⟨rfl, rfl⟩) | (go_at_call 54; refine (first_any _ _ [_, _, _] _ (reps_newN cIntS [_, _, _] 3 rfl (by decide) _ _ (by simp) rfl)).mono ?_; rintro e w' ⟨rfl, rfl⟩))
        all_goals (first | rw [Exit.noGoto_ret] | skip)
        all_goals go_ret2
        all_goals exact ⟨rfl, bal (bnext hb1 hb2) _⟩
    · have : q = q1 := by simpa [h1] using hE
      subst this
      clear h' hE
      go_enter Tryz.func40, Tryz.ntmps40
      go_wp2
      go_step3
      go_wp2_with (first | (go_at_call 55; with_reducible refine HC1.out.mono ?_; rintro e w1 ⟨rfl, hb1⟩) | (go_at_call 55; with_reducible refine (HC2.out w1 (hT.below hb1)).mono ?_; rintro e w2 ⟨rfl, hb2⟩) | (go_at_call 89; refine (when_any _ _ _).mono ?_; rintro e w' ⟨rfl, rfl⟩) | (go_at_call 54; refine (first_any _ _ [_, _, _] _ (reps_newN cIntS [_, _, _] 3 rfl (by decide) _ _ (by simp) rfl)).mono ?_; rintro e w' ⟨rfl, rfl⟩))
      all_goals (first | rw [Exit.noGoto_ret] | skip)
      all_goals go_ret2
      all_goals exact ⟨rfl, bal (bnext hb1 hb2) _⟩
end Go.Proofs.YtmomeggnegcheaaGreatDoor

/- Contract: Head. Conditions: none. -/
namespace Go.Proofs.YtmomeggnegcheaaGreatDoor
open Go.RowKit
set_option maxHeartbeats 1000000
set_option maxRecDepth 100000

def headE (x y : Int) : Int := if matE x y ≠ 0 then matE x y else if 12 < x ∨ 200 < (x - 1) * y then 5 else 0
def headA (k : Nat) : Int := ((k : Int) + 1) * (1 - 2 * ((k : Int) % 2))
def headK (k : Nat) : List Int := (List.range k).map headA
theorem headK_succ (k : Nat) : headK (k + 1) = headK k ++ [headA k] := by simp [headK, List.range_succ]
theorem headK_len (k : Nat) : (headK k).length = k := by simp [headK]
def headL (x y : Int) : List Int := if headE x y = 0 then cyc (headK (x - 1).toNat) ((x - 1).toNat * y.toNat) else []

theorem Head_any (x y : Int) (w : World) :
    Calls Tryz.prog 50 #[.int .i64 x, .int .i64 y] w fun r w' => RetLE w (headL x y) (headE x y) r w' := by
  have hck := fun w => checkMat_any x y w
  by_cases h : matE x y = 0
  · obtain ⟨h1, h2, h3, h4⟩ := matE_zero h
    rw [h] at hck
    have HCK := hid hck; clear hck
    have hmul : 0 ≤ (x - 1) * y ∧ (x - 1) * y ≤ 10000 := ⟨Int.mul_nonneg (by omega) (by omega), by
      have := Int.mul_le_mul (show x - 1 ≤ 100 by omega) h4 (by omega) (by omega)
      omega⟩
    obtain ⟨hm1, hm2⟩ := hmul
    by_cases c1 : 12 < x
    · have e1 : headE x y = 5 := by simp [headE, h, c1]
      have e2 : headL x y = [] := by rw [headL, e1]; rfl
      rw [e1, e2]
      clear e1 e2 h
      go_enter Tryz.func50, Tryz.ntmps50
      go_wp2_with (first | (go_at_call 97; refine (HCK.out _).mono ?_; rintro e w' ⟨rfl, rfl⟩) | (go_at_call 89; refine (when_any _ _ _).mono ?_; rintro e w' ⟨rfl, rfl⟩) | (go_at_call 54; refine (first_any _ _ [_, _] _ (reps_newN cIntS [_, _] 2 rfl (by decide) _ _ (by simp) rfl)).mono ?_; rintro e w' ⟨rfl, rfl⟩))
      go_ret2
      exact RetLE.none rfl (bal (Below.refl _ _) _)
    by_cases c2 : 200 < (x - 1) * y
    · have e1 : headE x y = 5 := by simp [headE, h, c2]
      have e2 : headL x y = [] := by rw [headL, e1]; rfl
      rw [e1, e2]
      clear e1 e2 h
      go_enter Tryz.func50, Tryz.ntmps50
      go_wp2_with (first | (go_at_call 97; refine (HCK.out _).mono ?_; rintro e w' ⟨rfl, rfl⟩) | (go_at_call 89; refine (when_any _ _ _).mono ?_; rintro e w' ⟨rfl, rfl⟩) | (go_at_call 54; refine (first_any _ _ [_, _] _ (reps_newN cIntS [_, _] 2 rfl (by decide) _ _ (by simp) rfl)).mono ?_; rintro e w' ⟨rfl, rfl⟩))
      go_ret2
      exact RetLE.none rfl (bal (Below.refl _ _) _)
    · have e1 : headE x y = 0 := by simp [headE, h, c1, c2]
      have e2 : headL x y = cyc (headK (x - 1).toNat) ((x - 1).toNat * y.toNat) := by rw [headL, e1]; rfl
      rw [e1, e2]
      clear e1 e2 h
      obtain ⟨m, hm⟩ : ∃ m : Nat, x = m + 1 := ⟨(x - 1).toNat, by omega⟩
      subst hm
      obtain ⟨c, rfl⟩ : ∃ c : Nat, y = c := ⟨y.toNat, by omega⟩
      have e0 : ((m : Int) + 1 - 1).toNat = m := by omega
      rw [e0]
      clear e0
      have e3 : (m : Int) + 1 - 1 = m := by omega
      rw [e3] at c2 hm1 hm2
      clear e3
      go_enter Tryz.func50, Tryz.ntmps50
      go_wp2_with (first | (go_at_call 97; refine (HCK.out _).mono ?_; rintro e w' ⟨rfl, rfl⟩) | (go_at_call 89; refine (when_any _ _ _).mono ?_; rintro e w' ⟨rfl, rfl⟩) | (go_at_call 54; refine (first_any _ _ [_, _] _ (reps_newN cIntS [_, _] 2 rfl (by decide) _ _ (by simp) rfl)).mono ?_; rintro e w' ⟨rfl, rfl⟩))
      go_loopw [7, 8, 29] (fun v _ i wr => ∃ k : Nat, k ≤ m ∧ i = .int .i64 k ∧ OwnI w.heap.size wr v (headK k) ∧ Below w.heap.size w wr) (fun _ _ i _ => m - (intOf i).toNat)
      case atStart => exact ⟨0, by omega, rfl, own_nil cIntS, bal (Below.refl _ _) _⟩
      case round =>
        obtain ⟨k, hk, rfl, hO, hbr⟩ := hrel
        have hle : (headK k).length ≤ 100 := by rw [headK_len]; omega
        have hbs := hbr.size
        by_cases hlt : k < m
        · have hs := headK_succ k
          by_cases hp : (k : Int) % 2 = 0
          · have hA : headA k = (k : Int) + 1 := by rw [headA, hp]; omega
            rw [hA] at hs
            have HS := hid hs; clear hs hA
            go_wp2_with (first | ((with_reducible refine wpList_app (l := (headK k)) (ys := [((k : Int) + 1)]) E_ints (by with_unfolding_all rfl) (by with_unfolding_all rfl) ((hO).alloc _) (reps_new1 cIntS (((k : Int) + 1)) _ _ (by simp) rfl) cIntO (by simp; omega) (by first | omega | (simp; omega)) (by simp; omega) ?_); intro v3 w3 ho3 hg3 hat3))
            refine ⟨⟨k + 1, by omega, by go_num, by rw [HS.out]; exact ho3, below_own (bal hbr (.cells #[.int .i64 ((k : Int) + 1)] 3)) hg3 (hO.alloc _) (Nat.le_refl _)⟩, by simp [intOf]; omega⟩
          · have hp1 : (k : Int) % 2 = 1 := by omega
            have hA : headA k = -((k : Int) + 1) := by rw [headA, hp1]; omega
            rw [hA] at hs
            have HS := hid hs; clear hs hA hp
            go_wp2_with (first | ((with_reducible refine wpList_app (l := (headK k)) (ys := [(-((k : Int) + 1))]) E_ints (by with_unfolding_all rfl) (by with_unfolding_all rfl) ((hO).alloc _) (reps_new1 cIntS ((-((k : Int) + 1))) _ _ (by simp) rfl) cIntO (by simp; omega) (by first | omega | (simp; omega)) (by simp; omega) ?_); intro v3 w3 ho3 hg3 hat3))
            refine ⟨⟨k + 1, by omega, by go_num, by rw [HS.out]; exact ho3, below_own (bal hbr (.cells #[.int .i64 (-((k : Int) + 1))] 3)) hg3 (hO.alloc _) (Nat.le_refl _)⟩, by simp [intOf]; omega⟩
        · have : k = m := by omega
          subst this
          rw [headK_len] at hle
          obtain ⟨ar, capr, rfl, hrr, _, _⟩ := hO.reps
          have hre := Repeat_any ar capr c (headK k) wr hrr (by rw [headK_len]; omega) (by rw [headK_len]; omega) (by omega) (by omega)
          rw [headK_len] at hre ⊢
          have HRE := hid hre; clear hre
          go_wp2_with fail
          refine HRE.out.mono ?_
          rintro e w5 ⟨v5, rfl, ho5, hb5⟩
          go_wp2_with fail
          go_ret2
          exact RetLE.own v5 rfl ho5 hbs (hbr.trans (hb5.mono hbs))
  · have e1 : headE x y = matE x y := by simp [headE, h]
    have e3 : matE x y = 3 := by unfold matE at *; split at h <;> simp_all
    have e2 : headL x y = [] := by rw [headL, if_neg (by rw [e1]; exact h)]
    rw [e3] at hck
    rw [e1, e2, e3]
    have HCK := hid hck; clear hck h e1 e2 e3
    by_cases c1 : 12 < x
    · go_enter Tryz.func50, Tryz.ntmps50
      go_wp2_with (first | (go_at_call 97; refine (HCK.out _).mono ?_; rintro e w' ⟨rfl, rfl⟩) | (go_at_call 89; refine (when_any _ _ _).mono ?_; rintro e w' ⟨rfl, rfl⟩) | (go_at_call 54; refine (first_any _ _ [_, _] _ (reps_newN cIntS [_, _] 2 rfl (by decide) _ _ (by simp) rfl)).mono ?_; rintro e w' ⟨rfl, rfl⟩))
      all_goals go_ret2
      all_goals exact RetLE.none rfl (bal (Below.refl _ _) _)
    · go_enter Tryz.func50, Tryz.ntmps50
      go_wp2_with (first | (go_at_call 97; refine (HCK.out _).mono ?_; rintro e w' ⟨rfl, rfl⟩) | (go_at_call 89; refine (when_any _ _ _).mono ?_; rintro e w' ⟨rfl, rfl⟩) | (go_at_call 54; refine (first_any _ _ [_, _] _ (reps_newN cIntS [_, _] 2 rfl (by decide) _ _ (by simp) rfl)).mono ?_; rintro e w' ⟨rfl, rfl⟩))
      all_goals go_ret2
      all_goals exact RetLE.none rfl (bal (Below.refl _ _) _)
end Go.Proofs.YtmomeggnegcheaaGreatDoor
