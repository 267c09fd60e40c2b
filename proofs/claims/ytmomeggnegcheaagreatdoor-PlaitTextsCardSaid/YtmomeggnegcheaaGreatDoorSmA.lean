/- Contracts of package braid: when, first, checkStrands, outside. Conditions: numbers fit an int. Contracts: Crosses; the reference's SameInts and SameWords. Conditions: slices readable, sizes as stated. -/
import Derived.Test.YtmomeggnegcheaaGreatDoorPlA
import Derived.Test.YtmomeggnegcheaaGreatDoorQA
import Derived.Test.YtmomeggnegcheaaGreatDoorPrA
import Derived.Test.YtmomeggnegcheaaGreatDoorTyA
set_option linter.all false
/- Contracts of package braid: when, first, checkStrands, outside. Conditions: numbers fit an int. -/
namespace Go.Proofs.YtmomeggnegcheaaGreatDoor
open Go.RowKit
set_option maxHeartbeats 400000
set_option maxRecDepth 100000

theorem bwhen_any (b : Bool) (e : Int) (w : World) :
    Calls Tryz.prog 139 #[.bool b, .int .i64 e] w fun r w' => r = .returned (.int .i64 (if b then e else 0)) ∧ w = w' := by
  cases b
  · go_enter Tryz.func139, Tryz.ntmps139
    go_wp2
    go_ret
    exact ⟨rfl, rfl⟩
  · go_enter Tryz.func139, Tryz.ntmps139
    go_wp2
    go_ret
    exact ⟨rfl, rfl⟩

theorem bfirst_any (a : Option Addr) (cap : Nat) (l : List Int) (w : World) (h : Ints w a cap l) :
    Calls Tryz.prog 137 #[.slice a l.length cap] w fun r w' => r = .returned (.int .i64 (firstE l)) ∧ w = w' := by
  have hcap := h.le
  have hm := h.max
  go_enter Tryz.func137, Tryz.ntmps137
  go_wp2
  go_loop [7] (fun i => ∃ k : Nat, k ≤ l.length ∧ i = .int .i64 k ∧ firstE (l.drop k) = firstE l) (fun i => l.length - (intOf i).toNat)
  case atStart => exact ⟨0, by omega, rfl, by simp⟩
  case round =>
    obtain ⟨k, hk, rfl, hf⟩ := hrel
    by_cases hlt : k < l.length
    · have hs := firstE_drop l k hlt
      have HF := hid hf; clear hf
      have HS := hid hs; clear hs
      go_wp2_with (with_reducible refine wpList_idx _ 0 E_errs F_err cInt1 (by with_unfolding_all rfl) (by with_unfolding_all rfl) (h) (by first | omega | (simp; done)) (by first | omega | (simp; done)) (fun _ => by with_unfolding_all rfl) (fun _ => ?_))
      · go_ret
        have h1 : (atD 0 l k != 0) = true := by assumption
        refine ⟨?_, rfl⟩
        have := HS.out; rw [HF.out, h1, if_pos rfl] at this; rw [this]; rfl
      · go_round
        case rel =>
          have h1 : (atD 0 l k != 0) = false := by assumption
          refine ⟨k + 1, by omega, by go_num, ?_⟩
          have := HS.out; rw [HF.out, h1] at this; exact this.symm
        case measure => simp [intOf]; omega
    · have : k = l.length := by omega
      subst this
      rw [firstE_end] at hf
      have HF := hid hf; clear hf
      go_wp2
      go_ret
      exact ⟨by rw [← HF.out]; rfl, rfl⟩

def strandsE (n : Int) : Int := if n < 1 ∨ 12 < n then 3 else 0
theorem checkStrands_any (n : Int) (w : World) :
    Calls Tryz.prog 138 #[.int .i64 n] w fun r w' => r = .returned (.int .i64 (strandsE n)) ∧ w = w' := by
  by_cases h1 : n < 1
  · have e : strandsE n = 3 := by unfold strandsE; rw [if_pos (by omega)]
    rw [e]
    go_enter Tryz.func138, Tryz.ntmps138
    go_wp2_with (go_at_call 139; refine (bwhen_any _ _ _).mono ?_; rintro e w' ⟨rfl, rfl⟩)
    go_ret
    exact ⟨rfl, rfl⟩
  by_cases h2 : 12 < n
  · have e : strandsE n = 3 := by unfold strandsE; rw [if_pos (by omega)]
    rw [e]
    go_enter Tryz.func138, Tryz.ntmps138
    go_wp2_with (go_at_call 139; refine (bwhen_any _ _ _).mono ?_; rintro e w' ⟨rfl, rfl⟩)
    go_ret
    exact ⟨rfl, rfl⟩
  · have e : strandsE n = 0 := by unfold strandsE; rw [if_neg (by omega)]
    rw [e]
    go_enter Tryz.func138, Tryz.ntmps138
    go_wp2_with (go_at_call 139; refine (bwhen_any _ _ _).mono ?_; rintro e w' ⟨rfl, rfl⟩)
    go_ret
    exact ⟨rfl, rfl⟩

def outB (n x : Int) : Bool := x == 0 || decide (x ≤ -n) || decide (n ≤ x)
theorem outside_any (n x : Int) (w : World) (h1 : 1 ≤ n) (h2 : n ≤ 12) :
    Calls Tryz.prog 142 #[.int .i64 n, .int .i64 x] w fun r w' => r = .returned (.bool (outB n x)) ∧ w = w' := by
  by_cases c1 : x = 0
  · have e : outB n x = true := by simp [outB, c1]
    have hb : (x == 0) = true := by simpa using c1
    rw [e]
    clear c1 e
    go_enter Tryz.func142, Tryz.ntmps142
    go_wp2
    go_ret
    exact ⟨rfl, rfl⟩
  have hb : (x == 0) = false := by simpa using c1
  by_cases c2 : x ≤ -n
  · have e : outB n x = true := by simp [outB, c2]
    rw [e]
    go_enter Tryz.func142, Tryz.ntmps142
    go_wp2
    go_ret
    exact ⟨rfl, rfl⟩
  by_cases c3 : n ≤ x
  · have e : outB n x = true := by simp [outB, c3]
    rw [e]
    go_enter Tryz.func142, Tryz.ntmps142
    go_wp2
    go_ret
    exact ⟨rfl, rfl⟩
  · have e : outB n x = false := by simp [outB, c1, c2, c3]
    rw [e]
    go_enter Tryz.func142, Tryz.ntmps142
    go_wp2
    go_ret
    exact ⟨rfl, rfl⟩

theorem outsideC_any (n x : Int) (b : Nat) (w : World) (h1 : 1 ≤ n) (h2 : n ≤ 12) (hc : w.cell? ⟨b, 0, none⟩ = some (.int .i64 n)) :
    Calls Tryz.prog 141 #[.int .i64 x, .pointer (some ⟨b, 0, none⟩)] w fun r w' => r = .returned (.bool (outB n x)) ∧ w = w' := by
  go_enter Tryz.func141, Tryz.ntmps141
  go_wp2_with (go_at_call 142; refine (outside_any n x _ h1 h2).mono ?_; rintro e w' ⟨rfl, rfl⟩)
  go_ret
  exact ⟨rfl, rfl⟩

/-- the place of the first letter from the k-th on that is outside. -/
def idxGo (n : Int) (l : List Int) : Nat → Nat → Int
  | _, 0 => -1
  | k, f + 1 => if outB n (atD 0 l k) then k else idxGo n l (k + 1) f
theorem idxO_any (n : Int) (b : Nat) (a : Option Addr) (cap : Nat) (l : List Int) (w : World) (hS : Ints w a cap l) (h1 : 1 ≤ n) (h2 : n ≤ 12) (hc : w.cell? ⟨b, 0, none⟩ = some (.int .i64 n)) :
    Calls Tryz.prog 179 #[.slice a l.length cap, .func (.func 141) #[] #[.pointer (some ⟨b, 0, none⟩)]] w fun r w' => r = .returned (.int .i64 (idxGo n l 0 l.length)) ∧ w = w' := by
  have hcap := hS.le
  have hm := hS.max
  go_enter Tryz.func179, Tryz.ntmps179
  go_wp2_with fail
  go_loop [8, 5] (fun i _ => ∃ k : Nat, k ≤ l.length ∧ i = .int .i64 k ∧ idxGo n l k (l.length - k) = idxGo n l 0 l.length) (fun i _ => l.length - (intOf i).toNat)
  case atStart => exact ⟨0, by omega, rfl, rfl⟩
  case round =>
    obtain ⟨k, hk, rfl, hf⟩ := hrel
    by_cases hlt : k < l.length
    · have hs : idxGo n l k (l.length - k) = if outB n (atD 0 l k) then (k : Int) else idxGo n l (k + 1) (l.length - (k + 1)) := by
        rw [show l.length - k = (l.length - (k + 1)) + 1 by omega, idxGo]
      rw [hf] at hs
      have HS := hid hs; clear hs hf
      obtain ⟨q, hq⟩ : ∃ q, q = outB n (atD 0 l k) := ⟨_, rfl⟩
      have hc := outsideC_any n (atD 0 l k) b w h1 h2 hc
      rw [← hq] at hc
      have HQ := hid hq; clear hq
      have HC := hid hc; clear hc
      cases q
      · go_wp2_with (first | (with_reducible refine wpList_idx _ 0 E_ints F_int cInt1 (by with_unfolding_all rfl) (by with_unfolding_all rfl) (hS) (by first | omega | (simp; done)) (by first | omega | (simp; done)) (fun _ => by with_unfolding_all rfl) (fun _ => ?_)) | (go_at_call 141; refine HC.out.mono ?_; rintro e w' ⟨rfl, rfl⟩))
        have h := HS.out
        rw [← HQ.out] at h
        refine ⟨⟨k + 1, by omega, by go_num, h.symm⟩, by simp [intOf]; omega⟩
      · go_wp2_with (first | (with_reducible refine wpList_idx _ 0 E_ints F_int cInt1 (by with_unfolding_all rfl) (by with_unfolding_all rfl) (hS) (by first | omega | (simp; done)) (by first | omega | (simp; done)) (fun _ => by with_unfolding_all rfl) (fun _ => ?_)) | (go_at_call 141; refine HC.out.mono ?_; rintro e w' ⟨rfl, rfl⟩))
        have h := HS.out
        rw [← HQ.out] at h
        go_ret
        exact ⟨by rw [h]; rfl, rfl⟩
    · have : k = l.length := by omega
      subst this
      rw [Nat.sub_self, idxGo] at hf
      have HF := hid hf; clear hf
      go_wp2_with fail
      go_ret
      exact ⟨by rw [← HF.out]; rfl, rfl⟩

theorem idxGo_neg (n : Int) (l : List Int) : ∀ (f k : Nat), (0 ≤ idxGo n l k f) ↔ ∃ j, k ≤ j ∧ j < k + f ∧ outB n (atD 0 l j) = true
  | 0, k => by
    simp only [idxGo]
    constructor
    · intro h; omega
    · rintro ⟨j, h1, h2, _⟩; omega
  | f + 1, k => by
    rw [idxGo]
    by_cases h : outB n (atD 0 l k) = true
    · rw [if_pos h]
      exact ⟨fun _ => ⟨k, by omega, by omega, h⟩, fun _ => by omega⟩
    · rw [if_neg h, idxGo_neg n l f (k + 1)]
      constructor
      · rintro ⟨j, h1, h2, h3⟩; exact ⟨j, by omega, by omega, h3⟩
      · rintro ⟨j, h1, h2, h3⟩
        rcases Nat.eq_or_lt_of_le h1 with e | e
        · subst e; exact absurd h3 h
        · exact ⟨j, by omega, by omega, h3⟩

theorem containsO_any (n : Int) (b : Nat) (a : Option Addr) (cap : Nat) (l : List Int) (w : World) (hS : Ints w a cap l) (h1 : 1 ≤ n) (h2 : n ≤ 12) (hc : w.cell? ⟨b, 0, none⟩ = some (.int .i64 n)) :
    Calls Tryz.prog 140 #[.slice a l.length cap, .func (.func 141) #[] #[.pointer (some ⟨b, 0, none⟩)]] w fun r w' => r = .returned (.bool (decide (0 ≤ idxGo n l 0 l.length))) ∧ w = w' := by
  go_enter Tryz.func140, Tryz.ntmps140
  go_wp2_with (go_at_call 179; refine (idxO_any n b a cap l _ hS h1 h2 hc).mono ?_; rintro e w' ⟨rfl, rfl⟩)
  go_ret
  exact ⟨rfl, rfl⟩

def wordE (n : Int) (l : List Int) : Int := if strandsE n ≠ 0 then 3 else if 200 < l.length then 5 else if 0 ≤ idxGo n l 0 l.length then 3 else 0
theorem CheckWord_any (n : Int) (a : Option Addr) (cap : Nat) (l : List Int) (w : World) (hS : Ints w a cap l) (hsm : l.length ≤ 1048576) :
    Calls Tryz.prog 92 #[.int .i64 n, .slice a l.length cap] w fun r w' => r = .returned (.int .i64 (wordE n l)) ∧ Below w.heap.size w w' := by
  have hcap := hS.le
  have hm := hS.max
  have hk := fun w => checkStrands_any n w
  by_cases h : strandsE n = 0
  · have hn : 1 ≤ n ∧ n ≤ 12 := by unfold strandsE at h; split at h <;> omega
    rw [h] at hk
    have HK := hid hk; clear hk
    by_cases h2 : 200 < l.length
    · have e : wordE n l = 5 := by simp [wordE, h, h2]
      rw [e]
      clear h e
      go_enter Tryz.func92, Tryz.ntmps92
      go_wp2_with (first | (go_at_call 138; refine (HK.out _).mono ?_; rintro e w' ⟨rfl, rfl⟩) | (go_at_call 139; refine (bwhen_any _ _ _).mono ?_; rintro e w' ⟨rfl, rfl⟩) | (go_at_call 137; refine (bfirst_any _ _ [_, _] _ (reps_newN cIntS [_, _] 2 rfl (by decide) _ _ (by simp) rfl)).mono ?_; rintro e w' ⟨rfl, rfl⟩))
      go_ret
      exact ⟨rfl, bal (bal (Below.refl _ _) _) _⟩
    · have e : wordE n l = if 0 ≤ idxGo n l 0 l.length then 3 else 0 := by simp [wordE, h, h2]
      have hct := fun (w : World) (b : Nat) hS hc => containsO_any n b a cap l w hS hn.1 hn.2 hc
      obtain ⟨q, hq⟩ : ∃ q, q = decide (0 ≤ idxGo n l 0 l.length) := ⟨_, rfl⟩
      rw [← hq] at hct
      have e2 : wordE n l = if q then 3 else 0 := by rw [e, hq]; simp
      rw [e2]
      have HCT := hid hct
      clear h e e2 hq hct
      cases q
      all_goals
        go_enter Tryz.func92, Tryz.ntmps92
        go_wp2_with (first | (go_at_call 138; refine (HK.out _).mono ?_; rintro e w' ⟨rfl, rfl⟩) | (go_at_call 139; refine (bwhen_any _ _ _).mono ?_; rintro e w' ⟨rfl, rfl⟩) | (go_at_call 137; refine (bfirst_any _ _ [_, _] _ (reps_newN cIntS [_, _] 2 rfl (by decide) _ _ (by simp) rfl)).mono ?_; rintro e w' ⟨rfl, rfl⟩) | (go_at_call 140; refine (HCT.out _ _ ((hS.alloc _).alloc _) (by simp [go_sem])).mono ?_; rintro e w' ⟨rfl, rfl⟩))
        go_ret
        exact ⟨rfl, bal (bal (Below.refl _ _) _) _⟩
  · have h3 : strandsE n = 3 := by unfold strandsE at *; split <;> simp_all
    have e : wordE n l = 3 := by simp [wordE, h3]
    rw [e]
    rw [h3] at hk
    have HK := hid hk; clear hk h h3 e
    go_enter Tryz.func92, Tryz.ntmps92
    go_wp2_with (first | (go_at_call 138; refine (HK.out _).mono ?_; rintro e w' ⟨rfl, rfl⟩) | (go_at_call 139; refine (bwhen_any _ _ _).mono ?_; rintro e w' ⟨rfl, rfl⟩) | (go_at_call 137; refine (bfirst_any _ _ [_, _] _ (reps_newN cIntS [_, _] 2 rfl (by decide) _ _ (by simp) rfl)).mono ?_; rintro e w' ⟨rfl, rfl⟩))
    all_goals
      go_ret
      exact ⟨rfl, bal (bal (Below.refl _ _) _) _⟩
end Go.Proofs.YtmomeggnegcheaaGreatDoor

/- Contracts: Crosses; the reference's SameInts and SameWords. Conditions: slices readable, sizes as stated. -/
namespace Go.Proofs.YtmomeggnegcheaaGreatDoor
open Go.RowKit
set_option maxHeartbeats 1000000
set_option maxRecDepth 100000

theorem drop_step {α : Type} [DecidableEq α] (d : α) (l m : List α) (h : l.length = m.length) (k : Nat) (hk : k < l.length) : decide (l.drop k = m.drop k) = (decide (atD d l k = atD d m k) && decide (l.drop (k + 1) = m.drop (k + 1))) := by
  have e2 : atD d l k = l[k] := by simp [atD, hk]
  have e3 : atD d m k = m[k] := by simp [atD, h ▸ hk]
  have hk2 : k < m.length := h ▸ hk
  rw [List.drop_eq_getElem_cons hk, List.drop_eq_getElem_cons hk2, e2, e3]
  rw [Bool.eq_iff_iff, Bool.and_eq_true, decide_eq_true_iff, decide_eq_true_iff, decide_eq_true_iff, List.cons.injEq]

theorem SameInts_any (a a2 : Option Addr) (cap cap2 : Nat) (l m : List Int) (w : World) (hS : Ints w a cap l) (hM : Ints w a2 cap2 m) (hl : l.length ≤ 1048576) :
    Calls Tryz.prog 20 #[.slice a l.length cap, .slice a2 m.length cap2] w fun r w' => r = .returned (.bool (decide (l = m))) ∧ Below w.heap.size w w' := by
  have hcap := hS.le
  have hm := hS.max
  have hcap2 := hM.le
  have hm2 := hM.max
  by_cases hlen : l.length = m.length
  · have HL := hid hlen
    go_enter Tryz.func20, Tryz.ntmps20
    go_wp2_with fail
    go_loopw [5] (fun i wr => ∃ k : Nat, k ≤ l.length ∧ i = .int .i64 k ∧ decide (l.drop k = m.drop k) = decide (l = m) ∧ Below w.heap.size w wr) (fun i _ => l.length - (intOf i).toNat)
    case atStart => exact ⟨0, by omega, rfl, rfl, Below.refl _ _⟩
    case round =>
      obtain ⟨k, hk, rfl, hf, hbr⟩ := hrel
      by_cases hlt : k < l.length
      · have hs := drop_step 0 l m HL.out k hlt
        rw [hf] at hs
        have HS := hid hs; clear hs hf
        have hx : (k : Int) < m.length := by rw [← HL.out]; omega
        have hS5 := hS.below hbr
        have hS6 := hM.below hbr
        clear hlen
        go_wp2_with fail
        refine wp_region_quiet_lit (by kernel_rfl) (by kernel_rfl) ?_
        repeat (first | ((with_reducible refine wpQD_idx 0 E_ints F_int cInt1 (by with_unfolding_all rfl) (by with_unfolding_all rfl) (hS5) (by first | omega | (simp; done)) (by first | omega | (simp; done)) (fun _ => by with_unfolding_all rfl) (fun _ => ?_)); (try simp only [Act.put, List.setIfInBounds_toArray, List.set_cons_zero, List.set_cons_succ]); (try simp only [cInt])) | ((with_reducible refine wpQD_idx 0 E_ints F_int cInt1 (by with_unfolding_all rfl) (by with_unfolding_all rfl) (hS6) (by first | omega | (simp; done)) (by first | omega | (simp; done)) (fun _ => by with_unfolding_all rfl) (fun _ => ?_)); (try simp only [Act.put, List.setIfInBounds_toArray, List.set_cons_zero, List.set_cons_succ]); (try simp only [cInt])) | quiet_step (fail))
        refine wpQuiet_nil ?_
        intro w5 hb5
        replace hb5 := below_drewN hb5
        have b5 := bnext hbr hb5
        go_wp2_with fail
        · have hd : (atD 0 l k != atD 0 m k) = true := by assumption
          have h := HS.out
          rw [show decide (atD 0 l k = atD 0 m k) = false by simpa using hd, Bool.false_and] at h
          go_ret
          exact ⟨by rw [h]; rfl, b5⟩
        · have hd : (atD 0 l k != atD 0 m k) = false := by assumption
          have h := HS.out
          rw [show decide (atD 0 l k = atD 0 m k) = true by simpa using hd, Bool.true_and] at h
          exact ⟨⟨k + 1, by omega, by go_num, h.symm, b5⟩, by simp [intOf]; omega⟩
      · have : k = l.length := by omega
        subst this
        rw [List.drop_length, HL.out, List.drop_length] at hf
        have HF := hid hf; clear hf hlen
        go_wp2_with fail
        go_ret
        exact ⟨by rw [← HF.out]; rfl, hbr⟩
  · have e : decide (l = m) = false := by
      simp only [decide_eq_false_iff_not]; intro e; exact hlen (by rw [e])
    rw [e]
    have hb : ((l.length : Int) != m.length) = true := by simp; omega
    clear e
    go_enter Tryz.func20, Tryz.ntmps20
    go_wp2_with fail
    go_ret
    exact ⟨rfl, Below.refl _ _⟩

theorem eqS (x y : ByteArray) : (x.toList == y.toList) = decide (x = y) := by
  rw [Bool.eq_iff_iff, decide_eq_true_iff, beq_iff_eq]
  constructor
  · intro h
    rw [ByteArray.toList_eq, ByteArray.toList_eq] at h
    have := Array.toList_inj.1 h
    cases x; cases y; simp_all
  · rintro rfl; rfl
theorem SameWords_any (a a2 : Option Addr) (cap cap2 : Nat) (l m : List ByteArray) (w : World) (hS : Reps cStr 1 w a cap l) (hM : Reps cStr 1 w a2 cap2 m) (hl : l.length ≤ 1048576) :
    Calls Tryz.prog 51 #[.slice a l.length cap, .slice a2 m.length cap2] w fun r w' => r = .returned (.bool (decide (l = m))) ∧ Below w.heap.size w w' := by
  have hcap := hS.le
  have hm := hS.max
  have hcap2 := hM.le
  have hm2 := hM.max
  by_cases hlen : l.length = m.length
  · have HL := hid hlen
    go_enter Tryz.func51, Tryz.ntmps51
    go_wp2_with fail
    go_loopw [5] (fun i wr => ∃ k : Nat, k ≤ l.length ∧ i = .int .i64 k ∧ decide (l.drop k = m.drop k) = decide (l = m) ∧ Below w.heap.size w wr) (fun i _ => l.length - (intOf i).toNat)
    case atStart => exact ⟨0, by omega, rfl, rfl, Below.refl _ _⟩
    case round =>
      obtain ⟨k, hk, rfl, hf, hbr⟩ := hrel
      by_cases hlt : k < l.length
      · have hs := drop_step ByteArray.empty l m HL.out k hlt
        rw [hf] at hs
        have HS := hid hs; clear hs hf
        have hx : (k : Int) < m.length := by rw [← HL.out]; omega
        have hS5 := hS.below hbr
        have hS6 := hM.below hbr
        clear hlen
        go_wp2_with fail
        refine wp_region_quiet_lit (by kernel_rfl) (by kernel_rfl) ?_
        repeat (first | ((with_reducible refine wpQD_idx ByteArray.empty E_strs F_str cStr1 (by with_unfolding_all rfl) (by with_unfolding_all rfl) (hS5) (by first | omega | (simp; done)) (by first | omega | (simp; done)) (fun _ => by with_unfolding_all rfl) (fun _ => ?_)); (try simp only [Act.put, List.setIfInBounds_toArray, List.set_cons_zero, List.set_cons_succ]); (try simp only [cInt])) | ((with_reducible refine wpQD_idx ByteArray.empty E_strs F_str cStr1 (by with_unfolding_all rfl) (by with_unfolding_all rfl) (hS6) (by first | omega | (simp; done)) (by first | omega | (simp; done)) (fun _ => by with_unfolding_all rfl) (fun _ => ?_)); (try simp only [Act.put, List.setIfInBounds_toArray, List.set_cons_zero, List.set_cons_succ]); (try simp only [cInt])) | quiet_step (fail))
        refine wpQuiet_nil ?_
        intro w5 hb5
        replace hb5 := below_drewN hb5
        have b5 := bnext hbr hb5
        go_wp2_with fail
        · have hd : (!(atD ByteArray.empty l k).toList == (atD ByteArray.empty m k).toList) = true := by assumption
          have h := HS.out
          rw [show decide (atD ByteArray.empty l k = atD ByteArray.empty m k) = false by rw [eqS] at hd; simpa using hd, Bool.false_and] at h
          go_ret
          exact ⟨by rw [h]; rfl, b5⟩
        · have hd : (!(atD ByteArray.empty l k).toList == (atD ByteArray.empty m k).toList) = false := by assumption
          have h := HS.out
          rw [show decide (atD ByteArray.empty l k = atD ByteArray.empty m k) = true by rw [eqS] at hd; simpa using hd, Bool.true_and] at h
          exact ⟨⟨k + 1, by omega, by go_num, h.symm, b5⟩, by simp [intOf]; omega⟩
      · have : k = l.length := by omega
        subst this
        rw [List.drop_length, HL.out, List.drop_length] at hf
        have HF := hid hf; clear hf hlen
        go_wp2_with fail
        go_ret
        exact ⟨by rw [← HF.out]; rfl, hbr⟩
  · have e : decide (l = m) = false := by
      simp only [decide_eq_false_iff_not]; intro e; exact hlen (by rw [e])
    rw [e]
    have hb : ((l.length : Int) != m.length) = true := by simp; omega
    clear e
    go_enter Tryz.func51, Tryz.ntmps51
    go_wp2_with fail
    go_ret
    exact ⟨rfl, Below.refl _ _⟩

/-- A list of pairs and an error came back. -/
def RetPE (W : World) (L : List (Int × Int)) (e : Int) (r : Ending) (w' : World) : Prop :=
  ∃ a cap, r = .returned (.tuple #[.slice a L.length cap, .int .i64 e]) ∧ Pairs w' a cap L ∧ (∀ b, a = some b → W.heap.size ≤ b.block) ∧ Below W.heap.size W w'
theorem pairs_nil (w : World) : Pairs w none 0 [] := ⟨cPairS, Nat.le_refl _, Nat.zero_le _, fun _ => rfl, fun j u hu => by simp at hu⟩
theorem RetPE.none {W w' : World} {e : Int} {r : Ending} (h1 : r = .returned (.tuple #[.slice none 0 0, .int .i64 e])) (h4 : Below W.heap.size W w') : RetPE W [] e r w' :=
  ⟨.none, 0, h1, pairs_nil _, (fun _ h => by cases h), h4⟩
theorem RetPE.own {W w' : World} {L : List (Int × Int)} {e : Int} {r : Ending} {B : Nat} {t : TypeId} (v : Value) (h1 : r = .returned (.tuple #[v, .int .i64 e])) (h2 : OwnP B t w' v L) (hB : W.heap.size ≤ B) (h4 : Below W.heap.size W w') : RetPE W L e r w' := by
  obtain ⟨a, cap, rfl, hr, hf, _⟩ := h2.reps
  exact ⟨a, cap, h1, hr, fun b hb => Nat.le_trans hB (hf b hb).1, h4⟩

/-- a word that CheckWord accepts fits the strands. -/
theorem wordE_fits {n : Int} {ws : List Int} (h : wordE n ws = 0) : 1 ≤ n ∧ n ≤ 12 ∧ ws.length ≤ 200 ∧ ∀ x ∈ ws, x ≠ 0 ∧ -n < x ∧ x < n := by
  unfold wordE strandsE at h
  split at h
  · omega
  · next h1 =>
    split at h
    · omega
    · split at h
      · omega
      · next h2 h3 =>
        have h1' : 1 ≤ n ∧ n ≤ 12 := by omega
        refine ⟨h1'.1, h1'.2, by omega, fun x hx => ?_⟩
        obtain ⟨j, hj, rfl⟩ := List.getElem_of_mem hx
        have h4 : ¬ outB n (atD 0 ws j) = true := fun h => by
          have := (idxGo_neg n ws ws.length 0).2 ⟨j, by omega, by omega, h⟩
          omega
        have e2 : atD 0 ws j = ws[j] := by simp [atD, hj]
        rw [e2] at h4
        simp only [outB, Bool.or_eq_true, beq_iff_eq, decide_eq_true_eq, not_or] at h4
        omega
theorem wordE_fitsW {n : Int} {ws : List Int} (h : wordE n ws = 0) : fitsW n.toNat ws := by
  obtain ⟨h1, h2, h3, h4⟩ := wordE_fits h
  intro x hx
  have := h4 x hx
  unfold absI
  omega
theorem wordE_fitsW2 {n : Int} {ws : List Int} (h : wordE n ws = 0) (h0 : ws ≠ []) : 2 ≤ n := by
  obtain ⟨h1, h2, h3, h4⟩ := wordE_fits h
  match ws, h0 with
  | x :: r, _ => have := h4 x (by simp); omega
def crossL (n : Int) (ws : List Int) : List (Int × Int) := if wordE n ws = 0 then (rowL n.toNat ws).2 else []

theorem Crosses_any (n : Int) (a : Option Addr) (cap : Nat) (l : List Int) (w : World) (hS : Ints w a cap l) (hsm : l.length ≤ 1048576) :
    Calls Tryz.prog 42 #[.int .i64 n, .slice a l.length cap] w fun r w' => RetPE w (crossL n l) (wordE n l) r w' := by
  have hcap := hS.le
  have hm := hS.max
  have hk := CheckWord_any n a cap l w hS hsm
  by_cases h : wordE n l = 0
  · obtain ⟨h1, h2, h3, _⟩ := wordE_fits h
    have hf := wordE_fitsW h
    have e : crossL n l = (rowL n.toNat l).2 := if_pos h
    rw [e, h]
    rw [h] at hk
    obtain ⟨m, rfl⟩ : ∃ m : Nat, n = m := ⟨n.toNat, by omega⟩
    simp only [Int.toNat_natCast] at hf ⊢
    have HK := hid hk; clear hk h e
    have HF := hid hf; clear hf
    go_enter Tryz.func42, Tryz.ntmps42
    go_wp2_with fail
    refine HK.out.mono ?_
    rintro e w1 ⟨rfl, hb1⟩
    go_wp2_with fail
    refine (rowOf_any m a cap l w1 (hS.below hb1) (by omega) (by omega) (by omega) HF.out).mono ?_
    rintro e w2 ⟨rfl, hR, hb2⟩
    obtain ⟨g, cp, vc, hrow, hO, hP, _, _⟩ := hR
    have c1 : w2.cell? ⟨w1.heap.size, 1, none⟩ = some vc := by rw [cell_of_row _ _ _ _ _ _ hrow]; rfl
    have hb := bnext hb1 hb2
    have z1 := hb1.size
    have HROW := hid hrow; clear hrow
    go_wp2_with fail
    go_ret2
    exact RetPE.own vc rfl hP (by omega) hb
  · have e : crossL n l = [] := if_neg h
    obtain ⟨q, hq⟩ : ∃ q, q = wordE n l := ⟨_, rfl⟩
    rw [e, ← hq]
    rw [← hq] at h hk
    have hne : (q != 0) = true := by simpa using h
    have HK := hid hk; clear hk h e hq
    go_enter Tryz.func42, Tryz.ntmps42
    go_wp2_with fail
    refine HK.out.mono ?_
    rintro e w1 ⟨rfl, hb1⟩
    go_wp2_with fail
    go_ret2
    exact RetPE.none rfl hb1
end Go.Proofs.YtmomeggnegcheaaGreatDoor
