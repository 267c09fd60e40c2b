/- Contracts and plain facts that the claim uses (SmA SnA Ps1 McA Rp1 NuA TxA SpA CyA LtA RlB RG). Conditions: as each one states. -/
import Derived.Test.YtngpopalpofhgaaGreatDoorProg
import Derived.WalkKit
import Derived.WalkSpells
import Derived.Maps.AppendAt
import Derived.Deep.Quiet
import Derived.Maps.Own
import Derived.Maps.OwnSet
import Derived.Maps.Views
import Derived.WalkLawsBesides
import Derived.Laws.EntriesVeiled
import Derived.Deep.QuietTactic
import Derived.BigQuiet
import Derived.Deep.RegionHeld3
import Derived.Deep.AppendLies
import Derived.Deep.RegionHeldLaw
import Derived.Deep.RegionLaw
import Derived.Shelf.Strings.Trim
import Derived.Shelf.Strings.SlTrimAscii
import Derived.Shelf.Strings.Repeat
import Derived.Shelf.Strings.OnBuilder
import Derived.Shelf.Strconv.Itoa1
import Derived.Shelf.Strconv.Itoa3
import Derived.Shelf.LaysM
import Derived.Ground.Names2Prog
import Derived.Lib.OthersKept
import Derived.Laws.CopyOwn
import Derived.IntWalk
import Derived.RangeFuncNested
import Derived.RangeFuncBound
import Derived.RangeFuncCalls
import Derived.RangeFuncLeaves
import Derived.RangeFuncFrom
import Derived.Shelf.Abstract
import Derived.Shelf.RegionOpen
import Derived.OwnWalkIn
import Derived.TacticsInMore
import Derived.LoopNIn
import Derived.LoopIn
import Derived.StillTail
import Derived.Laws.Tables
import Derived.BigRegion
import Derived.ChangeAlike
import Derived.Shelf.Bits.Mul64
import Derived.Lib.ItoaLen
import Derived.Lib.ItoaMem
import Derived.Sort.LoopGhostIn
import Derived.Maps.RangeWalk
import Derived.Test.YtngpopalpofhgaaGreatDoorXz01
import Derived.Test.YtngpopalpofhgaaGreatDoorXz02
set_option linter.all false

namespace Go.Proofs.YtngpopalpofhgaaGreatDoor
open Go.RowKit
set_option maxHeartbeats 400000
set_option maxRecDepth 100000

theorem bwhen_any (b : Bool) (e : Int) (w : World) :
  Calls Tryz.prog 107 #[.bool b, .int .i64 e] w fun r w' => r = .returned (.int .i64 (if b then e else 0)) ∧ w = w' := by
 cases b
 ·go_enter Tryz.func107, Tryz.ntmps107
  go_wp2
  go_ret
  exact ⟨rfl, rfl⟩
 ·go_enter Tryz.func107, Tryz.ntmps107
  go_wp2
  go_ret
  exact ⟨rfl, rfl⟩

theorem bfirst_any (a : Option Addr) (cap : Nat) (l : List Int) (w : World) (h : Ints w a cap l) :
  Calls Tryz.prog 105 #[.slice a l.length cap] w fun r w' => r = .returned (.int .i64 (firstE l)) ∧ w = w' := by
 have hcap := h.le
 have hm := h.max
 go_enter Tryz.func105, Tryz.ntmps105
 go_wp2
 go_loop [7] (fun i => ∃ k : Nat, k ≤ l.length ∧ i = .int .i64 k ∧ firstE (l.drop k) = firstE l) (fun i => l.length - (intOf i).toNat)
 case atStart => exact ⟨0, by omega, rfl, by simp⟩
 case round =>
  obtain ⟨k, hk, rfl, hf⟩ := hrel
  by_cases hlt : k < l.length
  ·have hs := firstE_drop l k hlt
   have HF := hid hf; clear hf
   have HS := hid hs; clear hs
   go_wp2_with (with_reducible refine wpList_idx _ 0 E_errs F_err cInt1 wU wU (h) oD oD (fun _ => wU) (fun _ => ?_))
   ·go_ret
    have h1 : (atD 0 l k != 0) = true := by assumption
    refine ⟨?_, rfl⟩
    have := HS.out; rw [HF.out, h1, if_pos rfl] at this; rw [this]; rfl
   ·go_round
    case rel =>
     have h1 : (atD 0 l k != 0) = false := by assumption
     refine ⟨k + 1, by omega, by go_num, ?_⟩
     have := HS.out; rw [HF.out, h1] at this; exact this.symm
    case measure => simp [intOf]; omega
  ·have : k = l.length := by omega
   subst this
   rw [firstE_end] at hf
   have HF := hid hf; clear hf
   go_wp2
   go_ret
   exact ⟨by rw [← HF.out]; rfl, rfl⟩

def strandsE (n : Int) : Int := if n < 1 ∨ 12 < n then 3 else 0
theorem checkStrands_any (n : Int) (w : World) :
  Calls Tryz.prog 106 #[.int .i64 n] w fun r w' => r = .returned (.int .i64 (strandsE n)) ∧ w = w' := by
 by_cases h1 : n < 1
 ·have e : strandsE n = 3 := by unfold strandsE; rw [if_pos (by omega)]
  rw [e]
  go_enter Tryz.func106, Tryz.ntmps106
  go_wp2_with (go_at_call 107; refine (bwhen_any _ _ _).mono ?_; rintro e w' ⟨rfl, rfl⟩)
  go_ret
  exact ⟨rfl, rfl⟩
 by_cases h2 : 12 < n
 ·have e : strandsE n = 3 := by unfold strandsE; rw [if_pos (by omega)]
  rw [e]
  go_enter Tryz.func106, Tryz.ntmps106
  go_wp2_with (go_at_call 107; refine (bwhen_any _ _ _).mono ?_; rintro e w' ⟨rfl, rfl⟩)
  go_ret
  exact ⟨rfl, rfl⟩
 ·have e : strandsE n = 0 := by unfold strandsE; rw [if_neg (by omega)]
  rw [e]
  go_enter Tryz.func106, Tryz.ntmps106
  go_wp2_with (go_at_call 107; refine (bwhen_any _ _ _).mono ?_; rintro e w' ⟨rfl, rfl⟩)
  go_ret
  exact ⟨rfl, rfl⟩

def outB (n x : Int) : Bool := x == 0 || decide (x ≤ -n) || decide (n ≤ x)
theorem outside_any (n x : Int) (w : World) (h1 : 1 ≤ n) (h2 : n ≤ 12) :
  Calls Tryz.prog 110 #[.int .i64 n, .int .i64 x] w fun r w' => r = .returned (.bool (outB n x)) ∧ w = w' := by
 by_cases c1 : x = 0
 ·have e : outB n x = true := by simp [outB, c1]
  have hb : (x == 0) = true := by simpa using c1
  rw [e]
  clear c1 e
  go_enter Tryz.func110, Tryz.ntmps110
  go_wp2
  go_ret
  exact ⟨rfl, rfl⟩
 have hb : (x == 0) = false := by simpa using c1
 by_cases c2 : x ≤ -n
 ·have e : outB n x = true := by simp [outB, c2]
  rw [e]
  go_enter Tryz.func110, Tryz.ntmps110
  go_wp2
  go_ret
  exact ⟨rfl, rfl⟩
 by_cases c3 : n ≤ x
 ·have e : outB n x = true := by simp [outB, c3]
  rw [e]
  go_enter Tryz.func110, Tryz.ntmps110
  go_wp2
  go_ret
  exact ⟨rfl, rfl⟩
 ·have e : outB n x = false := by simp [outB, c1, c2, c3]
  rw [e]
  go_enter Tryz.func110, Tryz.ntmps110
  go_wp2
  go_ret
  exact ⟨rfl, rfl⟩

theorem outsideC_any (n x : Int) (b : Nat) (w : World) (h1 : 1 ≤ n) (h2 : n ≤ 12) (hc : w.cell? ⟨b, 0, none⟩ = some (.int .i64 n)) :
  Calls Tryz.prog 109 #[.int .i64 x, .pointer (some ⟨b, 0, none⟩)] w fun r w' => r = .returned (.bool (outB n x)) ∧ w = w' := by
 go_enter Tryz.func109, Tryz.ntmps109
 go_wp2_with (go_at_call 110; refine (outside_any n x _ h1 h2).mono ?_; rintro e w' ⟨rfl, rfl⟩)
 go_ret
 exact ⟨rfl, rfl⟩

/-- the place of the first letter from the k-th on that is outside. -/
def idxGo (n : Int) (l : List Int) : Nat → Nat → Int
 | _, 0 => -1
 | k, f + 1 => if outB n (atD 0 l k) then k else idxGo n l (k + 1) f
theorem idxO_any (n : Int) (b : Nat) (a : Option Addr) (cap : Nat) (l : List Int) (w : World) (hS : Ints w a cap l) (h1 : 1 ≤ n) (h2 : n ≤ 12) (hc : w.cell? ⟨b, 0, none⟩ = some (.int .i64 n)) :
  Calls Tryz.prog 159 #[.slice a l.length cap, .func (.func 109) #[] #[.pointer (some ⟨b, 0, none⟩)]] w fun r w' => r = .returned (.int .i64 (idxGo n l 0 l.length)) ∧ w = w' := by
 have hcap := hS.le
 have hm := hS.max
 go_enter Tryz.func159, Tryz.ntmps159
 go_wp2_with fail
 go_loop [8, 5] (fun i _ => ∃ k : Nat, k ≤ l.length ∧ i = .int .i64 k ∧ idxGo n l k (l.length - k) = idxGo n l 0 l.length) (fun i _ => l.length - (intOf i).toNat)
 case atStart => exact ⟨0, by omega, rfl, rfl⟩
 case round =>
  obtain ⟨k, hk, rfl, hf⟩ := hrel
  by_cases hlt : k < l.length
  ·have hs : idxGo n l k (l.length - k) = if outB n (atD 0 l k) then (k : Int) else idxGo n l (k + 1) (l.length - (k + 1)) := by
    rw [show l.length - k = (l.length - (k + 1)) + 1 by omega, idxGo]
   rw [hf] at hs
   have HS := hid hs; clear hs hf
   obtain ⟨q, hq⟩ : ∃ q, q = outB n (atD 0 l k) := ⟨_, rfl⟩
   have hc := outsideC_any n (atD 0 l k) b w h1 h2 hc
   rw [← hq] at hc
   have HQ := hid hq; clear hq
   have HC := hid hc; clear hc
   cases q
   ·go_wp2_with (first | (with_reducible refine wpList_idx _ 0 E_ints F_int cInt1 wU wU (hS) oD oD (fun _ => wU) (fun _ => ?_)) | (go_at_call 109; refine HC.out.mono ?_; rintro e w' ⟨rfl, rfl⟩))
    have h := HS.out
    rw [← HQ.out] at h
    refine ⟨⟨k + 1, by omega, by go_num, h.symm⟩, by simp [intOf]; omega⟩
   ·go_wp2_with (first | (with_reducible refine wpList_idx _ 0 E_ints F_int cInt1 wU wU (hS) oD oD (fun _ => wU) (fun _ => ?_)) | (go_at_call 109; refine HC.out.mono ?_; rintro e w' ⟨rfl, rfl⟩))
    have h := HS.out
    rw [← HQ.out] at h
    go_ret
    exact ⟨by rw [h]; rfl, rfl⟩
  ·have : k = l.length := by omega
   subst this
   rw [Nat.sub_self, idxGo] at hf
   have HF := hid hf; clear hf
   go_wp2_with fail
   go_ret
   exact ⟨by rw [← HF.out]; rfl, rfl⟩

theorem idxGo_neg (n : Int) (l : List Int) : ∀ (f k : Nat), (0 ≤ idxGo n l k f) ↔ ∃ j, k ≤ j ∧ j < k + f ∧ outB n (atD 0 l j) = true
 | 0, k => by
   simp only [idxGo]
   constructor
   · intro h; omega
   · rintro ⟨j, h1, h2, _⟩; omega
 | f + 1, k => by
   rw [idxGo]
   by_cases h : outB n (atD 0 l k) = true
   · rw [if_pos h]
     exact ⟨fun _ => ⟨k, by omega, by omega, h⟩, fun _ => by omega⟩
   · rw [if_neg h, idxGo_neg n l f (k + 1)]
     constructor
     · rintro ⟨j, h1, h2, h3⟩; exact ⟨j, by omega, by omega, h3⟩
     · rintro ⟨j, h1, h2, h3⟩
       rcases Nat.eq_or_lt_of_le h1 with e | e
       · subst e; exact absurd h3 h
       · exact ⟨j, by omega, by omega, h3⟩

theorem containsO_any (n : Int) (b : Nat) (a : Option Addr) (cap : Nat) (l : List Int) (w : World) (hS : Ints w a cap l) (h1 : 1 ≤ n) (h2 : n ≤ 12) (hc : w.cell? ⟨b, 0, none⟩ = some (.int .i64 n)) :
  Calls Tryz.prog 108 #[.slice a l.length cap, .func (.func 109) #[] #[.pointer (some ⟨b, 0, none⟩)]] w fun r w' => r = .returned (.bool (decide (0 ≤ idxGo n l 0 l.length))) ∧ w = w' := by
 go_enter Tryz.func108, Tryz.ntmps108
 go_wp2_with (go_at_call 159; refine (idxO_any n b a cap l _ hS h1 h2 hc).mono ?_; rintro e w' ⟨rfl, rfl⟩)
 go_ret
 exact ⟨rfl, rfl⟩

def wordE (n : Int) (l : List Int) : Int := if strandsE n ≠ 0 then 3 else if 200 < l.length then 5 else if 0 ≤ idxGo n l 0 l.length then 3 else 0
theorem CheckWord_any (n : Int) (a : Option Addr) (cap : Nat) (l : List Int) (w : World) (hS : Ints w a cap l) (hsm : l.length ≤ 1048576) :
  Calls Tryz.prog 44 #[.int .i64 n, .slice a l.length cap] w fun r w' => r = .returned (.int .i64 (wordE n l)) ∧ Below w.heap.size w w' := by
 have hcap := hS.le
 have hm := hS.max
 have hk := fun w => checkStrands_any n w
 by_cases h : strandsE n = 0
 ·have hn : 1 ≤ n ∧ n ≤ 12 := by unfold strandsE at h; split at h <;> omega
  rw [h] at hk
  have HK := hid hk; clear hk
  by_cases h2 : 200 < l.length
  ·have e : wordE n l = 5 := by simp [wordE, h, h2]
   rw [e]
   clear h e
   go_enter Tryz.func44, Tryz.ntmps44
   go_wp2_with (first | (go_at_call 106; refine (HK.out _).mono ?_; rintro e w' ⟨rfl, rfl⟩) | (go_at_call 107; refine (bwhen_any _ _ _).mono ?_; rintro e w' ⟨rfl, rfl⟩) | (go_at_call 105; refine (bfirst_any _ _ [_, _] _ (reps_newN cIntS [_, _] 2 rfl (by decide) _ _ (by simp) rfl)).mono ?_; rintro e w' ⟨rfl, rfl⟩))
   go_ret
   exact ⟨rfl, bal (bal (Below.refl _ _) _) _⟩
  ·have e : wordE n l = if 0 ≤ idxGo n l 0 l.length then 3 else 0 := by simp [wordE, h, h2]
   have hct := fun (w : World) (b : Nat) hS hc => containsO_any n b a cap l w hS hn.1 hn.2 hc
   obtain ⟨q, hq⟩ : ∃ q, q = decide (0 ≤ idxGo n l 0 l.length) := ⟨_, rfl⟩
   rw [← hq] at hct
   have e2 : wordE n l = if q then 3 else 0 := by rw [e, hq]; simp
   rw [e2]
   have HCT := hid hct
   clear h e e2 hq hct
   cases q
   all_goals
    go_enter Tryz.func44, Tryz.ntmps44
    go_wp2_with (first | (go_at_call 106; refine (HK.out _).mono ?_; rintro e w' ⟨rfl, rfl⟩) | (go_at_call 107; refine (bwhen_any _ _ _).mono ?_; rintro e w' ⟨rfl, rfl⟩) | (go_at_call 105; refine (bfirst_any _ _ [_, _] _ (reps_newN cIntS [_, _] 2 rfl (by decide) _ _ (by simp) rfl)).mono ?_; rintro e w' ⟨rfl, rfl⟩) | (go_at_call 108; refine (HCT.out _ _ ((hS.alloc _).alloc _) (by simp [go_sem])).mono ?_; rintro e w' ⟨rfl, rfl⟩))
    go_ret
    exact ⟨rfl, bal (bal (Below.refl _ _) _) _⟩
 ·have h3 : strandsE n = 3 := by unfold strandsE at *; split <;> simp_all
  have e : wordE n l = 3 := by simp [wordE, h3]
  rw [e]
  rw [h3] at hk
  have HK := hid hk; clear hk h h3 e
  go_enter Tryz.func44, Tryz.ntmps44
  go_wp2_with (first | (go_at_call 106; refine (HK.out _).mono ?_; rintro e w' ⟨rfl, rfl⟩) | (go_at_call 107; refine (bwhen_any _ _ _).mono ?_; rintro e w' ⟨rfl, rfl⟩) | (go_at_call 105; refine (bfirst_any _ _ [_, _] _ (reps_newN cIntS [_, _] 2 rfl (by decide) _ _ (by simp) rfl)).mono ?_; rintro e w' ⟨rfl, rfl⟩))
  all_goals
   go_ret
   exact ⟨rfl, bal (bal (Below.refl _ _) _) _⟩
end Go.Proofs.YtngpopalpofhgaaGreatDoor

namespace Go.Proofs.YtngpopalpofhgaaGreatDoor
open Go.RowKit
set_option maxHeartbeats 1000000
set_option maxRecDepth 100000

theorem drop_step {α : Type} [DecidableEq α] (d : α) (l m : List α) (h : l.length = m.length) (k : Nat) (hk : k < l.length) : decide (l.drop k = m.drop k) = (decide (atD d l k = atD d m k) && decide (l.drop (k + 1) = m.drop (k + 1))) := by
 have e2 : atD d l k = l[k] := by simp [atD, hk]
 have e3 : atD d m k = m[k] := by simp [atD, h ▸ hk]
 have hk2 : k < m.length := h ▸ hk
 rw [List.drop_eq_getElem_cons hk, List.drop_eq_getElem_cons hk2, e2, e3]
 rw [Bool.eq_iff_iff, Bool.and_eq_true, decide_eq_true_iff, decide_eq_true_iff, decide_eq_true_iff, List.cons.injEq]

theorem SameInts_any (a a2 : Option Addr) (cap cap2 : Nat) (l m : List Int) (w : World) (hS : Ints w a cap l) (hM : Ints w a2 cap2 m) (hl : l.length ≤ 1048576) :
  Calls Tryz.prog 15 #[.slice a l.length cap, .slice a2 m.length cap2] w fun r w' => r = .returned (.bool (decide (l = m))) ∧ Below w.heap.size w w' := by
 have hcap := hS.le
 have hm := hS.max
 have hcap2 := hM.le
 have hm2 := hM.max
 by_cases hlen : l.length = m.length
 ·have HL := hid hlen
  go_enter Tryz.func15, Tryz.ntmps15
  go_wp2_with fail
  go_loopw [5] (fun i wr => ∃ k : Nat, k ≤ l.length ∧ i = .int .i64 k ∧ decide (l.drop k = m.drop k) = decide (l = m) ∧ Below w.heap.size w wr) (fun i _ => l.length - (intOf i).toNat)
  case atStart => exact ⟨0, by omega, rfl, rfl, Below.refl _ _⟩
  case round =>
   obtain ⟨k, hk, rfl, hf, hbr⟩ := hrel
   by_cases hlt : k < l.length
   ·have hs := drop_step 0 l m HL.out k hlt
    rw [hf] at hs
    have HS := hid hs; clear hs hf
    have hx : (k : Int) < m.length := by rw [← HL.out]; omega
    have hS5 := hS.below hbr
    have hS6 := hM.below hbr
    clear hlen
    go_wp2_with fail
    refine wp_region_quiet_lit kR kR ?_
    repeat (first | ((with_reducible refine wpQD_idx 0 E_ints F_int cInt1 wU wU (hS5) oD oD (fun _ => wU) (fun _ => ?_)); (try simp only [Act.put, pA, pB, pC]); (try simp only [cInt])) | ((with_reducible refine wpQD_idx 0 E_ints F_int cInt1 wU wU (hS6) oD oD (fun _ => wU) (fun _ => ?_)); (try simp only [Act.put, pA, pB, pC]); (try simp only [cInt])) | quiet_step (fail))
    refine wpQuiet_nil ?_
    intro w5 hb5
    replace hb5 := below_drewN hb5
    have b5 := bnext hbr hb5
    go_wp2_with fail
    ·have hd : (atD 0 l k != atD 0 m k) = true := by assumption
     have h := HS.out
     rw [show decide (atD 0 l k = atD 0 m k) = false by simpa using hd, Bool.false_and] at h
     go_ret
     exact ⟨by rw [h]; rfl, b5⟩
    ·have hd : (atD 0 l k != atD 0 m k) = false := by assumption
     have h := HS.out
     rw [show decide (atD 0 l k = atD 0 m k) = true by simpa using hd, Bool.true_and] at h
     exact ⟨⟨k + 1, by omega, by go_num, h.symm, b5⟩, by simp [intOf]; omega⟩
   ·have : k = l.length := by omega
    subst this
    rw [List.drop_length, HL.out, List.drop_length] at hf
    have HF := hid hf; clear hf hlen
    go_wp2_with fail
    go_ret
    exact ⟨by rw [← HF.out]; rfl, hbr⟩
 ·have e : decide (l = m) = false := by
   simp only [decide_eq_false_iff_not]; intro e; exact hlen (by rw [e])
  rw [e]
  have hb : ((l.length : Int) != m.length) = true := by simp; omega
  clear e
  go_enter Tryz.func15, Tryz.ntmps15
  go_wp2_with fail
  go_ret
  exact ⟨rfl, Below.refl _ _⟩

/-- A list of pairs and an error came back. -/
def RetPE (W : World) (L : List (Int × Int)) (e : Int) (r : Ending) (w' : World) : Prop :=
 ∃ a cap, r = .returned (.tuple #[.slice a L.length cap, .int .i64 e]) ∧ Pairs w' a cap L ∧ (∀ b, a = some b → W.heap.size ≤ b.block) ∧ Below W.heap.size W w'
theorem pairs_nil (w : World) : Pairs w none 0 [] := ⟨cPairS, Nat.le_refl _, Nat.zero_le _, fun _ => rfl, fun j u hu => by simp at hu⟩
theorem RetPE.none {W w' : World} {e : Int} {r : Ending} (h1 : r = .returned (.tuple #[.slice none 0 0, .int .i64 e])) (h4 : Below W.heap.size W w') : RetPE W [] e r w' :=
 ⟨.none, 0, h1, pairs_nil _, (fun _ h => by cases h), h4⟩
theorem RetPE.own {W w' : World} {L : List (Int × Int)} {e : Int} {r : Ending} {B : Nat} {t : TypeId} (v : Value) (h1 : r = .returned (.tuple #[v, .int .i64 e])) (h2 : OwnP B t w' v L) (hB : W.heap.size ≤ B) (h4 : Below W.heap.size W w') : RetPE W L e r w' := by
 obtain ⟨a, cap, rfl, hr, hf, _⟩ := h2.reps
 exact ⟨a, cap, h1, hr, fun b hb => Nat.le_trans hB (hf b hb).1, h4⟩

/-- a word that CheckWord accepts fits the strands. -/
theorem wordE_fits {n : Int} {ws : List Int} (h : wordE n ws = 0) : 1 ≤ n ∧ n ≤ 12 ∧ ws.length ≤ 200 ∧ ∀ x ∈ ws, x ≠ 0 ∧ -n < x ∧ x < n := by
 unfold wordE strandsE at h
 split at h
 ·omega
 ·next h1 =>
  split at h
  ·omega
  ·split at h
   ·omega
   ·next h2 h3 =>
    have h1' : 1 ≤ n ∧ n ≤ 12 := by omega
    refine ⟨h1'.1, h1'.2, by omega, fun x hx => ?_⟩
    obtain ⟨j, hj, rfl⟩ := List.getElem_of_mem hx
    have h4 : ¬ outB n (atD 0 ws j) = true := fun h => by
     have := (idxGo_neg n ws ws.length 0).2 ⟨j, by omega, by omega, h⟩
     omega
    have e2 : atD 0 ws j = ws[j] := by simp [atD, hj]
    rw [e2] at h4
    simp only [outB, Bool.or_eq_true, beq_iff_eq, decide_eq_true_eq, not_or] at h4
    omega
end Go.Proofs.YtngpopalpofhgaaGreatDoor

namespace Go.Proofs.YtngpopalpofhgaaGreatDoor
open Go.RowKit
set_option maxHeartbeats 1000000
set_option maxRecDepth 100000

abbrev OwnPs (B : Nat) (w : World) (v : Value) (l : List PassV) : Prop := Own cPass 3 B 57 w v l
/-- A list of passes and an error came back. -/
def RetPsE (W : World) (L : List PassV) (e : Int) (r : Ending) (w' : World) : Prop :=
 ∃ a cap, r = .returned (.tuple #[.slice a L.length cap, .int .i64 e]) ∧ PassesR w' a cap L ∧ (∀ b, a = some b → W.heap.size ≤ b.block) ∧ Below W.heap.size W w'
theorem passesR_nil (w : World) : PassesR w none 0 [] := ⟨cPassS, Nat.le_refl _, Nat.zero_le _, fun _ => rfl, fun j u hu => by simp at hu⟩
theorem RetPsE.none {W w' : World} {e : Int} {r : Ending} (h1 : r = .returned (.tuple #[.slice none 0 0, .int .i64 e])) (h4 : Below W.heap.size W w') : RetPsE W [] e r w' :=
 ⟨.none, 0, h1, passesR_nil _, (fun _ h => by cases h), h4⟩
theorem RetPsE.own {W w' : World} {L : List PassV} {e : Int} {r : Ending} {B : Nat} (v : Value) (h1 : r = .returned (.tuple #[v, .int .i64 e])) (h2 : OwnPs B w' v L) (hB : W.heap.size ≤ B) (h4 : Below W.heap.size W w') : RetPsE W L e r w' := by
 obtain ⟨a, cap, rfl, hr, hf, _⟩ := h2.reps
 exact ⟨a, cap, h1, hr, fun b hb => Nat.le_trans hB (hf b hb).1, h4⟩

def ouN (c : Nat) : ByteArray := ⟨(Lib.repeatL [111, 117] c).toArray⟩
theorem repeatOU_any (c : Nat) (w : World) (hc : c ≤ 1048576) :
  Calls Tryz.prog 90 #[.string ⟨#[111, 117]⟩, .int .i64 c] w fun e w' => e = .returned (.string (ouN c)) ∧ Below w.heap.size w w' :=
 Tryz.strings_Repeat ⟨#[111, 117]⟩ c w (by omega) (by show 2 * c ≤ _; omega)
theorem ouN_size (c : Nat) : (ouN c).size = 2 * c := by
 show (Lib.repeatL [111, 117] c).toArray.size = 2 * c
 simp [Lib.repeatL_length]; omega

def senE (n s : Int) : Int := if n < 2 ∨ 12 < n ∨ s < 0 ∨ 1000 < s then 3 else 0
def senP (n half : Int) (k : Nat) : PassV := if (k : Int) % 2 = 1 then ⟨n, n - half, (ouN half.toNat).extract 0 half.toNat⟩ else ⟨1, half + 1, (ouN half.toNat).extract 0 half.toNat⟩
def senK (n half : Int) (k : Nat) : List PassV := (List.range k).map (senP n half)
theorem senK_succ (n half : Int) (k : Nat) : senK n half (k + 1) = senK n half k ++ [senP n half k] := by simp [senK, List.range_succ]
theorem senK_len (n half : Int) (k : Nat) : (senK n half k).length = k := by simp [senK]
def senL (n s : Int) : List PassV := if senE n s = 0 then senK n (n / 2) s.toNat else []
theorem Sennit_any (n s : Int) (w : World) :
  Calls Tryz.prog 39 #[.int .i64 n, .int .i64 s] w fun r w' => RetPsE w (senL n s) (senE n s) r w' := by
 by_cases h : senE n s = 0
 ·have hz : 2 ≤ n ∧ n ≤ 12 ∧ 0 ≤ s ∧ s ≤ 1000 := by unfold senE at h; split at h <;> omega
  obtain ⟨h1, h2, h3, h4⟩ := hz
  obtain ⟨half, hh⟩ : ∃ c : Nat, n / 2 = c := ⟨(n / 2).toNat, by omega⟩
  obtain ⟨m, rfl⟩ : ∃ m : Nat, s = m := ⟨s.toNat, by omega⟩
  have hL : senL n m = senK n half m := by rw [senL, if_pos h, hh]; rfl
  rw [hL, h]
  clear h hL
  have hh1 : half ≤ 6 := by omega
  have hos := ouN_size half
  have hos1 : (half : Int) ≤ (ouN half).size := by omega
  go_enter Tryz.func39, Tryz.ntmps39
  go_wp2_with (first | (go_at_call 90; refine (repeatOU_any half _ (by omega)).mono ?_; rintro e w1 ⟨rfl, hb1⟩))
  have hhn : (half : Int) ≤ n ∧ (half : Int) ≤ 6 := by omega
  clear hh hos hos1
  go_loopw [8, 9, 10, 32] (fun v _ _ i wr => ∃ k : Nat, k ≤ m ∧ i = .int .i64 k ∧ OwnPs w.heap.size wr v (senK n half k) ∧ Below w.heap.size w wr) (fun _ _ _ i _ => m - (intOf i).toNat)
  case atStart => exact ⟨0, by omega, rfl, own_nil cPassS, hb1⟩
  case round =>
   obtain ⟨k, hk, rfl, hO, hbr⟩ := hrel
   have hle : (senK n half k).length ≤ 1000 := by rw [senK_len]; omega
   have hbs := hbr.size
   by_cases hlt : k < m
   ·have hs := senK_succ n half k
    by_cases hp : (k : Int) % 2 = 1
    ·have hb : ((k : Int) % 2 == 1) = true := by simpa using hp
     have e : senP n half k = ⟨n, n - half, (ouN half).extract 0 half⟩ := by rw [senP, if_pos hp]; rfl
     rw [e] at hs
     have HS := hid hs; clear hs e hp
     go_wp2_with (first | ((with_reducible refine wpList_app (l := (senK n half k)) (ys := [(⟨n, n - half, (ouN half).extract 0 half⟩)]) E_passes wU wU (((hO.alloc _)).alloc _) (reps_new1 cPassS ((⟨n, n - half, (ouN half).extract 0 half⟩)) _ _ (by simp) rfl) cPassO (by simp; omega) (by first | omega | (simp; omega)) (by simp; omega) ?_); intro v3 w3 ho3 hg3 hat3))
     refine ⟨⟨k + 1, by omega, by go_num, by rw [HS.out]; exact ho3, below_own (bal (bal hbr (.cells #[.int .i64 n, .int .i64 (n - half), .string ((ouN half).extract 0 half)] 57)) (.cells #[.int .i64 n, .int .i64 (n - half), .string ((ouN half).extract 0 half)] 57)) hg3 ((hO.alloc _).alloc _) (Nat.le_refl _)⟩, by simp [intOf]; omega⟩
    ·have hb : ((k : Int) % 2 == 1) = false := by simpa using hp
     have e : senP n half k = ⟨1, half + 1, (ouN half).extract 0 half⟩ := by rw [senP, if_neg hp]; rfl
     rw [e] at hs
     have HS := hid hs; clear hs e hp
     go_wp2_with (first | ((with_reducible refine wpList_app (l := (senK n half k)) (ys := [(⟨1, half + 1, (ouN half).extract 0 half⟩)]) E_passes wU wU (((hO.alloc _)).alloc _) (reps_new1 cPassS ((⟨1, half + 1, (ouN half).extract 0 half⟩)) _ _ (by simp) rfl) cPassO (by simp; omega) (by first | omega | (simp; omega)) (by simp; omega) ?_); intro v3 w3 ho3 hg3 hat3))
     refine ⟨⟨k + 1, by omega, by go_num, by rw [HS.out]; exact ho3, below_own (bal (bal hbr (.cells #[.int .i64 1, .int .i64 (half + 1), .string ((ouN half).extract 0 half)] 57)) (.cells #[.int .i64 1, .int .i64 (half + 1), .string ((ouN half).extract 0 half)] 57)) hg3 ((hO.alloc _).alloc _) (Nat.le_refl _)⟩, by simp [intOf]; omega⟩
   ·have : k = m := by omega
    subst this
    clear hle
    go_wp2_with fail
    go_ret2
    exact RetPsE.own _ rfl hO (Nat.le_refl _) hbr
 ·have e1 : senE n s = 3 := by unfold senE at *; split at h <;> simp_all
  have e2 : senL n s = [] := if_neg h
  have hc : n < 2 ∨ 12 < n ∨ s < 0 ∨ 1000 < s := by
   unfold senE at h; split at h
   ·assumption
   ·exact absurd rfl h
  rw [e1, e2]
  clear e1 e2 h
  by_cases c1 : n < 2
  ·go_enter Tryz.func39, Tryz.ntmps39
   go_wp2_with fail
   go_ret2
   exact RetPsE.none rfl (Below.refl _ _)
  by_cases c2 : 12 < n
  ·go_enter Tryz.func39, Tryz.ntmps39
   go_wp2_with fail
   go_ret2
   exact RetPsE.none rfl (Below.refl _ _)
  by_cases c3 : s < 0
  ·go_enter Tryz.func39, Tryz.ntmps39
   go_wp2_with fail
   go_ret2
   exact RetPsE.none rfl (Below.refl _ _)
  ·have c4 : 1000 < s := by omega
   go_enter Tryz.func39, Tryz.ntmps39
   go_wp2_with fail
   go_ret2
   exact RetPsE.none rfl (Below.refl _ _)
end Go.Proofs.YtngpopalpofhgaaGreatDoor

namespace Go.Proofs.YtngpopalpofhgaaGreatDoor
open Go.RowKit
set_option maxHeartbeats 1000000
set_option maxRecDepth 100000

abbrev Strs (w : World) (a : Option Addr) (cap : Nat) (l : List ByteArray) : Prop := Reps cStr 1 w a cap l
abbrev OwnS (B : Nat) (w : World) (v : Value) (l : List ByteArray) : Prop := Own cStr 1 B 9 w v l
/-- A list of strings and an error came back. -/
def RetSE (W : World) (L : List ByteArray) (e : Int) (r : Ending) (w' : World) : Prop :=
 ∃ a cap, r = .returned (.tuple #[.slice a L.length cap, .int .i64 e]) ∧ Strs w' a cap L ∧ (∀ b, a = some b → W.heap.size ≤ b.block) ∧ Below W.heap.size W w'
theorem strs_nil (w : World) : Strs w none 0 [] := ⟨cStrS, Nat.le_refl _, Nat.zero_le _, fun _ => rfl, fun j u hu => by simp at hu⟩
theorem RetSE.none {W w' : World} {e : Int} {r : Ending} (h1 : r = .returned (.tuple #[.slice none 0 0, .int .i64 e])) (h4 : Below W.heap.size W w') : RetSE W [] e r w' :=
 ⟨.none, 0, h1, strs_nil _, (fun _ h => by cases h), h4⟩
theorem RetSE.own {W w' : World} {L : List ByteArray} {e : Int} {r : Ending} {B : Nat} (v : Value) (h1 : r = .returned (.tuple #[v, .int .i64 e])) (h2 : OwnS B w' v L) (hB : W.heap.size ≤ B) (h4 : Below W.heap.size W w') : RetSE W L e r w' := by
 obtain ⟨a, cap, rfl, hr, hf, _⟩ := h2.reps
 exact ⟨a, cap, h1, hr, fun b hb => Nat.le_trans hB (hf b hb).1, h4⟩

end Go.Proofs.YtngpopalpofhgaaGreatDoor

namespace Go.Proofs.YtngpopalpofhgaaGreatDoor
open Go.RowKit
set_option maxHeartbeats 1000000
set_option maxRecDepth 100000

theorem atD_take {r : List Int} {c k : Nat} (h : k < c) : atD 0 (r.take c) k = atD 0 r k := by
 unfold atD
 rw [List.getD_eq_getElem?_getD, List.getD_eq_getElem?_getD, List.getElem?_take]
 simp [h]
end Go.Proofs.YtngpopalpofhgaaGreatDoor

namespace Go.Proofs.YtngpopalpofhgaaGreatDoor
open Go.RowKit
set_option maxHeartbeats 400000
set_option maxRecDepth 100000

def permGo (n : Nat) : List Int → List Int → Int
 | _, [] => 0
 | seen, x :: r => if x < 0 ∨ n ≤ x ∨ x ∈ seen then 15 else permGo n (seen ++ [x]) r
def permE (l : List Int) : Int := if 256 < l.length then 5 else permGo l.length [] l

theorem permGo_step (n : Nat) (l : List Int) (k : Nat) (h : k < l.length) : permGo n (l.take k) (l.drop k) =
  if atD 0 l k < 0 ∨ n ≤ atD 0 l k ∨ atD 0 l k ∈ l.take k then 15 else permGo n (l.take (k + 1)) (l.drop (k + 1)) := by
 have e : l.drop k = l[k] :: l.drop (k + 1) := List.drop_eq_getElem_cons h
 have e2 : atD 0 l k = l[k] := by simp [atD, h]
 rw [e, e2, permGo, List.take_succ_eq_append_getElem h]

theorem CheckPerm_any (a : Option Addr) (cap : Nat) (l : List Int) (w : World) (hS : Ints w a cap l) (hI : ∀ x ∈ l, InI x) :
  Calls Tryz.prog 91 #[.slice a l.length cap] w fun r w' => r = .returned (.int .i64 (permE l)) ∧ Below w.heap.size w w' := by
 have hcap := hS.le
 have hm := hS.max
 have hmm := @run_makeMap Tryz.prog
 by_cases h64 : 256 < l.length
 ·have hs : permE l = 5 := by simp [permE, h64]
  have HS := hid hs; clear hs
  go_enter Tryz.func91, Tryz.ntmps91
  go_wp2
  go_ret
  exact ⟨by rw [HS.out]; rfl, Below.refl _ _⟩
 have hs : permE l = permGo l.length [] l := by simp [permE, h64]
 have HS := hid hs; clear hs
 go_enter Tryz.func91, Tryz.ntmps91
 go_wp2
 go_loopw [5, 12] (fun _ i wr => ∃ k : Nat, k ≤ l.length ∧ i = .int .i64 k ∧ MapB wr w.heap.size k (fun x => decide (x ∈ l.take k)) ∧ Below w.heap.size w wr ∧ permGo l.length (l.take k) (l.drop k) = permE l) (fun _ i _ => l.length - (intOf i).toNat)
 case atStart =>
  refine ⟨0, by omega, rfl, ?_, bal (Below.refl _ _) _, by simp [HS.out]⟩
  have := mapB_made w
  simpa using this
 case round =>
  obtain ⟨k, hk, rfl, hmap, hb, hgo⟩ := hrel
  have hmlt := hmap.lt
  have hR := hS.below hb
  have hnk : k < maxLen := by unfold maxLen; omega
  by_cases hlt : k < l.length
  ·have hstep := permGo_step l.length l k hlt
   have hin : InI (atD 0 l k) := hI _ (by simp [atD, hlt])
   rw [hgo] at hstep
   have hT : l.take (k + 1) = l.take k ++ [atD 0 l k] := by rw [List.take_succ_eq_append_getElem hlt]; simp [atD, hlt]
   have HT := hid hT; clear hT
   have HG := hid hgo; clear hgo
   have HT2 := hid hstep; clear hstep
   have HI := hid hin; clear hin
   by_cases c1 : atD 0 l k < 0
   ·go_wp2_with (first | (with_reducible refine wpList_idx _ 0 E_ints F_int cInt1 wU wU (hR) oD oD (fun _ => wU) (fun _ => ?_)) | (with_reducible refine wpList_lookB wU wU (hmap) (HI.out) wU ?_))
    all_goals
     go_ret
     exact ⟨by rw [HT2.out, if_pos (.inl c1)]; rfl, hb⟩
   by_cases c2 : (l.length : Int) ≤ atD 0 l k
   ·go_wp2_with (first | (with_reducible refine wpList_idx _ 0 E_ints F_int cInt1 wU wU (hR) oD oD (fun _ => wU) (fun _ => ?_)) | (with_reducible refine wpList_lookB wU wU (hmap) (HI.out) wU ?_))
    all_goals
     go_ret
     exact ⟨by rw [HT2.out, if_pos (.inr (.inl c2))]; rfl, hb⟩
   by_cases c4 : atD 0 l k ∈ l.take k
   ·have hd : decide (atD 0 l k ∈ l.take k) = true := by simpa using c4
    have HC := hid c4; clear c4
    go_wp2_with (first | (with_reducible refine wpList_idx _ 0 E_ints F_int cInt1 wU wU (hR) oD oD (fun _ => wU) (fun _ => ?_)) | (with_reducible refine wpList_lookB wU wU (hmap) (HI.out) wU ?_))
    go_ret
    exact ⟨by rw [HT2.out, if_pos (.inr (.inr HC.out))]; rfl, hb⟩
   ·have hd : decide (atD 0 l k ∈ l.take k) = false := by simpa using c4
    have HC := hid c4; clear c4
    go_wp2_with (first | (with_reducible refine wpList_idx _ 0 E_ints F_int cInt1 wU wU (hR) oD oD (fun _ => wU) (fun _ => ?_)) | (with_reducible refine wpList_lookB wU wU (hmap) (HI.out) wU ?_) | ((with_reducible refine wpList_putB wU wU wU (hmap) (HI.out) (hnk) ?_); intro w1 hm1 hg1))
    have e : (fun x => if x = atD 0 l k then true else decide (x ∈ l.take k)) = (fun x => decide (x ∈ l.take (k + 1))) := by
     funext x
     rw [HT.out]
     by_cases e : x = atD 0 l k <;> simp [e]
    rw [e] at hm1
    go_roundw
    case rel => exact ⟨k + 1, by omega, by go_num, hm1, hb.grown hg1 hb.size (fun j hj => by cases hj; omega), by rw [HT2.out, if_neg (by rintro (h | h | h); exact c1 h; exact c2 h; exact HC.out h)]⟩
    case measure => simp [intOf]; omega
  ·have : k = l.length := by omega
   subst this
   have e : permGo l.length (l.take l.length) (l.drop l.length) = 0 := by simp [permGo]
   rw [e] at hgo
   have HG := hid hgo; clear hgo e
   go_wp2
   go_ret
   exact ⟨by rw [← HG.out]; rfl, hb⟩
end Go.Proofs.YtngpopalpofhgaaGreatDoor

namespace Go.Proofs.YtngpopalpofhgaaGreatDoor
open Go.RowKit

theorem php : ∀ (n : Nat) (f : Nat → Nat), (∀ k, k ≤ n → f k < n) → ∃ a b, a < b ∧ b ≤ n ∧ f a = f b
 | 0, f, h => absurd (h 0 (Nat.le_refl _)) (by omega)
 | n + 1, f, h => by
   by_cases hex : ∃ a, a ≤ n ∧ f a = f (n + 1)
   · obtain ⟨a, ha, e⟩ := hex
     exact ⟨a, n + 1, by omega, by omega, e⟩
   · have hne : ∀ a, a ≤ n → f a ≠ f (n + 1) := fun a ha e => hex ⟨a, ha, e⟩
     obtain ⟨a, b, h1, h2, h3⟩ := php n (fun k => if f (n + 1) < f k then f k - 1 else f k) (fun k hk => by
       have h1 := h k (by omega); have h2 := h (n + 1) (by omega); have h3 := hne k hk
       split <;> omega)
     refine ⟨a, b, h1, by omega, ?_⟩
     have ha := hne a (by omega); have hb := hne b h2
     split at h3 <;> split at h3 <;> omega

/-- a permutation of 0 .. n - 1. -/
structure IsP (p : List Int) : Prop where
 rng : ∀ x : Int, 0 ≤ x → x < p.length → 0 ≤ atD 0 p x ∧ atD 0 p x < p.length
 inj : ∀ x y : Int, 0 ≤ x → x < p.length → 0 ≤ y → y < p.length → atD 0 p x = atD 0 p y → x = y

theorem atD_memZ {l : List Int} {x : Int} (h0 : 0 ≤ x) (h1 : x < l.length) : atD 0 l x ∈ l := by
 have : x.toNat < l.length := by omega
 simp [atD, this]

def itP (p : List Int) (i : Int) : Nat → Int
 | 0 => i
 | k + 1 => atD 0 p (itP p i k)
theorem itP_add (p : List Int) (i : Int) (b : Nat) : ∀ a : Nat, itP p i (a + b) = itP p (itP p i b) a
 | 0 => by simp [itP]
 | a + 1 => by
   have : a + 1 + b = (a + b) + 1 := by omega
   rw [this, itP, itP, itP_add p i b a]

section
variable {p : List Int} (hp : IsP p)
include hp
theorem itP_rng {i : Int} (h0 : 0 ≤ i) (h1 : i < p.length) : ∀ k, 0 ≤ itP p i k ∧ itP p i k < p.length
 | 0 => ⟨h0, h1⟩
 | k + 1 => hp.rng _ (itP_rng h0 h1 k).1 (itP_rng h0 h1 k).2
theorem itP_inj {x y : Int} (hx : 0 ≤ x) (hx1 : x < p.length) (hy : 0 ≤ y) (hy1 : y < p.length) : ∀ k, itP p x k = itP p y k → x = y
 | 0, h => h
 | k + 1, h => itP_inj hx hx1 hy hy1 k (hp.inj _ _ (itP_rng hp hx hx1 k).1 (itP_rng hp hx hx1 k).2 (itP_rng hp hy hy1 k).1 (itP_rng hp hy hy1 k).2 h)
theorem itP_back {i : Int} (h0 : 0 ≤ i) (h1 : i < p.length) : ∃ d, 0 < d ∧ d ≤ p.length ∧ itP p i d = i := by
 obtain ⟨a, b, hab, hb, he⟩ := php p.length (fun k => (itP p i k).toNat) (fun k _ => by have := itP_rng hp h0 h1 k; omega)
 have ra := itP_rng hp h0 h1 a
 have rb := itP_rng hp h0 h1 b
 have e : itP p i a = itP p i b := by omega
 have e2 : itP p i b = itP p (itP p i (b - a)) a := by rw [← itP_add]; congr 1; omega
 rw [e2] at e
 have rd := itP_rng hp h0 h1 (b - a)
 exact ⟨b - a, by omega, by omega, (itP_inj hp h0 h1 rd.1 rd.2 a e).symm⟩
end

theorem leastN (q : Nat → Prop) : ∀ d, q d → ∃ m, m ≤ d ∧ q m ∧ ∀ j, j < m → ¬ q j := by
 intro d
 induction d using Nat.strongRecOn with
 | _ d ih =>
  intro h
  by_cases hex : ∃ j, j < d ∧ q j
  ·obtain ⟨j, hj, hq⟩ := hex
   obtain ⟨m, h1, h2, h3⟩ := ih j hj hq
   exact ⟨m, by omega, h2, h3⟩
  ·exact ⟨d, Nat.le_refl _, h, fun j hj hq => hex ⟨j, hj, hq⟩⟩

/-- d is the least number of steps above 0 after which i comes again. -/
structure Ord (p : List Int) (i : Int) (d : Nat) : Prop where
 pos : 0 < d
 le : d ≤ p.length
 back : itP p i d = i
 min : ∀ j, 0 < j → j < d → itP p i j ≠ i

theorem ord_ex {p : List Int} (hp : IsP p) {i : Int} (h0 : 0 ≤ i) (h1 : i < p.length) : ∃ d, Ord p i d := by
 obtain ⟨d, a, b, c⟩ := itP_back hp h0 h1
 obtain ⟨m, h2, ⟨h3, h4⟩, h5⟩ := leastN (fun d => 0 < d ∧ itP p i d = i) d ⟨a, c⟩
 exact ⟨m, h3, by omega, h4, fun j hj hjm e => h5 j hjm ⟨hj, e⟩⟩

def orbGo (p : List Int) (i : Int) : Nat → Int → List Int
 | 0, _ => []
 | f + 1, x => x :: (if atD 0 p x = i then [] else orbGo p i f (atD 0 p x))
def orb (p : List Int) (i : Int) : List Int := orbGo p i p.length i

theorem orbGo_eq {p : List Int} {i : Int} {d : Nat} (h : Ord p i d) : ∀ (f k : Nat), k < d → d ≤ k + f → orbGo p i f (itP p i k) = (List.range' k (d - k)).map (itP p i)
 | 0, k, h1, h2 => by omega
 | f + 1, k, h1, h2 => by
   rw [orbGo]
   have e : d - k = (d - (k + 1)) + 1 := by omega
   rw [e, List.range'_succ, List.map_cons]
   congr 1
   by_cases hk : k + 1 = d
   · have e2 : atD 0 p (itP p i k) = i := by have := h.back; rw [← hk] at this; exact this
     rw [if_pos e2, hk]; simp
   · have hne : atD 0 p (itP p i k) ≠ i := h.min (k + 1) (by omega) (by omega)
     rw [if_neg hne]
     exact orbGo_eq h f (k + 1) (by omega) (by omega)
theorem orb_eq {p : List Int} {i : Int} {d : Nat} (h : Ord p i d) : orb p i = (List.range d).map (itP p i) := by
 have := orbGo_eq h p.length 0 h.pos (by have := h.le; omega)
 rw [orb, List.range_eq_range']; simpa [itP] using this
/-- the cycles that the first k places have. -/
def cycK (p : List Int) : Nat → List (List Int)
 | 0 => []
 | k + 1 => if (k : Int) ∈ (cycK p k).flatten then cycK p k else cycK p k ++ [orb p k]

theorem cycK_len (p : List Int) : ∀ k, (cycK p k).length ≤ k
 | 0 => by simp [cycK]
 | k + 1 => by have := cycK_len p k; rw [cycK]; split <;> simp <;> omega
end Go.Proofs.YtngpopalpofhgaaGreatDoor

namespace Go.Proofs.YtngpopalpofhgaaGreatDoor
open Go.RowKit
set_option maxHeartbeats 1000000
set_option maxRecDepth 100000

theorem mul_any (x y : Nat) (h : x * y < 18446744073709551616) (hx : x < 18446744073709551616) (hy : y < 18446744073709551616) (w : World) :
  Calls Tryz.prog 139 #[.int .u64 x, .int .u64 y] w fun e w' => e = .returned (.tuple #[.int .u64 0, .int .u64 ((x * y : Nat) : Int)]) ∧ w = w' := by
 refine (Tryz.bits_Mul x y hx hy w).mono ?_
 rintro e w' ⟨rfl, rfl⟩
 rw [Nat.div_eq_of_lt h, Nat.mod_eq_of_lt h]
 exact ⟨rfl, rfl⟩

/-- the first m numbers of a list that goes round and round. -/
def cyc (l : List Int) (m : Nat) : List Int := (List.range m).map fun j => l.getD (j % l.length) 0
theorem cyc_len (l : List Int) (m : Nat) : (cyc l m).length = m := by simp [cyc]
theorem cyc_add (l : List Int) (m k : Nat) (h : m % l.length = 0) : cyc l (m + k) = cyc l m ++ cyc l k := by
 unfold cyc
 rw [List.range_add, List.map_append, List.map_map]
 congr 1
 refine List.map_congr_left fun j _ => ?_
 show l.getD ((m + j) % l.length) 0 = _
 rw [Nat.add_mod, h, Nat.zero_add, Nat.mod_mod]
theorem cyc_take (l : List Int) {m k : Nat} (h : k ≤ m) : (cyc l m).take k = cyc l k := by
 unfold cyc; rw [← List.map_take, List.take_range, Nat.min_eq_left h]
theorem cyc_once (l : List Int) : cyc l l.length = l := by
 refine List.ext_getElem (by simp [cyc]) fun j h1 h2 => ?_
 simp [cyc, Nat.mod_eq_of_lt h2, h2]

/-- what is laid so far: a block of N numbers of which the first m are those of cyc. -/
def Laid (w : World) (g N m : Nat) (l : List Int) : Prop :=
 ∃ cur : List Value, w.heap[g]? = some (.cells cur.toArray 3 (0, 0)) ∧ cur.length = N ∧ cur.take m = (cyc l m).map cInt ∧ m ≤ N
theorem splice_laid {l : List Int} {cur : List Value} {N m k : Nat} (hl : cur.length = N) (ht : cur.take m = (cyc l m).map cInt) (hm : m + k ≤ N) (hd : m % l.length = 0) (cs : List Value) (hc : cs = (cyc l k).map cInt) :
  (splice cur m cs).length = N ∧ (splice cur m cs).take (m + k) = (cyc l (m + k)).map cInt := by
 subst hc
 have h1 : ((cyc l k).map cInt).length = k := by simp [cyc]
 refine ⟨by rw [length_splice _ _ _ (by rw [h1]; omega), hl], ?_⟩
 unfold splice
 rw [cyc_add l m k hd, List.map_append, ht, ← List.append_assoc]
 have h2 : ((cyc l m).map cInt ++ (cyc l k).map cInt).length = m + k := by simp [cyc]
 rw [List.take_append_of_le_length (by omega), List.take_of_length_le (by omega)]
theorem Laid.own {w : World} {g N : Nat} {l : List Int} {B : Nat} (h : Laid w g N N l) (hB : B ≤ g) (hN : N ≤ 1048576) : OwnI B w (.slice (some ⟨g, 0, none⟩) N N) (cyc l N) := by
 obtain ⟨cur, h1, h2, h3, _⟩ := h
 have e : ((cyc l N).flatMap fun x => (cInt x).cells.toList) = (cyc l N).map cInt := by
  generalize cyc l N = L
  induction L with
  | nil => rfl
  | cons x r ih => rw [List.flatMap_cons, ih]; rfl
 refine ⟨cIntS, ?_⟩
 rw [cyc_len, e, ← h3]
 refine ⟨by simp [h2], .inr ⟨g, N, cur.toArray, rfl, hB, h1, Nat.le_refl _, by unfold maxLen; omega, by simp [h2], by simp⟩⟩
theorem own_laid {w : World} {g N : Nat} {B : Nat} {l L : List Int} (h : OwnI B w (.slice (some ⟨g, 0, none⟩) N N) L) (hL : L.length = N) : Laid w g N 0 l := by
 rcases h.2.2 with ⟨h, _⟩ | ⟨g', cap, cur, hv, _, hg, _, _, hs, _⟩
 ·cases h
 ·cases hv
  exact ⟨cur.toList, by simpa using hg, by simpa using hs, by simp [cyc], Nat.zero_le _⟩
theorem Laid.cell {w : World} {g N m : Nat} {l : List Int} (h : Laid w g N m l) (j k : Nat) (hk : k ≤ m) (v : Value) (hv : ((cyc l k).map cInt)[j]? = some v) : w.cell? ((⟨g, 0, none⟩ : Addr).add j) = some v := by
 obtain ⟨cur, h1, h2, h3, h4⟩ := h
 rw [Addr.add_z, Nat.zero_add, cell_of_row _ _ _ _ _ _ h1]
 have hj : j < k := by
  have := (List.getElem?_eq_some_iff.1 hv).1
  simpa [cyc] using this
 rw [← cyc_take l hk, List.map_take, ← h3] at hv
 rw [List.getElem?_take, List.getElem?_take] at hv
 rw [if_pos hj, if_pos (by omega)] at hv
 simpa using hv

theorem wpList_copyL {ops : Array Oper} {rest : List Oper} {a : Act} {Q : Exit → Act → World → Prop} {d : Option Tmp} {ty : TypeId} {p : String} {x y : Operand} {af : Array Edge} {w w0 : World} {B g N m : Nat} {l : List Int} {dp sp : Option Addr} {dLen dCap sLen sCap : Nat} (k : Nat)
  (hd : a.eval x = .slice dp dLen dCap) (hs : a.eval y = .slice sp sLen sCap) (hL : Laid w g N m l) (hk : k = Nat.min sLen dLen) (hm : m + k ≤ N) (hmod : m % l.length = 0) (hdp : dp = some ⟨g, m, none⟩)
  (hsp : ∃ ad, sp = some ad ∧ ∀ j v, ((cyc l k).map cInt)[j]? = some v → w.cell? (ad.add j) = some v) (hb : Below B w0 w) (hBg : B ≤ g)
  (hK : ∀ w', Laid w' g N (m + k) l → Below B w0 w' → wpList Tryz.prog ops Q rest (a.put d (.int .i64 k)) w') :
  wpList Tryz.prog ops Q (⟨d, .call { callee := .builtin .copy, args := #[x, y], argTypes := #[22, 22] }, ty, p, af, none⟩ :: rest) a w := by
 obtain ⟨cur, h1, h2, h3, h4⟩ := hL
 have hlen : ((cyc l k).map cInt).length = k := by simp [cyc]
 refine wpList_copy_splice rfl x y 22 22 rfl 3 Tryz.underlying22 kR dp sp dLen dCap sLen sCap hd hs g m cur 3 h1 ((cyc l k).map cInt) (by rw [hlen, hk]) (fun _ => ⟨hdp, hsp⟩) (by rw [hlen, h2]; omega)
  (fun v hv => by obtain ⟨z, _, rfl⟩ := List.mem_map.1 hv; rfl) B w0 hb hBg (fun w' hw hbw => ?_)
 obtain ⟨s1, s2⟩ := splice_laid h2 h3 hm hmod _ rfl
 have := hK w' ⟨_, hw.out, s1, s2, hm⟩ hbw
 rw [hlen]
 exact this

theorem step_copyL {ops : Array Oper} {a : Act} {o : Oper} {K : Act → World → Prop} {Q : Exit → Act → World → Prop} {E : Prop} {w w0 : World} {B g N m : Nat} {l : List Int} (hgd : o.guard = none) (x y : Operand) (ho : o.op = .call { callee := .builtin .copy, args := #[x, y], argTypes := #[22, 22] })
  (dp sp : Option Addr) (dLen dCap sLen sCap : Nat) (k : Nat) (hd : a.eval x = .slice dp dLen dCap) (hs : a.eval y = .slice sp sLen sCap) (hL : Laid w g N m l) (hk : k = Nat.min sLen dLen) (hm : m + k ≤ N) (hmod : m % l.length = 0) (hdp : dp = some ⟨g, m, none⟩)
  (hsp : ∃ ad, sp = some ad ∧ ∀ j v, ((cyc l k).map cInt)[j]? = some v → w.cell? (ad.add j) = some v) (hb : Below B w0 w) (hBg : B ≤ g)
  (hK : ∀ w', Laid w' g N (m + k) l → Below B w0 w' → K (a.put o.dst (.int .i64 k)) w') :
  if Region.wanted o (yielded ops a.tmps) = true then Oper.wp Tryz.prog o a w K Q else E := by
 obtain ⟨cur, h1, h2, h3, h4⟩ := hL
 have hlen : ((cyc l k).map cInt).length = k := by simp [cyc]
 refine step_copy_splice hgd x y 22 22 ho 3 Tryz.underlying22 kR dp sp dLen dCap sLen sCap hd hs g m cur 3 h1 ((cyc l k).map cInt) (by rw [hlen, hk]) (fun _ => ⟨hdp, hsp⟩) (by rw [hlen, h2]; omega)
  (fun v hv => by obtain ⟨z, _, rfl⟩ := List.mem_map.1 hv; rfl) B w0 hb hBg (fun w' hw hbw => ?_)
 obtain ⟨s1, s2⟩ := splice_laid h2 h3 hm hmod _ rfl
 have := hK w' ⟨_, hw.out, s1, s2, hm⟩ hbw
 rw [hlen]
 exact this

theorem Repeat_any (a : Option Addr) (cap c : Nat) (l : List Int) (w : World) (hS : Ints w a cap l) (h0 : 0 < l.length) (hl : l.length ≤ 1000) (hc0 : 0 < c) (hc : c ≤ 1000) :
  Calls Tryz.prog 87 #[.slice a l.length cap, .int .i64 c] w fun r w' => ∃ v, r = .returned v ∧ OwnI w.heap.size w' v (cyc l (l.length * c)) ∧ Below w.heap.size w w' := by
 have hcap := hS.le
 have hm := hS.max
 have hN : l.length * c ≤ 1000000 := by have := Nat.mul_le_mul hl hc; omega
 have hN1 : l.length ≤ l.length * c := Nat.le_mul_of_pos_right _ hc0
 obtain ⟨N, hNd⟩ : ∃ N, N = l.length * c := ⟨_, rfl⟩
 have hmul := fun w => mul_any l.length c (by omega) (by omega) (by omega) w
 rw [← hNd] at hN hN1 hmul ⊢
 have HM := hid hmul; have HN := hid hNd
 clear hmul hNd
 go_enter Tryz.func87, Tryz.ntmps87
 obtain ⟨ba, oa, rfl, hcs⟩ := hS.cells (by decide) 0 0 h0
 have hsrc : ∀ W, Below w.heap.size w W → ∃ ad, some (⟨ba, oa, none⟩ : Addr) = some ad ∧ ∀ j v, ((cyc l l.length).map cInt)[j]? = some v → W.cell? (ad.add j) = some v := fun W hW => by
  refine ⟨_, rfl, fun j v hv => ?_⟩
  rw [cyc_once] at hv
  have hj : j < l.length := by have := (List.getElem?_eq_some_iff.1 hv).1; simpa using this
  obtain ⟨b', o', e', hc'⟩ := (hS.below hW).cells (by decide) 0 j hj
  cases e'
  rw [Addr.add_z]
  have := hc' 0 v (by simpa [cInt, Value.cells, hj] using hv)
  simpa using this
 have HSRC := hid hsrc; clear hsrc hcs
 go_wp2_with (first | (go_at_call 139; refine (HM.out _).mono ?_; rintro e w' ⟨rfl, rfl⟩) | (((with_reducible refine wpList_make1 (c := cInt) (B := w.heap.size) (N) (0) E_intsZ cInt1 wU wU (by omega) (by omega) (by first | omega | (simp; done) | (simp; omega)) ?_); intro w1 ho1 hg1); have b1 := (Below.refl w.heap.size w).grown hg1 (Nat.le_refl _) (fun _ h => by cases h); have hL1 := own_laid (l := l) ho1 (by simp)) | ((with_reducible refine wpList_copyL l.length wU wU hL1 (by simp [Nat.min_def]; omega) (by omega) (by simp) rfl (HSRC.out _ b1) b1 (Nat.le_refl _) ?_); intro w2 hL2 hb2; simp only [Nat.zero_add] at hL2))
 go_loopw [8] (fun i wr => ∃ m : Nat, m ≤ N ∧ i = .int .i64 m ∧ Laid wr w.heap.size N m l ∧ 0 < m ∧ (m < N → m % l.length = 0) ∧ Below w.heap.size w wr) (fun i _ => N - (intOf i).toNat)
 case atStart => exact ⟨l.length, hN1, rfl, hL2, h0, fun _ => by simp, hb2⟩
 case round =>
  obtain ⟨m, hmN, rfl, hLm, hm0, hmod, hbr⟩ := hrel
  by_cases hlt : m < N
  ·have hmo := hid (hmod hlt)
   clear hmod
   obtain ⟨k, hk⟩ : ∃ k, k = Nat.min m (N - m) := ⟨_, rfl⟩
   have hk1 : k ≤ m := by rw [hk]; exact Nat.min_le_left _ _
   have hk2 : m + k ≤ N := by have : k ≤ N - m := by rw [hk]; exact Nat.min_le_right m (N - m)
                              omega
   have hk3 : 0 < k := by show 0 < k; rw [hk]; show 0 < min m (N - m); omega
   have hk4 : m + k < N → k = m := fun h => by have : k = min m (N - m) := hk; omega
   have HK := hid hk; have HK4 := hid hk4
   clear hk hk4
   have hsum : IntKind.i64.wrap ((m : Int) + k) = (m : Int) + k := IntWalk.i64_in _ (by omega)
   go_wp2_with fail
   have hLd : Laid wr.drew w.heap.size N m l := hLm
   have hcd : ∃ ad, some (⟨w.heap.size, 0, none⟩ : Addr) = some ad ∧ ∀ j v, ((cyc l k).map cInt)[j]? = some v → wr.drew.cell? (ad.add j) = some v := ⟨_, rfl, fun j v hv => hLd.cell j k hk1 v hv⟩
   have hbd := hbr.drew
   have hNm : ¬ N = m := by omega
   go_region_law (refine step_copyL (by rfl) _ _ (by rfl) (some ⟨w.heap.size, m, none⟩) (some ⟨w.heap.size, 0, none⟩) (N - m) (N - m) m N k (by simp [Act.eval, Act.put]) (by simp [Act.eval, Act.put]) hLd HK.out hk2 hmo.out rfl hcd hbd (Nat.le_refl _) ?_; intro w3 hL3 hb3)
   clear hsum
   have hfin : m + k < N → (m + k) % l.length = 0 := fun h => by rw [HK4.out h, ← Nat.two_mul, Nat.mul_mod, hmo.out, Nat.mul_zero, Nat.zero_mod]
   have hmo3 : N - ((m : Int) + k).toNat < N - (m : Int).toNat := by omega
   go_roundw
   case rel =>
    (repeat apply Exists.intro)
    exact ⟨⟨m + k, hk2, by go_num, hL3, by omega, hfin, hb3⟩, rfl⟩
   case measure => exact hmo3
  ·have : m = N := by omega
   subst this
   clear hmod
   go_wp2_with fail
   go_ret
   exact ⟨_, rfl, hLm.own (Nat.le_refl _) (by omega), hbr⟩
end Go.Proofs.YtngpopalpofhgaaGreatDoor

namespace Go.Proofs.YtngpopalpofhgaaGreatDoor
open Go.RowKit
set_option maxHeartbeats 1000000
set_option maxRecDepth 100000

theorem F_u64s : Flat Tryz.prog 126 := ⟨_, Tryz.underlying126, rfl⟩
theorem A_int : Aggr Tryz.prog 128 := ⟨_, Tryz.underlying128, rfl⟩
theorem A_frac : Aggr Tryz.prog 130 := ⟨_, Tryz.underlying130, rfl⟩
end Go.Proofs.YtngpopalpofhgaaGreatDoor

namespace Go.Proofs.YtngpopalpofhgaaGreatDoor
open Go.RowKit Go.Shelf
set_option maxHeartbeats 1000000
set_option maxRecDepth 100000

end Go.Proofs.YtngpopalpofhgaaGreatDoor

namespace Go.Proofs.YtngpopalpofhgaaGreatDoor
open Go.RowKit
set_option maxHeartbeats 1000000
set_option maxRecDepth 100000

def itoaB (n : Int) : ByteArray := ⟨(Lib.itoa n).toArray⟩
/-- from a world on, Itoa answers at n. -/
def ItoaOk (w : World) (n : Int) : Prop := ∀ w', Below w.heap.size w w' → Calls Tryz.prog 232 #[.int .i64 n] w' fun e w'' => e = .returned (.string (itoaB n)) ∧ Below w'.heap.size w' w''
theorem ItoaOk.below {w w' : World} {n : Int} (h : ItoaOk w n) (hb : Below w.heap.size w w') : ItoaOk w' n := fun W hW => h W (bnext hb hW)
def badM (m : Int × Int) : Prop := m.1 < 0 ∨ m.2 < 0 ∨ 999999999 < m.1 ∨ 999999999 < m.2
instance (m : Int × Int) : Decidable (badM m) := inferInstanceAs (Decidable (_ ∨ _ ∨ _ ∨ _))
end Go.Proofs.YtngpopalpofhgaaGreatDoor

namespace Go.Proofs.YtngpopalpofhgaaGreatDoor
open Go.RowKit
set_option maxHeartbeats 1000000
set_option maxRecDepth 100000

end Go.Proofs.YtngpopalpofhgaaGreatDoor

namespace Go.Proofs.YtngpopalpofhgaaGreatDoor
open Go.RowKit Go.Shelf
attribute [local go_sem] Oper.semAt_some
set_option maxHeartbeats 2000000
set_option maxRecDepth 100000

abbrev Slot (n : Nat) := { x : Int // 0 ≤ x ∧ x < n }
def slotV {n : Nat} (x : Slot n) : Array Value := #[.int .i64 x.1]

/-- this block is as it was. -/
def KeepAt (b : Nat) (A B : World) : Prop := B.heap[b]? = A.heap[b]?
theorem KeepAt.cell {b o : Nat} {A B : World} (h : KeepAt b A B) : B.cell? ⟨b, o, none⟩ = A.cell? ⟨b, o, none⟩ := World.cell?_of_block (w := A) h

end Go.Proofs.YtngpopalpofhgaaGreatDoor

namespace Go.Proofs.YtngpopalpofhgaaGreatDoor
open Go.RowKit Go.Shelf
attribute [local go_sem] Oper.semAt_some
set_option maxHeartbeats 2000000
set_option maxRecDepth 100000

end Go.Proofs.YtngpopalpofhgaaGreatDoor

namespace Go.Proofs.YtngpopalpofhgaaGreatDoor
open Go.RowKit Go.Shelf
attribute [local go_sem] Oper.semAt_some
set_option maxHeartbeats 2000000
set_option maxRecDepth 100000

theorem Reps.keep {α : Type} {c : α → Value} {sz : Nat} {w w' : World} {a : Option Addr} {cap : Nat} {l : List α} (h : Reps c sz w a cap l) (hk : ∀ b, a = some b → KeepAt b.block w w') : Reps c sz w' a cap l := by
 obtain ⟨h1, h2, h3, h4, h5⟩ := h
 refine ⟨h1, h2, h3, h4, fun j u hj => ?_⟩
 obtain ⟨b, o, e, hc⟩ := h5 j u hj
 exact ⟨b, o, e, (hk _ e).cell.trans hc⟩
/-- what the iterator must find again. -/
structure CyKeep (bi bp : Nat) (a : Option Addr) (A B : World) : Prop where
 i : KeepAt bi A B
 p : KeepAt bp A B
 s : ∀ b, a = some b → KeepAt b.block A B
theorem CyKeep.trans {bi bp : Nat} {a : Option Addr} {A B C : World} (h : CyKeep bi bp a A B) (k : CyKeep bi bp a B C) : CyKeep bi bp a A C :=
 ⟨Eq.trans k.i h.i, Eq.trans k.p h.p, fun b e => Eq.trans (k.s b e) (h.s b e)⟩

section
variable {p : List Int} (hp : IsP p) {i : Int} (h0 : 0 ≤ i) (h1 : i < p.length)
def itS (k : Nat) : Slot p.length := ⟨itP p i k, itP_rng hp h0 h1 k⟩
def orbS (d : Nat) : List (Slot p.length) := (List.range d).map (itS hp h0 h1)
theorem orbS_succ (d : Nat) : orbS hp h0 h1 (d + 1) = orbS hp h0 h1 d ++ [itS hp h0 h1 d] := by simp [orbS, List.range_succ]
theorem orbS_len (d : Nat) : (orbS hp h0 h1 d).length = d := by simp [orbS]
theorem orbS_val {d : Nat} (hd : Ord p i d) : (orbS hp h0 h1 d).map (·.1) = orb p i := by rw [orb_eq hd]; simp [orbS, itS, Function.comp_def]

theorem cycle1_in (m l bi bp cap : Nat) (a : Option Addr) (d : Nat) (hd : Ord p i d) (hn2 : p.length ≤ 1048576) (hm : 1 ≤ m) (J Jx : List (Slot p.length) → World → Prop)
  (hY : ∀ pre (x : Slot p.length) W, J pre W → pre.length < p.length → YieldAt Fence.wide (m - 1) Tryz.prog l (slotV x) W fun e W' =>
   (e = .returned (.bool true) ∧ J (pre ++ [x]) W' ∧ CyKeep bi bp a W W') ∨ (e = .returned (.bool false) ∧ Jx (pre ++ [x]) W'))
  (W : World) (hWi : W.cell? ⟨bi, 0, none⟩ = some (.int .i64 i)) (hWp : W.cell? ⟨bp, 0, none⟩ = some (.slice a p.length cap)) (hS : Ints W a cap p) (hJ0 : J [] W) :
  CallsIn Fence.wide m Tryz.prog 192 #[.func (.yield l) #[] #[], .pointer (some ⟨bi, 0, none⟩), .pointer (some ⟨bp, 0, none⟩)] W fun e W' => (∃ v, e = .returned v) ∧
   ((∃ ys, ys = orbS hp h0 h1 d ∧ J ys W') ∨ (∃ pre, (∃ k, pre = orbS hp h0 h1 k) ∧ Jx pre W')) := by
 refine callsIn_of_wp Tryz.func192 rfl trivial ?_ rfl
 simp only [Tryz.ntmps192, List.size_toArray, List.length_cons, List.length_nil, Nat.reduceAdd, Nat.reduceSub, Array.replicate_succ, Array.replicate_zero, List.push_toArray, List.append_toArray, List.nil_append, List.cons_append]
 gi_wp2
 gi_loopg [4] d (fun g x wr => ∃ k : Nat, k + g = d ∧ 0 < g ∧ x = .int .i64 (itP p i k) ∧ J (orbS hp h0 h1 k) wr ∧ wr.cell? ⟨bi, 0, none⟩ = some (.int .i64 i) ∧ wr.cell? ⟨bp, 0, none⟩ = some (.slice a p.length cap) ∧ Ints wr a cap p)
 case atStart => exact ⟨0, by omega, hd.pos, rfl, hJ0, hWi, hWp, hS⟩
 case round =>
  obtain ⟨k, hkg, hg0, rfl, hJs, hci, hcp, hSr⟩ := hrel
  have hdl := hd.le
  obtain ⟨fn, tmps, assign, body, hy, hR⟩ := hY _ (itS hp h0 h1 k) wr hJs (by rw [orbS_len]; omega)
  unfold slotV itS at hy
  dsimp only at hy
  gi_wp2
  refine hR.mono ?_
  rintro e W3 (⟨rfl, hJ3, hk3⟩ | ⟨rfl, hJx3⟩)
  ·have hci3 := hk3.i.cell.trans hci
   have hcp3 := hk3.p.cell.trans hcp
   have hS3 := hSr.keep hk3.s
   clear hci hcp hSr hJs hR hy
   have hr := itP_rng hp h0 h1 k
   obtain ⟨bb, oo, rfl, hcx⟩ := hS3.cells (by decide) 0 (itP p i k).toNat (by omega)
   have hcx := hcx 0 (.int .i64 (itP p i (k + 1))) rfl
   simp only [Nat.mul_one, Nat.add_zero] at hcx
   by_cases hlast : k + 1 = d
   ·have hb : itP p i (k + 1) = i := by rw [hlast]; exact hd.back
    rw [hb] at hcx
    have HB := hid hb; clear hb
    have HL := hid hlast; clear hlast
    gi_wp2
    refine bodyPost_ret (results_none rfl _ _ _) rfl ?_
    refine ⟨⟨_, rfl⟩, .inl ?_⟩
    first | exact ⟨_, rfl, by rw [← HL.out, orbS_succ]; exact hJ3⟩ | (rw [← HL.out, orbS_succ]; exact hJ3)
   ·have hne : (itP p i (k + 1) == i) = false := by simpa using hd.min (k + 1) (by omega) (by omega)
    gi_wp2
    gi_roundg (gk - 1)
    case measure => omega
    case rel => exact ⟨k + 1, by omega, by omega, rfl, by rw [orbS_succ]; exact hJ3, hci3, hcp3, hS3⟩
  ·gi_wp2
   go_end0
   refine ⟨⟨_, rfl⟩, .inr ⟨_, ⟨k + 1, (orbS_succ hp h0 h1 k).symm⟩, hJx3⟩⟩

theorem cycle_stops (m bi bp cap : Nat) (a : Option Addr) (d : Nat) (hd : Ord p i d) (hn2 : p.length ≤ 1048576) (hm : 1 ≤ m) (w : World) (hbi : bi < w.heap.size) (hbp : bp < w.heap.size)
  (hWi : w.cell? ⟨bi, 0, none⟩ = some (.int .i64 i)) (hWp : w.cell? ⟨bp, 0, none⟩ = some (.slice a p.length cap)) (hS : Ints w a cap p) :
  SeqStopsK Fence.wide m Tryz.prog 192 #[.pointer (some ⟨bi, 0, none⟩), .pointer (some ⟨bp, 0, none⟩)] (slotV (n := p.length)) (CyKeep bi bp a) (fun ys => ys = orbS hp h0 h1 d) (fun _ => True) p.length w := fun l J Jx W hW _ _ hY hJ0 => by
 have c1 := (hW.cell (p := ⟨bi, 0, none⟩) hbi).trans hWi
 have c2 := (hW.cell (p := ⟨bp, 0, none⟩) hbp).trans hWp
 refine (cycle1_in hp h0 h1 m l bi bp cap a d hd hn2 hm J Jx hY W c1 c2 (hS.below hW) hJ0).mono ?_
 rintro e W' ⟨he, ⟨ys, hys, hj⟩ | ⟨pre, _, hj⟩⟩
 ·exact ⟨he, .inl ⟨ys, hys, hj⟩⟩
 ·exact ⟨he, .inr ⟨pre, trivial, hj⟩⟩
end

theorem cycle_any (a : Option Addr) (n cap : Nat) (i : Int) (w : World) :
  Calls Tryz.prog 146 #[.slice a n cap, .int .i64 i] w fun r w' =>
   r = .returned (.func (.func 192) #[] #[.pointer (some ⟨w.heap.size + 1, 0, none⟩), .pointer (some ⟨w.heap.size, 0, none⟩)]) ∧ w' = (w.alloc (.cells #[.slice a n cap] 22)).alloc (.cells #[.int .i64 i] 3) := by
 go_enter Tryz.func146, Tryz.ntmps146
 go_wp2
 go_ret
 exact ⟨rfl, rfl⟩
end Go.Proofs.YtngpopalpofhgaaGreatDoor

namespace Go.Proofs.YtngpopalpofhgaaGreatDoor
open Go.RowKit Go.Shelf
attribute [local go_sem] Oper.semAt_some
set_option maxHeartbeats 2000000
set_option maxRecDepth 100000

abbrev SlH := Option Addr × Nat × Nat
abbrev cSl (x : SlH) : Value := .slice x.1 x.2.1 x.2.2
theorem cSlS (x : SlH) : (cSl x).cells.size = 1 := rfl
theorem cSlO (x : SlH) : ∀ u ∈ (cSl x).cells.toList, u.oneCell' = true := by intro u hu; simp [cSl, Value.cells] at hu; subst hu; rfl
theorem E_sls : ETy Tryz.prog 29 22 (.slice none 0 0) 1 24 := ⟨Tryz.underlying29, by kernel_rfl, rfl, by decide⟩
theorem E_bools : ETy Tryz.prog 186 4 (cBool false) 1 1 := ⟨Tryz.underlying186, by kernel_rfl, rfl, by decide⟩
theorem F_bool : Flat Tryz.prog 4 := ⟨_, Tryz.underlying4, rfl⟩

def inP (q : SlH × List Int) : Pc := pOwn cInt 1 3 (cSl q.1) q.2
def valS {n : Nat} (pre : List (Slot n)) : List Int := pre.map (·.1)
theorem valS_snoc {n : Nat} (pre : List (Slot n)) (x : Slot n) : valS (pre ++ [x]) = valS pre ++ [x.1] := by simp [valS]
theorem valS_len {n : Nat} (pre : List (Slot n)) : (valS pre).length = pre.length := by simp [valS]
def markS {n : Nat} (S : List Bool) (pre : List (Slot n)) : List Bool := pre.foldl (fun s x => s.set x.1.toNat true) S
theorem markS_snoc {n : Nat} (S : List Bool) (pre : List (Slot n)) (x : Slot n) : markS S (pre ++ [x]) = (markS S pre).set x.1.toNat true := by simp [markS]
theorem markS_len {n : Nat} : ∀ (pre : List (Slot n)) (S : List Bool), (markS S pre).length = S.length
 | [], S => rfl
 | x :: r, S => by rw [markS, List.foldl_cons]; exact (markS_len r _).trans (by simp)
theorem atD_setB (S : List Bool) (k x : Int) (hk : 0 ≤ k) (hx : 0 ≤ x) (hl : k < S.length) : atD false (S.set k.toNat true) x = (atD false S x || decide (x = k)) := by
 unfold atD
 by_cases e : x = k
 ·subst e
  have : x.toNat < S.length := by omega
  simp [this]
 ·have : ¬ k.toNat = x.toNat := by omega
  simp [List.getD_eq_getElem?_getD, List.getElem?_set_ne this, e]
theorem markS_at {n : Nat} : ∀ (pre : List (Slot n)) (S : List Bool), S.length = n → ∀ x : Int, 0 ≤ x → atD false (markS S pre) x = (atD false S x || decide (x ∈ valS pre))
 | [], S, _, x, _ => by simp [markS, valS]
 | y :: r, S, h, x, hx => by
   have := markS_at r (S.set y.1.toNat true) (by simpa using h) x hx
   rw [markS, List.foldl_cons]
   rw [markS] at this
   rw [this, atD_setB S y.1 x y.2.1 hx (by rw [h]; exact y.2.2), Bool.or_assoc]
   congr 1
   rw [Bool.eq_iff_iff]; simp [valS]
/-- what holds at the head of a round. -/
def CyI (w : World) (p : List Int) (k : Nat) (ad : Option Addr) (Hs : Nat) (S : List Bool) (ov : Value) (qs : List (SlH × List Int)) (Ds : List Nat) (wr : World) : Prop :=
 S.length = p.length ∧ (∀ x : Int, 0 ≤ x → x < p.length → atD false S x = decide (x ∈ (cycK p k).flatten)) ∧ qs.map Prod.snd = cycK p k ∧
  SL w.heap.size w wr (pBlk Hs (.cells #[.slice ad p.length p.length] 186) :: pOwn cBool 1 4 (.slice ad p.length p.length) S :: pOwn cSl 1 22 ov (qs.map Prod.fst) :: (qs.map inP ++ Ds.map pMark))
theorem cycK_in {p : List Int} {k : Nat} (h : (k : Int) ∈ (cycK p k).flatten) : cycK p (k + 1) = cycK p k := by rw [cycK, if_pos h]
theorem cycK_out {p : List Int} {k : Nat} (h : ¬ (k : Int) ∈ (cycK p k).flatten) : cycK p (k + 1) = cycK p k ++ [orb p k] := by rw [cycK, if_neg h]
theorem KeepAt.of_grown {b : Nat} {A B : World} {row : Option Nat} (hg : A.grownBy B row) (hb : b < A.heap.size) (hne : some b ≠ row) : KeepAt b A B := hg.block b hb hne
theorem KeepAt.trans {b : Nat} {A B C : World} (h : KeepAt b A B) (k : KeepAt b B C) : KeepAt b A C := Eq.trans k h
theorem KeepAt.set {b : Nat} {A : World} {x : Addr} {v : Value} (h : b ≠ x.block) : KeepAt b A (A.setCell x v) := Below.heap_setCell _ _ _ _ h

theorem cycles_any (a : Option Addr) (cap : Nat) (p : List Int) (w : World) (hS : Ints w a cap p) (hp : IsP p) (hn : p.length ≤ 1048576) :
  Calls Tryz.prog 93 #[.slice a p.length cap] w fun r w' => ∃ (v : Value) (qs : List (SlH × List Int)), r = .returned v ∧ qs.map Prod.snd = cycK p p.length ∧ SL w.heap.size w w' (pOwn cSl 1 22 v (qs.map Prod.fst) :: qs.map inP) := by
 have hcap := hS.le
 have hm := hS.max
 refine callsIn_wide.1 (callsIn_of_wp_marks (n := 9) (F := Fence.wide) Tryz.func93 rfl trivial ?_ rfl)
 simp only [Tryz.ntmps93, List.size_toArray, List.length_cons, List.length_nil, Nat.reduceAdd, Nat.reduceSub, Array.replicate_succ, Array.replicate_zero, List.push_toArray, List.append_toArray, List.nil_append, List.cons_append]
 refine wpIn_wide.2 ?_
 have hs0 := SL.nil w
 go_wp2_with ((with_reducible refine wpList_makeL (c := cBool) (p.length) (false) E_bools cBool1 wU wU (by omega) (by omega) (hs0) ?_); intro ad w1 hs1)
 obtain ⟨Hs, hHs⟩ : ∃ x, x = w1.heap.size := ⟨_, rfl⟩
 rw [← hHs]
 have hs2 := hs1.box (.cells #[.slice ad p.length p.length] 186)
 rw [← hHs] at hs2
 have hS2 := hS.below hs2.b
 clear hs1 hHs
 refine wp_loop (fun a' wr => ∃ (k : Nat) (S : List Bool) (ov : Value) (qs : List (SlH × List Int)) (Ds : List Nat) (u5 u6 u7 u14 u15 u16 u17 u18 u19 u20 u21 u22 u23 u24 u25 u26 u27 u28 u29 u30 u31 u32 u33 u34 u35 : Value), a' = { tmps := #[.slice a p.length cap, undef, .slice none 0 0, ov, .pointer (some ⟨Hs, 0, none⟩), u5, u6, u7, .slice a p.length cap, .int .i64 p.length, .slice ad p.length p.length, .slice a p.length cap, .int .i64 p.length, .int .i64 k, u14, u15, u16, u17, u18, u19, u20, u21, u22, u23, u24, u25, u26, u27, u28, u29, u30, u31, u32, u33, u34, u35, undef], defers := Ds.map markOf } ∧ k ≤ p.length ∧ CyI w p k ad Hs S ov qs Ds wr) (fun a' _ => p.length - (intOf (a'.tmps.getD 13 undef)).toNat) ?_ ?_
 ·refine ⟨0, List.replicate p.length false, .slice none 0 0, [], [], undef, undef, undef, undef, undef, undef, undef, undef, undef, undef, undef, undef, undef, undef, undef, undef, undef, undef, undef, undef, undef, undef, undef, undef, undef, rfl, Nat.zero_le _, by simp, ?_, rfl, ?_⟩
  ·intro x h0 h1
   have : x.toNat < p.length := by omega
   simp [atD, cycK, this]
  ·exact ((hs2.nilS (α := SlH) (e := 22) cSlS).pick [1, 2, 0] (by decide) _ rfl)
 ·rintro a' wr ⟨k, S, ov, qs, Ds, u5, u6, u7, u14, u15, u16, u17, u18, u19, u20, u21, u22, u23, u24, u25, u26, u27, u28, u29, u30, u31, u32, u33, u34, u35, rfl, hk, hlen, hsn, hqs, hSL⟩
  have hSr := hS.below hSL.b
  have hqlen : (qs.map Prod.fst).length ≤ k := by
   have h1 := cycK_len p k
   rw [← hqs] at h1; simpa using h1
  by_cases hlt : k < p.length
  ·have hsk := hsn k (by omega) (by omega)
   have HSN := hid hsn; clear hsn
   have HL := hid hlen; clear hlen
   have HQ := hid hqs; clear hqs
   have hsb := hSL.cell 0 rfl 0 rfl
   have hRB := hSL.rd 1 rfl
   by_cases hin : (k : Int) ∈ (cycK p k).flatten
   ·rw [decide_eq_true hin] at hsk
    have HSK := hid hsk; clear hsk
    have HIN := hid hin; clear hin
    go_wp2_with ((with_reducible refine wpList_idxN _ false E_bools F_bool cBool1 wU wU (hRB) (HL.out) oD oD (fun _ => wU) (fun _ => ?_)); rw [HSK.out])
    refine ⟨⟨k + 1, S, ov, qs, Ds, _, _, _, _, _, _, _, _, _, _, _, _, _, _, _, _, _, _, _, _, _, _, _, _, _, rfl, by omega, HL.out, ?_, ?_, hSL⟩, by simp [intOf]; omega⟩
    ·rw [cycK_in HIN.out]; exact HSN.out
    ·rw [cycK_in HIN.out]; exact HQ.out
   ·rw [decide_eq_false hin] at hsk
    have HSK := hid hsk; clear hsk
    have HIN := hid hin; clear hin
    go_wp2_with ((with_reducible refine wpList_idxN _ false E_bools F_bool cBool1 wU wU (hRB) (HL.out) oD oD (fun _ => wU) (fun pidx => ?_)); rw [HSK.out])
    refine (cycle_any _ _ _ _ _).mono ?_
    rintro e w3 ⟨rfl, rfl⟩
    go_wp2_with fail
    obtain ⟨d, hd⟩ := ord_ex hp (i := (k : Int)) (by omega) (by omega)
    have hk0 : (0 : Int) ≤ k := by omega
    have hk1 : (k : Int) < p.length := by omega
    have hS4 := (((hSL.nilS (α := Int) (e := 3) cIntS).box (.cells #[.slice none 0 0] 22)).box (.cells #[.slice a p.length cap] 22)).box (.cells #[.int .i64 k] 3)
    have hcn := hS4.cell 0 rfl 0 rfl
    have hcm := hS4.cell 1 rfl 0 rfl
    simp only [World.size_alloc] at hS4 hcn hcm
    have hmarks : ∀ D ∈ Ds, D < wr.heap.size := by
     intro D hD
     obtain ⟨i, hi, rfl⟩ := List.mem_iff_getElem.1 hD
     exact (hSL.blk (i + qs.length + 3) (k := Ds[i]) (o := .deferred (some [])) (by simp [pMark, hi, List.getElem?_append_right])).2.2
    have hokT : ∀ (lv : Value) (l : List Int) (S' : List Bool), ∀ q ∈ (pBlk (wr.heap.size + 1 + 1) (.cells #[.int .i64 k] 3) :: pBlk (wr.heap.size + 1) (.cells #[.slice a p.length cap] 22) :: pBlk wr.heap.size (.cells #[lv] 22) :: pOwn cInt 1 3 lv l ::
      pBlk Hs (.cells #[.slice ad p.length p.length] 186) :: pOwn cBool 1 4 (.slice ad p.length p.length) S' :: pOwn cSl 1 22 ov (qs.map Prod.fst) :: (qs.map inP ++ Ds.map pMark)), q.okT (wr.heap.size + 1 + 1 + 1) := by
     intro lv l S' q hq
     simp only [List.mem_cons, List.mem_map, List.mem_append] at hq
     rcases hq with rfl | rfl | rfl | rfl | rfl | rfl | rfl | ⟨z, _, rfl⟩ | ⟨D, hD, rfl⟩
     ·exact okT_cells
     ·exact okT_cells
     ·exact okT_cells
     ·exact okT_own
     ·exact okT_cells
     ·exact okT_own
     ·exact okT_own
     ·exact okT_own
     ·exact okT_lt (by have := hmarks D hD; omega)
    have HOK := hid hokT; clear hokT
    have hzr := hSL.z
    have hal : ∀ b, a = some b → b.block < w.heap.size := by
     intro b e
     obtain ⟨b1, o1, e1, hc⟩ := hS.cells (by decide) 0 k hlt
     have hc := hc 0 _ rfl
     rw [e] at e1; cases e1
     have := World.block_lt_of_cell? w _ hc
     exact this
    refine (wpIn_wide (n := 9)).1 ?_
    refine wpIn_rangeFunc_ownF rfl (by decide) (gf := 192) (lb := #[.pointer (some ⟨wr.heap.size + 1 + 1, 0, none⟩), .pointer (some ⟨wr.heap.size + 1, 0, none⟩)]) rfl trivial (enters_of Tryz.func192 kR rfl)
     (cycle_stops hp hk0 hk1 8 (wr.heap.size + 1 + 1) (wr.heap.size + 1) cap a d hd hn (by decide) _ (by simp) (by simp) hcn hcm (hSr.below ((((Below.refl _ _).alloc (Nat.le_refl _) _).alloc (by simp) _).alloc (by simp; omega) _)))
     (fun h1 h2 => h1.trans h2) (fun W j o o' hj _ _ _ => ⟨World.putObj_heap_other (by simp at hj; omega), World.putObj_heap_other (by simp at hj; omega), fun b e => World.putObj_heap_other (by have := hal b e; simp at hj; omega)⟩) (Below.refl _ _) (fun _ => rfl)
     (fun pre W => pre.length ≤ p.length ∧ ∃ lv, SL w.heap.size w W (pBlk (wr.heap.size + 1 + 1) (.cells #[.int .i64 k] 3) :: pBlk (wr.heap.size + 1) (.cells #[.slice a p.length cap] 22) :: pBlk wr.heap.size (.cells #[lv] 22) :: pOwn cInt 1 3 lv (valS pre) ::
      pBlk Hs (.cells #[.slice ad p.length p.length] 186) :: pOwn cBool 1 4 (.slice ad p.length p.length) (markS S pre) :: pOwn cSl 1 22 ov (qs.map Prod.fst) :: (qs.map inP ++ Ds.map pMark)))
     (fun _ _ _ => False) ?hI (fun _ _ _ _ _ hs _ _ => hs) ⟨by simp, .slice none 0 0, hS4⟩
     (fun x => { tmps := #[.slice a p.length cap, undef, .slice none 0 0, ov, .pointer (some ⟨Hs, 0, none⟩), .int .i64 k, .pointer (some ⟨wr.heap.size, 0, none⟩), .int .i64 x.1, .slice a p.length cap, .int .i64 p.length, .slice ad p.length p.length, .slice a p.length cap, .int .i64 p.length, .int .i64 k, .bool true, .int .i64 k, .slice ad p.length p.length, .int .i64 k, pidx, .bool false, .slice a p.length cap, .int .i64 k, .func (.func 192) #[] #[.pointer (some ⟨wr.heap.size + 1 + 1, 0, none⟩), .pointer (some ⟨wr.heap.size + 1, 0, none⟩)], .int .i64 x.1, u24, u25, u26, u27, u28, u29, u30, u31, u32, u33, u34, u35, undef], defers := [] }) ?assign ?body ?done ?stop
    case hI =>
     rintro s A B row ⟨hs1, lv, hs⟩ hg hr
     exact ⟨hs1, lv, hs.turn (C := wr.heap.size + 1 + 1 + 1) (by omega) (HOK.out _ _ _) hg (fun r e => by have := hr r e; simpa using this)⟩
    case assign =>
     intro l x W K hK
     dsimp only [slotV]
     gi_wp2
     exact hK
    case body =>
     rintro q pre x W ⟨hpl, lv, hs⟩ hlt2
     have hx0 := x.2.1
     have hx1 := x.2.2
     have hml := markS_len pre S
     obtain ⟨g, hgad, -, hcell, hfr, hS5⟩ := hs.setOwn cBool1 5 rfl x.1 hx0 (by rw [hml, HL.out]; exact hx1) true
     subst hgad
     have hsb2 := hs.cell 4 rfl 0 rfl
     have hlb := hs.cell 2 rfl 0 rfl
     have hn1 : ¬ g = wr.heap.size := hs.apart 5 2 (by decide) rfl rfl own_at blk_at
     have hn2 : g ≠ wr.heap.size + 1 := hs.apart 5 1 (by decide) rfl rfl own_at blk_at
     have hn3 : g ≠ wr.heap.size + 1 + 1 := hs.apart 5 0 (by decide) rfl rfl own_at blk_at
     have hgB : w.heap.size ≤ g := ((hs.own 5 rfl).lt g rfl).1
     obtain ⟨bv, hbv⟩ : ∃ bv, W.cell? ⟨g, x.1.toNat, none⟩ = some (.bool bv) := by
      have : x.1.toNat < (markS S pre).length := by rw [hml, HL.out]; omega
      exact ⟨(markS S pre)[x.1.toNat], by rw [hcell]; simp [this, cBool]⟩
     have H2 := hid hn2; clear hn2
     have H3 := hid hn3; clear hn3
     have HML := hid hml; clear hml
     clear hcell
     obtain ⟨X, hX⟩ : ∃ X : Int, X = x.1 := ⟨_, rfl⟩
     have hvl := valS_len pre
     have hvl2 : (valS pre).length ≤ 1048576 := by omega
     clear hvl
     gi_wp2_with (((with_reducible refine wpListIn_pushL (y := _) 3 E_ints wU wU (hS5) wU cIntO ⟨rfl, rfl⟩ (by first | with_unfolding_all rfl | simp) wU (by first | omega | (simp; omega)) (by first | omega | (simp; omega)) ?_); intro v6 w6 hP hg6 _); obtain ⟨a6, c6, rfl, _⟩ := hP.slice 3 rfl; have hlb6 := hP.cell 2 rfl 0 rfl; have hlf6 := hP.frozen 2 rfl 0)
     have hne0 := hS5.ne_own 3 0 (by decide) rfl rfl
     have hne1 := hS5.ne_own 3 1 (by decide) rfl rfl
     have hob := (hS5.own 3 rfl)
     refine ⟨((KeepsOthers.setCell _ _ _).trans (KeepsOthers.of_grownBy hg6 fun j o ej hj => ?_)).trans (KeepsOthers.setCell _ _ _), ⟨?_, ?_, fun b e => ?_⟩, by simp; omega, .slice a6 (valS pre ++ [x.1]).length c6, ?_⟩
     ·obtain ⟨o', h1, h2⟩ := own_isCells hob ej
      have h3 := hj.symm.trans h1
      cases h3; exact h2
     ·exact ((KeepAt.set (fun e => H3.out e.symm)).trans (KeepAt.of_grown hg6 (by have := (hS5.blk 0 rfl).2.2; exact this) (fun e => hne0 e.symm))).trans (KeepAt.set (by show _ ≠ wr.heap.size; omega))
     ·exact ((KeepAt.set (fun e => H2.out e.symm)).trans (KeepAt.of_grown hg6 (by have := (hS5.blk 1 rfl).2.2; exact this) (fun e => hne1 e.symm))).trans (KeepAt.set (by show _ ≠ wr.heap.size; omega))
     ·have hb := hal b e
      exact ((KeepAt.set (by show _ ≠ g; omega)).trans (KeepAt.of_grown hg6 (Nat.lt_of_lt_of_le hb hS5.z) (fun e => by have := (hob.lt _ e.symm).1; omega))).trans (KeepAt.set (by show _ ≠ wr.heap.size; omega))
     ·rw [valS_snoc, markS_snoc]
      have := hP.set 2 rfl 0 (.slice a6 (valS pre ++ [x.1]).length c6)
      have e : (valS pre ++ [x.1]).length = (valS pre).length + 1 := by simp
      rw [e] at this ⊢
      exact this
    case done =>
     rintro D ys W hD rfl ⟨hpl, lv, hs0⟩ hK
     have hs := hs0.addMark (C := wr.heap.size + 1 + 1 + 1) (HOK.out _ _ _) (by omega) (by simpa using hD) hK
     clear hs0
     obtain ⟨al, cl, rfl, _⟩ := hs.slice 4 rfl
     have hlb := hs.cell 3 rfl 0 rfl
     dsimp only
     go_wp2_with ((with_reducible refine wpList_pushL (y := ((al, (valS (orbS hp hk0 hk1 d)).length, cl) : SlH)) 7 E_sls wU wU (hs) wU cSlO ⟨rfl, rfl⟩ (by first | with_unfolding_all rfl | simp) wU (by first | omega | (simp; omega)) (by first | omega | (simp; omega)) ?_); intro v4 w4 hP)
     have hR1 := SL.pickA (K := [_, _, _, _, _, _, _, _]) (M := qs.map inP ++ Ds.map pMark) hP [5, 6, 7, 4, 0] (by decide) (by simp) [_, _, _, _, _] rfl
     refine ⟨⟨k + 1, markS S (orbS hp hk0 hk1 d), v4, qs ++ [((al, (valS (orbS hp hk0 hk1 d)).length, cl), valS (orbS hp hk0 hk1 d))], D :: Ds, _, _, _, _, _, _, _, _, _, _, _, _, _, _, _, _, _, _, _, _, _, _, _, _, _, rfl, by omega, ?_, ?_, ?_, ?_⟩, by simp [intOf]; omega⟩
     ·rw [markS_len, HL.out]
     ·intro x h0 h1
      rw [markS_at _ _ HL.out x h0, HSN.out x h0 h1, cycK_out HIN.out]
      rw [show valS (orbS hp hk0 hk1 d) = orb p k from orbS_val hp hk0 hk1 hd]
      simp
     ·rw [List.map_append, HQ.out, cycK_out HIN.out]
      rw [show valS (orbS hp hk0 hk1 d) = orb p k from orbS_val hp hk0 hk1 hd]
      rfl
     ·refine hR1.perm ?_
      rw [List.map_append, List.map_append]
      refine List.Perm.cons _ (List.Perm.cons _ (List.Perm.cons _ ?_))
      simp only [List.map_cons, List.map_nil, List.append_assoc, List.cons_append, List.nil_append]
      show (inP ((al, (valS (orbS hp hk0 hk1 d)).length, cl), valS (orbS hp hk0 hk1 d)) :: pMark D :: (qs.map inP ++ Ds.map pMark)).Perm _
      exact (List.perm_middle.trans (List.Perm.cons _ List.perm_middle)).symm
    case stop =>
     rintro D c pre W _ _ h _
     exact h.elim
  ·have hkk : k = p.length := by omega
   have HKK := hid hkk; clear hkk
   have HQ := hid hqs; clear hqs
   clear hsn hlen
   go_wp2_with fail
   refine SL.leave' (L := pOwn cSl 1 22 ov (qs.map Prod.fst) :: qs.map inP) hSL.tail.tail fun W hW => ⟨ov, ?_, ov, qs, rfl, by rw [HQ.out, HKK.out], hW⟩
   simp [results, Tryz.f93, go_sem]
end Go.Proofs.YtngpopalpofhgaaGreatDoor

namespace Go.Proofs.YtngpopalpofhgaaGreatDoor
open Go.RowKit Go.Maps
set_option maxRecDepth 100000

section
variable {P : Program} {ops : Array Oper} {Q : Exit → Act → World → Prop} {md : Region.Mode} {C : World → Prop}
theorem wpAnyC_on {fuel : Nat} {listed : Array Bool} {a : Act} {w : World} (is : List Nat) (hr : Region.ready md ops listed = is) (hne : is ≠ []) (h : ∀ i ∈ is, wpOp P ops Q i (fun a' w' => C w' ∧ wpAnyC P md ops C Q fuel (listed.setIfInBounds i true) a' w') a w) : wpAnyC P md ops C Q (fuel + 1) listed a w :=
 ⟨fun h => absurd (hr ▸ h) hne, fun i hi => h i (hr ▸ hi)⟩
theorem wpOp_value {i : Nat} {o : Oper} {v : Value} {a : Act} {w w' : World} (hi : ops[i]? = some o) (hw : Region.wanted o (yielded ops a.tmps) = true) (hrun : (execOp a.eval o).run P w = .ok (.value v) w') {K : Act → World → Prop} (h : K (a.put o.dst v) w') : wpOp P ops Q i K a w := by
 unfold wpOp
 simp only [hi, hw, if_true, Oper.wp, hrun, Oper.upon]
 exact .inl h
end
theorem of_wpList_nil {P : Program} {ops : Array Oper} {Q : Exit → Act → World → Prop} {a : Act} {w : World} (h : wpList P ops Q [] a w) : Q .normal a w := h
theorem MapI.le {w : World} {b n n' : Nat} {f : Int → Int} (h : MapI w b n f) (hn : n ≤ n') : MapI w b n' f := by
 obtain ⟨D, h1, h2⟩ := h; exact ⟨D, h1.mono hn, h2⟩
end Go.Proofs.YtngpopalpofhgaaGreatDoor

namespace Go.Proofs.YtngpopalpofhgaaGreatDoor
open Go.RowKit Go.Maps
set_option maxHeartbeats 1000000
set_option maxRecDepth 100000

end Go.Proofs.YtngpopalpofhgaaGreatDoor

namespace Go.Proofs.YtngpopalpofhgaaGreatDoor
open Go.RowKit
section
variable {P : Program} {ops : Array Oper} {Q : Exit → Act → World → Prop} {C : World → Prop}
/-- what is left gives the same in every world of the class: in any order. -/
theorem wpAnyC_rest {md : Region.Mode} {w : World} {listed : Array Bool} {a : Act} {n : Nat} (qs : List Nat) (lo : List Oper) (hn : n = qs.length) (hlo : qs.map (fun i => ops[i]?) = lo.map some) (hsel : Region.noSelect ops = true) (hB : Region.firstB md ops qs listed = true)
   (hr : Region.ready md ops (listAll listed qs) = []) (hC : C w) (h : wpPure P ops C (fun a' => Q .normal a' w) lo a) : wpAnyC P md ops C (NoPanic Q) n listed a w := by
 subst hn
 have := wpAnyC_pure (g := 0) hsel (fun c a w h => h) hC qs lo listed a hlo hB (C := C) (Q := NoPanic Q) (P := P) (md := md)
 rw [Nat.zero_add] at this
 refine this ?_
 clear this
 revert h
 have : ∀ (l : List Oper) (a : Act), wpPure P ops C (fun a' => Q .normal a' w) l a → wpPure P ops C (fun a' => wpAnyC P md ops C (NoPanic Q) 0 (listAll listed qs) a' w) l a := by
  intro l
  induction l with
  | nil => intro a h; exact ⟨hr, h⟩
  | cons o r ih => intro a ⟨v, hy, hk⟩; exact ⟨v, hy, ih _ hk⟩
 exact this lo a
end
end Go.Proofs.YtngpopalpofhgaaGreatDoor

namespace Go.Proofs.YtngpopalpofhgaaGreatDoor
open Go.RowKit
section
variable {P : Program} {ops : Array Oper} {Q : Exit → Act → World → Prop} {md : Region.Mode} {C : World → Prop}

/-- the same value in every world of the class, the world left alone. -/
def YieldsK (P : Program) (ops : Array Oper) (C : World → Prop) (o : Oper) (v : Value) (a : Act) : Prop :=
 (Region.wanted o (yielded ops a.tmps) = true ∧ ∀ w, C w → (execOp a.eval o).run P w = .ok (.value v) w) ∨
 (Region.wanted o (yielded ops a.tmps) = false ∧ v = undef) ∨
 (Region.wanted o (yielded ops a.tmps) = true ∧ ∃ (f : FuncId) (args : Array Value), (∀ w, C w → (execOp a.eval o).run P w = .ok (.enter f args) w) ∧ ∀ w, C w → Calls P f args w fun e w' => e = .returned v ∧ w = w')
theorem YieldsK.wpOp {i : Nat} {o : Oper} {v : Value} {a : Act} (hi : ops[i]? = some o) (hy : YieldsK P ops C o v a)
  {K : Act → World → Prop} {w : World} (hC : C w) (h : K (a.put o.dst v) w) : wpOp P ops Q i K a w := by
 unfold Go.wpOp
 simp only [hi]
 rcases hy with ⟨hw, hv⟩ | ⟨hw, rfl⟩ | ⟨hw, f, args, hr, hc⟩
 ·simp only [hw, if_true, Oper.wp, hv w hC, Oper.upon]; exact .inl h
 ·simp only [hw, Bool.false_eq_true, if_false]; exact h
 ·simp only [hw, if_true, Oper.wp, hr w hC, Oper.upon]
  refine .inl ((hc w hC).mono ?_)
  rintro e w' ⟨rfl, rfl⟩
  exact h
theorem YieldsK.of_same {o : Oper} {v : Value} {a a' : Act} (hy : YieldsK P ops C o v a) (he : execOp a'.eval o = execOp a.eval o)
  (hw : Region.wanted o (yielded ops a'.tmps) = Region.wanted o (yielded ops a.tmps)) : YieldsK P ops C o v a' := by
 unfold YieldsK at *
 rw [he, hw]
 exact hy

theorem wpOp_putK {j : Nat} {oi oj : Oper} {v : Value} (hj : ops[j]? = some oj) (hap : oi.apart ops oj = true)
  (hsi : ∀ cs b, oi.op ≠ .select cs b) (hsj : ∀ cs b, oj.op ≠ .select cs b)
  (hQ : ∀ c a w, ¬ Q (.panic c) a w) {K : Act → World → Prop} {a : Act} {w : World}
  (hy : YieldsK P ops C oi v a) (h : wpOp P ops Q j K (a.put oi.dst v) w) :
  wpOp P ops Q j (fun a' w' => YieldsK P ops C oi v a' ∧ K (a'.put oi.dst v) w') a w := by
 obtain ⟨h1, h2, h3⟩ := Oper.apart_spec hap
 have keep : ∀ (a : Act), YieldsK P ops C oi v a → ∀ u, YieldsK P ops C oi v (a.put oj.dst u) := fun a hy u =>
  hy.of_same (execOp_put oi hsi a oj.dst u h3) (wanted_put oi a oj.dst u h3)
 have keepD : ∀ d, YieldsK P ops C oi v { a with defers := d :: a.defers } := fun d => hy.of_same rfl rfl
 unfold wpOp at *
 simp only [hj] at *
 rw [wanted_put oj a oi.dst v h1] at h
 split
 ·rename_i hw
  simp only [hw, if_true] at h
  rcases h with h | ⟨hasks, hlets⟩
  case inr => exact .inr ⟨by unfold Oper.asks at *; rw [execOp_put oj hsj a oi.dst v h1] at hasks; exact hasks, hlets⟩
  refine .inl ?_
  unfold Oper.wp at *
  rw [execOp_put oj hsj a oi.dst v h1] at h
  generalize (execOp a.eval oj).run P w = r at *
  cases r with
  | ok n w' =>
   cases n <;> simp only [Oper.upon] at h ⊢
   case value u => exact ⟨keep a hy u, by rw [← Act.put_comm a v u h2]; exact h⟩
   case skip => exact ⟨keep a hy _, by rw [← Act.put_comm a v undef h2]; exact h⟩
   case defer d =>
    refine ⟨keep _ (keepD d) _, ?_⟩
    rw [← Act.put_comm _ v undef h2, ← Act.put_defers]
    exact h
   case enter f args =>
    refine Calls.mono h fun e w'' he => ?_
    cases e with
    | returned u => exact ⟨keep a hy u, by rw [← Act.put_comm a v u h2]; exact he⟩
    | panicked c => exact absurd he (hQ _ _ _)
    | outgrown => exact he
   case row row args => exact Rows.mono h fun u w'' he => ⟨keep a hy u, by rw [← Act.put_comm a v u h2]; exact he⟩
  | halt x w' =>
   cases x <;> simp only [Oper.upon] at h ⊢
   case panic u => exact absurd h (hQ _ _ _)
 ·rename_i hw
  simp only [hw] at h
  exact ⟨keep a hy _, by rw [← Act.put_comm a v undef h2]; exact h⟩

theorem wpAnyK_first {i : Nat} {oi : Oper} {v : Value} (hi : ops[i]? = some oi) (hsel : ∀ (j : Nat) (o : Oper) cs b, ops[j]? = some o → o.op ≠ .select cs b) (hQ : ∀ c a w, ¬ Q (.panic c) a w) :
  ∀ (fuel : Nat) (listed : Array Bool) (a : Act) (w : World), C w →
   (∀ j oj, ops[j]? = some oj → j ≠ i → listed.getD j true = false → (∀ e ∈ oj.after, Region.binds md e = true → e.on ≠ i) → oi.apart ops oj = true) →
   i ∈ Region.ready md ops listed → YieldsK P ops C oi v a →
   wpAnyC P md ops C Q fuel (listed.setIfInBounds i true) (a.put oi.dst v) w → wpAnyC P md ops C Q (fuel + 1) listed a w := by
 intro fuel
 induction fuel with
 | zero =>
  intro listed a w hC _ hr hy H
  refine ⟨fun h => (by rw [h] at hr; cases hr), fun j hj => ?_⟩
  by_cases hji : j = i
  ·subst hji; exact hy.wpOp hi hC ⟨hC, H⟩
  ·have := ready_mono hj hji
   rw [H.1] at this
   cases this
 | succ fuel ih =>
  intro listed a w hC hfree hr hy H
  refine ⟨fun h => (by rw [h] at hr; cases hr), fun j hj => ?_⟩
  by_cases hji : j = i
  ·subst hji; exact hy.wpOp hi hC ⟨hC, H⟩
  ·have h1 := H.2 j (ready_mono hj hji)
   obtain ⟨hjun, oj, hoj, hall⟩ := mem_ready.1 hj
   have hnot : ∀ e ∈ oj.after, Region.binds md e = true → e.on ≠ i := fun e he hb heq => by
    have h1 := hall e he hb
    have h0 := (mem_ready.1 hr).1
    rw [heq, getD_both h0] at h1
    cases h1
   have h2 := wpOp_putK hoj (hfree j oj hoj hji hjun hnot) (fun cs b => hsel i oi cs b hi) (fun cs b => hsel j oj cs b hoj) hQ hy h1
   have hfree' : ∀ k ok, ops[k]? = some ok → k ≠ i → (listed.setIfInBounds j true).getD k true = false →
     (∀ e ∈ ok.after, Region.binds md e = true → e.on ≠ i) → oi.apart ops ok = true := fun k ok hk hki hun hno => by
    refine hfree k ok hk hki ?_ hno
    by_cases hjk : j = k
    ·subst hjk; exact hjun
    ·rw [getD_set_ne true hjk] at hun; exact hun
   refine wpOp_mono (fun a' w' h3 => ⟨h3.2.1, ih (listed.setIfInBounds j true) a' w' h3.2.1 hfree' (ready_mono hr (Ne.symm hji)) h3.1 ?_⟩) h2
   rw [Array.setIfInBounds_comm _ _ hji]
   exact h3.2.2

/-- the walk of those. -/
def wpPureK (P : Program) (ops : Array Oper) (C : World → Prop) (K : Act → Prop) : List Oper → Act → Prop
 | [], a => K a
 | o :: r, a => ∃ v, YieldsK P ops C o v a ∧ wpPureK P ops C K r (a.put o.dst v)
theorem wpAnyK_pure (hsel : Region.noSelect ops = true) (hQ : ∀ c a w, ¬ Q (.panic c) a w) {w : World} (hC : C w) {g : Nat} : ∀ (qs : List Nat) (l : List Oper) (listed : Array Bool) (a : Act), qs.map (fun i => ops[i]?) = l.map some →
  Region.firstB md ops qs listed = true → wpPureK P ops C (fun a' => wpAnyC P md ops C Q g (listAll listed qs) a' w) l a → wpAnyC P md ops C Q (g + qs.length) listed a w
 | [], [], listed, a, _, _, h => h
 | [], _ :: _, _, _, hm, _, _ => by cases hm
 | _ :: _, [], _, _, hm, _, _ => by cases hm
 | q :: qs, o :: l, listed, a, hm, hB, h => by
   simp only [List.map_cons, List.cons.injEq] at hm
   simp only [Region.firstB, Bool.and_eq_true] at hB
   obtain ⟨v, hy, hK⟩ := h
   exact wpAnyK_first hm.1 (Region.noSelect_spec hsel) hQ (g + qs.length) listed a w hC (Region.free_spec hm.1 hB.1.2) (by simpa using hB.1.1) hy
     (wpAnyK_pure hsel hQ hC qs l _ _ hm.2 hB.2 hK)

theorem wp_regionK {id : Nat} {Q : Exit → Act → World → Prop} {a : Act} {w : World} {l : List Oper} (qs : List Nat) (lo : List Oper) (g : Nat) (hlo : qs.map (fun i => l.toArray[i]?) = lo.map some) (hg : g + qs.length = l.length) (hm : P.follows .mixedOrders = true)
  (hsel : Region.noSelect l.toArray = true) (hB : Region.firstB .any l.toArray qs (Array.replicate l.length false) = true) (hC : C { w with drawn := w.drawn + 1 })
  (h : wpPureK P l.toArray C (fun a' => wpAnyC P .any l.toArray C (NoPanic Q) g (listAll (Array.replicate l.length false) qs) a' { w with drawn := w.drawn + 1 }) lo a) : (Code.region id l.toArray true).wp P Q a w := by
 refine wp_region_noPanic (wp_region_any hm ?_)
 have := wpAnyK_pure (md := .any) hsel (fun c a w h => h) hC qs lo _ a hlo hB h
 rw [hg] at this
 simpa using wpAny_of_C _ _ _ _ this
theorem wpOp_of_list {i : Nat} {o : Oper} (hi : ops[i]? = some o) {K : Act → World → Prop} {a : Act} {w : World}
  (h : wpList P ops (fun e a' w' => match e with | .normal => K a' w' | e => NoPanic Q e a' w') [o] a w) : wpOp P ops (NoPanic Q) i K a w := by
 unfold wpOp
 simp only [hi]
 unfold wpList at h
 split at h
 ·next hw =>
  rw [if_pos hw]
  rcases h with h | ⟨h1, h2⟩
  ·left; exact h
  ·right; exact ⟨h1, h2⟩
 ·next hw =>
  rw [if_neg hw]
  exact h
end
section
variable {P : Program} {ops : Array Oper} {w : World} {a : Act} {ty : TypeId} {p : String} {af : Array Edge} {g : Option (Nat × Bool)} {d : Tmp}
theorem yieldsK_val {C : World → Prop} {o : Oper} {v : Value} (hg : Region.wanted o (yielded ops a.tmps) = true) (h : ∀ w, (execOp a.eval o).run P w = .ok (.value v) w) : YieldsK P ops C o v a := .inl ⟨hg, fun w _ => h w⟩
end
end Go.Proofs.YtngpopalpofhgaaGreatDoor

namespace Go.Proofs.YtngpopalpofhgaaGreatDoor

end Go.Proofs.YtngpopalpofhgaaGreatDoor

namespace Go.Proofs.YtngpopalpofhgaaGreatDoor
open Go.RowKit
set_option maxHeartbeats 1000000
set_option maxRecDepth 100000

def idL (n : Nat) : List Int := (List.range n).map fun (i : Nat) => (i : Int)
theorem idL_succ (n : Nat) : idL (n + 1) = idL n ++ [(n : Int)] := by simp [idL, List.range_succ]
theorem idL_len (n : Nat) : (idL n).length = n := by simp [idL]
end Go.Proofs.YtngpopalpofhgaaGreatDoor
