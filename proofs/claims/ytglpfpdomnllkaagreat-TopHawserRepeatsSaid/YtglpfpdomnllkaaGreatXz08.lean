/- Contracts and plain facts that the claim uses (MbV MbW RmP QrA QrB). Conditions: as each one states. -/
import Derived.RangeFuncNested
import Derived.RangeFuncBound
import Derived.RangeFuncCalls
import Derived.RangeFuncLeaves
import Derived.RangeFuncFrom
import Derived.Shelf.Abstract
import Derived.Shelf.RegionOpen
import Derived.WalkKit
import Derived.OwnWalkIn
import Derived.TacticsInMore
import Derived.LoopNIn
import Derived.LoopIn
import Derived.Test.YtglpfpdomnllkaaGreatProg
import Derived.WalkSpells
import Derived.Maps.AppendAt
import Derived.Deep.Quiet
import Derived.Maps.Own
import Derived.Maps.OwnSet
import Derived.Maps.Views
import Derived.WalkLawsBesides
import Derived.Laws.EntriesVeiled
import Derived.Deep.QuietTactic
import Derived.BigQuiet
import Derived.Shelf.Strings.Trim
import Derived.Shelf.Strings.SlTrimAscii
import Derived.Shelf.Strings.Repeat
import Derived.Shelf.Strings.OnBuilder
import Derived.Shelf.Strconv.Itoa1
import Derived.Shelf.Strconv.Itoa3
import Derived.Shelf.LaysM
import Derived.Ground.Names2Prog
import Derived.Lib.OthersKept
import Derived.Deep.RegionHeld3
import Derived.Deep.AppendLies
import Derived.Deep.RegionHeldLaw
import Derived.Deep.RegionLaw
import Derived.StillTail
import Derived.Laws.Tables
import Derived.IntWalk
import Derived.Laws.CopyOwn
import Derived.BigRegion
import Derived.ChangeAlike
import Derived.Shelf.Bits.Mul64
import Derived.Lib.ItoaLen
import Derived.Lib.ItoaMem
import Derived.Sort.LoopGhostIn
import Derived.Maps.RangeWalk
import Derived.Sort.QuietThIn
import Derived.Maps.Ext
import Derived.Test.YtglpfpdomnllkaaGreatXz01
import Derived.Test.YtglpfpdomnllkaaGreatXz02
import Derived.Test.YtglpfpdomnllkaaGreatXz03
import Derived.Test.YtglpfpdomnllkaaGreatXz04
import Derived.Test.YtglpfpdomnllkaaGreatXz05
import Derived.Test.YtglpfpdomnllkaaGreatXz06
import Derived.Test.YtglpfpdomnllkaaGreatXz07
set_option linter.all false

namespace Go.Proofs.YtglpfpdomnllkaaGreat
open Go.RowKit
set_option maxHeartbeats 8000000
set_option maxRecDepth 100000

def pre4 (E : Int) (r : Bool) (k : Nat) (n : Int) : Int := firstE [E, if r then 13 else 0, if decide (12 < (k : Int)) then 5 else 0, if n < 0 ∨ 1000 < n then 3 else 0]
theorem weaveE_pre (m : MacV) (l : List Int) (n : Int) : weaveE m l n = if pre4 (loadE m l) m.ring l.length n ≠ 0 then pre4 (loadE m l) m.ring l.length n else if meetsM m l n = true then 16 else 0 := by
 unfold weaveE pre4
 by_cases he : loadE m l = 0
 ·rw [if_neg (by simp [he]), he, firstE_z]
  cases hr : m.ring
  ·simp only [Bool.false_eq_true, if_false]
   rw [firstE_z]
   by_cases hl : 12 < l.length
   ·have : decide (12 < (l.length : Int)) = true := decide_eq_true (by omega)
    rw [this, if_pos rfl, if_pos hl, firstE_head (by decide)]
    simp
   ·have : decide (12 < (l.length : Int)) = false := decide_eq_false (by omega)
    rw [this, if_neg hl]
    simp only [Bool.false_eq_true, if_false]
    rw [firstE_z]
    by_cases hn : n < 0 ∨ 1000 < n
    ·have e : (if n < 0 ∨ 1000 < n then (3 : Int) else 0) = 3 := if_pos hn
     rw [e, if_pos hn, firstE_head (by decide)]
     rfl
    ·have e : (if n < 0 ∨ 1000 < n then (3 : Int) else 0) = 0 := if_neg hn
     rw [e, if_neg hn, firstE_z, firstE_nil]
     rfl
  ·simp only [if_true]
   rw [firstE_head (by decide)]
   simp
 ·rw [if_pos he, firstE_head he, if_pos he]
theorem pre4_zero {m : MacV} {l : List Int} {n : Int} (h : pre4 (loadE m l) m.ring l.length n = 0) : LoadOk m l := by
 refine loadE_zero ?_
 by_cases he : loadE m l = 0
 ·exact he
 ·unfold pre4 at h; rw [firstE_head he] at h; exact absurd h he

theorem wwhen (b : Bool) (e v : Int) (h : v = if b then e else 0) (w : World) : Calls Tryz.prog 57 #[.bool b, .int .i64 e] w fun r w' => r = .returned (.int .i64 v) ∧ Below w.heap.size w w' := by
 subst h
 exact calls_below (mwhen_any b e w)

theorem checkWeave_any (m : MacV) (ad : Option Addr) (cap : Nat) (al : Option Addr) (cl : Nat) (l : List Int) (n : Int) (w : World) (hR : Ints w ad cap m.sw) (hL : Ints w al cl l) (HK : ChkL m ad cap al cl l) :
  Calls Tryz.prog 49 #[mV m ad cap, .slice al l.length cl, .int .i64 n] w fun r w' => r = .returned (.int .i64 (weaveE m l n)) ∧ Below w.heap.size w w' := by
 have hcap := hL.le
 have hmx := hL.max
 have hS := (SL.nil w).box (.cells (mC m ad cap) 24)
 have q1 := (hS.blk 0 rfl).1
 have R1 := hR.below hS.b
 have L1 := hL.below hS.b
 unfold ChkL at HK
 have hv := weaveE_pre m l n
 obtain ⟨Z, hZ⟩ : ∃ Z, Z = pre4 (loadE m l) m.ring l.length n := ⟨_, rfl⟩
 have hok : Z = 0 → LoadOk m l := fun h => pre4_zero (by rw [← hZ]; exact h)
 rw [← hZ] at hv
 unfold pre4 at hZ
 obtain ⟨E, hE⟩ : ∃ E, E = loadE m l := ⟨_, rfl⟩
 obtain ⟨R, hRR⟩ : ∃ R, R = (if m.ring = true then (13 : Int) else 0) := ⟨_, rfl⟩
 obtain ⟨V5, hV5⟩ : ∃ V, V = (if decide (12 < (l.length : Int)) = true then (5 : Int) else 0) := ⟨_, rfl⟩
 obtain ⟨V3, hV3⟩ : ∃ V, V = (if n < 0 ∨ 1000 < n then (3 : Int) else 0) := ⟨_, rfl⟩
 rw [← hE] at HK hZ
 rw [← hRR, ← hV5, ← hV3] at hZ
 have HC := hid HK
 have HW := hid (wwhen m.ring 13 R hRR)
 have HW5 := hid (wwhen (decide (12 < (l.length : Int))) 5 V5 hV5)
 have HZ := hid hZ
 rw [hv]
 have fin : ∀ w1, SL w.heap.size w w1 [pBlk w.heap.size (.cells (mC m ad cap) 24)] → True := fun _ _ => trivial
 clear HK hE hRR hV5 hZ hv fin
 by_cases c1 : n < 0
 ·have hb3 : V3 = if (true : Bool) then 3 else 0 := by rw [hV3, if_pos (.inl c1)]; rfl
  have HW3 := hid (wwhen true 3 V3 hb3)
  have d1 : decide (n < 0) = true := decide_eq_true c1
  clear hV3 hb3
  by_cases hz : Z = 0
  ·have CM := fun w h h2 => meets_any m ad al cap cl l n w h h2 (hok hz).ok.hi (hok hz).rng
   rw [if_neg (by simp [hz])]
   clear hok
   subst hz
   cases hm : meetsM m l n
   all_goals
    rw [hm] at CM
    have HM := hid CM
    clear CM hm
    go_enter Tryz.func49, Tryz.ntmps49
    go_wp2_with fail
    refine wp_region_qt 17 kR kR ?_
    simp only [List.take_succ_cons, List.take_zero, List.drop_succ_cons, List.drop_zero]
    repeat (first | ((with_reducible refine wpB_loadS (n := 4) (us := mC m ad cap) A_mach kR wU wU (by assumption) wU wU ?_); (try simp only [Act.put, pA, pB, pC])) | ((with_reducible refine wpB_load F_boolM wU wU (by assumption) wU ?_); (try simp only [Act.put, pA, pB, pC])) | ((refine wpB_call (.int .i64 E) wU (fun w' => ?_) (fun w' hw' => HC.out w' (R1.below hw') (L1.below hw')) ?_); (focus (go_simp; done)); (try simp only [Act.put, pA, pB, pC])) | ((refine wpB_call (.int .i64 R) wU (fun w' => ?_) (fun w' hw' => HW.out w') ?_); (focus (go_simp; done)); (try simp only [Act.put, pA, pB, pC])) | ((refine wpB_call (.int .i64 V5) wU (fun w' => ?_) (fun w' hw' => HW5.out w') ?_); (focus (go_simp; done)); (try simp only [Act.put, pA, pB, pC])) | ((refine wpB_call (.int .i64 V3) wU (fun w' => ?_) (fun w' hw' => HW3.out w') ?_); (focus (go_simp; done)); (try simp only [Act.put, pA, pB, pC])) | ((with_reducible refine wpQ_skip wU ?_); (try simp only [Act.put, pA, pB, pC])) |  ((with_reducible refine wpB_load (by first | exact F_int | fail) wU wU (by assumption) wU ?_); (try simp only [Act.put, pA, pB, pC])) | ((with_reducible refine wpB_loadS (n := 2) (us := #[_, _]) (by fail) kR wU wU (by assumption) wU wU ?_); (try simp only [Act.put, pA, pB, pC])) | ((with_reducible refine wpB_loadS (n := 4) (us := #[_, _, _, _]) (by fail) kR wU wU (by assumption) wU wU ?_); (try simp only [Act.put, pA, pB, pC])) | ((refine wpQ_oneG ?_ wU (fun w' => ?_) ?_); rotate_left; (go_simp; rfl); (try simp only [Act.put, pA, pB, pC])))
    refine wpQuiet_nil ?_
    intro w1 hb1
    have hS1 := hS.mono hb1
    have hS2 := hS1.al (.cells #[.int .i64 E, .int .i64 R, .int .i64 V5, .int .i64 V3] 34)
    have q2 := (hS2.blk 0 rfl).1
    go_wp2_with (first | (go_at_call 55; refine (mfirst_any _ _ [_, _, _, _] _ (reps_newN cIntS [_, _, _, _] 4 rfl (by decide) _ _ (by simp) rfl)).mono ?_; rw [← HZ.out]; rintro e w' ⟨rfl, rfl⟩) | (with_reducible refine wpList_ldS (n := 4) (us := mC m ad cap) A_mach kR wU wU (by assumption) wU wU ?_))
    refine (HM.out _ (hR.below hS2.b) (hL.below hS2.b)).mono ?_
    rintro e w3 ⟨rfl, b3⟩
    have hS3 := hS2.mono b3
    go_wp2_with (go_at_call 57; refine (mwhen_any _ _ _).mono ?_; rintro e w' ⟨rfl, rfl⟩)
    go_ret
    exact ⟨rfl, hS3.b⟩
  ·have hne : (Z != 0) = true := by simpa using hz
   rw [if_pos hz]
   clear hok
   go_enter Tryz.func49, Tryz.ntmps49
   go_wp2_with fail
   refine wp_region_qt 17 kR kR ?_
   simp only [List.take_succ_cons, List.take_zero, List.drop_succ_cons, List.drop_zero]
   repeat (first | ((with_reducible refine wpB_loadS (n := 4) (us := mC m ad cap) A_mach kR wU wU (by assumption) wU wU ?_); (try simp only [Act.put, pA, pB, pC])) | ((with_reducible refine wpB_load F_boolM wU wU (by assumption) wU ?_); (try simp only [Act.put, pA, pB, pC])) | ((refine wpB_call (.int .i64 E) wU (fun w' => ?_) (fun w' hw' => HC.out w' (R1.below hw') (L1.below hw')) ?_); (focus (go_simp; done)); (try simp only [Act.put, pA, pB, pC])) | ((refine wpB_call (.int .i64 R) wU (fun w' => ?_) (fun w' hw' => HW.out w') ?_); (focus (go_simp; done)); (try simp only [Act.put, pA, pB, pC])) | ((refine wpB_call (.int .i64 V5) wU (fun w' => ?_) (fun w' hw' => HW5.out w') ?_); (focus (go_simp; done)); (try simp only [Act.put, pA, pB, pC])) | ((refine wpB_call (.int .i64 V3) wU (fun w' => ?_) (fun w' hw' => HW3.out w') ?_); (focus (go_simp; done)); (try simp only [Act.put, pA, pB, pC])) | ((with_reducible refine wpQ_skip wU ?_); (try simp only [Act.put, pA, pB, pC])) |  ((with_reducible refine wpB_load (by first | exact F_int | fail) wU wU (by assumption) wU ?_); (try simp only [Act.put, pA, pB, pC])) | ((with_reducible refine wpB_loadS (n := 2) (us := #[_, _]) (by fail) kR wU wU (by assumption) wU wU ?_); (try simp only [Act.put, pA, pB, pC])) | ((with_reducible refine wpB_loadS (n := 4) (us := #[_, _, _, _]) (by fail) kR wU wU (by assumption) wU wU ?_); (try simp only [Act.put, pA, pB, pC])) | ((refine wpQ_oneG ?_ wU (fun w' => ?_) ?_); rotate_left; (go_simp; rfl); (try simp only [Act.put, pA, pB, pC])))
   refine wpQuiet_nil ?_
   intro w1 hb1
   have hS1 := hS.mono hb1
   go_wp2_with (go_at_call 55; refine (mfirst_any _ _ [_, _, _, _] _ (reps_newN cIntS [_, _, _, _] 4 rfl (by decide) _ _ (by simp) rfl)).mono ?_; rw [← HZ.out]; rintro e w' ⟨rfl, rfl⟩)
   go_ret
   exact ⟨rfl, bal hS1.b _⟩
 ·have hb3 : V3 = if decide (1000 < n) then 3 else 0 := by
   rw [hV3]
   by_cases h : 1000 < n
   ·rw [if_pos (.inr h), decide_eq_true h]; rfl
   ·rw [if_neg (by omega), decide_eq_false h]; rfl
  have HW3 := hid (wwhen (decide (1000 < n)) 3 V3 hb3)
  have d1 : decide (n < 0) = false := decide_eq_false c1
  clear hV3 hb3
  by_cases hz : Z = 0
  ·have CM := fun w h h2 => meets_any m ad al cap cl l n w h h2 (hok hz).ok.hi (hok hz).rng
   rw [if_neg (by simp [hz])]
   clear hok
   subst hz
   cases hm : meetsM m l n
   all_goals
    rw [hm] at CM
    have HM := hid CM
    clear CM hm
    go_enter Tryz.func49, Tryz.ntmps49
    go_wp2_with fail
    refine wp_region_qt 17 kR kR ?_
    simp only [List.take_succ_cons, List.take_zero, List.drop_succ_cons, List.drop_zero]
    repeat (first | ((with_reducible refine wpB_loadS (n := 4) (us := mC m ad cap) A_mach kR wU wU (by assumption) wU wU ?_); (try simp only [Act.put, pA, pB, pC])) | ((with_reducible refine wpB_load F_boolM wU wU (by assumption) wU ?_); (try simp only [Act.put, pA, pB, pC])) | ((refine wpB_call (.int .i64 E) wU (fun w' => ?_) (fun w' hw' => HC.out w' (R1.below hw') (L1.below hw')) ?_); (focus (go_simp; done)); (try simp only [Act.put, pA, pB, pC])) | ((refine wpB_call (.int .i64 R) wU (fun w' => ?_) (fun w' hw' => HW.out w') ?_); (focus (go_simp; done)); (try simp only [Act.put, pA, pB, pC])) | ((refine wpB_call (.int .i64 V5) wU (fun w' => ?_) (fun w' hw' => HW5.out w') ?_); (focus (go_simp; done)); (try simp only [Act.put, pA, pB, pC])) | ((refine wpB_call (.int .i64 V3) wU (fun w' => ?_) (fun w' hw' => HW3.out w') ?_); (focus (go_simp; done)); (try simp only [Act.put, pA, pB, pC])) | ((with_reducible refine wpQ_skip wU ?_); (try simp only [Act.put, pA, pB, pC])) |  ((with_reducible refine wpB_load (by first | exact F_int | fail) wU wU (by assumption) wU ?_); (try simp only [Act.put, pA, pB, pC])) | ((with_reducible refine wpB_loadS (n := 2) (us := #[_, _]) (by fail) kR wU wU (by assumption) wU wU ?_); (try simp only [Act.put, pA, pB, pC])) | ((with_reducible refine wpB_loadS (n := 4) (us := #[_, _, _, _]) (by fail) kR wU wU (by assumption) wU wU ?_); (try simp only [Act.put, pA, pB, pC])) | ((refine wpQ_oneG ?_ wU (fun w' => ?_) ?_); rotate_left; (go_simp; rfl); (try simp only [Act.put, pA, pB, pC])))
    refine wpQuiet_nil ?_
    intro w1 hb1
    have hS1 := hS.mono hb1
    have hS2 := hS1.al (.cells #[.int .i64 E, .int .i64 R, .int .i64 V5, .int .i64 V3] 34)
    have q2 := (hS2.blk 0 rfl).1
    go_wp2_with (first | (go_at_call 55; refine (mfirst_any _ _ [_, _, _, _] _ (reps_newN cIntS [_, _, _, _] 4 rfl (by decide) _ _ (by simp) rfl)).mono ?_; rw [← HZ.out]; rintro e w' ⟨rfl, rfl⟩) | (with_reducible refine wpList_ldS (n := 4) (us := mC m ad cap) A_mach kR wU wU (by assumption) wU wU ?_))
    refine (HM.out _ (hR.below hS2.b) (hL.below hS2.b)).mono ?_
    rintro e w3 ⟨rfl, b3⟩
    have hS3 := hS2.mono b3
    go_wp2_with (go_at_call 57; refine (mwhen_any _ _ _).mono ?_; rintro e w' ⟨rfl, rfl⟩)
    go_ret
    exact ⟨rfl, hS3.b⟩
  ·have hne : (Z != 0) = true := by simpa using hz
   rw [if_pos hz]
   clear hok
   go_enter Tryz.func49, Tryz.ntmps49
   go_wp2_with fail
   refine wp_region_qt 17 kR kR ?_
   simp only [List.take_succ_cons, List.take_zero, List.drop_succ_cons, List.drop_zero]
   repeat (first | ((with_reducible refine wpB_loadS (n := 4) (us := mC m ad cap) A_mach kR wU wU (by assumption) wU wU ?_); (try simp only [Act.put, pA, pB, pC])) | ((with_reducible refine wpB_load F_boolM wU wU (by assumption) wU ?_); (try simp only [Act.put, pA, pB, pC])) | ((refine wpB_call (.int .i64 E) wU (fun w' => ?_) (fun w' hw' => HC.out w' (R1.below hw') (L1.below hw')) ?_); (focus (go_simp; done)); (try simp only [Act.put, pA, pB, pC])) | ((refine wpB_call (.int .i64 R) wU (fun w' => ?_) (fun w' hw' => HW.out w') ?_); (focus (go_simp; done)); (try simp only [Act.put, pA, pB, pC])) | ((refine wpB_call (.int .i64 V5) wU (fun w' => ?_) (fun w' hw' => HW5.out w') ?_); (focus (go_simp; done)); (try simp only [Act.put, pA, pB, pC])) | ((refine wpB_call (.int .i64 V3) wU (fun w' => ?_) (fun w' hw' => HW3.out w') ?_); (focus (go_simp; done)); (try simp only [Act.put, pA, pB, pC])) | ((with_reducible refine wpQ_skip wU ?_); (try simp only [Act.put, pA, pB, pC])) |  ((with_reducible refine wpB_load (by first | exact F_int | fail) wU wU (by assumption) wU ?_); (try simp only [Act.put, pA, pB, pC])) | ((with_reducible refine wpB_loadS (n := 2) (us := #[_, _]) (by fail) kR wU wU (by assumption) wU wU ?_); (try simp only [Act.put, pA, pB, pC])) | ((with_reducible refine wpB_loadS (n := 4) (us := #[_, _, _, _]) (by fail) kR wU wU (by assumption) wU wU ?_); (try simp only [Act.put, pA, pB, pC])) | ((refine wpQ_oneG ?_ wU (fun w' => ?_) ?_); rotate_left; (go_simp; rfl); (try simp only [Act.put, pA, pB, pC])))
   refine wpQuiet_nil ?_
   intro w1 hb1
   have hS1 := hS.mono hb1
   go_wp2_with (go_at_call 55; refine (mfirst_any _ _ [_, _, _, _] _ (reps_newN cIntS [_, _, _, _] 4 rfl (by decide) _ _ (by simp) rfl)).mono ?_; rw [← HZ.out]; rintro e w' ⟨rfl, rfl⟩)
   go_ret
   exact ⟨rfl, bal hS1.b _⟩
end Go.Proofs.YtglpfpdomnllkaaGreat

namespace Go.Proofs.YtglpfpdomnllkaaGreat
open Go.RowKit
set_option maxHeartbeats 8000000
set_option maxRecDepth 100000

/-- the word and its error. -/
noncomputable def wrdL (m : MacV) (l : List Int) (n : Int) : List Int := (wvM m l n.toNat).2
noncomputable def wrdE (m : MacV) (l : List Int) (n : Int) : Int := if weaveE m l n ≠ 0 then weaveE m l n else if 200 < (wrdL m l n).length then 26 else 0
theorem atL_zero (m : MacV) (l : List Int) : atL m l 0 = l := by
 unfold atL
 conv => rhs; rw [← List.map_id l]
 exact List.map_congr_left (fun x _ => rfl)
theorem atL_len (m : MacV) (l : List Int) (k : Nat) : (atL m l k).length = l.length := by simp [atL]
theorem wvM_len {m : MacV} (hg : m.gears ≤ 16) (l : List Int) : ∀ k : Nat, (wvM m l k).2.length ≤ 48 * k
 | 0 => by simp [wvM]
 | k + 1 => by
   have := wvM_len hg l k
   have h2 := crossM_len m (atL m l k)
   rw [wvM, weaveS_len]
   omega
theorem foldC_step {cs : List CrM} {i : Nat} (h : i < cs.length) (st : List Int × List Int) : (cs.take (i + 1)).foldl weaveC st = weaveC ((cs.take i).foldl weaveC st) (atD ⟨0, 0, 0, 0⟩ cs i) := by
 rw [List.take_succ_eq_append_getElem h, List.foldl_append]
 simp [atD, h]

theorem weaveC_at {st : List Int × List Int} {c : CrM} {p : Nat} (h : idxO st.1 c.going = some (p : Int)) : weaveC st c = (swpL st.1 p, st.2 ++ [if c.over = c.going then (p : Int) + 1 else -(p : Int) - 1]) := by
 have e : idxZ st.1 c.going = p := by unfold idxZ; rw [h]; rfl
 unfold weaveC letterC
 rw [e]
 rfl

section
variable {ops : Array Oper} {rest : List Oper} {a : Act} {Q : Exit → Act → World → Prop} {w : World} {ty : TypeId} {p : String} {af : Array Edge}
theorem wpList_stoI {x y : Operand} {pa : Addr} {u : Value} {v : Int} (hx : a.eval x = .pointer (some pa)) (hy : a.eval y = .int .i64 v) (hc : w.cell? pa = some u) (hf : w.frozen? pa = false)
  (h : wpList Tryz.prog ops Q rest (a.put none undef) (w.setCell pa (.int .i64 v))) :
  wpList Tryz.prog ops Q (⟨none, .store 3 x y, ty, p, af, none⟩ :: rest) a w := by
 refine wpList_plain rfl fun K hK' => ?_
 have hs := sto_int v w pa (by rw [hc]; rfl) hf
 unfold cInt at hs
 unfold Oper.wp
 simp only [execOp, hx, hy]
 simp [hs, Result.andThen]
 exact hK' _ _ h
end

theorem wrapP1 (p : Nat) (h : p ≤ 1000) : IntKind.i64.wrap ((p : Int) + 1) = (p : Int) + 1 := IntWalk.i64_in _ (by omega)
theorem wrapQ1 (p : Nat) (h : p ≤ 1000) : wrap64 ((p : Int) + 1) = (p : Int) + 1 := IntWalk.wrap64_in _ (by omega)
theorem wrapN1 (p : Nat) (h : p ≤ 1000) : IntKind.i64.wrap (-(p : Int)) = -(p : Int) := IntWalk.i64_in _ (by omega)
theorem wrapN2 (p : Nat) (h : p ≤ 1000) : IntKind.i64.wrap (-(p : Int) - 1) = -(p : Int) - 1 := IntWalk.i64_in _ (by omega)

theorem pkB (p K : Nat) (h : p + 1 < K) (h2 : K ≤ 64) : p ≤ 1000 ∧ (¬ (K : Int) ≤ (p : Int) + 1) ∧ (0 : Int) ≤ (p : Int) + 1 ∧ ¬ K ≤ p ∧ ¬ (K : Int) ≤ (p : Int) ∧ (p : Int) + 1 < K ∧ p < K := by
 refine ⟨?_, ?_, ?_, ?_, ?_, ?_, ?_⟩ <;> omega

theorem mWord_any (m : MacV) (ad : Option Addr) (cap : Nat) (al : Option Addr) (cl : Nat) (l : List Int) (n : Int) (w : World) (hR : Ints w ad cap m.sw) (hL : Ints w al cl l) (HK : ChkL m ad cap al cl l) :
  Calls Tryz.prog 13 #[mV m ad cap, .slice al l.length cl, .int .i64 n] w fun r w' => ∃ v, r = .returned (.tuple #[v, .int .i64 (wrdE m l n)]) ∧ OwnI w.heap.size w' v (if wrdE m l n = 0 then wrdL m l n else []) ∧ Below w.heap.size w w' := by
 have hcap := hL.le
 have hmx := hL.max
 have hS := (SL.nil w).box (.cells (mC m ad cap) 24)
 have q1 := (hS.blk 0 rfl).1
 have R1 := hR.below hS.b
 have L1 := hL.below hS.b
 have CW := checkWeave_any m ad cap al cl l n _ R1 L1 HK
 by_cases he : weaveE m l n = 0
 ·obtain ⟨hok, hr, hl12, hn0, hn1, hme⟩ := weaveE_zero he
  have hlo := hok.ok.lo
  have hhi := hok.ok.hi
  obtain ⟨N, rfl⟩ : ∃ N : Nat, n = N := ⟨n.toNat, by omega⟩
  have hrows := fun k hk => wvM_row hr hok.rng hme k hk
  have hsteps := fun k => atL_succ hok.rng k
  have hrngs := fun k => atL_rng hok.rng k
  have CO := fun w h => order_any m ad cap al cl l w h (by omega) hhi
  have CX := fun (k : Nat) a c w (h : Ints w a c (atL m l k)) => crossings_any m ad cap a c (atL m l k) w h (by omega) hhi
  have CN := fun (k : Nat) a c w (h : Ints w a c (atL m l k)) (h2 : Ints w ad cap m.sw) => mappedN_any (mV m ad cap) (nextM m) a c (atL m l k) w h (by rw [atL_len]; omega) (fun x hx w' hw' => mnext_any m ad cap x w' (h2.below hw') hhi (hrngs k x hx).1 (hrngs k x hx).2)
  have hgood := fun k => crossM_good m (atL m l k)
  have hcl := fun k => crossM_len m (atL m l k)
  have hv : wrdE m l N = if 200 < (wvM m l N).2.length then 26 else 0 := by unfold wrdE wrdL; rw [if_neg (by simp [he])]; rfl
  have hw : wrdL m l N = (wvM m l N).2 := rfl
  rw [hv, hw]
  rw [he] at CW
  have HC := hid CW; have HO := hid CO; have HX := hid CX; have HN := hid CN; have HROW := hid hrows; have HST := hid hsteps; have HG := hid hgood; have HCL := hid hcl
  clear CW CO CX CN hrows hsteps hrngs hgood hcl hv hw he hok hr hme HK
  go_enter Tryz.func13, Tryz.ntmps13
  go_wp2
  go_step3
  go_wp2_with (with_reducible refine wpList_ldS (n := 4) (us := mC m ad cap) A_mach kR wU wU (by assumption) wU wU ?_)
  refine HC.out.mono ?_
  rintro e w1 ⟨rfl, b1⟩
  have hS1 := hS.mono b1
  have q2 := (hS1.blk 0 rfl).1
  clear q1
  go_wp2_with (with_reducible refine wpList_ldS (n := 4) (us := mC m ad cap) A_mach kR wU wU (by assumption) wU wU ?_)
  refine (HO.out _ (hL.below hS1.b)).mono ?_
  rintro e w2 ⟨v2, rfl, ho2, b2⟩
  have hS2 := hS1.call (SL.ofOwn ho2 b2)
  simp only [List.cons_append, List.nil_append] at hS2
  have hS3 := ((hS2.newSrc hL).nilS (α := Int) (c := cInt) (sz := 1) (e := 3) cIntS).pick [2, 0, 1, 3] (by decide) [pOwn cInt 1 3 v2 (orderM m l), pOwn cInt 1 3 (.slice none 0 0) [], pSrc cInt 1 3 w (.slice al l.length cl) l, pBlk w.heap.size (.cells (mC m ad cap) 24)] rfl
  clear q2 hS2 hS1 hS ho2
  obtain ⟨a2, c2, rfl, _⟩ := hS3.slice 0 rfl
  obtain ⟨K, hK⟩ : ∃ K, K = (orderM m l).length := ⟨_, rfl⟩
  rw [← hK] at hS3 ⊢
  have hK64 : K ≤ 64 := by have := orderM_len m l; omega
  clear hK
  go_wp2_with fail
  go_step3
  go_wp2
  obtain ⟨Z, hZ⟩ : ∃ Z, Z = (wvM m l N).2.length := ⟨_, rfl⟩
  have HZ := hid hZ
  clear hZ
  go_loopg [26, 1, 10] N (fun g i lv ov wr => ∃ k : Nat, k + g = N ∧ i = .int .i64 k ∧ lenV ov = (wvM m l k).2.length ∧ SL w.heap.size w wr [pOwn cInt 1 3 (.slice a2 K c2) ((wvM m l k).1), pOwn cInt 1 3 ov ((wvM m l k).2), pSrc cInt 1 3 w lv (atL m l k), pBlk w.heap.size (.cells (mC m ad cap) 24)])
  case atStart => exact ⟨0, by omega, rfl, rfl, by rw [atL_zero]; exact hS3⟩
  case round =>
   clear hS3
   obtain ⟨k, hk, rfl, hlo, hSr⟩ := hrel
   cases gk with
   | zero =>
    have hkn : k = N := by omega
    subst hkn
    obtain ⟨ao, co, rfl, _⟩ := hSr.slice 1 rfl
    obtain ⟨O, hO⟩ : ∃ O, O = (wvM m l k).2 := ⟨_, rfl⟩
    rw [← hO] at hSr ⊢
    have HO2 := hid hO; have hSx := hid hSr
    clear hO hSr hlo
    by_cases hb : 200 < O.length
    ·have hb2 : ¬ O.length ≤ 200 := by omega
     go_wp2_with fail
     try rw [Exit.noGoto_ret]
     go_ret2
     rw [← HO2.out, if_pos hb, if_neg (by decide)]
     exact ⟨_, rfl, own_nil cIntS, hSx.out.b⟩
    ·go_wp2_with fail
     try rw [Exit.noGoto_ret]
     go_ret2
     rw [← HO2.out, if_neg hb, if_pos rfl]
     exact ⟨_, rfl, hSx.out.own 1 rfl, hSx.out.b⟩
   | succ g =>
    have hlt : k < N := by omega
    have hnx : wvM m l (k + 1) = (crossM m (atL m l k)).foldl weaveC (wvM m l k) := rfl
    have hgd := HG.out k
    have hcln := HCL.out k
    have hrw := HROW.out k (by omega)
    have hwl := wvM_len (m := m) hhi l k
    rw [← hrw] at hgd
    obtain ⟨a1, c1, rfl, hl1⟩ := hSr.src 2 rfl
    have q1 := (hSr.blk 3 rfl).1
    have HX1 := hid (HX.out k a1 c1)
    obtain ⟨cs, hcs⟩ : ∃ cs, cs = crossM m (atL m l k) := ⟨_, rfl⟩
    rw [← hcs] at HX1 hgd hcln hnx
    obtain ⟨r0, hr0⟩ : ∃ r0, r0 = (wvM m l k).1 := ⟨_, rfl⟩
    obtain ⟨o0, ho0⟩ : ∃ o0, o0 = (wvM m l k).2 := ⟨_, rfl⟩
    have hpr : wvM m l k = (r0, o0) := by rw [hr0, ho0]
    rw [hpr] at hnx
    rw [← hr0] at hgd hSr
    rw [← ho0] at hwl hlo hSr
    have HNX := hid hnx; have HGD := hid hgd; have HLO := hid hlo
    clear hcs hnx hgd hr0 ho0 hpr hlo hrw
    have hcl48 : cs.length ≤ 48 := by omega
    have hw5 : o0.length ≤ 48000 := by omega
    clear hcln hwl
    go_wp2_with (with_reducible refine wpList_ldS (n := 4) (us := mC m ad cap) A_mach kR wU wU (by assumption) wU wU ?_)
    refine (HX1.out _ hl1).mono ?_
    rintro e w3 ⟨vx, rfl, hox, b3⟩
    have hS4 := hSr.call (SL.ofOwn hox b3)
    simp only [List.cons_append, List.nil_append] at hS4
    obtain ⟨ax, cx, rfl, _⟩ := hS4.slice 0 rfl
    clear q1 hSr hox b3 hl1
    go_wp2_with fail
    go_loopg [32, 10] cs.length (fun g2 j ov wq => ∃ i : Nat, i + g2 = cs.length ∧ j = .int .i64 i ∧ lenV ov = o0.length + i ∧ SL w.heap.size w wq [pOwn cCr 4 88 (.slice ax cs.length cx) cs, pOwn cInt 1 3 (.slice a2 K c2) ((cs.take i).foldl rowC r0), pOwn cInt 1 3 ov ((cs.take i).foldl weaveC (r0, o0)).2, pSrc cInt 1 3 w (.slice a1 (atL m l k).length c1) (atL m l k), pBlk w.heap.size (.cells (mC m ad cap) 24)])
    case atStart => exact ⟨0, by omega, rfl, by rw [HLO.out]; omega, hS4⟩
    case round =>
     clear hS4
     obtain ⟨i, hi, rfl, hlo, hSq⟩ := hrel
     cases gk with
     | zero =>
      have hic : cs.take i = cs := List.take_of_length_le (by omega)
      rw [hic] at hSq
      have e1 : cs.foldl rowC r0 = (wvM m l (k + 1)).1 := by rw [HNX.out, fold_fst]
      have e2 : (cs.foldl weaveC (r0, o0)).2 = (wvM m l (k + 1)).2 := by rw [HNX.out]
      rw [e1, e2] at hSq
      obtain ⟨O, hO⟩ : ∃ O, O = (wvM m l (k + 1)).2 := ⟨_, rfl⟩
      rw [← hO] at hSq
      obtain ⟨ao, co, rfl, _⟩ := hSq.slice 2 rfl
      obtain ⟨a4, c4, e4, hl4⟩ := hSq.src 3 rfl
      cases e4
      have hmono := wvM_mono m l (j := k + 1) (k := N) (by omega)
      rw [← hO] at hmono
      have HO2 := hid hO; have hSx := hid hSq; have HM := hid hmono
      have q1 := (hSq.blk 4 rfl).1
      have R4 := hR.below hSq.b
      clear hO hSq hlo hic e1 e2 hmono
      by_cases hb : 200 < O.length
      ·have hb2 : ¬ O.length ≤ 200 := by omega
       have hb3 : decide (200 < (O.length : Int)) = true := decide_eq_true (by omega)
       go_wp2_with fail
       try rw [Exit.noGoto_ret]
       go_ret2
       rw [if_pos (by have := HM.out; omega), if_neg (by decide)]
       exact ⟨_, rfl, own_nil cIntS, hSx.out.b⟩
      ·have hb3 : decide (200 < (O.length : Int)) = false := decide_eq_false (by omega)
       go_wp2_with (with_reducible refine wpList_ldS (n := 4) (us := mC m ad cap) A_mach kR wU wU (by assumption) wU wU ?_)
       refine (HN.out k _ _ _ hl4 R4).mono ?_
       rintro e w5 ⟨vl, rfl, hol, b5⟩
       have hS6 := hSx.out.call (SL.ofOwn hol b5)
       simp only [List.cons_append, List.nil_append] at hS6
       have hst : (atL m l k).map (nextM m) = atL m l (k + 1) := HST.out k
       rw [hst] at hS6
       have hS7 := (hS6.weaken 0 rfl (pSrc cInt 1 3 w vl (atL m l (k + 1))) (fun b hb => .inr hb)).pick [2, 3, 0, 5] (by decide) [pOwn cInt 1 3 (.slice a2 K c2) (wvM m l (k + 1)).1, pOwn cInt 1 3 (.slice ao O.length co) O, pSrc cInt 1 3 w vl (atL m l (k + 1)), pBlk w.heap.size (.cells (mC m ad cap) 24)] rfl
       go_wp2_with fail
       go_roundg g
       case measure => omega
       case rel => exact ⟨k + 1, by omega, by go_num, by rw [← HO2.out]; rfl, by rw [← HO2.out]; exact hS7⟩
     | succ g2 =>
      have hic : i < cs.length := by omega
      obtain ⟨p, hp, hp1⟩ := goodC_at HGD.out hic
      have hst := foldC_step hic (r0, o0)
      have hwe : weaveC ((cs.take i).foldl weaveC (r0, o0)) (atD ⟨0, 0, 0, 0⟩ cs i) = (swpL ((cs.take i).foldl rowC r0) p, ((cs.take i).foldl weaveC (r0, o0)).2 ++ [if (atD ⟨0, 0, 0, 0⟩ cs i).over = (atD ⟨0, 0, 0, 0⟩ cs i).going then (p : Int) + 1 else -(p : Int) - 1]) := by
       have ec : atD (⟨0, 0, 0, 0⟩ : CrM) cs i = cs[i] := by simp [atD, hic]
       rw [ec]
       rw [weaveC_at (p := p) (by rw [fold_fst]; exact hp), fold_fst]
      rw [hwe] at hst
      have hst1 : (cs.take (i + 1)).foldl rowC r0 = swpL ((cs.take i).foldl rowC r0) p := by
       have := congrArg Prod.fst hst
       rw [fold_fst] at this
       exact this
      have hst2 := congrArg Prod.snd hst
      obtain ⟨R, hRr⟩ : ∃ R, R = (cs.take i).foldl rowC r0 := ⟨_, rfl⟩
      obtain ⟨O, hO⟩ : ∃ O, O = ((cs.take i).foldl weaveC (r0, o0)).2 := ⟨_, rfl⟩
      obtain ⟨x, hx⟩ : ∃ x, x = atD (⟨0, 0, 0, 0⟩ : CrM) cs i := ⟨_, rfl⟩
      have hpx : idxO R x.going = some (p : Int) := by
       rw [hx, hRr]
       have ec : atD (⟨0, 0, 0, 0⟩ : CrM) cs i = cs[i] := by simp [atD, hic]
       rw [ec]; exact hp
      rw [← hRr] at hSq hst1 hp1
      rw [← hO] at hSq hst2
      rw [← hx] at hst2
      have HX2 := hid hx; have HS1 := hid hst1; have HS2 := hid hst2
      clear hst hst1 hst2 hwe hp hRr hO hx
      obtain ⟨a', c', eK, _⟩ := hSq.slice 1 rfl
      have hKR : K = R.length := by simp only [Value.slice.injEq] at eK; exact eK.2.1
      clear eK
      obtain ⟨a8, c8, rfl, _⟩ := hSq.slice 2 rfl
      have hOl : O.length = o0.length + i := hlo
      have hO9 : O.length ≤ 1000000 := by omega
      have HOl := hid hOl
      clear hOl hlo
      have hRx := hSq.rd 0 rfl
      have hSc := hSq.box (.cells #[.int .i64 x.gear, .int .i64 x.over, .int .i64 x.under, .int .i64 x.going] 88)
      have q12 := (hSc.blk 0 rfl).1
      have CI := fun w h => sIndexO_any a2 c2 R x.going w h
      rw [hpx, ← hKR] at CI
      simp only [Option.getD_some] at CI
      have HI := hid CI; have HKR := hid hKR
      have hpK : p + 1 < K := by omega
      clear CI hKR hpx hp1
      go_wp2_with (first | ((with_reducible refine wpList_idxS _ ⟨0, 0, 0, 0⟩ E_crs A_crs cCr1 wU wU (hRx) oD oD (fun _ => wU) (fun _ => ?_)); rw [← HX2.out]) | (with_reducible refine wpList_ldB (by first | exact F_int | fail) wU wU (by assumption) wU ?_))
      refine (HI.out _ (hSc.rd 2 rfl)).mono ?_
      rintro e w' ⟨rfl, rfl⟩
      obtain ⟨V, hV⟩ : ∃ V, V = wr.alloc (.cells #[.int .i64 x.gear, .int .i64 x.over, .int .i64 x.under, .int .i64 x.going] 88) := ⟨_, rfl⟩
      obtain ⟨b12, hb12⟩ : ∃ b, b = wr.heap.size := ⟨_, rfl⟩
      rw [← hV, ← hb12] at hSc q12 ⊢
      clear hV hb12 hRx q12
      have hKR := HKR.out
      have hSU := hSc.drew
      obtain ⟨U, hU⟩ : ∃ U, U = V.drew := ⟨_, rfl⟩
      rw [← hU] at hSU
      obtain ⟨g, hg, -, hcA, hfA, hS5⟩ := hSU.setOwn cInt1 2 rfl (p : Int) (by omega) (by omega) (atD 0 R ((p : Int) + 1))
      subst hg
      obtain ⟨g', hg', -, hcB, hfB, hS6⟩ := hS5.setOwn cInt1 2 rfl ((p : Int) + 1) (by omega) (by simp; omega) (atD 0 R (p : Int))
      cases hg'
      obtain ⟨g', hg', -, hcC, hfC, -⟩ := hSU.setOwn cInt1 2 rfl ((p : Int) + 1) (by omega) (by omega) 0
      cases hg'
      have eP : (p : Int).toNat = p := by simp
      have eP1 : ((p : Int) + 1).toNat = p + 1 := by omega
      have vA : R[p]?.map cInt = some (.int .i64 (atD 0 R (p : Int))) := by
       have : p < R.length := by omega
       simp [atD, this, cInt]
      have vB : R[p + 1]?.map cInt = some (.int .i64 (atD 0 R ((p : Int) + 1))) := by
       have : p + 1 < R.length := by omega
       simp [atD, eP1, this, cInt]
      simp only [eP, eP1] at hcA hfA hcB hfB hcC hfC hS5 hS6
      rw [vA] at hcA
      rw [vB] at hcC
      have hcB2 : (R.set p (atD 0 R ((p : Int) + 1)))[p + 1]?.map cInt = some (.int .i64 (atD 0 R ((p : Int) + 1))) := by
       rw [List.getElem?_set_ne (by omega)]; exact vB
      rw [hcB2] at hcB
      have hsw : (R.set p (atD 0 R ((p : Int) + 1))).set (p + 1) (atD 0 R (p : Int)) = swpL R p := by
       unfold swpL atD
       rw [eP1, eP]
      rw [hsw] at hS6
      obtain ⟨A0, hA0⟩ : ∃ A, A = atD 0 R (p : Int) := ⟨_, rfl⟩
      obtain ⟨A1, hA1⟩ : ∃ A, A = atD 0 R ((p : Int) + 1) := ⟨_, rfl⟩
      rw [← hA0] at hcA hS6
      rw [← hA1] at hcC hcB hfB hS5 hS6
      simp only [cInt] at hcB hfB hS5 hS6
      obtain ⟨hp9, hkA, hkB, hkC, hkD, hkE, hkF⟩ := pkB p K hpK hK64
      have hw1 := wrapQ1 p hp9
      have hw2 := wrapP1 p hp9
      have hUb := hSU.b
      clear hcB2 vA vB hA0 hA1 hsw hKR hSc hSq eP eP1
      go_wp2_with fail
      refine wp_regionK (C := (fun V' => Below w.heap.size w V')) [0, 1, 2, 3, 4, 5, 6, 7, 8, 10, 11, 12] [_, _, _, _, _, _, _, _, _, _, _, _] 6 (by simp only [List.map_cons, List.map_nil, List.getElem?_toArray]; rfl) rfl kR kR kR ((by rw [hU] at hUb; exact hUb)) ?_
      refine ⟨_, yieldsK_val wU (fun w' => by with_unfolding_all exact rfl), ?_⟩
      go_frame
      refine ⟨_, yieldsK_val wU (fun w' => by with_unfolding_all exact rfl), ?_⟩
      go_frame
      refine ⟨_, yieldsK_val wU (fun w' => by with_unfolding_all exact rfl), ?_⟩
      go_frame
      refine ⟨_, yieldsK_val wU (fun w' => by with_unfolding_all exact rfl), ?_⟩
      go_frame
      refine ⟨.int .i64 ((p : Int) + 1), yieldsK_val wU (fun w' => by first | (go_simp; done) | (go_simp; rfl)), ?_⟩
      go_frame
      refine ⟨_, yieldsK_val wU (fun w' => by with_unfolding_all exact rfl), ?_⟩
      go_frame
      refine ⟨_, yieldsK_val wU (fun w' => by with_unfolding_all exact rfl), ?_⟩
      go_frame
      refine ⟨.int .i64 ((p : Int) + 1), yieldsK_val wU (fun w' => by first | (go_simp; done) | (go_simp; rfl)), ?_⟩
      go_frame
      refine ⟨.pointer (some ⟨g, p + 1, none⟩), yieldsK_val wU (fun w' => by first | (go_simp; done) | (go_simp; rfl)), ?_⟩
      go_frame
      refine ⟨_, yieldsK_val wU (fun w' => by with_unfolding_all exact rfl), ?_⟩
      go_frame
      refine ⟨_, yieldsK_val wU (fun w' => by with_unfolding_all exact rfl), ?_⟩
      go_frame
      refine ⟨.pointer (some ⟨g, p, none⟩), yieldsK_val wU (fun w' => by first | (go_simp; done) | (go_simp; rfl)), ?_⟩
      go_frame
      unfold wpPureK
      have hVd : ({ V with drawn := V.drawn + 1 } : World) = V.drew := rfl
      rw [hVd, ← hU]
      clear hVd hU
      refine wpAnyC_on [9, 13] kR (by simp) ?_
      simp only [List.forall_mem_cons, List.not_mem_nil, false_implies, implies_true, and_true]
      refine ⟨?_, ?_⟩
      ·refine wpOp_value (v := .int .i64 A1) (w' := U) (by rw [List.getElem?_toArray]; rfl) wU (by first | (go_simp; done) | (go_simp; rfl) | (simp [execOp, Act.eval, Result.andThen]; done)) ?_
       refine ⟨hSU.b, ?_⟩
       go_frame
       refine wpAnyC_on [13] kR (by simp) ?_
       simp only [List.forall_mem_cons, List.not_mem_nil, false_implies, implies_true, and_true]
       refine wpOp_value (v := .int .i64 A0) (w' := U) (by rw [List.getElem?_toArray]; rfl) wU (by first | (go_simp; done) | (go_simp; rfl) | (simp [execOp, Act.eval, Result.andThen]; done)) ?_
       refine ⟨hSU.b, ?_⟩
       go_frame
       refine wpAnyC_on [14] kR (by simp) ?_
       simp only [List.forall_mem_cons, List.not_mem_nil, false_implies, implies_true, and_true]
       refine wpOp_value (v := .pointer (some ⟨g, p, none⟩)) (w' := U) (by rw [List.getElem?_toArray]; rfl) wU (by first | (go_simp; done) | (go_simp; rfl) | (simp [execOp, Act.eval, Result.andThen]; done)) ?_
       refine ⟨hSU.b, ?_⟩
       go_frame
       refine wpAnyC_on [15] kR (by simp) ?_
       simp only [List.forall_mem_cons, List.not_mem_nil, false_implies, implies_true, and_true]
       refine wpOp_of_list (by rw [List.getElem?_toArray]; rfl) ?_
       refine wpList_stoI (v := A1) wU wU hcA hfA ?_
       refine ⟨hS5.b, ?_⟩
       go_frame
       refine wpAnyC_on [16] kR (by simp) ?_
       simp only [List.forall_mem_cons, List.not_mem_nil, false_implies, implies_true, and_true]
       refine wpOp_value (v := .pointer (some ⟨g, p + 1, none⟩)) (w' := (U.setCell ⟨g, p, none⟩ (.int .i64 A1))) (by rw [List.getElem?_toArray]; rfl) wU (by first | (go_simp; done) | (go_simp; rfl) | (simp [execOp, Act.eval, Result.andThen]; done)) ?_
       refine ⟨hS5.b, ?_⟩
       go_frame
       refine wpAnyC_on [17] kR (by simp) ?_
       simp only [List.forall_mem_cons, List.not_mem_nil, false_implies, implies_true, and_true]
       refine wpOp_of_list (by rw [List.getElem?_toArray]; rfl) ?_
       refine wpList_stoI (v := A0) wU wU hcB hfB ?_
       refine ⟨hS6.b, ?_⟩
       go_frame
       refine wpAnyC_rest [] [] rfl rfl kR kR kR hS6.b ?_
       unfold wpPure
       refine of_wpList_nil (P := Tryz.prog) (ops := #[]) ?_
       obtain ⟨U2, hU2⟩ : ∃ U2, U2 = (U.setCell ⟨g, p, none⟩ (.int .i64 A1)).setCell ⟨g, p + 1, none⟩ (.int .i64 A0) := ⟨_, rfl⟩
       rw [← hU2] at hS6 ⊢
       clear hU2 hS5 hcA hcB hcC hfA hfB hfC hkA hkB hkC hkD hkE hkF hw1
       have q12 := (hS6.blk 0 rfl).1
       have hwn := wrapN1 p hp9
       have hwn2 := wrapN2 p hp9
       by_cases ho : x.over = x.going
       ·have d1 : (x.over == x.going) = true := by simpa using ho
        have e1 : (if x.over = x.going then (p : Int) + 1 else -(p : Int) - 1) = (p : Int) + 1 := if_pos ho
        have hst2 := HS2.out
        rw [e1] at hst2
        have HS3 := hid hst2
        clear ho e1 hst2
        go_wp2_with (first | (with_reducible refine wpList_ldS (n := 3) (us := #[.int .i64 x.gear, .int .i64 x.over, .int .i64 x.under]) A_xs kR wU wU (by assumption) wU wU ?_) | (with_reducible refine wpList_ldB F_int wU wU q12 wU ?_) | ((with_reducible refine wpList_pushL (y := ((p : Int) + 1)) 3 E_ints wU wU (hS6) wU cIntO ⟨rfl, rfl⟩ (by first | with_unfolding_all rfl | simp) wU (by first | omega | (simp; omega)) (by first | omega | (simp; omega)) ?_); intro v7 w7 hS7))
        obtain ⟨a7, c7, rfl, _⟩ := hS7.slice 3 rfl
        clear hwn hwn2 hw2
        go_roundg g2
        case measure => omega
        case rel =>
         refine ⟨i + 1, by omega, by go_num, by show (O ++ [(p : Int) + 1]).length = _; rw [List.length_append, HOl.out]; rfl, ?_⟩
         rw [HS1.out, HS3.out]
         exact hS7.tail
       ·have d1 : (x.over == x.going) = false := by simpa using ho
        have e1 : (if x.over = x.going then (p : Int) + 1 else -(p : Int) - 1) = -(p : Int) - 1 := if_neg ho
        have hst2 := HS2.out
        rw [e1] at hst2
        have HS3 := hid hst2
        clear ho e1 hst2
        go_wp2_with (first | (with_reducible refine wpList_ldS (n := 3) (us := #[.int .i64 x.gear, .int .i64 x.over, .int .i64 x.under]) A_xs kR wU wU (by assumption) wU wU ?_) | (with_reducible refine wpList_ldB F_int wU wU q12 wU ?_) | ((with_reducible refine wpList_pushL (y := (-(p : Int) - 1)) 3 E_ints wU wU (hS6) wU cIntO ⟨rfl, rfl⟩ (by first | with_unfolding_all rfl | simp) wU (by first | omega | (simp; omega)) (by first | omega | (simp; omega)) ?_); intro v7 w7 hS7))
        obtain ⟨a7, c7, rfl, _⟩ := hS7.slice 3 rfl
        clear hwn hwn2 hw2
        go_roundg g2
        case measure => omega
        case rel =>
         refine ⟨i + 1, by omega, by go_num, by show (O ++ [-(p : Int) - 1]).length = _; rw [List.length_append, HOl.out]; rfl, ?_⟩
         rw [HS1.out, HS3.out]
         exact hS7.tail
      ·refine wpOp_value (v := .int .i64 A0) (w' := U) (by rw [List.getElem?_toArray]; rfl) wU (by first | (go_simp; done) | (go_simp; rfl) | (simp [execOp, Act.eval, Result.andThen]; done)) ?_
       refine ⟨hSU.b, ?_⟩
       go_frame
       refine wpAnyC_on [9] kR (by simp) ?_
       simp only [List.forall_mem_cons, List.not_mem_nil, false_implies, implies_true, and_true]
       refine wpOp_value (v := .int .i64 A1) (w' := U) (by rw [List.getElem?_toArray]; rfl) wU (by first | (go_simp; done) | (go_simp; rfl) | (simp [execOp, Act.eval, Result.andThen]; done)) ?_
       refine ⟨hSU.b, ?_⟩
       go_frame
       refine wpAnyC_on [14] kR (by simp) ?_
       simp only [List.forall_mem_cons, List.not_mem_nil, false_implies, implies_true, and_true]
       refine wpOp_value (v := .pointer (some ⟨g, p, none⟩)) (w' := U) (by rw [List.getElem?_toArray]; rfl) wU (by first | (go_simp; done) | (go_simp; rfl) | (simp [execOp, Act.eval, Result.andThen]; done)) ?_
       refine ⟨hSU.b, ?_⟩
       go_frame
       refine wpAnyC_on [15] kR (by simp) ?_
       simp only [List.forall_mem_cons, List.not_mem_nil, false_implies, implies_true, and_true]
       refine wpOp_of_list (by rw [List.getElem?_toArray]; rfl) ?_
       refine wpList_stoI (v := A1) wU wU hcA hfA ?_
       refine ⟨hS5.b, ?_⟩
       go_frame
       refine wpAnyC_on [16] kR (by simp) ?_
       simp only [List.forall_mem_cons, List.not_mem_nil, false_implies, implies_true, and_true]
       refine wpOp_value (v := .pointer (some ⟨g, p + 1, none⟩)) (w' := (U.setCell ⟨g, p, none⟩ (.int .i64 A1))) (by rw [List.getElem?_toArray]; rfl) wU (by first | (go_simp; done) | (go_simp; rfl) | (simp [execOp, Act.eval, Result.andThen]; done)) ?_
       refine ⟨hS5.b, ?_⟩
       go_frame
       refine wpAnyC_on [17] kR (by simp) ?_
       simp only [List.forall_mem_cons, List.not_mem_nil, false_implies, implies_true, and_true]
       refine wpOp_of_list (by rw [List.getElem?_toArray]; rfl) ?_
       refine wpList_stoI (v := A0) wU wU hcB hfB ?_
       refine ⟨hS6.b, ?_⟩
       go_frame
       refine wpAnyC_rest [] [] rfl rfl kR kR kR hS6.b ?_
       unfold wpPure
       refine of_wpList_nil (P := Tryz.prog) (ops := #[]) ?_
       obtain ⟨U2, hU2⟩ : ∃ U2, U2 = (U.setCell ⟨g, p, none⟩ (.int .i64 A1)).setCell ⟨g, p + 1, none⟩ (.int .i64 A0) := ⟨_, rfl⟩
       rw [← hU2] at hS6 ⊢
       clear hU2 hS5 hcA hcB hcC hfA hfB hfC hkA hkB hkC hkD hkE hkF hw1
       have q12 := (hS6.blk 0 rfl).1
       have hwn := wrapN1 p hp9
       have hwn2 := wrapN2 p hp9
       by_cases ho : x.over = x.going
       ·have d1 : (x.over == x.going) = true := by simpa using ho
        have e1 : (if x.over = x.going then (p : Int) + 1 else -(p : Int) - 1) = (p : Int) + 1 := if_pos ho
        have hst2 := HS2.out
        rw [e1] at hst2
        have HS3 := hid hst2
        clear ho e1 hst2
        go_wp2_with (first | (with_reducible refine wpList_ldS (n := 3) (us := #[.int .i64 x.gear, .int .i64 x.over, .int .i64 x.under]) A_xs kR wU wU (by assumption) wU wU ?_) | (with_reducible refine wpList_ldB F_int wU wU q12 wU ?_) | ((with_reducible refine wpList_pushL (y := ((p : Int) + 1)) 3 E_ints wU wU (hS6) wU cIntO ⟨rfl, rfl⟩ (by first | with_unfolding_all rfl | simp) wU (by first | omega | (simp; omega)) (by first | omega | (simp; omega)) ?_); intro v7 w7 hS7))
        obtain ⟨a7, c7, rfl, _⟩ := hS7.slice 3 rfl
        clear hwn hwn2 hw2
        go_roundg g2
        case measure => omega
        case rel =>
         refine ⟨i + 1, by omega, by go_num, by show (O ++ [(p : Int) + 1]).length = _; rw [List.length_append, HOl.out]; rfl, ?_⟩
         rw [HS1.out, HS3.out]
         exact hS7.tail
       ·have d1 : (x.over == x.going) = false := by simpa using ho
        have e1 : (if x.over = x.going then (p : Int) + 1 else -(p : Int) - 1) = -(p : Int) - 1 := if_neg ho
        have hst2 := HS2.out
        rw [e1] at hst2
        have HS3 := hid hst2
        clear ho e1 hst2
        go_wp2_with (first | (with_reducible refine wpList_ldS (n := 3) (us := #[.int .i64 x.gear, .int .i64 x.over, .int .i64 x.under]) A_xs kR wU wU (by assumption) wU wU ?_) | (with_reducible refine wpList_ldB F_int wU wU q12 wU ?_) | ((with_reducible refine wpList_pushL (y := (-(p : Int) - 1)) 3 E_ints wU wU (hS6) wU cIntO ⟨rfl, rfl⟩ (by first | with_unfolding_all rfl | simp) wU (by first | omega | (simp; omega)) (by first | omega | (simp; omega)) ?_); intro v7 w7 hS7))
        obtain ⟨a7, c7, rfl, _⟩ := hS7.slice 3 rfl
        clear hwn hwn2 hw2
        go_roundg g2
        case measure => omega
        case rel =>
         refine ⟨i + 1, by omega, by go_num, by show (O ++ [-(p : Int) - 1]).length = _; rw [List.length_append, HOl.out]; rfl, ?_⟩
         rw [HS1.out, HS3.out]
         exact hS7.tail
 ·obtain ⟨E, hE⟩ : ∃ E, E = weaveE m l n := ⟨_, rfl⟩
  have hv : wrdE m l n = E := by unfold wrdE; rw [if_pos he, hE]
  rw [← hE] at CW he
  have hne : (E != 0) = true := by simpa using he
  rw [hv, if_neg he]
  have HC := hid CW
  clear hv hE CW HK
  go_enter Tryz.func13, Tryz.ntmps13
  go_wp2
  go_step3
  go_wp2_with (with_reducible refine wpList_ldS (n := 4) (us := mC m ad cap) A_mach kR wU wU (by assumption) wU wU ?_)
  refine HC.out.mono ?_
  rintro e w1 ⟨rfl, b1⟩
  have hS1 := hS.mono b1
  go_wp2_with fail
  try rw [Exit.noGoto_ret]
  go_ret2
  exact ⟨_, rfl, own_nil cIntS, hS1.b⟩
end Go.Proofs.YtglpfpdomnllkaaGreat

namespace Go.Proofs.YtglpfpdomnllkaaGreat
set_option maxRecDepth 100000
/-- no two ever meet. -/
def AllA (m : MacV) (l : List Int) : Prop := ∀ x ∈ l, ∀ y ∈ l, x ≠ y → meetM m x y = none
structure GoodL (m : MacV) (l : List Int) (s : Int) : Prop where
 all : AllA m l
 asc : l.Pairwise (· < ·)
 rng : ∀ x ∈ l, 0 ≤ x ∧ x < s
theorem GoodL.mono {m : MacV} {l : List Int} {s t : Int} (h : GoodL m l s) (hst : s ≤ t) : GoodL m l t := ⟨h.all, h.asc, fun x hx => by have := h.rng x hx; omega⟩
end Go.Proofs.YtglpfpdomnllkaaGreat

namespace Go.Proofs.YtglpfpdomnllkaaGreat
open Go.RowKit
set_option maxHeartbeats 2000000
set_option maxRecDepth 100000

theorem A_rmach : Aggr Tryz.prog 27 := ⟨_, Tryz.underlying27, rfl⟩
theorem rOutside_any (n lo hi : Int) (w : World) :
  Calls Tryz.prog 32 #[.int .i64 n, .int .i64 lo, .int .i64 hi] w fun r w' => r = .returned (.bool (decide (n < lo) || decide (hi < n))) ∧ w = w' := by
 by_cases h : n < lo
 ·go_enter Tryz.func32, Tryz.ntmps32
  go_wp2_with fail
  go_ret
  exact ⟨by simp [h], rfl⟩
 ·go_enter Tryz.func32, Tryz.ntmps32
  go_wp2_with fail
  go_ret
  exact ⟨by rw [show decide (n < lo) = false by simpa using h]; rfl, rfl⟩
theorem rShort_any (m : MacV) (ad : Option Addr) (cap : Nat) (al : Option Addr) (cl n : Nat) (w : World) :
  Calls Tryz.prog 7 #[mV m ad cap, .slice al n cl] w fun r w' => r = .returned (.bool (decide (m.sw.length ≤ 19) && decide (n ≤ 67))) ∧ Below w.heap.size w w' := by
 by_cases h : m.sw.length ≤ 19
 ·have h2 : (m.sw.length : Int) ≤ 19 := by omega
  by_cases k : n ≤ 67
  ·have k2 : (n : Int) ≤ 67 := by omega
   go_enter Tryz.func7, Tryz.ntmps7
   go_wp2_with fail
   go_ret
   exact ⟨by simp [h, k, h2, k2], bal (Below.refl _ _) _⟩
  ·have k2 : ¬ (n : Int) ≤ 67 := by omega
   go_enter Tryz.func7, Tryz.ntmps7
   go_wp2_with fail
   go_ret
   exact ⟨by simp [h, k, h2, k2], bal (Below.refl _ _) _⟩
 ·have h2 : ¬ (m.sw.length : Int) ≤ 19 := by omega
  go_enter Tryz.func7, Tryz.ntmps7
  go_wp2_with fail
  go_ret
  exact ⟨by simp [h, h2], bal (Below.refl _ _) _⟩
theorem rSlots_any (m : MacV) (ad : Option Addr) (cap : Nat) (w : World) (h0 : 0 ≤ m.gears) (h1 : m.gears ≤ 16) :
  Calls Tryz.prog 44 #[mV m ad cap] w fun r w' => r = .returned (.int .i64 (4 * m.gears)) ∧ Below w.heap.size w w' := by
 go_enter Tryz.func44, Tryz.ntmps44
 go_wp2_with fail
 go_ret
 exact ⟨rfl, bal (Below.refl _ _) _⟩
theorem rForwards_any (m : MacV) (ad : Option Addr) (cap : Nat) (g : Int) (w : World) (h0 : 0 ≤ g) (h1 : g ≤ 1048576) :
  Calls Tryz.prog 175 #[mV m ad cap, .int .i64 g] w fun r w' => r = .returned (.bool (fwdM m g)) ∧ Below w.heap.size w w' := by
 obtain ⟨q, hq⟩ : ∃ q, q = g % 2 := ⟨_, rfl⟩
 have htm : g.tmod 2 = q := by rw [hq, Int.tmod_eq_emod_of_nonneg h0]
 have hf : fwdM m g = ((m.turn == 1) == (q == 0)) := by unfold fwdM; rw [hq]
 have hq2 : 0 ≤ q ∧ q < 2 := by omega
 have HF := hid hf
 clear hf hq
 go_enter Tryz.func175, Tryz.ntmps175
 go_wp2_with fail
 go_ret
 exact ⟨by rw [HF.out]; rfl, bal (Below.refl _ _) _⟩
theorem rShared_any (m : MacV) (ad : Option Addr) (cap : Nat) (p : Int) (w : World) (h0 : 1 ≤ m.gears) (h1 : m.gears ≤ 16) :
  Calls Tryz.prog 43 #[mV m ad cap, .int .i64 p] w fun r w' => r = .returned (.bool (sharedM m p)) ∧ Below w.heap.size w w' := by
 have hw : IntKind.i64.wrap (m.gears - 1) = m.gears - 1 := IntWalk.i64_in _ (by omega)
 have hS := (SL.nil w).box (.cells (mC m ad cap) 27)
 cases hr : m.ring
 ·have hs : sharedM m p = !(decide (p < 1) || decide (m.gears - 1 < p)) := by
   unfold sharedM
   rw [hr, Bool.eq_iff_iff]
   simp
   omega
  obtain ⟨b, hb⟩ : ∃ b, b = (decide (p < 1) || decide (m.gears - 1 < p)) := ⟨_, rfl⟩
  have CO := fun w => rOutside_any p 1 (m.gears - 1) w
  rw [← hb] at CO hs
  have HS := hid hs; have HO := hid CO
  clear hs CO hb
  unfold mV
  rw [hr]
  clear hr
  go_enter Tryz.func43, Tryz.ntmps43
  go_wp2_with fail
  refine (HO.out _).mono ?_
  rintro e w1 ⟨rfl, rfl⟩
  go_wp2_with fail
  go_ret
  exact ⟨by rw [HS.out]; rfl, bal (Below.refl _ _) _⟩
 ·have hs : sharedM m p = !(decide (p < 0) || decide (m.gears - 1 < p)) := by
   unfold sharedM
   rw [hr, Bool.eq_iff_iff]
   simp
   omega
  obtain ⟨b, hb⟩ : ∃ b, b = (decide (p < 0) || decide (m.gears - 1 < p)) := ⟨_, rfl⟩
  have CO := fun w => rOutside_any p 0 (m.gears - 1) w
  rw [← hb] at CO hs
  have HS := hid hs; have HO := hid CO
  clear hs CO hb
  unfold mV
  rw [hr]
  clear hr
  go_enter Tryz.func43, Tryz.ntmps43
  go_wp2_with fail
  refine (HO.out _).mono ?_
  rintro e w1 ⟨rfl, rfl⟩
  go_wp2_with fail
  go_ret
  exact ⟨by rw [HS.out]; rfl, bal (Below.refl _ _) _⟩
theorem rPlace_any (m : MacV) (ad : Option Addr) (cap : Nat) (s : Int) (w : World) (hg : m.gears ≤ 16) (h0 : 0 ≤ s) (h1 : s < 4 * m.gears) :
  Calls Tryz.prog 145 #[mV m ad cap, .int .i64 s] w fun r w' => r = .returned (.int .i64 (placeM m s)) ∧ Below w.heap.size w w' := by
 obtain ⟨g, hgq⟩ : ∃ g, g = s / 4 := ⟨_, rfl⟩
 obtain ⟨q, hq⟩ : ∃ q, q = s % 4 := ⟨_, rfl⟩
 have htd : s.tdiv 4 = g := by rw [hgq, Int.tdiv_eq_ediv_of_nonneg h0]
 have htm : s.tmod 4 = q := by rw [hq, Int.tmod_eq_emod_of_nonneg h0]
 have hp := place_prog h0 h1
 have hpl : placeM m s = if q = 0 then g else if q = 2 then (if m.ring = true ∧ g + 1 = m.gears then 0 else g + 1) else -1 := by unfold placeM; rw [hq, hgq]
 rw [← hgq] at hp
 have hq4 : q = 0 ∨ q = 1 ∨ q = 2 ∨ q = 3 := by omega
 have hg0 : 0 ≤ g ∧ g < m.gears := by omega
 have hw1 : IntKind.i64.wrap g = g := IntWalk.i64_in _ (by omega)
 have hw2 : IntKind.i64.wrap (g + 1) = g + 1 := IntWalk.i64_in _ (by omega)
 rcases hq4 with rfl | rfl | rfl | rfl
 ·rw [if_pos rfl] at hpl
  have HP := hid hpl
  clear hpl hp hq hgq
  go_enter Tryz.func145, Tryz.ntmps145
  go_wp2_with fail
  go_ret
  exact ⟨by rw [HP.out]; rfl, bal (Below.refl _ _) _⟩
 ·rw [if_neg (by decide), if_neg (by decide)] at hpl
  have HP := hid hpl
  clear hpl hp hq hgq
  go_enter Tryz.func145, Tryz.ntmps145
  go_wp2_with fail
  go_ret
  exact ⟨by rw [HP.out]; rfl, bal (Below.refl _ _) _⟩
 ·rw [if_neg (by decide), if_pos rfl, ← hp] at hpl
  obtain ⟨P, hP⟩ : ∃ P, P = placeM m s := ⟨_, rfl⟩
  rw [← hP] at hpl ⊢
  unfold mV
  cases hr : m.ring
  ·rw [hr] at hpl
   simp only [Bool.false_eq_true, if_false] at hpl
   have e2 : P = g + 1 := by rw [hpl]; exact Int.emod_eq_of_lt (by omega) (by omega)
   have HP := hid e2
   clear hpl hp hq hgq hP e2 hr
   go_enter Tryz.func145, Tryz.ntmps145
   go_wp2_with fail
   go_ret
   exact ⟨by rw [HP.out]; rfl, bal (Below.refl _ _) _⟩
  ·rw [hr] at hpl
   simp only [if_true, Int.add_zero] at hpl
   have hPb : 0 ≤ P ∧ P ≤ 64 := by
    rw [hpl]
    have a := Int.emod_nonneg (g + 1) (b := m.gears) (by omega)
    have b := Int.emod_lt_of_pos (g + 1) (b := m.gears) (by omega)
    omega
   have hmod : (g + 1).tmod m.gears = P := by rw [hpl, Int.tmod_eq_emod_of_nonneg (by omega)]
   have hnz : ¬ m.gears = 0 := by omega
   have hw : IntKind.i64.wrap P = P := IntWalk.i64_in _ (by omega)
   clear hpl hp hq hgq hP hr
   go_enter Tryz.func145, Tryz.ntmps145
   go_wp2_with fail
   go_ret
   exact ⟨rfl, bal (Below.refl _ _) _⟩
 ·rw [if_neg (by decide), if_neg (by decide)] at hpl
  have HP := hid hpl
  clear hpl hp hq hgq
  go_enter Tryz.func145, Tryz.ntmps145
  go_wp2_with fail
  go_ret
  exact ⟨by rw [HP.out]; rfl, bal (Below.refl _ _) _⟩
theorem rSet_any (m : MacV) (ad : Option Addr) (cap : Nat) (p : Int) (w : World) (hR : Ints w ad cap m.sw) :
  Calls Tryz.prog 194 #[mV m ad cap, .int .i64 p] w fun r w' => r = .returned (.bool (m.sw.contains p)) ∧ Below w.heap.size w w' := by
 have hcap := hR.le
 have hmx := hR.max
 have hS := (SL.nil w).box (.cells (mC m ad cap) 27)
 have hlen : m.sw.length ≤ 9223372036854775807 := by have := hR.max; unfold maxLen at this; omega
 go_enter Tryz.func194, Tryz.ntmps194
 go_wp2_with fail
 go_loopw [5] (fun i wr => ∃ k : Nat, k ≤ m.sw.length ∧ i = .int .i64 k ∧ (m.sw.drop k).contains p = m.sw.contains p ∧ SL w.heap.size w wr [pBlk w.heap.size (.cells (mC m ad cap) 27)]) (fun i _ => m.sw.length - (intOf i).toNat)
 case atStart => exact ⟨0, by omega, rfl, by simp, hS⟩
 case round =>
  clear hS
  obtain ⟨k, hk, rfl, hf, hSr⟩ := hrel
  have q1 := (hSr.blk 0 rfl).1
  have hRr := hR.below hSr.b
  by_cases hlt : k < m.sw.length
  ·have hs : (m.sw.drop k).contains p = ((atD 0 m.sw k == p) || (m.sw.drop (k + 1)).contains p) := by
    have e2 : atD 0 m.sw k = m.sw[k] := by simp [atD, hlt]
    rw [List.drop_eq_getElem_cons hlt, e2, List.contains_cons, Bool.beq_comm]
   rw [hf] at hs
   have HS := hid hs
   clear hs hf
   go_wp2_with (first | (with_reducible refine wpList_ldB F_sliceM wU wU q1 wU ?_) | (with_reducible refine wpList_idx _ 0 E_ints F_int cInt1 wU wU (hRr) oD oD (fun _ => wU) (fun _ => ?_)))
   ·have hd : (atD 0 m.sw k == p) = true := by assumption
    go_ret
    exact ⟨by rw [HS.out, hd]; rfl, hSr.b⟩
   ·have hd : (atD 0 m.sw k == p) = false := by assumption
    exact ⟨⟨k + 1, by omega, by go_num, by rw [HS.out, hd]; rfl, hSr⟩, by simp [intOf]; omega⟩
  ·have hkn : k = m.sw.length := by omega
   subst hkn
   rw [List.drop_length] at hf
   have HF := hid hf
   clear hf
   go_wp2_with (with_reducible refine wpList_ldB F_sliceM wU wU q1 wU ?_)
   go_ret
   exact ⟨by rw [← HF.out]; rfl, hSr.b⟩
end Go.Proofs.YtglpfpdomnllkaaGreat

namespace Go.Proofs.YtglpfpdomnllkaaGreat
open Go.RowKit
set_option maxHeartbeats 4000000
set_option maxRecDepth 100000

theorem rOther_any (m : MacV) (ad : Option Addr) (cap : Nat) (s : Int) (w : World) (hg0 : 1 ≤ m.gears) (hg : m.gears ≤ 16) (h0 : 0 ≤ s) (h1 : s < 4 * m.gears) :
  Calls Tryz.prog 143 #[mV m ad cap, .int .i64 s] w fun r w' => r = .returned (.int .i64 (otherM m s)) ∧ Below w.heap.size w w' := by
 have hS := (SL.nil w).box (.cells (mC m ad cap) 27)
 have CP := fun (x : Int) w (a : 0 ≤ x) (b : x < 4 * m.gears) => rPlace_any m ad cap x w hg a b
 have CPs := fun w => rPlace_any m ad cap s w hg h0 h1
 obtain ⟨P, hP⟩ : ∃ P, P = placeM m s := ⟨_, rfl⟩
 rw [← hP] at CPs
 have HPs := hid CPs
 clear CPs
 by_cases hp0 : P < 0
 ·have ho : otherM m s = -1 := by unfold otherM; rw [← hP, decide_eq_false (by omega)]; rfl
  have HO := hid ho
  clear ho hP CP
  go_enter Tryz.func143, Tryz.ntmps143
  go_wp2_with fail
  refine (HPs.out _).mono ?_
  rintro e w1 ⟨rfl, b1⟩
  have hS1 := hS.mono b1
  go_wp2_with fail
  go_ret
  exact ⟨by rw [HO.out]; rfl, hS1.b⟩
 ·have hpd : decide (P < 0) = false := decide_eq_false hp0
  have CS := fun w => rShared_any m ad cap P w hg0 hg
  cases hsh : sharedM m P
  ·have ho : otherM m s = -1 := by unfold otherM; rw [← hP, hsh, Bool.and_false]; rfl
   rw [hsh] at CS
   have HO := hid ho; have HS := hid CS
   clear ho hP CP CS hsh
   go_enter Tryz.func143, Tryz.ntmps143
   go_wp2_with fail
   refine (HPs.out _).mono ?_
   rintro e w1 ⟨rfl, b1⟩
   have hS1 := hS.mono b1
   have q1 := (hS1.blk 0 rfl).1
   go_wp2_with (with_reducible refine wpList_ldS (n := 4) (us := mC m ad cap) A_rmach kR wU wU (by assumption) wU wU ?_)
   refine (HS.out _).mono ?_
   rintro e w2 ⟨rfl, b2⟩
   have hS2 := hS1.mono b2
   go_wp2_with fail
   go_ret
   exact ⟨by rw [HO.out]; rfl, hS2.b⟩
  ·rw [hsh] at CS
   have ho := other_is h0 h1 (by rw [← hP]; omega) (by rw [← hP]; exact hsh)
   have hu := fun (i : Int) a b c d => other_only (m := m) (s := s) (i := i) h0 h1 a b (by rw [← hP]; omega) (by rw [← hP]; exact hsh) c d
   obtain ⟨K, hK⟩ : ∃ K : Nat, otherM m s = K := ⟨(otherM m s).toNat, by omega⟩
   obtain ⟨n, hn⟩ : ∃ n : Nat, 4 * m.gears = n := ⟨(4 * m.gears).toNat, by omega⟩
   have CN := fun w => rSlots_any m ad cap w (by omega) hg
   rw [hK] at ho hu ⊢
   rw [hn] at ho hu CP h1 CN
   rw [← hP] at ho hu
   have HS := hid CS; have HO := hid ho; have HU := hid hu; have HP := hid CP; have HN := hid CN
   have hKn : K < n := by omega
   have hn64 : n ≤ 64 := by omega
   clear CS CP CN ho hu hP hK hn hsh
   go_enter Tryz.func143, Tryz.ntmps143
   go_wp2_with fail
   refine (HPs.out _).mono ?_
   rintro e w1 ⟨rfl, b1⟩
   have hS1 := hS.mono b1
   have q1 := (hS1.blk 0 rfl).1
   go_wp2_with (with_reducible refine wpList_ldS (n := 4) (us := mC m ad cap) A_rmach kR wU wU (by assumption) wU wU ?_)
   refine (HS.out _).mono ?_
   rintro e w2 ⟨rfl, b2⟩
   have hS2 := hS1.mono b2
   go_wp2_with fail
   go_loopw [6] (fun i wr => ∃ k : Nat, k ≤ K ∧ i = .int .i64 k ∧ SL w.heap.size w wr [pBlk w.heap.size (.cells (mC m ad cap) 27)]) (fun i _ => n - (intOf i).toNat)
   case atStart => exact ⟨0, by omega, rfl, hS2⟩
   case round =>
    clear hS1 hS2 hS q1
    obtain ⟨k, hk, rfl, hSr⟩ := hrel
    have q1 := (hSr.blk 0 rfl).1
    have hkn : (k : Int) < n := by omega
    go_wp2_with (with_reducible refine wpList_ldS (n := 4) (us := mC m ad cap) A_rmach kR wU wU (by assumption) wU wU ?_)
    refine (HN.out _).mono ?_
    rintro e w3 ⟨rfl, b3⟩
    have hS3 := hSr.mono b3
    have q3 := (hS3.blk 0 rfl).1
    by_cases hkK : k = K
    ·subst hkK
     have hne : ((k : Int) != s) = true := by simpa using HO.out.2.2.1
     have CPk := fun w => HP.out k w (by omega) hkn
     rw [HO.out.2.2.2] at CPk
     have HPk := hid CPk
     clear CPk
     go_wp2_with (with_reducible refine wpList_ldS (n := 4) (us := mC m ad cap) A_rmach kR wU wU (by assumption) wU wU ?_)
     refine (HPk.out _).mono ?_
     rintro e w4 ⟨rfl, b4⟩
     have hS4 := hS3.mono b4
     go_wp2_with fail
     go_ret
     exact ⟨rfl, hS4.b⟩
    ·by_cases hks : (k : Int) = s
     ·have hne : ((k : Int) != s) = false := by simpa using hks
      have hkK2 : k < K := by omega
      clear hks
      go_wp2_with fail
      exact ⟨⟨k + 1, by omega, by go_num, hS3⟩, by simp [intOf]; omega⟩
     ·have hne : ((k : Int) != s) = true := by simpa using hks
      have hkK2 : k < K := by omega
      have CPk := fun w => HP.out k w (by omega) hkn
      obtain ⟨z, hz⟩ : ∃ z, z = placeM m k := ⟨_, rfl⟩
      have hzP : (z == P) = false := by
       have : z ≠ P := fun e => hkK (by have := HU.out k (by omega) (by omega) hks (hz ▸ e); omega)
       simpa using this
      rw [← hz] at CPk
      have HPk := hid CPk
      clear CPk hks hz
      go_wp2_with (with_reducible refine wpList_ldS (n := 4) (us := mC m ad cap) A_rmach kR wU wU (by assumption) wU wU ?_)
      refine (HPk.out _).mono ?_
      rintro e w4 ⟨rfl, b4⟩
      have hS4 := hS3.mono b4
      go_wp2_with fail
      exact ⟨⟨k + 1, by omega, by go_num, hS4⟩, by simp [intOf]; omega⟩
theorem rOver_any (m : MacV) (ad : Option Addr) (cap : Nat) (s : Int) (w : World) (hR : Ints w ad cap m.sw) (hg0 : 1 ≤ m.gears) (hg : m.gears ≤ 16) (h0 : 0 ≤ s) (h1 : s < 4 * m.gears) :
  Calls Tryz.prog 176 #[mV m ad cap, .int .i64 s] w fun r w' => r = .returned (.int .i64 (overM m s)) ∧ Below w.heap.size w w' := by
 have hcap := hR.le
 have hmx := hR.max
 have hS := (SL.nil w).box (.cells (mC m ad cap) 27)
 have CO := fun w => rOther_any m ad cap s w hg0 hg h0 h1
 have CP := fun w => rPlace_any m ad cap s w hg h0 h1
 have CS := fun w (h : Ints w ad cap m.sw) => rSet_any m ad cap (placeM m s) w h
 rw [other_over]
 obtain ⟨O, hO⟩ : ∃ O, O = otherM m s := ⟨_, rfl⟩
 obtain ⟨P, hP⟩ : ∃ P, P = placeM m s := ⟨_, rfl⟩
 obtain ⟨b, hb⟩ : ∃ b, b = m.sw.contains P := ⟨_, rfl⟩
 rw [← hP, ← hb] at CS
 rw [← hO] at CO
 rw [← hP] at CP
 rw [← hO, ← hP, ← hb]
 have HO := hid CO; have HP := hid CP; have HS := hid CS
 clear CO CP CS hO hP hb
 by_cases h : 0 ≤ O
 ·cases b
  ·rw [decide_eq_true h, if_pos (by rfl)]
   have hOd : decide (0 ≤ O) = true := decide_eq_true h
   go_enter Tryz.func176, Tryz.ntmps176
   go_wp2_with fail
   refine (HO.out _).mono ?_
   rintro e w1 ⟨rfl, b1⟩
   have hS1 := hS.mono b1
   have q1 := (hS1.blk 0 rfl).1
   go_wp2_with fail
   refine wp_region_q kR kR ?_
   repeat (first | ((try simp only [hOd]); ((with_reducible refine wpB_loadS (n := 4) (us := mC m ad cap) A_rmach kR wU wU (by assumption) wU wU ?_); (try simp only [Act.put, pA, pB, pC]))) | ((refine wpB_call (.int .i64 P) wU (fun w' => ?_) (fun w' hw' => HP.out w') ?_); (focus (go_simp; done)); (try simp only [Act.put, pA, pB, pC])) | ((refine wpB_call (.bool false) wU (fun w' => ?_) (fun w' hw' => HS.out w' (hR.below (bnext hS1.b hw'))) ?_); (focus (go_simp; done)); (try simp only [Act.put, pA, pB, pC])) |  ((with_reducible refine wpB_load (by first | exact F_int | fail) wU wU (by assumption) wU ?_); (try simp only [Act.put, pA, pB, pC])) | ((with_reducible refine wpB_loadS (n := 2) (us := #[_, _]) (by fail) kR wU wU (by assumption) wU wU ?_); (try simp only [Act.put, pA, pB, pC])) | ((with_reducible refine wpB_loadS (n := 4) (us := #[_, _, _, _]) (by fail) kR wU wU (by assumption) wU wU ?_); (try simp only [Act.put, pA, pB, pC])) | ((refine wpQ_oneG ?_ wU (fun w' => ?_) ?_); rotate_left; (go_simp; rfl); (try simp only [Act.put, pA, pB, pC])))
   refine wpQuiet_nil ?_
   intro w2 hb2
   go_wp2_with fail
   go_ret
   exact ⟨rfl, bnext hS1.b hb2⟩
  ·rw [decide_eq_true h, if_neg (by decide)]
   have hOd : decide (0 ≤ O) = true := decide_eq_true h
   go_enter Tryz.func176, Tryz.ntmps176
   go_wp2_with fail
   refine (HO.out _).mono ?_
   rintro e w1 ⟨rfl, b1⟩
   have hS1 := hS.mono b1
   have q1 := (hS1.blk 0 rfl).1
   go_wp2_with fail
   refine wp_region_q kR kR ?_
   repeat (first | ((try simp only [hOd]); ((with_reducible refine wpB_loadS (n := 4) (us := mC m ad cap) A_rmach kR wU wU (by assumption) wU wU ?_); (try simp only [Act.put, pA, pB, pC]))) | ((refine wpB_call (.int .i64 P) wU (fun w' => ?_) (fun w' hw' => HP.out w') ?_); (focus (go_simp; done)); (try simp only [Act.put, pA, pB, pC])) | ((refine wpB_call (.bool true) wU (fun w' => ?_) (fun w' hw' => HS.out w' (hR.below (bnext hS1.b hw'))) ?_); (focus (go_simp; done)); (try simp only [Act.put, pA, pB, pC])) |  ((with_reducible refine wpB_load (by first | exact F_int | fail) wU wU (by assumption) wU ?_); (try simp only [Act.put, pA, pB, pC])) | ((with_reducible refine wpB_loadS (n := 2) (us := #[_, _]) (by fail) kR wU wU (by assumption) wU wU ?_); (try simp only [Act.put, pA, pB, pC])) | ((with_reducible refine wpB_loadS (n := 4) (us := #[_, _, _, _]) (by fail) kR wU wU (by assumption) wU wU ?_); (try simp only [Act.put, pA, pB, pC])) | ((refine wpQ_oneG ?_ wU (fun w' => ?_) ?_); rotate_left; (go_simp; rfl); (try simp only [Act.put, pA, pB, pC])))
   refine wpQuiet_nil ?_
   intro w2 hb2
   go_wp2_with fail
   go_ret
   exact ⟨rfl, bnext hS1.b hb2⟩
 ·rw [decide_eq_false h, if_neg (by simp)]
  have hOd : decide (0 ≤ O) = false := decide_eq_false h
  go_enter Tryz.func176, Tryz.ntmps176
  go_wp2_with fail
  refine (HO.out _).mono ?_
  rintro e w1 ⟨rfl, b1⟩
  have hS1 := hS.mono b1
  have q1 := (hS1.blk 0 rfl).1
  go_wp2_with fail
  refine wp_region_q kR kR ?_
  repeat (first | ((try simp only [hOd]); ((with_reducible refine wpQ_skip wU ?_); (try simp only [Act.put, pA, pB, pC]))) |  ((with_reducible refine wpB_load (by first | exact F_int | fail) wU wU (by assumption) wU ?_); (try simp only [Act.put, pA, pB, pC])) | ((with_reducible refine wpB_loadS (n := 2) (us := #[_, _]) (by fail) kR wU wU (by assumption) wU wU ?_); (try simp only [Act.put, pA, pB, pC])) | ((with_reducible refine wpB_loadS (n := 4) (us := #[_, _, _, _]) (by fail) kR wU wU (by assumption) wU wU ?_); (try simp only [Act.put, pA, pB, pC])) | ((refine wpQ_oneG ?_ wU (fun w' => ?_) ?_); rotate_left; (go_simp; rfl); (try simp only [Act.put, pA, pB, pC])))
  refine wpQuiet_nil ?_
  intro w2 hb2
  go_wp2_with fail
  go_ret
  exact ⟨rfl, bnext hS1.b hb2⟩
theorem rStep_any (m : MacV) (ad : Option Addr) (cap : Nat) (s : Int) (w : World) (hR : Ints w ad cap m.sw) (hg0 : 1 ≤ m.gears) (hg : m.gears ≤ 16) (h0 : 0 ≤ s) (h1 : s < 4 * m.gears) :
  Calls Tryz.prog 144 #[mV m ad cap, .int .i64 s] w fun r w' => r = .returned (.int .i64 (nextM m s)) ∧ Below w.heap.size w w' := by
 obtain ⟨g, hgq⟩ : ∃ g, g = s / 4 := ⟨_, rfl⟩
 obtain ⟨q, hq⟩ : ∃ q, q = s % 4 := ⟨_, rfl⟩
 have htd : s.tdiv 4 = g := by rw [hgq, Int.tdiv_eq_ediv_of_nonneg h0]
 have htm : s.tmod 4 = q := by rw [hq, Int.tmod_eq_emod_of_nonneg h0]
 have hgb : 0 ≤ g ∧ g < m.gears := by omega
 have hq0 : 0 ≤ q ∧ q < 4 := by omega
 have hrr := rot_rng (m := m) h0 h1
 have hro : rotM m s = 4 * g + (q + (if fwdM m g then 1 else 3)) % 4 := by unfold rotM; rw [hgq, hq]
 have CF := fun w => rForwards_any m ad cap g w hgb.1 (by omega)
 have CO := fun w h => rOver_any m ad cap (rotM m s) w h hg0 hg hrr.1 hrr.2.1
 have hnx : nextM m s = overM m (rotM m s) := rfl
 rw [← hnx] at CO
 obtain ⟨N, hN⟩ : ∃ N, N = nextM m s := ⟨_, rfl⟩
 rw [← hN] at CO ⊢
 have hS := (SL.nil w).box (.cells (mC m ad cap) 27)
 have hcap := hR.le
 have hmx := hR.max
 have hw0 : IntKind.i64.wrap g = g := IntWalk.i64_in _ (by omega)
 cases hf : fwdM m g
 ·rw [hf] at CF hro
  simp only [Bool.false_eq_true, if_false] at hro
  rw [hro] at CO
  have hmd : (q + 3).tmod 4 = (q + 3) % 4 := Int.tmod_eq_emod_of_nonneg (by omega)
  obtain ⟨z, hz⟩ : ∃ z, z = (q + 3) % 4 := ⟨_, rfl⟩
  have hz0 : 0 ≤ z ∧ z < 4 := by omega
  rw [← hz] at hmd CO
  have HF := hid CF; have HO := hid CO
  clear CF CO hro hnx hN hrr hgq hq hz hf
  go_enter Tryz.func144, Tryz.ntmps144
  go_wp2_with fail
  refine (HF.out _).mono ?_
  rintro e w1 ⟨rfl, b1⟩
  have hS1 := hS.mono b1
  have q1 := (hS1.blk 0 rfl).1
  go_wp2_with (with_reducible refine wpList_ldS (n := 4) (us := mC m ad cap) A_rmach kR wU wU (by assumption) wU wU ?_)
  refine (HO.out _ (hR.below hS1.b)).mono ?_
  rintro e w2 ⟨rfl, b2⟩
  go_wp2_with fail
  go_ret
  exact ⟨rfl, bnext hS1.b b2⟩
 ·rw [hf] at CF hro
  simp only [if_true] at hro
  rw [hro] at CO
  have hmd : (q + 1).tmod 4 = (q + 1) % 4 := Int.tmod_eq_emod_of_nonneg (by omega)
  obtain ⟨z, hz⟩ : ∃ z, z = (q + 1) % 4 := ⟨_, rfl⟩
  have hz0 : 0 ≤ z ∧ z < 4 := by omega
  rw [← hz] at hmd CO
  have HF := hid CF; have HO := hid CO
  clear CF CO hro hnx hN hrr hgq hq hz hf
  go_enter Tryz.func144, Tryz.ntmps144
  go_wp2_with fail
  refine (HF.out _).mono ?_
  rintro e w1 ⟨rfl, b1⟩
  have hS1 := hS.mono b1
  have q1 := (hS1.blk 0 rfl).1
  go_wp2_with (with_reducible refine wpList_ldS (n := 4) (us := mC m ad cap) A_rmach kR wU wU (by assumption) wU wU ?_)
  refine (HO.out _ (hR.below hS1.b)).mono ?_
  rintro e w2 ⟨rfl, b2⟩
  go_wp2_with fail
  go_ret
  exact ⟨rfl, bnext hS1.b b2⟩
theorem rPerm_any (m : MacV) (ad : Option Addr) (cap : Nat) (w : World) (hR : Ints w ad cap m.sw) (hg0 : 1 ≤ m.gears) (hg : m.gears ≤ 16) :
  Calls Tryz.prog 147 #[mV m ad cap] w fun r w' => ∃ v, r = .returned v ∧ OwnI w.heap.size w' v (permM m) ∧ Below w.heap.size w w' := by
 have hcap := hR.le
 have hmx := hR.max
 have hl := permM_len m
 obtain ⟨n, hn⟩ : ∃ n : Nat, (4 * m.gears) = n := ⟨(4 * m.gears).toNat, by omega⟩
 rw [hn, Int.toNat_natCast] at hl
 have CS := fun w => rSlots_any m ad cap w (by omega) hg
 rw [hn] at CS
 have CN := fun (k : Nat) w (h : Ints w ad cap m.sw) (hk : k < n) => rStep_any m ad cap k w h hg0 hg (by omega) (by omega)
 have hS := ((SL.nil w).box (.cells (mC m ad cap) 27)).nilS (α := Int) (e := 3) cIntS
 have HS := hid CS; have HN := hid CN; have HL := hid hl
 have hn64 : n ≤ 64 := by omega
 clear CS CN hl hn
 go_enter Tryz.func147, Tryz.ntmps147
 go_wp2_with fail
 go_loopw [4, 3] (fun i v wr => ∃ k : Nat, k ≤ n ∧ i = .int .i64 k ∧ SL w.heap.size w wr [pOwn cInt 1 3 v ((permM m).take k), pBlk w.heap.size (.cells (mC m ad cap) 27)]) (fun i _ _ => n - (intOf i).toNat)
 case atStart => exact ⟨0, by omega, rfl, hS⟩
 case round =>
  clear hS
  obtain ⟨k, hk, rfl, hSr⟩ := hrel
  have q1 := (hSr.blk 1 rfl).1
  go_wp2_with (with_reducible refine wpList_ldS (n := 4) (us := mC m ad cap) A_rmach kR wU wU (by assumption) wU wU ?_)
  refine (HS.out _).mono ?_
  rintro e w1 ⟨rfl, b1⟩
  have hS1 := hSr.mono b1
  have q2 := (hS1.blk 1 rfl).1
  by_cases hlt : k < n
  ·have hs := permM_step m k (by rw [HL.out]; exact hlt)
   have hle : ((permM m).take k).length ≤ 64 := by rw [List.length_take, HL.out]; omega
   have HST := hid hs; clear hs
   go_wp2_with (with_reducible refine wpList_ldS (n := 4) (us := mC m ad cap) A_rmach kR wU wU (by assumption) wU wU ?_)
   refine (HN.out k _ (hR.below hS1.b) hlt).mono ?_
   rintro e w4 ⟨rfl, b4⟩
   have hS4 := hS1.mono b4
   go_wp2_with ((with_reducible refine wpList_pushL (y := (nextM m k)) 0 E_ints wU wU (hS4) wU cIntO ⟨rfl, rfl⟩ (by first | with_unfolding_all rfl | simp) wU (by first | omega | (simp; omega)) (by first | omega | (simp; omega)) ?_); intro v5 w5 hS5)
   exact ⟨⟨k + 1, by omega, by go_num, by rw [HST.out]; exact hS5⟩, by simp [intOf]; omega⟩
  ·have hkn : k = n := by omega
   subst hkn
   have et : (permM m).take k = permM m := List.take_of_length_le (by rw [HL.out]; omega)
   rw [et] at hS1
   clear et
   go_wp2_with fail
   go_ret
   exact ⟨_, rfl, hS1.own 0 rfl, hS1.b⟩
end Go.Proofs.YtglpfpdomnllkaaGreat
