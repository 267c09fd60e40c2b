/- Contracts and plain facts that the claim uses (BsG BpA BxM HvP TkB OpV RfD RlE RwA PwA PwB PwD PwE PwF). Conditions: as each one states. -/
import Derived.Test.YtglpfpdomnllkaaGreatProg
import Derived.WalkKit
import Derived.WalkSpells
import Derived.Maps.AppendAt
import Derived.Deep.Quiet
import Derived.Maps.Own
import Derived.Maps.OwnSet
import Derived.Maps.Views
import Derived.WalkLawsBesides
import Derived.Laws.EntriesVeiled
import Derived.Deep.QuietTactic
import Derived.BigQuiet
import Derived.Deep.RegionHeld3
import Derived.Deep.AppendLies
import Derived.Deep.RegionHeldLaw
import Derived.Deep.RegionLaw
import Derived.RangeFuncNested
import Derived.RangeFuncBound
import Derived.RangeFuncCalls
import Derived.RangeFuncLeaves
import Derived.RangeFuncFrom
import Derived.Shelf.Abstract
import Derived.Shelf.RegionOpen
import Derived.OwnWalkIn
import Derived.TacticsInMore
import Derived.LoopNIn
import Derived.LoopIn
import Derived.Shelf.Strings.Trim
import Derived.Shelf.Strings.SlTrimAscii
import Derived.Shelf.Strings.Repeat
import Derived.Shelf.Strings.OnBuilder
import Derived.Shelf.Strconv.Itoa1
import Derived.Shelf.Strconv.Itoa3
import Derived.Shelf.LaysM
import Derived.Ground.Names2Prog
import Derived.Lib.OthersKept
import Derived.StillTail
import Derived.Laws.Tables
import Derived.IntWalk
import Derived.Laws.CopyOwn
import Derived.BigRegion
import Derived.ChangeAlike
import Derived.Shelf.Bits.Mul64
import Derived.Lib.ItoaLen
import Derived.Lib.ItoaMem
import Derived.Sort.LoopGhostIn
import Derived.Maps.RangeWalk
import Derived.Maps.Ext
import Derived.Deep.LoopGhost
import Derived.Laws.IdiomStrings
import Derived.Sort.QuietThIn
import Derived.Lib.Split
import Derived.Lib.AtoiAll
import Derived.Lib.AppendIntMem
import Derived.Lib.SmallJoins
import Derived.LaidSub
import Derived.Lib.LaidTab
import Derived.Lib.AtoiErrMem
import Derived.Stop.LaidErr
import Derived.ReadAgain
import Derived.ChangeSlices
import Derived.OpenShut
import Derived.ProofKit
import Derived.Deep.DeepHandedRow
import Derived.Deep.SlicePairs
import Derived.Test.YtglpfpdomnllkaaGreatXt01
import Derived.Test.YtglpfpdomnllkaaGreatXt02
import Derived.Test.YtglpfpdomnllkaaGreatXt03
import Derived.Test.YtglpfpdomnllkaaGreatXt04
import Derived.Test.YtglpfpdomnllkaaGreatXt05
import Derived.Test.YtglpfpdomnllkaaGreatXt06
import Derived.Test.YtglpfpdomnllkaaGreatXt07
import Derived.Test.YtglpfpdomnllkaaGreatY7901
import Derived.Test.YtglpfpdomnllkaaGreatY7902
import Derived.Test.YtglpfpdomnllkaaGreatY7903
import Derived.Test.YtglpfpdomnllkaaGreatY7904
import Derived.Test.YtglpfpdomnllkaaGreatY7905
import Derived.Test.YtglpfpdomnllkaaGreatY7906
import Derived.Test.YtglpfpdomnllkaaGreatY7907
set_option linter.all false

namespace Go.Proofs.YtglpfpdomnllkaaGreat
open Go.RowKit
set_option maxHeartbeats 8000000
set_option maxRecDepth 100000
/-- a value that is a normal form. -/
def FormR (w : World) (n : Nat) (v : Value) (f : Int × List (List Int)) : Prop := ∃ a c H, v = .agg #[.int .i64 f.1, .slice a f.2.length c] ∧ Reps cSl 1 w a c H ∧ RowsR w n H f.2
theorem FormR.below {w w' : World} {n : Nat} {v : Value} {f : Int × List (List Int)} (h : FormR w n v f) (hb : Below w.heap.size w w') : FormR w' n v f := by
 obtain ⟨a, c, H, e, r, q⟩ := h
 exact ⟨a, c, H, e, r.below hb, q.below hb⟩
end Go.Proofs.YtglpfpdomnllkaaGreat

namespace Go.Proofs.YtglpfpdomnllkaaGreat
open Go.RowKit
set_option maxHeartbeats 8000000
set_option maxRecDepth 100000
theorem word_rng {n : Nat} {l : List Int} (h : wordE (n : Int) l = 0) : ∀ x ∈ l, 1 ≤ absI x ∧ absI x < (n : Int) := fun x hx => by
 obtain ⟨_, _, _, h4⟩ := wordE_fits h
 have := h4 x hx
 unfold absI
 split <;> omega
theorem bPerm_any (n : Nat) (a : Option Addr) (cap : Nat) (l : List Int) (w : World) (hS : Ints w a cap l) (h : wordE (n : Int) l = 0) :
  Calls Tryz.prog 24 #[.int .i64 n, .slice a l.length cap] w fun r w' => ∃ v, r = .returned (.tuple #[v, .int .i64 0]) ∧ OwnI w.heap.size w' v (permB n l) ∧ Below w.heap.size w w' := by
 obtain ⟨hn1, hn2, hl, _⟩ := wordE_fits h
 have CW := fun w (hS : Ints w a cap l) => CheckWord_any n a cap l w hS (by omega)
 rw [h] at CW
 have HW := hid CW
 have HP := hid (fun w (hS : Ints w a cap l) => perm_any5 a cap n l w (by omega) (by omega) (by omega) (word_rng h) hS)
 have hS0 := SL.nil w
 clear CW h
 go_enter Tryz.func24, Tryz.ntmps24
 go_wp2_with fail
 refine (HW.out _ hS).mono ?_
 rintro e w1 ⟨rfl, b1⟩
 have hS1 := hS0.mono b1
 clear hS0
 go_wp2_with fail
 refine (HP.out _ (hS.below b1)).mono ?_
 rintro e w2 ⟨v2, rfl, ho2, b2⟩
 have hS2 := hS1.call (SL.ofOwn ho2 b2)
 rw [List.append_nil] at hS2
 clear hS1 ho2
 go_wp2_with fail
 go_ret2
 exact ⟨v2, rfl, hS2.own 0 rfl, hS2.b⟩
end Go.Proofs.YtglpfpdomnllkaaGreat

namespace Go.Proofs.YtglpfpdomnllkaaGreat
open Go.RowKit
set_option maxHeartbeats 8000000
set_option maxRecDepth 100000
theorem expL_rng {w : List Int} : ∀ k : Nat, -(k : Int) ≤ expL (w.take k) ∧ expL (w.take k) ≤ k := fun k => by
 induction k with
 | zero => simp [expL]
 | succ k ih =>
  by_cases h : k < w.length
  ·have e : w.take (k + 1) = w.take k ++ [w[k]] := List.take_succ_eq_append_getElem h
   rw [e, expL_snoc]
   have : -1 ≤ sgnI w[k] ∧ sgnI w[k] ≤ 1 := by unfold sgnI; split <;> omega
   omega
  ·rw [List.take_of_length_le (by omega)]
   rw [List.take_of_length_le (by omega)] at ih
   omega
end Go.Proofs.YtglpfpdomnllkaaGreat

namespace Go.Proofs.YtglpfpdomnllkaaGreat
set_option maxRecDepth 100000
theorem link_ok {k : Nat} {v : List Int} (h : LetRng k v) (hl : v.length ≤ 400) : Mx k (linkL k v) ∧ MxB (linkL k v) 1000 := by
 have h2 := sumGo_ok (n := k) (rowL k v).2 v (zeroM k) 0 (fun p hp => by have := rowL_rng h p hp; exact ⟨this.1, this.2.1⟩) (zeroM_mx k) (zeroM_b k)
 rw [signs_link h] at h2
 refine ⟨h2.1, fun a b => ?_⟩
 have h3 := h2.2 a b
 have e : (rowL k v).2.length = v.length := by rw [← List.length_map (f := Prod.fst)]; unfold rowL; rw [cross_fst, seenGo_len]
 rw [e] at h3
 omega
/-- what is known of the sums at each crossing. -/
structure Wov (m : MacV) (l : List Int) (N : Nat) (Lk : Nat → Nat → List (List Int)) (Le : Nat → Nat → Nat) (Ex : Nat → Nat → Int) : Prop where
 le0 : Le 0 0 = 0
 ex0 : Ex 0 0 = 0
 lk0 : Lk 0 0 = zeroM l.length
 leN : Le N 0 = (wrdL m l N).length
 exN : Ex N 0 = expL (wrdL m l N)
 lkN : Lk N 0 = linkL l.length (wrdL m l N)
 leL : ∀ k, Le k (crossM m (atL m l k)).length = Le (k + 1) 0
 exL : ∀ k, Ex k (crossM m (atL m l k)).length = Ex (k + 1) 0
 lkL : ∀ k, Lk k (crossM m (atL m l k)).length = Lk (k + 1) 0
 bd : ∀ k i, k < N → i ≤ (crossM m (atL m l k)).length → Mx l.length (Lk k i) ∧ MxB (Lk k i) 1000 ∧ -1000 ≤ Ex k i ∧ Ex k i ≤ 1000
 st : ∀ k i, k < N → i < (crossM m (atL m l k)).length → Le k i < (wrdL m l N).length ∧ Le k (i + 1) = Le k i + 1 ∧ Ex k (i + 1) = Ex k i + max (-1) (min 1 (atD 0 (wrdL m l N) (Le k i : Nat))) ∧
  ∃ g o u wg : Int, (⟨g, o, u, wg⟩ : CrM) = atD (⟨0, 0, 0, 0⟩ : CrM) (crossM m (atL m l k)) i ∧ (0 ≤ o ∧ o < l.length) ∧ (0 ≤ u ∧ u < l.length) ∧
   (0 ≤ atD 0 (invL (orderM m l)) o ∧ atD 0 (invL (orderM m l)) o < l.length) ∧ (0 ≤ atD 0 (invL (orderM m l)) u ∧ atD 0 (invL (orderM m l)) u < l.length) ∧
   Lk k (i + 1) = addM (Lk k i) (atD 0 (invL (orderM m l)) o) (atD 0 (invL (orderM m l)) u) (max (-1) (min 1 (atD 0 (wrdL m l N) (Le k i : Nat))))
theorem expL_few (w : List Int) : -(w.length : Int) ≤ expL w ∧ expL w ≤ w.length := by
 have := expL_rng (w := w) w.length
 rwa [List.take_length] at this
theorem wov_ok {m : MacV} {l : List Int} {N : Nat} (hf : Fits m l 6 6) (hr : m.ring = false) (hN : N ≤ 24) (hm : meetsM m l N = false) : ∃ Lk Le Ex, Wov m l N Lk Le Ex := by
 have hlk := loadE_zero hf.2.2.2
 have hl6 := hf.2.2.1
 have hw0 : (wvM m l 0).2 = [] := rfl
 have hsh : ∀ k i, k < N → i ≤ (crossM m (atL m l k)).length → LetRng l.length (stC m l k i).2 ∧ (stC m l k i).2.length ≤ 200 := fun k i hk hi => by
  refine ⟨(rowIs_stC hr hlk hm (by omega) (rowIs_wv hr hlk hm k (by omega)) i hi).2, ?_⟩
  have hq := (wrdE_ok hf.2.2.2 hr (by omega) (Int.natCast_nonneg N) (by omega) hm).2
  have hq : (wvM m l N).2.length ≤ 144 := hq
  rcases Nat.eq_zero_or_pos i with h0 | h0
  ·subst h0
   show (wvM m l k).2.length ≤ 200
   have := wvM_few hlk k
   have h3 : l.length * k ≤ 6 * 24 := Nat.mul_le_mul (by omega) (by omega)
   omega
  ·obtain ⟨i, rfl⟩ : ∃ j, i = j + 1 := ⟨i - 1, by omega⟩
   obtain ⟨a, b, -⟩ := woven_step hr hlk hm (j := k) (i := i) (N := N) (by omega) hk (by omega)
   rw [b, List.length_append, List.length_singleton]
   omega
 refine ⟨fun k i => linkL l.length (stC m l k i).2, fun k i => (stC m l k i).2.length, fun k i => expL (stC m l k i).2, rfl, rfl, rfl, rfl, rfl, rfl, fun k => ?_, fun k => ?_, fun k => ?_, fun k i hk hi => ?_, fun k i hk hi => ?_⟩
 ·show (stC m l k _).2.length = (wvM m l (k + 1)).2.length
  rw [stC_last]
 ·show expL (stC m l k _).2 = expL (wvM m l (k + 1)).2
  rw [stC_last]
 ·show linkL _ (stC m l k _).2 = linkL _ (wvM m l (k + 1)).2
  rw [stC_last]
 ·obtain ⟨a, b⟩ := hsh k i hk hi
  have h1 := link_ok a (by omega)
  have h2 := expL_few (stC m l k i).2
  exact ⟨h1.1, h1.2, by omega, by omega⟩
 ·obtain ⟨a, b, c, y, hy, ho, hu, hao, hau, hl⟩ := woven_step hr hlk hm (j := k) (i := i) (N := N) (by omega) hk hi
  have hs := sgn_eq c
  refine ⟨a, by rw [b, List.length_append, List.length_singleton], ?_, y.gear, y.over, y.under, y.going, hy, ho, hu, hao, hau, ?_⟩
  ·try dsimp only
   rw [b, expL_snoc]; exact congrArg _ hs.symm
  ·try dsimp only
   rw [hl]; exact congrArg _ hs.symm
end Go.Proofs.YtglpfpdomnllkaaGreat

namespace Go.Proofs.YtglpfpdomnllkaaGreat
open Go.RowKit
set_option maxHeartbeats 8000000
set_option maxRecDepth 100000
/-- what the carriers that pass over have, up to a step, and some crossings of the next one. -/
noncomputable def overTo (m : MacV) (C l : List Int) : Nat → List Int
 | 0 => []
 | j + 1 => overTo m C l j ++ (crossM m (atL m l j)).map fun y => atD 0 C y.over
noncomputable def overAt (m : MacV) (C l : List Int) (k i : Nat) : List Int := overTo m C l k ++ ((crossM m (atL m l k)).take i).map fun y => atD 0 C y.over
theorem overAt_zero (m : MacV) (C l : List Int) (k : Nat) : overAt m C l k 0 = overTo m C l k := by simp [overAt]
theorem overAt_last (m : MacV) (C l : List Int) (k : Nat) : overAt m C l k (crossM m (atL m l k)).length = overTo m C l (k + 1) := by unfold overAt; rw [List.take_length]; rfl
theorem overAt_succ (m : MacV) (C l : List Int) (k i : Nat) (h : i < (crossM m (atL m l k)).length) : overAt m C l k (i + 1) = overAt m C l k i ++ [atD 0 C (atD (⟨0, 0, 0, 0⟩ : CrM) (crossM m (atL m l k)) i).over] := by
 unfold overAt
 rw [List.take_succ_eq_append_getElem h, List.map_append, ← List.append_assoc]
 congr 2
 simp [atD, h]
theorem overTo_len {m : MacV} (hg : m.gears ≤ 16) (C l : List Int) : ∀ k, (overTo m C l k).length ≤ 48 * k
 | 0 => by simp [overTo]
 | k + 1 => by
   have h1 := overTo_len hg C l k
   have h2 := crossM_len m (atL m l k)
   rw [overTo, List.length_append, List.length_map]
   omega
abbrev wC (m : MacV) (ad : Option Addr) (cap : Nat) (al : Option Addr) (l0 : List Int) (cl : Nat) (ac : Option Addr) (C : List Int) (cc : Nat) (N : Int) : Array Value := #[.bool m.ring, .int .i64 m.gears, .int .i64 m.turn, .slice ad m.sw.length cap, .slice al l0.length cl, .slice ac C.length cc, .int .i64 N]
theorem tover_any (m : MacV) (ad al ac a2 : Option Addr) (cap cl cc c2 : Nat) (l0 C l : List Int) (N : Nat) (w : World) (hR : Ints w ad cap m.sw) (hCr : Ints w ac cc C) (hL : Ints w a2 c2 l) (hI : InI m.gears) (hf : Fits m l 6 6) (hr : m.ring = false) (h0 : 0 < l.length) (hN : N ≤ 24) (hme : meetsM m l N = false) (hCl : C.length = l.length) :
  Calls Tryz.prog 18 #[.agg (wC m ad cap al l0 cl ac C cc N), .slice a2 l.length c2] w fun r w' => ∃ v1 v2, r = .returned (.tuple #[v1, v2]) ∧ SL w.heap.size w w' [pOwn cInt 1 3 v1 (overTo m C l N), pOwn cInt 1 3 v2 (atL m l N)] := by
 have he := hf.2.2.2
 have hlk := loadE_zero he
 have hl6 : l.length ≤ 6 := by have := hf.2.2.1; omega
 have hlo := hlk.ok.lo
 have hhi := hlk.ok.hi
 have W9 := wv_ok hf hr (A := N / 2) (B := N - N / 2) (N := N) (by omega) (by omega) (by omega) hme
 obtain ⟨Lk, Le, Ex, V9⟩ := wov_ok hf hr hN hme
 have KL : ∀ (a : Option Addr) (c : Nat) (q : List Int), ChkL m ad cap a c q := fun a c q => CheckLoad_any m ad cap a c q fun w h => CheckMachine_any m ad cap w h hI
 have CX : ∀ k : Nat, k ≤ N → ∀ (a : Option Addr) (c : Nat) w, Ints w ad cap m.sw → Ints w a c (atL m l k) → Calls Tryz.prog 30 #[mV m ad cap, .slice a (atL m l k).length c] w fun r w' => ∃ v, r = .returned (.tuple #[v, .int .i64 0]) ∧ Own cX 3 w.heap.size 58 w' v (crossM m (atL m l k)) ∧ Below w.heap.size w w' := by
  intro k hk a c w h h2; have h3 := mCrossings_any m ad cap a c (atL m l k) w h h2 (KL _ _ _); rw [W9.crE k hk, if_pos rfl] at h3; exact h3
 have CS : ∀ k : Nat, ∀ (a : Option Addr) (c : Nat) w, Ints w ad cap m.sw → Ints w a c (atL m l k) → Calls Tryz.prog 31 #[mV m ad cap, .slice a (atL m l k).length c, .int .i64 1] w fun r w' => ∃ v, r = .returned (.tuple #[v, .int .i64 0]) ∧ OwnI w.heap.size w' v ((atL m l (k + 1))) ∧ Below w.heap.size w w' := by
  intro k a c w h h2; have h3 := mSteps_any m ad cap a c (atL m l k) 1 w h h2 (KL _ _ _); rw [W9.st1 k, if_pos rfl, W9.map1 k] at h3; exact h3
 have CRL : ∀ k : Nat, ∀ (a : Option Addr) (c : Nat) w, Ints w a c (atL m l k) → Calls Tryz.prog 9 #[mV m ad cap, .slice a (atL m l k).length c] w fun r w' => r = .returned (.int .i64 0) ∧ Below w.heap.size w w' := by
  intro k a c w h; have h3 := rCheckLoad_any m ad cap a c (atL m l k) w h hlo hhi; rw [W9.chk k] at h3; exact h3
 have hal : ∀ k, (atL m l k).length = l.length := fun k => atL_len m l k
 have hcl := fun (k : Nat) => crossM_len m (atL m l k)
 have hstp : ∀ k i : Nat, k < N → i < (crossM m (atL m l k)).length → ∃ g o u wg : Int, (⟨g, o, u, wg⟩ : CrM) = atD (⟨0, 0, 0, 0⟩ : CrM) (crossM m (atL m l k)) i ∧ (0 ≤ o ∧ o < C.length) ∧ overAt m C l k (i + 1) = overAt m C l k i ++ [atD 0 C o] := fun k i hk hi => by
  obtain ⟨-, -, -, g, o, u, wg, hx, ho, -⟩ := V9.st k i hk hi
  refine ⟨g, o, u, wg, hx, by omega, ?_⟩
  rw [overAt_succ m C l k i hi, ← hx]
 have hbd : ∀ k i : Nat, k ≤ N → i ≤ (crossM m (atL m l k)).length → (overAt m C l k i).length ≤ 10000 := fun k i hk hi => by
  have h1 := overTo_len hhi C l k
  have h2 := crossM_len m (atL m l k)
  unfold overAt
  rw [List.length_append, List.length_map, List.length_take]
  omega
 have HDS := hid (fun k : Nat => (show (((atL m l k).length : Int) != (l.length : Int)) = false by simp [hal]))
 have HX := hid CX; have HS := hid CS; have HRL := hid CRL; have HAL := hid hal; have HCL := hid hcl; have HST := hid hstp; have HBD := hid hbd
 have HCC := hid hCl
 have hS0 := (SL.nil w).box (.cells (wC m ad cap al l0 cl ac C cc N) 26)
 have hlc := hL.le
 have hlm := hL.max
 have hcc := hCr.le
 clear CX CS CRL hal hcl hstp hbd W9 V9 KL hlk he hf hr hI hme hCl hlo
 go_enter Tryz.func18, Tryz.ntmps18
 have hB1 := hS0.call (SL.ofOwn (own_newN (e := 3) (w := (w.alloc (.cells (wC m ad cap al l0 cl ac C cc N) 26))) cIntS [] 0 rfl (by decide) #[] rfl (Nat.le_refl _) rfl) (bal (Below.refl _ _) _))
 simp only [List.cons_append, List.nil_append, World.size_alloc] at hB1
 go_wp2_with (first | ((with_reducible refine wpList_appL 0 E_ints wU wU (hB1) wU ((hL.below hB1.b)) (rfl) cIntO (by first | omega | (simp; omega)) (by first | omega | (simp; omega)) ?_); intro vC wC_ hC1) | (with_reducible refine wpList_ldB F_int wU wU (hC1.blk 1 rfl).1 wU ?_))
 simp only [List.set_cons_zero, List.nil_append] at hC1
 obtain ⟨aC, cC, rfl, _⟩ := hC1.slice 0 rfl
 have hC2 := hC1.nilS (α := Int) (e := 3) cIntS
 clear hB1 hS0 hC1
 go_loopw [19, 6, 7] (fun iv ov nv wr => ∃ k : Nat, k ≤ N ∧ iv = .int .i64 k ∧ SL w.heap.size w wr [pOwn cInt 1 3 ov (overAt m C l k 0), pOwn cInt 1 3 nv ((atL m l k)), pBlk w.heap.size (.cells (wC m ad cap al l0 cl ac C cc N) 26)]) (fun iv _ _ _ => N - (intOf iv).toNat)
 case atStart => exact ⟨0, by omega, rfl, by rw [overAt_zero, atL_zero]; exact hC2⟩
 case round =>
  clear hC2
  obtain ⟨k, hk, rfl, hSr⟩ := hrel
  obtain ⟨aN, cN, rfl, _⟩ := hSr.slice 1 rfl
  obtain ⟨aO, cO, rfl, _⟩ := hSr.slice 0 rfl
  have qx := (hSr.blk 2 rfl).1
  by_cases hlt : k < N
  ·as_aux_lemma =>
   have HXk := hid (HX.out k hk)
   have HCk := HCL.out k
   have HBk := fun i hi => HBD.out k i hk hi
   have HSk := fun i hi => HST.out k i hlt hi
   have hLk := overAt_last m C l k
   have hL2 := overAt_zero m C l (k + 1)
   obtain ⟨cs, hcs⟩ : ∃ cs, cs = crossM m (atL m l k) := ⟨_, rfl⟩
   rw [← hcs] at HXk HCk hLk
   simp only [← hcs] at HSk HBk
   have hc48 : cs.length ≤ 48 := by omega
   have HB := hid HBk; have HSS := hid HSk; have HLk := hid hLk; have HL2 := hid hL2
   clear hcs HCk HBk HSk hLk hL2
   go_wp2_with (with_reducible refine wpList_ldS (n := 4) (us := mC m ad cap) A_mach kR wU wU (by assumption) wU wU ?_)
   refine (HXk.out aN cN _ (hR.below hSr.b) (hSr.rd 1 rfl)).mono ?_
   rintro e w21 ⟨v21, rfl, ho21, b21⟩
   have hS21 := hSr.call (SL.ofOwn ho21 b21)
   simp only [List.cons_append, List.nil_append] at hS21
   clear ho21 b21 hSr qx
   obtain ⟨aX, cX_, rfl, _⟩ := hS21.slice 0 rfl
   have qx := (hS21.blk 3 rfl).1
   go_wp2_with (with_reducible refine wpList_ldS (n := 4) (us := mC m ad cap) A_mach kR wU wU (by assumption) wU wU ?_)
   refine (HS.out k aN cN _ (hR.below hS21.b) (hS21.rd 2 rfl)).mono ?_
   rintro e w22 ⟨v22, rfl, ho22, b22⟩
   have hS22 := hS21.call (SL.ofOwn ho22 b22)
   simp only [List.cons_append, List.nil_append] at hS22
   clear ho22 b22 hS21 qx
   obtain ⟨aS, cS, rfl, _⟩ := hS22.slice 0 rfl
   have qx := (hS22.blk 4 rfl).1
   have dS := HDS.out (k + 1)
   go_wp2_with (with_reducible refine wpList_ldS (n := 4) (us := mC m ad cap) A_mach kR wU wU (by assumption) wU wU ?_)
   refine (HRL.out (k + 1) aS cS _ (hS22.rd 0 rfl)).mono ?_
   rintro e w23 ⟨rfl, b23⟩
   have hS23 := hS22.mono b23
   clear b23 hS22 qx
   go_wp2_with fail
   clear dS
   go_loopw [57, 6] (fun jv ov wq => ∃ i : Nat, i ≤ cs.length ∧ jv = .int .i64 i ∧ SL w.heap.size w wq [pOwn cInt 1 3 (.slice aS (atL m l (k + 1)).length cS) ((atL m l (k + 1))), pOwn cX 3 58 (.slice aX cs.length cX_) cs, pOwn cInt 1 3 ov (overAt m C l k i), pOwn cInt 1 3 (.slice aN (atL m l k).length cN) ((atL m l k)), pBlk w.heap.size (.cells (wC m ad cap al l0 cl ac C cc N) 26)]) (fun jv _ _ => cs.length - (intOf jv).toNat)
   case atStart => exact ⟨0, by omega, rfl, hS23⟩
   case round =>
    clear hS23
    obtain ⟨i, hi, rfl, hSq⟩ := hrel
    by_cases hic : i < cs.length
    ·obtain ⟨xg, xo, xu, xw, hx, ⟨xo0, xo1⟩, hnx⟩ := HSS.out i hic
     have hbd := HB.out i (by omega)
     obtain ⟨OV, hOV⟩ : ∃ OV, OV = overAt m C l k i := ⟨_, rfl⟩
     rw [← hOV] at hSq hnx hbd
     have HX2 := hid hx; have HNX := hid hnx
     have hXr := hSq.rd 1 rfl
     have hSc := hSq.box (.cells #[.int .i64 xg, .int .i64 xo, .int .i64 xu] 58)
     have hCc := hCr.below hSc.b
     have d0 : decide (xo < 0) = false := decide_eq_false (by omega)
     have d1 : decide ((C.length : Int) ≤ xo) = false := decide_eq_false (by omega)
     obtain ⟨aV, cV, rfl, _⟩ := hSq.slice 2 rfl
     clear hx hnx hOV
     have q1 := (hSc.blk 0 rfl).1
     have q2 := (hSc.blk 5 rfl).1
     go_wp2_with (first | ((with_reducible refine wpList_idxS _ ⟨0, 0, 0, 0⟩ E_xs A_xs cX1 wU wU (hXr) oD oD (fun _ => wU) (fun _ => ?_)); rw [← HX2.out]) | (with_reducible refine wpList_ldB F_sl wU wU (by assumption) wU ?_) | (with_reducible refine wpList_ldB (by first | exact F_int | fail) wU wU (by assumption) wU ?_) | (with_reducible refine wpList_idx _ 0 E_ints F_int cInt1 wU wU (hCc) oD oD (fun _ => wU) (fun _ => ?_)) | ((with_reducible refine wpList_pushL (y := (atD 0 C xo)) 3 E_ints wU wU (hSc) wU cIntO ⟨rfl, rfl⟩ (by first | with_unfolding_all rfl | simp) wU (by first | omega | (simp; omega)) (by first | omega | (simp; omega)) ?_); intro v5 w5 hS5))
     have hS6 := hS5.tail
     rw [← HNX.out] at hS6
     exact ⟨⟨i + 1, by omega, by go_num, hS6⟩, by simp [intOf]; omega⟩
    ·have hic2 : cs.length = i := by omega
     subst hic2
     rw [HLk.out, ← HL2.out] at hSq
     have hS30 := hSq.pick [2, 0, 4] (by decide) [_, _, _] rfl
     have hnc : ¬ ((cs.length : Int) < (cs.length : Int)) := by omega
     clear hic hi hSq
     go_wp2_with fail
     exact ⟨⟨k + 1, by omega, by go_num, hS30⟩, by simp [intOf]; omega⟩
  ·have hkN : k = N := by omega
   rw [hkN, overAt_zero] at hSr
   rw [hkN, overAt_zero]
   have hfin := hSr.pick [0, 1] (by decide) [_, _] rfl
   have hkn : ¬ ((k : Int) < (N : Int)) := by omega
   clear hSr qx hlt hk
   go_wp2_with fail
   go_ret2
   exact ⟨_, _, rfl, hfin⟩
end Go.Proofs.YtglpfpdomnllkaaGreat

namespace Go.Proofs.YtglpfpdomnllkaaGreat
open Go.RowKit Go.ChangeShapes Go.WideShapes Go.ChangeAt Go.Joins Go.Deep
set_option maxRecDepth 100000
theorem array7 {α : Type} {cs : Array α} (h : cs.size = 7) : ∃ c0 c1 c2 c3 c4 c5 c6, cs = #[c0, c1, c2, c3, c4, c5, c6] := by
 obtain ⟨l⟩ := cs
 match l, h with
 | [c0, c1, c2, c3, c4, c5, c6], _ => exact ⟨c0, c1, c2, c3, c4, c5, c6, rfl⟩
section
variable {H : Type} {enc : TypeId × Value → H} {W : World}
theorem open_ints1 {n : Nat} {v : Value} {y : DataW H × List MemPlace} (h : DataW.trod enc Tryz.prog W 0 (fun _ => true) true n 22 [v] = some y) :
  ∃ (ad : Option Addr) (cap : Nat) (l : List Int), v = .slice ad l.length cap ∧ Ints W ad cap l ∧ ∀ x ∈ l, InI x := by
 rcases open_ints Tryz.underlying22 Tryz.underlying3 cellsInt h with ⟨hcs, _⟩ | ⟨a, len', cap', zs, hcs, _, hl, hm, hz, _, hcell, hwz⟩
 ·cases hcs
  exact ⟨none, 0, [], rfl, ints_nil W, fun x hx => by cases hx⟩
 ·cases hcs
  simp only [if_true] at hz
  have hlen : (zs.take len').length = len' := by simp; omega
  exact ⟨some a, cap', zs.take len', by rw [hlen], ints_of_cells hl hm (by omega) hcell, fun x hx => inI_wf (hwz x (List.mem_of_mem_take hx))⟩
theorem open_wovA {r : Reach} {b0 : Nat} {v : Value} {d : DataW H} {ps : List MemPlace} (hval : Value.okWide Tryz.prog W r b0 26 v) (h : DataW.Trod enc Tryz.prog W 0 (fun _ => true) true 26 v d ps) :
  ∃ (m : MacV) (ad al ac : Option Addr) (cap cl cc : Nat) (l C : List Int) (n : Int), v = .agg (wC m ad cap al l cl ac C cc n) ∧ Ints W ad cap m.sw ∧ Ints W al cl l ∧ Ints W ac cc C ∧ InI m.gears := by
 obtain ⟨cs, rfl, hsz⟩ := okWide_struct Tryz.underlying26 hval
 have k7 : Tryz.prog.cellsOf 26 = 7 := by kernel_rfl
 obtain ⟨c0, c1, c2, c3, c4, c5, c6, rfl⟩ := array7 (hsz.trans k7)
 obtain ⟨fuel, hf⟩ := h
 obtain ⟨y0, y1, y2, y3, n, _, _, h0, h1, h2, h3⟩ := trod_struct4 Tryz.underlying26 hf
 have k4 : Tryz.prog.cellsOf 24 = 4 := by kernel_rfl
 have ks : Tryz.prog.cellsOf 22 = 1 := by kernel_rfl
 have ki : Tryz.prog.cellsOf 3 = 1 := by kernel_rfl
 have kb : Tryz.prog.cellsOf 4 = 1 := by kernel_rfl
 have h0' : DataW.trod enc Tryz.prog W 0 (fun _ => true) true n 24 [c0, c1, c2, c3] = some y0 := by simpa [Value.cells, k4] using h0
 have h1' : DataW.trod enc Tryz.prog W 0 (fun _ => true) true n 22 [c4] = some y1 := by simpa [Value.cells, ks] using h1
 have h2' : DataW.trod enc Tryz.prog W 0 (fun _ => true) true n 22 [c5] = some y2 := by simpa [Value.cells, ks] using h2
 have h3' : DataW.trod enc Tryz.prog W 0 (fun _ => true) true n 3 [c6] = some y3 := by simpa [Value.cells, ki] using h3
 obtain ⟨z0, z1, z2, z3, n', _, _, g0, g1, g2, g3⟩ := trod_struct4 Tryz.underlying24 h0'
 have g0' : DataW.trod enc Tryz.prog W 0 (fun _ => true) true n' 4 [c0] = some z0 := by simpa [kb] using g0
 have g1' : DataW.trod enc Tryz.prog W 0 (fun _ => true) true n' 3 [c1] = some z1 := by simpa [ki] using g1
 have g2' : DataW.trod enc Tryz.prog W 0 (fun _ => true) true n' 3 [c2] = some z2 := by simpa [ki] using g2
 have g3' : DataW.trod enc Tryz.prog W 0 (fun _ => true) true n' 22 [c3] = some z3 := by simpa [ks] using g3
 obtain ⟨b, e0, _⟩ := DataW.trod_bool Tryz.underlying4 g0'
 obtain ⟨x, e1, _, w1⟩ := DataW.trod_int Tryz.underlying3 g1'
 obtain ⟨y, e2, _, w2⟩ := DataW.trod_int Tryz.underlying3 g2'
 obtain ⟨s, e3, _, w3⟩ := DataW.trod_int Tryz.underlying3 h3'
 obtain ⟨ad, cap, sw, rfl, hR, _⟩ := open_ints1 g3'
 obtain ⟨al, cl, l, rfl, hL, _⟩ := open_ints1 h1'
 obtain ⟨ac, cc, C, rfl, hC, _⟩ := open_ints1 h2'
 cases e0; cases e1; cases e2; cases e3
 exact ⟨⟨b, x, y, sw⟩, ad, al, ac, cap, cl, cc, l, C, s, rfl, hR, hL, hC, inI_wf w1⟩
end
end Go.Proofs.YtglpfpdomnllkaaGreat

namespace Go.Proofs.YtglpfpdomnllkaaGreat
open Go.RowKit
set_option maxRecDepth 100000
theorem SL.put {B : Nat} {w0 w : World} {L : List Pc} {k : Nat} {o : Obj} (h : SL B w0 w L) (i : Nat) (hi : L[i]? = some (pBlk k o)) (o' : Obj) : SL B w0 (w.putObj k o') (L.set i (pBlk k o')) := by
 obtain ⟨b, ⟨rfl, h1⟩, h3, h4⟩ := h.upd i hi
 exact h4 _ _ (some k) (grownBy_putObj' _ _ _) ⟨rfl, World.putObj_heap_same (Array.getElem?_eq_some_iff.1 h1).1⟩ (.inl rfl)
/-- the contract of such an iterator: R0 are the pieces that it finds and leaves, Yp x those that a yield of x hands over. -/
def SeqPcs {α : Type} (F : Fence) (n : Nat) (P : Program) (g : Nat) (lb : Array Value) (encs : α → Array Value) (Yp : α → List Pc) (S : List α → Prop) (N : Nat) (R0 : List Pc) (B : Nat) (w0 : World) : Prop :=
 ∀ (σ : Type) (l : Nat) (Inv : List α → σ → Prop) (pcs : σ → List Pc) (Rest : List Pc) (W : World) (s0 : σ),
  (∀ pre x s R W1, Inv pre s → SL B w0 W1 (pcs s ++ (Yp x ++ (R ++ Rest))) → pre.length < N → YieldAt F (n - 1) P l (encs x) W1 fun e W' => e = .returned (.bool true) ∧ ∃ s', Inv (pre ++ [x]) s' ∧ SL B w0 W' (pcs s' ++ (R ++ Rest))) →
  Inv [] s0 → SL B w0 W (pcs s0 ++ (R0 ++ Rest)) → CallsIn F n P g (#[.func (.yield l) #[] #[]] ++ lb) W fun e W' => (∃ v, e = .returned v) ∧ ∃ xs s, S xs ∧ Inv xs s ∧ SL B w0 W' (pcs s ++ (R0 ++ Rest))
section
variable {F : Fence} {n : Nat} {P : Program}
theorem rangeFunc_pcs {α σ : Type} {g : Operand} {ps : Array Tmp} {assign body : Code} {Q : Exit → Act → World → Prop} {a : Act} {w : World}
  (hro : F.round = none) (h1 : 1 ≤ n) {gf : Nat} {lb : Array Value} (hg : a.eval g = .func (.func gf) #[] lb) (hFg : F.fn gf) (eg : ∀ args w, (callFunc gf args).run P w = .ok (.enter gf args) w)
  {encs : α → Array Value} {Yp : α → List Pc} {S : List α → Prop} {N : Nat} {R0 : List Pc} {B : Nat} {w0 : World} (hseq : SeqPcs F (n - 1) P gf lb encs Yp S N R0 B w0) (hps : ∀ x, (encs x).size = ps.size)
  (Inv : List α → σ → Prop) (pcs : σ → List Pc) (s0 : σ) (h0 : Inv [] s0) (hS0 : SL B w0 w (pcs s0 ++ R0))
  (hround : ∀ (l : Nat) (pre : List α) (x : α) (s : σ) (R : List Pc) (W : World), Inv pre s → SL B w0 W (pcs s ++ (Yp x ++ R)) → pre.length < N →
   assign.wpIn (F.inRound l) (n - 1 - 1) P (Exit.then (fun a1 W1 => ∃ K1, SL B w0 W1 (K1 ++ R) ∧ ∀ R2 W2, SL B w0 W2 (K1 ++ R2) →
    body.wpIn (F.inRound l) (n - 1 - 1) P (fun e _ W3 => e = .normal ∧ ∃ s', Inv (pre ++ [x]) s' ∧ SL B w0 W3 (pcs s' ++ R2)) a1 W2) (fun _ _ _ => False)) { tmps := (ps.zip (encs x)).foldl (fun t (p, v) => t.setIfInBounds p v) a.tmps, defers := [] } W)
  (hdone : ∀ (D : Nat) (xs : List α) (s : σ) (W : World), w.heap.size ≤ D → S xs → Inv xs s → SL B w0 W (pMark D :: (pcs s ++ R0)) → Q .normal { a with defers := { target := .collected D, args := #[] } :: a.defers } W) :
  (Code.rangeFunc g ps assign body).wpIn F n P Q a w := by
 refine wpIn_rangeFunc ?_
 intro fn hfn
 rw [hro]
 obtain ⟨rec, hrec⟩ : ∃ rec : LoopState → Option Code → Loop, rec = fun st pe => { state := st, pending := pe, fn, tmps := a.tmps, params := ps, assign, body, defers := w.heap.size } := ⟨_, rfl⟩
 obtain ⟨W1, hW1⟩ : ∃ W1, (w.alloc (.deferred (some []))).alloc (.loop (rec .ready none)) = W1 := ⟨_, rfl⟩
 have hS1 : SL B w0 W1 (pcs s0 ++ (R0 ++ [pBlk (w.heap.size + 1) (.loop (rec .ready none)), pMark w.heap.size])) := by
  have h := (hS0.box (.deferred (some []))).box (.loop (rec .ready none))
  simp only [World.size_alloc, hW1] at h
  have h2 : SL B w0 W1 ((pcs s0 ++ R0) ++ [pBlk (w.heap.size + 1) (.loop (rec .ready none)), pMark w.heap.size]) := SL.comm (K := [pBlk (w.heap.size + 1) (.loop (rec .ready none)), pMark w.heap.size]) h
  rwa [List.append_assoc] at h2
 refine ⟨w.heap.size + 1, [{ target := .collected w.heap.size, args := #[] }], W1, { target := .fn (.func gf) lb, args := #[.func (.yield (w.heap.size + 1)) #[] #[]] }, W1, gf,
  #[.func (.yield (w.heap.size + 1)) #[] #[]] ++ lb, W1, ?_, ?_, ?_, ?_, fun _ => h1, ?_⟩
 ·rw [← hW1, hrec]; exact run_enterLoop_outer _ _ _ _ _
 ·simp only [resolve, hg]
  simp [go_sem]
 ·intro f' hf'; simp [Target.leads] at hf'; subst hf'; exact hFg
 ·simp [invoke, go_sem, eg]
 ·refine (hseq σ (w.heap.size + 1) Inv pcs [pBlk (w.heap.size + 1) (.loop (rec .ready none)), pMark w.heap.size] W1 s0 ?_ h0 hS1).mono ?_
  ·intro pre x s R W hi hS hlen
   have front : ∀ (K : List Pc) (o : Obj) (V : World), SL B w0 V (K ++ (R ++ [pBlk (w.heap.size + 1) o, pMark w.heap.size])) → SL B w0 V ([pBlk (w.heap.size + 1) o, pMark w.heap.size] ++ (K ++ R)) := fun K o V h => by
    rw [← List.append_assoc] at h
    exact h.comm
   have back : ∀ (K : List Pc) (o : Obj) (V : World), SL B w0 V ([pBlk (w.heap.size + 1) o, pMark w.heap.size] ++ (K ++ R)) → SL B w0 V (K ++ (R ++ [pBlk (w.heap.size + 1) o, pMark w.heap.size])) := fun K o V h => by
    have := h.comm
    rwa [List.append_assoc] at this
   have hl := ((front (pcs s ++ Yp x) _ _ (by rw [List.append_assoc]; exact hS)).blk 0 rfl).1
   have hy := run_yield (P := P) (args := encs x) hl (by rw [hrec]; exact hps x)
   rw [hrec] at hy
   refine ⟨fn, _, assign, body, hy, roundIn_of_wpIn hfn (wpIn_mono (hround _ pre x s _ W hi hS hlen) ?_)⟩
   clear hy
   intro e a1 Wa hp
   cases e with
   | normal =>
    obtain ⟨K1, hSa, hbody⟩ := hp
    have hFa := front K1 _ _ hSa
    have hl' := (hFa.blk 0 rfl).1
    refine ⟨_, run_beginRound hl' (by rw [hrec]), ?_⟩
    have hF2 := hFa.put 0 rfl (.loop { rec .ready none with state := .busy })
    refine wpIn_mono (hbody _ _ (back K1 _ _ hF2)) ?_
    rintro e a3 W3 ⟨rfl, s', hi3, hS3⟩
    have hF3 := front (pcs s') _ _ hS3
    have hl3 := (hF3.blk 0 rfl).1
    have hr := run_endRound (P := P) none hl3
    rw [hrec] at hr
    refine ⟨_, _, hr, rfl, s', hi3, ?_⟩
    have hF4 := hF3.put 0 rfl (.loop (rec .ready none))
    rw [hrec] at hF4 ⊢
    exact back (pcs s') _ _ hF4
   | _ => exact hp.elim
  ·rintro e W2 ⟨⟨v, rfl⟩, xs, s, hSx, hi, hS2⟩
   have hF : SL B w0 W2 ([pBlk (w.heap.size + 1) (.loop (rec .ready none)), pMark w.heap.size] ++ (pcs s ++ R0)) := by
    rw [← List.append_assoc] at hS2
    exact hS2.comm
   have hl := (hF.blk 0 rfl).1
   have hr := run_endLoop (P := P) hl (by rw [hrec]; simp)
   rw [hrec] at hr
   exact ⟨none, _, hr, hdone _ xs s _ (Nat.le_refl _) hSx hi (SL.tail (hF.put 0 rfl _))⟩
end
end Go.Proofs.YtglpfpdomnllkaaGreat

namespace Go.Proofs.YtglpfpdomnllkaaGreat
open Go.RowKit
set_option maxRecDepth 100000
section
variable {P : Program} {n : Nat}
theorem rowsW {row : String} {args : Array Value} {w : World} {R : Value → World → Prop} (h : Rows P row args w R) : RowsIn Fence.wide n P row args w R := fun c cs _ =>
 let ⟨v, w', r, s⟩ := h c cs; ⟨v, w', r, stepsIn_wide.2 s⟩
theorem oper_wpW {o : Oper} {a : Act} {w : World} {K : Act → World → Prop} {Q Q' : Exit → Act → World → Prop} (hnd : ∀ c, o.op ≠ .defer c) (hQ : ∀ c a w, Q (.panic c) a w → Q' (.panic c) a w) (hL : LetsOut Q → LetsOut Q')
  (h : o.wp P a w K Q) : o.wpIn Fence.wide n P a w K Q' := by
 refine ⟨fun _ _ => trivial, ?_⟩
 unfold Oper.wp at h
 rw [Oper.semAt_plain _ _ _ hnd]
 generalize (execOp a.eval o).run P w = res at h ⊢
 cases res with
 | ok x w' =>
  cases x with
  | value v => exact h
  | skip => exact h
  | defer d => exact h
  | enter f args =>
   refine ⟨fun h => (by simp [Fence.wide] at h), callsIn_wide.2 (Calls.mono h fun e w'' he => ?_)⟩
   cases e with
   | returned v => exact he
   | panicked c => exact hQ _ _ _ he
   | outgrown => exact hL he
  | row row args => exact ⟨fun h => (by simp [Fence.wide] at h), rowsW h⟩
  | _ => exact absurd h (by simp [Oper.upon])
 | halt x w' =>
  cases x with
  | panic v => exact hQ _ _ _ h
  | _ => exact absurd h (by simp [Oper.upon])
theorem wpListW {ops : Array Oper} {Q Q' : Exit → Act → World → Prop} (hQ : ∀ e a w, Q e a w → Q' e a w) (hL : ¬ LetsOut Q) :
  ∀ (l : List Oper) (a : Act) (w : World), l.all Oper.noDefer = true → wpList P ops Q l a w → wpListIn Fence.wide n P ops Q' l a w
 | [], a, w, _, h => hQ _ _ _ h
 | o :: l, a, w, hn, h => by
   rw [List.all_cons, Bool.and_eq_true] at hn
   unfold wpList at h
   unfold wpListIn
   split at h
   · rename_i hw
     rw [if_pos hw]
     rcases h with h | h
     · have h2 : o.wp P a w (wpListIn Fence.wide n P ops Q' l) Q := by
         unfold Oper.wp at h ⊢
         generalize (execOp a.eval o).run P w = res at h ⊢
         have ih := wpListW (ops := ops) hQ hL l
         cases res with
         | ok x w' =>
           cases x with
           | value v => exact ih _ _ hn.2 h
           | skip => exact ih _ _ hn.2 h
           | defer d => exact ih _ _ hn.2 h
           | enter f args =>
             refine Calls.mono h fun e w'' he => ?_
             cases e with
             | returned v => exact ih _ _ hn.2 he
             | panicked c => exact he
             | outgrown => exact he
           | row row args => exact Rows.mono h fun v w'' he => ih _ _ hn.2 he
           | _ => exact absurd h (by simp [Oper.upon])
         | halt x w' =>
           cases x with
           | panic v => exact h
           | _ => exact absurd h (by simp [Oper.upon])
       exact oper_wpW (noDefer_ne hn.1) (fun c a w => hQ _ _ _) (fun ⟨a, w, q⟩ => ⟨a, w, hQ _ _ _ q⟩) h2
     · exact absurd h.2 hL
   · rename_i hw
     rw [if_neg hw]
     exact ⟨fun _ _ => trivial, wpListW hQ hL l _ _ hn.2 h⟩
theorem wpListW' {ops : Array Oper} {Q : Exit → Act → World → Prop} {l : List Oper} {a : Act} {w : World} (hn : l.all Oper.noDefer = true) (h : wpList P ops (fun e a w => e = .normal ∧ Q e a w) l a w) : wpListIn Fence.wide n P ops Q l a w :=
 wpListW (fun _ _ _ h => h.2) noOut l a w hn h
theorem wpListR' {r : Nat} {ops : Array Oper} {Q : Exit → Act → World → Prop} {l : List Oper} {a : Act} {w : World} (hn : l.all Oper.noDefer = true) (h : wpList P ops (fun e a w => e = .normal ∧ Q e a w) l a w) : wpListIn (Fence.wide.inRound r) n P ops Q l a w :=
 wpListR (fun _ _ _ h => h.2) noOut l a w hn h
end
end Go.Proofs.YtglpfpdomnllkaaGreat

namespace Go.Proofs.YtglpfpdomnllkaaGreat
open Go.RowKit Go.Shelf
attribute [local go_sem] Oper.semAt_some
set_option maxHeartbeats 8000000
set_option maxRecDepth 100000
/-- a list that is filled from the front. -/
def fillZ (L : List Int) (k : Nat) : List Int := L.take k ++ List.replicate (L.length - k) 0
theorem fillZ_zero (L : List Int) : fillZ L 0 = List.replicate L.length 0 := by simp [fillZ]
theorem fillZ_full (L : List Int) : fillZ L L.length = L := by simp [fillZ]
theorem fillZ_len {L : List Int} {k : Nat} (h : k ≤ L.length) : (fillZ L k).length = L.length := by simp [fillZ]; omega
theorem fillZ_set {L : List Int} {k : Nat} (h : k < L.length) : (fillZ L k).set k (atD 0 L k) = fillZ L (k + 1) := by
 have e : L.length - k = (L.length - (k + 1)) + 1 := by omega
 have e2 : atD 0 L k = L[k] := by simp [atD, h]
 have e3 : (L.take k).length = k := by rw [List.length_take]; omega
 unfold fillZ
 rw [e, List.replicate_succ, List.set_append_right _ _ (by omega), List.take_succ_eq_append_getElem h, e2, e3, Nat.sub_self, List.set_cons_zero, List.append_assoc]
 rfl
def rowAt (S F : List Int) (r : Nat) : List Int := S.map (atD 0 (powP F r))
theorem rowAt_len (S F : List Int) (r : Nat) : (rowAt S F r).length = S.length := by simp [rowAt]
def rwV (x : Nat × SlH) : Array Value := #[.int .i64 x.1, cSl x.2]
def rwP (S F : List Int) (x : Nat × SlH) : List Pc := [pOwn cInt 1 3 (cSl x.2) (rowAt S F x.1)]
def rwS (n : Nat) (xs : List (Nat × SlH)) : Prop := xs.map (·.1) = List.range n
abbrev rwR (bs bn n : Nat) (a a2 : Option Addr) (c c2 : Nat) (S F : List Int) : List Pc := [pBlk bs (.cells #[.slice a S.length c, .slice a2 F.length c2] 100), pBlk bn (.cells #[.int .i64 n] 3)]
theorem rows_pcs (mm bs bn n : Nat) (a a2 : Option Addr) (c c2 : Nat) (S F : List Int) (hp : IsP F) (hs : ∀ x ∈ S, 0 ≤ x ∧ x < F.length) (hFl : F.length ≤ 1000) (hSl : S.length ≤ 1000) (hn : n ≤ 1000000) (hm : 1 ≤ mm) (w0 : World) (RS : Ints w0 a c S) (RF : Ints w0 a2 c2 F) :
  SeqPcs Fence.wide mm Tryz.prog 162 #[.pointer (some ⟨bs, 0, none⟩), .pointer (some ⟨bn, 0, none⟩)] rwV (rwP S F) (rwS n) n (rwR bs bn n a a2 c c2 S F) w0.heap.size w0 := fun σ l Inv pcs Rest W s0 hY h0 hS0 => by
 have HP := hid hp
 have HS := hid hs
 have HY := hid hY
 have hSa : SL w0.heap.size w0 W (pBlk bs (.cells #[.slice a S.length c, .slice a2 F.length c2] 100) :: pBlk bn (.cells #[.int .i64 n] 3) :: (Rest ++ pcs s0)) := by
  have h := SL.comm hS0
  exact h
 have hpl : ∀ r, (powP F r).length = F.length := fun r => powP_len F r
 have hp0 : powP F 0 = idL F.length := powP_zero F.length F rfl
 have hps : ∀ r, powP F (r + 1) = F.map (atD 0 (powP F r)) := fun r => powP_succ' hp r
 have HPL := hid hpl; have HP0 := hid hp0; have HPS := hid hps
 have cm1 := RF.le
 have cm2 := RS.le
 clear hp hs hY hS0 hpl hp0 hps
 refine callsIn_of_wp Tryz.func162 rfl trivial ?_ rfl
 simp only [Tryz.ntmps162, List.size_toArray, List.length_cons, List.length_nil, Nat.reduceAdd, Nat.reduceSub, Array.replicate_succ, Array.replicate_zero, List.push_toArray, List.append_toArray, List.nil_append, List.cons_append]
 apply wpIn_seq_k
 intro K1 hK1
 refine wpIn_wide.2 ?_
 have qs := (hSa.blk 0 rfl).1
 go_wp2_with (first | ((with_reducible refine wpList_makeL (c := cInt) (F.length) (0) E_ints cInt1 wU wU (by omega) (by omega) (hSa) ?_); intro ad1 w1 hS1) | (with_reducible refine wpList_ldB F_sl wU wU (by assumption) wU ?_) | (with_reducible refine wpList_ldB (by first | exact F_int | fail) wU wU (by assumption) wU ?_))
 have e0 : List.replicate F.length (0 : Int) = fillZ (powP F 0) 0 := by rw [fillZ_zero, HPL.out]
 rw [e0] at hS1
 clear e0 qs hSa
 apply wpIn_seq_k
 intro K2 hK2
 refine wpIn_wide.2 ?_
 go_wp2_with fail
 go_loopw [19] (fun iv wr => ∃ k : Nat, k ≤ F.length ∧ iv = .int .i64 k ∧ SL w0.heap.size w0 wr (pOwn cInt 1 3 (.slice ad1 F.length F.length) (fillZ (powP F 0) k) :: pBlk bs (.cells #[.slice a S.length c, .slice a2 F.length c2] 100) :: pBlk bn (.cells #[.int .i64 n] 3) :: (Rest ++ pcs s0))) (fun iv _ => F.length - (intOf iv).toNat)
 case atStart => exact ⟨0, by omega, rfl, hS1⟩
 case round =>
  clear hS1
  obtain ⟨k, hk, rfl, hSr⟩ := hrel
  by_cases hlt : k < F.length
  ·have hfl : (fillZ (powP F 0) k).length = F.length := by rw [fillZ_len (by rw [HPL.out]; omega), HPL.out]
   have hset : (fillZ (powP F 0) k).set k (k : Int) = fillZ (powP F 0) (k + 1) := by
    have h := fillZ_set (L := powP F 0) (k := k) (by rw [HPL.out]; exact hlt)
    rw [HP0.out, idL_at (by omega) (by omega)] at h
    rw [HP0.out]
    exact h
   obtain ⟨A, hA⟩ : ∃ A, A = fillZ (powP F 0) k := ⟨_, rfl⟩
   rw [← hA] at hSr hfl hset
   have HFL := hid hfl; have HSET := hid hset
   have hkA : (k : Int) < (A.length : Int) := by omega
   clear hA hfl hset
   go_wp2_with ((with_reducible refine wpList_storeL (u := (k : Int)) 0 E_ints cInt1 (sto_int) wU wU (hSr) wU (by first | omega | (simp; done) | (simp; omega)) (by first | omega | (simp; done) | (simp; omega)) (fun _ => wU) (fun _ => wU) ?_); intro _ w2 hS2)
   have hS3 := hS2
   simp only [List.set_cons_zero, Int.toNat_natCast] at hS3
   rw [HSET.out] at hS3
   exact ⟨⟨k + 1, by omega, by go_num, hS3⟩, by simp [intOf]; omega⟩
  ·have hkk : k = F.length := by omega
   have e1 : fillZ (powP F 0) k = powP F 0 := by rw [hkk, ← HPL.out 0, fillZ_full]
   rw [e1] at hSr
   have hkn : ¬ ((k : Int) < (F.length : Int)) := by omega
   clear e1 hkk hlt hk
   go_wp2_with fail
   have cn := hSr.cell 2 rfl 0 rfl
   have HH0 := hid h0
   clear hkn h0
   gi_wp2
   clear cn
   gi_loopw [28, 4] (fun iv av wr => ∃ (r : Nat) (pre : List (Nat × SlH)) (s : σ), r ≤ n ∧ iv = .int .i64 r ∧ pre.map (·.1) = List.range r ∧ Inv pre s ∧ SL w0.heap.size w0 wr (pOwn cInt 1 3 av (powP F r) :: pBlk bs (.cells #[.slice a S.length c, .slice a2 F.length c2] 100) :: pBlk bn (.cells #[.int .i64 n] 3) :: (Rest ++ pcs s))) (fun iv _ _ => n - (intOf iv).toNat)
   case atStart => exact ⟨0, [], s0, by omega, rfl, rfl, HH0.out, hSr⟩
   case round =>
    clear hSr HH0
    obtain ⟨r, pre, s, hr, rfl, hpre, hInv, hSq⟩ := hrel
    have hlen : pre.length = r := by have := congrArg List.length hpre; simpa using this
    obtain ⟨A, Ac, rfl, -⟩ := hSq.slice 0 rfl
    have hpl := HPL.out r
    have HPRE := hid hpre; have HLEN := hid hlen; have HINV := hid hInv
    clear hpre hlen hInv
    by_cases hlt : r < n
    ·obtain ⟨PF, hPF⟩ : ∃ PF, PF = powP F r := ⟨_, rfl⟩
     rw [← hPF] at hSq hpl
     rw [← hPF]
     have HPF := hid hPF; have HPFL := hid hpl
     have cs := hSq.cell 1 rfl 0 rfl
     clear hPF hpl
     gi_wp2
     have hS3 := hSq.nilS (α := Int) (e := 3) cIntS
     clear cs hSq
     refine wpIn_wide.2 ?_
     go_loopw [34, 7] (fun iv sv wt => ∃ k : Nat, k ≤ S.length ∧ iv = .int .i64 k ∧ SL w0.heap.size w0 wt (pOwn cInt 1 3 sv ((rowAt S F r).take k) :: pOwn cInt 1 3 (.slice A PF.length Ac) PF :: pBlk bs (.cells #[.slice a S.length c, .slice a2 F.length c2] 100) :: pBlk bn (.cells #[.int .i64 n] 3) :: (Rest ++ pcs s))) (fun iv _ _ => S.length - (intOf iv).toNat)
     case atStart => exact ⟨0, by omega, rfl, by rw [List.take_zero]; exact hS3⟩
     case round =>
      clear hS3
      obtain ⟨q, hq, rfl, hSt⟩ := hrel
      by_cases hqt : q < S.length
      ·have hRS := RS.below hSt.b
       have hAt := hSt.rd 1 rfl
       have hmem := HS.out _ (atD_mem hqt)
       have hnx : (rowAt S F r).take (q + 1) = (rowAt S F r).take q ++ [atD 0 PF (atD 0 S q)] := by
        rw [List.take_succ_eq_append_getElem (by rw [rowAt_len]; exact hqt)]
        congr 2
        simp only [rowAt, List.getElem_map]
        rw [HPF.out]
        simp [atD, hqt]
       have htl : ((rowAt S F r).take q).length = q := by rw [List.length_take, rowAt_len]; omega
       obtain ⟨T, hT⟩ : ∃ T, T = (rowAt S F r).take q := ⟨_, rfl⟩
       obtain ⟨px, hpx⟩ : ∃ px, px = atD 0 S q := ⟨_, rfl⟩
       rw [← hpx] at hmem hnx
       rw [← hT] at hSt hnx htl
       have HPX := hid hpx; have HNX := hid hnx
       obtain ⟨hm0, hm1⟩ := hmem
       have hmP : px < (PF.length : Int) := by rw [HPFL.out]; exact hm1
       have htl2 : T.length ≤ 1000 := by omega
       obtain ⟨Tn, hTn⟩ : ∃ Tn : Nat, Tn = T.length := ⟨_, rfl⟩
       clear hpx hnx hT htl hTn Tn
       obtain ⟨sa, sc, rfl, -⟩ := hSt.slice 0 rfl
       go_wp2_with (first | ((with_reducible refine wpList_idx _ 0 E_ints F_int cInt1 wU wU (hRS) oD oD (fun _ => wU) (fun _ => ?_)); rw [← HPX.out]) | (with_reducible refine wpList_idxN _ 0 E_ints F_int cInt1 wU wU (hAt) (rfl) oD oD (fun _ => wU) (fun _ => ?_)) | ((with_reducible refine wpList_pushL (y := (atD 0 PF px)) 0 E_ints wU wU (hSt) wU cIntO ⟨rfl, rfl⟩ (by first | with_unfolding_all rfl | simp) wU (by first | omega | (simp; omega)) (by first | omega | (simp; omega)) ?_); intro v5 w5 hS5))
       have hS6 := hS5
       simp only [List.set_cons_zero] at hS6
       rw [← HNX.out] at hS6
       exact ⟨⟨q + 1, by omega, by go_num, hS6⟩, by simp [intOf]; omega⟩
      ·have hqq : q = S.length := by omega
       have e1 : (rowAt S F r).take q = rowAt S F r := by rw [hqq, ← rowAt_len S F r, List.take_length]
       rw [e1] at hSt
       have hqn : ¬ ((q : Int) < (S.length : Int)) := by omega
       clear e1 hqq hqt hq
       obtain ⟨sa, sc, rfl, -⟩ := hSt.slice 0 rfl
       rw [rowAt_len]
       have hSy : SL w0.heap.size w0 wr (pcs s ++ (rwP S F (r, (sa, S.length, sc)) ++ ([pOwn cInt 1 3 (.slice A PF.length Ac) PF, pBlk bs (.cells #[.slice a S.length c, .slice a2 F.length c2] 100), pBlk bn (.cells #[.int .i64 n] 3)] ++ Rest))) := by
        rw [rowAt_len] at hSt
        exact SL.comm (K := rwP S F (r, (sa, S.length, sc)) ++ ([pOwn cInt 1 3 (.slice A PF.length Ac) PF, pBlk bs (.cells #[.slice a S.length c, .slice a2 F.length c2] 100), pBlk bn (.cells #[.int .i64 n] 3)] ++ Rest)) (L := pcs s) hSt
       obtain ⟨fn, tmps, assign, body, hy, hR⟩ := HY.out pre (r, (sa, S.length, sc)) s [pOwn cInt 1 3 (.slice A PF.length Ac) PF, pBlk bs (.cells #[.slice a S.length c, .slice a2 F.length c2] 100), pBlk bn (.cells #[.int .i64 n] 3)] wr HINV.out hSy (by rw [HLEN.out]; exact hlt)
       unfold rwV at hy
       dsimp only at hy
       clear hSt hSy
       go_wp2_with fail
       gi_wp2
       refine hR.mono ?_
       rintro e W3 ⟨rfl, s', hI3, hS3⟩
       clear hR hy
       have HI3 := hid hI3
       clear hI3
       gi_wp2_with (refine wpListW' rfl ?_)
       go_wp2_with fail
       gi_wp2_with (refine wpListW' rfl ?_)
       have hS4 : SL w0.heap.size w0 W3 (pOwn cInt 1 3 (.slice A PF.length Ac) PF :: pBlk bs (.cells #[.slice a S.length c, .slice a2 F.length c2] 100) :: pBlk bn (.cells #[.int .i64 n] 3) :: (Rest ++ pcs s')) := SL.comm (K := pcs s') (L := pOwn cInt 1 3 (.slice A PF.length Ac) PF :: pBlk bs (.cells #[.slice a S.length c, .slice a2 F.length c2] 100) :: pBlk bn (.cells #[.int .i64 n] 3) :: Rest) hS3
       clear hS3
       have hpf : PF.length ≤ 1000 := by rw [HPFL.out]; exact hFl
       go_wp2_with ((with_reducible refine wpList_makeL (c := cInt) (PF.length) (0) E_ints cInt1 wU wU (by omega) (by omega) (hS4) ?_); intro ad3 w5 hS5)
       have e0 : List.replicate PF.length (0 : Int) = fillZ (powP F (r + 1)) 0 := by rw [fillZ_zero, HPL.out, HPFL.out]
       rw [e0] at hS5
       have cs5 := hS5.cell 2 rfl 1 rfl
       clear e0 hS4
       gi_wp2
       clear cs5
       refine wpIn_wide.2 ?_
       go_loopw [57] (fun iv wt => ∃ k : Nat, k ≤ F.length ∧ iv = .int .i64 k ∧ SL w0.heap.size w0 wt (pOwn cInt 1 3 (.slice ad3 PF.length PF.length) (fillZ (powP F (r + 1)) k) :: pOwn cInt 1 3 (.slice A PF.length Ac) PF :: pBlk bs (.cells #[.slice a S.length c, .slice a2 F.length c2] 100) :: pBlk bn (.cells #[.int .i64 n] 3) :: (Rest ++ pcs s'))) (fun iv _ => F.length - (intOf iv).toNat)
       case atStart => exact ⟨0, by omega, rfl, hS5⟩
       case round =>
        clear hS5
        obtain ⟨j, hj, rfl, hSt⟩ := hrel
        by_cases hjt : j < F.length
        ·have hRF := RF.below hSt.b
         have hAt := hSt.rd 1 rfl
         have hrg := HP.out.rng (j : Int) (by omega) (by omega)
         have hfl : (fillZ (powP F (r + 1)) j).length = PF.length := by rw [fillZ_len (by rw [HPL.out]; omega), HPL.out, HPFL.out]
         have hset : (fillZ (powP F (r + 1)) j).set j (atD 0 PF (atD 0 F j)) = fillZ (powP F (r + 1)) (j + 1) := by
          have h := fillZ_set (L := powP F (r + 1)) (k := j) (by rw [HPL.out]; exact hjt)
          have e2 : atD 0 (powP F (r + 1)) (j : Int) = atD 0 PF (atD 0 F j) := by
           rw [HPS.out, atD_mapF (by omega) (by omega), HPF.out]
          rw [e2] at h
          exact h
         obtain ⟨B, hB⟩ : ∃ B, B = fillZ (powP F (r + 1)) j := ⟨_, rfl⟩
         obtain ⟨px, hpx⟩ : ∃ px, px = atD 0 F j := ⟨_, rfl⟩
         rw [← hB] at hSt hfl hset
         rw [← hpx] at hset hrg
         have HFL := hid hfl; have HSET := hid hset; have HPX := hid hpx
         obtain ⟨hm0, hm1⟩ := hrg
         have hmP : px < (PF.length : Int) := by rw [HPFL.out]; exact hm1
         have hkB : (j : Int) < (B.length : Int) := by rw [hfl, HPFL.out]; omega
         clear hB hfl hset hpx
         go_wp2_with (first | ((with_reducible refine wpList_idx _ 0 E_ints F_int cInt1 wU wU (hRF) oD oD (fun _ => wU) (fun _ => ?_)); rw [← HPX.out]) | (with_reducible refine wpList_idxN _ 0 E_ints F_int cInt1 wU wU (hAt) (rfl) oD oD (fun _ => wU) (fun _ => ?_)) | ((with_reducible refine wpList_storeL (u := (atD 0 PF px)) 0 E_ints cInt1 (sto_int) wU wU (hSt) wU (by first | omega | (simp; done) | (simp; omega)) (by first | omega | (simp; done) | (simp; omega)) (fun _ => wU) (fun _ => wU) ?_); intro _ w7 hS7))
         have hS8 := hS7
         simp only [List.set_cons_zero, Int.toNat_natCast] at hS8
         rw [HSET.out] at hS8
         exact ⟨⟨j + 1, by omega, by go_num, hS8⟩, by simp [intOf]; omega⟩
        ·have hjj : j = F.length := by omega
         have e1 : fillZ (powP F (r + 1)) j = powP F (r + 1) := by rw [hjj, ← HPL.out (r + 1), fillZ_full]
         rw [e1] at hSt
         have hjn : ¬ ((j : Int) < (F.length : Int)) := by omega
         have hSu : SL w0.heap.size w0 wr (pOwn cInt 1 3 (.slice ad3 PF.length PF.length) (powP F (r + 1)) :: pBlk bs (.cells #[.slice a S.length c, .slice a2 F.length c2] 100) :: pBlk bn (.cells #[.int .i64 n] 3) :: (Rest ++ pcs s')) :=
          hSt.pickA (K := [pOwn cInt 1 3 (.slice ad3 PF.length PF.length) (powP F (r + 1)), pOwn cInt 1 3 (.slice A PF.length Ac) PF, pBlk bs (.cells #[.slice a S.length c, .slice a2 F.length c2] 100), pBlk bn (.cells #[.int .i64 n] 3)]) [0, 2, 3] (by decide) (by simp) [_, _, _] rfl
         clear e1 hjj hjt hj hSt
         go_wp2_with fail
         gi_wp2
         exact ⟨⟨r + 1, pre ++ [(r, (sa, S.length, sc))], s', by omega, by go_num, by rw [List.map_append, HPRE.out, List.range_succ]; rfl, HI3.out, hSu⟩, by simp [intOf]; omega⟩
    ·have hrr : r = n := by omega
     subst hrr
     clear hlt
     have hfin := SL.comm (K := pBlk bs (.cells #[.slice a S.length c, .slice a2 F.length c2] 100) :: pBlk bn (.cells #[.int .i64 r] 3) :: Rest) (L := pcs s) (SL.tail hSq)
     clear hSq hpl
     gi_wp2
     go_end0
     exact ⟨⟨_, rfl⟩, by first | exact ⟨pre, s, HPRE.out, HINV.out, hfin⟩ | exact ⟨pre, HPRE.out, s, HINV.out, hfin⟩⟩
theorem rows_any (a a2 : Option Addr) (c c2 s f : Nat) (n : Int) (w : World) :
  Calls Tryz.prog 117 #[.agg #[.slice a s c, .slice a2 f c2], .int .i64 n] w fun r w' =>
   r = .returned (.func (.func 162) #[] #[.pointer (some ⟨w.heap.size, 0, none⟩), .pointer (some ⟨w.heap.size + 1, 0, none⟩)]) ∧ w' = (w.alloc (.cells #[.slice a s c, .slice a2 f c2] 100)).alloc (.cells #[.int .i64 n] 3) := by
 go_enter Tryz.func117, Tryz.ntmps117
 go_wp2
 go_ret
 exact ⟨rfl, rfl⟩
end Go.Proofs.YtglpfpdomnllkaaGreat

namespace Go.Proofs.YtglpfpdomnllkaaGreat
open Go.RowKit Go.Shelf
attribute [local go_sem] Oper.semAt_some
set_option maxHeartbeats 8000000
set_option maxRecDepth 100000
theorem psSto (v : Value) (hv : ∃ a n c, v = .slice a n c) (w : World) (p : Addr) (h1 : (w.cell? p).isSome = true) (h2 : w.frozen? p = false) : (Instr.storeAt 39 (.pointer (some p)) v).run Tryz.prog w = .ok () (w.setCell p v) := by
 obtain ⟨a, n, c, rfl⟩ := hv
 obtain ⟨u, hu⟩ := Option.isSome_iff_exists.1 h1
 simp [go_sem, hu, h2]
abbrev StS := Value × List (SlH × List Int)
def outP (Ho : Nat) (s : StS) : List Pc := pBlk Ho (.cells #[s.1] 39) :: pOwn cSl 1 22 s.1 (s.2.map Prod.fst) :: s.2.map inP
/-- what a caller holds when a list of lists has been made. -/
theorem out_end {B : Nat} {w0 W : World} {Ho D : Nat} {s : StS} {R0 : List Pc} {x y : Pc} (hR : R0 = [x, y]) (h : SL B w0 W (pMark D :: (outP Ho s ++ R0))) : SL B w0 W ((pOwn cSl 1 22 s.1 (s.2.map Prod.fst) :: s.2.map inP) ++ [D].map pMark) := by
 subst hR
 have h1 : SL B w0 W (([pMark D, pBlk Ho (.cells #[s.1] 39), pOwn cSl 1 22 s.1 (s.2.map Prod.fst)] ++ s.2.map inP) ++ [x, y]) := h
 have h2 := SL.comm h1
 have h3 := SL.pickA (K := [x, y, pMark D, pBlk Ho (.cells #[s.1] 39), pOwn cSl 1 22 s.1 (s.2.map Prod.fst)]) (M := s.2.map inP) h2 [2, 4] (by decide) (by simp) [_, _] rfl
 exact SL.comm (K := [pMark D]) (L := pOwn cSl 1 22 s.1 (s.2.map Prod.fst) :: s.2.map inP) h3
theorem psStrands_any (rows : Nat) (a a2 : Option Addr) (c c2 : Nat) (S F : List Int) (w : World) (hp : IsP F) (hs : ∀ x ∈ S, 0 ≤ x ∧ x < F.length) (hFl : F.length ≤ 1000) (hSl : S.length ≤ 1000) (hr : rows ≤ 1000) (RS : Ints w a c S) (RF : Ints w a2 c2 F) :
  Calls Tryz.prog 103 #[.agg #[.slice a S.length c, .slice a2 F.length c2], .int .i64 rows] w fun r w' => ∃ (v : Value) (qs : List (SlH × List Int)), r = .returned v ∧ qs.map Prod.snd = (List.range rows).map (rowAt S F) ∧ SL w.heap.size w w' (pOwn cSl 1 22 v (qs.map Prod.fst) :: qs.map inP) := by
 refine callsIn_wide.1 (callsIn_of_wp_marks (n := 9) (F := Fence.wide) Tryz.func103 rfl trivial ?_ rfl)
 simp only [Tryz.ntmps103, List.size_toArray, List.length_cons, List.length_nil, Nat.reduceAdd, Nat.reduceSub, Array.replicate_succ, Array.replicate_zero, List.push_toArray, List.append_toArray, List.nil_append, List.cons_append]
 refine wpIn_wide.2 ?_
 go_wp2_with fail
 refine (rows_any a a2 c c2 S.length F.length rows _).mono ?_
 rintro e w4 ⟨rfl, rfl⟩
 have hS0 := (((((SL.nil w).nilS (α := SlH) (e := 22) cSlS).box (.cells #[.slice a S.length c, .slice a2 F.length c2] 100)).box (.cells #[.slice none 0 0] 39)).box (.cells #[.slice a S.length c, .slice a2 F.length c2] 100)).box (.cells #[.int .i64 rows] 3)
 simp only [World.size_alloc] at hS0
 go_wp2_with fail
 obtain ⟨Ho, hHo⟩ : ∃ Ho, Ho = w.heap.size + 1 := ⟨_, rfl⟩
 obtain ⟨bs, hbs⟩ : ∃ bs, bs = w.heap.size + 1 + 1 := ⟨_, rfl⟩
 obtain ⟨bn, hbn⟩ : ∃ bn, bn = w.heap.size + 1 + 1 + 1 := ⟨_, rfl⟩
 rw [← hbn, ← hbs, ← hHo] at hS0
 rw [← hbn, ← hbs, ← hHo]
 have hS1 : SL w.heap.size w _ (outP Ho (.slice none 0 0, []) ++ rwR bs bn rows a a2 c c2 S F) := hS0.pick [2, 4, 1, 0] (by decide) _ rfl
 generalize ((((w.alloc (.cells #[.slice a S.length c, .slice a2 F.length c2] 100)).alloc (.cells #[.slice none 0 0] 39)).alloc (.cells #[.slice a S.length c, .slice a2 F.length c2] 100)).alloc (.cells #[.int .i64 rows] 3)) = w4 at *
 clear hS0 hHo hbs hbn
 refine (wpIn_wide (n := 9)).1 ?_
 refine rangeFunc_pcs rfl (by decide) (gf := 162) (lb := #[.pointer (some ⟨bs, 0, none⟩), .pointer (some ⟨bn, 0, none⟩)]) rfl trivial (enters_of Tryz.func162 kR rfl)
  (rows_pcs 8 bs bn rows a a2 c c2 S F hp hs hFl hSl (by omega) (by decide) w RS RF) (fun _ => rfl)
  (fun pre (s : StS) => s.2.map Prod.snd = pre.map (fun x => rowAt S F x.1)) (outP Ho) (.slice none 0 0, []) rfl hS1 ?round ?done
 case round =>
  intro l pre x s R W hInv hS hlen
  obtain ⟨ov, qs⟩ := s
  have HINV := hid hInv
  clear hS1 hInv hp hs
  have hqk : (qs.map Prod.fst).length ≤ 1000 := by
   have := congrArg List.length HINV.out
   simp at this
   simp
   omega
  obtain ⟨x1, x2, x3, x4⟩ := x
  dsimp only [rwV]
  gi_wp2
  refine ⟨outP Ho (ov, qs) ++ rwP S F (x1, x2, x3, x4), by rw [List.append_assoc]; exact hS, ?_⟩
  intro R2 W2 hS2
  have hS3 : SL w.heap.size w W2 (pBlk Ho (.cells #[ov] 39) :: pOwn cSl 1 22 ov (qs.map Prod.fst) :: ((qs.map inP ++ rwP S F (x1, x2, x3, x4)) ++ R2)) := hS2
  have q := (hS3.blk 0 rfl).1
  clear hS hS2
  apply wpIn_block
  refine wpIn_regionR rfl ?_
  go_wp2_with (first | (with_reducible refine wpList_ldB F_sls wU wU (by assumption) wU ?_) | ((with_reducible refine wpList_pushL (y := ((x2, x3, x4) : SlH)) 1 E_sls wU wU (hS3) wU cSlO ⟨rfl, rfl⟩ (by first | with_unfolding_all rfl | simp) wU (by first | omega | (simp; omega)) (by first | omega | (simp; omega)) ?_); intro v5 w5 hS5) | refine wpList_stoAt (psSto v5 (isSl hS5 1 rfl) _ _) wU wU (hS5.cell 0 rfl 0 rfl) (hS5.frozen 0 rfl 0) ?_)
  refine ⟨v5, qs ++ [((x2, x3, x4), rowAt S F x1)], by rw [List.map_append, HINV.out]; rfl, ?_⟩
  have h := hS5.set 0 rfl 0 v5
  unfold outP
  simp only [List.map_append]
  exact h
 case done =>
  intro D xs s W hD hxs hInv hs
  obtain ⟨ov, qs⟩ := s
  have hys : qs.map Prod.snd = (List.range rows).map (rowAt S F) := by
   have hxs : xs.map (·.1) = List.range rows := hxs
   rw [← hxs, List.map_map]; exact hInv
  have HYS := hid hys
  have hc := hs.cell 1 rfl 0 rfl
  have hfin := out_end rfl hs
  clear hs hInv hxs hys hS1
  dsimp only
  go_wp2_with fail
  refine SL.leave' (L := pOwn cSl 1 22 ov (qs.map Prod.fst) :: qs.map inP) (Ds := [D]) hfin fun W hW => ⟨ov, ?_, by first | exact ⟨ov, qs, rfl, HYS.out, hW⟩ | exact ⟨ov, rfl, qs, HYS.out, hW⟩⟩
  simp [results, Tryz.f103, go_sem]
end Go.Proofs.YtglpfpdomnllkaaGreat

namespace Go.Proofs.YtglpfpdomnllkaaGreat
open Go.RowKit Go.Shelf
attribute [local go_sem] Oper.semAt_some
set_option maxHeartbeats 8000000
set_option maxRecDepth 100000
def ptP (Ho Hc : Nat) (cv : Value) (s : StS) : List Pc := pBlk Ho (.cells #[s.1] 39) :: pOwn cSl 1 22 s.1 (s.2.map Prod.fst) :: pBlk Hc (.cells #[cv] 22) :: s.2.map inP
theorem pt_end {B : Nat} {w0 W : World} {Ho Hc D : Nat} {cv : Value} {s : StS} {R0 : List Pc} {x y : Pc} (hR : R0 = [x, y]) (h : SL B w0 W (pMark D :: (ptP Ho Hc cv s ++ R0))) : SL B w0 W ((pOwn cSl 1 22 s.1 (s.2.map Prod.fst) :: s.2.map inP) ++ [D].map pMark) := by
 subst hR
 have h1 : SL B w0 W (([pMark D, pBlk Ho (.cells #[s.1] 39), pOwn cSl 1 22 s.1 (s.2.map Prod.fst), pBlk Hc (.cells #[cv] 22)] ++ s.2.map inP) ++ [x, y]) := h
 have h2 := SL.comm h1
 have h3 := SL.pickA (K := [x, y, pMark D, pBlk Ho (.cells #[s.1] 39), pOwn cSl 1 22 s.1 (s.2.map Prod.fst), pBlk Hc (.cells #[cv] 22)]) (M := s.2.map inP) h2 [2, 4] (by decide) (by simp) [_, _] rfl
 exact SL.comm (K := [pMark D]) (L := pOwn cSl 1 22 s.1 (s.2.map Prod.fst) :: s.2.map inP) h3
/-- a row of a picture. -/
def paintAt (S F C : List Int) (r : Nat) : List Int := (rowAt S F r).map (atD 0 C)
theorem paintAt_len (S F C : List Int) (r : Nat) : (paintAt S F C r).length = S.length := by unfold paintAt; rw [List.length_map, rowAt_len]
theorem rowAt_rng {S F : List Int} (hp : IsP F) (hs : ∀ x ∈ S, 0 ≤ x ∧ x < F.length) (r : Nat) : ∀ x ∈ rowAt S F r, 0 ≤ x ∧ x < F.length := fun x hx => by
 obtain ⟨y, hy, rfl⟩ := List.mem_map.1 hx
 obtain ⟨h0, h1⟩ := hs y hy
 rw [powP_at h0 h1]
 exact itP_rng hp h0 h1 r
theorem paint_any (rows : Nat) (a a2 a3 : Option Addr) (c c2 c3 : Nat) (S F C : List Int) (w : World) (hp : IsP F) (hs : ∀ x ∈ S, 0 ≤ x ∧ x < F.length) (hFl : F.length ≤ 1000) (hSl : S.length ≤ 1000) (hr : rows ≤ 1000000) (hCl : C.length = F.length) (RS : Ints w a c S) (RF : Ints w a2 c2 F) (RC : Ints w a3 c3 C) :
  Calls Tryz.prog 64 #[.agg #[.slice a S.length c, .slice a2 F.length c2], .slice a3 C.length c3, .int .i64 rows] w fun r w' => ∃ (v : Value) (qs : List (SlH × List Int)), r = .returned v ∧ qs.map Prod.snd = (List.range rows).map (paintAt S F C) ∧ SL w.heap.size w w' (pOwn cSl 1 22 v (qs.map Prod.fst) :: qs.map inP) := by
 refine callsIn_wide.1 (callsIn_of_wp_marks (n := 9) (F := Fence.wide) Tryz.func64 rfl trivial ?_ rfl)
 simp only [Tryz.ntmps64, List.size_toArray, List.length_cons, List.length_nil, Nat.reduceAdd, Nat.reduceSub, Array.replicate_succ, Array.replicate_zero, List.push_toArray, List.append_toArray, List.nil_append, List.cons_append]
 refine wpIn_wide.2 ?_
 have cmC := RC.le
 have cmX := RC.max
 have HCL := hid hCl
 have hCb : C.length ≤ 1000 := by omega
 clear hCl
 go_wp2_with fail
 refine (rows_any a a2 c c2 S.length F.length rows _).mono ?_
 rintro e w4 ⟨rfl, rfl⟩
 have hS0 := ((((((SL.nil w).nilS (α := SlH) (e := 22) cSlS).box (.cells #[.slice a S.length c, .slice a2 F.length c2] 100)).box (.cells #[.slice a3 C.length c3] 22)).box (.cells #[.slice none 0 0] 39)).box (.cells #[.slice a S.length c, .slice a2 F.length c2] 100)).box (.cells #[.int .i64 rows] 3)
 simp only [World.size_alloc] at hS0
 go_wp2_with fail
 obtain ⟨Hc, hHc⟩ : ∃ Hc, Hc = w.heap.size + 1 := ⟨_, rfl⟩
 obtain ⟨Ho, hHo⟩ : ∃ Ho, Ho = w.heap.size + 1 + 1 := ⟨_, rfl⟩
 obtain ⟨bs, hbs⟩ : ∃ bs, bs = w.heap.size + 1 + 1 + 1 := ⟨_, rfl⟩
 obtain ⟨bn, hbn⟩ : ∃ bn, bn = w.heap.size + 1 + 1 + 1 + 1 := ⟨_, rfl⟩
 rw [← hbn, ← hbs, ← hHo, ← hHc] at hS0
 rw [← hbn, ← hbs, ← hHo, ← hHc]
 have hS1 : SL w.heap.size w _ (ptP Ho Hc (.slice a3 C.length c3) (.slice none 0 0, []) ++ rwR bs bn rows a a2 c c2 S F) := hS0.pick [2, 5, 3, 1, 0] (by decide) _ rfl
 generalize (((((w.alloc (.cells #[.slice a S.length c, .slice a2 F.length c2] 100)).alloc (.cells #[.slice a3 C.length c3] 22)).alloc (.cells #[.slice none 0 0] 39)).alloc (.cells #[.slice a S.length c, .slice a2 F.length c2] 100)).alloc (.cells #[.int .i64 rows] 3)) = w4 at *
 clear hS0 hHo hbs hbn hHc
 have HRR := hid (fun r => rowAt_rng hp hs r)
 refine (wpIn_wide (n := 9)).1 ?_
 refine rangeFunc_pcs rfl (by decide) (gf := 162) (lb := #[.pointer (some ⟨bs, 0, none⟩), .pointer (some ⟨bn, 0, none⟩)]) rfl trivial (enters_of Tryz.func162 kR rfl)
  (rows_pcs 8 bs bn rows a a2 c c2 S F hp hs hFl hSl (by omega) (by decide) w RS RF) (fun _ => rfl)
  (fun pre (s : StS) => s.2.map Prod.snd = pre.map (fun x => paintAt S F C x.1)) (ptP Ho Hc (.slice a3 C.length c3)) (.slice none 0 0, []) rfl hS1 ?round ?done
 case round =>
  intro l pre x s R W hInv hS hlen
  obtain ⟨ov, qs⟩ := s
  have HINV := hid hInv
  clear hS1 hInv hp hs
  have hqk : (qs.map Prod.fst).length ≤ 1000000 := by
   have := congrArg List.length HINV.out
   simp at this
   simp
   omega
  obtain ⟨x1, x2, x3, x4⟩ := x
  dsimp only [rwV]
  gi_wp2
  have hS0 : SL w.heap.size w W ((rwP S F (x1, x2, x3, x4) ++ ptP Ho Hc (.slice a3 C.length c3) (ov, qs)) ++ R) := by
   rw [List.append_assoc]
   exact hS.perm (List.perm_append_comm_assoc _ _ _)
  refine ⟨_, hS0, ?_⟩
  intro R2 W2 hS2
  have hrr := HRR.out x1
  have hrl := rowAt_len S F x1
  have hpl := paintAt_len S F C x1
  have hpa : ∀ k : Nat, k < S.length → (paintAt S F C x1).take (k + 1) = (paintAt S F C x1).take k ++ [atD 0 C (atD 0 (rowAt S F x1) k)] := fun k hk => by
   rw [List.take_succ_eq_append_getElem (by rw [hpl]; exact hk)]
   congr 2
   simp only [paintAt, List.getElem_map]
   congr 1
   simp [atD, hrl, hk]
  have hS3 : SL w.heap.size w W2 (pOwn cInt 1 3 (.slice x2 x3 x4) (rowAt S F x1) :: pBlk Ho (.cells #[ov] 39) :: pOwn cSl 1 22 ov (qs.map Prod.fst) :: pBlk Hc (.cells #[.slice a3 C.length c3] 22) :: (qs.map inP ++ R2)) := hS2
  obtain ⟨RW, hRW⟩ : ∃ RW, RW = rowAt S F x1 := ⟨_, rfl⟩
  obtain ⟨PW, hPW⟩ : ∃ PW, PW = paintAt S F C x1 := ⟨_, rfl⟩
  rw [← hRW] at hS3 hrr hrl
  rw [← hPW] at hpl
  simp only [← hRW, ← hPW] at hpa
  have HPW := hid hPW
  obtain ⟨a9, c9, e9, -⟩ := hS3.slice 0 rfl
  simp only [Value.slice.injEq] at e9
  obtain ⟨rfl, e9, rfl⟩ := e9
  subst e9
  have HRL := hid hrl; have HPL := hid hpl; have HPA := hid hpa; have HRW := hid hrr
  have hS4 := hS3.nilS (α := Int) (e := 3) cIntS
  have hRl : RW.length ≤ 1000 := by omega
  clear hS hS0 hS2 hS3 hRW hPW hrr hrl hpl hpa
  gi_wp2
  gi_loopw [20, 10] (fun iv rv wt => ∃ k : Nat, k ≤ RW.length ∧ iv = .int .i64 k ∧ SL w.heap.size w wt (pOwn cInt 1 3 rv (PW.take k) :: pOwn cInt 1 3 (.slice x2 RW.length x4) RW :: pBlk Ho (.cells #[ov] 39) :: pOwn cSl 1 22 ov (qs.map Prod.fst) :: pBlk Hc (.cells #[.slice a3 C.length c3] 22) :: (qs.map inP ++ R2))) (fun iv _ _ => RW.length - (intOf iv).toNat)
  case atStart => exact ⟨0, by omega, rfl, by rw [List.take_zero]; exact hS4⟩
  case round =>
   clear hS4
   obtain ⟨k, hk, rfl, hSr⟩ := hrel
   by_cases hlt : k < RW.length
   ·have hX := hSr.rd 1 rfl
    have hCr := RC.below hSr.b
    have qc := (hSr.blk 4 rfl).1
    have hv := HRW.out _ (atD_mem hlt)
    have hnx := HPA.out k (by rw [← HRL.out]; exact hlt)
    have htl : (PW.take k).length ≤ 1000 := by rw [List.length_take, HPL.out]; omega
    obtain ⟨y, hy⟩ : ∃ y, y = atD 0 RW (k : Int) := ⟨_, rfl⟩
    obtain ⟨PT, hPT⟩ : ∃ PT, PT = PW.take k := ⟨_, rfl⟩
    rw [← hy] at hv hnx
    rw [← hPT] at hSr hnx htl
    have HY := hid hy; have HNX := hid hnx
    obtain ⟨hv0, hv1⟩ := hv
    have hyC : y < (C.length : Int) := by rw [HCL.out]; exact hv1
    obtain ⟨ra, rc, rfl, -⟩ := hSr.slice 0 rfl
    clear hy hnx hPT
    gi_wp2_with (refine wpListR' rfl ?_)
    go_wp2_with fail
    gi_wp2_with (refine wpListR' rfl ?_)
    go_wp2_with ((with_reducible refine wpList_idx _ 0 E_ints F_int cInt1 wU wU (hX) oD oD (fun _ => wU) (fun _ => ?_)); rw [← HY.out])
    gi_wp2_with (refine wpListR' rfl ?_)
    go_wp2_with (first | (with_reducible refine wpList_ldB (by first | exact F_sl | exact F_sls) wU wU (by assumption) wU ?_) | (with_reducible refine wpList_idx _ 0 E_ints F_int cInt1 wU wU (hCr) oD oD (fun _ => wU) (fun _ => ?_)) | ((with_reducible refine wpList_pushL (y := (atD 0 C y)) 0 E_ints wU wU (hSr) wU cIntO ⟨rfl, rfl⟩ (by first | with_unfolding_all rfl | simp) wU (by first | omega | (simp; omega)) (by first | omega | (simp; omega)) ?_); intro v5 w5 hS5))
    have hS6 := hS5
    simp only [List.set_cons_zero] at hS6
    rw [← HNX.out] at hS6
    gi_wp2
    exact ⟨⟨k + 1, by omega, by go_num, hS6⟩, by simp [intOf]; omega⟩
   ·have hkk : k = RW.length := by omega
    have e1 : PW.take k = PW := by rw [hkk, HRL.out, ← HPL.out, List.take_length]
    rw [e1] at hSr
    have hkn : ¬ ((k : Int) < (RW.length : Int)) := by omega
    have q := (hSr.blk 2 rfl).1
    obtain ⟨ra, rc, rfl, -⟩ := hSr.slice 0 rfl
    clear e1 hkk hlt hk
    gi_wp2_with (refine wpListR' rfl ?_)
    go_wp2_with fail
    gi_wp2_with (refine wpListR' rfl ?_)
    go_wp2_with (first | (with_reducible refine wpList_ldB (by first | exact F_sl | exact F_sls) wU wU (by assumption) wU ?_) | ((with_reducible refine wpList_pushL (y := ((ra, PW.length, rc) : SlH)) 3 E_sls wU wU (hSr) wU cSlO ⟨rfl, rfl⟩ (by first | with_unfolding_all rfl | simp) wU (by first | omega | (simp; omega)) (by first | omega | (simp; omega)) ?_); intro v5 w5 hS5) | refine wpList_stoAt (psSto v5 (isSl hS5 3 rfl) _ _) wU wU (hS5.cell 2 rfl 0 rfl) (hS5.frozen 2 rfl 0) ?_)
    refine ⟨v5, qs ++ [((ra, PW.length, rc), PW)], by rw [List.map_append, HINV.out, ← HPW.out]; rfl, ?_⟩
    have h := hS5.set 2 rfl 0 v5
    have h2 := SL.pickA (K := [_, _, _, _, _]) (M := qs.map inP ++ R2) h [2, 3, 4, 0] (by decide) (by simp) [_, _, _, _] rfl
    refine h2.perm ?_
    unfold ptP
    simp only [List.map_append, List.cons_append, List.nil_append, List.append_assoc, List.map_cons, List.map_nil]
    exact List.Perm.cons _ (List.Perm.cons _ (List.Perm.cons _ List.perm_middle.symm))
 case done =>
  intro D xs s W hD hxs hInv hs
  obtain ⟨ov, qs⟩ := s
  have hys : qs.map Prod.snd = (List.range rows).map (paintAt S F C) := by
   have hxs : xs.map (·.1) = List.range rows := hxs
   rw [← hxs, List.map_map]; exact hInv
  have HYS := hid hys
  have hc := hs.cell 1 rfl 0 rfl
  have hfin := pt_end rfl hs
  clear hs hInv hxs hys hS1
  dsimp only
  go_wp2_with fail
  refine SL.leave' (L := pOwn cSl 1 22 ov (qs.map Prod.fst) :: qs.map inP) (Ds := [D]) hfin fun W hW => ⟨ov, ?_, by first | exact ⟨ov, qs, rfl, HYS.out, hW⟩ | exact ⟨ov, rfl, qs, HYS.out, hW⟩⟩
  simp [results, Tryz.f64, go_sem]
end Go.Proofs.YtglpfpdomnllkaaGreat

namespace Go.Proofs.YtglpfpdomnllkaaGreat
open Go.RowKit
set_option maxHeartbeats 8000000
set_option maxRecDepth 100000
theorem pcommon_any (x y : Nat) (w : World) (hx : 0 < x) (hx2 : x ≤ 1048576) (hy : 0 < y) (hy2 : y ≤ 1048576) :
  Calls Tryz.prog 151 #[.int .i64 x, .int .i64 y] w fun r w' => r = .returned (.int .i64 (lcmF x y : Nat)) ∧ Below w.heap.size w w' := by
 obtain ⟨L, hLL⟩ : ∃ L, L = lcmF x y := ⟨_, rfl⟩
 rw [← hLL]
 have HLL := hid hLL
 clear hLL
 go_enter Tryz.func151, Tryz.ntmps151
 go_wp2_with fail
 go_loopw [5, 6] (fun p q wr => ∃ a b : Int, p = .int .i64 a ∧ q = .int .i64 b ∧ 0 ≤ a ∧ a ≤ 1048576 ∧ 0 ≤ b ∧ b ≤ 1048576 ∧ Int.gcd a b = Int.gcd x y ∧ Below w.heap.size w wr) (fun _ q _ => (intOf q).toNat)
 case atStart => exact ⟨x, y, rfl, rfl, by omega, by omega, by omega, by omega, rfl, Below.refl _ _⟩
 case round =>
  obtain ⟨a, b, rfl, rfl, ha, ha2, hb, hb2, hg, hbr⟩ := hrel
  have HG := hid hg; clear hg
  by_cases hlt : 0 < b
  ·have hm0 := Int.emod_nonneg a (by omega : b ≠ 0)
   have hm1 := Int.emod_lt_of_pos a hlt
   have hne : ¬ b = 0 := by omega
   have hwr : IntKind.i64.wrap (a.tmod b) = a % b := by rw [Int.tmod_eq_emod_of_nonneg ha]; exact IntWalk.i64_in _ (by omega)
   go_wp2_with fail
   refine wp_region_quiet_lit kR kR ?_
   repeat (first | fail | quiet_step (fail))
   refine wpQuiet_nil ?_
   intro w2 hb2
   replace hb2 := below_drewN hb2
   clear hwr
   go_wp2_with fail
   rw [Int.tmod_eq_emod_of_nonneg (b := b) ha]
   refine ⟨⟨b, a % b, rfl, rfl, by omega, by omega, by omega, by omega, ?_, bnext hbr hb2⟩, by simp [intOf]; omega⟩
   rw [← HG.out, gcd_step ha hb]
  ·have : b = 0 := by omega
   subst this
   obtain ⟨G, hG⟩ : ∃ G, G = Nat.gcd x y := ⟨_, rfl⟩
   have hg1 : Int.gcd (x : Int) (y : Int) = G := by rw [hG]; simp [Int.gcd]
   have hfin : a = (G : Int) := by
    have h2 := HG.out
    rw [hg1, Int.gcd_zero] at h2
    omega
   have hGp : 0 < G := by rw [hG]; exact Nat.gcd_pos_of_pos_left _ hx
   have hL : L = x / G * y := by rw [HLL.out, hG]; rfl
   obtain ⟨Q, hQ⟩ : ∃ Q, Q = x / G := ⟨_, rfl⟩
   have hq1 : Q ≤ x := by rw [hQ]; exact Nat.div_le_self _ _
   have hqq : (x : Int).tdiv (G : Int) = (Q : Int) := by rw [hQ]; exact (Int.ofNat_tdiv x G).symm
   rw [← hQ] at hL
   have hq2 : Q * y ≤ 1048576 * 1048576 := Nat.mul_le_mul (by omega) hy2
   have hqw : IntKind.i64.wrap ((x : Int).tdiv (G : Int)) = (Q : Int) := by
    rw [hqq]
    exact IntWalk.i64_in _ (by omega)
   have hmw : IntKind.i64.wrap ((Q : Int) * (y : Int)) = (L : Int) := by
    rw [← Int.natCast_mul, ← hL]
    exact IntWalk.i64_in _ (by omega)
   have hGn : ¬ (G : Int) = 0 := by omega
   have hqd : (x : Int) / (G : Int) = (Q : Int) := by rw [hQ]; simp
   have hend : wrap64 (wrap64 ((x : Int) / (G : Int)) * (y : Int)) = (L : Int) := by
    rw [hqd, IntWalk.wrap64_in (Q : Int) (by omega), ← Int.natCast_mul, ← hL]
    exact IntWalk.wrap64_in _ (by omega)
   have HEND := hid hend
   subst hfin
   clear HG hL hg1 hG hq1 hq2 hQ hqq hqw hmw hqd hend
   go_wp2_with fail
   go_ret
   exact ⟨by first | (rw [← HEND.out]; rfl) | (show Ending.returned (.int .i64 (wrap64 (wrap64 ((x : Int) / (G : Int)) * (y : Int)))) = _; rw [HEND.out]), hbr⟩
theorem pcycle_any (a a2 : Option Addr) (c c2 s : Nat) (F : List Int) (p : Int) (w : World) (hp : IsP F) (hFl : F.length ≤ 1000) (h0 : 0 ≤ p) (h1 : p < F.length) (RF : Ints w a2 c2 F) :
  Calls Tryz.prog 152 #[.agg #[.slice a s c, .slice a2 F.length c2], .int .i64 p] w fun r w' => r = .returned (.int .i64 (ordN F p : Nat)) ∧ Below w.heap.size w w' := by
 have hd := ordN_ok hp h0 h1
 obtain ⟨d, hdd⟩ : ∃ d, d = ordN F p := ⟨_, rfl⟩
 rw [← hdd] at hd ⊢
 have hle := hd.le
 have hpos := hd.pos
 have hS0 := (SL.nil w).box (.cells #[.slice a s c, .slice a2 F.length c2] 100)
 have q := (hS0.blk 0 rfl).1
 have hF := RF.below hS0.b
 have hb := hS0.b
 have cm := RF.le
 have HD := hid hd
 have HR := hid (fun k => itP_rng hp h0 h1 k)
 have e1 : itP F p 1 = atD 0 F p := rfl
 have HE1 := hid e1
 clear hdd hd hp e1 hS0
 go_enter Tryz.func152, Tryz.ntmps152
 go_wp2_with (first | (with_reducible refine wpList_ldB F_sl wU wU (by assumption) wU ?_) | ((with_reducible refine wpList_idx _ 0 E_ints F_int cInt1 wU wU (hF) oD oD (fun _ => wU) (fun _ => ?_)); rw [← HE1.out]))
 go_loop [6, 5] (fun av nv => ∃ j : Nat, j + 1 ≤ d ∧ av = .int .i64 (itP F p (j + 1)) ∧ nv = .int .i64 ((j + 1 : Nat) : Int)) (fun _ nv => d - (intOf nv).toNat)
 case atStart => exact ⟨0, by omega, rfl, rfl⟩
 case round =>
  obtain ⟨j, hj, rfl, rfl⟩ := hrel
  obtain ⟨hr0, hr1⟩ := HR.out (j + 1)
  by_cases hlast : j + 1 = d
  ·have hbk : itP F p (j + 1) = p := by rw [hlast]; exact HD.out.back
   have HBK := hid hbk
   have HLS := hid hlast
   have db : (itP F p (j + 1) != p) = false := by rw [hbk]; simp
   have hdj : (d : Int) = (j : Int) + 1 := by omega
   have HDJ := hid hdj
   clear hbk hlast hdj
   go_wp2_with fail
   go_ret
   exact ⟨by rw [HDJ.out]; rfl, hb⟩
  ·have hne := HD.out.min (j + 1) (by omega) (by omega)
   have db : (itP F p (j + 1) != p) = true := by simpa using hne
   have hnx : itP F p (j + 1 + 1) = atD 0 F (itP F p (j + 1)) := rfl
   obtain ⟨x, hx⟩ : ∃ x, x = itP F p (j + 1) := ⟨_, rfl⟩
   rw [← hx] at hr0 hr1 db hnx
   rw [← hx]
   have HNX := hid hnx
   clear hne hnx hx
   go_wp2_with (first | (with_reducible refine wpList_ldB F_sl wU wU (by assumption) wU ?_) | ((with_reducible refine wpList_idx _ 0 E_ints F_int cInt1 wU wU (hF) oD oD (fun _ => wU) (fun _ => ?_)); rw [← HNX.out]))
   exact ⟨⟨j + 1, by omega, rfl, by go_num⟩, by simp [intOf]; omega⟩
end Go.Proofs.YtglpfpdomnllkaaGreat

namespace Go.Proofs.YtglpfpdomnllkaaGreat
open Go.RowKit
set_option maxHeartbeats 8000000
set_option maxRecDepth 100000
theorem pmoved_any (a a2 a3 : Option Addr) (c c2 c3 s : Nat) (F C : List Int) (w : World) (hF : ∀ x ∈ F, 0 ≤ x ∧ x < C.length) (hl : C.length = F.length) (hn : F.length ≤ 1000) (RF : Ints w a2 c2 F) (RC : Ints w a3 c3 C) :
  Calls Tryz.prog 154 #[.agg #[.slice a s c, .slice a2 F.length c2], .slice a3 C.length c3] w fun r w' => ∃ v, r = .returned v ∧ OwnI w.heap.size w' v (F.map (atD 0 C)) ∧ Below w.heap.size w w' := by
 obtain ⟨M, hM⟩ : ∃ M, M = F.map (atD 0 C) := ⟨_, rfl⟩
 have hml : M.length = F.length := by rw [hM, List.length_map]
 have hma : ∀ k : Nat, k < F.length → atD 0 M k = atD 0 C (atD 0 F k) := fun k hk => by rw [hM]; exact atD_mapF (by omega) (by omega)
 rw [← hM]
 have HML := hid hml; have HMA := hid hma; have HF := hid hF; have HCL := hid hl
 have cm := RF.le
 have cm2 := RC.le
 have hcn : C.length ≤ 1000 := by omega
 have hS0 := (SL.nil w).box (.cells #[.slice a s c, .slice a2 F.length c2] 100)
 clear hM hml hma hF hl
 go_enter Tryz.func154, Tryz.ntmps154
 go_wp2_with (first | ((with_reducible refine wpList_makeL (c := cInt) (C.length) (0) E_ints cInt1 wU wU (by omega) (by omega) (hS0) ?_); intro ad1 w1 hS1) | (with_reducible refine wpList_ldB F_sl wU wU (hS1.blk 1 rfl).1 wU ?_))
 have e0 : List.replicate C.length (0 : Int) = fillZ M 0 := by rw [fillZ_zero, HML.out, HCL.out]
 rw [e0] at hS1
 clear e0 hS0
 go_loopw [14] (fun iv wr => ∃ k : Nat, k ≤ F.length ∧ iv = .int .i64 k ∧ SL w.heap.size w wr [pOwn cInt 1 3 (.slice ad1 C.length C.length) (fillZ M k), pBlk w.heap.size (.cells #[.slice a s c, .slice a2 F.length c2] 100)]) (fun iv _ => F.length - (intOf iv).toNat)
 case atStart => exact ⟨0, by omega, rfl, hS1⟩
 case round =>
  clear hS1
  obtain ⟨k, hk, rfl, hSr⟩ := hrel
  by_cases hlt : k < F.length
  ·have hFr := RF.below hSr.b
   have hCr := RC.below hSr.b
   have hrg := HF.out _ (atD_mem hlt)
   have hfl : (fillZ M k).length = C.length := by rw [fillZ_len (by rw [HML.out]; omega), HML.out, HCL.out]
   have hset : (fillZ M k).set k (atD 0 C (atD 0 F k)) = fillZ M (k + 1) := by
    have h := fillZ_set (L := M) (k := k) (by rw [HML.out]; exact hlt)
    rw [HMA.out k hlt] at h
    exact h
   obtain ⟨A, hA⟩ : ∃ A, A = fillZ M k := ⟨_, rfl⟩
   obtain ⟨px, hpx⟩ : ∃ px, px = atD 0 F k := ⟨_, rfl⟩
   rw [← hA] at hSr hfl hset
   rw [← hpx] at hset hrg
   have HFL := hid hfl; have HSET := hid hset; have HPX := hid hpx
   obtain ⟨hm0, hm1⟩ := hrg
   have hkA : (k : Int) < (A.length : Int) := by rw [hfl, HCL.out]; omega
   clear hA hfl hset hpx
   go_wp2_with (first | ((with_reducible refine wpList_idx _ 0 E_ints F_int cInt1 wU wU (hFr) oD oD (fun _ => wU) (fun _ => ?_)); rw [← HPX.out]) | (with_reducible refine wpList_idx _ 0 E_ints F_int cInt1 wU wU (hCr) oD oD (fun _ => wU) (fun _ => ?_)) | ((with_reducible refine wpList_storeL (u := (atD 0 C px)) 0 E_ints cInt1 (sto_int) wU wU (hSr) wU (by first | omega | (simp; done) | (simp; omega)) (by first | omega | (simp; done) | (simp; omega)) (fun _ => wU) (fun _ => wU) ?_); intro _ w2 hS2))
   have hS3 := hS2
   simp only [List.set_cons_zero, Int.toNat_natCast] at hS3
   rw [HSET.out] at hS3
   exact ⟨⟨k + 1, by omega, by go_num, hS3⟩, by simp [intOf]; omega⟩
  ·have hkk : k = F.length := by omega
   have e1 : fillZ M k = M := by rw [hkk, ← HML.out, fillZ_full]
   rw [e1] at hSr
   have hkn : ¬ ((k : Int) < (F.length : Int)) := by omega
   have ho := hSr.own 0 rfl
   have hb := hSr.b
   clear e1 hkk hlt hk hSr
   go_wp2_with fail
   go_ret
   exact ⟨_, rfl, ho, hb⟩
theorem ppower_any (k : Nat) (w : World) (hk : k ≤ 12) : Calls Tryz.prog 107 #[.int .i64 2, .int .i64 k] w fun r w' => r = .returned (.int .i64 ((2 ^ k : Nat) : Int)) ∧ w = w' := by
 obtain ⟨R, hR⟩ : ∃ R, R = 2 ^ k := ⟨_, rfl⟩
 rw [← hR]
 have HR := hid hR
 clear hR
 go_enter Tryz.func107, Tryz.ntmps107
 go_wp2_with fail
 go_loop [7, 5] (fun iv ov => ∃ j z : Nat, j ≤ k ∧ iv = .int .i64 j ∧ ov = .int .i64 z ∧ Aside (z = 2 ^ j)) (fun iv _ => k - (intOf iv).toNat)
 case atStart => exact ⟨0, 1, by omega, rfl, rfl, rfl⟩
 case round =>
  obtain ⟨j, z, hj, rfl, rfl, hz⟩ := hrel
  have hz : z = 2 ^ j := hz
  have hb : z ≤ 4096 := by rw [hz]; exact Nat.pow_le_pow_right (by decide) (by omega : j ≤ 12)
  by_cases hlt : j < k
  ·have hm : IntKind.i64.wrap ((z : Int) * 2) = ((z * 2 : Nat) : Int) := by rw [IntWalk.i64_in _ (by omega)]; omega
   have hz2 : z * 2 = 2 ^ (j + 1) := by rw [hz, Nat.pow_succ]
   have HZ := hid hz2
   obtain ⟨z2, hz3⟩ : ∃ z2, z2 = z * 2 := ⟨_, rfl⟩
   rw [← hz3] at hm
   have HZ3 := hid hz3
   clear hz hz2 hz3
   go_wp2_with fail
   exact ⟨⟨j + 1, z2, by omega, by go_num, rfl, by show z2 = _; rw [HZ3.out]; exact HZ.out⟩, by simp [intOf]; omega⟩
  ·have hjk : j = k := by omega
   have HZ : Hid (z = R) := hid (by rw [hz, hjk, HR.out])
   have hjn : ¬ ((j : Int) < (k : Int)) := by omega
   clear hz hjk hlt hj
   go_wp2_with fail
   go_ret
   exact ⟨by first | rfl | (rw [← HZ.out]; rfl), rfl⟩
theorem classes1_any (b n cap : Nat) (a : Option Addr) (w : World) (hn : n ≤ 12) (hcap : n ≤ cap) (hb : w.cell? ⟨b, 0, none⟩ = some (.int .i64 2)) :
  Calls Tryz.prog 106 #[.slice a n cap, .pointer (some ⟨b, 0, none⟩)] w fun r w' => r = .returned (.int .i64 ((2 ^ n : Nat) : Int)) ∧ w = w' := by
 have HP := hid (fun w => ppower_any n w hn)
 obtain ⟨R, hR⟩ : ∃ R, R = 2 ^ n := ⟨_, rfl⟩
 rw [← hR] at HP ⊢
 clear hR
 go_enter Tryz.func106, Tryz.ntmps106
 go_wp2_with (go_at_call 107; refine (HP.out _).mono ?_; rintro e w' ⟨rfl, rfl⟩)
 go_ret
 exact ⟨rfl, rfl⟩
end Go.Proofs.YtglpfpdomnllkaaGreat

namespace Go.Proofs.YtglpfpdomnllkaaGreat
open Go.RowKit
set_option maxHeartbeats 8000000
set_option maxRecDepth 100000
/-- marks along a cycle. -/
def mkS (F : List Int) (S : List Bool) (k : Nat) : Nat → List Bool
 | 0 => S
 | j + 1 => (mkS F S k j).set (itP F k j).toNat true
structure LenOk (F : List Int) (O : Nat → List Int) (S : Nat → List Bool) (D : Nat → Nat) : Prop where
 o0 : O 0 = []
 s0 : S 0 = List.replicate F.length false
 sl : ∀ k, k ≤ F.length → (S k).length = F.length
 ol : ∀ k, k ≤ F.length → (O k).length ≤ 1000
 old : ∀ k : Nat, k < F.length → atD false (S k) k = true → O (k + 1) = O k ∧ S (k + 1) = S k
 new : ∀ k : Nat, k < F.length → atD false (S k) k = false → O (k + 1) = O k ++ [(ordN F k : Int)] ∧ S (k + 1) = mkS F (S k) k (D k) ∧ (∀ j, j < D k → atD false (mkS F (S k) k j) (itP F k j) = false) ∧ atD false (mkS F (S k) k (D k)) (itP F k (D k)) = true
theorem mkS_len (F : List Int) (S : List Bool) (k : Nat) : ∀ j, (mkS F S k j).length = S.length
 | 0 => rfl
 | j + 1 => by rw [mkS, List.length_set, mkS_len F S k j]
theorem lengths_any (a a2 : Option Addr) (c c2 s : Nat) (F : List Int) (O : Nat → List Int) (S : Nat → List Bool) (D : Nat → Nat) (w : World) (hp : IsP F) (hn : F.length ≤ 1000) (h : LenOk F O S D) (RF : Ints w a2 c2 F) :
  Calls Tryz.prog 153 #[.agg #[.slice a s c, .slice a2 F.length c2]] w fun r w' => ∃ v, r = .returned v ∧ OwnI w.heap.size w' v (O F.length) ∧ Below w.heap.size w w' := by
 have cm := RF.le
 have HCY := hid (fun (k : Nat) (hk : k < F.length) w RF => pcycle_any a a2 c c2 s F k w hp hn (by omega) (by omega) RF)
 have HRG := hid (fun (k : Nat) (hk : k < F.length) j => itP_rng hp (i := (k : Int)) (by omega) (by omega) j)
 have HOK := hid h
 have hS0 := (SL.nil w).box (.cells #[.slice a s c, .slice a2 F.length c2] 100)
 clear h hp
 go_enter Tryz.func153, Tryz.ntmps153
 go_wp2_with (first | ((with_reducible refine wpList_makeL (c := cBool) (F.length) (false) E_bools cBool1 wU wU (by omega) (by omega) (hS0) ?_); intro ad1 w1 hS1) | (with_reducible refine wpList_ldB F_sl wU wU (hS1.blk 1 rfl).1 wU ?_) | (with_reducible refine wpList_ldB F_sl wU wU (hS0.blk 0 rfl).1 wU ?_))
 rw [← HOK.out.s0] at hS1
 have hS2 := hS1.nilS (α := Int) (e := 3) cIntS
 clear hS0 hS1
 go_loopw [14, 3] (fun iv ov wr => ∃ k : Nat, k ≤ F.length ∧ iv = .int .i64 k ∧ SL w.heap.size w wr [pOwn cInt 1 3 ov (O k), pOwn cBool 1 4 (.slice ad1 F.length F.length) (S k), pBlk w.heap.size (.cells #[.slice a s c, .slice a2 F.length c2] 100)]) (fun iv _ _ => F.length - (intOf iv).toNat)
 case atStart => exact ⟨0, by omega, rfl, by rw [HOK.out.o0]; exact hS2⟩
 case round =>
  clear hS2
  obtain ⟨k, hk, rfl, hSr⟩ := hrel
  by_cases hlt : k < F.length
  ·have hsl := HOK.out.sl k (by omega)
   have hol := HOK.out.ol k (by omega)
   have hold := HOK.out.old k hlt
   have hnew := HOK.out.new k hlt
   have hRB := hSr.rd 1 rfl
   have q := (hSr.blk 2 rfl).1
   have hFr := RF.below hSr.b
   have hCY := HCY.out k hlt
   have hRG := HRG.out k hlt
   obtain ⟨Ok, hOk⟩ : ∃ Ok, Ok = O k := ⟨_, rfl⟩
   obtain ⟨Sk, hSk⟩ : ∃ Sk, Sk = S k := ⟨_, rfl⟩
   rw [← hOk] at hSr hol
   rw [← hSk] at hSr hsl hRB hold hnew
   rw [← hOk] at hold hnew
   have HSL := hid hsl
   clear hOk hSk hsl
   cases hin : atD false Sk (k : Int) with
   | true =>
    obtain ⟨ho1, hs1⟩ := hold hin
    have HIN := hid hin; have HO1 := hid ho1; have HS1 := hid hs1
    have HCY2 := hid hCY; have HRG2 := hid hRG
    clear hin ho1 hs1 hold hnew hCY hRG
    go_wp2_with ((with_reducible refine wpList_idxN _ false E_bools F_bool cBool1 wU wU (hRB) (HSL.out) oD oD (fun _ => wU) (fun _ => ?_)); rw [HIN.out])
    exact ⟨⟨k + 1, by omega, by go_num, by rw [HO1.out, HS1.out]; exact hSr⟩, by simp [intOf]; omega⟩
   | false =>
    obtain ⟨ho1, hs1, hlo, hhi⟩ := hnew hin
    obtain ⟨d, hd⟩ : ∃ d, d = D k := ⟨_, rfl⟩
    obtain ⟨od, hod⟩ : ∃ od : Nat, od = ordN F k := ⟨_, rfl⟩
    rw [← hd] at hs1 hlo hhi
    rw [← hod] at ho1 hCY
    have HIN := hid hin; have HO1 := hid ho1; have HS1 := hid hs1; have HLO := hid hlo; have HHI := hid hhi; have HC := hid hCY; have HRG2 := hid hRG
    clear hin ho1 hs1 hlo hhi hold hnew hCY hRG hd hod
    go_wp2_with (first | ((with_reducible refine wpList_idxN _ false E_bools F_bool cBool1 wU wU (hRB) (HSL.out) oD oD (fun _ => wU) (fun _ => ?_)); rw [HIN.out]) | (with_reducible refine wpList_ldS (n := 4) (us := #[.slice a s c, .slice a2 F.length c2]) A_sch kR wU wU (by assumption) wU wU ?_) | (with_reducible refine wpList_ldS (n := 2) (us := #[.slice a s c, .slice a2 F.length c2]) A_sch kR wU wU (by assumption) wU wU ?_))
    refine (HC.out _ hFr).mono ?_
    rintro e w3 ⟨rfl, b3⟩
    have hS3 := hSr.mono b3
    clear hSr hRB q hFr b3
    go_wp2_with ((with_reducible refine wpList_pushL (y := (od : Int)) 0 E_ints wU wU (hS3) wU cIntO ⟨rfl, rfl⟩ (by first | with_unfolding_all rfl | simp) wU (by first | omega | (simp; omega)) (by first | omega | (simp; omega)) ?_); intro v5 w5 hS5)
    have hS6 := hS5
    simp only [List.set_cons_zero] at hS6
    rw [← HO1.out] at hS6
    clear hS5 hS3
    go_loopg [6] d (fun g av wt => ∃ j : Nat, j + g = d ∧ av = .int .i64 (itP F k j) ∧ SL w.heap.size w wt [pOwn cInt 1 3 v5 (O (k + 1)), pOwn cBool 1 4 (.slice ad1 F.length F.length) (mkS F Sk k j), pBlk w.heap.size (.cells #[.slice a s c, .slice a2 F.length c2] 100)])
    case atStart => exact ⟨0, by omega, rfl, hS6⟩
    case round =>
     clear hS6
     obtain ⟨j, hjg, rfl, hSt⟩ := hrel
     obtain ⟨hi0, hi1⟩ := HRG2.out j
     have hRB := hSt.rd 1 rfl
     have q := (hSt.blk 2 rfl).1
     have hFr := RF.below hSt.b
     have hml : (mkS F Sk k j).length = F.length := by rw [mkS_len, HSL.out]
     have hlo := HLO.out j
     have hhi := HHI.out
     have hnx : itP F k (j + 1) = atD 0 F (itP F k j) := rfl
     have hmk : mkS F Sk k (j + 1) = (mkS F Sk k j).set (itP F k j).toNat true := rfl
     by_cases hjd : j < d
     ·have hsn := hlo hjd
      obtain ⟨M, hM⟩ : ∃ M, M = mkS F Sk k j := ⟨_, rfl⟩
      obtain ⟨x, hx⟩ : ∃ x, x = itP F k j := ⟨_, rfl⟩
      rw [← hM] at hSt hRB hml hsn hmk
      rw [← hx] at hi0 hi1 hsn hnx hmk
      rw [← hx]
      have HML := hid hml; have HSN := hid hsn; have HNX := hid hnx; have HMK := hid hmk; have HJG := hid hjg
      have hxM : x < (M.length : Int) := by rw [hml]; exact hi1
      clear hM hx hml hsn hnx hmk hlo hhi
      go_wp2_with (first | ((with_reducible refine wpList_idxN _ false E_bools F_bool cBool1 wU wU (hRB) (HML.out) oD oD (fun _ => wU) (fun _ => ?_)); rw [HSN.out]) | ((with_reducible refine wpList_storeL (u := true) 1 E_bools cBool1 (sto_bool) wU wU (hSt) wU (by first | omega | (simp; done) | (simp; omega)) (by first | omega | (simp; done) | (simp; omega)) (fun _ => wU) (fun _ => wU) ?_); intro _ w7 hS7) | (with_reducible refine wpList_ldB F_sl wU wU (hS7.blk 2 rfl).1 wU ?_) | ((with_reducible refine wpList_idx _ 0 E_ints F_int cInt1 wU wU ((RF.below hS7.b)) oD oD (fun _ => wU) (fun _ => ?_)); rw [← HNX.out]))
      have hS8 := hS7
      simp only [List.set_cons_zero, List.set_cons_succ] at hS8
      rw [← HMK.out] at hS8
      have hjg2 := HJG.out
      go_roundg (gk - 1)
      case measure => omega
      case rel => exact ⟨j + 1, by omega, rfl, hS8⟩
     ·have hje : j = d := by omega
      subst hje
      have hsn := hhi
      rw [← HS1.out] at hSt hRB hml hsn
      have HSN := hid hsn; have HML := hid hml
      clear hml hsn hnx hmk hlo hhi hjd
      go_wp2_with ((with_reducible refine wpList_idxN _ false E_bools F_bool cBool1 wU wU (hRB) (HML.out) oD oD (fun _ => wU) (fun _ => ?_)); rw [HSN.out])
      exact ⟨⟨k + 1, by omega, by go_num, hSt⟩, by simp [intOf]; omega⟩
  ·have hkk : k = F.length := by omega
   rw [hkk] at hSr
   have hkn : ¬ ((k : Int) < (F.length : Int)) := by omega
   have ho := hSr.own 0 rfl
   have hb := hSr.b
   clear hkk hlt hk hSr
   go_wp2_with fail
   go_ret
   exact ⟨_, rfl, ho, hb⟩
end Go.Proofs.YtglpfpdomnllkaaGreat
