/- Contracts and plain facts that the claim uses (QrH MtP HaP HaQ Hp1). Conditions: as each one states. -/
import Derived.RangeFuncNested
import Derived.RangeFuncBound
import Derived.RangeFuncCalls
import Derived.RangeFuncLeaves
import Derived.RangeFuncFrom
import Derived.Shelf.Abstract
import Derived.Shelf.RegionOpen
import Derived.WalkKit
import Derived.OwnWalkIn
import Derived.TacticsInMore
import Derived.LoopNIn
import Derived.LoopIn
import Derived.Test.YtddkdgodgflmlaaGreatDoorProg
import Derived.WalkSpells
import Derived.Maps.AppendAt
import Derived.Deep.Quiet
import Derived.Maps.Own
import Derived.Maps.OwnSet
import Derived.Maps.Views
import Derived.WalkLawsBesides
import Derived.Laws.EntriesVeiled
import Derived.Deep.QuietTactic
import Derived.BigQuiet
import Derived.Shelf.Strings.Trim
import Derived.Shelf.Strings.SlTrimAscii
import Derived.Shelf.Strings.Repeat
import Derived.Shelf.Strings.OnBuilder
import Derived.Shelf.Strconv.Itoa1
import Derived.Shelf.Strconv.Itoa3
import Derived.Shelf.LaysM
import Derived.Ground.Names2Prog
import Derived.Lib.OthersKept
import Derived.Deep.RegionHeld3
import Derived.Deep.AppendLies
import Derived.Deep.RegionHeldLaw
import Derived.Deep.RegionLaw
import Derived.StillTail
import Derived.Laws.Tables
import Derived.IntWalk
import Derived.Laws.CopyOwn
import Derived.BigRegion
import Derived.ChangeAlike
import Derived.Shelf.Bits.Mul64
import Derived.Lib.ItoaLen
import Derived.Lib.ItoaMem
import Derived.Sort.LoopGhostIn
import Derived.Maps.RangeWalk
import Derived.Deep.LoopGhost
import Derived.Maps.Ext
import Derived.Sort.QuietThIn
import Derived.Lib.Split
import Derived.Lib.AtoiAll
import Derived.Lib.AppendIntMem
import Derived.Lib.SmallJoins
import Derived.LaidSub
import Derived.Lib.LaidTab
import Derived.Lib.AtoiErrMem
import Derived.Stop.LaidErr
import Derived.ReadAgain
import Derived.ChangeSlices
import Derived.OpenShut
import Derived.ProofKit
import Derived.Deep.DeepHandedRow
import Derived.Deep.SlicePairs
import Derived.Test.YtddkdgodgflmlaaGreatDoorXz01
import Derived.Test.YtddkdgodgflmlaaGreatDoorXz02
import Derived.Test.YtddkdgodgflmlaaGreatDoorXz03
import Derived.Test.YtddkdgodgflmlaaGreatDoorXz04
import Derived.Test.YtddkdgodgflmlaaGreatDoorXz05
import Derived.Test.YtddkdgodgflmlaaGreatDoorY7501
import Derived.Test.YtddkdgodgflmlaaGreatDoorY7502
set_option linter.all false

namespace Go.Proofs.YtddkdgodgflmlaaGreatDoor
open Go.RowKit
set_option maxHeartbeats 8000000
set_option maxRecDepth 100000
theorem ne_atI {l : List Int} (h : l.Nodup) {i j : Nat} (hi : i < l.length) (hj : j < l.length) (hij : j < i) : atD 0 l j ≠ atD 0 l i := by
 have ei : atD 0 l i = l[i] := by simp [atD, hi]
 have ej : atD 0 l j = l[j] := by simp [atD, hj]
 rw [ei, ej]
 intro e
 have := (List.getElem_inj h).1 e
 omega
end Go.Proofs.YtddkdgodgflmlaaGreatDoor

namespace Go.Proofs.YtddkdgodgflmlaaGreatDoor
set_option maxRecDepth 100000
theorem first_is {m : MacV} {l : List Int} {v : Nat × Int} (h : firstM m l = some v) : ∃ p ∈ pairsTo l l.length, meetM m p.1 p.2 = some v := by
 obtain ⟨_, s2⟩ := foldF_spec m (pairsTo l l.length) none
 obtain ⟨_, _, k3⟩ := s2 _ h
 rcases k3 with k3 | k3
 ·cases k3
 ·exact k3
/-- the first meeting comes within 576 steps, with up to six gears. -/
theorem first_soon {m : MacV} (hg : m.gears ≤ 6) {l : List Int} (hl : ∀ x ∈ l, 0 ≤ x ∧ x < 4 * m.gears) {v : Nat × Int} (h : firstM m l = some v) : v.1 < 800 := by
 obtain ⟨p, hp, e⟩ := first_is h
 obtain ⟨⟨a0, a1⟩, b0, b1⟩ := pair_rng hl hp
 obtain ⟨d, hd⟩ := ordM a0 a1
 obtain ⟨q, hq⟩ := ordM b0 b1
 have h1 := hd.le
 have h2 := hq.le
 rw [permM_len] at h1 h2
 have hL : q * d ≤ 24 * 24 := Nat.mul_le_mul (by omega) (by omega)
 have hpos : 0 < q * d := Nat.mul_pos hq.pos hd.pos
 have hs := meetM_spec m p.1 p.2
 rw [e] at hs
 obtain ⟨n, pl⟩ := v
 obtain ⟨s1, _, s3⟩ := hs
 have hb1 : itM m p.1 (q * d) = p.1 := itP_mul hd.back q
 have hb2 : itM m p.2 (q * d) = p.2 := by rw [Nat.mul_comm]; exact itP_mul hq.back d
 show n < 800
 by_cases hc : n < q * d
 ·omega
 ·have e1 : n = (n - q * d) + q * d := by omega
  have k1 : itM m p.1 n = itM m p.1 (n - q * d) := by
   unfold itM at hb1 ⊢
   conv => lhs; rw [e1, itP_add, hb1]
  have k2 : itM m p.2 n = itM m p.2 (n - q * d) := by
   unfold itM at hb2 ⊢
   conv => lhs; rw [e1, itP_add, hb2]
  rw [k1, k2, s3 (n - q * d) (by omega)] at s1
  cases s1
theorem itM_add (m : MacV) (s : Int) (a b : Nat) : itM m (itM m s b) a = itM m s (a + b) := by unfold itM; rw [itP_add]
/-- carriers some steps later. -/
theorem later_acc {m : MacV} {l : List Int} (h : LoadOk m l) (hf : firstM m l = none) (k : Nat) : firstM m (atL m l k) = none := by
 have hA := (first_all h.nodup).1 hf
 refine (first_all (atL_nodup h.rng h.nodup k)).2 ?_
 intro x hx y hy hxy
 obtain ⟨a, ha, rfl⟩ := List.mem_map.1 hx
 obtain ⟨b, hb, rfl⟩ := List.mem_map.1 hy
 have hab : a ≠ b := fun e => hxy (by rw [e])
 rw [meet_none_iff]
 intro j
 rw [itM_add, itM_add]
 exact (meet_none_iff.1 (hA a ha b hb hab)) (j + k)
end Go.Proofs.YtddkdgodgflmlaaGreatDoor

namespace Go.Proofs.YtddkdgodgflmlaaGreatDoor
set_option maxRecDepth 100000
theorem meetM_symm (m : MacV) (a b : Int) : meetM m a b = meetM m b a := by
 refine (meetM_spec m a b).eq ?_
 have h := meetM_spec m b a
 cases hm : meetM m b a with
 | none => rw [hm] at h; intro k; rw [hitM_symm]; exact h k
 | some v =>
  obtain ⟨n, p⟩ := v
  rw [hm] at h
  obtain ⟨h1, h2, h3⟩ := h
  refine ⟨by rw [hitM_symm]; exact h1, ?_, fun k hk => by rw [hitM_symm]; exact h3 k hk⟩
  rw [h2]
  unfold hitM at h1
  simp only [Bool.and_eq_true, decide_eq_true_eq] at h1
  exact h1.2
theorem first_pair (m : MacV) (a b : Int) : firstM m [a, b] = meetM m a b := by
 have e : pairsTo [a, b] 2 = [(b, a)] := by simp [pairsTo, atD, List.range_succ]
 show firstTo m (pairsTo [a, b] 2) = _
 rw [e, meetM_symm m a b]
 unfold firstTo bestS
 simp only [List.foldl_cons, List.foldl_nil]
 cases meetM m b a <;> rfl
/-- a meeting, some steps earlier. -/
def earV (k : Nat) (v : Nat × Int) : Nat × Int := (v.1 - k, v.2)
theorem meet_ear {m : MacV} {a b : Int} {k n : Nat} {p : Int} (h : meetM m a b = some (n, p)) (hk : k ≤ n) : meetM m (itM m a k) (itM m b k) = some (n - k, p) := by
 have hs := meetM_spec m a b
 rw [h] at hs
 obtain ⟨h1, h2, h3⟩ := hs
 refine (meetM_spec m _ _).eq ⟨?_, ?_, fun j hj => ?_⟩
 ·rw [itM_add, itM_add, Nat.sub_add_cancel hk]; exact h1
 ·rw [itM_add, Nat.sub_add_cancel hk]; exact h2
 ·rw [itM_add, itM_add]; exact h3 _ (by omega)
theorem meet_later_some {m : MacV} {a b : Int} (a0 : 0 ≤ a) (a1 : a < 4 * m.gears) (b0 : 0 ≤ b) (b1 : b < 4 * m.gears) {v : Nat × Int} (h : meetM m a b = some v) (k : Nat) : meetM m (itM m a k) (itM m b k) ≠ none := by
 intro hn
 obtain ⟨n, p⟩ := v
 have hs := meetM_spec m a b
 rw [h] at hs
 obtain ⟨L, hL, ha, hb⟩ := meet_per a0 a1 b0 b1
 have hN := meetM_spec m (itM m a k) (itM m b k)
 rw [hn] at hN
 have hj := hN (n + k * L - k)
 have hkl : k ≤ k * L := Nat.le_mul_of_pos_right k hL
 rw [itM_add, itM_add, Nat.sub_add_cancel (by omega)] at hj
 have key : ∀ s, itM m s L = s → itM m s (n + k * L) = itM m s n := by
  intro s hs
  rw [← itM_add]
  have : itM m s (k * L) = s := itP_mul hs k
  rw [this]
 rw [key a ha, key b hb, hs.1] at hj
 cases hj
theorem befo_ear {k : Nat} {v w : Nat × Int} (hv : k ≤ v.1) (hw : k ≤ w.1) : befo (earV k v) (earV k w) = befo v w := by
 unfold befo earV
 dsimp only
 rw [show decide (v.1 - k < w.1 - k) = decide (v.1 < w.1) from decide_eq_decide.2 (by omega), show decide (v.1 - k = w.1 - k) = decide (v.1 = w.1) from decide_eq_decide.2 (by omega)]
theorem fold_ear {m : MacV} {k : Nat} : ∀ (ps : List (Int × Int)) (b : Option (Nat × Int)), (∀ p ∈ ps, ∀ v, meetM m p.1 p.2 = some v → k ≤ v.1) → (∀ p ∈ ps, meetM m p.1 p.2 = none → meetM m (itM m p.1 k) (itM m p.2 k) = none) → (∀ v, b = some v → k ≤ v.1) →
  (ps.map fun p => (itM m p.1 k, itM m p.2 k)).foldl (fun b p => bestS b (meetM m p.1 p.2)) (b.map (earV k)) = (ps.foldl (fun b p => bestS b (meetM m p.1 p.2)) b).map (earV k)
 | [], b, _, _, _ => rfl
 | p :: ps, b, h1, h2, h3 => by
   rw [List.map_cons, List.foldl_cons, List.foldl_cons]
   have e : bestS (b.map (earV k)) (meetM m (itM m p.1 k) (itM m p.2 k)) = (bestS b (meetM m p.1 p.2)).map (earV k) := by
     cases hm : meetM m p.1 p.2 with
     | none => rw [h2 p (by simp) hm]; cases b <;> rfl
     | some v =>
       have hv := h1 p (by simp) v hm
       rw [meet_ear (n := v.1) (p := v.2) hm hv]
       cases b with
       | none => rfl
       | some w =>
         have hw := h3 w rfl
         show (if befo (earV k v) (earV k w) then some (earV k v) else some (earV k w)) = (if befo v w then some v else some w).map (earV k)
         rw [befo_ear hv hw]
         split <;> rfl
   dsimp only
   rw [e]
   refine fold_ear ps _ (fun q hq => h1 q (by simp [hq])) (fun q hq => h2 q (by simp [hq])) ?_
   intro v hv
   cases hm : meetM m p.1 p.2 with
   | none => rw [hm] at hv; exact h3 v hv
   | some u =>
     rw [hm] at hv
     have hu := h1 p (by simp) u hm
     cases b with
     | none => cases hv; exact hu
     | some w =>
       have hw := h3 w rfl
       unfold bestS at hv
       dsimp only at hv
       split at hv <;> cases hv
       · exact hu
       · exact hw
/-- the first meeting some steps later, as long as it is still to come. -/
theorem first_ear {m : MacV} {l : List Int} {n k : Nat} {p : Int} (h : firstM m l = some (n, p)) (hk : k ≤ n) : firstM m (atL m l k) = some (n - k, p) := by
 obtain ⟨s1, s2⟩ := foldF_spec m (pairsTo l l.length) none
 obtain ⟨_, k2, _⟩ := s2 _ h
 have hlow : ∀ q ∈ pairsTo l l.length, ∀ v, meetM m q.1 q.2 = some v → k ≤ v.1 := by
  intro q hq v hv
  have := befo_false.1 (k2 q hq v hv)
  dsimp only at this
  omega
 have hno : ∀ q ∈ pairsTo l l.length, meetM m q.1 q.2 = none → meetM m (itM m q.1 k) (itM m q.2 k) = none := by
  intro q _ hq
  rw [meet_none_iff] at hq ⊢
  intro j
  rw [itM_add, itM_add]
  exact hq _
 have e := fold_ear (m := m) (k := k) (pairsTo l l.length) none hlow hno (fun v hv => by cases hv)
 show firstTo m (pairsTo (atL m l k) (atL m l k).length) = _
 have hl : (atL m l k).length = l.length := by unfold atL; rw [List.length_map]
 rw [hl]
 unfold atL
 rw [pairsTo_map2 (Nat.le_refl _)]
 unfold firstTo
 refine e.trans ?_
 have h2 : (pairsTo l l.length).foldl (fun b p => bestS b (meetM m p.1 p.2)) none = some (n, p) := h
 rw [h2]
 rfl
theorem first_still {m : MacV} {l : List Int} (hl : ∀ x ∈ l, 0 ≤ x ∧ x < 4 * m.gears) {v : Nat × Int} (h : firstM m l = some v) (k : Nat) : firstM m (atL m l k) ≠ none := by
 intro hn
 obtain ⟨q, hq, hv⟩ := first_is h
 have hr := pair_rng hl hq
 obtain ⟨s1, _⟩ := foldF_spec m (pairsTo (atL m l k) (atL m l k).length) none
 obtain ⟨_, s3⟩ := s1 hn
 have hl2 : (atL m l k).length = l.length := by unfold atL; rw [List.length_map]
 refine meet_later_some hr.1.1 hr.1.2 hr.2.1 hr.2.2 hv k (s3 (itM m q.1 k, itM m q.2 k) ?_)
 rw [hl2]
 unfold atL
 rw [pairsTo_map2 (Nat.le_refl _)]
 exact List.mem_map.2 ⟨q, hq, rfl⟩
/-- what the first list of a law keeps of the best meeting so far. -/
def bestN (o : Option (Nat × Int)) : Int := match o with | some v => (v.1 : Int) | none => -1
def bestP (o : Option (Nat × Int)) : Int := match o with | some v => v.2 | none => 0
theorem meet3_none {m : MacV} {l : List Int} (h : loadE m l = 0) (hf : firstM m l = none) : meet3 m l = (0, 0, 7) := by
 unfold meet3; rw [if_neg (by simp [h]), hf]
theorem meet3_some {m : MacV} {l : List Int} (h : loadE m l = 0) {v : Nat × Int} (hf : firstM m l = some v) : meet3 m l = (v.1, v.2, 0) := by
 unfold meet3; rw [if_neg (by simp [h]), hf]
theorem best_step (o : Option (Nat × Int)) (v : Nat × Int) : bestS o (some v) = if bestN o < 0 ∨ (v.1 : Int) < bestN o ∨ ((v.1 : Int) = bestN o ∧ v.2 < bestP o) then some v else o := by
 cases o with
 | none => simp [bestS, bestN]
 | some w =>
  show (if befo v w then some v else some w) = _
  unfold befo bestN bestP
  dsimp only
  by_cases h : v.1 < w.1 ∨ (v.1 = w.1 ∧ v.2 < w.2)
  ·rw [if_pos (by simp only [Bool.or_eq_true, Bool.and_eq_true, decide_eq_true_eq]; exact h), if_pos (by omega)]
  ·rw [if_neg (by simp only [Bool.or_eq_true, Bool.and_eq_true, decide_eq_true_eq]; exact h), if_neg (by omega)]
theorem two_load {m : MacV} {l : List Int} (h : LoadOk m l) {a b : Int} (ha : 0 ≤ a ∧ a < 4 * m.gears) (hb : 0 ≤ b ∧ b < 4 * m.gears) (hne : a ≠ b) : loadE m [a, b] = 0 :=
 loadE_ok h.mac (fun x hx => by rcases List.mem_cons.1 hx with rfl | hx; exact ha; rw [List.mem_singleton.1 hx]; exact hb) (by simp [hne])
theorem free_mem {m : MacV} {l : List Int} {s : Int} (h : s ∈ freeM m l) : (0 ≤ s ∧ s < 4 * m.gears) ∧ apartM m s l = true := by
 unfold freeM at h
 obtain ⟨h1, h2⟩ := List.mem_filter.1 h
 refine ⟨?_, h2⟩
 unfold slotsL at h1
 obtain ⟨i, hi, rfl⟩ := List.mem_map.1 h1
 have := List.mem_range.1 hi
 omega
theorem free_all {m : MacV} {l : List Int} (h : LoadOk m l) (hf : firstM m l = none) {s : Int} (hs : s ∈ freeM m l) : accE m (l ++ [s]) = 0 := by
 obtain ⟨hr, ha⟩ := free_mem hs
 rw [acc_snoc h hf hr.1 hr.2 (apart_out ha), if_pos ha]
theorem free_one {m : MacV} {l : List Int} (h : LoadOk m l) {s : Int} (hs : s ∈ freeM m l) {x : Int} (hx : x ∈ l) : accE m [x, s] = 0 := by
 obtain ⟨hr, ha⟩ := free_mem hs
 have hxr := h.rng x hx
 obtain ⟨hne, hm⟩ := (apart_iff.1 ha) x hx
 have h1 : loadE m [x] = 0 := loadE_ok h.mac (fun y hy => by rw [List.mem_singleton.1 hy]; exact hxr) (by simp)
 have h2 := loadE_zero h1
 have h3 : firstM m [x] = none := (first_all h2.nodup).2 fun a ha b hb hab => absurd ((List.mem_singleton.1 ha).trans (List.mem_singleton.1 hb).symm) hab
 have := acc_snoc h2 h3 hr.1 hr.2 (s := s) (by simp; exact fun e => hne e.symm)
 rw [show [x] ++ [s] = [x, s] from rfl] at this
 rw [this, if_pos (apart_iff.2 fun b hb => by rw [List.mem_singleton.1 hb]; exact ⟨hne, hm⟩)]
end Go.Proofs.YtddkdgodgflmlaaGreatDoor

namespace Go.Proofs.YtddkdgodgflmlaaGreatDoor
open Go.RowKit
theorem cells2 {w : World} {al : Option Addr} {cl : Nat} {l : List Int} (h : Ints w al cl l) {a b : Nat} (ha : a < l.length) (hb : b < l.length) : ∃ b0 o0, al = some ⟨b0, o0, none⟩ ∧ w.cell? ⟨b0, o0 + (a : Int).toNat * 1, none⟩ = some (.int .i64 (atD 0 l a)) ∧ w.cell? ⟨b0, o0 + (b : Int).toNat * 1, none⟩ = some (.int .i64 (atD 0 l b)) := by
 obtain ⟨b0, o0, rfl, hc⟩ := h.cells E_ints.pos 0 a ha
 obtain ⟨b1, o1, e, hd⟩ := h.cells E_ints.pos 0 b hb
 cases e
 refine ⟨b0, o0, rfl, ?_, ?_⟩
 ·have := hc 0 (.int .i64 (atD 0 l a)) rfl
  simpa [atD] using this
 ·have := hd 0 (.int .i64 (atD 0 l b)) rfl
  simpa [atD] using this
end Go.Proofs.YtddkdgodgflmlaaGreatDoor

namespace Go.Proofs.YtddkdgodgflmlaaGreatDoor
open Go.RowKit
set_option maxHeartbeats 8000000
set_option maxRecDepth 100000
theorem hp_none (m : MacV) (ad al : Option Addr) (cap cl : Nat) (l : List Int) (n : Int) (w : World) (hR : Ints w ad cap m.sw) (hL : Ints w al cl l) (hI : InI m.gears) (hf : Fits m l 6 6) (hn0 : 0 ≤ n) (hn1 : n ≤ 400) (hfm : firstM m l = none) :
  Calls Tryz.prog 5 #[mV m ad cap, .slice al l.length cl, .int .i64 n] w fun r w' => r = .returned (.bool true) ∧ Below w.heap.size w w' := by
 have hS0 := (SL.nil w).box (.cells (mC m ad cap) 45)
 have HT := hid hawserTurns_any
 have hlc := hL.le
 have hlm := hL.max
 obtain ⟨N, rfl⟩ : ∃ N : Nat, n = N := ⟨n.toNat, by omega⟩
 have he := hf.2.2.2
 have hlk := loadE_zero he
 have hok := hlk.ok
 have hl6 := hf.2.2.1
 have hlo := hok.lo
 have hhi := hok.hi
 have hl64 : l.length ≤ 6 := by omega
 have KL : ∀ (a : Option Addr) (c : Nat) (q : List Int), ChkL m ad cap a c q := fun a c q => CheckLoad_any m ad cap a c q fun w h => CheckMachine_any m ad cap w h hI
 have CME := fun w h h2 => mMeet_any m ad cap al cl l w h h2 (KL _ _ _)
 rw [meet3_none he hfm] at CME
 have CS : ∀ w, Ints w ad cap m.sw → Ints w al cl l → Calls Tryz.prog 24 #[mV m ad cap, .slice al l.length cl, .int .i64 N] w fun r w' => ∃ v, r = .returned (.tuple #[v, .int .i64 0]) ∧ OwnI w.heap.size w' v (atL m l N) ∧ Below w.heap.size w w' := by
  intro w h h2
  have h3 := mSteps_any m ad cap al cl l N w h h2 (KL _ _ _)
  have hs : stepsE m l N = 0 := by unfold stepsE; rw [if_neg (by simp [he]), if_neg (by omega)]
  rw [hs, if_pos rfl] at h3
  exact h3
 have hal : (atL m l N).length = l.length := atL_len m l N
 have CL : ∀ (a : Option Addr) (c : Nat) w, Ints w a c (atL m l N) → Calls Tryz.prog 31 #[mV m ad cap, .slice a l.length c] w fun r w' => r = .returned (.int .i64 0) ∧ Below w.heap.size w w' := by
  intro a c w h
  have h3 := rCheckLoad_any m ad cap a c (atL m l N) w h hlo hhi
  rw [load_chk hlk.mac, atL_load hlk N, hal] at h3
  exact h3
 have CM2 : ∀ (a : Option Addr) (c : Nat) w, Ints w ad cap m.sw → Ints w a c (atL m l N) → Calls Tryz.prog 30 #[mV m ad cap, .slice a l.length c] w fun r w' => r = .returned (.tuple #[.int .i64 0, .int .i64 0, .int .i64 7]) ∧ Below w.heap.size w w' := by
  intro a c w h h2
  have h3 := mMeet_any m ad cap a c (atL m l N) w h h2 (KL _ _ _)
  rw [hal] at h3
  rw [meet3_none (atL_load hlk N) (later_acc hlk hfm N)] at h3
  exact h3
 have CPR : ∀ (X Y : Int), X ∈ l → Y ∈ l → X ≠ Y → ∀ (a : Option Addr) w, Ints w ad cap m.sw → Ints w a 2 [X, Y] → Calls Tryz.prog 30 #[mV m ad cap, .slice a 2 2] w fun r w' => r = .returned (match meetM m X Y with | none => .tuple #[.int .i64 0, .int .i64 0, .int .i64 7] | some v => .tuple #[.int .i64 (v.1 : Nat), .int .i64 v.2, .int .i64 0]) ∧ Below w.heap.size w w' := by
  intro X Y hX hY hne a w h h2
  have hz := two_load hlk (hlk.rng X hX) (hlk.rng Y hY) hne
  have h3 := mMeet_any m ad cap a 2 [X, Y] w h h2 (KL _ _ _)
  cases hm : meetM m X Y with
  | none => rw [meet3_none hz (by rw [first_pair, hm])] at h3; exact h3
  | some v => rw [meet3_some hz (by rw [first_pair, hm])] at h3; exact h3
 have hacc : accE m l = 0 := by unfold accE; rw [if_neg (by simp [he]), hfm]; rfl
 have CFR := fun w h h2 => mFree_any m ad cap al cl l w h h2 (KL _ _ _)
 rw [hacc, if_pos rfl] at CFR
 have CA1 : ∀ k : Nat, k < (freeM m l).length → ∀ (a : Option Addr) (c : Nat) w, Ints w ad cap m.sw → Ints w a c (l ++ [atD 0 (freeM m l) k]) → Calls Tryz.prog 33 #[mV m ad cap, .slice a (l ++ [atD 0 (freeM m l) k]).length c] w fun r w' => r = .returned (.int .i64 0) ∧ Below w.heap.size w w' := by
  intro k hk a c w h h2
  have h3 := mAccept_any m ad cap a c (l ++ [atD 0 (freeM m l) k]) w h h2 (KL _ _ _)
  rw [free_all hlk hfm (atD_mem hk)] at h3
  exact h3
 have CA2 : ∀ k : Nat, k < (freeM m l).length → ∀ j : Nat, j < l.length → ∀ (a : Option Addr) w, Ints w ad cap m.sw → Ints w a 2 [atD 0 l j, atD 0 (freeM m l) k] → Calls Tryz.prog 33 #[mV m ad cap, .slice a 2 2] w fun r w' => r = .returned (.int .i64 0) ∧ Below w.heap.size w w' := by
  intro k hk j hj a w h h2
  have h3 := mAccept_any m ad cap a 2 [atD 0 l j, atD 0 (freeM m l) k] w h h2 (KL _ _ _)
  rw [free_one hlk (atD_mem hk) (atD_mem hj)] at h3
  exact h3
 obtain ⟨FL, hFL⟩ : ∃ FL, FL = freeM m l := ⟨_, rfl⟩
 rw [← hFL] at CFR
 simp only [← hFL] at CA1 CA2
 have HFR := hid CFR; have HA1 := hid CA1; have HA2 := hid CA2
 clear CFR CA1 CA2 hFL hacc
 have HST : Hid (∀ (i j : Nat), j < l.length → firstTo m (pairsAt l i (j + 1)) = bestS (firstTo m (pairsAt l i j)) (meetM m (atD 0 l i) (atD 0 l j))) := hid fun i j h => first_step m h
 have hF1 : firstTo m (pairsTo l l.length) = none := hfm
 have hF0 : firstTo m (pairsTo l 0) = none := rfl
 obtain ⟨F, hF⟩ : ∃ F : List (Int × Int) → Option (Nat × Int), ∀ ps, F ps = firstTo m ps := ⟨_, fun _ => rfl⟩
 rw [← hF] at hF1 hF0
 have HF1 := hid hF1; have HF0 := hid hF0; have HFF := hid hF
 have HNE : Hid (∀ (a b : Nat), a < l.length → b < a → atD 0 l b ≠ atD 0 l a) := hid fun a b ha hb => ne_atI hlk.nodup ha (by omega) hb
 have HIN : Hid (∀ a : Nat, a < l.length → atD 0 l a ∈ l) := hid fun a ha => atD_mem ha
 have HF := hid (fun w h h2 => tfits_ok m ad al cap cl l 6 6 w h h2 hf)
 have HME := hid CME; have HS := hid CS; have HCL := hid CL; have HM2 := hid CM2; have HPR := hid CPR; have HAL := hid hal
 clear CME CS CL CM2 CPR hal hF hF1 hF0 hfm he hlk hok hlo hhi hf hI hl6 KL
 go_enter Tryz.func5, Tryz.ntmps5
 go_wp2_with (with_reducible refine wpList_ldS (n := 4) (us := mC m ad cap) A_mach kR wU wU (by assumption) wU wU ?_)
 refine (HF.out _ (hR.below hS0.b) (hL.below hS0.b)).mono ?_
 rintro e w1 ⟨rfl, b1⟩
 have hS1 := hS0.mono b1
 have q1 := (hS1.blk 0 rfl).1
 clear hS0
 go_wp2_with (with_reducible refine wpList_ldS (n := 4) (us := mC m ad cap) A_mach kR wU wU (by assumption) wU wU ?_)
 refine (HME.out _ (hR.below hS1.b) (hL.below hS1.b)).mono ?_
 rintro e wz ⟨rfl, b2⟩
 have hS2 := hS1.mono b2
 have qz := (hS2.blk 0 rfl).1
 have hb2 := hS2.b
 have hLz := hL.below hb2
 have hRz := hR.below hb2
 have hltz : w.heap.size < wz.heap.size := (Array.getElem?_eq_some_iff.1 qz).1
 clear hS1 q1 hS2
 go_wp2_with fail
 go_loopw [50, 12, 54, 13, 14, 15, 16, 10, 11] (fun av _ _ _ _ _ _ bo po wr => ∃ a : Nat, a ≤ l.length ∧ bo = .int .i64 (bestN (F (pairsTo l a))) ∧ po = .int .i64 (bestP (F (pairsTo l a))) ∧ av = .int .i64 a ∧ Below wz.heap.size wz wr) (fun av _ _ _ _ _ _ _ _ _ => l.length - (intOf av).toNat)
 case atStart => exact ⟨0, by omega, by rw [HF0.out]; rfl, by rw [HF0.out]; rfl, rfl, Below.refl _ _⟩
 case round =>
  obtain ⟨a, ha, rfl, rfl, rfl, hbp⟩ := hrel
  obtain ⟨wp, rfl⟩ : ∃ wp, wp = wr := ⟨_, rfl⟩
  have qp := (hbp.block _ hltz).trans qz
  have hltp : w.heap.size < wp.heap.size := (Array.getElem?_eq_some_iff.1 qp).1
  by_cases hlt : a < l.length
  ·go_wp2_with fail
   go_loopw [54, 13, 14, 15, 16, 10, 11] (fun cv _ _ _ _ bo po wq => ∃ b : Nat, b ≤ a ∧ bo = .int .i64 (bestN (F (pairsAt l a b))) ∧ po = .int .i64 (bestP (F (pairsAt l a b))) ∧ cv = .int .i64 b ∧ Below wp.heap.size wp wq) (fun cv _ _ _ _ _ _ _ => a - (intOf cv).toNat)
   case atStart => exact ⟨0, by omega, by rw [pairsAt_zero], by rw [pairsAt_zero], rfl, Below.refl _ _⟩
   case round =>
    obtain ⟨b, hb, rfl, rfl, rfl, hbq⟩ := hrel
    have qq := (hbq.block _ hltp).trans qp
    have hltq : w.heap.size < wr.heap.size := (Array.getElem?_eq_some_iff.1 qq).1
    have hLq := (hLz.below hbp).below hbq
    have hRq := (hRz.below hbp).below hbq
    by_cases hjk : b < a
    ·have hne := HNE.out a b hlt hjk
     have CP := HPR.out _ _ (HIN.out a hlt) (HIN.out b (by omega)) (fun e => hne e.symm)
     have hst := HST.out a b (by omega)
     rw [← HFF.out, ← HFF.out] at hst
     obtain ⟨b0, o0, rfl, hcA, hcB⟩ := cells2 hLq hlt (by omega : b < l.length)
     obtain ⟨X, hX⟩ : ∃ X, X = atD 0 l a := ⟨_, rfl⟩
     obtain ⟨Y, hY⟩ : ∃ Y, Y = atD 0 l b := ⟨_, rfl⟩
     rw [← hX] at CP hst hcA
     rw [← hY] at CP hst hcB
     obtain ⟨B, hB⟩ : ∃ B, B = F (pairsAt l a b) := ⟨_, rfl⟩
     rw [← hB] at hst ⊢
     have HX := hid hX; have HY := hid hY
     have hbl : b < l.length := by omega
     clear hX hY hne hB
     cases hmm : meetM m X Y with
     | none =>
      rw [hmm] at CP hst
      have hst : F (pairsAt l a (b + 1)) = B := hst
      have HSTP := hid hst
      clear hst hmm
      dsimp only at CP
      as_aux_lemma =>
       go_wp2_with fail
       refine wp_regionK (C := Below (wr).heap.size (wr)) [0, 1, 2, 3, 4, 5, 6, 7, 8] [_, _, _, _, _, _, _, _, _] 9 (by simp only [List.map_cons, List.map_nil, List.getElem?_toArray]; rfl) rfl kR kR kR ((Below.refl _ _).drew) ?_
       refine ⟨_, yieldsK_blkC (n := 4) A_mach kR (fun V h => (h.block _ hltq).trans qq) rfl wU wU, ?_⟩
       go_frame
       refine ⟨_, yieldsK_val wU (fun w' => by with_unfolding_all exact rfl), ?_⟩
       go_frame
       refine ⟨_, yieldsK_val wU (fun w' => by with_unfolding_all exact rfl), ?_⟩
       go_frame
       refine ⟨_, yieldsK_idx (k := (a : Int)) E_ints (by omega) (by first | omega | (simp; omega)) wU wU wU, ?_⟩
       go_frame
       refine ⟨_, yieldsK_cell F_int (hcA) wU wU, ?_⟩
       go_frame
       refine ⟨_, yieldsK_val wU (fun w' => by with_unfolding_all exact rfl), ?_⟩
       go_frame
       refine ⟨_, yieldsK_val wU (fun w' => by with_unfolding_all exact rfl), ?_⟩
       go_frame
       refine ⟨_, yieldsK_idx (k := (b : Int)) E_ints (by omega) (by first | omega | (simp; omega)) wU wU wU, ?_⟩
       go_frame
       refine ⟨_, yieldsK_cell F_int (hcB) wU wU, ?_⟩
       go_frame
       unfold wpPureK
       have hVd : ({ wr with drawn := wr.drawn + 1 } : World) = wr.drew := rfl
       rw [hVd]
       clear hVd hcA hcB
       have hb5 : Below wr.heap.size wr wr.drew := (Below.refl _ _).drew
       have hb5a : Below wr.heap.size wr ((wr.drew).alloc (.cells #[.int .i64 X, .int .i64 Y] 3)) := bal hb5 _
       refine wpAnyC_on [9] kR (by simp) ?_
       simp only [List.forall_mem_cons, List.not_mem_nil, false_implies, implies_true, and_true]
       refine wpOp_value (v := .slice (some ⟨(wr.drew).heap.size, 0, none⟩) 2 2) (w' := (wr.drew).alloc (.cells #[.int .i64 X, .int .i64 Y] 3)) (by rw [List.getElem?_toArray]; rfl) wU (by first | (go_simp; done) | (go_simp; rfl) | (simp [execOp, Act.eval, Result.andThen]; done)) ?_
       refine ⟨hb5a, ?_⟩
       go_frame
       refine wpAnyC_on [10] kR (by simp) ?_
       simp only [List.forall_mem_cons, List.not_mem_nil, false_implies, implies_true, and_true]
       refine wpOp_call (f := 30) (args := #[mV m ad cap, .slice (some ⟨(wr.drew).heap.size, 0, none⟩) 2 2]) (by rw [List.getElem?_toArray]; rfl) wU (by first | (go_simp; done) | (simp [execOp, Act.eval, Result.andThen]; done) | (simp [execOp, Act.eval, Result.andThen]; rfl)) ?_
       refine (CP (some ⟨(wr.drew).heap.size, 0, none⟩) _ (hRq.below hb5a) (reps_of_own (own_newN cIntS [X, Y] 2 rfl (by decide) _ rfl (Nat.le_refl _) rfl) rfl)).mono ?_
       rintro e w6 ⟨rfl, b6⟩
       have t8 := bnext hb5a b6
       have hb6 := bnext hbq t8
       refine ⟨_, rfl, t8, ?_⟩
       go_frame
       refine wpAnyC_rest [11, 12, 13, 14, 15, 16, 17] [_, _, _, _, _, _, _] rfl (by simp only [List.map_cons, List.map_nil, List.getElem?_toArray]; rfl) kR kR kR (t8) ?_
       refine ⟨.tuple #[.int .i64 0, .int .i64 0, .int .i64 7], .inl ⟨by with_unfolding_all rfl, fun w' _ => by first | (go_simp; done) | (go_simp; rfl) | with_unfolding_all exact rfl⟩, ?_⟩
       go_frame
       refine ⟨.int .i64 0, .inl ⟨by with_unfolding_all rfl, fun w' _ => by first | (go_simp; done) | (go_simp; rfl) | with_unfolding_all exact rfl⟩, ?_⟩
       go_frame
       refine ⟨.int .i64 0, .inl ⟨by with_unfolding_all rfl, fun w' _ => by first | (go_simp; done) | (go_simp; rfl) | with_unfolding_all exact rfl⟩, ?_⟩
       go_frame
       refine ⟨.int .i64 7, .inl ⟨by with_unfolding_all rfl, fun w' _ => by first | (go_simp; done) | (go_simp; rfl) | with_unfolding_all exact rfl⟩, ?_⟩
       go_frame
       refine ⟨.int .i64 0, .inl ⟨by with_unfolding_all rfl, fun w' _ => by first | (go_simp; done) | (go_simp; rfl) | with_unfolding_all exact rfl⟩, ?_⟩
       go_frame
       refine ⟨.int .i64 0, .inl ⟨by with_unfolding_all rfl, fun w' _ => by first | (go_simp; done) | (go_simp; rfl) | with_unfolding_all exact rfl⟩, ?_⟩
       go_frame
       refine ⟨.int .i64 7, .inl ⟨by with_unfolding_all rfl, fun w' _ => by first | (go_simp; done) | (go_simp; rfl) | with_unfolding_all exact rfl⟩, ?_⟩
       go_frame
       unfold wpPure
       refine of_wpList_nil (P := Tryz.prog) (ops := #[]) ?_
       clear hb5 hb5a t8
       go_wp2_with fail
       exact ⟨⟨b + 1, by omega, by rw [HSTP.out], by rw [HSTP.out], by go_num, hb6⟩, by simp [intOf]; omega⟩
     | some v =>
      rw [hmm] at CP hst
      obtain ⟨v1, v2⟩ := v
      rw [best_step] at hst
      dsimp only at CP hst
      clear hmm
      obtain ⟨bN, hbN⟩ : ∃ x, x = bestN B := ⟨_, rfl⟩
      obtain ⟨bP, hbP⟩ : ∃ x, x = bestP B := ⟨_, rfl⟩
      rw [← hbN, ← hbP] at hst ⊢
      have HBN := hid hbN; have HBP := hid hbP
      clear hbN hbP
      by_cases c1 : bN < 0
      ·have d1 : decide (bN < 0) = true := decide_eq_true c1
       rw [if_pos (.inl c1)] at hst
       have HSTP := hid hst
       clear hst c1
       as_aux_lemma =>
        go_wp2_with fail
        refine wp_regionK (C := Below (wr).heap.size (wr)) [0, 1, 2, 3, 4, 5, 6, 7, 8] [_, _, _, _, _, _, _, _, _] 9 (by simp only [List.map_cons, List.map_nil, List.getElem?_toArray]; rfl) rfl kR kR kR ((Below.refl _ _).drew) ?_
        refine ⟨_, yieldsK_blkC (n := 4) A_mach kR (fun V h => (h.block _ hltq).trans qq) rfl wU wU, ?_⟩
        go_frame
        refine ⟨_, yieldsK_val wU (fun w' => by with_unfolding_all exact rfl), ?_⟩
        go_frame
        refine ⟨_, yieldsK_val wU (fun w' => by with_unfolding_all exact rfl), ?_⟩
        go_frame
        refine ⟨_, yieldsK_idx (k := (a : Int)) E_ints (by omega) (by first | omega | (simp; omega)) wU wU wU, ?_⟩
        go_frame
        refine ⟨_, yieldsK_cell F_int (hcA) wU wU, ?_⟩
        go_frame
        refine ⟨_, yieldsK_val wU (fun w' => by with_unfolding_all exact rfl), ?_⟩
        go_frame
        refine ⟨_, yieldsK_val wU (fun w' => by with_unfolding_all exact rfl), ?_⟩
        go_frame
        refine ⟨_, yieldsK_idx (k := (b : Int)) E_ints (by omega) (by first | omega | (simp; omega)) wU wU wU, ?_⟩
        go_frame
        refine ⟨_, yieldsK_cell F_int (hcB) wU wU, ?_⟩
        go_frame
        unfold wpPureK
        have hVd : ({ wr with drawn := wr.drawn + 1 } : World) = wr.drew := rfl
        rw [hVd]
        clear hVd hcA hcB
        have hb5 : Below wr.heap.size wr wr.drew := (Below.refl _ _).drew
        have hb5a : Below wr.heap.size wr ((wr.drew).alloc (.cells #[.int .i64 X, .int .i64 Y] 3)) := bal hb5 _
        refine wpAnyC_on [9] kR (by simp) ?_
        simp only [List.forall_mem_cons, List.not_mem_nil, false_implies, implies_true, and_true]
        refine wpOp_value (v := .slice (some ⟨(wr.drew).heap.size, 0, none⟩) 2 2) (w' := (wr.drew).alloc (.cells #[.int .i64 X, .int .i64 Y] 3)) (by rw [List.getElem?_toArray]; rfl) wU (by first | (go_simp; done) | (go_simp; rfl) | (simp [execOp, Act.eval, Result.andThen]; done)) ?_
        refine ⟨hb5a, ?_⟩
        go_frame
        refine wpAnyC_on [10] kR (by simp) ?_
        simp only [List.forall_mem_cons, List.not_mem_nil, false_implies, implies_true, and_true]
        refine wpOp_call (f := 30) (args := #[mV m ad cap, .slice (some ⟨(wr.drew).heap.size, 0, none⟩) 2 2]) (by rw [List.getElem?_toArray]; rfl) wU (by first | (go_simp; done) | (simp [execOp, Act.eval, Result.andThen]; done) | (simp [execOp, Act.eval, Result.andThen]; rfl)) ?_
        refine (CP (some ⟨(wr.drew).heap.size, 0, none⟩) _ (hRq.below hb5a) (reps_of_own (own_newN cIntS [X, Y] 2 rfl (by decide) _ rfl (Nat.le_refl _) rfl) rfl)).mono ?_
        rintro e w6 ⟨rfl, b6⟩
        have t8 := bnext hb5a b6
        have hb6 := bnext hbq t8
        refine ⟨_, rfl, t8, ?_⟩
        go_frame
        refine wpAnyC_rest [11, 12, 13, 14, 15, 16, 17] [_, _, _, _, _, _, _] rfl (by simp only [List.map_cons, List.map_nil, List.getElem?_toArray]; rfl) kR kR kR (t8) ?_
        refine ⟨.tuple #[.int .i64 v1, .int .i64 v2, .int .i64 0], .inl ⟨by with_unfolding_all rfl, fun w' _ => by first | (go_simp; done) | (go_simp; rfl) | with_unfolding_all exact rfl⟩, ?_⟩
        go_frame
        refine ⟨.int .i64 v1, .inl ⟨by with_unfolding_all rfl, fun w' _ => by first | (go_simp; done) | (go_simp; rfl) | with_unfolding_all exact rfl⟩, ?_⟩
        go_frame
        refine ⟨.int .i64 v2, .inl ⟨by with_unfolding_all rfl, fun w' _ => by first | (go_simp; done) | (go_simp; rfl) | with_unfolding_all exact rfl⟩, ?_⟩
        go_frame
        refine ⟨.int .i64 0, .inl ⟨by with_unfolding_all rfl, fun w' _ => by first | (go_simp; done) | (go_simp; rfl) | with_unfolding_all exact rfl⟩, ?_⟩
        go_frame
        refine ⟨.int .i64 v1, .inl ⟨by with_unfolding_all rfl, fun w' _ => by first | (go_simp; done) | (go_simp; rfl) | with_unfolding_all exact rfl⟩, ?_⟩
        go_frame
        refine ⟨.int .i64 v2, .inl ⟨by with_unfolding_all rfl, fun w' _ => by first | (go_simp; done) | (go_simp; rfl) | with_unfolding_all exact rfl⟩, ?_⟩
        go_frame
        refine ⟨.int .i64 0, .inl ⟨by with_unfolding_all rfl, fun w' _ => by first | (go_simp; done) | (go_simp; rfl) | with_unfolding_all exact rfl⟩, ?_⟩
        go_frame
        unfold wpPure
        refine of_wpList_nil (P := Tryz.prog) (ops := #[]) ?_
        clear hb5 hb5a t8
        go_wp2_with fail
        exact ⟨⟨b + 1, by omega, by rw [HSTP.out]; rfl, by rw [HSTP.out]; rfl, by go_num, hb6⟩, by simp [intOf]; omega⟩
      ·have d1 : decide (bN < 0) = false := decide_eq_false c1
       by_cases c2 : (v1 : Int) < bN
       ·have d2 : decide ((v1 : Int) < bN) = true := decide_eq_true c2
        rw [if_pos (.inr (.inl c2))] at hst
        have HSTP := hid hst
        clear hst c1 c2
        as_aux_lemma =>
         go_wp2_with fail
         refine wp_regionK (C := Below (wr).heap.size (wr)) [0, 1, 2, 3, 4, 5, 6, 7, 8] [_, _, _, _, _, _, _, _, _] 9 (by simp only [List.map_cons, List.map_nil, List.getElem?_toArray]; rfl) rfl kR kR kR ((Below.refl _ _).drew) ?_
         refine ⟨_, yieldsK_blkC (n := 4) A_mach kR (fun V h => (h.block _ hltq).trans qq) rfl wU wU, ?_⟩
         go_frame
         refine ⟨_, yieldsK_val wU (fun w' => by with_unfolding_all exact rfl), ?_⟩
         go_frame
         refine ⟨_, yieldsK_val wU (fun w' => by with_unfolding_all exact rfl), ?_⟩
         go_frame
         refine ⟨_, yieldsK_idx (k := (a : Int)) E_ints (by omega) (by first | omega | (simp; omega)) wU wU wU, ?_⟩
         go_frame
         refine ⟨_, yieldsK_cell F_int (hcA) wU wU, ?_⟩
         go_frame
         refine ⟨_, yieldsK_val wU (fun w' => by with_unfolding_all exact rfl), ?_⟩
         go_frame
         refine ⟨_, yieldsK_val wU (fun w' => by with_unfolding_all exact rfl), ?_⟩
         go_frame
         refine ⟨_, yieldsK_idx (k := (b : Int)) E_ints (by omega) (by first | omega | (simp; omega)) wU wU wU, ?_⟩
         go_frame
         refine ⟨_, yieldsK_cell F_int (hcB) wU wU, ?_⟩
         go_frame
         unfold wpPureK
         have hVd : ({ wr with drawn := wr.drawn + 1 } : World) = wr.drew := rfl
         rw [hVd]
         clear hVd hcA hcB
         have hb5 : Below wr.heap.size wr wr.drew := (Below.refl _ _).drew
         have hb5a : Below wr.heap.size wr ((wr.drew).alloc (.cells #[.int .i64 X, .int .i64 Y] 3)) := bal hb5 _
         refine wpAnyC_on [9] kR (by simp) ?_
         simp only [List.forall_mem_cons, List.not_mem_nil, false_implies, implies_true, and_true]
         refine wpOp_value (v := .slice (some ⟨(wr.drew).heap.size, 0, none⟩) 2 2) (w' := (wr.drew).alloc (.cells #[.int .i64 X, .int .i64 Y] 3)) (by rw [List.getElem?_toArray]; rfl) wU (by first | (go_simp; done) | (go_simp; rfl) | (simp [execOp, Act.eval, Result.andThen]; done)) ?_
         refine ⟨hb5a, ?_⟩
         go_frame
         refine wpAnyC_on [10] kR (by simp) ?_
         simp only [List.forall_mem_cons, List.not_mem_nil, false_implies, implies_true, and_true]
         refine wpOp_call (f := 30) (args := #[mV m ad cap, .slice (some ⟨(wr.drew).heap.size, 0, none⟩) 2 2]) (by rw [List.getElem?_toArray]; rfl) wU (by first | (go_simp; done) | (simp [execOp, Act.eval, Result.andThen]; done) | (simp [execOp, Act.eval, Result.andThen]; rfl)) ?_
         refine (CP (some ⟨(wr.drew).heap.size, 0, none⟩) _ (hRq.below hb5a) (reps_of_own (own_newN cIntS [X, Y] 2 rfl (by decide) _ rfl (Nat.le_refl _) rfl) rfl)).mono ?_
         rintro e w6 ⟨rfl, b6⟩
         have t8 := bnext hb5a b6
         have hb6 := bnext hbq t8
         refine ⟨_, rfl, t8, ?_⟩
         go_frame
         refine wpAnyC_rest [11, 12, 13, 14, 15, 16, 17] [_, _, _, _, _, _, _] rfl (by simp only [List.map_cons, List.map_nil, List.getElem?_toArray]; rfl) kR kR kR (t8) ?_
         refine ⟨.tuple #[.int .i64 v1, .int .i64 v2, .int .i64 0], .inl ⟨by with_unfolding_all rfl, fun w' _ => by first | (go_simp; done) | (go_simp; rfl) | with_unfolding_all exact rfl⟩, ?_⟩
         go_frame
         refine ⟨.int .i64 v1, .inl ⟨by with_unfolding_all rfl, fun w' _ => by first | (go_simp; done) | (go_simp; rfl) | with_unfolding_all exact rfl⟩, ?_⟩
         go_frame
         refine ⟨.int .i64 v2, .inl ⟨by with_unfolding_all rfl, fun w' _ => by first | (go_simp; done) | (go_simp; rfl) | with_unfolding_all exact rfl⟩, ?_⟩
         go_frame
         refine ⟨.int .i64 0, .inl ⟨by with_unfolding_all rfl, fun w' _ => by first | (go_simp; done) | (go_simp; rfl) | with_unfolding_all exact rfl⟩, ?_⟩
         go_frame
         refine ⟨.int .i64 v1, .inl ⟨by with_unfolding_all rfl, fun w' _ => by first | (go_simp; done) | (go_simp; rfl) | with_unfolding_all exact rfl⟩, ?_⟩
         go_frame
         refine ⟨.int .i64 v2, .inl ⟨by with_unfolding_all rfl, fun w' _ => by first | (go_simp; done) | (go_simp; rfl) | with_unfolding_all exact rfl⟩, ?_⟩
         go_frame
         refine ⟨.int .i64 0, .inl ⟨by with_unfolding_all rfl, fun w' _ => by first | (go_simp; done) | (go_simp; rfl) | with_unfolding_all exact rfl⟩, ?_⟩
         go_frame
         unfold wpPure
         refine of_wpList_nil (P := Tryz.prog) (ops := #[]) ?_
         clear hb5 hb5a t8
         go_wp2_with fail
         exact ⟨⟨b + 1, by omega, by rw [HSTP.out]; rfl, by rw [HSTP.out]; rfl, by go_num, hb6⟩, by simp [intOf]; omega⟩
       ·have d2 : decide ((v1 : Int) < bN) = false := decide_eq_false c2
        by_cases c3 : (v1 : Int) = bN
        ·have d3 : ((v1 : Int) == bN) = true := by simpa using c3
         by_cases c4 : v2 < bP
         ·have d4 : decide (v2 < bP) = true := decide_eq_true c4
          rw [if_pos (.inr (.inr ⟨c3, c4⟩))] at hst
          have HSTP := hid hst
          clear hst c1 c2 c3 c4
          as_aux_lemma =>
           go_wp2_with fail
           refine wp_regionK (C := Below (wr).heap.size (wr)) [0, 1, 2, 3, 4, 5, 6, 7, 8] [_, _, _, _, _, _, _, _, _] 9 (by simp only [List.map_cons, List.map_nil, List.getElem?_toArray]; rfl) rfl kR kR kR ((Below.refl _ _).drew) ?_
           refine ⟨_, yieldsK_blkC (n := 4) A_mach kR (fun V h => (h.block _ hltq).trans qq) rfl wU wU, ?_⟩
           go_frame
           refine ⟨_, yieldsK_val wU (fun w' => by with_unfolding_all exact rfl), ?_⟩
           go_frame
           refine ⟨_, yieldsK_val wU (fun w' => by with_unfolding_all exact rfl), ?_⟩
           go_frame
           refine ⟨_, yieldsK_idx (k := (a : Int)) E_ints (by omega) (by first | omega | (simp; omega)) wU wU wU, ?_⟩
           go_frame
           refine ⟨_, yieldsK_cell F_int (hcA) wU wU, ?_⟩
           go_frame
           refine ⟨_, yieldsK_val wU (fun w' => by with_unfolding_all exact rfl), ?_⟩
           go_frame
           refine ⟨_, yieldsK_val wU (fun w' => by with_unfolding_all exact rfl), ?_⟩
           go_frame
           refine ⟨_, yieldsK_idx (k := (b : Int)) E_ints (by omega) (by first | omega | (simp; omega)) wU wU wU, ?_⟩
           go_frame
           refine ⟨_, yieldsK_cell F_int (hcB) wU wU, ?_⟩
           go_frame
           unfold wpPureK
           have hVd : ({ wr with drawn := wr.drawn + 1 } : World) = wr.drew := rfl
           rw [hVd]
           clear hVd hcA hcB
           have hb5 : Below wr.heap.size wr wr.drew := (Below.refl _ _).drew
           have hb5a : Below wr.heap.size wr ((wr.drew).alloc (.cells #[.int .i64 X, .int .i64 Y] 3)) := bal hb5 _
           refine wpAnyC_on [9] kR (by simp) ?_
           simp only [List.forall_mem_cons, List.not_mem_nil, false_implies, implies_true, and_true]
           refine wpOp_value (v := .slice (some ⟨(wr.drew).heap.size, 0, none⟩) 2 2) (w' := (wr.drew).alloc (.cells #[.int .i64 X, .int .i64 Y] 3)) (by rw [List.getElem?_toArray]; rfl) wU (by first | (go_simp; done) | (go_simp; rfl) | (simp [execOp, Act.eval, Result.andThen]; done)) ?_
           refine ⟨hb5a, ?_⟩
           go_frame
           refine wpAnyC_on [10] kR (by simp) ?_
           simp only [List.forall_mem_cons, List.not_mem_nil, false_implies, implies_true, and_true]
           refine wpOp_call (f := 30) (args := #[mV m ad cap, .slice (some ⟨(wr.drew).heap.size, 0, none⟩) 2 2]) (by rw [List.getElem?_toArray]; rfl) wU (by first | (go_simp; done) | (simp [execOp, Act.eval, Result.andThen]; done) | (simp [execOp, Act.eval, Result.andThen]; rfl)) ?_
           refine (CP (some ⟨(wr.drew).heap.size, 0, none⟩) _ (hRq.below hb5a) (reps_of_own (own_newN cIntS [X, Y] 2 rfl (by decide) _ rfl (Nat.le_refl _) rfl) rfl)).mono ?_
           rintro e w6 ⟨rfl, b6⟩
           have t8 := bnext hb5a b6
           have hb6 := bnext hbq t8
           refine ⟨_, rfl, t8, ?_⟩
           go_frame
           refine wpAnyC_rest [11, 12, 13, 14, 15, 16, 17] [_, _, _, _, _, _, _] rfl (by simp only [List.map_cons, List.map_nil, List.getElem?_toArray]; rfl) kR kR kR (t8) ?_
           refine ⟨.tuple #[.int .i64 v1, .int .i64 v2, .int .i64 0], .inl ⟨by with_unfolding_all rfl, fun w' _ => by first | (go_simp; done) | (go_simp; rfl) | with_unfolding_all exact rfl⟩, ?_⟩
           go_frame
           refine ⟨.int .i64 v1, .inl ⟨by with_unfolding_all rfl, fun w' _ => by first | (go_simp; done) | (go_simp; rfl) | with_unfolding_all exact rfl⟩, ?_⟩
           go_frame
           refine ⟨.int .i64 v2, .inl ⟨by with_unfolding_all rfl, fun w' _ => by first | (go_simp; done) | (go_simp; rfl) | with_unfolding_all exact rfl⟩, ?_⟩
           go_frame
           refine ⟨.int .i64 0, .inl ⟨by with_unfolding_all rfl, fun w' _ => by first | (go_simp; done) | (go_simp; rfl) | with_unfolding_all exact rfl⟩, ?_⟩
           go_frame
           refine ⟨.int .i64 v1, .inl ⟨by with_unfolding_all rfl, fun w' _ => by first | (go_simp; done) | (go_simp; rfl) | with_unfolding_all exact rfl⟩, ?_⟩
           go_frame
           refine ⟨.int .i64 v2, .inl ⟨by with_unfolding_all rfl, fun w' _ => by first | (go_simp; done) | (go_simp; rfl) | with_unfolding_all exact rfl⟩, ?_⟩
           go_frame
           refine ⟨.int .i64 0, .inl ⟨by with_unfolding_all rfl, fun w' _ => by first | (go_simp; done) | (go_simp; rfl) | with_unfolding_all exact rfl⟩, ?_⟩
           go_frame
           unfold wpPure
           refine of_wpList_nil (P := Tryz.prog) (ops := #[]) ?_
           clear hb5 hb5a t8
           go_wp2_with fail
           exact ⟨⟨b + 1, by omega, by rw [HSTP.out]; rfl, by rw [HSTP.out]; rfl, by go_num, hb6⟩, by simp [intOf]; omega⟩
         ·have d4 : decide (v2 < bP) = false := decide_eq_false c4
          rw [if_neg (fun h => by rcases h with h | h | h; exact c1 h; exact c2 h; exact c4 h.2)] at hst
          have HSTP := hid hst
          clear hst c1 c2 c3 c4
          as_aux_lemma =>
           go_wp2_with fail
           refine wp_regionK (C := Below (wr).heap.size (wr)) [0, 1, 2, 3, 4, 5, 6, 7, 8] [_, _, _, _, _, _, _, _, _] 9 (by simp only [List.map_cons, List.map_nil, List.getElem?_toArray]; rfl) rfl kR kR kR ((Below.refl _ _).drew) ?_
           refine ⟨_, yieldsK_blkC (n := 4) A_mach kR (fun V h => (h.block _ hltq).trans qq) rfl wU wU, ?_⟩
           go_frame
           refine ⟨_, yieldsK_val wU (fun w' => by with_unfolding_all exact rfl), ?_⟩
           go_frame
           refine ⟨_, yieldsK_val wU (fun w' => by with_unfolding_all exact rfl), ?_⟩
           go_frame
           refine ⟨_, yieldsK_idx (k := (a : Int)) E_ints (by omega) (by first | omega | (simp; omega)) wU wU wU, ?_⟩
           go_frame
           refine ⟨_, yieldsK_cell F_int (hcA) wU wU, ?_⟩
           go_frame
           refine ⟨_, yieldsK_val wU (fun w' => by with_unfolding_all exact rfl), ?_⟩
           go_frame
           refine ⟨_, yieldsK_val wU (fun w' => by with_unfolding_all exact rfl), ?_⟩
           go_frame
           refine ⟨_, yieldsK_idx (k := (b : Int)) E_ints (by omega) (by first | omega | (simp; omega)) wU wU wU, ?_⟩
           go_frame
           refine ⟨_, yieldsK_cell F_int (hcB) wU wU, ?_⟩
           go_frame
           unfold wpPureK
           have hVd : ({ wr with drawn := wr.drawn + 1 } : World) = wr.drew := rfl
           rw [hVd]
           clear hVd hcA hcB
           have hb5 : Below wr.heap.size wr wr.drew := (Below.refl _ _).drew
           have hb5a : Below wr.heap.size wr ((wr.drew).alloc (.cells #[.int .i64 X, .int .i64 Y] 3)) := bal hb5 _
           refine wpAnyC_on [9] kR (by simp) ?_
           simp only [List.forall_mem_cons, List.not_mem_nil, false_implies, implies_true, and_true]
           refine wpOp_value (v := .slice (some ⟨(wr.drew).heap.size, 0, none⟩) 2 2) (w' := (wr.drew).alloc (.cells #[.int .i64 X, .int .i64 Y] 3)) (by rw [List.getElem?_toArray]; rfl) wU (by first | (go_simp; done) | (go_simp; rfl) | (simp [execOp, Act.eval, Result.andThen]; done)) ?_
           refine ⟨hb5a, ?_⟩
           go_frame
           refine wpAnyC_on [10] kR (by simp) ?_
           simp only [List.forall_mem_cons, List.not_mem_nil, false_implies, implies_true, and_true]
           refine wpOp_call (f := 30) (args := #[mV m ad cap, .slice (some ⟨(wr.drew).heap.size, 0, none⟩) 2 2]) (by rw [List.getElem?_toArray]; rfl) wU (by first | (go_simp; done) | (simp [execOp, Act.eval, Result.andThen]; done) | (simp [execOp, Act.eval, Result.andThen]; rfl)) ?_
           refine (CP (some ⟨(wr.drew).heap.size, 0, none⟩) _ (hRq.below hb5a) (reps_of_own (own_newN cIntS [X, Y] 2 rfl (by decide) _ rfl (Nat.le_refl _) rfl) rfl)).mono ?_
           rintro e w6 ⟨rfl, b6⟩
           have t8 := bnext hb5a b6
           have hb6 := bnext hbq t8
           refine ⟨_, rfl, t8, ?_⟩
           go_frame
           refine wpAnyC_rest [11, 12, 13, 14, 15, 16, 17] [_, _, _, _, _, _, _] rfl (by simp only [List.map_cons, List.map_nil, List.getElem?_toArray]; rfl) kR kR kR (t8) ?_
           refine ⟨.tuple #[.int .i64 v1, .int .i64 v2, .int .i64 0], .inl ⟨by with_unfolding_all rfl, fun w' _ => by first | (go_simp; done) | (go_simp; rfl) | with_unfolding_all exact rfl⟩, ?_⟩
           go_frame
           refine ⟨.int .i64 v1, .inl ⟨by with_unfolding_all rfl, fun w' _ => by first | (go_simp; done) | (go_simp; rfl) | with_unfolding_all exact rfl⟩, ?_⟩
           go_frame
           refine ⟨.int .i64 v2, .inl ⟨by with_unfolding_all rfl, fun w' _ => by first | (go_simp; done) | (go_simp; rfl) | with_unfolding_all exact rfl⟩, ?_⟩
           go_frame
           refine ⟨.int .i64 0, .inl ⟨by with_unfolding_all rfl, fun w' _ => by first | (go_simp; done) | (go_simp; rfl) | with_unfolding_all exact rfl⟩, ?_⟩
           go_frame
           refine ⟨.int .i64 v1, .inl ⟨by with_unfolding_all rfl, fun w' _ => by first | (go_simp; done) | (go_simp; rfl) | with_unfolding_all exact rfl⟩, ?_⟩
           go_frame
           refine ⟨.int .i64 v2, .inl ⟨by with_unfolding_all rfl, fun w' _ => by first | (go_simp; done) | (go_simp; rfl) | with_unfolding_all exact rfl⟩, ?_⟩
           go_frame
           refine ⟨.int .i64 0, .inl ⟨by with_unfolding_all rfl, fun w' _ => by first | (go_simp; done) | (go_simp; rfl) | with_unfolding_all exact rfl⟩, ?_⟩
           go_frame
           unfold wpPure
           refine of_wpList_nil (P := Tryz.prog) (ops := #[]) ?_
           clear hb5 hb5a t8
           go_wp2_with fail
           exact ⟨⟨b + 1, by omega, by rw [HSTP.out]; exact congrArg _ HBN.out, by rw [HSTP.out]; exact congrArg _ HBP.out, by go_num, hb6⟩, by simp [intOf]; omega⟩
        ·have d3 : ((v1 : Int) == bN) = false := by simpa using c3
         rw [if_neg (fun h => by rcases h with h | h | h; exact c1 h; exact c2 h; exact c3 h.1)] at hst
         have HSTP := hid hst
         clear hst c1 c2 c3
         as_aux_lemma =>
          go_wp2_with fail
          refine wp_regionK (C := Below (wr).heap.size (wr)) [0, 1, 2, 3, 4, 5, 6, 7, 8] [_, _, _, _, _, _, _, _, _] 9 (by simp only [List.map_cons, List.map_nil, List.getElem?_toArray]; rfl) rfl kR kR kR ((Below.refl _ _).drew) ?_
          refine ⟨_, yieldsK_blkC (n := 4) A_mach kR (fun V h => (h.block _ hltq).trans qq) rfl wU wU, ?_⟩
          go_frame
          refine ⟨_, yieldsK_val wU (fun w' => by with_unfolding_all exact rfl), ?_⟩
          go_frame
          refine ⟨_, yieldsK_val wU (fun w' => by with_unfolding_all exact rfl), ?_⟩
          go_frame
          refine ⟨_, yieldsK_idx (k := (a : Int)) E_ints (by omega) (by first | omega | (simp; omega)) wU wU wU, ?_⟩
          go_frame
          refine ⟨_, yieldsK_cell F_int (hcA) wU wU, ?_⟩
          go_frame
          refine ⟨_, yieldsK_val wU (fun w' => by with_unfolding_all exact rfl), ?_⟩
          go_frame
          refine ⟨_, yieldsK_val wU (fun w' => by with_unfolding_all exact rfl), ?_⟩
          go_frame
          refine ⟨_, yieldsK_idx (k := (b : Int)) E_ints (by omega) (by first | omega | (simp; omega)) wU wU wU, ?_⟩
          go_frame
          refine ⟨_, yieldsK_cell F_int (hcB) wU wU, ?_⟩
          go_frame
          unfold wpPureK
          have hVd : ({ wr with drawn := wr.drawn + 1 } : World) = wr.drew := rfl
          rw [hVd]
          clear hVd hcA hcB
          have hb5 : Below wr.heap.size wr wr.drew := (Below.refl _ _).drew
          have hb5a : Below wr.heap.size wr ((wr.drew).alloc (.cells #[.int .i64 X, .int .i64 Y] 3)) := bal hb5 _
          refine wpAnyC_on [9] kR (by simp) ?_
          simp only [List.forall_mem_cons, List.not_mem_nil, false_implies, implies_true, and_true]
          refine wpOp_value (v := .slice (some ⟨(wr.drew).heap.size, 0, none⟩) 2 2) (w' := (wr.drew).alloc (.cells #[.int .i64 X, .int .i64 Y] 3)) (by rw [List.getElem?_toArray]; rfl) wU (by first | (go_simp; done) | (go_simp; rfl) | (simp [execOp, Act.eval, Result.andThen]; done)) ?_
          refine ⟨hb5a, ?_⟩
          go_frame
          refine wpAnyC_on [10] kR (by simp) ?_
          simp only [List.forall_mem_cons, List.not_mem_nil, false_implies, implies_true, and_true]
          refine wpOp_call (f := 30) (args := #[mV m ad cap, .slice (some ⟨(wr.drew).heap.size, 0, none⟩) 2 2]) (by rw [List.getElem?_toArray]; rfl) wU (by first | (go_simp; done) | (simp [execOp, Act.eval, Result.andThen]; done) | (simp [execOp, Act.eval, Result.andThen]; rfl)) ?_
          refine (CP (some ⟨(wr.drew).heap.size, 0, none⟩) _ (hRq.below hb5a) (reps_of_own (own_newN cIntS [X, Y] 2 rfl (by decide) _ rfl (Nat.le_refl _) rfl) rfl)).mono ?_
          rintro e w6 ⟨rfl, b6⟩
          have t8 := bnext hb5a b6
          have hb6 := bnext hbq t8
          refine ⟨_, rfl, t8, ?_⟩
          go_frame
          refine wpAnyC_rest [11, 12, 13, 14, 15, 16, 17] [_, _, _, _, _, _, _] rfl (by simp only [List.map_cons, List.map_nil, List.getElem?_toArray]; rfl) kR kR kR (t8) ?_
          refine ⟨.tuple #[.int .i64 v1, .int .i64 v2, .int .i64 0], .inl ⟨by with_unfolding_all rfl, fun w' _ => by first | (go_simp; done) | (go_simp; rfl) | with_unfolding_all exact rfl⟩, ?_⟩
          go_frame
          refine ⟨.int .i64 v1, .inl ⟨by with_unfolding_all rfl, fun w' _ => by first | (go_simp; done) | (go_simp; rfl) | with_unfolding_all exact rfl⟩, ?_⟩
          go_frame
          refine ⟨.int .i64 v2, .inl ⟨by with_unfolding_all rfl, fun w' _ => by first | (go_simp; done) | (go_simp; rfl) | with_unfolding_all exact rfl⟩, ?_⟩
          go_frame
          refine ⟨.int .i64 0, .inl ⟨by with_unfolding_all rfl, fun w' _ => by first | (go_simp; done) | (go_simp; rfl) | with_unfolding_all exact rfl⟩, ?_⟩
          go_frame
          refine ⟨.int .i64 v1, .inl ⟨by with_unfolding_all rfl, fun w' _ => by first | (go_simp; done) | (go_simp; rfl) | with_unfolding_all exact rfl⟩, ?_⟩
          go_frame
          refine ⟨.int .i64 v2, .inl ⟨by with_unfolding_all rfl, fun w' _ => by first | (go_simp; done) | (go_simp; rfl) | with_unfolding_all exact rfl⟩, ?_⟩
          go_frame
          refine ⟨.int .i64 0, .inl ⟨by with_unfolding_all rfl, fun w' _ => by first | (go_simp; done) | (go_simp; rfl) | with_unfolding_all exact rfl⟩, ?_⟩
          go_frame
          unfold wpPure
          refine of_wpList_nil (P := Tryz.prog) (ops := #[]) ?_
          clear hb5 hb5a t8
          go_wp2_with fail
          exact ⟨⟨b + 1, by omega, by rw [HSTP.out]; exact congrArg _ HBN.out, by rw [HSTP.out]; exact congrArg _ HBP.out, by go_num, hb6⟩, by simp [intOf]; omega⟩
    ·have hjk2 : b = a := by omega
     subst hjk2
     clear hLq hRq qq
     go_wp2_with fail
     exact ⟨⟨b + 1, by omega, by rw [pairsAt_last], by rw [pairsAt_last], by go_num, bnext hbp hbq⟩, by simp [intOf]; omega⟩
  ·have hka : a = l.length := by omega
   subst hka
   rw [HF1.out]
   have eN : bestN none = -1 := rfl
   have eP : bestP none = 0 := rfl
   rw [eN, eP]
   clear eN eP
   have hbz := bnext hb2 hbp
   have hL3 := hLz.below hbp
   have hR3 := hRz.below hbp
   clear hbp hLz hRz qz hltz hb2
   go_wp2_with (with_reducible refine wpList_ldS (n := 4) (us := mC m ad cap) A_mach kR wU wU (by assumption) wU wU ?_)
   refine (HS.out _ hR3 hL3).mono ?_
   rintro e w4 ⟨v4, rfl, ho4, b4⟩
   obtain ⟨a4, c4, hv4, h4, _, _⟩ := ho4.reps
   rw [HAL.out] at hv4
   subst hv4
   clear ho4
   have q4 := (b4.block _ hltp).trans qp
   have hlt4 : w.heap.size < w4.heap.size := (Array.getElem?_eq_some_iff.1 q4).1
   have hb4 := bnext hbz b4
   have hR4 := hR3.below b4
   have hL4 := hL3.below b4
   have dl : ((l.length : Int) != (l.length : Int)) = false := by simp
   go_wp2_with (with_reducible refine wpList_ldS (n := 4) (us := mC m ad cap) A_mach kR wU wU (by assumption) wU wU ?_)
   refine (HCL.out a4 c4 _ h4).mono ?_
   rintro e w5 ⟨rfl, b5⟩
   have q5 := (b5.block _ hlt4).trans q4
   have hlt5 : w.heap.size < w5.heap.size := (Array.getElem?_eq_some_iff.1 q5).1
   have hb5 := bnext hb4 b5
   have hR5 := hR4.below b5
   have hL5 := hL4.below b5
   clear q4 hb4 hR4 hL4 hR3 hL3
   go_wp2_with (with_reducible refine wpList_ldS (n := 4) (us := mC m ad cap) A_mach kR wU wU (by assumption) wU wU ?_)
   refine (HM2.out a4 c4 _ hR5 (h4.below b5)).mono ?_
   rintro e w6 ⟨rfl, b6⟩
   have q6 := (b6.block _ hlt5).trans q5
   have hlt6 : w.heap.size < w6.heap.size := (Array.getElem?_eq_some_iff.1 q6).1
   have hb6 := bnext hb5 b6
   have hR6 := hR5.below b6
   have hL6 := hL5.below b6
   clear q5 hb5 hR5 hL5 h4 b5 dl
   go_wp2_with (with_reducible refine wpList_ldS (n := 4) (us := mC m ad cap) A_mach kR wU wU (by assumption) wU wU ?_)
   refine (HFR.out _ hR6 hL6).mono ?_
   rintro e w7 ⟨v7, rfl, ho7, b7⟩
   obtain ⟨a7, c7, rfl, h7, _, _⟩ := ho7.reps
   have q7 := (b7.block _ hlt6).trans q6
   have hlt7 : w.heap.size < w7.heap.size := (Array.getElem?_eq_some_iff.1 q7).1
   have hb7 := bnext hb6 b7
   have hR7 := hR6.below b7
   have hL7 := hL6.below b7
   have hlf := h7.le
   have hlm7 := h7.max
   clear ho7 q6 hb6 hR6 hL6
   go_wp2_with fail
   go_loopw [180, 25, 195, 27] (fun iv _ _ _ wr => ∃ k : Nat, k ≤ FL.length ∧ iv = .int .i64 k ∧ Below w7.heap.size w7 wr) (fun iv _ _ _ _ => FL.length - (intOf iv).toNat)
   case atStart => exact ⟨0, by omega, rfl, Below.refl _ _⟩
   case round =>
    obtain ⟨k, hk, rfl, hbk⟩ := hrel
    obtain ⟨wk, rfl⟩ : ∃ wk, wk = wr := ⟨_, rfl⟩
    have hbw := bnext hb7 hbk
    by_cases hlt : k < FL.length
    ·have h8 := h7.below hbk
     have hRr := hR7.below hbk
     have hLr := hL7.below hbk
     have q8 := (hbk.block _ hlt7).trans q7
     have hlt8 : w.heap.size < wk.heap.size := (Array.getElem?_eq_some_iff.1 q8).1
     have CA1 := HA1.out k hlt
     have CA2 := HA2.out k hlt
     obtain ⟨S, hS⟩ : ∃ S, S = atD 0 FL k := ⟨_, rfl⟩
     rw [← hS] at CA1 CA2
     have HX := hid hS; have HCA := hid CA1; have HCB := hid CA2
     clear hS CA1 CA2
     go_wp2_with ((with_reducible refine wpList_idxN _ 0 E_ints F_int cInt1 wU wU (h8) (rfl) oD oD (fun _ => wU) (fun _ => ?_)); rw [← HX.out])
     refine wp_regionK (C := Below (wk).heap.size (wk)) [0, 2, 4] [_, _, _] 6 (by simp only [List.map_cons, List.map_nil, List.getElem?_toArray]; rfl) rfl kR kR kR ((Below.refl _ _).drew) ?_
     refine ⟨_, yieldsK_blkC (n := 4) A_mach kR (fun V h => (h.block _ hlt8).trans q8) rfl wU wU, ?_⟩
     go_frame
     refine ⟨.slice al l.length cl, yieldsK_val wU (fun w' => by first | (go_simp; done) | (go_simp; rfl)), ?_⟩
     go_frame
     refine ⟨.int .i64 S, yieldsK_val wU (fun w' => by first | (go_simp; done) | (go_simp; rfl)), ?_⟩
     go_frame
     unfold wpPureK
     have hVd : ({ wk with drawn := wk.drawn + 1 } : World) = wk.drew := rfl
     rw [hVd]
     have hT0 : SL wk.heap.size wk wk.drew [] := (SL.nil wk).drew
     refine wpAnyC_on [1, 5] kR (by simp) ?_
     simp only [List.forall_mem_cons, List.not_mem_nil, false_implies, implies_true, and_true]
     refine ⟨?_, ?_⟩
     ·as_aux_lemma =>
       have hT1 := (hT0).call (SL.ofOwn (own_newN (e := 3) (w := wk.drew) cIntS [] 0 rfl (by decide) #[] rfl (Nat.le_refl _) rfl) (bal (Below.refl _ _) _))
       simp only [List.cons_append, List.nil_append] at hT1
       refine wpOp_value (v := .slice (some ⟨(wk.drew).heap.size, 0, none⟩) 0 0) (w' := (wk.drew).alloc (.cells #[] 3)) (by rw [List.getElem?_toArray]; rfl) wU (by first | (go_simp; done) | (go_simp; rfl) | (simp [execOp, Act.eval, Result.andThen]; done)) ?_
       refine ⟨hT1.b, ?_⟩
       go_frame
       obtain ⟨VhT1, hVhT1⟩ : ∃ V, V = (wk.drew).alloc (.cells #[] 3) := ⟨_, rfl⟩
       obtain ⟨nhT1, hnhT1⟩ : ∃ b, b = (wk.drew).heap.size := ⟨_, rfl⟩
       rw [← hVhT1, ← hnhT1] at hT1
       simp only [← hVhT1, ← hnhT1]
       clear hVhT1 hnhT1
       refine wpAnyC_on [3, 5] kR (by simp) ?_
       simp only [List.forall_mem_cons, List.not_mem_nil, false_implies, implies_true, and_true]
       refine ⟨?_, ?_⟩
       ·as_aux_lemma =>
         refine wpOp_of_list (by rw [List.getElem?_toArray]; rfl) ?_
         ((with_reducible refine wpList_appL 0 E_ints wU wU (hT1) wU ((hLr.below hT1.b)) (rfl) cIntO (by first | omega | (simp; omega)) (by first | omega | (simp; omega)) ?_); intro v2 w2 hT2)
         rw [List.nil_append] at hT2
         refine ⟨hT2.b, ?_⟩
         go_frame
         refine wpAnyC_on [5] kR (by simp) ?_
         simp only [List.forall_mem_cons, List.not_mem_nil, false_implies, implies_true, and_true]
         have hT3 := (hT2).call (SL.ofOwn (own_newN (e := 3) (w := w2) cIntS [S] 1 rfl (by decide) #[.int .i64 S] rfl (Nat.le_refl _) rfl) (bal (Below.refl _ _) _))
         simp only [List.cons_append, List.nil_append] at hT3
         refine wpOp_value (v := .slice (some ⟨(w2).heap.size, 0, none⟩) 1 1) (w' := (w2).alloc (.cells #[.int .i64 S] 3)) (by rw [List.getElem?_toArray]; rfl) wU (by first | (go_simp; done) | (go_simp; rfl) | (simp [execOp, Act.eval, Result.andThen]; done)) ?_
         refine ⟨hT3.b, ?_⟩
         go_frame
         obtain ⟨VhT3, hVhT3⟩ : ∃ V, V = (w2).alloc (.cells #[.int .i64 S] 3) := ⟨_, rfl⟩
         obtain ⟨nhT3, hnhT3⟩ : ∃ b, b = (w2).heap.size := ⟨_, rfl⟩
         rw [← hVhT3, ← hnhT3] at hT3
         simp only [← hVhT3, ← hnhT3]
         clear hVhT3 hnhT3
         refine wpAnyC_on [6] kR (by simp) ?_
         simp only [List.forall_mem_cons, List.not_mem_nil, false_implies, implies_true, and_true]
         refine wpOp_of_list (by rw [List.getElem?_toArray]; rfl) ?_
         have hRb := hT3.rd 0 rfl
         ((with_reducible refine wpList_appL 1 E_ints wU wU (hT3) wU (hRb) (rfl) cIntO (by first | omega | (simp; omega)) (by first | omega | (simp; omega)) ?_); intro v4 w4 hT4)
         refine ⟨hT4.b, ?_⟩
         go_frame
         obtain ⟨a9, c9, rfl, hr9⟩ := hT4.slice 1 rfl
         refine wpAnyC_on [7] kR (by simp) ?_
         simp only [List.forall_mem_cons, List.not_mem_nil, false_implies, implies_true, and_true]
         refine wpOp_call (f := 33) (args := #[mV m ad cap, .slice a9 (l ++ [S]).length c9]) (by rw [List.getElem?_toArray]; rfl) wU (by first | (go_simp; done) | (simp [execOp, Act.eval, Result.andThen]; done) | (simp [execOp, Act.eval, Result.andThen]; rfl)) ?_
         refine (HCA.out a9 c9 _ (hRr.below hT4.b) hr9).mono ?_
         rintro e w8 ⟨rfl, b8⟩
         have t8 := bnext hT4.b b8
         refine ⟨_, rfl, t8, ?_⟩
         go_frame
         refine wpAnyC_rest [8] [_] rfl (by simp only [List.map_cons, List.map_nil, List.getElem?_toArray]; rfl) kR kR kR (t8) ?_
         refine ⟨.bool false, .inl ⟨by with_unfolding_all rfl, fun w' _ => by first | (go_simp; done) | (go_simp; rfl) | with_unfolding_all exact rfl⟩, ?_⟩
         go_frame
         unfold wpPure
         refine of_wpList_nil (P := Tryz.prog) (ops := #[]) ?_
         rw [show (l ++ [S]).length = l.length + 1 by simp]
         clear hT4
         have qn := (t8.block _ hlt8).trans q8
         have hltn : w.heap.size < w8.heap.size := (Array.getElem?_eq_some_iff.1 qn).1
         go_wp2_with fail
         go_loopw [195, 27] (fun jv _ wq => ∃ j : Nat, j ≤ l.length ∧ jv = .int .i64 j ∧ Below w8.heap.size w8 wq) (fun jv _ _ => l.length - (intOf jv).toNat)
         case atStart => exact ⟨0, by omega, rfl, Below.refl _ _⟩
         case round =>
          obtain ⟨j, hj, rfl, hbj⟩ := hrel
          by_cases hjl : j < l.length
          ·have hLj := (hLr.below t8).below hbj
           have hRj := (hRr.below t8).below hbj
           have CB := HCB.out j hjl
           obtain ⟨Y, hY⟩ : ∃ Y, Y = atD 0 l j := ⟨_, rfl⟩
           rw [← hY] at CB
           have HY := hid hY
           have HB := hid CB
           have qj := (hbj.block _ hltn).trans qn
           clear hY CB
           go_wp2_with (first | (with_reducible refine wpList_ldS (n := 4) (us := mC m ad cap) A_mach kR wU wU (by assumption) wU wU ?_) | ((with_reducible refine wpList_idxN _ 0 E_ints F_int cInt1 wU wU (hLj) (rfl) oD oD (fun _ => wU) (fun _ => ?_)); rw [← HY.out]))
           refine (HB.out (some ⟨wr.heap.size, 0, none⟩) _ (hRj.below (bal (Below.refl _ _) _)) (reps_of_own (own_newN cIntS [Y, S] 2 rfl (by decide) _ rfl (Nat.le_refl _) rfl) rfl)).mono ?_
           rintro e w11 ⟨rfl, b11⟩
           go_wp2_with fail
           skip
           exact ⟨⟨j + 1, by omega, by go_num, bnext hbj (bnext (bal (Below.refl _ _) _) b11)⟩, by simp [intOf]; omega⟩
          ·clear hRr hLr
           go_wp2_with fail
           exact ⟨⟨k + 1, by omega, by go_num, bnext hbk (bnext t8 hbj)⟩, by simp [intOf]; omega⟩
       ·as_aux_lemma =>
         have hT2 := (hT1).call (SL.ofOwn (own_newN (e := 3) (w := VhT1) cIntS [S] 1 rfl (by decide) #[.int .i64 S] rfl (Nat.le_refl _) rfl) (bal (Below.refl _ _) _))
         simp only [List.cons_append, List.nil_append] at hT2
         refine wpOp_value (v := .slice (some ⟨(VhT1).heap.size, 0, none⟩) 1 1) (w' := (VhT1).alloc (.cells #[.int .i64 S] 3)) (by rw [List.getElem?_toArray]; rfl) wU (by first | (go_simp; done) | (go_simp; rfl) | (simp [execOp, Act.eval, Result.andThen]; done)) ?_
         refine ⟨hT2.b, ?_⟩
         go_frame
         obtain ⟨VhT2, hVhT2⟩ : ∃ V, V = (VhT1).alloc (.cells #[.int .i64 S] 3) := ⟨_, rfl⟩
         obtain ⟨nhT2, hnhT2⟩ : ∃ b, b = (VhT1).heap.size := ⟨_, rfl⟩
         rw [← hVhT2, ← hnhT2] at hT2
         simp only [← hVhT2, ← hnhT2]
         clear hVhT2 hnhT2
         refine wpAnyC_on [3] kR (by simp) ?_
         simp only [List.forall_mem_cons, List.not_mem_nil, false_implies, implies_true, and_true]
         refine wpOp_of_list (by rw [List.getElem?_toArray]; rfl) ?_
         ((with_reducible refine wpList_appL 1 E_ints wU wU (hT2) wU ((hLr.below hT2.b)) (rfl) cIntO (by first | omega | (simp; omega)) (by first | omega | (simp; omega)) ?_); intro v3 w3 hT3)
         rw [List.nil_append] at hT3
         refine ⟨hT3.b, ?_⟩
         go_frame
         refine wpAnyC_on [6] kR (by simp) ?_
         simp only [List.forall_mem_cons, List.not_mem_nil, false_implies, implies_true, and_true]
         refine wpOp_of_list (by rw [List.getElem?_toArray]; rfl) ?_
         have hRb := hT3.rd 0 rfl
         ((with_reducible refine wpList_appL 1 E_ints wU wU (hT3) wU (hRb) (rfl) cIntO (by first | omega | (simp; omega)) (by first | omega | (simp; omega)) ?_); intro v4 w4 hT4)
         refine ⟨hT4.b, ?_⟩
         go_frame
         obtain ⟨a9, c9, rfl, hr9⟩ := hT4.slice 1 rfl
         refine wpAnyC_on [7] kR (by simp) ?_
         simp only [List.forall_mem_cons, List.not_mem_nil, false_implies, implies_true, and_true]
         refine wpOp_call (f := 33) (args := #[mV m ad cap, .slice a9 (l ++ [S]).length c9]) (by rw [List.getElem?_toArray]; rfl) wU (by first | (go_simp; done) | (simp [execOp, Act.eval, Result.andThen]; done) | (simp [execOp, Act.eval, Result.andThen]; rfl)) ?_
         refine (HCA.out a9 c9 _ (hRr.below hT4.b) hr9).mono ?_
         rintro e w8 ⟨rfl, b8⟩
         have t8 := bnext hT4.b b8
         refine ⟨_, rfl, t8, ?_⟩
         go_frame
         refine wpAnyC_rest [8] [_] rfl (by simp only [List.map_cons, List.map_nil, List.getElem?_toArray]; rfl) kR kR kR (t8) ?_
         refine ⟨.bool false, .inl ⟨by with_unfolding_all rfl, fun w' _ => by first | (go_simp; done) | (go_simp; rfl) | with_unfolding_all exact rfl⟩, ?_⟩
         go_frame
         unfold wpPure
         refine of_wpList_nil (P := Tryz.prog) (ops := #[]) ?_
         rw [show (l ++ [S]).length = l.length + 1 by simp]
         clear hT4
         have qn := (t8.block _ hlt8).trans q8
         have hltn : w.heap.size < w8.heap.size := (Array.getElem?_eq_some_iff.1 qn).1
         go_wp2_with fail
         go_loopw [195, 27] (fun jv _ wq => ∃ j : Nat, j ≤ l.length ∧ jv = .int .i64 j ∧ Below w8.heap.size w8 wq) (fun jv _ _ => l.length - (intOf jv).toNat)
         case atStart => exact ⟨0, by omega, rfl, Below.refl _ _⟩
         case round =>
          obtain ⟨j, hj, rfl, hbj⟩ := hrel
          by_cases hjl : j < l.length
          ·have hLj := (hLr.below t8).below hbj
           have hRj := (hRr.below t8).below hbj
           have CB := HCB.out j hjl
           obtain ⟨Y, hY⟩ : ∃ Y, Y = atD 0 l j := ⟨_, rfl⟩
           rw [← hY] at CB
           have HY := hid hY
           have HB := hid CB
           have qj := (hbj.block _ hltn).trans qn
           clear hY CB
           go_wp2_with (first | (with_reducible refine wpList_ldS (n := 4) (us := mC m ad cap) A_mach kR wU wU (by assumption) wU wU ?_) | ((with_reducible refine wpList_idxN _ 0 E_ints F_int cInt1 wU wU (hLj) (rfl) oD oD (fun _ => wU) (fun _ => ?_)); rw [← HY.out]))
           refine (HB.out (some ⟨wr.heap.size, 0, none⟩) _ (hRj.below (bal (Below.refl _ _) _)) (reps_of_own (own_newN cIntS [Y, S] 2 rfl (by decide) _ rfl (Nat.le_refl _) rfl) rfl)).mono ?_
           rintro e w11 ⟨rfl, b11⟩
           go_wp2_with fail
           skip
           exact ⟨⟨j + 1, by omega, by go_num, bnext hbj (bnext (bal (Below.refl _ _) _) b11)⟩, by simp [intOf]; omega⟩
          ·clear hRr hLr
           go_wp2_with fail
           exact ⟨⟨k + 1, by omega, by go_num, bnext hbk (bnext t8 hbj)⟩, by simp [intOf]; omega⟩
     ·as_aux_lemma =>
       have hT1 := (hT0).call (SL.ofOwn (own_newN (e := 3) (w := wk.drew) cIntS [S] 1 rfl (by decide) #[.int .i64 S] rfl (Nat.le_refl _) rfl) (bal (Below.refl _ _) _))
       simp only [List.cons_append, List.nil_append] at hT1
       refine wpOp_value (v := .slice (some ⟨(wk.drew).heap.size, 0, none⟩) 1 1) (w' := (wk.drew).alloc (.cells #[.int .i64 S] 3)) (by rw [List.getElem?_toArray]; rfl) wU (by first | (go_simp; done) | (go_simp; rfl) | (simp [execOp, Act.eval, Result.andThen]; done)) ?_
       refine ⟨hT1.b, ?_⟩
       go_frame
       obtain ⟨VhT1, hVhT1⟩ : ∃ V, V = (wk.drew).alloc (.cells #[.int .i64 S] 3) := ⟨_, rfl⟩
       obtain ⟨nhT1, hnhT1⟩ : ∃ b, b = (wk.drew).heap.size := ⟨_, rfl⟩
       rw [← hVhT1, ← hnhT1] at hT1
       simp only [← hVhT1, ← hnhT1]
       clear hVhT1 hnhT1
       refine wpAnyC_on [1] kR (by simp) ?_
       simp only [List.forall_mem_cons, List.not_mem_nil, false_implies, implies_true, and_true]
       have hT2 := (hT1).call (SL.ofOwn (own_newN (e := 3) (w := VhT1) cIntS [] 0 rfl (by decide) #[] rfl (Nat.le_refl _) rfl) (bal (Below.refl _ _) _))
       simp only [List.cons_append, List.nil_append] at hT2
       refine wpOp_value (v := .slice (some ⟨(VhT1).heap.size, 0, none⟩) 0 0) (w' := (VhT1).alloc (.cells #[] 3)) (by rw [List.getElem?_toArray]; rfl) wU (by first | (go_simp; done) | (go_simp; rfl) | (simp [execOp, Act.eval, Result.andThen]; done)) ?_
       refine ⟨hT2.b, ?_⟩
       go_frame
       obtain ⟨VhT2, hVhT2⟩ : ∃ V, V = (VhT1).alloc (.cells #[] 3) := ⟨_, rfl⟩
       obtain ⟨nhT2, hnhT2⟩ : ∃ b, b = (VhT1).heap.size := ⟨_, rfl⟩
       rw [← hVhT2, ← hnhT2] at hT2
       simp only [← hVhT2, ← hnhT2]
       clear hVhT2 hnhT2
       refine wpAnyC_on [3] kR (by simp) ?_
       simp only [List.forall_mem_cons, List.not_mem_nil, false_implies, implies_true, and_true]
       refine wpOp_of_list (by rw [List.getElem?_toArray]; rfl) ?_
       ((with_reducible refine wpList_appL 0 E_ints wU wU (hT2) wU ((hLr.below hT2.b)) (rfl) cIntO (by first | omega | (simp; omega)) (by first | omega | (simp; omega)) ?_); intro v3 w3 hT3)
       rw [List.nil_append] at hT3
       refine ⟨hT3.b, ?_⟩
       go_frame
       refine wpAnyC_on [6] kR (by simp) ?_
       simp only [List.forall_mem_cons, List.not_mem_nil, false_implies, implies_true, and_true]
       refine wpOp_of_list (by rw [List.getElem?_toArray]; rfl) ?_
       have hRb := hT3.rd 1 rfl
       ((with_reducible refine wpList_appL 0 E_ints wU wU (hT3) wU (hRb) (rfl) cIntO (by first | omega | (simp; omega)) (by first | omega | (simp; omega)) ?_); intro v4 w4 hT4)
       refine ⟨hT4.b, ?_⟩
       go_frame
       obtain ⟨a9, c9, rfl, hr9⟩ := hT4.slice 0 rfl
       refine wpAnyC_on [7] kR (by simp) ?_
       simp only [List.forall_mem_cons, List.not_mem_nil, false_implies, implies_true, and_true]
       refine wpOp_call (f := 33) (args := #[mV m ad cap, .slice a9 (l ++ [S]).length c9]) (by rw [List.getElem?_toArray]; rfl) wU (by first | (go_simp; done) | (simp [execOp, Act.eval, Result.andThen]; done) | (simp [execOp, Act.eval, Result.andThen]; rfl)) ?_
       refine (HCA.out a9 c9 _ (hRr.below hT4.b) hr9).mono ?_
       rintro e w8 ⟨rfl, b8⟩
       have t8 := bnext hT4.b b8
       refine ⟨_, rfl, t8, ?_⟩
       go_frame
       refine wpAnyC_rest [8] [_] rfl (by simp only [List.map_cons, List.map_nil, List.getElem?_toArray]; rfl) kR kR kR (t8) ?_
       refine ⟨.bool false, .inl ⟨by with_unfolding_all rfl, fun w' _ => by first | (go_simp; done) | (go_simp; rfl) | with_unfolding_all exact rfl⟩, ?_⟩
       go_frame
       unfold wpPure
       refine of_wpList_nil (P := Tryz.prog) (ops := #[]) ?_
       rw [show (l ++ [S]).length = l.length + 1 by simp]
       clear hT4
       have qn := (t8.block _ hlt8).trans q8
       have hltn : w.heap.size < w8.heap.size := (Array.getElem?_eq_some_iff.1 qn).1
       go_wp2_with fail
       go_loopw [195, 27] (fun jv _ wq => ∃ j : Nat, j ≤ l.length ∧ jv = .int .i64 j ∧ Below w8.heap.size w8 wq) (fun jv _ _ => l.length - (intOf jv).toNat)
       case atStart => exact ⟨0, by omega, rfl, Below.refl _ _⟩
       case round =>
        obtain ⟨j, hj, rfl, hbj⟩ := hrel
        by_cases hjl : j < l.length
        ·have hLj := (hLr.below t8).below hbj
         have hRj := (hRr.below t8).below hbj
         have CB := HCB.out j hjl
         obtain ⟨Y, hY⟩ : ∃ Y, Y = atD 0 l j := ⟨_, rfl⟩
         rw [← hY] at CB
         have HY := hid hY
         have HB := hid CB
         have qj := (hbj.block _ hltn).trans qn
         clear hY CB
         go_wp2_with (first | (with_reducible refine wpList_ldS (n := 4) (us := mC m ad cap) A_mach kR wU wU (by assumption) wU wU ?_) | ((with_reducible refine wpList_idxN _ 0 E_ints F_int cInt1 wU wU (hLj) (rfl) oD oD (fun _ => wU) (fun _ => ?_)); rw [← HY.out]))
         refine (HB.out (some ⟨wr.heap.size, 0, none⟩) _ (hRj.below (bal (Below.refl _ _) _)) (reps_of_own (own_newN cIntS [Y, S] 2 rfl (by decide) _ rfl (Nat.le_refl _) rfl) rfl)).mono ?_
         rintro e w11 ⟨rfl, b11⟩
         go_wp2_with fail
         skip
         exact ⟨⟨j + 1, by omega, by go_num, bnext hbj (bnext (bal (Below.refl _ _) _) b11)⟩, by simp [intOf]; omega⟩
        ·clear hRr hLr
         go_wp2_with fail
         exact ⟨⟨k + 1, by omega, by go_num, bnext hbk (bnext t8 hbj)⟩, by simp [intOf]; omega⟩
    ·have hkk : k = FL.length := by omega
     subst hkk
     clear hlt hbk h7 q7
     go_wp2_with fail
     refine (HT.out _).mono ?_
     rintro e w9 ⟨rfl, b9⟩
     go_wp2_with fail
     go_ret
     exact ⟨rfl, bnext hbw b9⟩
end Go.Proofs.YtddkdgodgflmlaaGreatDoor
