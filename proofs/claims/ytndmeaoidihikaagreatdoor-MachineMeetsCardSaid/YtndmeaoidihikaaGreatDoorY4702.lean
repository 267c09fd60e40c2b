/- Contracts and plain facts that the claim uses (QsG QrQ TuP RmP QrG QrH MtP K7p K7a K7b K7). Conditions: as each one states. -/
import Derived.RangeFuncNested
import Derived.RangeFuncBound
import Derived.RangeFuncCalls
import Derived.RangeFuncLeaves
import Derived.RangeFuncFrom
import Derived.Shelf.Abstract
import Derived.Shelf.RegionOpen
import Derived.WalkKit
import Derived.OwnWalkIn
import Derived.TacticsInMore
import Derived.LoopNIn
import Derived.LoopIn
import Derived.Test.YtndmeaoidihikaaGreatDoorProg
import Derived.WalkSpells
import Derived.Maps.AppendAt
import Derived.Deep.Quiet
import Derived.Maps.Own
import Derived.Maps.OwnSet
import Derived.Maps.Views
import Derived.WalkLawsBesides
import Derived.Laws.EntriesVeiled
import Derived.Deep.QuietTactic
import Derived.BigQuiet
import Derived.Shelf.Strings.Trim
import Derived.Shelf.Strings.SlTrimAscii
import Derived.Shelf.Strings.Repeat
import Derived.Shelf.Strings.OnBuilder
import Derived.Shelf.Strconv.Itoa1
import Derived.Shelf.Strconv.Itoa3
import Derived.Shelf.LaysM
import Derived.Ground.Names2Prog
import Derived.Lib.OthersKept
import Derived.Deep.RegionHeld3
import Derived.Deep.AppendLies
import Derived.Deep.RegionHeldLaw
import Derived.Deep.RegionLaw
import Derived.StillTail
import Derived.Laws.Tables
import Derived.IntWalk
import Derived.Laws.CopyOwn
import Derived.BigRegion
import Derived.ChangeAlike
import Derived.Shelf.Bits.Mul64
import Derived.Lib.ItoaLen
import Derived.Lib.ItoaMem
import Derived.Sort.LoopGhostIn
import Derived.Maps.RangeWalk
import Derived.Maps.Ext
import Derived.Sort.QuietThIn
import Derived.Deep.LoopGhost
import Derived.Lib.Split
import Derived.Lib.AtoiAll
import Derived.Shelf.Strconv.ErrVarAll
import Derived.Shelf.Strconv.AtoiAll
import Derived.Shelf.Strings.Cut
import Derived.Shelf.Strings.Split
import Derived.Shelf.Strings.SplitShaped
import Derived.Lib.AppendIntMem
import Derived.Lib.SmallJoins
import Derived.LaidSub
import Derived.Lib.LaidTab
import Derived.Lib.AtoiErrMem
import Derived.Stop.LaidErr
import Derived.ReadAgain
import Derived.ChangeSlices
import Derived.OpenShut
import Derived.ProofKit
import Derived.Deep.DeepHandedRow
import Derived.Deep.SlicePairs
import Derived.Test.YtndmeaoidihikaaGreatDoorXz01
import Derived.Test.YtndmeaoidihikaaGreatDoorXz02
import Derived.Test.YtndmeaoidihikaaGreatDoorXz03
import Derived.Test.YtndmeaoidihikaaGreatDoorXz04
import Derived.Test.YtndmeaoidihikaaGreatDoorXz05
import Derived.Test.YtndmeaoidihikaaGreatDoorXz06
import Derived.Test.YtndmeaoidihikaaGreatDoorXz07
import Derived.Test.YtndmeaoidihikaaGreatDoorXz08
import Derived.Test.YtndmeaoidihikaaGreatDoorXz09
import Derived.Test.YtndmeaoidihikaaGreatDoorXz10
import Derived.Test.YtndmeaoidihikaaGreatDoorXz11
import Derived.Test.YtndmeaoidihikaaGreatDoorXz12
import Derived.Test.YtndmeaoidihikaaGreatDoorY4701
set_option linter.all false

namespace Go.Proofs.YtndmeaoidihikaaGreatDoor
open Go.RowKit
set_option maxHeartbeats 8000000
set_option maxRecDepth 100000
/-- a machine with a load is valid, with at most some gears and carriers. -/
def Fits (m : MacV) (l : List Int) (g c : Int) : Prop := (m.sw.length ≤ 19 ∧ l.length ≤ 67) ∧ m.gears ≤ g ∧ (l.length : Int) ≤ c ∧ loadE m l = 0
theorem lfits_ok (m : MacV) (ad al : Option Addr) (cap cl : Nat) (l : List Int) (g c : Int) (w : World) (hR : Ints w ad cap m.sw) (hL : Ints w al cl l) (h : Fits m l g c) :
  Calls Tryz.prog 17 #[mV m ad cap, .slice al l.length cl, .int .i64 g, .int .i64 c] w fun r w' => r = .returned (.bool true) ∧ Below w.heap.size w w' := by
 obtain ⟨hs, hg, hc, he⟩ := h
 have hS0 := ((SL.nil w).box (.cells (mC m ad cap) 24)).box (.cells (mC m ad cap) 25)
 simp only [World.size_alloc] at hS0
 have CSh := fun w => rShort_any m ad cap al cl l.length w
 rw [show (decide (m.sw.length ≤ 19) && decide (l.length ≤ 67)) = true by simp [hs]] at CSh
 have CK := fun w h h2 => lcheck_any m ad cap al cl l w h h2
 rw [he] at CK
 have HSh := hid CSh; have HCK := hid CK
 have dg : decide (m.gears ≤ g) = true := decide_eq_true hg
 have dc : decide ((l.length : Int) ≤ c) = true := decide_eq_true hc
 have hlc := hL.le
 clear CSh CK he hs hg hc
 go_enter Tryz.func17, Tryz.ntmps17
 go_wp2_with (with_reducible refine wpList_ldS (n := 4) (us := mC m ad cap) A_rmach kR wU wU (by assumption) wU wU ?_)
 refine (HSh.out _).mono ?_
 rintro e w1 ⟨rfl, b1⟩
 have hS1 := hS0.mono b1
 have q1_rm := (hS1.blk 0 rfl).1
 have q1_m := (hS1.blk 1 rfl).1
 clear hS0
 go_wp2_with (first | (with_reducible refine wpList_ldB (by first | exact F_int | exact F_u64s) wU wU (by assumption) wU ?_) | (with_reducible refine wpList_ldS (n := 4) (us := mC m ad cap) A_rmach kR wU wU (by assumption) wU wU ?_))
 refine (HCK.out _ (hR.below hS1.b) (hL.below hS1.b)).mono ?_
 rintro e w2 ⟨rfl, b2⟩
 have hS2 := hS1.mono b2
 have q2_rm := (hS2.blk 0 rfl).1
 have q2_m := (hS2.blk 1 rfl).1
 clear hS1 q1_rm q1_m
 go_wp2_with (with_reducible refine wpList_ldB (by first | exact F_int | exact F_u64s) wU wU (by assumption) wU ?_)
 go_ret
 exact ⟨rfl, hS2.b⟩
theorem lfits_no (m : MacV) (ad al : Option Addr) (cap cl : Nat) (l : List Int) (g c : Int) (w : World) (hR : Ints w ad cap m.sw) (hL : Ints w al cl l) (h : ¬ Fits m l g c) :
  Calls Tryz.prog 17 #[mV m ad cap, .slice al l.length cl, .int .i64 g, .int .i64 c] w fun r w' => r = .returned (.bool false) ∧ Below w.heap.size w w' := by
 have hS0 := ((SL.nil w).box (.cells (mC m ad cap) 24)).box (.cells (mC m ad cap) 25)
 simp only [World.size_alloc] at hS0
 have CSh := fun w => rShort_any m ad cap al cl l.length w
 have CK := fun w h h2 => lcheck_any m ad cap al cl l w h h2
 have hlc := hL.le
 by_cases hs : m.sw.length ≤ 19 ∧ l.length ≤ 67
 ·rw [show (decide (m.sw.length ≤ 19) && decide (l.length ≤ 67)) = true by simp [hs]] at CSh
  have HSh := hid CSh
  clear CSh
  by_cases hg : m.gears ≤ g
  ·have dg : decide (m.gears ≤ g) = true := decide_eq_true hg
   by_cases hc : (l.length : Int) ≤ c
   ·have dc : decide ((l.length : Int) ≤ c) = true := decide_eq_true hc
    have he : loadE m l ≠ 0 := fun e => h ⟨hs, hg, hc, e⟩
    obtain ⟨E, hE⟩ : ∃ E, E = loadE m l := ⟨_, rfl⟩
    rw [← hE] at CK he
    have hne : (E == 0) = false := by simpa using he
    have HCK := hid CK
    clear CK hE he h hs hg hc
    go_enter Tryz.func17, Tryz.ntmps17
    go_wp2_with (with_reducible refine wpList_ldS (n := 4) (us := mC m ad cap) A_rmach kR wU wU (by assumption) wU wU ?_)
    refine (HSh.out _).mono ?_
    rintro e w1 ⟨rfl, b1⟩
    have hS1 := hS0.mono b1
    have q1_rm := (hS1.blk 0 rfl).1
    have q1_m := (hS1.blk 1 rfl).1
    clear hS0
    go_wp2_with (first | (with_reducible refine wpList_ldB (by first | exact F_int | exact F_u64s) wU wU (by assumption) wU ?_) | (with_reducible refine wpList_ldS (n := 4) (us := mC m ad cap) A_rmach kR wU wU (by assumption) wU wU ?_))
    refine (HCK.out _ (hR.below hS1.b) (hL.below hS1.b)).mono ?_
    rintro e w2 ⟨rfl, b2⟩
    have hS2 := hS1.mono b2
    have q2_rm := (hS2.blk 0 rfl).1
    have q2_m := (hS2.blk 1 rfl).1
    clear hS1 q1_rm q1_m
    go_wp2_with (with_reducible refine wpList_ldB (by first | exact F_int | exact F_u64s) wU wU (by assumption) wU ?_)
    go_ret
    exact ⟨rfl, hS2.b⟩
   ·have dc : decide ((l.length : Int) ≤ c) = false := decide_eq_false hc
    clear CK h hs hg hc
    go_enter Tryz.func17, Tryz.ntmps17
    go_wp2_with (with_reducible refine wpList_ldS (n := 4) (us := mC m ad cap) A_rmach kR wU wU (by assumption) wU wU ?_)
    refine (HSh.out _).mono ?_
    rintro e w1 ⟨rfl, b1⟩
    have hS1 := hS0.mono b1
    have q1_rm := (hS1.blk 0 rfl).1
    have q1_m := (hS1.blk 1 rfl).1
    clear hS0
    go_wp2_with (with_reducible refine wpList_ldB (by first | exact F_int | exact F_u64s) wU wU (by assumption) wU ?_)
    go_ret
    exact ⟨rfl, hS1.b⟩
  ·have dg : decide (m.gears ≤ g) = false := decide_eq_false hg
   clear CK h hs hg
   go_enter Tryz.func17, Tryz.ntmps17
   go_wp2_with (with_reducible refine wpList_ldS (n := 4) (us := mC m ad cap) A_rmach kR wU wU (by assumption) wU wU ?_)
   refine (HSh.out _).mono ?_
   rintro e w1 ⟨rfl, b1⟩
   have hS1 := hS0.mono b1
   have q1_rm := (hS1.blk 0 rfl).1
   have q1_m := (hS1.blk 1 rfl).1
   clear hS0
   go_wp2_with (with_reducible refine wpList_ldB (by first | exact F_int | exact F_u64s) wU wU (by assumption) wU ?_)
   go_ret
   exact ⟨rfl, hS1.b⟩
 ·rw [show (decide (m.sw.length ≤ 19) && decide (l.length ≤ 67)) = false by
   rcases Nat.lt_or_ge 19 m.sw.length with h1 | h1
   ·rw [decide_eq_false (by omega)]; rfl
   ·rw [decide_eq_true h1, decide_eq_false (by omega)]; rfl] at CSh
  have HSh := hid CSh
  clear CSh CK h hs
  go_enter Tryz.func17, Tryz.ntmps17
  go_wp2_with (with_reducible refine wpList_ldS (n := 4) (us := mC m ad cap) A_rmach kR wU wU (by assumption) wU wU ?_)
  refine (HSh.out _).mono ?_
  rintro e w1 ⟨rfl, b1⟩
  have hS1 := hS0.mono b1
  have q1_rm := (hS1.blk 0 rfl).1
  have q1_m := (hS1.blk 1 rfl).1
  clear hS0
  go_wp2_with (with_reducible refine wpList_ldB (by first | exact F_int | exact F_u64s) wU wU (by assumption) wU ?_)
  go_ret
  exact ⟨rfl, hS1.b⟩
end Go.Proofs.YtndmeaoidihikaaGreatDoor

namespace Go.Proofs.YtndmeaoidihikaaGreatDoor
set_option maxRecDepth 100000
/-- the least value that is not negative, or -1. -/
def minF (f : Int × Int → Int) (ps : List (Int × Int)) : Int := ps.foldl (fun b p => if 0 ≤ f p ∧ (b < 0 ∨ f p < b) then f p else b) (-1)
theorem minF_snoc (f : Int × Int → Int) (ps : List (Int × Int)) (p : Int × Int) : minF f (ps ++ [p]) = if 0 ≤ f p ∧ (minF f ps < 0 ∨ f p < minF f ps) then f p else minF f ps := by unfold minF; rw [List.foldl_append]; rfl
theorem minF_spec (f : Int × Int → Int) : ∀ ps : List (Int × Int), (minF f ps = -1 ∧ ∀ p ∈ ps, f p < 0) ∨ (0 ≤ minF f ps ∧ (∃ p ∈ ps, f p = minF f ps) ∧ ∀ p ∈ ps, 0 ≤ f p → minF f ps ≤ f p) := by
 suffices h : ∀ ps : List (Int × Int), (minF f ps.reverse = -1 ∧ ∀ p ∈ ps, f p < 0) ∨ (0 ≤ minF f ps.reverse ∧ (∃ p ∈ ps, f p = minF f ps.reverse) ∧ ∀ p ∈ ps, 0 ≤ f p → minF f ps.reverse ≤ f p) by
  intro ps
  have := h ps.reverse
  rw [List.reverse_reverse] at this
  simpa using this
 intro ps
 induction ps with
 | nil => exact .inl ⟨rfl, fun p hp => by cases hp⟩
 | cons q r ih =>
  rw [List.reverse_cons, minF_snoc]
  generalize minF f r.reverse = b at ih ⊢
  by_cases hc : 0 ≤ f q ∧ (b < 0 ∨ f q < b)
  ·rw [if_pos hc]
   refine .inr ⟨hc.1, ⟨q, List.mem_cons_self, rfl⟩, fun p hp h0 => ?_⟩
   rcases List.mem_cons.1 hp with rfl | hp
   ·exact Int.le_refl _
   ·rcases ih with ⟨_, h2⟩ | ⟨h1, _, h3⟩
    ·have := h2 p hp; omega
    ·have := h3 p hp h0; omega
  ·rw [if_neg hc]
   rcases ih with ⟨h1, h2⟩ | ⟨h1, ⟨p, hp, e⟩, h3⟩
   ·refine .inl ⟨h1, fun p hp => ?_⟩
    rcases List.mem_cons.1 hp with rfl | hp
    ·omega
    ·exact h2 p hp
   ·refine .inr ⟨h1, ⟨p, List.mem_cons_of_mem _ hp, e⟩, fun p hp h0 => ?_⟩
    rcases List.mem_cons.1 hp with rfl | hp
    ·omega
    ·exact h3 p hp h0
/-- the steps up to the first meeting of two, or -1. -/
noncomputable def pairN (m : MacV) (p : Int × Int) : Int := match meetM m p.1 p.2 with | some v => (v.1 : Int) | none => -1
/-- the place at which two meet now, or -1. -/
def hereN (m : MacV) (p : Int × Int) : Int := if hitM m p.1 p.2 then placeM m p.1 else -1
theorem hit_place {m : MacV} {x y : Int} (h : hitM m x y = true) : 0 ≤ placeM m x := by
 unfold hitM at h
 simp only [Bool.and_eq_true, decide_eq_true_eq] at h
 exact h.1.1
theorem hereN_nonneg {m : MacV} {p : Int × Int} : 0 ≤ hereN m p ↔ hitM m p.1 p.2 = true := by
 unfold hereN
 split
 ·rename_i h; exact ⟨fun _ => h, fun _ => hit_place h⟩
 ·rename_i h; exact ⟨fun h2 => by omega, fun h2 => absurd h2 h⟩
noncomputable def nowM (m : MacV) (l : List Int) : Int := minF (hereN m) (pairsTo l l.length)
noncomputable def meetN (m : MacV) (l : List Int) : Int := minF (pairN m) (pairsTo l l.length)
theorem pairN_nonneg {m : MacV} {p : Int × Int} : 0 ≤ pairN m p ↔ meetM m p.1 p.2 ≠ none := by
 unfold pairN
 cases meetM m p.1 p.2 with
 | none => simp
 | some v => simp
theorem pairsTo_map {l : List Int} {f : Int → Int} {p : Int × Int} : p ∈ pairsTo (l.map f) (l.map f).length ↔ ∃ q ∈ pairsTo l l.length, p = (f q.1, f q.2) := by
 have at_map : ∀ i : Nat, i < l.length → atD 0 (l.map f) i = f (atD 0 l i) := fun i hi => by simp [atD, hi]
 rw [pairsTo_mem (Nat.le_refl _)]
 constructor
 ·rintro ⟨i, j, hji, hi, rfl⟩
  rw [List.length_map] at hi
  refine ⟨(atD 0 l i, atD 0 l j), (pairsTo_mem (Nat.le_refl _)).2 ⟨i, j, hji, hi, rfl⟩, ?_⟩
  rw [at_map i hi, at_map j (by omega)]
 ·rintro ⟨q, hq, rfl⟩
  obtain ⟨i, j, hji, hi, rfl⟩ := (pairsTo_mem (Nat.le_refl _)).1 hq
  refine ⟨i, j, hji, by rw [List.length_map]; exact hi, ?_⟩
  rw [at_map i hi, at_map j (by omega)]
theorem meet_refS {m : MacV} {l : List Int} {n : Nat} {pl : Int} (h : firstM m l = some (n, pl)) : meetN m l = n ∧ nowM m (l.map fun s => itM m s n) = pl := by
 obtain ⟨_, s2⟩ := foldF_spec m (pairsTo l l.length) none
 obtain ⟨_, k2, k3⟩ := s2 _ h
 obtain ⟨q, hq, hqm⟩ : ∃ p ∈ pairsTo l l.length, meetM m p.1 p.2 = some (n, pl) := by
  rcases k3 with k3 | k3
  ·cases k3
  ·exact k3
 have hN : meetN m l = n := by
  have hqn : pairN m q = n := by unfold pairN; rw [hqm]
  rcases minF_spec (pairN m) (pairsTo l l.length) with h1 | ⟨h1, ⟨p, hp, e⟩, h3⟩
  ·have := h1.2 q hq; omega
  ·have a := h3 q hq (by omega)
   rw [hqn] at a
   refine Int.le_antisymm a ?_
   rw [← e] at h1
   have h1' := pairN_nonneg.1 h1
   cases hv : meetM m p.1 p.2 with
   | none => exact absurd hv h1'
   | some v =>
    have b := k2 p hp v hv
    rw [befo_false] at b
    have ev : pairN m p = v.1 := by unfold pairN; rw [hv]
    show (n : Int) ≤ minF (pairN m) (pairsTo l l.length)
    rw [← e, ev]
    dsimp only at b
    omega
 refine ⟨hN, ?_⟩
 have hsp := meetM_spec m q.1 q.2
 rw [hqm] at hsp
 obtain ⟨g1, g2, g3⟩ := hsp
 have hqh : hereN m (itM m q.1 n, itM m q.2 n) = pl := by unfold hereN; rw [if_pos g1, g2]
 have hpl0 : 0 ≤ pl := by rw [g2]; exact hit_place g1
 have hqm2 := (pairsTo_map (f := fun s => itM m s n)).2 ⟨q, hq, rfl⟩
 rcases minF_spec (hereN m) (pairsTo (l.map fun s => itM m s n) (l.map fun s => itM m s n).length) with h1 | ⟨h1, ⟨p, hp, e⟩, h3⟩
 ·have := h1.2 _ hqm2; omega
 ·have a := h3 _ hqm2 (by rw [hqh]; exact hpl0)
  rw [hqh] at a
  refine Int.le_antisymm a ?_
  show pl ≤ minF (hereN m) _
  obtain ⟨p0, hp0, rfl⟩ := pairsTo_map.1 hp
  rw [← e] at h1
  have hh := hereN_nonneg.1 h1
  dsimp only at hh
  cases hv : meetM m p0.1 p0.2 with
  | none =>
   have hs := meetM_spec m p0.1 p0.2
   rw [hv] at hs
   have := hs n
   rw [this] at hh; cases hh
  | some v =>
   have b := k2 p0 hp0 v hv
   have hs := meetM_spec m p0.1 p0.2
   rw [hv] at hs
   obtain ⟨t1, t2, t3⟩ := hs
   have hvn : ¬ n < v.1 := fun hlt => by rw [t3 n hlt] at hh; cases hh
   rw [befo_false] at b
   dsimp only at b
   have hvn2 : v.1 = n := by omega
   have hpv : pl ≤ v.2 := by omega
   rw [← e]
   unfold hereN
   rw [if_pos hh]
   dsimp only
   rw [hvn2] at t2
   rw [← t2]
   exact hpv
end Go.Proofs.YtndmeaoidihikaaGreatDoor

namespace Go.Proofs.YtndmeaoidihikaaGreatDoor
set_option maxRecDepth 100000
theorem loadGo_ok (m : MacV) : ∀ (l pre : List Int), (∀ x ∈ l, 0 ≤ x ∧ x < 4 * m.gears) → (pre ++ l).Nodup → loadGo m pre l = 0
 | [], pre, _, _ => rfl
 | s :: r, pre, h, hn => by
   have hs := h s (by simp)
   have h2 : s ∉ pre := fun hm => by
     have := (List.nodup_append.1 hn).2.2 s hm s (by simp)
     exact this rfl
   rw [loadGo, if_neg (by omega), if_neg h2]
   exact loadGo_ok m r (pre ++ [s]) (fun x hx => h x (List.mem_cons_of_mem _ hx)) (by simpa using hn)
theorem loadE_ok {m : MacV} {l : List Int} (hm : macE m = 0) (hr : ∀ x ∈ l, 0 ≤ x ∧ x < 4 * m.gears) (hn : l.Nodup) : loadE m l = 0 := by
 have hle : (l.length : Int) ≤ 4 * m.gears := by
  have hg := (macE_zero hm).1.lo
  have := nodup_le (4 * m.gears).toNat l hn (fun x hx => by have := hr x hx; omega)
  omega
 unfold loadE
 rw [if_neg (by simp [hm]), if_neg (by omega)]
 exact loadGo_ok m l [] hr (by simpa using hn)
theorem nodup_map {l : List Int} {f : Int → Int} (hn : l.Nodup) (h : ∀ x ∈ l, ∀ y ∈ l, f x = f y → x = y) : (l.map f).Nodup := by
 rw [List.nodup_iff_pairwise_ne, List.pairwise_map]
 exact (List.nodup_iff_pairwise_ne.1 hn).imp_of_mem fun {x y} hx hy hxy e => hxy (h x hx y hy e)
theorem atL_nodup {m : MacV} {l : List Int} (hr : ∀ x ∈ l, 0 ≤ x ∧ x < 4 * m.gears) (hn : l.Nodup) (k : Nat) : (atL m l k).Nodup :=
 nodup_map hn fun x hx y hy e => itM_inj (hr x hx).1 (hr x hx).2 (hr y hy).1 (hr y hy).2 k e
theorem atL_load {m : MacV} {l : List Int} (h : LoadOk m l) (k : Nat) : loadE m (atL m l k) = 0 := loadE_ok h.mac (atL_rng h.rng k) (atL_nodup h.rng h.nodup k)

theorem place_odd {m : MacV} {s : Int} (h : ¬ s % 2 = 0) : placeM m s = -1 := by unfold placeM; rw [if_neg (by omega), if_neg (by omega)]
theorem pair_rng {l : List Int} {N : Int} (hl : ∀ x ∈ l, 0 ≤ x ∧ x < N) {p : Int × Int} (hp : p ∈ pairsTo l l.length) : (0 ≤ p.1 ∧ p.1 < N) ∧ (0 ≤ p.2 ∧ p.2 < N) := by
 obtain ⟨i, j, hji, hi, rfl⟩ := (pairsTo_mem (Nat.le_refl _)).1 hp
 have e1 : atD 0 l (i : Int) = l[i] := by simp [atD, hi]
 have hj : j < l.length := by omega
 have e2 : atD 0 l (j : Int) = l[j] := by simp [atD, hj]
 rw [e1, e2]
 exact ⟨hl _ (List.getElem_mem hi), hl _ (List.getElem_mem hj)⟩
end Go.Proofs.YtndmeaoidihikaaGreatDoor

namespace Go.Proofs.YtndmeaoidihikaaGreatDoor
set_option maxRecDepth 100000
theorem meet_none_iff {m : MacV} {a b : Int} : meetM m a b = none ↔ ∀ k, hitM m (itM m a k) (itM m b k) = false := by
 have hs := meetM_spec m a b
 constructor
 ·intro h; rw [h] at hs; exact hs
 ·intro h
  cases hm : meetM m a b with
  | none => rfl
  | some v => rw [hm] at hs; have := h v.1; rw [hs.1] at this; cases this
theorem meet_symm {m : MacV} {a b : Int} : meetM m a b = none ↔ meetM m b a = none := by
 rw [meet_none_iff, meet_none_iff]
 constructor
 ·intro h k; rw [hitM_symm]; exact h k
 ·intro h k; rw [hitM_symm]; exact h k
/-- no two ever meet. -/
def AllA (m : MacV) (l : List Int) : Prop := ∀ x ∈ l, ∀ y ∈ l, x ≠ y → meetM m x y = none
theorem at_memI {l : List Int} {i : Nat} (h : i < l.length) : atD 0 l i ∈ l := by
 have e : atD 0 l (i : Int) = l[i] := by simp [atD, h]
 rw [e]; exact List.getElem_mem h
theorem first_all {m : MacV} {l : List Int} (hn : l.Nodup) : firstM m l = none ↔ AllA m l := by
 obtain ⟨s1, s2⟩ := foldF_spec m (pairsTo l l.length) none
 constructor
 ·intro h x hx y hy hxy
  have k := (s1 h).2
  obtain ⟨i, hi, rfl⟩ := List.mem_iff_getElem.1 hx
  obtain ⟨j, hj, rfl⟩ := List.mem_iff_getElem.1 hy
  have ei : atD 0 l (i : Int) = l[i] := by simp [atD, hi]
  have ej : atD 0 l (j : Int) = l[j] := by simp [atD, hj]
  rcases Nat.lt_trichotomy j i with hl | hl | hl
  ·have := k _ ((pairsTo_mem (Nat.le_refl _)).2 ⟨i, j, hl, hi, rfl⟩)
   rw [ei, ej] at this; exact this
  ·subst hl; exact absurd rfl hxy
  ·have := k _ ((pairsTo_mem (Nat.le_refl _)).2 ⟨j, i, hl, hj, rfl⟩)
   rw [ei, ej] at this; exact meet_symm.1 this
 ·intro h
  cases hf : firstM m l with
  | none => rfl
  | some v =>
   obtain ⟨_, _, k3⟩ := s2 v hf
   rcases k3 with k3 | ⟨p, hp, e⟩
   ·cases k3
   ·obtain ⟨i, j, hji, hi, rfl⟩ := (pairsTo_mem (Nat.le_refl _)).1 hp
    have hne : atD 0 l (i : Int) ≠ atD 0 l (j : Int) := fun e2 => nodup_ne hn hji hi e2.symm
    rw [h _ (at_memI hi) _ (at_memI (by omega)) hne] at e
    cases e
structure GoodL (m : MacV) (l : List Int) (s : Int) : Prop where
 all : AllA m l
 asc : l.Pairwise (· < ·)
 rng : ∀ x ∈ l, 0 ≤ x ∧ x < s
theorem GoodL.mono {m : MacV} {l : List Int} {s t : Int} (h : GoodL m l s) (hst : s ≤ t) : GoodL m l t := ⟨h.all, h.asc, fun x hx => by have := h.rng x hx; omega⟩
end Go.Proofs.YtndmeaoidihikaaGreatDoor

namespace Go.Proofs.YtndmeaoidihikaaGreatDoor
open Go.RowKit
set_option maxHeartbeats 4000000
set_option maxRecDepth 100000
theorem atD_in {l : List Int} {P : Int → Prop} (h : ∀ x ∈ l, P x) {k : Nat} (hk : k < l.length) : P (atD 0 l k) := by
 have e : atD 0 l k = l[k] := by simp [atD, hk]
 rw [e]; exact h _ (List.getElem_mem hk)
end Go.Proofs.YtndmeaoidihikaaGreatDoor

namespace Go.Proofs.YtndmeaoidihikaaGreatDoor
open Go.RowKit
set_option maxHeartbeats 8000000
set_option maxRecDepth 100000
theorem pairsAt_succ {l : List Int} {i j : Nat} (h : j < l.length) : pairsAt l i (j + 1) = pairsAt l i j ++ [(atD 0 l i, atD 0 l j)] := by
 unfold pairsAt
 rw [take_snoc h, List.map_append, List.append_assoc]
 rfl
theorem min_at (f : Int × Int → Int) {l : List Int} {i j : Nat} (h : j < l.length) : minF f (pairsAt l i (j + 1)) = if 0 ≤ f (atD 0 l i, atD 0 l j) ∧ (minF f (pairsAt l i j) < 0 ∨ f (atD 0 l i, atD 0 l j) < minF f (pairsAt l i j)) then f (atD 0 l i, atD 0 l j) else minF f (pairsAt l i j) := by
 rw [pairsAt_succ h, minF_snoc]
theorem ne_atI {l : List Int} (h : l.Nodup) {i j : Nat} (hi : i < l.length) (hj : j < l.length) (hij : j < i) : atD 0 l j ≠ atD 0 l i := by
 have ei : atD 0 l i = l[i] := by simp [atD, hi]
 have ej : atD 0 l j = l[j] := by simp [atD, hj]
 rw [ei, ej]
 intro e
 have := (List.getElem_inj h).1 e
 omega
end Go.Proofs.YtndmeaoidihikaaGreatDoor

namespace Go.Proofs.YtndmeaoidihikaaGreatDoor
set_option maxRecDepth 100000
/-- two slots of one place. -/
theorem hit_even {m : MacV} {s t : Int} (s0 : 0 ≤ s) (s1 : s < 4 * m.gears) (t0 : 0 ≤ t) (t1 : t < 4 * m.gears) (hne : s ≠ t) : hitM m s t = (((decide (s % 2 = 0) && decide (t % 2 = 0)) && decide (s ≠ t)) && decide (placeM m s = placeM m t)) := by
 rw [Bool.eq_iff_iff]
 unfold hitM
 simp only [Bool.and_eq_true, decide_eq_true_eq, shared_iff]
 constructor
 ·rintro ⟨⟨h0, _⟩, he⟩
  refine ⟨⟨⟨?_, ?_⟩, hne⟩, he⟩
  ·refine Classical.byContradiction fun h => ?_
   rw [place_odd h] at h0; omega
  ·refine Classical.byContradiction fun h => ?_
   rw [he, place_odd h] at h0; omega
 ·rintro ⟨⟨⟨hs, ht⟩, _⟩, he⟩
  refine ⟨?_, he⟩
  unfold placeM at he ⊢
  cases hr : m.ring
  ·simp only [hr, Bool.false_eq_true, false_and, if_false, false_or] at he ⊢
   by_cases a : s % 4 = 0
   ·rw [if_pos a] at he ⊢
    by_cases b : t % 4 = 0
    ·rw [if_pos b] at he; omega
    ·rw [if_neg b, if_pos (by omega)] at he; omega
   ·rw [if_neg a, if_pos (by omega)] at he ⊢
    by_cases b : t % 4 = 0
    ·rw [if_pos b] at he; omega
    ·rw [if_neg b, if_pos (by omega)] at he; omega
  ·simp only [hr, true_and, true_or, and_true] at he ⊢
   by_cases a : s % 4 = 0
   ·rw [if_pos a]; omega
   ·rw [if_neg a, if_pos (by omega)]
    split <;> omega
theorem first_is {m : MacV} {l : List Int} {v : Nat × Int} (h : firstM m l = some v) : ∃ p ∈ pairsTo l l.length, meetM m p.1 p.2 = some v := by
 obtain ⟨_, s2⟩ := foldF_spec m (pairsTo l l.length) none
 obtain ⟨_, _, k3⟩ := s2 _ h
 rcases k3 with k3 | k3
 ·cases k3
 ·exact k3
/-- the first meeting comes within 576 steps, with up to six gears. -/
theorem first_soon {m : MacV} (hg : m.gears ≤ 6) {l : List Int} (hl : ∀ x ∈ l, 0 ≤ x ∧ x < 4 * m.gears) {v : Nat × Int} (h : firstM m l = some v) : v.1 < 800 := by
 obtain ⟨p, hp, e⟩ := first_is h
 obtain ⟨⟨a0, a1⟩, b0, b1⟩ := pair_rng hl hp
 obtain ⟨d, hd⟩ := ordM a0 a1
 obtain ⟨q, hq⟩ := ordM b0 b1
 have h1 := hd.le
 have h2 := hq.le
 rw [permM_len] at h1 h2
 have hL : q * d ≤ 24 * 24 := Nat.mul_le_mul (by omega) (by omega)
 have hpos : 0 < q * d := Nat.mul_pos hq.pos hd.pos
 have hs := meetM_spec m p.1 p.2
 rw [e] at hs
 obtain ⟨n, pl⟩ := v
 obtain ⟨s1, _, s3⟩ := hs
 have hb1 : itM m p.1 (q * d) = p.1 := itP_mul hd.back q
 have hb2 : itM m p.2 (q * d) = p.2 := by rw [Nat.mul_comm]; exact itP_mul hq.back d
 show n < 800
 by_cases hc : n < q * d
 ·omega
 ·have e1 : n = (n - q * d) + q * d := by omega
  have k1 : itM m p.1 n = itM m p.1 (n - q * d) := by
   unfold itM at hb1 ⊢
   conv => lhs; rw [e1, itP_add, hb1]
  have k2 : itM m p.2 n = itM m p.2 (n - q * d) := by
   unfold itM at hb2 ⊢
   conv => lhs; rw [e1, itP_add, hb2]
  rw [k1, k2, s3 (n - q * d) (by omega)] at s1
  cases s1
theorem now_none {m : MacV} {l : List Int} (h : ∀ p ∈ pairsTo l l.length, hitM m p.1 p.2 = false) : nowM m l = -1 := by
 unfold nowM
 rcases minF_spec (hereN m) (pairsTo l l.length) with h1 | ⟨h1, ⟨p, hp, e⟩, _⟩
 ·exact h1.1
 ·rw [← e, hereN_nonneg, h p hp] at h1; cases h1
/-- before the first meeting. -/
theorem now_before {m : MacV} {l : List Int} {k : Nat} (h : ∀ v, firstM m l = some v → k < v.1) : nowM m (atL m l k) = -1 := by
 refine now_none fun p hp => ?_
 obtain ⟨q, hq, rfl⟩ := pairsTo_map.1 hp
 dsimp only
 have hs := meetM_spec m q.1 q.2
 obtain ⟨s1, s2⟩ := foldF_spec m (pairsTo l l.length) none
 cases hm : meetM m q.1 q.2 with
 | none => rw [hm] at hs; exact hs k
 | some w =>
  rw [hm] at hs
  refine hs.2.2 k ?_
  cases hf : firstM m l with
  | none => have := (s1 hf).2 q hq; rw [hm] at this; cases this
  | some v =>
   have hb := (s2 v hf).2.1 q hq w hm
   rw [befo_false] at hb
   have := h v hf
   omega
theorem now_at {m : MacV} {l : List Int} {n : Nat} {pl : Int} (h : firstM m l = some (n, pl)) : nowM m (atL m l n) = pl ∧ 0 ≤ pl := by
 refine ⟨(meet_refS h).2, ?_⟩
 obtain ⟨p, _, e⟩ := first_is h
 have hs := meetM_spec m p.1 p.2
 rw [e] at hs
 rw [hs.2.1]
 exact hit_place hs.1
theorem itM_add (m : MacV) (s : Int) (a b : Nat) : itM m (itM m s b) a = itM m s (a + b) := by unfold itM; rw [itP_add]
theorem atL_add (m : MacV) (l : List Int) (a b : Nat) : atL m (atL m l b) a = atL m l (a + b) := by
 unfold atL
 rw [List.map_map]
 exact List.map_congr_left fun x _ => itM_add m x a b
/-- carriers some steps later. -/
theorem later_acc {m : MacV} {l : List Int} (h : LoadOk m l) (hf : firstM m l = none) (k : Nat) : firstM m (atL m l k) = none := by
 have hA := (first_all h.nodup).1 hf
 refine (first_all (atL_nodup h.rng h.nodup k)).2 ?_
 intro x hx y hy hxy
 obtain ⟨a, ha, rfl⟩ := List.mem_map.1 hx
 obtain ⟨b, hb, rfl⟩ := List.mem_map.1 hy
 have hab : a ≠ b := fun e => hxy (by rw [e])
 rw [meet_none_iff]
 intro j
 rw [itM_add, itM_add]
 exact (meet_none_iff.1 (hA a ha b hb hab)) (j + k)
/-- carriers that are taken away. -/
theorem tail_acc {m : MacV} {x : Int} {l : List Int} (h : LoadOk m (x :: l)) (hf : firstM m (x :: l) = none) : loadE m l = 0 ∧ firstM m l = none := by
 have hn := (List.nodup_cons.1 h.nodup).2
 refine ⟨loadE_ok h.mac (fun y hy => h.rng y (by simp [hy])) hn, ?_⟩
 have hA := (first_all h.nodup).1 hf
 exact (first_all hn).2 fun a ha b hb => hA a (by simp [ha]) b (by simp [hb])
end Go.Proofs.YtndmeaoidihikaaGreatDoor

namespace Go.Proofs.YtndmeaoidihikaaGreatDoor
open Go.RowKit
set_option maxHeartbeats 8000000
set_option maxRecDepth 100000
theorem cut_one (al : Option Addr) (cl n : Nat) (hn : 1 ≤ n) (hc : n ≤ cl) : ∃ a0 : Option Addr, ∀ (V : World) (l : List Int), l.length = n → Ints V al cl l →
  (Instr.sliceAt 22 (.slice al n cl) (some (.int .i64 1)) none none).run Tryz.prog V = .ok (.slice a0 (n - 1) (cl - 1)) V ∧ Ints V a0 (cl - 1) (l.drop 1) := by
 refine ⟨if cl = 1 then al else al.map (·.add (1 * 1)), fun V l hl hL => ?_⟩
 subst hl
 obtain ⟨inf, hinf, _, hs, _⟩ := info_parts E_ints.inf
 have hrun : (Instr.sliceAt 22 (.slice al l.length cl) (some (.int .i64 1)) none none).run Tryz.prog V = .ok (.slice (if cl = 1 then al else al.map (·.add (1 * 1))) (l.length - 1) (cl - 1)) V := by
  have hb := run_bounds (P := Tryz.prog) (w := V) (n := l.length) (cap := cl) (lo := some (.int .i64 1)) (hi := none) (i := 1) (j := l.length) (.inl rfl) (.inr ⟨rfl, rfl⟩) hn hc
  simp [Instr.sliceAt, run_underlying E_ints.und, Instr.slice, hb, sizeOf, typeInfo, hinf, hs]
 obtain ⟨a', h1, h2, _⟩ := run_cut (P := Tryz.prog) E_ints hL (some (.int .i64 1)) none 1 l.length (.inl rfl) (.inr ⟨rfl, rfl⟩) hn (Nat.le_refl _)
 rw [hrun] at h1
 have e : (if cl = 1 then al else al.map (·.add (1 * 1))) = a' := by injection h1 with e1; injection e1
 rw [List.take_length] at h2
 rw [← e] at h2
 exact ⟨hrun, h2⟩
theorem now_none2 {m : MacV} {l : List Int} (h : nowM m l = -1) {i j : Nat} (hi : i < l.length) (hj : j < i) : hitM m (atD 0 l i) (atD 0 l j) = false := by
 rcases minF_spec (hereN m) (pairsTo l l.length) with ⟨_, h2⟩ | ⟨h1, _⟩
 ·have hm : (atD 0 l i, atD 0 l j) ∈ pairsTo l l.length := (pairsTo_mem (Nat.le_refl _)).2 ⟨i, j, hj, hi, rfl⟩
  have := h2 _ hm
  cases hh : hitM m (atD 0 l i) (atD 0 l j) with
  | false => rfl
  | true =>
   have h9 : 0 ≤ hereN m (atD 0 l i, atD 0 l j) := hereN_nonneg.2 hh
   omega
 ·unfold nowM at h
  rw [h] at h1
  omega
theorem load_check {m : MacV} {l : List Int} (h : loadE m l = 0) : (if 4 * m.gears < (l.length : Int) then (5 : Int) else loadGo m [] l) = 0 := by
 have hm := (loadE_zero h).mac
 unfold loadE at h
 rw [if_neg (by simp [hm])] at h
 exact h
end Go.Proofs.YtndmeaoidihikaaGreatDoor

namespace Go.Proofs.YtndmeaoidihikaaGreatDoor
open Go.RowKit
set_option maxHeartbeats 8000000
set_option maxRecDepth 100000
theorem me_none (m : MacV) (ad al : Option Addr) (cap cl : Nat) (l : List Int) (n : Int) (w : World) (hR : Ints w ad cap m.sw) (hL : Ints w al cl l) (hI : InI m.gears) (hw : LibW w) (hf : Fits m l 6 6) (hn0 : 0 ≤ n) (hn1 : n ≤ 1000) (hfm : firstM m l = none) :
  Calls Tryz.prog 4 #[mV m ad cap, .slice al l.length cl, .int .i64 n] w fun r w' => r = .returned (.bool true) ∧ Below w.heap.size w w' := by
 have hS0 := (SL.nil w).box (.cells (mC m ad cap) 24)
 have HA := hid awake4_any
 have hlc := hL.le
 have hlm := hL.max
 have he := hf.2.2.2
 have hlk := loadE_zero he
 have hm := hlk.mac
 have hok := hlk.ok
 have hl6 := hf.2.2.1
 have hg6 := hf.2.1
 have hlo := hok.lo
 have hhi := hok.hi
 have hl64 : l.length ≤ 6 := by omega
 obtain ⟨N, rfl⟩ : ∃ N : Nat, n = N := ⟨n.toNat, by omega⟩
 have KM : ∀ (a : Option Addr) (c : Nat), ChkM m a c := fun a c w h => CheckMachine_any m a c w h hI
 have CME := fun w h h2 => mMeet_any m ad cap al cl l w h h2 (CheckLoad_any m ad cap al cl l (KM _ _))
 have CAC := fun w h h2 => mAccept_any m ad cap al cl l w h h2 (CheckLoad_any m ad cap al cl l (KM _ _))
 have hm3 : meet3 m l = (0, 0, 7) := by unfold meet3; rw [if_neg (by simp [he]), hfm]
 have hac : accE m l = 0 := by unfold accE; rw [if_neg (by simp [he]), hfm]; rfl
 rw [hm3] at CME
 rw [hac] at CAC
 have HIN : Hid (∀ (i k : Nat), k < l.length → 0 ≤ atD 0 (atL m l i) k ∧ atD 0 (atL m l i) k < 4 * m.gears) := hid fun i k hk => atD_in (atL_rng hlk.rng i) (by rw [atL_len]; exact hk)
 have HNE : Hid (∀ (i a b : Nat), a < l.length → b < a → atD 0 (atL m l i) b ≠ atD 0 (atL m l i) a) := hid fun i a b ha hb => ne_atI (atL_nodup hlk.rng hlk.nodup i) (by rw [atL_len]; exact ha) (by rw [atL_len]; omega) hb
 have HPA : Hid (∀ (x : Int) w, 0 ≤ x → x < 4 * m.gears → _) := hid fun x w h0 h1 => rPlace_any m ad cap x w hhi h0 h1
 have HEV : Hid (∀ (x y : Int), 0 ≤ x → x < 4 * m.gears → 0 ≤ y → y < 4 * m.gears → x ≠ y → _) := hid fun x y h0 h1 h2 h3 h4 => hit_even (m := m) h0 h1 h2 h3 h4
 have HLN : Hid (∀ i, (atL m l i).length = l.length) := hid fun i => atL_len m l i
 have HST : Hid (∀ (i : Nat) (a : Option Addr) (c : Nat) w, Ints w ad cap m.sw → Ints w a c (atL m l i) → Calls Tryz.prog 21 #[mV m ad cap, .slice a l.length c, .int .i64 1] w fun r w' => ∃ v, r = .returned (.tuple #[v, .int .i64 0]) ∧ OwnI w.heap.size w' v (atL m l (i + 1)) ∧ Below w.heap.size w w') := hid fun i a c w h h2 => by
  have hz := atL_load hlk i
  have hs : stepsE m (atL m l i) 1 = 0 := by unfold stepsE; rw [if_neg (by simp [hz]), if_neg (by omega)]
  have := mSteps_any m ad cap a c (atL m l i) 1 w h h2 (CheckLoad_any m ad cap a c _ (KM _ _))
  rw [if_pos hs, hs, atL_len] at this
  have e : (atL m l i).map (fun s => itM m s (1 : Int).toNat) = atL m l (i + 1) := by
   show atL m (atL m l i) 1 = _
   rw [atL_add, Nat.add_comm]
  rw [e] at this
  exact this
 have HCL : Hid (∀ (i : Nat) (a : Option Addr) (c : Nat) w, Ints w a c (atL m l i) → Calls Tryz.prog 22 #[mV m ad cap, .slice a l.length c] w fun r w' => r = .returned (.int .i64 0) ∧ Below w.heap.size w w') := hid fun i a c w h => by
  have := rCheckLoad_any m ad cap a c (atL m l i) w h hlo hhi
  rw [load_check (atL_load hlk i), atL_len] at this
  exact this
 have HMA : Hid (∀ (L : List Int) (i j : Nat), j < L.length → _) := hid fun L i j h => min_at (hereN m) (l := L) (i := i) (j := j) h
 have HF := hid (fun w h h2 => lfits_ok m ad al cap cl l 6 6 w h h2 hf)
 have ha0 := atL_zero m l
 have hnb := fun (i : Nat) (a b : Nat) (ha : a < l.length) (hb : b < a) => now_none2 (m := m) (l := atL m l i) (now_before (m := m) (l := l) (k := i) (fun v hv => by rw [hfm] at hv; cases hv)) (by rw [atL_len]; exact ha) hb
 have HNB := hid hnb
 have hz := atL_load hlk N
 have hla := later_acc hlk hfm N
 have hst : stepsE m l N = 0 := by unfold stepsE; rw [if_neg (by simp [he]), if_neg (by omega)]
 have CSN := fun w h h2 => mSteps_any m ad cap al cl l N w h h2 (CheckLoad_any m ad cap al cl l (KM _ _))
 rw [if_pos hst, hst] at CSN
 have HSN : Hid (∀ w, Ints w ad cap m.sw → Ints w al cl l → Calls Tryz.prog 21 #[mV m ad cap, .slice al l.length cl, .int .i64 N] w fun r w' => ∃ v, r = .returned (.tuple #[v, .int .i64 0]) ∧ OwnI w.heap.size w' v (atL m l N) ∧ Below w.heap.size w w') := hid CSN
 have HAN : Hid (∀ (a : Option Addr) (c : Nat) w, Ints w ad cap m.sw → Ints w a c (atL m l N) → Calls Tryz.prog 19 #[mV m ad cap, .slice a (atL m l N).length c] w fun r w' => r = .returned (.int .i64 0) ∧ Below w.heap.size w w') := hid fun a c w h h2 => by
  have := mAccept_any m ad cap a c (atL m l N) w h h2 (CheckLoad_any m ad cap a c _ (KM _ _))
  rw [show accE m (atL m l N) = 0 by unfold accE; rw [if_neg (by simp [hz]), hla]; rfl] at this
  exact this
 have HAT : Hid (∀ (a : Option Addr) (c : Nat) w, 0 < l.length → Ints w ad cap m.sw → Ints w a c (l.drop 1) → Calls Tryz.prog 19 #[mV m ad cap, .slice a (l.length - 1) c] w fun r w' => r = .returned (.int .i64 0) ∧ Below w.heap.size w w') := hid fun a c w hp h h2 => by
  have := mAccept_any m ad cap a c (l.drop 1) w h h2 (CheckLoad_any m ad cap a c _ (KM _ _))
  rw [List.length_drop] at this
  have hz2 : accE m (l.drop 1) = 0 := by
   cases l with
   | nil => simp at hp
   | cons x r =>
    obtain ⟨q1, q2⟩ := tail_acc hlk hfm
    show accE m r = 0
    unfold accE; rw [if_neg (by simp [q1]), q2]; rfl
  rw [hz2] at this
  exact this
 have HME := hid CME; have HAC := hid CAC; have HA0 := hid ha0
 clear CME CAC ha0 hm3 hac hlk hok hm he hf KM hI hfm hlo hl6 hg6 hst hnb hz hla CSN
 go_enter Tryz.func4, Tryz.ntmps4
 go_wp2_with fail
 refine (HA.out _ (hw.below hS0.b)).mono ?_
 rintro e w1 ⟨rfl, b1⟩
 have hS1 := hS0.mono b1
 have q1_m := (hS1.blk 0 rfl).1
 clear hS0
 go_wp2_with (with_reducible refine wpList_ldS (n := 4) (us := mC m ad cap) A_mach kR wU wU (by assumption) wU wU ?_)
 refine (HF.out _ (hR.below hS1.b) (hL.below hS1.b)).mono ?_
 rintro e w2 ⟨rfl, b2⟩
 have hS2 := hS1.mono b2
 have q2_m := (hS2.blk 0 rfl).1
 clear hS1 q1_m
 have qpre := q2_m
 have hS3 := hS2.box (.cells (mC m ad cap) 25)
 have q3_x := (hS3.blk 0 rfl).1
 have q3_m := (hS3.blk 1 rfl).1
 clear hS2 q2_m
 go_wp2_with (with_reducible refine wpList_ldS (n := 4) (us := mC m ad cap) A_mach kR wU wU (by assumption) wU wU ?_)
 refine (HME.out _ (hR.below hS3.b) (hL.below hS3.b)).mono ?_
 rintro e w4 ⟨rfl, b4⟩
 have hS4 := hS3.mono b4
 have q4_x := (hS4.blk 0 rfl).1
 have q4_m := (hS4.blk 1 rfl).1
 clear hS3 q3_x q3_m
 go_wp2_with (with_reducible refine wpList_ldS (n := 4) (us := mC m ad cap) A_mach kR wU wU (by assumption) wU wU ?_)
 refine (HAC.out _ (hR.below hS4.b) (hL.below hS4.b)).mono ?_
 rintro e w5 ⟨rfl, b5⟩
 have hS5 := hS4.mono b5
 have q5_x := (hS5.blk 0 rfl).1
 have q5_m := (hS5.blk 1 rfl).1
 clear hS4 q4_x q4_m
 have hSc := hS5.call (SL.ofOwn (own_newN (e := 3) (w := w5) cIntS [] 0 rfl (by decide) #[] rfl (Nat.le_refl _) rfl) (bal (Below.refl _ _) _))
 simp only [List.cons_append, List.nil_append] at hSc
 go_wp2_with ((with_reducible refine wpList_appL 0 E_ints wU wU (hSc) wU ((hL.below hSc.b)) (rfl) cIntO (by first | omega | (simp; omega)) (by first | omega | (simp; omega)) ?_); intro v9 w9 hS9)
 rw [List.nil_append] at hS9
 obtain ⟨a11, c11, rfl, hN0⟩ := hS9.slice 0 rfl
 have qx := (hS9.blk 1 rfl).1
 have qm := (hS9.blk 2 rfl).1
 have hbz := hS9.b
 clear hSc hS5 q5_x q5_m hS9
 have hltm : w.heap.size < w9.heap.size := (Array.getElem?_eq_some_iff.1 qm).1
 revert qx
 generalize w2.heap.size = bx
 intro qx
 have hltx : bx < w9.heap.size := (Array.getElem?_eq_some_iff.1 qx).1
 have hRz := hR.below hbz
 have hLz := hL.below hbz
 go_loopw [12, 13, 81, 14, 85, 15, 11, 16, 17] (fun iv _ _ _ _ _ xv _ _ wr => ∃ (i : Nat) (ax : Option Addr) (cx : Nat), i ≤ 800 ∧ iv = .int .i64 i ∧ xv = .slice ax l.length cx ∧ Ints wr ax cx (atL m l i) ∧ Below w9.heap.size w9 wr) (fun iv _ _ _ _ _ _ _ _ _ => 800 - (intOf iv).toNat)
 case atStart => exact ⟨0, a11, c11, by omega, rfl, rfl, by rw [HA0.out]; exact hN0, Below.refl _ _⟩
 case round =>
  clear hN0
  obtain ⟨i, ax, cx, hi, rfl, rfl, hXo, hbo⟩ := hrel
  obtain ⟨wo, rfl⟩ : ∃ wo, wo = wr := ⟨_, rfl⟩
  have qo := (hbo.block _ hltx).trans qx
  have hlto : bx < wo.heap.size := (Array.getElem?_eq_some_iff.1 qo).1
  by_cases hi8 : i < 800
  ·obtain ⟨XL, hXL⟩ : ∃ XL, XL = atL m l i := ⟨_, rfl⟩
   have HXE := hid hXL.symm
   have hxl := HLN.out i
   rw [← hXL] at hXo hxl
   have HXL := hid hxl
   clear hXL hxl
   go_wp2_with fail
   go_loopw [81, 14, 85, 15, 13] (fun av _ _ _ bo wq => ∃ a : Nat, a ≤ l.length ∧ bo = .int .i64 (-1) ∧ av = .int .i64 a ∧ Below wo.heap.size wo wq) (fun av _ _ _ _ _ => l.length - (intOf av).toNat)
   case atStart => exact ⟨0, by omega, rfl, rfl, Below.refl _ _⟩
   case round =>
    obtain ⟨a, ha, rfl, rfl, hbp⟩ := hrel
    obtain ⟨wp, rfl⟩ : ∃ wp, wp = wr := ⟨_, rfl⟩
    have qp := (hbp.block _ hlto).trans qo
    have hltp : bx < wp.heap.size := (Array.getElem?_eq_some_iff.1 qp).1
    have hXp := hXo.below hbp
    by_cases hlt : a < l.length
    ·go_wp2_with fail
     go_loopw [85, 15, 13] (fun bv _ bo wq => ∃ b : Nat, b ≤ a ∧ bo = .int .i64 (-1) ∧ bv = .int .i64 b ∧ Below wp.heap.size wp wq) (fun bv _ _ _ => a - (intOf bv).toNat)
     case atStart => exact ⟨0, by omega, rfl, rfl, Below.refl _ _⟩
     case round =>
      obtain ⟨b, hb, rfl, rfl, hbq⟩ := hrel
      have hXq := hXp.below hbq
      have qq := (hbq.block _ hltp).trans qp
      have hltq : bx < wr.heap.size := (Array.getElem?_eq_some_iff.1 qq).1
      by_cases hjk : b < a
      ·have hia := HIN.out i a hlt
       have hib := HIN.out i b (by omega)
       have hev := HEV.out _ _ hia.1 hia.2 hib.1 hib.2 (fun e => HNE.out i a b hlt hjk e.symm)
       have hne := HNE.out i a b hlt hjk
       have CPX := fun w => HPA.out (atD 0 (atL m l i) a) w hia.1 hia.2
       have CPY := fun w => HPA.out (atD 0 (atL m l i) b) w hib.1 hib.2
       have hno := HNB.out i a b hlt hjk
       rw [HXE.out] at hia hib hev hne CPX CPY hno
       obtain ⟨X, hX⟩ : ∃ X, X = atD 0 XL a := ⟨_, rfl⟩
       obtain ⟨Y, hY⟩ : ∃ Y, Y = atD 0 XL b := ⟨_, rfl⟩
       rw [← hX] at hia hev hne CPX hno
       rw [← hY] at hib hev hne CPY hno
       have htx : X.tmod 2 = X % 2 := Int.tmod_eq_emod_of_nonneg hia.1
       have hty : Y.tmod 2 = Y % 2 := Int.tmod_eq_emod_of_nonneg hib.1
       obtain ⟨PX, hPX⟩ : ∃ P, P = placeM m X := ⟨_, rfl⟩
       obtain ⟨PY, hPY⟩ : ∃ P, P = placeM m Y := ⟨_, rfl⟩
       rw [← hPX] at hev CPX
       rw [← hPY] at hev CPY
       have HX := hid hX; have HY := hid hY; have HPX := hid CPX; have HPY := hid CPY
       have hxy : (X != Y) = true := by simpa using fun e => hne e.symm
       have hxy2 : ¬ X = Y := fun e => hne e.symm
       have hal : (a : Int) < l.length := by omega
       have hbl : (b : Int) < l.length := by omega
       have hal2 : a < l.length := hlt
       have hbl2 : b < l.length := by omega
       have hax : a < XL.length := by rw [HXL.out]; exact hlt
       have hbx2 : b < XL.length := by rw [HXL.out]; omega
       have z1 : IntKind.i64.wrap 1 = 1 := rfl
       clear CPX CPY hX hY hPX hPY hne
       by_cases ex : X % 2 = 0
       ·rw [ex] at htx
        by_cases ey : Y % 2 = 0
        ·rw [ey] at hty
         cases hpp : (PX == PY)
         ·have hpn : ¬ PX = PY := by simpa using hpp
          clear hev hia hib hno
          clear ex ey hpn
          as_aux_lemma =>
           go_wp2_with fail
           refine wp_region_q kR kR ?_
           repeat (first | ((with_reducible refine wpQ_skip wU ?_); (try simp only [Act.put, pA, pB, pC])) | ((with_reducible refine wpB_loadS (n := 4) (us := mC m ad cap) A_rmach kR wU wU (by assumption) wU wU ?_); (try simp only [Act.put, pA, pB, pC])) | (((with_reducible refine wpB_idxW 0 E_ints F_int cInt1 wU (HXL.out) wU (hXq) oD oD (fun _ => wU) wU (fun _ => wU) (fun _ => ?_)); (try simp only [Act.put, pA, pB, pC]); (try simp only [cInt])); first | rw [← HX.out] | rw [← HY.out]) | ((with_reducible refine wpB_call (.int .i64 PX) wU (fun w' => ?_) (fun w' hw' => HPX.out w') ?_); (focus (go_simp; done)); (try simp only [Act.put, pA, pB, pC])) | ((with_reducible refine wpB_call (.int .i64 PY) wU (fun w' => ?_) (fun w' hw' => HPY.out w') ?_); (focus (go_simp; done)); (try simp only [Act.put, pA, pB, pC])) | (((refine wpQ_oneG ?_ wU (fun w' => ?_) ?_); rotate_left; (go_simp; rfl); (try simp only [Act.put, pA, pB, pC])); first | rw [hpp] | skip) |  ((with_reducible refine wpB_load (by first | exact F_int | exact F_u64s) wU wU (by assumption) wU ?_); (try simp only [Act.put, pA, pB, pC])) | ((refine wpQ_oneG ?_ wU (fun w' => ?_) ?_); rotate_left; (go_simp; rfl); (try simp only [Act.put, pA, pB, pC])))
           refine wpQuiet_nil ?_
           intro w5 hb5
           go_wp2_with fail
           exact ⟨⟨b + 1, by omega, rfl, by go_num, bnext hbq hb5⟩, by simp [intOf]; omega⟩
         ·have hpe : PX = PY := by simpa using hpp
          have hh : hitM m X Y = true := by rw [hev, ex, ey, decide_eq_true hxy2, decide_eq_true hpe]; rfl
          rw [hh] at hno; cases hno
        ·have ty : Y.tmod 2 = 1 := by omega
         clear hev hia hib hno
         clear ex ey hty
         as_aux_lemma =>
          go_wp2_with fail
          refine wp_region_q kR kR ?_
          repeat (first | ((with_reducible refine wpQ_skip wU ?_); (try simp only [Act.put, pA, pB, pC])) | ((with_reducible refine wpB_loadS (n := 4) (us := mC m ad cap) A_rmach kR wU wU (by assumption) wU wU ?_); (try simp only [Act.put, pA, pB, pC])) | (((with_reducible refine wpB_idxW 0 E_ints F_int cInt1 wU (HXL.out) wU (hXq) oD oD (fun _ => wU) wU (fun _ => wU) (fun _ => ?_)); (try simp only [Act.put, pA, pB, pC]); (try simp only [cInt])); first | rw [← HX.out] | rw [← HY.out]) | ((with_reducible refine wpB_call (.int .i64 PX) wU (fun w' => ?_) (fun w' hw' => HPX.out w') ?_); (focus (go_simp; done)); (try simp only [Act.put, pA, pB, pC])) | ((with_reducible refine wpB_call (.int .i64 PY) wU (fun w' => ?_) (fun w' hw' => HPY.out w') ?_); (focus (go_simp; done)); (try simp only [Act.put, pA, pB, pC])) | ((refine wpQ_oneG ?_ wU (fun w' => ?_) ?_); rotate_left; (go_simp; rfl); (try simp only [Act.put, pA, pB, pC])) |  ((with_reducible refine wpB_load (by first | exact F_int | exact F_u64s) wU wU (by assumption) wU ?_); (try simp only [Act.put, pA, pB, pC])) | ((refine wpQ_oneG ?_ wU (fun w' => ?_) ?_); rotate_left; (go_simp; rfl); (try simp only [Act.put, pA, pB, pC])))
          refine wpQuiet_nil ?_
          intro w5 hb5
          go_wp2_with fail
          exact ⟨⟨b + 1, by omega, rfl, by go_num, bnext hbq hb5⟩, by simp [intOf]; omega⟩
       ·have tx : X.tmod 2 = 1 := by omega
        clear hev hia hib hno
        clear ex htx
        as_aux_lemma =>
         go_wp2_with fail
         refine wp_region_q kR kR ?_
         repeat (first | ((with_reducible refine wpQ_skip wU ?_); (try simp only [Act.put, pA, pB, pC])) | ((with_reducible refine wpB_loadS (n := 4) (us := mC m ad cap) A_rmach kR wU wU (by assumption) wU wU ?_); (try simp only [Act.put, pA, pB, pC])) | (((with_reducible refine wpB_idxW 0 E_ints F_int cInt1 wU (HXL.out) wU (hXq) oD oD (fun _ => wU) wU (fun _ => wU) (fun _ => ?_)); (try simp only [Act.put, pA, pB, pC]); (try simp only [cInt])); first | rw [← HX.out] | rw [← HY.out]) | ((with_reducible refine wpB_call (.int .i64 PX) wU (fun w' => ?_) (fun w' hw' => HPX.out w') ?_); (focus (go_simp; done)); (try simp only [Act.put, pA, pB, pC])) | ((with_reducible refine wpB_call (.int .i64 PY) wU (fun w' => ?_) (fun w' hw' => HPY.out w') ?_); (focus (go_simp; done)); (try simp only [Act.put, pA, pB, pC])) | ((refine wpQ_oneG ?_ wU (fun w' => ?_) ?_); rotate_left; (go_simp; rfl); (try simp only [Act.put, pA, pB, pC])) |  ((with_reducible refine wpB_load (by first | exact F_int | exact F_u64s) wU wU (by assumption) wU ?_); (try simp only [Act.put, pA, pB, pC])) | ((refine wpQ_oneG ?_ wU (fun w' => ?_) ?_); rotate_left; (go_simp; rfl); (try simp only [Act.put, pA, pB, pC])))
         refine wpQuiet_nil ?_
         intro w5 hb5
         go_wp2_with fail
         exact ⟨⟨b + 1, by omega, rfl, by go_num, bnext hbq hb5⟩, by simp [intOf]; omega⟩
      ·have hjk2 : b = a := by omega
       subst hjk2
       clear hXq qq
       go_wp2_with fail
       exact ⟨⟨b + 1, by omega, rfl, by go_num, bnext hbp hbq⟩, by simp [intOf]; omega⟩
    ·have hka : a = l.length := by omega
     subst hka
     have bo9 := bnext hbo hbp
     have qm9 := (bo9.block _ hltm).trans qm
     go_wp2_with (with_reducible refine wpList_ldS (n := 4) (us := mC m ad cap) A_mach kR wU wU (by assumption) wU wU ?_)
     refine (HST.out i ax cx _ (hRz.below bo9) (by rw [HXE.out]; exact hXp)).mono ?_
     rintro e w8 ⟨v8, rfl, ho8, b8⟩
     obtain ⟨a8, c8, hv8, h8, _, _⟩ := ho8.reps
     rw [HLN.out] at hv8
     subst hv8
     clear ho8
     have q8 := (b8.block _ hltp).trans qp
     go_wp2_with (with_reducible refine wpList_ldS (n := 4) (us := mC m ad cap) A_rmach kR wU wU (by assumption) wU wU ?_)
     refine (HCL.out (i + 1) a8 c8 _ h8).mono ?_
     rintro e w9 ⟨rfl, b9⟩
     go_wp2_with fail
     exact ⟨⟨i + 1, a8, c8, by omega, by go_num, rfl, h8.below b9, bnext bo9 (bnext b8 b9)⟩, by simp [intOf]; omega⟩
  ·have hie : i = 800 := by omega
   subst hie
   have qm8 := (hbo.block _ hltm).trans qm
   have hltm8 : w.heap.size < wo.heap.size := (Array.getElem?_eq_some_iff.1 qm8).1
   clear hXo
   go_wp2_with (with_reducible refine wpList_ldS (n := 4) (us := mC m ad cap) A_mach kR wU wU (by assumption) wU wU ?_)
   refine (HSN.out _ (hRz.below hbo) (hLz.below hbo)).mono ?_
   rintro e w5 ⟨v5, rfl, ho5, b5⟩
   obtain ⟨a5, c5, rfl, h5, _, _⟩ := ho5.reps
   have q5 := (b5.block _ hltm8).trans qm8
   have hltm5 : w.heap.size < w5.heap.size := (Array.getElem?_eq_some_iff.1 q5).1
   clear ho5
   go_wp2_with (with_reducible refine wpList_ldS (n := 4) (us := mC m ad cap) A_mach kR wU wU (by assumption) wU wU ?_)
   refine (HAN.out a5 c5 _ (hRz.below (bnext hbo b5)) h5).mono ?_
   rintro e w6 ⟨rfl, b6⟩
   have q6 := (b6.block _ hltm5).trans q5
   have hb6 := bnext hbo (bnext b5 b6)
   clear q5 qm8
   go_wp2_with fail
   by_cases h0 : l.length = 0
   ·have hd : ((l.length : Int) == 0) = true := by simp [h0]
    have hd2 : decide ((l.length : Int) = 0) = true := by simp [h0]
    clear h0
    refine wp_region_q kR kR ?_
    repeat (first | (((refine wpQ_oneG ?_ wU (fun w' => ?_) ?_); rotate_left; (go_simp; rfl); (try simp only [Act.put, pA, pB, pC])); first | rw [hd] | rw [hd2] | skip) | ((with_reducible refine wpQ_skip wU ?_); (try simp only [Act.put, pA, pB, pC])) |  ((with_reducible refine wpB_load (by first | exact F_int | exact F_u64s) wU wU (by assumption) wU ?_); (try simp only [Act.put, pA, pB, pC])) | ((refine wpQ_oneG ?_ wU (fun w' => ?_) ?_); rotate_left; (go_simp; rfl); (try simp only [Act.put, pA, pB, pC])))
    refine wpQuiet_nil ?_
    intro w7 hb7
    go_wp2_with fail
    go_ret
    exact ⟨rfl, bnext hbz (bnext hb6 hb7)⟩
   ·have hd : ((l.length : Int) == 0) = false := beq_eq_false_iff_ne.2 (by omega)
    obtain ⟨a0, hcut⟩ := cut_one al cl l.length (by omega) hlc
    have hL6 := hLz.below hb6
    have HCUT : Hid (∀ V, Below w6.heap.size w6 V → _) := hid fun V hV => (hcut V l rfl (hL6.below hV)).1
    have hT6 := (hcut w6 l rfl hL6).2
    have hp : 0 < l.length := by omega
    have hR6 := hRz.below hb6
    clear hcut h0
    refine wp_region_q kR kR ?_
    repeat (first | ((with_reducible refine wpB_loadS (n := 4) (us := mC m ad cap) A_mach kR wU wU (by assumption) wU wU ?_); (try simp only [Act.put, pA, pB, pC])) | ((with_reducible refine wpQ_inG (.slice a0 (l.length - 1) (cl - 1)) wU (fun w' hw' => ?_) ?_); (focus (have hc := HCUT.out w' hw'; simp [execOp, Act.eval, hc, Result.andThen]; done)); (try simp only [Act.put, pA, pB, pC])) | ((with_reducible refine wpB_call (.int .i64 0) wU (fun w' => ?_) (fun w' hw' => HAT.out a0 (cl - 1) w' hp (hR6.below hw') (hT6.below hw')) ?_); (focus (go_simp; done)); (try simp only [Act.put, pA, pB, pC])) |  ((with_reducible refine wpB_load (by first | exact F_int | exact F_u64s) wU wU (by assumption) wU ?_); (try simp only [Act.put, pA, pB, pC])) | ((refine wpQ_oneG ?_ wU (fun w' => ?_) ?_); rotate_left; (go_simp; rfl); (try simp only [Act.put, pA, pB, pC])))
    refine wpQuiet_nil ?_
    intro w7 hb7
    go_wp2_with fail
    go_ret
    exact ⟨rfl, bnext hbz (bnext hb6 hb7)⟩
end Go.Proofs.YtndmeaoidihikaaGreatDoor

namespace Go.Proofs.YtndmeaoidihikaaGreatDoor
open Go.RowKit
set_option maxHeartbeats 8000000
set_option maxRecDepth 100000
theorem me_some (m : MacV) (ad al : Option Addr) (cap cl : Nat) (l : List Int) (n : Int) (w : World) (hR : Ints w ad cap m.sw) (hL : Ints w al cl l) (hI : InI m.gears) (hw : LibW w) (hf : Fits m l 6 6) (hnn0 : 0 ≤ n) (hn1 : n ≤ 1000) (v : Nat × Int) (hfm : firstM m l = some v) :
  Calls Tryz.prog 4 #[mV m ad cap, .slice al l.length cl, .int .i64 n] w fun r w' => r = .returned (.bool true) ∧ Below w.heap.size w w' := by
 have hS0 := (SL.nil w).box (.cells (mC m ad cap) 24)
 have HA := hid awake4_any
 have hlc := hL.le
 have hlm := hL.max
 obtain ⟨n0, pl⟩ := v
 have he := hf.2.2.2
 have hlk := loadE_zero he
 have hm := hlk.mac
 have hok := hlk.ok
 have hl6 := hf.2.2.1
 have hg6 := hf.2.1
 have hlo := hok.lo
 have hhi := hok.hi
 have hl64 : l.length ≤ 6 := by omega
 obtain ⟨N, rfl⟩ : ∃ N : Nat, n = N := ⟨n.toNat, by omega⟩
 have KM : ∀ (a : Option Addr) (c : Nat), ChkM m a c := fun a c w h => CheckMachine_any m a c w h hI
 have CME := fun w h h2 => mMeet_any m ad cap al cl l w h h2 (CheckLoad_any m ad cap al cl l (KM _ _))
 have CAC := fun w h h2 => mAccept_any m ad cap al cl l w h h2 (CheckLoad_any m ad cap al cl l (KM _ _))
 have hm3 : meet3 m l = (n0, pl, 0) := by unfold meet3; rw [if_neg (by simp [he]), hfm]
 have hac : accE m l = 16 := by unfold accE; rw [if_neg (by simp [he]), hfm]; rfl
 rw [hm3] at CME
 rw [hac] at CAC
 have HIN : Hid (∀ (i k : Nat), k < l.length → 0 ≤ atD 0 (atL m l i) k ∧ atD 0 (atL m l i) k < 4 * m.gears) := hid fun i k hk => atD_in (atL_rng hlk.rng i) (by rw [atL_len]; exact hk)
 have HNE : Hid (∀ (i a b : Nat), a < l.length → b < a → atD 0 (atL m l i) b ≠ atD 0 (atL m l i) a) := hid fun i a b ha hb => ne_atI (atL_nodup hlk.rng hlk.nodup i) (by rw [atL_len]; exact ha) (by rw [atL_len]; omega) hb
 have HPA : Hid (∀ (x : Int) w, 0 ≤ x → x < 4 * m.gears → _) := hid fun x w h0 h1 => rPlace_any m ad cap x w hhi h0 h1
 have HEV : Hid (∀ (x y : Int), 0 ≤ x → x < 4 * m.gears → 0 ≤ y → y < 4 * m.gears → x ≠ y → _) := hid fun x y h0 h1 h2 h3 h4 => hit_even (m := m) h0 h1 h2 h3 h4
 have HLN : Hid (∀ i, (atL m l i).length = l.length) := hid fun i => atL_len m l i
 have HST : Hid (∀ (i : Nat) (a : Option Addr) (c : Nat) w, Ints w ad cap m.sw → Ints w a c (atL m l i) → Calls Tryz.prog 21 #[mV m ad cap, .slice a l.length c, .int .i64 1] w fun r w' => ∃ v, r = .returned (.tuple #[v, .int .i64 0]) ∧ OwnI w.heap.size w' v (atL m l (i + 1)) ∧ Below w.heap.size w w') := hid fun i a c w h h2 => by
  have hz := atL_load hlk i
  have hs : stepsE m (atL m l i) 1 = 0 := by unfold stepsE; rw [if_neg (by simp [hz]), if_neg (by omega)]
  have := mSteps_any m ad cap a c (atL m l i) 1 w h h2 (CheckLoad_any m ad cap a c _ (KM _ _))
  rw [if_pos hs, hs, atL_len] at this
  have e : (atL m l i).map (fun s => itM m s (1 : Int).toNat) = atL m l (i + 1) := by
   show atL m (atL m l i) 1 = _
   rw [atL_add, Nat.add_comm]
  rw [e] at this
  exact this
 have HCL : Hid (∀ (i : Nat) (a : Option Addr) (c : Nat) w, Ints w a c (atL m l i) → Calls Tryz.prog 22 #[mV m ad cap, .slice a l.length c] w fun r w' => r = .returned (.int .i64 0) ∧ Below w.heap.size w w') := hid fun i a c w h => by
  have := rCheckLoad_any m ad cap a c (atL m l i) w h hlo hhi
  rw [load_check (atL_load hlk i), atL_len] at this
  exact this
 have HMA : Hid (∀ (L : List Int) (i j : Nat), j < L.length → _) := hid fun L i j h => min_at (hereN m) (l := L) (i := i) (j := j) h
 have HF := hid (fun w h h2 => lfits_ok m ad al cap cl l 6 6 w h h2 hf)
 have ha0 := atL_zero m l
 have hn0 : n0 < 800 := first_soon (by omega) hlk.rng hfm
 have hna := now_at hfm
 have hnb := fun (k : Nat) (h : k < n0) => now_before (m := m) (l := l) (k := k) (fun v hv => by rw [hfm] at hv; cases hv; exact h)
 have HPL := hid hna.1; have hp0 := hna.2; have HNB := hid hnb
 have HE : Hid (∀ i, nowM m (atL m l i) = minF (hereN m) (pairsTo (atL m l i) l.length)) := hid fun i => by unfold nowM; rw [atL_len]
 obtain ⟨F, hF⟩ : ∃ F : List (Int × Int) → Int, ∀ ps, F ps = minF (hereN m) ps := ⟨_, fun _ => rfl⟩
 have HFF := hid hF
 have HME := hid CME; have HAC := hid CAC; have HA0 := hid ha0
 clear CME CAC ha0 hm3 hac hlk hok hm he hf KM hI hfm hlo hl6 hg6 hnb hna hF
 go_enter Tryz.func4, Tryz.ntmps4
 go_wp2_with fail
 refine (HA.out _ (hw.below hS0.b)).mono ?_
 rintro e w1 ⟨rfl, b1⟩
 have hS1 := hS0.mono b1
 have q1_m := (hS1.blk 0 rfl).1
 clear hS0
 go_wp2_with (with_reducible refine wpList_ldS (n := 4) (us := mC m ad cap) A_mach kR wU wU (by assumption) wU wU ?_)
 refine (HF.out _ (hR.below hS1.b) (hL.below hS1.b)).mono ?_
 rintro e w2 ⟨rfl, b2⟩
 have hS2 := hS1.mono b2
 have q2_m := (hS2.blk 0 rfl).1
 clear hS1 q1_m
 have qpre := q2_m
 have hS3 := hS2.box (.cells (mC m ad cap) 25)
 have q3_x := (hS3.blk 0 rfl).1
 have q3_m := (hS3.blk 1 rfl).1
 clear hS2 q2_m
 go_wp2_with (with_reducible refine wpList_ldS (n := 4) (us := mC m ad cap) A_mach kR wU wU (by assumption) wU wU ?_)
 refine (HME.out _ (hR.below hS3.b) (hL.below hS3.b)).mono ?_
 rintro e w4 ⟨rfl, b4⟩
 have hS4 := hS3.mono b4
 have q4_x := (hS4.blk 0 rfl).1
 have q4_m := (hS4.blk 1 rfl).1
 clear hS3 q3_x q3_m
 go_wp2_with (with_reducible refine wpList_ldS (n := 4) (us := mC m ad cap) A_mach kR wU wU (by assumption) wU wU ?_)
 refine (HAC.out _ (hR.below hS4.b) (hL.below hS4.b)).mono ?_
 rintro e w5 ⟨rfl, b5⟩
 have hS5 := hS4.mono b5
 have q5_x := (hS5.blk 0 rfl).1
 have q5_m := (hS5.blk 1 rfl).1
 clear hS4 q4_x q4_m
 have hSc := hS5.call (SL.ofOwn (own_newN (e := 3) (w := w5) cIntS [] 0 rfl (by decide) #[] rfl (Nat.le_refl _) rfl) (bal (Below.refl _ _) _))
 simp only [List.cons_append, List.nil_append] at hSc
 go_wp2_with ((with_reducible refine wpList_appL 0 E_ints wU wU (hSc) wU ((hL.below hSc.b)) (rfl) cIntO (by first | omega | (simp; omega)) (by first | omega | (simp; omega)) ?_); intro v9 w9 hS9)
 rw [List.nil_append] at hS9
 obtain ⟨a11, c11, rfl, hN0⟩ := hS9.slice 0 rfl
 have qx := (hS9.blk 1 rfl).1
 have qm := (hS9.blk 2 rfl).1
 have hbz := hS9.b
 clear hSc hS5 q5_x q5_m hS9
 have hltm : w.heap.size < w9.heap.size := (Array.getElem?_eq_some_iff.1 qm).1
 revert qx
 generalize w2.heap.size = bx
 intro qx
 have hltx : bx < w9.heap.size := (Array.getElem?_eq_some_iff.1 qx).1
 have hRz := hR.below hbz
 have hLz := hL.below hbz
 go_loopw [12, 13, 81, 14, 85, 15, 11, 16, 17] (fun iv _ _ _ _ _ xv _ _ wr => ∃ (i : Nat) (ax : Option Addr) (cx : Nat), i ≤ n0 ∧ iv = .int .i64 i ∧ xv = .slice ax l.length cx ∧ Ints wr ax cx (atL m l i) ∧ Below w9.heap.size w9 wr) (fun iv _ _ _ _ _ _ _ _ _ => 800 - (intOf iv).toNat)
 case atStart => exact ⟨0, a11, c11, by omega, rfl, rfl, by rw [HA0.out]; exact hN0, Below.refl _ _⟩
 case round =>
  clear hN0
  obtain ⟨i, ax, cx, hi, rfl, rfl, hXo, hbo⟩ := hrel
  obtain ⟨wo, rfl⟩ : ∃ wo, wo = wr := ⟨_, rfl⟩
  have qo := (hbo.block _ hltx).trans qx
  have hlto : bx < wo.heap.size := (Array.getElem?_eq_some_iff.1 qo).1
  have hi8 : i < 800 := by omega
  have hE := HE.out i
  obtain ⟨XL, hXL⟩ : ∃ XL, XL = atL m l i := ⟨_, rfl⟩
  have HXE := hid hXL.symm
  have hxl := HLN.out i
  rw [← hXL] at hXo hxl hE
  have HXL := hid hxl
  clear hXL hxl
  have hF0 : F (pairsTo XL 0) = -1 := by rw [HFF.out]; rfl
  have HF0 := hid hF0
  rw [← HFF.out] at hE
  have HEE := hid hE
  clear hE hF0
  go_wp2_with fail
  go_loopw [81, 14, 85, 15, 13] (fun av _ _ _ bo wq => ∃ a : Nat, a ≤ l.length ∧ bo = .int .i64 (F (pairsTo XL a)) ∧ av = .int .i64 a ∧ Below wo.heap.size wo wq) (fun av _ _ _ _ _ => l.length - (intOf av).toNat)
  case atStart => exact ⟨0, by omega, by rw [HF0.out], rfl, Below.refl _ _⟩
  case round =>
   obtain ⟨a, ha, rfl, rfl, hbp⟩ := hrel
   obtain ⟨wp, rfl⟩ : ∃ wp, wp = wr := ⟨_, rfl⟩
   have qp := (hbp.block _ hlto).trans qo
   have hltp : bx < wp.heap.size := (Array.getElem?_eq_some_iff.1 qp).1
   have hXp := hXo.below hbp
   by_cases hlt : a < l.length
   ·go_wp2_with fail
    go_loopw [85, 15, 13] (fun bv _ bo wq => ∃ b : Nat, b ≤ a ∧ bo = .int .i64 (F (pairsAt XL a b)) ∧ bv = .int .i64 b ∧ Below wp.heap.size wp wq) (fun bv _ _ _ => a - (intOf bv).toNat)
    case atStart => exact ⟨0, by omega, by rw [pairsAt_zero], rfl, Below.refl _ _⟩
    case round =>
     obtain ⟨b, hb, rfl, rfl, hbq⟩ := hrel
     have hXq := hXp.below hbq
     have qq := (hbq.block _ hltp).trans qp
     have hltq : bx < wr.heap.size := (Array.getElem?_eq_some_iff.1 qq).1
     by_cases hjk : b < a
     ·have hia := HIN.out i a hlt
      have hib := HIN.out i b (by omega)
      have hev := HEV.out _ _ hia.1 hia.2 hib.1 hib.2 (fun e => HNE.out i a b hlt hjk e.symm)
      have hne := HNE.out i a b hlt hjk
      have CPX := fun w => HPA.out (atD 0 (atL m l i) a) w hia.1 hia.2
      have CPY := fun w => HPA.out (atD 0 (atL m l i) b) w hib.1 hib.2
      have hst := HMA.out (atL m l i) a b (by rw [HLN.out]; omega)
      rw [← HFF.out, ← HFF.out] at hst
      have hhe : hereN m (atD 0 (atL m l i) a, atD 0 (atL m l i) b) = if hitM m (atD 0 (atL m l i) a) (atD 0 (atL m l i) b) then placeM m (atD 0 (atL m l i) a) else -1 := rfl
      rw [hhe] at hst
      have hpl := hit_place (m := m) (x := atD 0 (atL m l i) a) (y := atD 0 (atL m l i) b)
      rw [HXE.out] at hia hib hev hne CPX CPY hst hpl
      obtain ⟨X, hX⟩ : ∃ X, X = atD 0 XL a := ⟨_, rfl⟩
      obtain ⟨Y, hY⟩ : ∃ Y, Y = atD 0 XL b := ⟨_, rfl⟩
      rw [← hX] at hia hev hne CPX hst hpl
      rw [← hY] at hib hev hne CPY hst hpl
      have htx : X.tmod 2 = X % 2 := Int.tmod_eq_emod_of_nonneg hia.1
      have hty : Y.tmod 2 = Y % 2 := Int.tmod_eq_emod_of_nonneg hib.1
      obtain ⟨PX, hPX⟩ : ∃ P, P = placeM m X := ⟨_, rfl⟩
      obtain ⟨PY, hPY⟩ : ∃ P, P = placeM m Y := ⟨_, rfl⟩
      rw [← hPX] at hev CPX hst hpl
      rw [← hPY] at hev CPY
      obtain ⟨B, hB⟩ : ∃ B, B = F (pairsAt XL a b) := ⟨_, rfl⟩
      rw [← hB] at hst ⊢
      have HX := hid hX; have HY := hid hY; have HPX := hid CPX; have HPY := hid CPY
      have hxy : (X != Y) = true := by simpa using fun e => hne e.symm
      have hxy2 : ¬ X = Y := fun e => hne e.symm
      have hal : (a : Int) < l.length := by omega
      have hbl : (b : Int) < l.length := by omega
      have hal2 : a < l.length := hlt
      have hbl2 : b < l.length := by omega
      have hax : a < XL.length := by rw [HXL.out]; exact hlt
      have hbx2 : b < XL.length := by rw [HXL.out]; omega
      have z1 : IntKind.i64.wrap 1 = 1 := rfl
      clear CPX CPY hX hY hPX hPY hne hB hhe
      by_cases ex : X % 2 = 0
      ·rw [ex] at htx
       by_cases ey : Y % 2 = 0
       ·rw [ey] at hty
        cases hpp : (PX == PY)
        ·have hpn : ¬ PX = PY := by simpa using hpp
         have hh : hitM m X Y = false := by rw [hev]; simp [hpn]
         rw [hh] at hst
         simp only [Bool.false_eq_true, if_false, show ¬ (0 : Int) ≤ -1 by decide, false_and] at hst
         have HSTP := hid hst
         clear hst hpl hh hev hia hib
         clear ex ey hpn
         as_aux_lemma =>
          go_wp2_with fail
          refine wp_region_q kR kR ?_
          repeat (first | ((with_reducible refine wpQ_skip wU ?_); (try simp only [Act.put, pA, pB, pC])) | ((with_reducible refine wpB_loadS (n := 4) (us := mC m ad cap) A_rmach kR wU wU (by assumption) wU wU ?_); (try simp only [Act.put, pA, pB, pC])) | (((with_reducible refine wpB_idxW 0 E_ints F_int cInt1 wU (HXL.out) wU (hXq) oD oD (fun _ => wU) wU (fun _ => wU) (fun _ => ?_)); (try simp only [Act.put, pA, pB, pC]); (try simp only [cInt])); first | rw [← HX.out] | rw [← HY.out]) | ((with_reducible refine wpB_call (.int .i64 PX) wU (fun w' => ?_) (fun w' hw' => HPX.out w') ?_); (focus (go_simp; done)); (try simp only [Act.put, pA, pB, pC])) | ((with_reducible refine wpB_call (.int .i64 PY) wU (fun w' => ?_) (fun w' hw' => HPY.out w') ?_); (focus (go_simp; done)); (try simp only [Act.put, pA, pB, pC])) | (((refine wpQ_oneG ?_ wU (fun w' => ?_) ?_); rotate_left; (go_simp; rfl); (try simp only [Act.put, pA, pB, pC])); first | rw [hpp] | skip) |  ((with_reducible refine wpB_load (by first | exact F_int | exact F_u64s) wU wU (by assumption) wU ?_); (try simp only [Act.put, pA, pB, pC])) | ((refine wpQ_oneG ?_ wU (fun w' => ?_) ?_); rotate_left; (go_simp; rfl); (try simp only [Act.put, pA, pB, pC])))
          refine wpQuiet_nil ?_
          intro w5 hb5
          go_wp2_with fail
          exact ⟨⟨b + 1, by omega, by rw [HSTP.out], by go_num, bnext hbq hb5⟩, by simp [intOf]; omega⟩
        ·have hpe : PX = PY := by simpa using hpp
         have hh : hitM m X Y = true := by rw [hev, ex, ey, decide_eq_true hxy2, decide_eq_true hpe]; rfl
         rw [hh] at hst
         simp only [if_true, hpl hh, true_and] at hst
         clear hpl hh hev hia hib ex ey hpe
         by_cases hB0 : B < 0
         ·rw [if_pos (.inl hB0)] at hst
          have hbd : decide (B < 0) = true := decide_eq_true hB0
          have HSTP := hid hst
          clear hst hB0
          as_aux_lemma =>
           go_wp2_with fail
           refine wp_region_q kR kR ?_
           repeat (first | ((with_reducible refine wpQ_skip wU ?_); (try simp only [Act.put, pA, pB, pC])) | ((with_reducible refine wpB_loadS (n := 4) (us := mC m ad cap) A_rmach kR wU wU (by assumption) wU wU ?_); (try simp only [Act.put, pA, pB, pC])) | (((with_reducible refine wpB_idxW 0 E_ints F_int cInt1 wU (HXL.out) wU (hXq) oD oD (fun _ => wU) wU (fun _ => wU) (fun _ => ?_)); (try simp only [Act.put, pA, pB, pC]); (try simp only [cInt])); first | rw [← HX.out] | rw [← HY.out]) | ((with_reducible refine wpB_call (.int .i64 PX) wU (fun w' => ?_) (fun w' hw' => HPX.out w') ?_); (focus (go_simp; done)); (try simp only [Act.put, pA, pB, pC])) | ((with_reducible refine wpB_call (.int .i64 PY) wU (fun w' => ?_) (fun w' hw' => HPY.out w') ?_); (focus (go_simp; done)); (try simp only [Act.put, pA, pB, pC])) | (((refine wpQ_oneG ?_ wU (fun w' => ?_) ?_); rotate_left; (go_simp; rfl); (try simp only [Act.put, pA, pB, pC])); first | rw [hpp] | rw [hbd] | skip) |  ((with_reducible refine wpB_load (by first | exact F_int | exact F_u64s) wU wU (by assumption) wU ?_); (try simp only [Act.put, pA, pB, pC])) | ((refine wpQ_oneG ?_ wU (fun w' => ?_) ?_); rotate_left; (go_simp; rfl); (try simp only [Act.put, pA, pB, pC])))
           refine wpQuiet_nil ?_
           intro w5 hb5
           go_wp2_with fail
           have hX5 := hXq.below hb5
           have q5 := (hb5.block _ hltq).trans qq
           refine wp_region_q kR kR ?_
           repeat (first | ((with_reducible refine wpB_loadS (n := 4) (us := mC m ad cap) A_rmach kR wU wU (by assumption) wU wU ?_); (try simp only [Act.put, pA, pB, pC])) | (((with_reducible refine wpB_idx2 0 E_ints F_int cInt1 wU (HXL.out) wU (hX5) oD oD (fun _ => wU) (fun _ => ?_)); (try simp only [Act.put, pA, pB, pC]); (try simp only [cInt])); rw [← HX.out]) | ((with_reducible refine wpB_call (.int .i64 PX) wU (fun w' => ?_) (fun w' hw' => HPX.out w') ?_); (focus (go_simp; done)); (try simp only [Act.put, pA, pB, pC])) |  ((with_reducible refine wpB_load (by first | exact F_int | exact F_u64s) wU wU (by assumption) wU ?_); (try simp only [Act.put, pA, pB, pC])) | ((refine wpQ_oneG ?_ wU (fun w' => ?_) ?_); rotate_left; (go_simp; rfl); (try simp only [Act.put, pA, pB, pC])))
           refine wpQuiet_nil ?_
           intro w6 hb6
           go_wp2_with fail
           exact ⟨⟨b + 1, by omega, by rw [HSTP.out], by go_num, bnext hbq (bnext hb5 hb6)⟩, by simp [intOf]; omega⟩
         ·have hbd : decide (B < 0) = false := decide_eq_false hB0
          by_cases hPB : PX < B
          ·rw [if_pos (.inr hPB)] at hst
           have hpd : decide (PX < B) = true := decide_eq_true hPB
           have HSTP := hid hst
           clear hst hB0 hPB
           as_aux_lemma =>
            go_wp2_with fail
            refine wp_region_q kR kR ?_
            repeat (first | ((with_reducible refine wpQ_skip wU ?_); (try simp only [Act.put, pA, pB, pC])) | ((with_reducible refine wpB_loadS (n := 4) (us := mC m ad cap) A_rmach kR wU wU (by assumption) wU wU ?_); (try simp only [Act.put, pA, pB, pC])) | (((with_reducible refine wpB_idxW 0 E_ints F_int cInt1 wU (HXL.out) wU (hXq) oD oD (fun _ => wU) wU (fun _ => wU) (fun _ => ?_)); (try simp only [Act.put, pA, pB, pC]); (try simp only [cInt])); first | rw [← HX.out] | rw [← HY.out]) | ((with_reducible refine wpB_call (.int .i64 PX) wU (fun w' => ?_) (fun w' hw' => HPX.out w') ?_); (focus (go_simp; done)); (try simp only [Act.put, pA, pB, pC])) | ((with_reducible refine wpB_call (.int .i64 PY) wU (fun w' => ?_) (fun w' hw' => HPY.out w') ?_); (focus (go_simp; done)); (try simp only [Act.put, pA, pB, pC])) | (((refine wpQ_oneG ?_ wU (fun w' => ?_) ?_); rotate_left; (go_simp; rfl); (try simp only [Act.put, pA, pB, pC])); first | rw [hpp] | rw [hbd] | rw [hpd] | skip) |  ((with_reducible refine wpB_load (by first | exact F_int | exact F_u64s) wU wU (by assumption) wU ?_); (try simp only [Act.put, pA, pB, pC])) | ((refine wpQ_oneG ?_ wU (fun w' => ?_) ?_); rotate_left; (go_simp; rfl); (try simp only [Act.put, pA, pB, pC])))
            refine wpQuiet_nil ?_
            intro w5 hb5
            go_wp2_with fail
            have hX5 := hXq.below hb5
            have q5 := (hb5.block _ hltq).trans qq
            refine wp_region_q kR kR ?_
            repeat (first | ((with_reducible refine wpB_loadS (n := 4) (us := mC m ad cap) A_rmach kR wU wU (by assumption) wU wU ?_); (try simp only [Act.put, pA, pB, pC])) | (((with_reducible refine wpB_idx2 0 E_ints F_int cInt1 wU (HXL.out) wU (hX5) oD oD (fun _ => wU) (fun _ => ?_)); (try simp only [Act.put, pA, pB, pC]); (try simp only [cInt])); rw [← HX.out]) | ((with_reducible refine wpB_call (.int .i64 PX) wU (fun w' => ?_) (fun w' hw' => HPX.out w') ?_); (focus (go_simp; done)); (try simp only [Act.put, pA, pB, pC])) |  ((with_reducible refine wpB_load (by first | exact F_int | exact F_u64s) wU wU (by assumption) wU ?_); (try simp only [Act.put, pA, pB, pC])) | ((refine wpQ_oneG ?_ wU (fun w' => ?_) ?_); rotate_left; (go_simp; rfl); (try simp only [Act.put, pA, pB, pC])))
            refine wpQuiet_nil ?_
            intro w6 hb6
            go_wp2_with fail
            exact ⟨⟨b + 1, by omega, by rw [HSTP.out], by go_num, bnext hbq (bnext hb5 hb6)⟩, by simp [intOf]; omega⟩
          ·rw [if_neg (fun h => by rcases h with h | h; exact hB0 h; exact hPB h)] at hst
           have hpd : decide (PX < B) = false := decide_eq_false hPB
           have HSTP := hid hst
           clear hst hB0 hPB
           as_aux_lemma =>
            go_wp2_with fail
            refine wp_region_q kR kR ?_
            repeat (first | ((with_reducible refine wpQ_skip wU ?_); (try simp only [Act.put, pA, pB, pC])) | ((with_reducible refine wpB_loadS (n := 4) (us := mC m ad cap) A_rmach kR wU wU (by assumption) wU wU ?_); (try simp only [Act.put, pA, pB, pC])) | (((with_reducible refine wpB_idxW 0 E_ints F_int cInt1 wU (HXL.out) wU (hXq) oD oD (fun _ => wU) wU (fun _ => wU) (fun _ => ?_)); (try simp only [Act.put, pA, pB, pC]); (try simp only [cInt])); first | rw [← HX.out] | rw [← HY.out]) | ((with_reducible refine wpB_call (.int .i64 PX) wU (fun w' => ?_) (fun w' hw' => HPX.out w') ?_); (focus (go_simp; done)); (try simp only [Act.put, pA, pB, pC])) | ((with_reducible refine wpB_call (.int .i64 PY) wU (fun w' => ?_) (fun w' hw' => HPY.out w') ?_); (focus (go_simp; done)); (try simp only [Act.put, pA, pB, pC])) | (((refine wpQ_oneG ?_ wU (fun w' => ?_) ?_); rotate_left; (go_simp; rfl); (try simp only [Act.put, pA, pB, pC])); first | rw [hpp] | rw [hbd] | rw [hpd] | skip) |  ((with_reducible refine wpB_load (by first | exact F_int | exact F_u64s) wU wU (by assumption) wU ?_); (try simp only [Act.put, pA, pB, pC])) | ((refine wpQ_oneG ?_ wU (fun w' => ?_) ?_); rotate_left; (go_simp; rfl); (try simp only [Act.put, pA, pB, pC])))
            refine wpQuiet_nil ?_
            intro w5 hb5
            go_wp2_with fail
            exact ⟨⟨b + 1, by omega, by rw [HSTP.out], by go_num, bnext hbq hb5⟩, by simp [intOf]; omega⟩
       ·have ty : Y.tmod 2 = 1 := by omega
        have hh : hitM m X Y = false := by rw [hev]; simp [ey]
        rw [hh] at hst
        simp only [Bool.false_eq_true, if_false, show ¬ (0 : Int) ≤ -1 by decide, false_and] at hst
        have HSTP := hid hst
        clear hst hpl hh hev hia hib
        clear ex ey hty
        as_aux_lemma =>
         go_wp2_with fail
         refine wp_region_q kR kR ?_
         repeat (first | ((with_reducible refine wpQ_skip wU ?_); (try simp only [Act.put, pA, pB, pC])) | ((with_reducible refine wpB_loadS (n := 4) (us := mC m ad cap) A_rmach kR wU wU (by assumption) wU wU ?_); (try simp only [Act.put, pA, pB, pC])) | (((with_reducible refine wpB_idxW 0 E_ints F_int cInt1 wU (HXL.out) wU (hXq) oD oD (fun _ => wU) wU (fun _ => wU) (fun _ => ?_)); (try simp only [Act.put, pA, pB, pC]); (try simp only [cInt])); first | rw [← HX.out] | rw [← HY.out]) | ((with_reducible refine wpB_call (.int .i64 PX) wU (fun w' => ?_) (fun w' hw' => HPX.out w') ?_); (focus (go_simp; done)); (try simp only [Act.put, pA, pB, pC])) | ((with_reducible refine wpB_call (.int .i64 PY) wU (fun w' => ?_) (fun w' hw' => HPY.out w') ?_); (focus (go_simp; done)); (try simp only [Act.put, pA, pB, pC])) | ((refine wpQ_oneG ?_ wU (fun w' => ?_) ?_); rotate_left; (go_simp; rfl); (try simp only [Act.put, pA, pB, pC])) |  ((with_reducible refine wpB_load (by first | exact F_int | exact F_u64s) wU wU (by assumption) wU ?_); (try simp only [Act.put, pA, pB, pC])) | ((refine wpQ_oneG ?_ wU (fun w' => ?_) ?_); rotate_left; (go_simp; rfl); (try simp only [Act.put, pA, pB, pC])))
         refine wpQuiet_nil ?_
         intro w5 hb5
         go_wp2_with fail
         exact ⟨⟨b + 1, by omega, by rw [HSTP.out], by go_num, bnext hbq hb5⟩, by simp [intOf]; omega⟩
      ·have tx : X.tmod 2 = 1 := by omega
       have hh : hitM m X Y = false := by rw [hev]; simp [ex]
       rw [hh] at hst
       simp only [Bool.false_eq_true, if_false, show ¬ (0 : Int) ≤ -1 by decide, false_and] at hst
       have HSTP := hid hst
       clear hst hpl hh hev hia hib
       clear ex htx
       as_aux_lemma =>
        go_wp2_with fail
        refine wp_region_q kR kR ?_
        repeat (first | ((with_reducible refine wpQ_skip wU ?_); (try simp only [Act.put, pA, pB, pC])) | ((with_reducible refine wpB_loadS (n := 4) (us := mC m ad cap) A_rmach kR wU wU (by assumption) wU wU ?_); (try simp only [Act.put, pA, pB, pC])) | (((with_reducible refine wpB_idxW 0 E_ints F_int cInt1 wU (HXL.out) wU (hXq) oD oD (fun _ => wU) wU (fun _ => wU) (fun _ => ?_)); (try simp only [Act.put, pA, pB, pC]); (try simp only [cInt])); first | rw [← HX.out] | rw [← HY.out]) | ((with_reducible refine wpB_call (.int .i64 PX) wU (fun w' => ?_) (fun w' hw' => HPX.out w') ?_); (focus (go_simp; done)); (try simp only [Act.put, pA, pB, pC])) | ((with_reducible refine wpB_call (.int .i64 PY) wU (fun w' => ?_) (fun w' hw' => HPY.out w') ?_); (focus (go_simp; done)); (try simp only [Act.put, pA, pB, pC])) | ((refine wpQ_oneG ?_ wU (fun w' => ?_) ?_); rotate_left; (go_simp; rfl); (try simp only [Act.put, pA, pB, pC])) |  ((with_reducible refine wpB_load (by first | exact F_int | exact F_u64s) wU wU (by assumption) wU ?_); (try simp only [Act.put, pA, pB, pC])) | ((refine wpQ_oneG ?_ wU (fun w' => ?_) ?_); rotate_left; (go_simp; rfl); (try simp only [Act.put, pA, pB, pC])))
        refine wpQuiet_nil ?_
        intro w5 hb5
        go_wp2_with fail
        exact ⟨⟨b + 1, by omega, by rw [HSTP.out], by go_num, bnext hbq hb5⟩, by simp [intOf]; omega⟩
     ·have hjk2 : b = a := by omega
      subst hjk2
      clear hXq qq
      go_wp2_with fail
      exact ⟨⟨b + 1, by omega, by rw [pairsAt_last], by go_num, bnext hbp hbq⟩, by simp [intOf]; omega⟩
   ·have hka : a = l.length := by omega
    subst hka
    have hnow := HEE.out
    by_cases hin : i = n0
    ·have hpl := HPL.out
     rw [← hin, HXE.out, hnow] at hpl
     have HQ := hid hpl
     subst hin
     clear hnow hpl
     rw [HQ.out]
     go_wp2_with fail
     go_ret
     exact ⟨rfl, bnext hbz (bnext hbo hbp)⟩
    ·have hpl := HNB.out i (by omega)
     rw [HXE.out, hnow] at hpl
     have HQ := hid hpl
     have hd : ((n0 : Int) == (i : Int)) = false := by simp; omega
     clear hnow hpl
     rw [HQ.out]
     have bo9 := bnext hbo hbp
     have qm9 := (bo9.block _ hltm).trans qm
     go_wp2_with (with_reducible refine wpList_ldS (n := 4) (us := mC m ad cap) A_mach kR wU wU (by assumption) wU wU ?_)
     refine (HST.out i ax cx _ (hRz.below bo9) (by rw [HXE.out]; exact hXp)).mono ?_
     rintro e w8 ⟨v8, rfl, ho8, b8⟩
     obtain ⟨a8, c8, hv8, h8, _, _⟩ := ho8.reps
     rw [HLN.out] at hv8
     subst hv8
     clear ho8
     have q8 := (b8.block _ hltp).trans qp
     go_wp2_with (with_reducible refine wpList_ldS (n := 4) (us := mC m ad cap) A_rmach kR wU wU (by assumption) wU wU ?_)
     refine (HCL.out (i + 1) a8 c8 _ h8).mono ?_
     rintro e w9 ⟨rfl, b9⟩
     go_wp2_with fail
     exact ⟨⟨i + 1, a8, c8, by omega, by go_num, rfl, h8.below b9, bnext bo9 (bnext b8 b9)⟩, by simp [intOf]; omega⟩
end Go.Proofs.YtndmeaoidihikaaGreatDoor

namespace Go.Proofs.YtndmeaoidihikaaGreatDoor
open Go.RowKit
set_option maxHeartbeats 8000000
set_option maxRecDepth 100000
theorem me_nofit (m : MacV) (ad al : Option Addr) (cap cl : Nat) (l : List Int) (n : Int) (w : World) (hR : Ints w ad cap m.sw) (hL : Ints w al cl l) (hI : InI m.gears) (hw : LibW w) (hf : ¬ Fits m l 6 6) :
  Calls Tryz.prog 4 #[mV m ad cap, .slice al l.length cl, .int .i64 n] w fun r w' => r = .returned (.bool true) ∧ Below w.heap.size w w' := by
 have hS0 := (SL.nil w).box (.cells (mC m ad cap) 24)
 have HA := hid awake4_any
 have hlc := hL.le
 have hlm := hL.max
 have HF := hid (fun w h h2 => lfits_no m ad al cap cl l 6 6 w h h2 hf)
 clear hf
 go_enter Tryz.func4, Tryz.ntmps4
 go_wp2_with fail
 refine (HA.out _ (hw.below hS0.b)).mono ?_
 rintro e w1 ⟨rfl, b1⟩
 have hS1 := hS0.mono b1
 have q1_m := (hS1.blk 0 rfl).1
 clear hS0
 go_wp2_with (with_reducible refine wpList_ldS (n := 4) (us := mC m ad cap) A_mach kR wU wU (by assumption) wU wU ?_)
 refine (HF.out _ (hR.below hS1.b) (hL.below hS1.b)).mono ?_
 rintro e w2 ⟨rfl, b2⟩
 have hS2 := hS1.mono b2
 have q2_m := (hS2.blk 0 rfl).1
 clear hS1 q1_m
 go_wp2_with fail
 refine (HA.out _ (hw.below hS2.b)).mono ?_
 rintro e w3 ⟨rfl, b3⟩
 have hS3 := hS2.mono b3
 have q3_m := (hS3.blk 0 rfl).1
 clear hS2 q2_m
 go_wp2_with fail
 go_ret
 exact ⟨rfl, hS3.b⟩
theorem me_out (m : MacV) (ad al : Option Addr) (cap cl : Nat) (l : List Int) (n : Int) (w : World) (hR : Ints w ad cap m.sw) (hL : Ints w al cl l) (hI : InI m.gears) (hw : LibW w) (hf : Fits m l 6 6) (hn : n < 0 ∨ 1000 < n) :
  Calls Tryz.prog 4 #[mV m ad cap, .slice al l.length cl, .int .i64 n] w fun r w' => r = .returned (.bool true) ∧ Below w.heap.size w w' := by
 have hS0 := (SL.nil w).box (.cells (mC m ad cap) 24)
 have HA := hid awake4_any
 have hlc := hL.le
 have hlm := hL.max
 have HF := hid (fun w h h2 => lfits_ok m ad al cap cl l 6 6 w h h2 hf)
 clear hf
 rcases hn with hn | hn
 ·have d0 : decide (n < 0) = true := decide_eq_true hn
  clear hn
  go_enter Tryz.func4, Tryz.ntmps4
  go_wp2_with fail
  refine (HA.out _ (hw.below hS0.b)).mono ?_
  rintro e w1 ⟨rfl, b1⟩
  have hS1 := hS0.mono b1
  have q1_m := (hS1.blk 0 rfl).1
  clear hS0
  go_wp2_with (with_reducible refine wpList_ldS (n := 4) (us := mC m ad cap) A_mach kR wU wU (by assumption) wU wU ?_)
  refine (HF.out _ (hR.below hS1.b) (hL.below hS1.b)).mono ?_
  rintro e w2 ⟨rfl, b2⟩
  have hS2 := hS1.mono b2
  have q2_m := (hS2.blk 0 rfl).1
  clear hS1 q1_m
  go_wp2_with fail
  refine (HA.out _ (hw.below hS2.b)).mono ?_
  rintro e w3 ⟨rfl, b3⟩
  have hS3 := hS2.mono b3
  have q3_m := (hS3.blk 0 rfl).1
  clear hS2 q2_m
  go_wp2_with fail
  go_ret
  exact ⟨rfl, hS3.b⟩
 ·have d0 : decide (n < 0) = false := decide_eq_false (by omega)
  have d1 : decide (1000 < n) = true := decide_eq_true hn
  clear hn
  go_enter Tryz.func4, Tryz.ntmps4
  go_wp2_with fail
  refine (HA.out _ (hw.below hS0.b)).mono ?_
  rintro e w1 ⟨rfl, b1⟩
  have hS1 := hS0.mono b1
  have q1_m := (hS1.blk 0 rfl).1
  clear hS0
  go_wp2_with (with_reducible refine wpList_ldS (n := 4) (us := mC m ad cap) A_mach kR wU wU (by assumption) wU wU ?_)
  refine (HF.out _ (hR.below hS1.b) (hL.below hS1.b)).mono ?_
  rintro e w2 ⟨rfl, b2⟩
  have hS2 := hS1.mono b2
  have q2_m := (hS2.blk 0 rfl).1
  clear hS1 q1_m
  go_wp2_with fail
  refine (HA.out _ (hw.below hS2.b)).mono ?_
  rintro e w3 ⟨rfl, b3⟩
  have hS3 := hS2.mono b3
  have q3_m := (hS3.blk 0 rfl).1
  clear hS2 q2_m
  go_wp2_with fail
  go_ret
  exact ⟨rfl, hS3.b⟩
theorem MachineMeets_any (m : MacV) (ad al : Option Addr) (cap cl : Nat) (l : List Int) (n : Int) (w : World) (hR : Ints w ad cap m.sw) (hL : Ints w al cl l) (hI : InI m.gears) (hw : LibW w) :
  Calls Tryz.prog 4 #[mV m ad cap, .slice al l.length cl, .int .i64 n] w fun r w' => r = .returned (.bool true) ∧ Below w.heap.size w w' := by
 by_cases hf : Fits m l 6 6
 ·by_cases hn : n < 0 ∨ 1000 < n
  ·exact me_out m ad al cap cl l n w hR hL hI hw hf hn
  ·cases hfm : firstM m l with
   | none => exact me_none m ad al cap cl l n w hR hL hI hw hf (by omega) (by omega) hfm
   | some v => exact me_some m ad al cap cl l n w hR hL hI hw hf (by omega) (by omega) v hfm
 ·exact me_nofit m ad al cap cl l n w hR hL hI hw hf
end Go.Proofs.YtndmeaoidihikaaGreatDoor
