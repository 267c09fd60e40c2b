/- Contracts and plain facts that the claim uses (TuP QrY K9a K9). Conditions: as each one states. -/
import Derived.RangeFuncNested
import Derived.RangeFuncBound
import Derived.RangeFuncCalls
import Derived.RangeFuncLeaves
import Derived.RangeFuncFrom
import Derived.Shelf.Abstract
import Derived.Shelf.RegionOpen
import Derived.WalkKit
import Derived.OwnWalkIn
import Derived.TacticsInMore
import Derived.LoopNIn
import Derived.LoopIn
import Derived.Test.YtoebgfgihfjnnaaGreatDoorProg
import Derived.WalkSpells
import Derived.Maps.AppendAt
import Derived.Deep.Quiet
import Derived.Maps.Own
import Derived.Maps.OwnSet
import Derived.Maps.Views
import Derived.WalkLawsBesides
import Derived.Laws.EntriesVeiled
import Derived.Deep.QuietTactic
import Derived.BigQuiet
import Derived.Shelf.Strings.Trim
import Derived.Shelf.Strings.SlTrimAscii
import Derived.Shelf.Strings.Repeat
import Derived.Shelf.Strings.OnBuilder
import Derived.Shelf.Strconv.Itoa1
import Derived.Shelf.Strconv.Itoa3
import Derived.Shelf.LaysM
import Derived.Ground.Names2Prog
import Derived.Lib.OthersKept
import Derived.Deep.RegionHeld3
import Derived.Deep.AppendLies
import Derived.Deep.RegionHeldLaw
import Derived.Deep.RegionLaw
import Derived.StillTail
import Derived.Laws.Tables
import Derived.IntWalk
import Derived.Laws.CopyOwn
import Derived.BigRegion
import Derived.ChangeAlike
import Derived.Shelf.Bits.Mul64
import Derived.Lib.ItoaLen
import Derived.Lib.ItoaMem
import Derived.Sort.LoopGhostIn
import Derived.Maps.RangeWalk
import Derived.Maps.Ext
import Derived.Sort.QuietThIn
import Derived.Deep.LoopGhost
import Derived.Lib.Split
import Derived.Lib.AtoiAll
import Derived.Shelf.Strconv.ErrVarAll
import Derived.Shelf.Strconv.AtoiAll
import Derived.Shelf.Strings.Cut
import Derived.Shelf.Strings.Split
import Derived.Shelf.Strings.SplitShaped
import Derived.Lib.AppendIntMem
import Derived.Lib.SmallJoins
import Derived.LaidSub
import Derived.Lib.LaidTab
import Derived.Lib.AtoiErrMem
import Derived.Stop.LaidErr
import Derived.ReadAgain
import Derived.ChangeSlices
import Derived.OpenShut
import Derived.ProofKit
import Derived.Deep.DeepHandedRow
import Derived.Deep.SlicePairs
import Derived.Test.YtoebgfgihfjnnaaGreatDoorXz01
import Derived.Test.YtoebgfgihfjnnaaGreatDoorXz02
import Derived.Test.YtoebgfgihfjnnaaGreatDoorXz03
import Derived.Test.YtoebgfgihfjnnaaGreatDoorXz04
import Derived.Test.YtoebgfgihfjnnaaGreatDoorXz05
import Derived.Test.YtoebgfgihfjnnaaGreatDoorXz06
import Derived.Test.YtoebgfgihfjnnaaGreatDoorXz07
import Derived.Test.YtoebgfgihfjnnaaGreatDoorXz08
import Derived.Test.YtoebgfgihfjnnaaGreatDoorXz09
import Derived.Test.YtoebgfgihfjnnaaGreatDoorXz10
import Derived.Test.YtoebgfgihfjnnaaGreatDoorXz11
import Derived.Test.YtoebgfgihfjnnaaGreatDoorXz12
import Derived.Test.YtoebgfgihfjnnaaGreatDoorY4901
set_option linter.all false

namespace Go.Proofs.YtoebgfgihfjnnaaGreatDoor
set_option maxRecDepth 100000
theorem loadGo_ok (m : MacV) : ∀ (l pre : List Int), (∀ x ∈ l, 0 ≤ x ∧ x < 4 * m.gears) → (pre ++ l).Nodup → loadGo m pre l = 0
 | [], pre, _, _ => rfl
 | s :: r, pre, h, hn => by
   have hs := h s (by simp)
   have h2 : s ∉ pre := fun hm => by
     have := (List.nodup_append.1 hn).2.2 s hm s (by simp)
     exact this rfl
   rw [loadGo, if_neg (by omega), if_neg h2]
   exact loadGo_ok m r (pre ++ [s]) (fun x hx => h x (List.mem_cons_of_mem _ hx)) (by simpa using hn)
theorem loadE_ok {m : MacV} {l : List Int} (hm : macE m = 0) (hr : ∀ x ∈ l, 0 ≤ x ∧ x < 4 * m.gears) (hn : l.Nodup) : loadE m l = 0 := by
 have hle : (l.length : Int) ≤ 4 * m.gears := by
  have hg := (macE_zero hm).1.lo
  have := nodup_le (4 * m.gears).toNat l hn (fun x hx => by have := hr x hx; omega)
  omega
 unfold loadE
 rw [if_neg (by simp [hm]), if_neg (by omega)]
 exact loadGo_ok m l [] hr (by simpa using hn)
theorem nodup_map {l : List Int} {f : Int → Int} (hn : l.Nodup) (h : ∀ x ∈ l, ∀ y ∈ l, f x = f y → x = y) : (l.map f).Nodup := by
 rw [List.nodup_iff_pairwise_ne, List.pairwise_map]
 exact (List.nodup_iff_pairwise_ne.1 hn).imp_of_mem fun {x y} hx hy hxy e => hxy (h x hx y hy e)
theorem atL_nodup {m : MacV} {l : List Int} (hr : ∀ x ∈ l, 0 ≤ x ∧ x < 4 * m.gears) (hn : l.Nodup) (k : Nat) : (atL m l k).Nodup :=
 nodup_map hn fun x hx y hy e => itM_inj (hr x hx).1 (hr x hx).2 (hr y hy).1 (hr y hy).2 k e
theorem atL_load {m : MacV} {l : List Int} (h : LoadOk m l) (k : Nat) : loadE m (atL m l k) = 0 := loadE_ok h.mac (atL_rng h.rng k) (atL_nodup h.rng h.nodup k)

theorem turn_mac (m : MacV) : turnMac (turnMac m) = m := by obtain ⟨r, g, t, s⟩ := m; simp [turnMac]
theorem turn_swGo (m : MacV) : ∀ (l : List Int) (o : Option Int), swGo (turnMac m) o l = swGo m o l
 | [], o => by cases o <;> rfl
 | s :: r, o => by
   have hs : sharedM (turnMac m) s = sharedM m s := rfl
   cases o with
   | none => rw [swGo, swGo, hs, turn_swGo m r]
   | some b => rw [swGo, swGo, hs, turn_swGo m r]
theorem turn_macE (m : MacV) (h : m.turn = 1 ∨ m.turn = -1) : macE (turnMac m) = macE m := by
 unfold macE
 have e1 : (turnMac m).gears = m.gears := rfl
 have e2 : (turnMac m).ring = m.ring := rfl
 have e3 : (turnMac m).sw = m.sw := rfl
 have e4 : (turnMac m).turn = -m.turn := rfl
 rw [e1, e2, e3, e4, turn_swGo]
 have e5 : ((-m.turn ≠ 1 ∧ -m.turn ≠ -1)) ↔ (m.turn ≠ 1 ∧ m.turn ≠ -1) := by omega
 simp only [e5]
theorem turn_place (m : MacV) (s : Int) : placeM (turnMac m) s = placeM m s := rfl
theorem turn_over (m : MacV) (s : Int) : overM (turnMac m) s = overM m s := rfl
theorem turn_hit (m : MacV) (x y : Int) : hitM (turnMac m) x y = hitM m x y := rfl
theorem turn_fwd {m : MacV} (h : m.turn = 1 ∨ m.turn = -1) (g : Int) : fwdM (turnMac m) g = !fwdM m g := by
 unfold fwdM
 have e4 : (turnMac m).turn = -m.turn := rfl
 rw [e4]
 rcases h with h | h
 ·rw [h]; cases (g % 2 == 0) <;> rfl
 ·rw [h]; cases (g % 2 == 0) <;> rfl

theorem mir_mir (s : Int) : mirM (mirM s) = s := by
 unfold mirM
 by_cases h1 : s % 4 = 1
 ·rw [if_pos h1, if_neg (by omega), if_pos (by omega)]; omega
 ·rw [if_neg h1]
  by_cases h3 : s % 4 = 3
  ·rw [if_pos h3, if_pos (by omega)]; omega
  ·rw [if_neg h3, if_neg h1, if_neg h3]
theorem mir_spec (s : Int) : mirM s / 4 = s / 4 ∧ mirM s % 4 = (4 - s % 4) % 4 := by
 unfold mirM
 split
 ·omega
 ·split <;> omega
theorem mir_rng {m : MacV} {s : Int} (h0 : 0 ≤ s) (h1 : s < 4 * m.gears) : 0 ≤ mirM s ∧ mirM s < 4 * m.gears := by
 have := mir_spec s; omega
theorem mir_inj {s t : Int} (h : mirM s = mirM t) : s = t := by rw [← mir_mir s, h, mir_mir]
theorem mir_even {s : Int} (h : s % 2 = 0) : mirM s = s := by unfold mirM; rw [if_neg (by omega), if_neg (by omega)]
theorem place_odd {m : MacV} {s : Int} (h : ¬ s % 2 = 0) : placeM m s = -1 := by unfold placeM; rw [if_neg (by omega), if_neg (by omega)]
theorem mir_place (m : MacV) (s : Int) : placeM m (mirM s) = placeM m s := by
 by_cases h : s % 2 = 0
 ·rw [mir_even h]
 ·rw [place_odd h, place_odd (by have := mir_spec s; omega)]
theorem mir_hit (m : MacV) (x y : Int) : hitM m (mirM x) (mirM y) = hitM m x y := by unfold hitM; rw [mir_place, mir_place]
theorem over_odd {m : MacV} {s : Int} (h : ¬ s % 2 = 0) : overM m s = s := by
 unfold overM goesM
 rw [place_odd h]; rfl
theorem mir_over (m : MacV) (s : Int) (h0 : 0 ≤ s) (h1 : s < 4 * m.gears) : overM m (mirM s) = mirM (overM m s) := by
 by_cases h : s % 2 = 0
 ·rw [mir_even h]
  rcases over_cases h0 h1 with ⟨_, e⟩ | ⟨_, _, _, _, _, e⟩
  ·rw [e, mir_even h]
  ·rw [mir_even]; rw [e]; omega
 ·rw [over_odd h, over_odd (by have := mir_spec s; omega)]
theorem mir_rot {m : MacV} (h : m.turn = 1 ∨ m.turn = -1) (s : Int) : rotM (turnMac m) (mirM s) = mirM (rotM m s) := by
 obtain ⟨a, b⟩ := mir_spec s
 have c : rotM (turnMac m) (mirM s) = 4 * (s / 4) + ((4 - s % 4) % 4 + (if fwdM m (s / 4) then 3 else 1)) % 4 := by
  unfold rotM
  rw [a, b, turn_fwd h]
  cases fwdM m (s / 4) <;> rfl
 obtain ⟨d, e⟩ := mir_spec (rotM m s)
 have f : rotM m s / 4 = s / 4 ∧ rotM m s % 4 = (s % 4 + (if fwdM m (s / 4) then 1 else 3)) % 4 := by
  unfold rotM; split <;> omega
 have g : mirM (rotM m s) = 4 * (mirM (rotM m s) / 4) + mirM (rotM m s) % 4 := by omega
 rw [c, g, d, e, f.1, f.2]
 cases fwdM m (s / 4) <;> simp <;> omega
theorem mir_next {m : MacV} (h : m.turn = 1 ∨ m.turn = -1) {s : Int} (h0 : 0 ≤ s) (h1 : s < 4 * m.gears) : nextM (turnMac m) (mirM s) = mirM (nextM m s) := by
 unfold nextM
 rw [mir_rot h, turn_over]
 have := rot_rng (m := m) h0 h1
 exact mir_over m _ this.1 this.2.1
theorem mir_it {m : MacV} (h : m.turn = 1 ∨ m.turn = -1) {s : Int} (h0 : 0 ≤ s) (h1 : s < 4 * m.gears) : ∀ n, itM (turnMac m) (mirM s) n = mirM (itM m s n)
 | 0 => rfl
 | n + 1 => by
   have a := mir_rng (m := m) h0 h1
   have b := itM_rng (m := m) h0 h1 n
   rw [itM_succ (m := turnMac m) a.1 a.2, mir_it h h0 h1 n, itM_succ h0 h1, mir_next h b.1 b.2]
theorem mir_atL {m : MacV} (h : m.turn = 1 ∨ m.turn = -1) {l : List Int} (hl : ∀ x ∈ l, 0 ≤ x ∧ x < 4 * m.gears) (n : Nat) : atL (turnMac m) (l.map mirM) n = (atL m l n).map mirM := by
 unfold atL
 rw [List.map_map, List.map_map]
 exact List.map_congr_left fun x hx => mir_it h (hl x hx).1 (hl x hx).2 n
theorem mir_load {m : MacV} {l : List Int} (h : LoadOk m l) : loadE (turnMac m) (l.map mirM) = 0 := by
 refine loadE_ok (by rw [turn_macE m h.ok.turn]; exact h.mac) (fun x hx => ?_) (nodup_map h.nodup fun x _ y _ e => mir_inj e)
 obtain ⟨y, hy, rfl⟩ := List.mem_map.1 hx
 exact mir_rng (h.rng y hy).1 (h.rng y hy).2
theorem mir_meet {m : MacV} (h : m.turn = 1 ∨ m.turn = -1) {a b : Int} (a0 : 0 ≤ a) (a1 : a < 4 * m.gears) (b0 : 0 ≤ b) (b1 : b < 4 * m.gears) : meetM (turnMac m) (mirM a) (mirM b) = meetM m a b := by
 have hs := meetM_spec m a b
 refine (meetM_spec _ _ _).eq ?_
 have key : ∀ k, hitM (turnMac m) (itM (turnMac m) (mirM a) k) (itM (turnMac m) (mirM b) k) = hitM m (itM m a k) (itM m b k) := fun k => by
  rw [mir_it h a0 a1, mir_it h b0 b1, turn_hit, mir_hit]
 cases hm : meetM m a b with
 | none => rw [hm] at hs; intro k; rw [key]; exact hs k
 | some v =>
  obtain ⟨n, p⟩ := v
  rw [hm] at hs
  obtain ⟨s1, s2, s3⟩ := hs
  refine ⟨by rw [key]; exact s1, ?_, fun k hk => by rw [key]; exact s3 k hk⟩
  rw [mir_it h a0 a1, turn_place, mir_place]
  exact s2
theorem atD_map2 {l : List Int} {f : Int → Int} {i : Nat} (h : i < l.length) : atD 0 (l.map f) i = f (atD 0 l i) := by simp [atD, h]
theorem pairsTo_map2 {l : List Int} {f : Int → Int} : ∀ {i : Nat}, i ≤ l.length → pairsTo (l.map f) i = (pairsTo l i).map fun p => (f p.1, f p.2)
 | 0, _ => rfl
 | i + 1, h => by
   rw [pairsTo_succ, pairsTo_succ, pairsTo_map2 (by omega), List.map_append, ← List.map_take, List.map_map, List.map_map, atD_map2 (by omega)]
   rfl
theorem firstTo_congr {m m' : MacV} : ∀ (ps : List (Int × Int)) (f : Int → Int) (b : Option (Nat × Int)), (∀ p ∈ ps, meetM m' (f p.1) (f p.2) = meetM m p.1 p.2) →
  (ps.map fun p => (f p.1, f p.2)).foldl (fun b p => bestS b (meetM m' p.1 p.2)) b = ps.foldl (fun b p => bestS b (meetM m p.1 p.2)) b
 | [], _, _, _ => rfl
 | p :: ps, f, b, h => by
   rw [List.map_cons, List.foldl_cons, List.foldl_cons]
   dsimp only
   rw [h p (by simp)]
   exact firstTo_congr ps f _ fun q hq => h q (List.mem_cons_of_mem _ hq)
theorem pair_rng {l : List Int} {N : Int} (hl : ∀ x ∈ l, 0 ≤ x ∧ x < N) {p : Int × Int} (hp : p ∈ pairsTo l l.length) : (0 ≤ p.1 ∧ p.1 < N) ∧ (0 ≤ p.2 ∧ p.2 < N) := by
 obtain ⟨i, j, hji, hi, rfl⟩ := (pairsTo_mem (Nat.le_refl _)).1 hp
 have e1 : atD 0 l (i : Int) = l[i] := by simp [atD, hi]
 have hj : j < l.length := by omega
 have e2 : atD 0 l (j : Int) = l[j] := by simp [atD, hj]
 rw [e1, e2]
 exact ⟨hl _ (List.getElem_mem hi), hl _ (List.getElem_mem hj)⟩
theorem mir_first {m : MacV} (h : m.turn = 1 ∨ m.turn = -1) {l : List Int} (hl : ∀ x ∈ l, 0 ≤ x ∧ x < 4 * m.gears) : firstM (turnMac m) (l.map mirM) = firstM m l := by
 unfold firstM firstTo
 rw [List.length_map, pairsTo_map2 (Nat.le_refl _)]
 refine firstTo_congr _ mirM none fun p hp => ?_
 obtain ⟨a, b⟩ := pair_rng hl hp
 exact mir_meet h a.1 a.2 b.1 b.2
theorem mir_meets {m : MacV} (h : m.turn = 1 ∨ m.turn = -1) {l : List Int} (hl : ∀ x ∈ l, 0 ≤ x ∧ x < 4 * m.gears) (n : Int) : meetsM (turnMac m) (l.map mirM) n = meetsM m l n := by
 unfold meetsM; rw [mir_first h hl]
theorem mir_weaveE {m : MacV} {l : List Int} (h : LoadOk m l) (hz : loadE m l = 0) (n : Int) : weaveE (turnMac m) (l.map mirM) n = weaveE m l n := by
 unfold weaveE
 rw [mir_load h, hz, List.length_map, mir_meets h.ok.turn h.rng]
 rfl

theorem mir_slot {m : MacV} (h : m.turn = 1 ∨ m.turn = -1) (g : Int) (i : Nat) : slotG (turnMac m) g i = mirM (slotG m g i) := by
 have e0 : mirM (4 * g) = 4 * g := mir_even (by omega)
 have e1 : mirM (4 * g + 1) = 4 * g + 3 := by unfold mirM; rw [if_pos (by omega)]; omega
 have e2 : mirM (4 * g + 2) = 4 * g + 2 := mir_even (by omega)
 have e3 : mirM (4 * g + 3) = 4 * g + 1 := by unfold mirM; rw [if_neg (by omega), if_pos (by omega)]; omega
 unfold slotG
 rw [turn_fwd h]
 split
 ·exact e0.symm
 ·cases fwdM m g
  ·exact e3.symm
  ·exact e1.symm
 ·cases fwdM m g
  ·exact e1.symm
  ·exact e3.symm
 ·exact e2.symm
theorem mir_idx (l : List Int) (s : Int) : idxO (l.map mirM) (mirM s) = idxO l s :=
 idxO_map fun x _ => ⟨fun e => mir_inj e, fun e => by rw [e]⟩
theorem mir_opG {m : MacV} (h : m.turn = 1 ∨ m.turn = -1) (l : List Int) (g : Int) (i : Nat) : opG (turnMac m) (l.map mirM) g i = opG m l g i := by
 unfold opG; rw [mir_slot h, mir_idx]
theorem mir_order {m : MacV} (h : m.turn = 1 ∨ m.turn = -1) (l : List Int) : orderM (turnMac m) (l.map mirM) = orderM m l := by
 unfold orderM
 have e : gearsL (turnMac m) = gearsL m := rfl
 rw [e]
 congr 1
 funext g
 rw [orderG_eq, orderG_eq, mir_opG h, mir_opG h, mir_opG h, mir_opG h]
/-- a crossing with its strands changed. -/
def flipC (c : CrM) : CrM := ⟨c.gear, c.under, c.over, c.going⟩
theorem mir_mkX {m : MacV} (h : m.turn = 1 ∨ m.turn = -1) (g a b : Int) : mkX (turnMac m) g a b = flipC (mkX m g a b) := by
 unfold mkX flipC
 rw [turn_fwd h]
 cases fwdM m g <;> rfl
theorem mir_both {f f' : Int → Int → CrM} (h : ∀ a b, f' a b = flipC (f a b)) (x y : Option Int) : bothX f' x y = (bothX f x y).map flipC := by
 cases x <;> cases y <;> simp [bothX, h]
theorem mir_cross {m : MacV} (h : m.turn = 1 ∨ m.turn = -1) (l : List Int) : crossM (turnMac m) (l.map mirM) = (crossM m l).map flipC := by
 unfold crossM
 have e : gearsL (turnMac m) = gearsL m := rfl
 rw [e, List.map_flatMap]
 congr 1
 funext g
 rw [crossG_eq, crossG_eq, crossA_eq, crossA_eq, crossA_eq, crossA_eq, crossA_eq, crossA_eq, mir_opG h, mir_opG h, mir_opG h, mir_opG h]
 have k := fun x y => mir_both (mir_mkX h g) x y
 rw [k, k, k]
 simp only [List.map_append, Option.toList_map]
def negL (l : List Int) : List Int := l.map fun x => -x
def okC (c : CrM) : Prop := (c.over = c.going ∧ c.under ≠ c.going) ∨ (c.under = c.going ∧ c.over ≠ c.going)
theorem flip_letter {r : List Int} {c : CrM} (h : okC c) : letterC r (flipC c) = -letterC r c := by
 unfold letterC flipC
 dsimp only
 rcases h with ⟨a, b⟩ | ⟨a, b⟩
 ·rw [if_pos a, if_neg b]; omega
 ·rw [if_neg b, if_pos a]; omega
theorem flip_fold : ∀ (cs : List CrM) (r o : List Int), (∀ c ∈ cs, okC c) → (cs.map flipC).foldl weaveC (r, negL o) = ((cs.foldl weaveC (r, o)).1, negL (cs.foldl weaveC (r, o)).2)
 | [], r, o, _ => rfl
 | c :: cs, r, o, h => by
   rw [List.map_cons, List.foldl_cons, List.foldl_cons]
   have e : weaveC (r, negL o) (flipC c) = ((weaveC (r, o) c).1, negL (weaveC (r, o) c).2) := by
     unfold weaveC negL
     dsimp only
     rw [flip_letter (h c (by simp)), List.map_append]
     rfl
   rw [e]
   exact flip_fold cs _ _ fun x hx => h x (List.mem_cons_of_mem _ hx)
theorem bothX_mem {f : Int → Int → CrM} {x y : Option Int} {c : CrM} (h : c ∈ (bothX f x y).toList) : ∃ a b, x = some a ∧ y = some b ∧ c = f a b := by
 cases x with
 | none => simp [bothX] at h
 | some a =>
  cases y with
  | none => simp [bothX] at h
  | some b => simp [bothX] at h; exact ⟨a, b, rfl, rfl, h⟩
theorem crossM_mem {m : MacV} {l : List Int} {c : CrM} (h : c ∈ crossM m l) : ∃ (g a b : Int) (i j : Nat), 0 ≤ g ∧ g < m.gears ∧ i < 4 ∧ j < 4 ∧ i ≠ j ∧ opG m l g i = some a ∧ opG m l g j = some b ∧ c = mkX m g a b ∧ a ≠ b := by
 unfold crossM at h
 obtain ⟨g, hg, h⟩ := List.mem_flatMap.1 h
 have hgr := gearsL_mem.1 hg
 rw [crossG_eq, crossA_eq, crossA_eq, crossA_eq] at h
 have fin : ∀ i j : Nat, i < 4 → j < 4 → i ≠ j → c ∈ (bothX (mkX m g) (opG m l g i) (opG m l g j)).toList → ∃ (g a b : Int) (i j : Nat), 0 ≤ g ∧ g < m.gears ∧ i < 4 ∧ j < 4 ∧ i ≠ j ∧ opG m l g i = some a ∧ opG m l g j = some b ∧ c = mkX m g a b ∧ a ≠ b := by
  intro i j hi hj hij hc
  obtain ⟨a, b, ha, hb, e⟩ := bothX_mem hc
  refine ⟨g, a, b, i, j, hgr.1, hgr.2, hi, hj, hij, ha, hb, e, fun eab => ?_⟩
  subst eab
  exact hij (slotG_inj hi hj (idxO_inj ha hb))
 rcases List.mem_append.1 h with h | h
 ·exact fin 1 2 (by decide) (by decide) (by decide) h
 ·rcases List.mem_append.1 h with h | h
  ·exact fin 0 2 (by decide) (by decide) (by decide) h
  ·exact fin 1 3 (by decide) (by decide) (by decide) h
theorem crossM_ok (m : MacV) (l : List Int) : ∀ c ∈ crossM m l, okC c := by
 intro c hc
 obtain ⟨g, a, b, i, j, _, _, _, _, _, _, _, e, hab⟩ := crossM_mem hc
 subst e
 unfold mkX okC
 split
 ·exact .inr ⟨rfl, fun e => hab e.symm⟩
 ·exact .inl ⟨rfl, fun e => hab e.symm⟩
theorem mir_wv {m : MacV} (h : m.turn = 1 ∨ m.turn = -1) {l : List Int} (hl : ∀ x ∈ l, 0 ≤ x ∧ x < 4 * m.gears) : ∀ k : Nat, wvM (turnMac m) (l.map mirM) k = ((wvM m l k).1, negL (wvM m l k).2)
 | 0 => by
   show (orderM (turnMac m) (l.map mirM), []) = _
   rw [mir_order h]; rfl
 | k + 1 => by
   rw [wvM, wvM, mir_wv h hl k, mir_atL h hl k]
   unfold weaveS
   rw [mir_cross h]
   exact flip_fold _ _ _ (crossM_ok m _)
theorem mir_wrdL {m : MacV} (h : m.turn = 1 ∨ m.turn = -1) {l : List Int} (hl : ∀ x ∈ l, 0 ≤ x ∧ x < 4 * m.gears) (n : Int) : wrdL (turnMac m) (l.map mirM) n = negL (wrdL m l n) := by
 unfold wrdL; rw [mir_wv h hl]
theorem mir_wrdE {m : MacV} {l : List Int} (h : LoadOk m l) (hz : loadE m l = 0) (n : Int) : wrdE (turnMac m) (l.map mirM) n = wrdE m l n := by
 unfold wrdE
 rw [mir_weaveE h hz, mir_wrdL h.ok.turn h.rng]
 unfold negL
 rw [List.length_map]

theorem rot_turn {m : MacV} (h : m.turn = 1 ∨ m.turn = -1) (x : Int) : rotM (turnMac m) x = 4 * (x / 4) + (x % 4 + (if fwdM m (x / 4) then 3 else 1)) % 4 := by
 unfold rotM
 rw [turn_fwd h]
 cases fwdM m (x / 4) <;> rfl
theorem rot_back {m : MacV} (h : m.turn = 1 ∨ m.turn = -1) (s : Int) : rotM (turnMac m) (rotM m s) = s := by
 have f : rotM m s / 4 = s / 4 ∧ rotM m s % 4 = (s % 4 + (if fwdM m (s / 4) then 1 else 3)) % 4 := by
  unfold rotM; split <;> omega
 rw [rot_turn h, f.1, f.2]
 cases fwdM m (s / 4) <;> simp <;> omega
/-- a step backwards. -/
theorem back_step {m : MacV} (h : m.turn = 1 ∨ m.turn = -1) {s : Int} (h0 : 0 ≤ s) (h1 : s < 4 * m.gears) : nextM (turnMac m) (overM m (nextM m s)) = overM m s := by
 have hr := rot_rng (m := m) h0 h1
 unfold nextM
 rw [over_over hr.1 hr.2.1, rot_back h, turn_over]
theorem back_it {m : MacV} (h : m.turn = 1 ∨ m.turn = -1) {s : Int} (h0 : 0 ≤ s) (h1 : s < 4 * m.gears) : ∀ n : Nat, itM (turnMac m) (overM m (itM m s n)) n = overM m s
 | 0 => rfl
 | n + 1 => by
   have a := itM_rng (m := m) h0 h1 n
   have b := next_rng a.1 a.2
   have e : itM m s (n + 1) = nextM m (itM m s n) := itM_succ h0 h1 n
   rw [e]
   have o := over_rng b.1 b.2
   have s1 : ∀ (x : Int) (k : Nat), 0 ≤ x → x < 4 * m.gears → itM (turnMac m) x (k + 1) = itM (turnMac m) (nextM (turnMac m) x) k := by
     intro x k x0 x1
     unfold itM
     rw [itP_succ', permM_at (m := turnMac m) x0 x1]
   rw [s1 _ _ o.1 o.2, back_step h a.1 a.2]
   exact back_it h h0 h1 n
theorem back_atL {m : MacV} (h : m.turn = 1 ∨ m.turn = -1) {l : List Int} (hl : ∀ x ∈ l, 0 ≤ x ∧ x < 4 * m.gears) (n : Nat) : atL (turnMac m) ((atL m l n).map (overM m)) n = l.map (overM m) := by
 unfold atL
 rw [List.map_map, List.map_map]
 exact List.map_congr_left fun x hx => back_it h (hl x hx).1 (hl x hx).2 n
theorem back_load {m : MacV} {l : List Int} (h : LoadOk m l) : loadE (turnMac m) (l.map (overM m)) = 0 := by
 refine loadE_ok (by rw [turn_macE m h.ok.turn]; exact h.mac) (fun x hx => ?_) (nodup_map h.nodup fun x hx y hy e => over_inj (h.rng x hx).1 (h.rng x hx).2 (h.rng y hy).1 (h.rng y hy).2 e)
 obtain ⟨y, hy, rfl⟩ := List.mem_map.1 hx
 exact over_rng (h.rng y hy).1 (h.rng y hy).2
theorem over_twice {m : MacV} {l : List Int} (hl : ∀ x ∈ l, 0 ≤ x ∧ x < 4 * m.gears) : (l.map (overM m)).map (overM (turnMac m)) = l := by
 rw [List.map_map]
 conv => rhs; rw [← List.map_id l]
 exact List.map_congr_left fun x hx => over_over (hl x hx).1 (hl x hx).2
theorem mir_twice (l : List Int) : (l.map mirM).map mirM = l := by
 rw [List.map_map]
 conv => rhs; rw [← List.map_id l]
 exact List.map_congr_left fun x _ => mir_mir x
end Go.Proofs.YtoebgfgihfjnnaaGreatDoor

namespace Go.Proofs.YtoebgfgihfjnnaaGreatDoor
open Go.RowKit
set_option maxHeartbeats 4000000
set_option maxRecDepth 100000
theorem rSame_same (m : MacV) (a b : Option Addr) (c d : Nat) (w : World) (hA : Ints w a c m.sw) (hB : Ints w b d m.sw) (hl : m.sw.length ≤ 1048576) :
  Calls Tryz.prog 35 #[mV m a c, mV m b d] w fun r w' => r = .returned (.bool true) ∧ Below w.heap.size w w' := by
 have CS := fun w h h2 => SameInts_any a b c d m.sw m.sw w h h2 hl
 rw [decide_eq_true rfl] at CS
 have HS := hid CS
 have hS := ((SL.nil w).box (.cells (mC m a c) 25)).box (.cells (mC m b d) 25)
 clear CS
 go_enter Tryz.func35, Tryz.ntmps35
 go_wp2_with fail
 refine (HS.out _ (hA.below hS.b) (hB.below hS.b)).mono ?_
 rintro e w1 ⟨rfl, b1⟩
 go_wp2_with fail
 go_ret
 exact ⟨rfl, bnext hS.b b1⟩
end Go.Proofs.YtoebgfgihfjnnaaGreatDoor

namespace Go.Proofs.YtoebgfgihfjnnaaGreatDoor
open Go.RowKit
set_option maxHeartbeats 8000000
set_option maxRecDepth 100000
theorem swp_len (r : List Int) (i : Nat) : (swpL r i).length = r.length := by unfold swpL; simp
theorem idxZ_rng (r : List Int) (x : Int) : -1 ≤ idxZ r x ∧ idxZ r x < r.length + 1 := by
 unfold idxZ
 cases h : idxO r x with
 | none => simp; omega
 | some i => obtain ⟨a, b, _⟩ := idxO_some h; simp; omega
theorem letter_rng (r : List Int) (c : CrM) (h : r.length ≤ 64) : -100 ≤ letterC r c ∧ letterC r c ≤ 100 := by
 have := idxZ_rng r c.going
 unfold letterC
 split <;> omega
theorem fold_small : ∀ (cs : List CrM) (r o : List Int), r.length ≤ 64 → (∀ x ∈ o, -100 ≤ x ∧ x ≤ 100) → (cs.foldl weaveC (r, o)).1.length ≤ 64 ∧ ∀ x ∈ (cs.foldl weaveC (r, o)).2, -100 ≤ x ∧ x ≤ 100
 | [], r, o, h, h2 => ⟨h, h2⟩
 | c :: cs, r, o, h, h2 => by
   rw [List.foldl_cons]
   refine fold_small cs _ _ (by show (swpL r _).length ≤ 64; rw [swp_len]; exact h) fun x hx => ?_
   rcases List.mem_append.1 hx with hx | hx
   · exact h2 x hx
   · simp only [List.mem_singleton] at hx
     rw [hx]
     exact letter_rng r c h
theorem wvM_small {m : MacV} (hg : m.gears ≤ 16) (l : List Int) : ∀ k : Nat, (wvM m l k).1.length ≤ 64 ∧ ∀ x ∈ (wvM m l k).2, -100 ≤ x ∧ x ≤ 100
 | 0 => ⟨by have := orderM_len m l; show (orderM m l).length ≤ 64; omega, fun x hx => by cases hx⟩
 | k + 1 => by
   obtain ⟨a, b⟩ := wvM_small hg l k
   exact fold_small _ _ _ a b
theorem turn_fits {m : MacV} {l l2 : List Int} {g c : Int} (h : Fits m l g c) (hl : l2.length = l.length) (he : loadE (turnMac m) l2 = 0) : Fits (turnMac m) l2 g c :=
 ⟨by rw [hl]; exact h.1, h.2.1, by rw [hl]; exact h.2.2.1, he⟩
theorem later_fits {m : MacV} {l : List Int} {g c : Int} (h : Fits m l g c) (k : Nat) : Fits m (atL m l k) g c :=
 ⟨by rw [atL_len]; exact h.1, h.2.1, by rw [atL_len]; exact h.2.2.1, atL_load (loadE_zero h.2.2.2) k⟩
theorem mu_main (m : MacV) (ad al : Option Addr) (cap cl : Nat) (l : List Int) (n : Int) (w : World) (hR : Ints w ad cap m.sw) (hL : Ints w al cl l) (hI : InI m.gears) (hw : LibW w) (hf : Fits m l 6 6) (hn0 : 0 ≤ n) (hn1 : n ≤ 12) :
  Calls Tryz.prog 9 #[mV m ad cap, .slice al l.length cl, .int .i64 n] w fun r w' => r = .returned (.bool true) ∧ Below w.heap.size w w' := by
 have hS0 := (SL.nil w).box (.cells (mC m ad cap) 24)
 have HA := hid awake4_any
 have hlc := hL.le
 have he := hf.2.2.2
 have hlk := loadE_zero he
 have hok := hlk.ok
 have hl6 := hf.2.2.1
 have hlo := hok.lo
 have hhi := hok.hi
 have ht := hok.turn
 obtain ⟨N, rfl⟩ : ∃ N : Nat, n = N := ⟨n.toNat, by omega⟩
 have hIT : InI (turnMac m).gears := hI
 have e2 := mir_load hlk
 have ml := mir_atL ht hlk.rng N
 have mt := mir_twice l
 have f2 := turn_fits hf (by simp) e2
 have hnow := atL_load hlk N
 have fn := later_fits hf N
 have bl := back_atL ht hlk.rng N
 have hlkN := loadE_zero hnow
 have e4 := back_load hlkN
 have f4 : Fits (turnMac m) ((atL m l N).map (overM m)) 6 6 := turn_fits fn (by simp) e4
 have e5 := back_load hlk
 have f5 : Fits (turnMac m) (l.map (overM m)) 6 6 := turn_fits hf (by simp) e5
 have ot := over_twice hlk.rng
 have we := mir_wrdE hlk he (N : Int)
 have wl := mir_wrdL ht hlk.rng (N : Int)
 have KM : ∀ (a : Option Addr) (c : Nat), ChkM m a c := fun a c w h => CheckMachine_any m a c w h hI
 have KT : ∀ (a : Option Addr) (c : Nat), ChkM (turnMac m) a c := fun a c w h => CheckMachine_any (turnMac m) a c w h hIT
 have st : stepsE m l N = 0 := by unfold stepsE; rw [if_neg (by simp [he]), if_neg (by omega)]
 have st2 : stepsE (turnMac m) (l.map mirM) N = 0 := by unfold stepsE; rw [if_neg (by simp [e2]), if_neg (by omega)]
 have st4 : stepsE (turnMac m) ((atL m l N).map (overM m)) N = 0 := by unfold stepsE; rw [if_neg (by simp [e4]), if_neg (by omega)]
 have tm := turn_mac m
 have hNN : ((N : Int)).toNat = N := by omega
 -- the lists
 obtain ⟨ML, hML⟩ : ∃ ML, ML = l.map mirM := ⟨_, rfl⟩
 rw [← hML] at e2 ml mt f2 we wl st2
 obtain ⟨NL, hNL⟩ : ∃ NL, NL = atL m l N := ⟨_, rfl⟩
 rw [← hNL] at ml hnow fn bl hlkN e4 f4 st4
 obtain ⟨BL, hBL⟩ : ∃ BL, BL = NL.map (overM m) := ⟨_, rfl⟩
 rw [← hBL] at bl e4 f4 st4
 obtain ⟨KL, hKL⟩ : ∃ KL, KL = l.map (overM m) := ⟨_, rfl⟩
 rw [← hKL] at bl e5 f5 ot
 obtain ⟨XL, hXL⟩ : ∃ XL, XL = NL.map mirM := ⟨_, rfl⟩
 rw [← hXL] at ml
 have CM1 := fun w h h2 => mMirrored_any m ad cap al cl l w h h2 (CheckLoad_any m ad cap al cl l (KM _ _))
 rw [if_pos he, if_pos he, if_pos he, he, ← hML] at CM1
 have CM2 := fun (a b : Option Addr) (c d : Nat) w h h2 => mMirrored_any (turnMac m) a c b d ML w h h2 (CheckLoad_any (turnMac m) a c b d ML (KT _ _))
 rw [if_pos e2, if_pos e2, if_pos e2, e2, tm, mt] at CM2
 have CF2 := fun (a b : Option Addr) (c d : Nat) w h h2 => lfits_ok (turnMac m) a b c d ML 6 6 w h h2 f2
 have CS1 := fun w h h2 => mSteps_any m ad cap al cl l N w h h2 (CheckLoad_any m ad cap al cl l (KM _ _))
 rw [if_pos st, st, hNN] at CS1
 replace CS1 : ∀ w, Ints w ad cap m.sw → Ints w al cl l → Calls Tryz.prog 52 #[mV m ad cap, .slice al l.length cl, .int .i64 N] w fun r w' => ∃ v, r = .returned (.tuple #[v, .int .i64 0]) ∧ OwnI w.heap.size w' v NL ∧ Below w.heap.size w w' := by
  intro w h h2; have := CS1 w h h2; rw [show (l.map fun s => itM m s N) = NL from hNL.symm] at this; exact this
 have CS2 := fun (a b : Option Addr) (c d : Nat) w h h2 => mSteps_any (turnMac m) a c b d ML N w h h2 (CheckLoad_any (turnMac m) a c b d ML (KT _ _))
 rw [if_pos st2, st2, hNN] at CS2
 replace CS2 : ∀ (a b : Option Addr) (c d : Nat) w, Ints w a c (turnMac m).sw → Ints w b d ML → Calls Tryz.prog 52 #[mV (turnMac m) a c, .slice b ML.length d, .int .i64 N] w fun r w' => ∃ v, r = .returned (.tuple #[v, .int .i64 0]) ∧ OwnI w.heap.size w' v XL ∧ Below w.heap.size w w' := by
  intro a b c d w h h2; have := CS2 a b c d w h h2; rw [show (ML.map fun s => itM (turnMac m) s N) = XL from ml] at this; exact this
 have CFN := fun (b : Option Addr) (d : Nat) w h h2 => lfits_ok m ad b cap d NL 6 6 w h h2 fn
 have CM3 := fun (b : Option Addr) (d : Nat) w h h2 => mMirrored_any m ad cap b d NL w h h2 (CheckLoad_any m ad cap b d NL (KM _ _))
 rw [if_pos hnow, if_pos hnow, if_pos hnow, hnow, ← hXL] at CM3
 have CB := fun (b : Option Addr) (d : Nat) w h h2 => mBackwards_any m ad cap b d NL w h h2 (CheckLoad_any m ad cap b d NL (KM _ _))
 rw [if_pos hnow, if_pos hnow, if_pos hnow, hnow, ← hBL] at CB
 have CF4 := fun (a b : Option Addr) (c d : Nat) w h h2 => lfits_ok (turnMac m) a b c d BL 6 6 w h h2 f4
 have CS4 := fun (a b : Option Addr) (c d : Nat) w h h2 => mSteps_any (turnMac m) a c b d BL N w h h2 (CheckLoad_any (turnMac m) a c b d BL (KT _ _))
 rw [if_pos st4, st4, hNN] at CS4
 replace CS4 : ∀ (a b : Option Addr) (c d : Nat) w, Ints w a c (turnMac m).sw → Ints w b d BL → Calls Tryz.prog 52 #[mV (turnMac m) a c, .slice b BL.length d, .int .i64 N] w fun r w' => ∃ v, r = .returned (.tuple #[v, .int .i64 0]) ∧ OwnI w.heap.size w' v KL ∧ Below w.heap.size w w' := by
  intro a b c d w h h2; have := CS4 a b c d w h h2; rw [show (BL.map fun s => itM (turnMac m) s N) = KL from bl] at this; exact this
 have CF5 := fun (a b : Option Addr) (c d : Nat) w h h2 => lfits_ok (turnMac m) a b c d KL 6 6 w h h2 f5
 have CB5 := fun (a b : Option Addr) (c d : Nat) w h h2 => mBackwards_any (turnMac m) a c b d KL w h h2 (CheckLoad_any (turnMac m) a c b d KL (KT _ _))
 rw [if_pos e5, if_pos e5, if_pos e5, e5, tm, ot] at CB5
 have CW1 := fun w h h2 => mWord_any m ad cap al cl l N w h h2 (CheckLoad_any m ad cap al cl l (KM _ _))
 have CW2 := fun (a b : Option Addr) (c d : Nat) w h h2 => mWord_any (turnMac m) a c b d ML N w h h2 (CheckLoad_any (turnMac m) a c b d ML (KT _ _))
 rw [we, wl] at CW2
 obtain ⟨WL, hWL⟩ : ∃ WL : List Int, WL = if wrdE m l N = 0 then wrdL m l N else [] := ⟨_, rfl⟩
 have hWN : (if wrdE m l N = 0 then negL (wrdL m l N) else []) = negL WL := by rw [hWL]; split <;> rfl
 rw [← hWL] at CW1
 rw [hWN] at CW2
 have hws : ∀ x ∈ WL, -100 ≤ x ∧ x ≤ 100 := fun x hx => by
  rw [hWL] at hx
  split at hx
  ·exact (wvM_small hhi l N).2 x hx
  ·cases hx
 have hwz : WL.length ≤ 1000000 := by
  rw [hWL]
  split
  ·have := wvM_len (m := m) hhi l N
   show (wvM m l N).2.length ≤ 1000000
   omega
  ·simp
 obtain ⟨EW, hEW⟩ : ∃ EW, EW = wrdE m l N := ⟨_, rfl⟩
 rw [← hEW] at CW1 CW2
 obtain ⟨VL, hVL⟩ : ∃ VL, VL = negL WL := ⟨_, rfl⟩
 rw [← hVL] at CW2
 have hvl : VL.length = WL.length := by rw [hVL]; simp [negL]
 have hva : ∀ k : Nat, k < WL.length → atD 0 VL k = -(atD 0 WL k) := fun k hk => by rw [hVL]; exact atD_map2 hk
 have hsl : m.sw.length ≤ 1048576 := by have := hok.many; omega
 have hll : l.length ≤ 1048576 := by omega
 have hxl : XL.length ≤ 1048576 := by rw [hXL, List.length_map, hNL, atL_len]; omega
 have HF := hid (fun w h h2 => lfits_ok m ad al cap cl l 6 6 w h h2 hf)
 have HM1 := hid CM1; have HM2 := hid CM2; have HF2 := hid CF2; have HS1 := hid CS1; have HS2 := hid CS2; have HFN := hid CFN; have HM3 := hid CM3; have HB := hid CB; have HF4 := hid CF4; have HS4 := hid CS4; have HF5 := hid CF5; have HB5 := hid CB5; have HW1 := hid CW1; have HW2 := hid CW2
 have HVL := hid hvl; have HVA := hid hva; have HWS := hid hws
 clear CM1 CM2 CF2 CS1 CS2 CFN CM3 CB CF4 CS4 CF5 CB5 CW1 CW2 hvl hva hws hWL hWN hEW hVL hML hNL hBL hKL hXL KM KT st st2 st4 tm hNN e2 ml mt f2 hnow fn bl hlkN e4 f4 e5 f5 ot we wl hlk hok he hf hI hIT ht hl6 hlo hhi
 go_enter Tryz.func9, Tryz.ntmps9
 go_wp2_with fail
 refine (HA.out _ (hw.below hS0.b)).mono ?_
 rintro e w1 ⟨rfl, b1⟩
 have hS1 := hS0.mono b1
 have q1_m := (hS1.blk 0 rfl).1
 clear hS0
 go_wp2_with (with_reducible refine wpList_ldS (n := 4) (us := mC m ad cap) A_mach kR wU wU (by assumption) wU wU ?_)
 refine (HF.out _ (hR.below hS1.b) (hL.below hS1.b)).mono ?_
 rintro e w2 ⟨rfl, b2⟩
 have hS2 := hS1.mono b2
 have q2_m := (hS2.blk 0 rfl).1
 clear hS1 q1_m
 go_wp2_with (with_reducible refine wpList_ldS (n := 4) (us := mC m ad cap) A_mach kR wU wU (by assumption) wU wU ?_)
 refine (HM1.out _ (hR.below hS2.b) (hL.below hS2.b)).mono ?_
 rintro e w3 ⟨aI, cI, vI, rfl, ho3⟩
 have hS3 := hS2.call ho3
 simp only [List.cons_append, List.nil_append] at hS3
 have q3_m := (hS3.blk 2 rfl).1
 clear hS2 q2_m
 clear ho3
 obtain ⟨aP, cP, rfl, _⟩ := hS3.slice 1 rfl
 have hS4 := hS3.box (.cells (mC (turnMac m) aI cI) 24)
 have q4_i := (hS4.blk 0 rfl).1
 have q4_m := (hS4.blk 3 rfl).1
 clear hS3 q3_m
 go_wp2_with (with_reducible refine wpList_ldS (n := 4) (us := mC (turnMac m) aI cI) A_mach kR wU wU (by assumption) wU wU ?_)
 refine (HM2.out aI aP cI cP _ (hS4.rd 1 rfl) (hS4.rd 2 rfl)).mono ?_
 rintro e w5 ⟨aK, cK, vK, rfl, ho5⟩
 have hS5 := hS4.call ho5
 simp only [List.cons_append, List.nil_append] at hS5
 have q5_i := (hS5.blk 2 rfl).1
 have q5_m := (hS5.blk 5 rfl).1
 clear hS4 q4_i q4_m
 clear ho5
 obtain ⟨aQ, cQ, rfl, _⟩ := hS5.slice 1 rfl
 have hS6 := hS5.box (.cells (mC m aK cK) 24)
 have q6_k := (hS6.blk 0 rfl).1
 have q6_i := (hS6.blk 3 rfl).1
 have q6_m := (hS6.blk 6 rfl).1
 clear hS5 q5_i q5_m
 go_wp2_with (first | (with_reducible refine wpList_ldS (n := 4) (us := mC m aK cK) A_mach kR wU wU (by assumption) wU wU ?_) | (with_reducible refine wpList_ldS (n := 4) (us := mC m ad cap) A_mach kR wU wU (by assumption) wU wU ?_))
 refine (rSame_same m aK ad cK cap _ (hS6.rd 1 rfl) (hR.below hS6.b) hsl).mono ?_
 rintro e w7 ⟨rfl, b7⟩
 have hS7 := hS6.mono b7
 have q7_k := (hS7.blk 0 rfl).1
 have q7_i := (hS7.blk 3 rfl).1
 have q7_m := (hS7.blk 6 rfl).1
 clear hS6 q6_k q6_i q6_m
 go_wp2_with fail
 refine (amSame aQ al cQ cl _ l _ (hS7.rd 2 rfl) (hL.below hS7.b) rfl hll).mono ?_
 rintro e w8 ⟨rfl, b8⟩
 have hS8 := hS7.mono b8
 have q8_k := (hS8.blk 0 rfl).1
 have q8_i := (hS8.blk 3 rfl).1
 have q8_m := (hS8.blk 6 rfl).1
 clear hS7 q7_k q7_i q7_m
 go_wp2_with (with_reducible refine wpList_ldS (n := 4) (us := mC (turnMac m) aI cI) A_mach kR wU wU (by assumption) wU wU ?_)
 refine (HF2.out aI aP cI cP _ (hS8.rd 4 rfl) (hS8.rd 5 rfl)).mono ?_
 rintro e w9 ⟨rfl, b9⟩
 have hS9 := hS8.mono b9
 have q9_k := (hS9.blk 0 rfl).1
 have q9_i := (hS9.blk 3 rfl).1
 have q9_m := (hS9.blk 6 rfl).1
 clear hS8 q8_k q8_i q8_m
 go_wp2_with (with_reducible refine wpList_ldS (n := 4) (us := mC m ad cap) A_mach kR wU wU (by assumption) wU wU ?_)
 refine (HS1.out _ (hR.below hS9.b) (hL.below hS9.b)).mono ?_
 rintro e w10 ⟨v10, rfl, ho10, b10⟩
 have hS10 := hS9.call (SL.ofOwn ho10 b10)
 simp only [List.cons_append, List.nil_append] at hS10
 have q10_k := (hS10.blk 1 rfl).1
 have q10_i := (hS10.blk 4 rfl).1
 have q10_m := (hS10.blk 7 rfl).1
 clear hS9 q9_k q9_i q9_m
 clear ho10 b10
 obtain ⟨aN, cN, rfl, _⟩ := hS10.slice 0 rfl
 go_wp2_with (with_reducible refine wpList_ldS (n := 4) (us := mC (turnMac m) aI cI) A_mach kR wU wU (by assumption) wU wU ?_)
 refine (HS2.out aI aP cI cP _ (hS10.rd 5 rfl) (hS10.rd 6 rfl)).mono ?_
 rintro e w11 ⟨v11, rfl, ho11, b11⟩
 have hS11 := hS10.call (SL.ofOwn ho11 b11)
 simp only [List.cons_append, List.nil_append] at hS11
 have q11_k := (hS11.blk 2 rfl).1
 have q11_i := (hS11.blk 5 rfl).1
 have q11_m := (hS11.blk 8 rfl).1
 clear hS10 q10_k q10_i q10_m
 clear ho11 b11
 obtain ⟨aX, cX, rfl, _⟩ := hS11.slice 0 rfl
 go_wp2_with (with_reducible refine wpList_ldS (n := 4) (us := mC m ad cap) A_mach kR wU wU (by assumption) wU wU ?_)
 refine (HFN.out aN cN _ (hR.below hS11.b) (hS11.rd 1 rfl)).mono ?_
 rintro e w12 ⟨rfl, b12⟩
 have hS12 := hS11.mono b12
 have q12_k := (hS12.blk 2 rfl).1
 have q12_i := (hS12.blk 5 rfl).1
 have q12_m := (hS12.blk 8 rfl).1
 clear hS11 q11_k q11_i q11_m
 go_wp2_with (with_reducible refine wpList_ldS (n := 4) (us := mC m ad cap) A_mach kR wU wU (by assumption) wU wU ?_)
 refine (HM3.out aN cN _ (hR.below hS12.b) (hS12.rd 1 rfl)).mono ?_
 rintro e w13 ⟨aU, cU, vU, rfl, ho13⟩
 have hS13 := hS12.call ho13
 simp only [List.cons_append, List.nil_append] at hS13
 have q13_k := (hS13.blk 4 rfl).1
 have q13_i := (hS13.blk 7 rfl).1
 have q13_m := (hS13.blk 10 rfl).1
 clear hS12 q12_k q12_i q12_m
 clear ho13
 obtain ⟨aF, cF, rfl, _⟩ := hS13.slice 1 rfl
 have hS14 := hS13.box (.cells (mC (turnMac m) aU cU) 24)
 have q14_u := (hS14.blk 0 rfl).1
 have q14_k := (hS14.blk 5 rfl).1
 have q14_i := (hS14.blk 8 rfl).1
 have q14_m := (hS14.blk 11 rfl).1
 clear hS13 q13_k q13_i q13_m
 go_wp2_with (with_reducible refine wpList_ldS (n := 4) (us := mC m ad cap) A_mach kR wU wU (by assumption) wU wU ?_)
 refine (HB.out aN cN _ (hR.below hS14.b) (hS14.rd 4 rfl)).mono ?_
 rintro e w15 ⟨aC, cC, vC, rfl, ho15⟩
 have hS15 := hS14.call ho15
 simp only [List.cons_append, List.nil_append] at hS15
 have q15_u := (hS15.blk 2 rfl).1
 have q15_k := (hS15.blk 7 rfl).1
 have q15_i := (hS15.blk 10 rfl).1
 have q15_m := (hS15.blk 13 rfl).1
 clear hS14 q14_u q14_k q14_i q14_m
 clear ho15
 obtain ⟨aG, cG, rfl, _⟩ := hS15.slice 1 rfl
 have hS16 := hS15.box (.cells (mC (turnMac m) aC cC) 24)
 have q16_c := (hS16.blk 0 rfl).1
 have q16_u := (hS16.blk 3 rfl).1
 have q16_k := (hS16.blk 8 rfl).1
 have q16_i := (hS16.blk 11 rfl).1
 have q16_m := (hS16.blk 14 rfl).1
 clear hS15 q15_u q15_k q15_i q15_m
 go_wp2_with fail
 refine (amSame aF aX cF cX _ XL _ (hS16.rd 5 rfl) (hS16.rd 6 rfl) rfl hxl).mono ?_
 rintro e w17 ⟨rfl, b17⟩
 have hS17 := hS16.mono b17
 have q17_c := (hS17.blk 0 rfl).1
 have q17_u := (hS17.blk 3 rfl).1
 have q17_k := (hS17.blk 8 rfl).1
 have q17_i := (hS17.blk 11 rfl).1
 have q17_m := (hS17.blk 14 rfl).1
 clear hS16 q16_c q16_u q16_k q16_i q16_m
 go_wp2_with (with_reducible refine wpList_ldS (n := 4) (us := mC (turnMac m) aC cC) A_mach kR wU wU (by assumption) wU wU ?_)
 refine (HF4.out aC aG cC cG _ (hS17.rd 1 rfl) (hS17.rd 2 rfl)).mono ?_
 rintro e w18 ⟨rfl, b18⟩
 have hS18 := hS17.mono b18
 have q18_c := (hS18.blk 0 rfl).1
 have q18_u := (hS18.blk 3 rfl).1
 have q18_k := (hS18.blk 8 rfl).1
 have q18_i := (hS18.blk 11 rfl).1
 have q18_m := (hS18.blk 14 rfl).1
 clear hS17 q17_c q17_u q17_k q17_i q17_m
 go_wp2_with (with_reducible refine wpList_ldS (n := 4) (us := mC (turnMac m) aC cC) A_mach kR wU wU (by assumption) wU wU ?_)
 refine (HS4.out aC aG cC cG _ (hS18.rd 1 rfl) (hS18.rd 2 rfl)).mono ?_
 rintro e w19 ⟨v19, rfl, ho19, b19⟩
 have hS19 := hS18.call (SL.ofOwn ho19 b19)
 simp only [List.cons_append, List.nil_append] at hS19
 have q19_c := (hS19.blk 1 rfl).1
 have q19_u := (hS19.blk 4 rfl).1
 have q19_k := (hS19.blk 9 rfl).1
 have q19_i := (hS19.blk 12 rfl).1
 have q19_m := (hS19.blk 15 rfl).1
 clear hS18 q18_c q18_u q18_k q18_i q18_m
 clear ho19 b19
 obtain ⟨aKb, cKb, rfl, _⟩ := hS19.slice 0 rfl
 go_wp2_with (with_reducible refine wpList_ldS (n := 4) (us := mC (turnMac m) aC cC) A_mach kR wU wU (by assumption) wU wU ?_)
 refine (HF5.out aC aKb cC cKb _ (hS19.rd 2 rfl) (hS19.rd 0 rfl)).mono ?_
 rintro e w20 ⟨rfl, b20⟩
 have hS20 := hS19.mono b20
 have q20_c := (hS20.blk 1 rfl).1
 have q20_u := (hS20.blk 4 rfl).1
 have q20_k := (hS20.blk 9 rfl).1
 have q20_i := (hS20.blk 12 rfl).1
 have q20_m := (hS20.blk 15 rfl).1
 clear hS19 q19_c q19_u q19_k q19_i q19_m
 go_wp2_with (with_reducible refine wpList_ldS (n := 4) (us := mC (turnMac m) aC cC) A_mach kR wU wU (by assumption) wU wU ?_)
 refine (HB5.out aC aKb cC cKb _ (hS20.rd 2 rfl) (hS20.rd 0 rfl)).mono ?_
 rintro e w21 ⟨aD, cD, vD, rfl, ho21⟩
 have hS21 := hS20.call ho21
 simp only [List.cons_append, List.nil_append] at hS21
 have q21_c := (hS21.blk 3 rfl).1
 have q21_u := (hS21.blk 6 rfl).1
 have q21_k := (hS21.blk 11 rfl).1
 have q21_i := (hS21.blk 14 rfl).1
 have q21_m := (hS21.blk 17 rfl).1
 clear hS20 q20_c q20_u q20_k q20_i q20_m
 clear ho21
 obtain ⟨aH, cH, rfl, _⟩ := hS21.slice 1 rfl
 have hS22 := hS21.box (.cells (mC m aD cD) 24)
 have q22_d := (hS22.blk 0 rfl).1
 have q22_c := (hS22.blk 4 rfl).1
 have q22_u := (hS22.blk 7 rfl).1
 have q22_k := (hS22.blk 12 rfl).1
 have q22_i := (hS22.blk 15 rfl).1
 have q22_m := (hS22.blk 18 rfl).1
 clear hS21 q21_c q21_u q21_k q21_i q21_m
 go_wp2_with (first | (with_reducible refine wpList_ldS (n := 4) (us := mC m aD cD) A_mach kR wU wU (by assumption) wU wU ?_) | (with_reducible refine wpList_ldS (n := 4) (us := mC m ad cap) A_mach kR wU wU (by assumption) wU wU ?_))
 refine (rSame_same m aD ad cD cap _ (hS22.rd 1 rfl) (hR.below hS22.b) hsl).mono ?_
 rintro e w23 ⟨rfl, b23⟩
 have hS23 := hS22.mono b23
 have q23_d := (hS23.blk 0 rfl).1
 have q23_c := (hS23.blk 4 rfl).1
 have q23_u := (hS23.blk 7 rfl).1
 have q23_k := (hS23.blk 12 rfl).1
 have q23_i := (hS23.blk 15 rfl).1
 have q23_m := (hS23.blk 18 rfl).1
 clear hS22 q22_d q22_c q22_u q22_k q22_i q22_m
 go_wp2_with fail
 refine (amSame aH al cH cl _ l _ (hS23.rd 2 rfl) (hL.below hS23.b) rfl hll).mono ?_
 rintro e w24 ⟨rfl, b24⟩
 have hS24 := hS23.mono b24
 have q24_d := (hS24.blk 0 rfl).1
 have q24_c := (hS24.blk 4 rfl).1
 have q24_u := (hS24.blk 7 rfl).1
 have q24_k := (hS24.blk 12 rfl).1
 have q24_i := (hS24.blk 15 rfl).1
 have q24_m := (hS24.blk 18 rfl).1
 clear hS23 q23_d q23_c q23_u q23_k q23_i q23_m
 go_wp2_with (with_reducible refine wpList_ldS (n := 4) (us := mC m ad cap) A_mach kR wU wU (by assumption) wU wU ?_)
 refine (HW1.out _ (hR.below hS24.b) (hL.below hS24.b)).mono ?_
 rintro e w25 ⟨v25, rfl, ho25, b25⟩
 have hS25 := hS24.call (SL.ofOwn ho25 b25)
 simp only [List.cons_append, List.nil_append] at hS25
 have q25_d := (hS25.blk 1 rfl).1
 have q25_c := (hS25.blk 5 rfl).1
 have q25_u := (hS25.blk 8 rfl).1
 have q25_k := (hS25.blk 13 rfl).1
 have q25_i := (hS25.blk 16 rfl).1
 have q25_m := (hS25.blk 19 rfl).1
 clear hS24 q24_d q24_c q24_u q24_k q24_i q24_m
 clear ho25 b25
 obtain ⟨aW, cW, rfl, _⟩ := hS25.slice 0 rfl
 go_wp2_with (with_reducible refine wpList_ldS (n := 4) (us := mC (turnMac m) aI cI) A_mach kR wU wU (by assumption) wU wU ?_)
 refine (HW2.out aI aP cI cP _ (hS25.rd 17 rfl) (hS25.rd 18 rfl)).mono ?_
 rintro e w26 ⟨v26, rfl, ho26, b26⟩
 have hS26 := hS25.call (SL.ofOwn ho26 b26)
 simp only [List.cons_append, List.nil_append] at hS26
 have q26_d := (hS26.blk 2 rfl).1
 have q26_c := (hS26.blk 6 rfl).1
 have q26_u := (hS26.blk 9 rfl).1
 have q26_k := (hS26.blk 14 rfl).1
 have q26_i := (hS26.blk 17 rfl).1
 have q26_m := (hS26.blk 20 rfl).1
 clear hS25 q25_d q25_c q25_u q25_k q25_i q25_m
 clear ho26 b26
 obtain ⟨aV, cV, rfl, _⟩ := hS26.slice 0 rfl
 have hW := (hS26.rd 1 rfl)
 have hV := (hS26.rd 0 rfl)
 have hlw := hW.le
 have hb0 := hS26.b
 rw [HVL.out]
 obtain ⟨wz, hwz2⟩ : ∃ wz, wz = w26 := ⟨_, rfl⟩
 rw [← hwz2] at hW hV hb0 ⊢
 clear hS26 q26_d q26_c q26_u q26_k q26_i q26_m hwz2
 go_wp2_with fail
 go_loopw [202, 32] (fun iv _ wr => ∃ k : Nat, k ≤ WL.length ∧ iv = .int .i64 k ∧ Below wz.heap.size wz wr) (fun iv _ _ => WL.length - (intOf iv).toNat)
 case atStart => exact ⟨0, by omega, rfl, Below.refl _ _⟩
 case round =>
  obtain ⟨k, hk, rfl, hbr⟩ := hrel
  have hWr := hW.below hbr
  have hVr := hV.below hbr
  by_cases hlt : k < WL.length
  ·have hkv : k < VL.length := by rw [HVL.out]; exact hlt
   have hva := HVA.out k hlt
   have hx := HWS.out _ (atD_mem hlt)
   obtain ⟨x, hxe⟩ : ∃ x, x = atD 0 WL k := ⟨_, rfl⟩
   rw [← hxe] at hva hx
   have hwx : IntKind.i64.wrap (-x) = -x := IntWalk.i64_in _ (by omega)
   have HX := hid hxe; have HY := hid hva
   clear hxe hva hx
   go_wp2_with fail
   refine wp_region_q kR kR ?_
   repeat (first | (((with_reducible refine wpB_idx2 0 E_ints F_int cInt1 wU (HVL.out) wU (hVr) oD oD (fun _ => wU) (fun _ => ?_)); (try simp only [Act.put, pA, pB, pC]); (try simp only [cInt])); rw [HY.out]) | (((with_reducible refine wpB_idx2 0 E_ints F_int cInt1 wU (rfl) wU (hWr) oD oD (fun _ => wU) (fun _ => ?_)); (try simp only [Act.put, pA, pB, pC]); (try simp only [cInt])); rw [← HX.out]) |  ((with_reducible refine wpB_load (by first | exact F_int | exact F_u64s) wU wU (by assumption) wU ?_); (try simp only [Act.put, pA, pB, pC])) | ((refine wpQ_oneG ?_ wU (fun w' => ?_) ?_); rotate_left; (go_simp; rfl); (try simp only [Act.put, pA, pB, pC])))
   refine wpQuiet_nil ?_
   intro wy hby
   go_wp2_with fail
   exact ⟨⟨k + 1, by omega, by go_num, bnext hbr hby⟩, by simp [intOf]; omega⟩
  ·have hkk : k = WL.length := by omega
   subst hkk
   go_wp2_with fail
   go_ret
   exact ⟨rfl, bnext hb0 hbr⟩
end Go.Proofs.YtoebgfgihfjnnaaGreatDoor

namespace Go.Proofs.YtoebgfgihfjnnaaGreatDoor
open Go.RowKit
set_option maxHeartbeats 8000000
set_option maxRecDepth 100000
theorem mu_nofit (m : MacV) (ad al : Option Addr) (cap cl : Nat) (l : List Int) (n : Int) (w : World) (hR : Ints w ad cap m.sw) (hL : Ints w al cl l) (hI : InI m.gears) (hw : LibW w) (hf : ¬ Fits m l 6 6) :
  Calls Tryz.prog 9 #[mV m ad cap, .slice al l.length cl, .int .i64 n] w fun r w' => r = .returned (.bool true) ∧ Below w.heap.size w w' := by
 have hS0 := (SL.nil w).box (.cells (mC m ad cap) 24)
 have HA := hid awake4_any
 have hlc := hL.le
 have HF := hid (fun w h h2 => lfits_no m ad al cap cl l 6 6 w h h2 hf)
 clear hf
 go_enter Tryz.func9, Tryz.ntmps9
 go_wp2_with fail
 refine (HA.out _ (hw.below hS0.b)).mono ?_
 rintro e w1 ⟨rfl, b1⟩
 have hS1 := hS0.mono b1
 have q1_m := (hS1.blk 0 rfl).1
 clear hS0
 go_wp2_with (with_reducible refine wpList_ldS (n := 4) (us := mC m ad cap) A_mach kR wU wU (by assumption) wU wU ?_)
 refine (HF.out _ (hR.below hS1.b) (hL.below hS1.b)).mono ?_
 rintro e w2 ⟨rfl, b2⟩
 have hS2 := hS1.mono b2
 have q2_m := (hS2.blk 0 rfl).1
 clear hS1 q1_m
 go_wp2_with fail
 refine (HA.out _ (hw.below hS2.b)).mono ?_
 rintro e w3 ⟨rfl, b3⟩
 have hS3 := hS2.mono b3
 have q3_m := (hS3.blk 0 rfl).1
 clear hS2 q2_m
 go_wp2_with fail
 go_ret
 exact ⟨rfl, hS3.b⟩
theorem mu_out (m : MacV) (ad al : Option Addr) (cap cl : Nat) (l : List Int) (n : Int) (w : World) (hR : Ints w ad cap m.sw) (hL : Ints w al cl l) (hI : InI m.gears) (hw : LibW w) (hf : Fits m l 6 6) (hn : n < 0 ∨ 12 < n) :
  Calls Tryz.prog 9 #[mV m ad cap, .slice al l.length cl, .int .i64 n] w fun r w' => r = .returned (.bool true) ∧ Below w.heap.size w w' := by
 have hS0 := (SL.nil w).box (.cells (mC m ad cap) 24)
 have HA := hid awake4_any
 have hlc := hL.le
 have HF := hid (fun w h h2 => lfits_ok m ad al cap cl l 6 6 w h h2 hf)
 clear hf
 rcases hn with hn | hn
 ·have d0 : decide (n < 0) = true := decide_eq_true hn
  clear hn
  go_enter Tryz.func9, Tryz.ntmps9
  go_wp2_with fail
  refine (HA.out _ (hw.below hS0.b)).mono ?_
  rintro e w1 ⟨rfl, b1⟩
  have hS1 := hS0.mono b1
  have q1_m := (hS1.blk 0 rfl).1
  clear hS0
  go_wp2_with (with_reducible refine wpList_ldS (n := 4) (us := mC m ad cap) A_mach kR wU wU (by assumption) wU wU ?_)
  refine (HF.out _ (hR.below hS1.b) (hL.below hS1.b)).mono ?_
  rintro e w2 ⟨rfl, b2⟩
  have hS2 := hS1.mono b2
  have q2_m := (hS2.blk 0 rfl).1
  clear hS1 q1_m
  go_wp2_with fail
  refine (HA.out _ (hw.below hS2.b)).mono ?_
  rintro e w3 ⟨rfl, b3⟩
  have hS3 := hS2.mono b3
  have q3_m := (hS3.blk 0 rfl).1
  clear hS2 q2_m
  go_wp2_with fail
  go_ret
  exact ⟨rfl, hS3.b⟩
 ·have d0 : decide (n < 0) = false := decide_eq_false (by omega)
  have d1 : decide (12 < n) = true := decide_eq_true hn
  clear hn
  go_enter Tryz.func9, Tryz.ntmps9
  go_wp2_with fail
  refine (HA.out _ (hw.below hS0.b)).mono ?_
  rintro e w1 ⟨rfl, b1⟩
  have hS1 := hS0.mono b1
  have q1_m := (hS1.blk 0 rfl).1
  clear hS0
  go_wp2_with (with_reducible refine wpList_ldS (n := 4) (us := mC m ad cap) A_mach kR wU wU (by assumption) wU wU ?_)
  refine (HF.out _ (hR.below hS1.b) (hL.below hS1.b)).mono ?_
  rintro e w2 ⟨rfl, b2⟩
  have hS2 := hS1.mono b2
  have q2_m := (hS2.blk 0 rfl).1
  clear hS1 q1_m
  go_wp2_with fail
  refine (HA.out _ (hw.below hS2.b)).mono ?_
  rintro e w3 ⟨rfl, b3⟩
  have hS3 := hS2.mono b3
  have q3_m := (hS3.blk 0 rfl).1
  clear hS2 q2_m
  go_wp2_with fail
  go_ret
  exact ⟨rfl, hS3.b⟩
theorem MachineTurns_any (m : MacV) (ad al : Option Addr) (cap cl : Nat) (l : List Int) (n : Int) (w : World) (hR : Ints w ad cap m.sw) (hL : Ints w al cl l) (hI : InI m.gears) (hw : LibW w) :
  Calls Tryz.prog 9 #[mV m ad cap, .slice al l.length cl, .int .i64 n] w fun r w' => r = .returned (.bool true) ∧ Below w.heap.size w w' := by
 by_cases hf : Fits m l 6 6
 ·by_cases hn : n < 0 ∨ 12 < n
  ·exact mu_out m ad al cap cl l n w hR hL hI hw hf hn
  ·exact mu_main m ad al cap cl l n w hR hL hI hw hf (by omega) (by omega)
 ·exact mu_nofit m ad al cap cl l n w hR hL hI hw hf
end Go.Proofs.YtoebgfgihfjnnaaGreatDoor
