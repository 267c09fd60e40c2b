/- Contracts and plain facts that the claim uses (TuP RmP KnM MtP MbX QrT QrV WvP CiB OpC K11p QrM WoP ShP PtP KnQ). Conditions: as each one states. -/
import Derived.RangeFuncNested
import Derived.RangeFuncBound
import Derived.RangeFuncCalls
import Derived.RangeFuncLeaves
import Derived.RangeFuncFrom
import Derived.Shelf.Abstract
import Derived.Shelf.RegionOpen
import Derived.WalkKit
import Derived.OwnWalkIn
import Derived.TacticsInMore
import Derived.LoopNIn
import Derived.LoopIn
import Derived.Test.YtglpfpdomnllkaaGreatProg
import Derived.WalkSpells
import Derived.Maps.AppendAt
import Derived.Deep.Quiet
import Derived.Maps.Own
import Derived.Maps.OwnSet
import Derived.Maps.Views
import Derived.WalkLawsBesides
import Derived.Laws.EntriesVeiled
import Derived.Deep.QuietTactic
import Derived.BigQuiet
import Derived.Shelf.Strings.Trim
import Derived.Shelf.Strings.SlTrimAscii
import Derived.Shelf.Strings.Repeat
import Derived.Shelf.Strings.OnBuilder
import Derived.Shelf.Strconv.Itoa1
import Derived.Shelf.Strconv.Itoa3
import Derived.Shelf.LaysM
import Derived.Ground.Names2Prog
import Derived.Lib.OthersKept
import Derived.Deep.RegionHeld3
import Derived.Deep.AppendLies
import Derived.Deep.RegionHeldLaw
import Derived.Deep.RegionLaw
import Derived.StillTail
import Derived.Laws.Tables
import Derived.IntWalk
import Derived.Laws.CopyOwn
import Derived.BigRegion
import Derived.ChangeAlike
import Derived.Shelf.Bits.Mul64
import Derived.Lib.ItoaLen
import Derived.Lib.ItoaMem
import Derived.Sort.LoopGhostIn
import Derived.Maps.RangeWalk
import Derived.Maps.Ext
import Derived.Sort.QuietThIn
import Derived.Deep.LoopGhost
import Derived.ReadAgain
import Derived.ChangeSlices
import Derived.Lib.SmallJoins
import Derived.OpenShut
import Derived.ProofKit
import Derived.Deep.DeepHandedRow
import Derived.Deep.SlicePairs
import Derived.Lib.Split
import Derived.Lib.AtoiAll
import Derived.Lib.AppendIntMem
import Derived.LaidSub
import Derived.Lib.LaidTab
import Derived.Lib.AtoiErrMem
import Derived.Stop.LaidErr
import Derived.Test.YtglpfpdomnllkaaGreatXz01
import Derived.Test.YtglpfpdomnllkaaGreatXz02
import Derived.Test.YtglpfpdomnllkaaGreatXz03
import Derived.Test.YtglpfpdomnllkaaGreatXz04
import Derived.Test.YtglpfpdomnllkaaGreatXz05
import Derived.Test.YtglpfpdomnllkaaGreatXz06
import Derived.Test.YtglpfpdomnllkaaGreatXz07
import Derived.Test.YtglpfpdomnllkaaGreatXz08
import Derived.Test.YtglpfpdomnllkaaGreatXz09
import Derived.Test.YtglpfpdomnllkaaGreatXz10
import Derived.Test.YtglpfpdomnllkaaGreatXz11
import Derived.Test.YtglpfpdomnllkaaGreatXz12
import Derived.Test.YtglpfpdomnllkaaGreatY7601
set_option linter.all false

namespace Go.Proofs.YtglpfpdomnllkaaGreat
set_option maxRecDepth 100000
theorem loadGo_ok (m : MacV) : ∀ (l pre : List Int), (∀ x ∈ l, 0 ≤ x ∧ x < 4 * m.gears) → (pre ++ l).Nodup → loadGo m pre l = 0
 | [], pre, _, _ => rfl
 | s :: r, pre, h, hn => by
   have hs := h s (by simp)
   have h2 : s ∉ pre := fun hm => by
     have := (List.nodup_append.1 hn).2.2 s hm s (by simp)
     exact this rfl
   rw [loadGo, if_neg (by omega), if_neg h2]
   exact loadGo_ok m r (pre ++ [s]) (fun x hx => h x (List.mem_cons_of_mem _ hx)) (by simpa using hn)
theorem loadE_ok {m : MacV} {l : List Int} (hm : macE m = 0) (hr : ∀ x ∈ l, 0 ≤ x ∧ x < 4 * m.gears) (hn : l.Nodup) : loadE m l = 0 := by
 have hle : (l.length : Int) ≤ 4 * m.gears := by
  have hg := (macE_zero hm).1.lo
  have := nodup_le (4 * m.gears).toNat l hn (fun x hx => by have := hr x hx; omega)
  omega
 unfold loadE
 rw [if_neg (by simp [hm]), if_neg (by omega)]
 exact loadGo_ok m l [] hr (by simpa using hn)
theorem nodup_map {l : List Int} {f : Int → Int} (hn : l.Nodup) (h : ∀ x ∈ l, ∀ y ∈ l, f x = f y → x = y) : (l.map f).Nodup := by
 rw [List.nodup_iff_pairwise_ne, List.pairwise_map]
 exact (List.nodup_iff_pairwise_ne.1 hn).imp_of_mem fun {x y} hx hy hxy e => hxy (h x hx y hy e)
theorem atL_nodup {m : MacV} {l : List Int} (hr : ∀ x ∈ l, 0 ≤ x ∧ x < 4 * m.gears) (hn : l.Nodup) (k : Nat) : (atL m l k).Nodup :=
 nodup_map hn fun x hx y hy e => itM_inj (hr x hx).1 (hr x hx).2 (hr y hy).1 (hr y hy).2 k e
theorem atL_load {m : MacV} {l : List Int} (h : LoadOk m l) (k : Nat) : loadE m (atL m l k) = 0 := loadE_ok h.mac (atL_rng h.rng k) (atL_nodup h.rng h.nodup k)

theorem turn_swGo (m : MacV) : ∀ (l : List Int) (o : Option Int), swGo (turnMac m) o l = swGo m o l
 | [], o => by cases o <;> rfl
 | s :: r, o => by
   have hs : sharedM (turnMac m) s = sharedM m s := rfl
   cases o with
   | none => rw [swGo, swGo, hs, turn_swGo m r]
   | some b => rw [swGo, swGo, hs, turn_swGo m r]
theorem turn_macE (m : MacV) (h : m.turn = 1 ∨ m.turn = -1) : macE (turnMac m) = macE m := by
 unfold macE
 have e1 : (turnMac m).gears = m.gears := rfl
 have e2 : (turnMac m).ring = m.ring := rfl
 have e3 : (turnMac m).sw = m.sw := rfl
 have e4 : (turnMac m).turn = -m.turn := rfl
 rw [e1, e2, e3, e4, turn_swGo]
 have e5 : ((-m.turn ≠ 1 ∧ -m.turn ≠ -1)) ↔ (m.turn ≠ 1 ∧ m.turn ≠ -1) := by omega
 simp only [e5]
theorem turn_place (m : MacV) (s : Int) : placeM (turnMac m) s = placeM m s := rfl
theorem turn_over (m : MacV) (s : Int) : overM (turnMac m) s = overM m s := rfl
theorem turn_hit (m : MacV) (x y : Int) : hitM (turnMac m) x y = hitM m x y := rfl
theorem turn_fwd {m : MacV} (h : m.turn = 1 ∨ m.turn = -1) (g : Int) : fwdM (turnMac m) g = !fwdM m g := by
 unfold fwdM
 have e4 : (turnMac m).turn = -m.turn := rfl
 rw [e4]
 rcases h with h | h
 ·rw [h]; cases (g % 2 == 0) <;> rfl
 ·rw [h]; cases (g % 2 == 0) <;> rfl

theorem mir_mir (s : Int) : mirM (mirM s) = s := by
 unfold mirM
 by_cases h1 : s % 4 = 1
 ·rw [if_pos h1, if_neg (by omega), if_pos (by omega)]; omega
 ·rw [if_neg h1]
  by_cases h3 : s % 4 = 3
  ·rw [if_pos h3, if_pos (by omega)]; omega
  ·rw [if_neg h3, if_neg h1, if_neg h3]
theorem mir_spec (s : Int) : mirM s / 4 = s / 4 ∧ mirM s % 4 = (4 - s % 4) % 4 := by
 unfold mirM
 split
 ·omega
 ·split <;> omega
theorem mir_rng {m : MacV} {s : Int} (h0 : 0 ≤ s) (h1 : s < 4 * m.gears) : 0 ≤ mirM s ∧ mirM s < 4 * m.gears := by
 have := mir_spec s; omega
theorem mir_inj {s t : Int} (h : mirM s = mirM t) : s = t := by rw [← mir_mir s, h, mir_mir]
theorem mir_even {s : Int} (h : s % 2 = 0) : mirM s = s := by unfold mirM; rw [if_neg (by omega), if_neg (by omega)]
theorem place_odd {m : MacV} {s : Int} (h : ¬ s % 2 = 0) : placeM m s = -1 := by unfold placeM; rw [if_neg (by omega), if_neg (by omega)]
theorem mir_place (m : MacV) (s : Int) : placeM m (mirM s) = placeM m s := by
 by_cases h : s % 2 = 0
 ·rw [mir_even h]
 ·rw [place_odd h, place_odd (by have := mir_spec s; omega)]
theorem mir_hit (m : MacV) (x y : Int) : hitM m (mirM x) (mirM y) = hitM m x y := by unfold hitM; rw [mir_place, mir_place]
theorem over_odd {m : MacV} {s : Int} (h : ¬ s % 2 = 0) : overM m s = s := by
 unfold overM goesM
 rw [place_odd h]; rfl
theorem mir_over (m : MacV) (s : Int) (h0 : 0 ≤ s) (h1 : s < 4 * m.gears) : overM m (mirM s) = mirM (overM m s) := by
 by_cases h : s % 2 = 0
 ·rw [mir_even h]
  rcases over_cases h0 h1 with ⟨_, e⟩ | ⟨_, _, _, _, _, e⟩
  ·rw [e, mir_even h]
  ·rw [mir_even]; rw [e]; omega
 ·rw [over_odd h, over_odd (by have := mir_spec s; omega)]
theorem mir_rot {m : MacV} (h : m.turn = 1 ∨ m.turn = -1) (s : Int) : rotM (turnMac m) (mirM s) = mirM (rotM m s) := by
 obtain ⟨a, b⟩ := mir_spec s
 have c : rotM (turnMac m) (mirM s) = 4 * (s / 4) + ((4 - s % 4) % 4 + (if fwdM m (s / 4) then 3 else 1)) % 4 := by
  unfold rotM
  rw [a, b, turn_fwd h]
  cases fwdM m (s / 4) <;> rfl
 obtain ⟨d, e⟩ := mir_spec (rotM m s)
 have f : rotM m s / 4 = s / 4 ∧ rotM m s % 4 = (s % 4 + (if fwdM m (s / 4) then 1 else 3)) % 4 := by
  unfold rotM; split <;> omega
 have g : mirM (rotM m s) = 4 * (mirM (rotM m s) / 4) + mirM (rotM m s) % 4 := by omega
 rw [c, g, d, e, f.1, f.2]
 cases fwdM m (s / 4) <;> simp <;> omega
theorem mir_next {m : MacV} (h : m.turn = 1 ∨ m.turn = -1) {s : Int} (h0 : 0 ≤ s) (h1 : s < 4 * m.gears) : nextM (turnMac m) (mirM s) = mirM (nextM m s) := by
 unfold nextM
 rw [mir_rot h, turn_over]
 have := rot_rng (m := m) h0 h1
 exact mir_over m _ this.1 this.2.1
theorem mir_it {m : MacV} (h : m.turn = 1 ∨ m.turn = -1) {s : Int} (h0 : 0 ≤ s) (h1 : s < 4 * m.gears) : ∀ n, itM (turnMac m) (mirM s) n = mirM (itM m s n)
 | 0 => rfl
 | n + 1 => by
   have a := mir_rng (m := m) h0 h1
   have b := itM_rng (m := m) h0 h1 n
   rw [itM_succ (m := turnMac m) a.1 a.2, mir_it h h0 h1 n, itM_succ h0 h1, mir_next h b.1 b.2]
theorem mir_atL {m : MacV} (h : m.turn = 1 ∨ m.turn = -1) {l : List Int} (hl : ∀ x ∈ l, 0 ≤ x ∧ x < 4 * m.gears) (n : Nat) : atL (turnMac m) (l.map mirM) n = (atL m l n).map mirM := by
 unfold atL
 rw [List.map_map, List.map_map]
 exact List.map_congr_left fun x hx => mir_it h (hl x hx).1 (hl x hx).2 n
theorem mir_load {m : MacV} {l : List Int} (h : LoadOk m l) : loadE (turnMac m) (l.map mirM) = 0 := by
 refine loadE_ok (by rw [turn_macE m h.ok.turn]; exact h.mac) (fun x hx => ?_) (nodup_map h.nodup fun x _ y _ e => mir_inj e)
 obtain ⟨y, hy, rfl⟩ := List.mem_map.1 hx
 exact mir_rng (h.rng y hy).1 (h.rng y hy).2
theorem mir_meet {m : MacV} (h : m.turn = 1 ∨ m.turn = -1) {a b : Int} (a0 : 0 ≤ a) (a1 : a < 4 * m.gears) (b0 : 0 ≤ b) (b1 : b < 4 * m.gears) : meetM (turnMac m) (mirM a) (mirM b) = meetM m a b := by
 have hs := meetM_spec m a b
 refine (meetM_spec _ _ _).eq ?_
 have key : ∀ k, hitM (turnMac m) (itM (turnMac m) (mirM a) k) (itM (turnMac m) (mirM b) k) = hitM m (itM m a k) (itM m b k) := fun k => by
  rw [mir_it h a0 a1, mir_it h b0 b1, turn_hit, mir_hit]
 cases hm : meetM m a b with
 | none => rw [hm] at hs; intro k; rw [key]; exact hs k
 | some v =>
  obtain ⟨n, p⟩ := v
  rw [hm] at hs
  obtain ⟨s1, s2, s3⟩ := hs
  refine ⟨by rw [key]; exact s1, ?_, fun k hk => by rw [key]; exact s3 k hk⟩
  rw [mir_it h a0 a1, turn_place, mir_place]
  exact s2
theorem atD_map2 {l : List Int} {f : Int → Int} {i : Nat} (h : i < l.length) : atD 0 (l.map f) i = f (atD 0 l i) := by simp [atD, h]
theorem pairsTo_map2 {l : List Int} {f : Int → Int} : ∀ {i : Nat}, i ≤ l.length → pairsTo (l.map f) i = (pairsTo l i).map fun p => (f p.1, f p.2)
 | 0, _ => rfl
 | i + 1, h => by
   rw [pairsTo_succ, pairsTo_succ, pairsTo_map2 (by omega), List.map_append, ← List.map_take, List.map_map, List.map_map, atD_map2 (by omega)]
   rfl
theorem firstTo_congr {m m' : MacV} : ∀ (ps : List (Int × Int)) (f : Int → Int) (b : Option (Nat × Int)), (∀ p ∈ ps, meetM m' (f p.1) (f p.2) = meetM m p.1 p.2) →
  (ps.map fun p => (f p.1, f p.2)).foldl (fun b p => bestS b (meetM m' p.1 p.2)) b = ps.foldl (fun b p => bestS b (meetM m p.1 p.2)) b
 | [], _, _, _ => rfl
 | p :: ps, f, b, h => by
   rw [List.map_cons, List.foldl_cons, List.foldl_cons]
   dsimp only
   rw [h p (by simp)]
   exact firstTo_congr ps f _ fun q hq => h q (List.mem_cons_of_mem _ hq)
theorem pair_rng {l : List Int} {N : Int} (hl : ∀ x ∈ l, 0 ≤ x ∧ x < N) {p : Int × Int} (hp : p ∈ pairsTo l l.length) : (0 ≤ p.1 ∧ p.1 < N) ∧ (0 ≤ p.2 ∧ p.2 < N) := by
 obtain ⟨i, j, hji, hi, rfl⟩ := (pairsTo_mem (Nat.le_refl _)).1 hp
 have e1 : atD 0 l (i : Int) = l[i] := by simp [atD, hi]
 have hj : j < l.length := by omega
 have e2 : atD 0 l (j : Int) = l[j] := by simp [atD, hj]
 rw [e1, e2]
 exact ⟨hl _ (List.getElem_mem hi), hl _ (List.getElem_mem hj)⟩
theorem mir_first {m : MacV} (h : m.turn = 1 ∨ m.turn = -1) {l : List Int} (hl : ∀ x ∈ l, 0 ≤ x ∧ x < 4 * m.gears) : firstM (turnMac m) (l.map mirM) = firstM m l := by
 unfold firstM firstTo
 rw [List.length_map, pairsTo_map2 (Nat.le_refl _)]
 refine firstTo_congr _ mirM none fun p hp => ?_
 obtain ⟨a, b⟩ := pair_rng hl hp
 exact mir_meet h a.1 a.2 b.1 b.2
theorem mir_meets {m : MacV} (h : m.turn = 1 ∨ m.turn = -1) {l : List Int} (hl : ∀ x ∈ l, 0 ≤ x ∧ x < 4 * m.gears) (n : Int) : meetsM (turnMac m) (l.map mirM) n = meetsM m l n := by
 unfold meetsM; rw [mir_first h hl]
theorem mir_weaveE {m : MacV} {l : List Int} (h : LoadOk m l) (hz : loadE m l = 0) (n : Int) : weaveE (turnMac m) (l.map mirM) n = weaveE m l n := by
 unfold weaveE
 rw [mir_load h, hz, List.length_map, mir_meets h.ok.turn h.rng]
 rfl

theorem mir_slot {m : MacV} (h : m.turn = 1 ∨ m.turn = -1) (g : Int) (i : Nat) : slotG (turnMac m) g i = mirM (slotG m g i) := by
 have e0 : mirM (4 * g) = 4 * g := mir_even (by omega)
 have e1 : mirM (4 * g + 1) = 4 * g + 3 := by unfold mirM; rw [if_pos (by omega)]; omega
 have e2 : mirM (4 * g + 2) = 4 * g + 2 := mir_even (by omega)
 have e3 : mirM (4 * g + 3) = 4 * g + 1 := by unfold mirM; rw [if_neg (by omega), if_pos (by omega)]; omega
 unfold slotG
 rw [turn_fwd h]
 split
 ·exact e0.symm
 ·cases fwdM m g
  ·exact e3.symm
  ·exact e1.symm
 ·cases fwdM m g
  ·exact e1.symm
  ·exact e3.symm
 ·exact e2.symm
theorem mir_idx (l : List Int) (s : Int) : idxO (l.map mirM) (mirM s) = idxO l s :=
 idxO_map fun x _ => ⟨fun e => mir_inj e, fun e => by rw [e]⟩
theorem mir_opG {m : MacV} (h : m.turn = 1 ∨ m.turn = -1) (l : List Int) (g : Int) (i : Nat) : opG (turnMac m) (l.map mirM) g i = opG m l g i := by
 unfold opG; rw [mir_slot h, mir_idx]
theorem mir_order {m : MacV} (h : m.turn = 1 ∨ m.turn = -1) (l : List Int) : orderM (turnMac m) (l.map mirM) = orderM m l := by
 unfold orderM
 have e : gearsL (turnMac m) = gearsL m := rfl
 rw [e]
 congr 1
 funext g
 rw [orderG_eq, orderG_eq, mir_opG h, mir_opG h, mir_opG h, mir_opG h]
/-- a crossing with its strands changed. -/
def flipC (c : CrM) : CrM := ⟨c.gear, c.under, c.over, c.going⟩
theorem mir_mkX {m : MacV} (h : m.turn = 1 ∨ m.turn = -1) (g a b : Int) : mkX (turnMac m) g a b = flipC (mkX m g a b) := by
 unfold mkX flipC
 rw [turn_fwd h]
 cases fwdM m g <;> rfl
theorem mir_both {f f' : Int → Int → CrM} (h : ∀ a b, f' a b = flipC (f a b)) (x y : Option Int) : bothX f' x y = (bothX f x y).map flipC := by
 cases x <;> cases y <;> simp [bothX, h]
theorem mir_cross {m : MacV} (h : m.turn = 1 ∨ m.turn = -1) (l : List Int) : crossM (turnMac m) (l.map mirM) = (crossM m l).map flipC := by
 unfold crossM
 have e : gearsL (turnMac m) = gearsL m := rfl
 rw [e, List.map_flatMap]
 congr 1
 funext g
 rw [crossG_eq, crossG_eq, crossA_eq, crossA_eq, crossA_eq, crossA_eq, crossA_eq, crossA_eq, mir_opG h, mir_opG h, mir_opG h, mir_opG h]
 have k := fun x y => mir_both (mir_mkX h g) x y
 rw [k, k, k]
 simp only [List.map_append, Option.toList_map]
def negL (l : List Int) : List Int := l.map fun x => -x
def okC (c : CrM) : Prop := (c.over = c.going ∧ c.under ≠ c.going) ∨ (c.under = c.going ∧ c.over ≠ c.going)
theorem flip_letter {r : List Int} {c : CrM} (h : okC c) : letterC r (flipC c) = -letterC r c := by
 unfold letterC flipC
 dsimp only
 rcases h with ⟨a, b⟩ | ⟨a, b⟩
 ·rw [if_pos a, if_neg b]; omega
 ·rw [if_neg b, if_pos a]; omega
theorem flip_fold : ∀ (cs : List CrM) (r o : List Int), (∀ c ∈ cs, okC c) → (cs.map flipC).foldl weaveC (r, negL o) = ((cs.foldl weaveC (r, o)).1, negL (cs.foldl weaveC (r, o)).2)
 | [], r, o, _ => rfl
 | c :: cs, r, o, h => by
   rw [List.map_cons, List.foldl_cons, List.foldl_cons]
   have e : weaveC (r, negL o) (flipC c) = ((weaveC (r, o) c).1, negL (weaveC (r, o) c).2) := by
     unfold weaveC negL
     dsimp only
     rw [flip_letter (h c (by simp)), List.map_append]
     rfl
   rw [e]
   exact flip_fold cs _ _ fun x hx => h x (List.mem_cons_of_mem _ hx)
theorem bothX_mem {f : Int → Int → CrM} {x y : Option Int} {c : CrM} (h : c ∈ (bothX f x y).toList) : ∃ a b, x = some a ∧ y = some b ∧ c = f a b := by
 cases x with
 | none => simp [bothX] at h
 | some a =>
  cases y with
  | none => simp [bothX] at h
  | some b => simp [bothX] at h; exact ⟨a, b, rfl, rfl, h⟩
theorem crossM_mem {m : MacV} {l : List Int} {c : CrM} (h : c ∈ crossM m l) : ∃ (g a b : Int) (i j : Nat), 0 ≤ g ∧ g < m.gears ∧ i < 4 ∧ j < 4 ∧ i ≠ j ∧ opG m l g i = some a ∧ opG m l g j = some b ∧ c = mkX m g a b ∧ a ≠ b := by
 unfold crossM at h
 obtain ⟨g, hg, h⟩ := List.mem_flatMap.1 h
 have hgr := gearsL_mem.1 hg
 rw [crossG_eq, crossA_eq, crossA_eq, crossA_eq] at h
 have fin : ∀ i j : Nat, i < 4 → j < 4 → i ≠ j → c ∈ (bothX (mkX m g) (opG m l g i) (opG m l g j)).toList → ∃ (g a b : Int) (i j : Nat), 0 ≤ g ∧ g < m.gears ∧ i < 4 ∧ j < 4 ∧ i ≠ j ∧ opG m l g i = some a ∧ opG m l g j = some b ∧ c = mkX m g a b ∧ a ≠ b := by
  intro i j hi hj hij hc
  obtain ⟨a, b, ha, hb, e⟩ := bothX_mem hc
  refine ⟨g, a, b, i, j, hgr.1, hgr.2, hi, hj, hij, ha, hb, e, fun eab => ?_⟩
  subst eab
  exact hij (slotG_inj hi hj (idxO_inj ha hb))
 rcases List.mem_append.1 h with h | h
 ·exact fin 1 2 (by decide) (by decide) (by decide) h
 ·rcases List.mem_append.1 h with h | h
  ·exact fin 0 2 (by decide) (by decide) (by decide) h
  ·exact fin 1 3 (by decide) (by decide) (by decide) h
theorem crossM_ok (m : MacV) (l : List Int) : ∀ c ∈ crossM m l, okC c := by
 intro c hc
 obtain ⟨g, a, b, i, j, _, _, _, _, _, _, _, e, hab⟩ := crossM_mem hc
 subst e
 unfold mkX okC
 split
 ·exact .inr ⟨rfl, fun e => hab e.symm⟩
 ·exact .inl ⟨rfl, fun e => hab e.symm⟩
theorem mir_wv {m : MacV} (h : m.turn = 1 ∨ m.turn = -1) {l : List Int} (hl : ∀ x ∈ l, 0 ≤ x ∧ x < 4 * m.gears) : ∀ k : Nat, wvM (turnMac m) (l.map mirM) k = ((wvM m l k).1, negL (wvM m l k).2)
 | 0 => by
   show (orderM (turnMac m) (l.map mirM), []) = _
   rw [mir_order h]; rfl
 | k + 1 => by
   rw [wvM, wvM, mir_wv h hl k, mir_atL h hl k]
   unfold weaveS
   rw [mir_cross h]
   exact flip_fold _ _ _ (crossM_ok m _)
theorem mir_wrdL {m : MacV} (h : m.turn = 1 ∨ m.turn = -1) {l : List Int} (hl : ∀ x ∈ l, 0 ≤ x ∧ x < 4 * m.gears) (n : Int) : wrdL (turnMac m) (l.map mirM) n = negL (wrdL m l n) := by
 unfold wrdL; rw [mir_wv h hl]
theorem mir_wrdE {m : MacV} {l : List Int} (h : LoadOk m l) (hz : loadE m l = 0) (n : Int) : wrdE (turnMac m) (l.map mirM) n = wrdE m l n := by
 unfold wrdE
 rw [mir_weaveE h hz, mir_wrdL h.ok.turn h.rng]
 unfold negL
 rw [List.length_map]

end Go.Proofs.YtglpfpdomnllkaaGreat

namespace Go.Proofs.YtglpfpdomnllkaaGreat
set_option maxRecDepth 100000
theorem at_memI {l : List Int} {i : Nat} (h : i < l.length) : atD 0 l i ∈ l := by
 have e : atD 0 l (i : Int) = l[i] := by simp [atD, h]
 rw [e]; exact List.getElem_mem h
end Go.Proofs.YtglpfpdomnllkaaGreat

namespace Go.Proofs.YtglpfpdomnllkaaGreat
open Go.RowKit
set_option maxHeartbeats 4000000
set_option maxRecDepth 100000

theorem rInverse_any (a : Option Addr) (cap : Nat) (p : List Int) (w : World) (hS : Ints w a cap p) (h3 : p.length ≤ 100000) (hf : ∀ x ∈ p, 0 ≤ x ∧ x < p.length) :
  Calls Tryz.prog 29 #[.slice a p.length cap] w fun r w' => ∃ v, r = .returned v ∧ OwnI w.heap.size w' v (invL p) ∧ Below w.heap.size w w' := by
 have hcap := hS.le
 have hm0 := hS.max
 have HF := hid hf; clear hf
 have hS0 := SL.nil w
 go_enter Tryz.func29, Tryz.ntmps29
 go_wp2_with ((with_reducible refine wpList_makeL (c := cInt) (p.length) (0) E_ints cInt1 wU wU (by omega) (by omega) (hS0) ?_); intro ad w1 hS1)
 go_loopw [4] (fun i wr => ∃ (j : Nat), j ≤ p.length ∧ i = .int .i64 j ∧ SL w.heap.size w wr [pOwn cInt 1 3 (.slice ad p.length p.length) (invK p j)]) (fun i _ => p.length - (intOf i).toNat)
 case atStart => exact ⟨0, by omega, rfl, hS1⟩
 case round =>
  obtain ⟨j, hj, rfl, hSL⟩ := hrel
  have hSr := hS.below hSL.b
  have hs := invK_succ p j
  have hl1 := invK_len p j
  obtain ⟨q, hq⟩ : ∃ q, q = invK p j := ⟨_, rfl⟩
  have HQ := hid hq
  rw [← hq] at hSL hs hl1
  clear hq
  by_cases hlt : j < p.length
  ·have hx := HF.out (atD 0 p j) (by simp [atD, hlt])
   have hxl : atD 0 p j < q.length := by rw [hl1]; exact hx.2
   have HS := hid hs; clear hs
   go_wp2_with (first | (with_reducible refine wpList_idx _ 0 E_ints F_int cInt1 wU wU (hSr) oD oD (fun _ => wU) (fun _ => ?_)) | ((with_reducible refine wpList_storeL (u := (j : Int)) 0 E_ints cInt1 (sto_int) wU wU (hSL) wU (by first | omega | (simp; done) | (simp; omega)) (by first | omega | (simp; done) | (simp; omega)) (fun _ => wU) (fun _ => wU) ?_); intro _ w3 hS3))
   exact ⟨⟨j + 1, by omega, by go_num, by rw [HS.out]; exact hS3⟩, by simp [intOf]; omega⟩
  ·have : j = p.length := by omega
   subst this
   clear hl1 hs
   go_wp2_with fail
   go_ret
   refine ⟨_, rfl, ?_, hSL.b⟩
   have := hSL.own 0 rfl
   rw [HQ.out] at this
   exact this

end Go.Proofs.YtglpfpdomnllkaaGreat

namespace Go.Proofs.YtglpfpdomnllkaaGreat
open Go.RowKit
set_option maxHeartbeats 4000000
set_option maxRecDepth 100000

end Go.Proofs.YtglpfpdomnllkaaGreat

namespace Go.Proofs.YtglpfpdomnllkaaGreat
set_option maxRecDepth 100000
theorem first_is {m : MacV} {l : List Int} {v : Nat × Int} (h : firstM m l = some v) : ∃ p ∈ pairsTo l l.length, meetM m p.1 p.2 = some v := by
 obtain ⟨_, s2⟩ := foldF_spec m (pairsTo l l.length) none
 obtain ⟨_, _, k3⟩ := s2 _ h
 rcases k3 with k3 | k3
 ·cases k3
 ·exact k3
theorem itM_add (m : MacV) (s : Int) (a b : Nat) : itM m (itM m s b) a = itM m s (a + b) := by unfold itM; rw [itP_add]
theorem atL_add (m : MacV) (l : List Int) (a b : Nat) : atL m (atL m l b) a = atL m l (a + b) := by
 unfold atL
 rw [List.map_map]
 exact List.map_congr_left fun x _ => itM_add m x a b
end Go.Proofs.YtglpfpdomnllkaaGreat

namespace Go.Proofs.YtglpfpdomnllkaaGreat
open Go.RowKit
set_option maxHeartbeats 8000000
set_option maxRecDepth 100000

/-- mapped with a function of the program, of which the places are given. -/
theorem mappedZ_any (p1 p2 : Value) (g : Int → Int) (al : Option Addr) (cl : Nat) (l : List Int) (w : World) (hL : Ints w al cl l) (hn : l.length ≤ 1048576)
  (HF : ∀ x ∈ l, ∀ w', Below w.heap.size w w' → Calls Tryz.prog 65 #[.int .i64 x, p1, p2] w' fun r w'' => r = .returned (.int .i64 (g x)) ∧ Below w'.heap.size w' w'') :
  Calls Tryz.prog 53 #[.slice al l.length cl, .func (.func 65) #[] #[p1, p2]] w fun r w' => ∃ v, r = .returned v ∧ OwnI w.heap.size w' v (l.map g) ∧ Below w.heap.size w w' := by
 have hcap := hL.le
 have hmx := hL.max
 have H := hid HF
 clear HF
 have hS := (SL.nil w).nilS (α := Int) (e := 3) cIntS
 go_enter Tryz.func53, Tryz.ntmps53
 go_wp2_with fail
 go_loopw [5, 10] (fun v i wr => ∃ k : Nat, k ≤ l.length ∧ i = .int .i64 k ∧ SL w.heap.size w wr [pOwn cInt 1 3 v ((l.take k).map g)]) (fun _ i _ => l.length - (intOf i).toNat)
 case atStart => exact ⟨0, by omega, rfl, hS⟩
 case round =>
  clear hS
  obtain ⟨k, hk, rfl, hSr⟩ := hrel
  have hLr := hL.below hSr.b
  by_cases hlt : k < l.length
  ·have hmem := atD_mem hlt
   have ht := take_snoc hlt
   have hlen : ((l.take k).map g).length ≤ 1048576 := by simp; omega
   obtain ⟨x, hx⟩ : ∃ x, x = atD 0 l k := ⟨_, rfl⟩
   rw [← hx] at hmem ht
   have HX := hid hx; have HT := hid ht
   clear hx ht
   go_wp2_with ((with_reducible refine wpList_idx _ 0 E_ints F_int cInt1 wU wU (hLr) oD oD (fun _ => wU) (fun _ => ?_)); rw [← HX.out])
   refine (H.out x hmem _ hSr.b).mono ?_
   rintro e w1 ⟨rfl, b1⟩
   have hS1 := hSr.mono b1
   go_wp2_with ((with_reducible refine wpList_pushL (y := (g x)) 0 E_ints wU wU (hS1) wU cIntO ⟨rfl, rfl⟩ (by first | with_unfolding_all rfl | simp) wU (by first | omega | (simp; omega)) (by first | omega | (simp; omega)) ?_); intro v2 w2 hS2)
   exact ⟨⟨k + 1, by omega, by go_num, by rw [HT.out, List.map_append]; exact hS2⟩, by simp [intOf]; omega⟩
  ·have hkk : k = l.length := by omega
   subst hkk
   rw [List.take_length] at hSr
   go_wp2_with fail
   go_ret
   exact ⟨_, rfl, hSr.own 0 rfl, hSr.b⟩

/-- mapped with a function of the program, of which the places are given. -/
theorem mappedY_any (p1 : Value) (g : Int → Int) (al : Option Addr) (cl : Nat) (l : List Int) (w : World) (hL : Ints w al cl l) (hn : l.length ≤ 1048576)
  (HF : ∀ x ∈ l, ∀ w', Below w.heap.size w w' → Calls Tryz.prog 67 #[.int .i64 x, p1] w' fun r w'' => r = .returned (.int .i64 (g x)) ∧ Below w'.heap.size w' w'') :
  Calls Tryz.prog 53 #[.slice al l.length cl, .func (.func 67) #[] #[p1]] w fun r w' => ∃ v, r = .returned v ∧ OwnI w.heap.size w' v (l.map g) ∧ Below w.heap.size w w' := by
 have hcap := hL.le
 have hmx := hL.max
 have H := hid HF
 clear HF
 have hS := (SL.nil w).nilS (α := Int) (e := 3) cIntS
 go_enter Tryz.func53, Tryz.ntmps53
 go_wp2_with fail
 go_loopw [5, 10] (fun v i wr => ∃ k : Nat, k ≤ l.length ∧ i = .int .i64 k ∧ SL w.heap.size w wr [pOwn cInt 1 3 v ((l.take k).map g)]) (fun _ i _ => l.length - (intOf i).toNat)
 case atStart => exact ⟨0, by omega, rfl, hS⟩
 case round =>
  clear hS
  obtain ⟨k, hk, rfl, hSr⟩ := hrel
  have hLr := hL.below hSr.b
  by_cases hlt : k < l.length
  ·have hmem := atD_mem hlt
   have ht := take_snoc hlt
   have hlen : ((l.take k).map g).length ≤ 1048576 := by simp; omega
   obtain ⟨x, hx⟩ : ∃ x, x = atD 0 l k := ⟨_, rfl⟩
   rw [← hx] at hmem ht
   have HX := hid hx; have HT := hid ht
   clear hx ht
   go_wp2_with ((with_reducible refine wpList_idx _ 0 E_ints F_int cInt1 wU wU (hLr) oD oD (fun _ => wU) (fun _ => ?_)); rw [← HX.out])
   refine (H.out x hmem _ hSr.b).mono ?_
   rintro e w1 ⟨rfl, b1⟩
   have hS1 := hSr.mono b1
   go_wp2_with ((with_reducible refine wpList_pushL (y := (g x)) 0 E_ints wU wU (hS1) wU cIntO ⟨rfl, rfl⟩ (by first | with_unfolding_all rfl | simp) wU (by first | omega | (simp; omega)) (by first | omega | (simp; omega)) ?_); intro v2 w2 hS2)
   exact ⟨⟨k + 1, by omega, by go_num, by rw [HT.out, List.map_append]; exact hS2⟩, by simp [intOf]; omega⟩
  ·have hkk : k = l.length := by omega
   subst hkk
   rw [List.take_length] at hSr
   go_wp2_with fail
   go_ret
   exact ⟨_, rfl, hSr.own 0 rfl, hSr.b⟩

theorem strands1_any (m : MacV) (ad : Option Addr) (cap : Nat) (bm bn : Nat) (s n : Int) (w : World) (hm : w.heap[bm]? = some (.cells (mC m ad cap) 24)) (hn : w.heap[bn]? = some (.cells #[.int .i64 n] 3)) (hR : Ints w ad cap m.sw) (hg : m.gears ≤ 16) (h0 : 0 ≤ s) (h1 : s < 4 * m.gears) (n0 : 0 ≤ n) (n1 : n ≤ 9223372036854775807) :
  Calls Tryz.prog 65 #[.int .i64 s, .pointer (some ⟨bm, 0, none⟩), .pointer (some ⟨bn, 0, none⟩)] w fun r w' => r = .returned (.int .i64 (itM m s n.toNat)) ∧ Below w.heap.size w w' := by
 have CA := fun w h => after_any m ad cap s n w h hg h0 h1 n0 n1
 have HA := hid CA
 clear CA
 go_enter Tryz.func65, Tryz.ntmps65
 go_wp2_with (first | (with_reducible refine wpList_ldS (n := 4) (us := mC m ad cap) A_mach kR wU wU (by assumption) wU wU ?_) | (with_reducible refine wpList_ldB F_int wU wU hn wU ?_))
 refine (HA.out _ hR).mono ?_
 rintro e w1 ⟨rfl, b1⟩
 go_wp2_with fail
 go_ret
 exact ⟨rfl, b1⟩
theorem strands2_any (a : Option Addr) (cap : Nat) (L : List Int) (b : Nat) (x : Int) (w : World) (hb : w.heap[b]? = some (.cells #[.slice a L.length cap] 22)) (hL : Ints w a cap L) :
  Calls Tryz.prog 67 #[.int .i64 x, .pointer (some ⟨b, 0, none⟩)] w fun r w' => r = .returned (.int .i64 ((idxO L x).getD (-1))) ∧ Below w.heap.size w w' := by
 have CI := fun w h => sIndexO_any a cap L x w h
 have HI := hid CI
 clear CI
 go_enter Tryz.func67, Tryz.ntmps67
 go_wp2_with (with_reducible refine wpList_ldB F_sliceM wU wU hb wU ?_)
 refine (HI.out _ hL).mono ?_
 rintro e w' ⟨rfl, rfl⟩
 go_wp2_with fail
 go_ret
 exact ⟨rfl, Below.refl _ _⟩

noncomputable def strandsL (m : MacV) (l : List Int) (n : Int) : List Int := (orderM m l).map fun c => (idxO (orderM m (atL m l n.toNat)) c).getD (-1)
section
variable {ops : Array Oper} {rest : List Oper} {a : Act} {Q : Exit → Act → World → Prop} {w0 w : World} {L : List Pc} {B : Nat} {ty : TypeId} {p : String} {af : Array Edge}
theorem wpList_sto1 {x y : Operand} {k : Nat} {u v : Value} {T : TypeId} (i : Nat) (hx : a.eval x = .pointer (some ⟨k, 0, none⟩)) (hy : a.eval y = v) (hS : SL B w0 w L) (hi : L[i]? = some (pBlk k (.cells #[u] T (0, 0))))
  (hK : ∀ w', SL B w0 w' (L.set i (pBlk k (.cells #[v] T (0, 0)))) → wpList Tryz.prog ops Q rest (a.put none undef) w') (hv : ∃ a n c, v = .slice a n c := by exact ⟨_, _, _, rfl⟩) :
  wpList Tryz.prog ops Q (⟨none, .store 22 x y, ty, p, af, none⟩ :: rest) a w := by
 obtain ⟨a0, n0, c0, rfl⟩ := hv
 have h1 := hS.cell i hi 0 rfl
 have h2 := hS.frozen i hi 0
 have h3 := hS.set i hi 0 (.slice a0 n0 c0)
 refine wpList_plain rfl fun K hK' => ?_
 have hs : (Instr.storeAt 22 (.pointer (some ⟨k, 0, none⟩)) (.slice a0 n0 c0)).run Tryz.prog w = .ok () (w.setCell ⟨k, 0, none⟩ (.slice a0 n0 c0)) := by
  simp [go_sem, h1, h2]
 unfold Oper.wp
 simp only [execOp, hx, hy]
 simp [hs, Result.andThen]
 exact hK' _ _ (hK _ h3)
end

theorem mStrands_any (m : MacV) (ad : Option Addr) (cap : Nat) (al : Option Addr) (cl : Nat) (l : List Int) (n : Int) (w : World) (hR : Ints w ad cap m.sw) (hL : Ints w al cl l) (HK : ChkL m ad cap al cl l) :
  Calls Tryz.prog 23 #[mV m ad cap, .slice al l.length cl, .int .i64 n] w fun r w' => ∃ v, r = .returned (.tuple #[v, .int .i64 (weaveE m l n)]) ∧ OwnI w.heap.size w' v (if weaveE m l n = 0 then strandsL m l n else []) ∧ Below w.heap.size w w' := by
 have hcap := hL.le
 have hmx := hL.max
 have hS := ((SL.nil w).box (.cells (mC m ad cap) 24)).box (.cells #[.int .i64 n] 3)
 simp only [World.size_alloc] at hS
 have q1 := (hS.blk 1 rfl).1
 have R1 := hR.below hS.b
 have L1 := hL.below hS.b
 have CW := checkWeave_any m ad cap al cl l n _ R1 L1 HK
 by_cases he : weaveE m l n = 0
 ·obtain ⟨hok, hr, hl12, hn0, hn1, hme⟩ := weaveE_zero he
  have hlo := hok.ok.lo
  have hhi := hok.ok.hi
  have hrng := hok.rng
  rw [if_pos he]
  rw [he] at CW ⊢
  have CO := fun w h => order_any m ad cap al cl l w h (by omega) hhi
  have CO2 := fun a c w (h : Ints w a c (atL m l n.toNat)) => order_any m ad cap a c (atL m l n.toNat) w h (by omega) hhi
  have hol := orderM_len m l
  have hol2 : (orderM m l).length ≤ 1048576 := by omega
  have hat : l.map (fun s => itM m s n.toNat) = atL m l n.toNat := rfl
  have hstr : strandsL m l n = (orderM m l).map fun c => (idxO (orderM m (atL m l n.toNat)) c).getD (-1) := rfl
  rw [hstr]
  have HC := hid CW; have HO := hid CO; have HO2 := hid CO2; have HRNG := hid hrng; have HAT := hid hat
  obtain ⟨O2, hO2⟩ : ∃ O2, O2 = orderM m (atL m l n.toNat) := ⟨_, rfl⟩
  rw [← hO2] at HO2 ⊢
  clear CW CO CO2 hok he hr hme HK hstr hrng hat hO2 hol
  go_enter Tryz.func23, Tryz.ntmps23
  have q0 := (hS.blk 0 rfl).1
  go_wp2_with (first | (with_reducible refine wpList_ldS (n := 4) (us := mC m ad cap) A_mach kR wU wU (by assumption) wU wU ?_) | (with_reducible refine wpList_ldB F_int wU wU q0 wU ?_))
  refine HC.out.mono ?_
  rintro e w1 ⟨rfl, b1⟩
  have hS1 := hS.mono b1
  have q2 := (hS1.blk 1 rfl).1
  have q3 := (hS1.blk 0 rfl).1
  clear q0 q1
  go_wp2_with fail
  refine wp_regionK (C := (fun V => Below w.heap.size w V ∧ V.heap[w.heap.size]? = some (.cells (mC m ad cap) 24))) [0, 1, 2] [_, _, _] 4 (by simp only [List.map_cons, List.map_nil, List.getElem?_toArray]; rfl) rfl kR kR kR (⟨hS1.b.drew, q2⟩) ?_
  refine ⟨_, yieldsK_blkC (n := 4) A_mach kR (fun V h => h.2) rfl wU wU, ?_⟩
  go_frame
  refine ⟨_, yieldsK_val wU (fun w' => by with_unfolding_all exact rfl), ?_⟩
  go_frame
  refine ⟨.func (.func 65) #[] #[.pointer (some ⟨w.heap.size, 0, none⟩), .pointer (some ⟨w.heap.size + 1, 0, none⟩)], yieldsK_val wU (fun w' => by first | (go_simp; done) | (go_simp; rfl)), ?_⟩
  go_frame
  unfold wpPureK
  have hVd : ({ w1 with drawn := w1.drawn + 1 } : World) = w1.drew := rfl
  rw [hVd]
  have hS2 := hS1.drew
  have q4 := (hS2.blk 1 rfl).1
  refine wpAnyC_on [3, 5] kR (by simp) ?_
  simp only [List.forall_mem_cons, List.not_mem_nil, false_implies, implies_true, and_true]
  refine ⟨?_, ?_⟩
  ·refine wpOp_call (f := 53) (args := #[.slice al l.length cl, .func (.func 65) #[] #[.pointer (some ⟨w.heap.size, 0, none⟩), .pointer (some ⟨w.heap.size + 1, 0, none⟩)]]) (by rw [List.getElem?_toArray]; rfl) wU (by first | (go_simp; done) | (simp [execOp, Act.eval, Result.andThen]; done) | (simp [execOp, Act.eval, Result.andThen]; rfl)) ?_
   refine (mappedZ_any _ _ (fun s => itM m s n.toNat) al cl l _ (hL.below hS2.b) (by omega) (fun x hx w' hw' => strands1_any m ad cap _ _ x n w' ((hw'.block _ (hS2.blk 1 rfl).2.2).trans (hS2.blk 1 rfl).1) ((hw'.block _ (hS2.blk 0 rfl).2.2).trans (hS2.blk 0 rfl).1) ((hR.below hS2.b).below hw') hhi (HRNG.out x hx).1 (HRNG.out x hx).2 (by omega) (by omega))).mono ?_
   rintro e w3 ⟨v, rfl, ho, b3⟩
   rw [HAT.out] at ho
   obtain ⟨a3, c3, rfl, hr3, _⟩ := ho.reps
   have hT3 := hS2.call (SL.ofOwn ho b3)
   simp only [List.cons_append, List.nil_append] at hT3
   refine ⟨_, rfl, ⟨hT3.b, (hT3.blk 2 rfl).1⟩, ?_⟩
   go_frame
   refine wpAnyC_on [4, 5] kR (by simp) ?_
   simp only [List.forall_mem_cons, List.not_mem_nil, false_implies, implies_true, and_true]
   refine ⟨?_, ?_⟩
   ·refine wpOp_call (f := 50) (args := #[mV m ad cap, .slice a3 (atL m l n.toNat).length c3]) (by rw [List.getElem?_toArray]; rfl) wU (by first | (go_simp; done) | (simp [execOp, Act.eval, Result.andThen]; done) | (simp [execOp, Act.eval, Result.andThen]; rfl)) ?_
    refine (HO2.out a3 c3 _ (hT3.rd 0 rfl)).mono ?_
    rintro e w4 ⟨v4, rfl, ho4, b4⟩
    have hT4 := hT3.call (SL.ofOwn ho4 b4)
    simp only [List.cons_append, List.nil_append] at hT4
    obtain ⟨a4, c4, rfl, _⟩ := hT4.slice 0 rfl
    refine ⟨_, rfl, ⟨hT4.b, (hT4.blk 3 rfl).1⟩, ?_⟩
    go_frame
    refine wpAnyC_on [5] kR (by simp) ?_
    simp only [List.forall_mem_cons, List.not_mem_nil, false_implies, implies_true, and_true]
    have hT5 := hT4.box (.cells #[.slice none 0 0] 22)
    refine wpOp_value (v := .pointer (some ⟨(w4).heap.size, 0, none⟩)) (w' := (w4).alloc (.cells #[.slice none 0 0] 22)) (by rw [List.getElem?_toArray]; rfl) wU (by first | (go_simp; done) | (go_simp; rfl) | (simp [execOp, Act.eval, Result.andThen]; done)) ?_
    refine ⟨⟨hT5.b, (hT5.blk 4 rfl).1⟩, ?_⟩
    go_frame
    obtain ⟨W5, hW5⟩ : ∃ V, V = (w4).alloc (.cells #[.slice none 0 0] 22) := ⟨_, rfl⟩
    obtain ⟨b9, hb9⟩ : ∃ b, b = (w4).heap.size := ⟨_, rfl⟩
    rw [← hW5, ← hb9] at hT5
    simp only [← hW5, ← hb9]
    clear hW5 hb9
    refine wpAnyC_on [6] kR (by simp) ?_
    simp only [List.forall_mem_cons, List.not_mem_nil, false_implies, implies_true, and_true]
    refine wpOp_of_list (by rw [List.getElem?_toArray]; rfl) ?_
    refine wpList_sto1 (v := .slice a4 O2.length c4) 0 wU wU hT5 rfl ?_
    intro w6 hT6
    refine ⟨⟨hT6.b, (hT6.blk 4 rfl).1⟩, ?_⟩
    go_frame
    refine wpAnyC_rest [] [] rfl rfl kR kR kR ⟨hT6.b, (hT6.blk 4 rfl).1⟩ ?_
    unfold wpPure
    refine of_wpList_nil (P := Tryz.prog) (ops := #[]) ?_
    have q7 := (hT6.blk 4 rfl).1
    go_wp2_with (with_reducible refine wpList_ldS (n := 4) (us := mC m ad cap) A_mach kR wU wU (by assumption) wU wU ?_)
    refine (HO.out _ (hL.below hT6.b)).mono ?_
    rintro e w7 ⟨v7, rfl, ho7, b7⟩
    obtain ⟨a7, c7, rfl, hr7, _⟩ := ho7.reps
    have hU := hT6.call (SL.ofOwn ho7 b7)
    simp only [List.cons_append, List.nil_append] at hU
    go_wp2_with fail
    refine (mappedY_any _ (fun c => (idxO O2 c).getD (-1)) a7 c7 _ _ hr7 hol2 (fun x hx w' hw' => strands2_any a4 c4 O2 _ x w' ((hw'.block _ (hU.blk 1 rfl).2.2).trans (hU.blk 1 rfl).1) ((hU.rd 2 rfl).below hw'))).mono ?_
    rintro e w8 ⟨v8, rfl, ho8, b8⟩
    go_wp2_with fail
    go_ret2
    exact ⟨_, rfl, ho8.mono hU.b.size, bnext hU.b b8⟩

   ·have hT4 := hT3.box (.cells #[.slice none 0 0] 22)
    refine wpOp_value (v := .pointer (some ⟨(w3).heap.size, 0, none⟩)) (w' := (w3).alloc (.cells #[.slice none 0 0] 22)) (by rw [List.getElem?_toArray]; rfl) wU (by first | (go_simp; done) | (go_simp; rfl) | (simp [execOp, Act.eval, Result.andThen]; done)) ?_
    refine ⟨⟨hT4.b, (hT4.blk 3 rfl).1⟩, ?_⟩
    go_frame
    obtain ⟨W5, hW5⟩ : ∃ V, V = (w3).alloc (.cells #[.slice none 0 0] 22) := ⟨_, rfl⟩
    obtain ⟨b9, hb9⟩ : ∃ b, b = (w3).heap.size := ⟨_, rfl⟩
    rw [← hW5, ← hb9] at hT4
    simp only [← hW5, ← hb9]
    clear hW5 hb9
    refine wpAnyC_on [4] kR (by simp) ?_
    simp only [List.forall_mem_cons, List.not_mem_nil, false_implies, implies_true, and_true]
    refine wpOp_call (f := 50) (args := #[mV m ad cap, .slice a3 (atL m l n.toNat).length c3]) (by rw [List.getElem?_toArray]; rfl) wU (by first | (go_simp; done) | (simp [execOp, Act.eval, Result.andThen]; done) | (simp [execOp, Act.eval, Result.andThen]; rfl)) ?_
    refine (HO2.out a3 c3 _ (hT4.rd 1 rfl)).mono ?_
    rintro e w4 ⟨v4, rfl, ho4, b4⟩
    have hT5 := hT4.call (SL.ofOwn ho4 b4)
    simp only [List.cons_append, List.nil_append] at hT5
    obtain ⟨a4, c4, rfl, _⟩ := hT5.slice 0 rfl
    refine ⟨_, rfl, ⟨hT5.b, (hT5.blk 4 rfl).1⟩, ?_⟩
    go_frame
    refine wpAnyC_on [6] kR (by simp) ?_
    simp only [List.forall_mem_cons, List.not_mem_nil, false_implies, implies_true, and_true]
    refine wpOp_of_list (by rw [List.getElem?_toArray]; rfl) ?_
    refine wpList_sto1 (v := .slice a4 O2.length c4) 1 wU wU hT5 rfl ?_
    intro w6 hT6
    refine ⟨⟨hT6.b, (hT6.blk 4 rfl).1⟩, ?_⟩
    go_frame
    refine wpAnyC_rest [] [] rfl rfl kR kR kR ⟨hT6.b, (hT6.blk 4 rfl).1⟩ ?_
    unfold wpPure
    refine of_wpList_nil (P := Tryz.prog) (ops := #[]) ?_
    have q7 := (hT6.blk 4 rfl).1
    go_wp2_with (with_reducible refine wpList_ldS (n := 4) (us := mC m ad cap) A_mach kR wU wU (by assumption) wU wU ?_)
    refine (HO.out _ (hL.below hT6.b)).mono ?_
    rintro e w7 ⟨v7, rfl, ho7, b7⟩
    obtain ⟨a7, c7, rfl, hr7, _⟩ := ho7.reps
    have hU := hT6.call (SL.ofOwn ho7 b7)
    simp only [List.cons_append, List.nil_append] at hU
    go_wp2_with fail
    refine (mappedY_any _ (fun c => (idxO O2 c).getD (-1)) a7 c7 _ _ hr7 hol2 (fun x hx w' hw' => strands2_any a4 c4 O2 _ x w' ((hw'.block _ (hU.blk 2 rfl).2.2).trans (hU.blk 2 rfl).1) ((hU.rd 1 rfl).below hw'))).mono ?_
    rintro e w8 ⟨v8, rfl, ho8, b8⟩
    go_wp2_with fail
    go_ret2
    exact ⟨_, rfl, ho8.mono hU.b.size, bnext hU.b b8⟩

  ·have hT3 := hS2.box (.cells #[.slice none 0 0] 22)
   refine wpOp_value (v := .pointer (some ⟨(w1.drew).heap.size, 0, none⟩)) (w' := (w1.drew).alloc (.cells #[.slice none 0 0] 22)) (by rw [List.getElem?_toArray]; rfl) wU (by first | (go_simp; done) | (go_simp; rfl) | (simp [execOp, Act.eval, Result.andThen]; done)) ?_
   refine ⟨⟨hT3.b, (hT3.blk 2 rfl).1⟩, ?_⟩
   go_frame
   obtain ⟨W5, hW5⟩ : ∃ V, V = (w1.drew).alloc (.cells #[.slice none 0 0] 22) := ⟨_, rfl⟩
   obtain ⟨b9, hb9⟩ : ∃ b, b = (w1.drew).heap.size := ⟨_, rfl⟩
   rw [← hW5, ← hb9] at hT3
   simp only [← hW5, ← hb9]
   clear hW5 hb9
   refine wpAnyC_on [3] kR (by simp) ?_
   simp only [List.forall_mem_cons, List.not_mem_nil, false_implies, implies_true, and_true]
   refine wpOp_call (f := 53) (args := #[.slice al l.length cl, .func (.func 65) #[] #[.pointer (some ⟨w.heap.size, 0, none⟩), .pointer (some ⟨w.heap.size + 1, 0, none⟩)]]) (by rw [List.getElem?_toArray]; rfl) wU (by first | (go_simp; done) | (simp [execOp, Act.eval, Result.andThen]; done) | (simp [execOp, Act.eval, Result.andThen]; rfl)) ?_
   refine (mappedZ_any _ _ (fun s => itM m s n.toNat) al cl l _ (hL.below hT3.b) (by omega) (fun x hx w' hw' => strands1_any m ad cap _ _ x n w' ((hw'.block _ (hT3.blk 2 rfl).2.2).trans (hT3.blk 2 rfl).1) ((hw'.block _ (hT3.blk 1 rfl).2.2).trans (hT3.blk 1 rfl).1) ((hR.below hT3.b).below hw') hhi (HRNG.out x hx).1 (HRNG.out x hx).2 (by omega) (by omega))).mono ?_
   rintro e w3 ⟨v, rfl, ho, b3⟩
   rw [HAT.out] at ho
   obtain ⟨a3, c3, rfl, hr3, _⟩ := ho.reps
   have hT4 := hT3.call (SL.ofOwn ho b3)
   simp only [List.cons_append, List.nil_append] at hT4
   refine ⟨_, rfl, ⟨hT4.b, (hT4.blk 3 rfl).1⟩, ?_⟩
   go_frame
   refine wpAnyC_on [4] kR (by simp) ?_
   simp only [List.forall_mem_cons, List.not_mem_nil, false_implies, implies_true, and_true]
   refine wpOp_call (f := 50) (args := #[mV m ad cap, .slice a3 (atL m l n.toNat).length c3]) (by rw [List.getElem?_toArray]; rfl) wU (by first | (go_simp; done) | (simp [execOp, Act.eval, Result.andThen]; done) | (simp [execOp, Act.eval, Result.andThen]; rfl)) ?_
   refine (HO2.out a3 c3 _ (hT4.rd 0 rfl)).mono ?_
   rintro e w4 ⟨v4, rfl, ho4, b4⟩
   have hT5 := hT4.call (SL.ofOwn ho4 b4)
   simp only [List.cons_append, List.nil_append] at hT5
   obtain ⟨a4, c4, rfl, _⟩ := hT5.slice 0 rfl
   refine ⟨_, rfl, ⟨hT5.b, (hT5.blk 4 rfl).1⟩, ?_⟩
   go_frame
   refine wpAnyC_on [6] kR (by simp) ?_
   simp only [List.forall_mem_cons, List.not_mem_nil, false_implies, implies_true, and_true]
   refine wpOp_of_list (by rw [List.getElem?_toArray]; rfl) ?_
   refine wpList_sto1 (v := .slice a4 O2.length c4) 2 wU wU hT5 rfl ?_
   intro w6 hT6
   refine ⟨⟨hT6.b, (hT6.blk 4 rfl).1⟩, ?_⟩
   go_frame
   refine wpAnyC_rest [] [] rfl rfl kR kR kR ⟨hT6.b, (hT6.blk 4 rfl).1⟩ ?_
   unfold wpPure
   refine of_wpList_nil (P := Tryz.prog) (ops := #[]) ?_
   have q7 := (hT6.blk 4 rfl).1
   go_wp2_with (with_reducible refine wpList_ldS (n := 4) (us := mC m ad cap) A_mach kR wU wU (by assumption) wU wU ?_)
   refine (HO.out _ (hL.below hT6.b)).mono ?_
   rintro e w7 ⟨v7, rfl, ho7, b7⟩
   obtain ⟨a7, c7, rfl, hr7, _⟩ := ho7.reps
   have hU := hT6.call (SL.ofOwn ho7 b7)
   simp only [List.cons_append, List.nil_append] at hU
   go_wp2_with fail
   refine (mappedY_any _ (fun c => (idxO O2 c).getD (-1)) a7 c7 _ _ hr7 hol2 (fun x hx w' hw' => strands2_any a4 c4 O2 _ x w' ((hw'.block _ (hU.blk 3 rfl).2.2).trans (hU.blk 3 rfl).1) ((hU.rd 1 rfl).below hw'))).mono ?_
   rintro e w8 ⟨v8, rfl, ho8, b8⟩
   go_wp2_with fail
   go_ret2
   exact ⟨_, rfl, ho8.mono hU.b.size, bnext hU.b b8⟩
 ·obtain ⟨E, hE⟩ : ∃ E, E = weaveE m l n := ⟨_, rfl⟩
  rw [if_neg he]
  rw [← hE] at CW he ⊢
  have hne : (E != 0) = true := by simpa using he
  have HC := hid CW
  have q0 := (hS.blk 0 rfl).1
  clear hE CW HK
  go_enter Tryz.func23, Tryz.ntmps23
  go_wp2_with (first | (with_reducible refine wpList_ldS (n := 4) (us := mC m ad cap) A_mach kR wU wU (by assumption) wU wU ?_) | (with_reducible refine wpList_ldB F_int wU wU q0 wU ?_))
  refine HC.out.mono ?_
  rintro e w1 ⟨rfl, b1⟩
  have hS1 := hS.mono b1
  go_wp2_with fail
  go_ret2
  exact ⟨_, rfl, own_nil cIntS, hS1.b⟩
end Go.Proofs.YtglpfpdomnllkaaGreat

namespace Go.Proofs.YtglpfpdomnllkaaGreat
set_option maxRecDepth 100000
/-- the rank of a slot from left to right. -/
def rankM (m : MacV) (s : Int) : Int := if s % 4 = 0 then 4 * (s / 4) else if s % 4 = 2 then 4 * (s / 4) + 3 else if (decide (s % 4 = 1)) = fwdM m (s / 4) then 4 * (s / 4) + 1 else 4 * (s / 4) + 2
theorem rank_slot (m : MacV) (g : Int) : rankM m (slotG m g 0) = 4 * g ∧ rankM m (slotG m g 1) = 4 * g + 1 ∧ rankM m (slotG m g 2) = 4 * g + 2 ∧ rankM m (slotG m g 3) = 4 * g + 3 := by
 have e0 : slotG m g 0 = 4 * g := rfl
 have e1 : slotG m g 1 = if fwdM m g then 4 * g + 1 else 4 * g + 3 := rfl
 have e2 : slotG m g 2 = if fwdM m g then 4 * g + 3 else 4 * g + 1 := rfl
 have e3 : slotG m g 3 = 4 * g + 2 := rfl
 rw [e0, e1, e2, e3]
 have d0 : (4 * g) / 4 = g := by omega
 have d1 : (4 * g + 1) / 4 = g := by omega
 have d2 : (4 * g + 2) / 4 = g := by omega
 have d3 : (4 * g + 3) / 4 = g := by omega
 have m0 : (4 * g) % 4 = 0 := by omega
 have m1 : (4 * g + 1) % 4 = 1 := by omega
 have m2 : (4 * g + 2) % 4 = 2 := by omega
 have m3 : (4 * g + 3) % 4 = 3 := by omega
 unfold rankM
 cases hf : fwdM m g
 ·simp [m0, m1, m2, m3, d0, d1, d2, d3, hf]
 ·simp [m0, m1, m2, m3, d0, d1, d2, d3, hf]
theorem slot_rank {m : MacV} {s : Int} : slotG m (s / 4) ((rankM m s % 4).toNat) = s ∧ rankM m s / 4 = s / 4 := by
 have hm : s % 4 = 0 ∨ s % 4 = 1 ∨ s % 4 = 2 ∨ s % 4 = 3 := by omega
 unfold rankM
 cases hf : fwdM m (s / 4)
 ·rcases hm with h | h | h | h
  ·rw [if_pos h, show (4 * (s / 4)) % 4 = 0 by omega]
   exact ⟨by show 4 * (s / 4) = s; omega, by omega⟩
  ·rw [if_neg (by omega), if_neg (by omega), if_neg (by simp [h]), show (4 * (s / 4) + 2) % 4 = 2 by omega]
   refine ⟨?_, by omega⟩
   show (if fwdM m (s / 4) then 4 * (s / 4) + 3 else 4 * (s / 4) + 1) = s
   rw [hf]; simp; omega
  ·rw [if_neg (by omega), if_pos h, show (4 * (s / 4) + 3) % 4 = 3 by omega]
   exact ⟨by show 4 * (s / 4) + 2 = s; omega, by omega⟩
  ·rw [if_neg (by omega), if_neg (by omega), if_pos (by simp [h]), show (4 * (s / 4) + 1) % 4 = 1 by omega]
   refine ⟨?_, by omega⟩
   show (if fwdM m (s / 4) then 4 * (s / 4) + 1 else 4 * (s / 4) + 3) = s
   rw [hf]; simp; omega
 ·rcases hm with h | h | h | h
  ·rw [if_pos h, show (4 * (s / 4)) % 4 = 0 by omega]
   exact ⟨by show 4 * (s / 4) = s; omega, by omega⟩
  ·rw [if_neg (by omega), if_neg (by omega), if_pos (by simp [h]), show (4 * (s / 4) + 1) % 4 = 1 by omega]
   refine ⟨?_, by omega⟩
   show (if fwdM m (s / 4) then 4 * (s / 4) + 1 else 4 * (s / 4) + 3) = s
   rw [hf]; simp; omega
  ·rw [if_neg (by omega), if_pos h, show (4 * (s / 4) + 3) % 4 = 3 by omega]
   exact ⟨by show 4 * (s / 4) + 2 = s; omega, by omega⟩
  ·rw [if_neg (by omega), if_neg (by omega), if_neg (by simp [h]), show (4 * (s / 4) + 2) % 4 = 2 by omega]
   refine ⟨?_, by omega⟩
   show (if fwdM m (s / 4) then 4 * (s / 4) + 3 else 4 * (s / 4) + 1) = s
   rw [hf]; simp; omega
/-- the slot with a rank. -/
def ofRank (m : MacV) (r : Int) : Int := slotG m (r / 4) (r % 4).toNat
theorem ofRank_iff {m : MacV} {s r : Int} : rankM m s = r ↔ s = ofRank m r := by
 constructor
 ·rintro rfl
  unfold ofRank
  obtain ⟨h1, h2⟩ := slot_rank (m := m) (s := s)
  rw [h2, h1]
 ·rintro rfl
  unfold ofRank
  obtain ⟨k0, k1, k2, k3⟩ := rank_slot m (r / 4)
  have hm : r % 4 = 0 ∨ r % 4 = 1 ∨ r % 4 = 2 ∨ r % 4 = 3 := by omega
  rcases hm with h | h | h | h
  ·rw [h]; show rankM m (slotG m (r / 4) 0) = r; rw [k0]; omega
  ·rw [h]; show rankM m (slotG m (r / 4) 1) = r; rw [k1]; omega
  ·rw [h]; show rankM m (slotG m (r / 4) 2) = r; rw [k2]; omega
  ·rw [h]; show rankM m (slotG m (r / 4) 3) = r; rw [k3]; omega
/-- the carriers in the order of their ranks. -/
def ordR (m : MacV) (l : List Int) (k : Nat) : List Int := (List.range k).filterMap fun (r : Nat) => idxO l (ofRank m r)
theorem ordR_gears (m : MacV) (l : List Int) : ∀ G : Nat, ordR m l (4 * G) = ((List.range G).map fun (g : Nat) => (g : Int)).flatMap (orderG m l)
 | 0 => rfl
 | G + 1 => by
   have ih := ordR_gears m l G
   rw [List.range_succ, List.map_append, List.flatMap_append, ← ih]
   have e : 4 * (G + 1) = 4 * G + 1 + 1 + 1 + 1 := by omega
   have f : ∀ k : Nat, ordR m l (k + 1) = ordR m l k ++ [idxO l (ofRank m (k : Int))].filterMap id := fun k => by
     unfold ordR
     rw [List.range_succ, List.filterMap_append]
     congr 1
   rw [e, f, f, f, f]
   simp only [List.append_assoc, ← List.filterMap_append, List.map_cons, List.map_nil, List.flatMap_cons, List.flatMap_nil, List.append_nil]
   congr 1
   rw [orderG_eq]
   unfold catO opG ofRank
   have a0 : ((4 * G : Nat) : Int) / 4 = G ∧ (((4 * G : Nat) : Int) % 4).toNat = 0 := by omega
   have a1 : ((4 * G + 1 : Nat) : Int) / 4 = G ∧ (((4 * G + 1 : Nat) : Int) % 4).toNat = 1 := by omega
   have a2 : ((4 * G + 1 + 1 : Nat) : Int) / 4 = G ∧ (((4 * G + 1 + 1 : Nat) : Int) % 4).toNat = 2 := by omega
   have a3 : ((4 * G + 1 + 1 + 1 : Nat) : Int) / 4 = G ∧ (((4 * G + 1 + 1 + 1 : Nat) : Int) % 4).toNat = 3 := by omega
   rw [a0.1, a0.2, a1.1, a1.2, a2.1, a2.2, a3.1, a3.2]
   rfl
theorem ordR_order (m : MacV) (l : List Int) (n : Nat) (hn : 4 * m.gears = n) : ordR m l n = orderM m l := by
 have e : n = 4 * m.gears.toNat := by omega
 rw [e, ordR_gears]
 rfl
end Go.Proofs.YtglpfpdomnllkaaGreat

namespace Go.Proofs.YtglpfpdomnllkaaGreat
set_option maxRecDepth 100000
theorem orderM_mem {m : MacV} {l : List Int} (hg : 0 ≤ m.gears) (hl : ∀ x ∈ l, 0 ≤ x ∧ x < 4 * m.gears) (hn : l.Nodup) {x : Int} : x ∈ orderM m l ↔ 0 ≤ x ∧ x < l.length := by
 obtain ⟨n, hnn⟩ : ∃ n : Nat, 4 * m.gears = n := ⟨(4 * m.gears).toNat, by omega⟩
 rw [← ordR_order m l n hnn]
 unfold ordR
 rw [List.mem_filterMap]
 constructor
 ·rintro ⟨r, _, h⟩
  obtain ⟨h0, h1, _⟩ := idxO_some h
  exact ⟨h0, h1⟩
 ·rintro ⟨h0, h1⟩
  obtain ⟨j, rfl⟩ : ∃ j : Nat, x = j := ⟨x.toNat, by omega⟩
  have hj : j < l.length := by omega
  have hs := hl _ (List.getElem_mem hj)
  have hrk := (ofRank_iff (m := m) (s := l[j]) (r := rankM m l[j])).1 rfl
  have hr0 : 0 ≤ rankM m l[j] ∧ rankM m l[j] < n := by
   have h4 := (slot_rank (m := m) (s := l[j])).2
   omega
  refine ⟨(rankM m l[j]).toNat, List.mem_range.2 (by omega), ?_⟩
  rw [Int.toNat_of_nonneg hr0.1, ← hrk]
  refine idxO_eq hj (List.getElem?_eq_getElem hj) (fun i hi e => ?_)
  have hil : i < l.length := by omega
  rw [List.getElem?_eq_getElem hil] at e
  have := (List.getElem_inj hn).1 (Option.some.inj e)
  omega
theorem orderM_length {m : MacV} {l : List Int} (hg : 0 ≤ m.gears) (hl : ∀ x ∈ l, 0 ≤ x ∧ x < 4 * m.gears) (hn : l.Nodup) : (orderM m l).length = l.length := by
 have hno := orderM_nodup m l
 refine Nat.le_antisymm ?_ ?_
 ·exact nodup_le l.length _ hno fun x hx => (orderM_mem hg hl hn).1 hx
 ·have h : ((List.range l.length).map fun (i : Nat) => (i : Int)).Nodup := by
   rw [List.nodup_iff_pairwise_ne, List.pairwise_map]
   refine (List.nodup_iff_pairwise_ne.1 List.nodup_range).imp fun {a b} hab e => hab (by omega)
  have := h.length_le_of_subset (l₂ := orderM m l) (fun x hx => by
   obtain ⟨i, hi, rfl⟩ := List.mem_map.1 hx
   exact (orderM_mem hg hl hn).2 ⟨by omega, by have := List.mem_range.1 hi; omega⟩)
  simpa using this
/-- where a strand stands later. -/
theorem later_at {m : MacV} {l : List Int} {n : Int} (hg : 0 ≤ m.gears) (hl : ∀ x ∈ l, 0 ≤ x ∧ x < 4 * m.gears) (hn : l.Nodup) (ha : ∀ x ∈ atL m l n.toNat, 0 ≤ x ∧ x < 4 * m.gears) (hna : (atL m l n.toNat).Nodup) {i : Nat} (hi : i < (orderM m l).length) :
  ∃ K : Nat, K < (orderM m (atL m l n.toNat)).length ∧ atD 0 (strandsL m l n) i = K ∧ atD 0 (orderM m (atL m l n.toNat)) K = atD 0 (orderM m l) i ∧ ∀ k : Nat, k < (orderM m (atL m l n.toNat)).length → k ≠ K → atD 0 (orderM m (atL m l n.toNat)) k ≠ atD 0 (orderM m l) i := by
 have e : atD 0 (orderM m l) i = (orderM m l)[i] := by simp [atD, hi]
 have hm := (orderM_mem hg hl hn).1 (List.getElem_mem hi)
 have hm2 : (orderM m l)[i] ∈ orderM m (atL m l n.toNat) := (orderM_mem hg ha hna).2 ⟨hm.1, by rw [show (atL m l n.toNat).length = l.length by simp [atL]]; exact hm.2⟩
 cases hix : idxO (orderM m (atL m l n.toNat)) (orderM m l)[i] with
 | none => exact absurd hm2 (idxO_none.1 hix)
 | some K0 =>
  obtain ⟨k0, k1, k2⟩ := idxO_some hix
  obtain ⟨K, rfl⟩ : ∃ K : Nat, K0 = K := ⟨K0.toNat, by omega⟩
  have hK : K < (orderM m (atL m l n.toNat)).length := by omega
  have e2 : atD 0 (orderM m (atL m l n.toNat)) K = (orderM m l)[i] := by
   have : (orderM m (atL m l n.toNat))[K]? = some (orderM m l)[i] := k2
   simp [atD, this]
  refine ⟨K, hK, ?_, by rw [e2, e], fun k hk hne h => hne ?_⟩
  ·unfold strandsL
   have hs : ((orderM m l).map fun c => (idxO (orderM m (atL m l n.toNat)) c).getD (-1))[i]? = some (K : Int) := by
    rw [List.getElem?_map, List.getElem?_eq_getElem hi, Option.map_some, hix]
    rfl
   simp [atD, hs]
  ·have ek : atD 0 (orderM m (atL m l n.toNat)) k = (orderM m (atL m l n.toNat))[k] := by simp [atD, hk]
   have eK : atD 0 (orderM m (atL m l n.toNat)) K = (orderM m (atL m l n.toNat))[K] := by simp [atD, hK]
   rw [ek, e, ← e2, eK] at h
   exact (List.getElem_inj (orderM_nodup m _)).1 h
end Go.Proofs.YtglpfpdomnllkaaGreat

namespace Go.Proofs.YtglpfpdomnllkaaGreat
set_option maxRecDepth 100000
/-- the other carrier of a crossing. -/
def otherC (c : CrM) : Int := if c.over = c.going then c.under else c.over
theorem other_mkX (m : MacV) (g : Int) {a b : Int} (h : a ≠ b) : otherC (mkX m g a b) = b := by
 unfold otherC mkX
 cases fwdM m g
 ·simp
 ·simp; intro e; exact absurd e.symm h
/-- the carrier that goes to the right has the other one as its neighbour. -/
def nextC : List Int → List CrM → Prop
 | _, [] => True
 | r, c :: cs => (∃ i : Nat, idxO r c.going = some (i : Int) ∧ i + 1 < r.length ∧ atD 0 r ((i : Int) + 1) = otherC c) ∧ nextC (rowC r c) cs
theorem nextC_app : ∀ (xs ys : List CrM) (r : List Int), nextC r (xs ++ ys) ↔ nextC r xs ∧ nextC (xs.foldl rowC r) ys
 | [], ys, r => by simp [nextC]
 | c :: xs, ys, r => by
   rw [List.cons_append, nextC, nextC, List.foldl_cons, nextC_app xs ys (rowC r c), and_assoc]
theorem cross_next {m : MacV} {g : Int} {A C : List Int} {x y : Option Int} (hn : (A ++ [x, y].filterMap id ++ C).Nodup) :
  nextC (A ++ [x, y].filterMap id ++ C) (bothX (mkX m g) x y).toList := by
 match x, y with
 | none, none => trivial
 | none, some b => trivial
 | some a, none => trivial
 | some a, some b =>
  have e : (A ++ [some a, some b].filterMap id ++ C) = A ++ a :: b :: C := by simp
  rw [e] at hn ⊢
  have h1 := List.nodup_append.1 hn
  have ha : a ∉ A := fun hm => h1.2.2 a hm a (by simp) rfl
  have hab : a ≠ b := by
   have := (List.nodup_cons.1 h1.2.1).1
   intro e; subst e; exact this (by simp)
  refine ⟨⟨A.length, ?_, ?_, ?_⟩, trivial⟩
  ·rw [mkX_going]; exact idxO_mid ha
  ·simp
  ·rw [other_mkX m g hab]
   unfold atD
   have : ((A.length : Int) + 1).toNat = A.length + 1 := by omega
   rw [this, List.getD_eq_getElem?_getD, List.getElem?_append_right (by omega)]
   simp
theorem crossG_next (m : MacV) (l : List Int) (g : Int) {A C : List Int} (hn : (A ++ orderG m l g ++ C).Nodup) : nextC (A ++ orderG m l g ++ C) (crossG m l g) := by
 rw [crossG_eq, orderG_eq] at *
 rw [crossA_eq, crossA_eq, crossA_eq]
 generalize opG m l g 0 = o0 at *
 generalize opG m l g 1 = o1 at *
 generalize opG m l g 2 = o2 at *
 generalize opG m l g 3 = o3 at *
 have e1 : A ++ catO [o0, o1, o2, o3] ++ C = (A ++ catO [o0]) ++ [o1, o2].filterMap id ++ (catO [o3] ++ C) := by
  rw [show [o0, o1, o2, o3] = [o0] ++ ([o1, o2] ++ [o3]) from rfl, catO_app, catO_app]; simp only [catO, List.append_assoc]
 have e2 : (A ++ catO [o0]) ++ [o2, o1].filterMap id ++ (catO [o3] ++ C) = A ++ [o0, o2].filterMap id ++ (catO [o1, o3] ++ C) := by
  rw [show [o0, o2] = [o0] ++ [o2] from rfl, show [o2, o1] = [o2] ++ [o1] from rfl, show [o1, o3] = [o1] ++ [o3] from rfl, catO_app, ]
  simp only [catO, List.filterMap_append, List.append_assoc]
 have e3 : A ++ [o2, o0].filterMap id ++ (catO [o1, o3] ++ C) = (A ++ catO [o2, o0]) ++ [o1, o3].filterMap id ++ C := by
  simp only [catO, List.append_assoc]
 rw [e1] at hn ⊢
 have g1 := cross_next (m := m) (g := g) hn
 obtain ⟨u1, h1, n1⟩ := cross_swap hn (mkX_going m g) []
 have r1 := congrArg Prod.fst h1
 rw [fold_fst] at r1
 simp only [e2] at r1 n1
 have g2 := cross_next (m := m) (g := g) n1
 obtain ⟨u2, h2, n2⟩ := cross_swap n1 (mkX_going m g) []
 have r2 := congrArg Prod.fst h2
 rw [fold_fst] at r2
 simp only [e3] at r2 n2
 have g3 := cross_next (m := m) (g := g) n2
 rw [nextC_app, nextC_app, r1, r2]
 exact ⟨g1, g2, g3⟩
theorem crossL_next (m : MacV) (l : List Int) : ∀ (gs : List Int) (A : List Int), (A ++ gs.flatMap (orderG m l)).Nodup → nextC (A ++ gs.flatMap (orderG m l)) (gs.flatMap (crossG m l))
 | [], A, hn => trivial
 | g :: gs, A, hn => by
   simp only [List.flatMap_cons] at hn ⊢
   rw [← List.append_assoc] at hn ⊢
   rw [nextC_app]
   refine ⟨crossG_next m l g hn, ?_⟩
   obtain ⟨u1, h1, n1⟩ := crossG_row m l g hn []
   have r1 := congrArg Prod.fst h1
   rw [fold_fst] at r1
   rw [r1]
   exact crossL_next m l gs (A ++ afterG m l g) n1
theorem crossM_next (m : MacV) (l : List Int) : nextC (orderM m l) (crossM m l) := by
 have := crossL_next m l (gearsL m) [] (by simpa [orderM] using orderM_nodup m l)
 simpa [crossM, orderM] using this
theorem nextC_at {cs : List CrM} {r : List Int} (h : nextC r cs) {k : Nat} (hk : k < cs.length) : ∃ i : Nat, idxO ((cs.take k).foldl rowC r) (cs[k].going) = some (i : Int) ∧ i + 1 < ((cs.take k).foldl rowC r).length ∧ atD 0 ((cs.take k).foldl rowC r) ((i : Int) + 1) = otherC cs[k] := by
 have e : cs = cs.take k ++ cs[k] :: cs.drop (k + 1) := by
  conv => lhs; rw [← List.take_append_drop k cs]
  rw [List.drop_eq_getElem_cons hk]
 rw [e, nextC_app] at h
 exact h.2.1
theorem crossG_few (m : MacV) (l : List Int) (g : Int) : (crossG m l g).length ≤ (orderG m l g).length := by
 rw [crossG_eq, orderG_eq, crossA_eq, crossA_eq, crossA_eq]
 generalize opG m l g 0 = o0
 generalize opG m l g 1 = o1
 generalize opG m l g 2 = o2
 generalize opG m l g 3 = o3
 cases o0 <;> cases o1 <;> cases o2 <;> cases o3 <;> simp [bothX, catO]
theorem crossM_few (m : MacV) (l : List Int) : (crossM m l).length ≤ (orderM m l).length := by
 unfold crossM orderM
 generalize gearsL m = gs
 induction gs with
 | nil => simp
 | cons g gs ih =>
  rw [List.flatMap_cons, List.flatMap_cons, List.length_append, List.length_append]
  have := crossG_few m l g
  omega
theorem wvM_few {m : MacV} {l : List Int} (h : LoadOk m l) : ∀ k : Nat, (wvM m l k).2.length ≤ l.length * k
 | 0 => by simp [wvM]
 | k + 1 => by
   have ih := wvM_few h k
   have hlo := h.ok.lo
   have a := crossM_few m (atL m l k)
   rw [orderM_length (by omega) (atL_rng h.rng k) (atL_nodup h.rng h.nodup k), atL_len] at a
   rw [wvM, weaveS_len, Nat.mul_succ]
   omega
/-- what a word of few carriers comes to. -/
theorem weaveE_ok {m : MacV} {l : List Int} (hz : loadE m l = 0) (hr : m.ring = false) (hl : l.length ≤ 12) {n : Int} (h0 : 0 ≤ n) (h1 : n ≤ 1000) (hm : meetsM m l n = false) : weaveE m l n = 0 := by
 unfold weaveE
 rw [if_neg (by simp [hz]), hr, if_neg (by decide), if_neg (by omega), if_neg (by omega), hm]
 rfl
theorem wrdE_ok {m : MacV} {l : List Int} (hz : loadE m l = 0) (hr : m.ring = false) (hl : l.length ≤ 6) {n : Int} (h0 : 0 ≤ n) (h1 : n ≤ 24) (hm : meetsM m l n = false) : wrdE m l n = 0 ∧ (wrdL m l n).length ≤ 144 := by
 have hw := wvM_few (loadE_zero hz) n.toNat
 have : l.length * n.toNat ≤ 6 * 24 := Nat.mul_le_mul hl (by omega)
 have hq : (wrdL m l n).length ≤ 144 := by unfold wrdL; omega
 refine ⟨?_, hq⟩
 unfold wrdE
 rw [weaveE_ok hz hr (by omega) h0 (by omega) hm, if_neg (by decide), if_neg (by omega)]
/-- no meeting later on. -/
theorem meets_later {m : MacV} {l : List Int} (h : LoadOk m l) {a b : Nat} {n : Int} (hm : meetsM m l n = false) (hab : ((a + b : Nat) : Int) ≤ n) : meetsM m (atL m l a) b = false := by
 cases hq : meetsM m (atL m l a) b with
 | false => rfl
 | true =>
  exfalso
  unfold meetsM at hq
  cases hf : firstM m (atL m l a) with
  | none => rw [hf] at hq; cases hq
  | some v =>
   rw [hf] at hq
   simp only [decide_eq_true_eq] at hq
   obtain ⟨p, hp, e⟩ := first_is hf
   have hs := meetM_spec m p.1 p.2
   rw [e] at hs
   obtain ⟨n1, pl⟩ := v
   have hno := no_meets (l := l) hm (k := n1 + a) (by dsimp only at hq; omega)
   have ne : p.1 ≠ p.2 := by
    obtain ⟨i, j, hji, hi, rfl⟩ := (pairsTo_mem (Nat.le_refl _)).1 hp
    exact fun e2 => nodup_ne (atL_nodup h.rng h.nodup a) hji hi e2.symm
   obtain ⟨q, hqm, hpq⟩ := pairsTo_map.1 (show p ∈ pairsTo (l.map fun s => itM m s a) (l.map fun s => itM m s a).length from hp)
   obtain ⟨i, j, hji, hi, hqe⟩ := (pairsTo_mem (Nat.le_refl _)).1 hqm
   have m1 : q.1 ∈ l := by rw [hqe]; exact at_memI hi
   have m2 : q.2 ∈ l := by rw [hqe]; exact at_memI (by omega)
   have e1 : p.1 = itM m q.1 a := by rw [hpq]
   have e2 : p.2 = itM m q.2 a := by rw [hpq]
   have hh := hno (itM m q.1 (n1 + a)) (List.mem_map.2 ⟨_, m1, rfl⟩) (itM m q.2 (n1 + a)) (List.mem_map.2 ⟨_, m2, rfl⟩) (fun e3 => by
    refine ne ?_
    rw [e1, e2]
    have := itM_inj (h.rng _ m1).1 (h.rng _ m1).2 (h.rng _ m2).1 (h.rng _ m2).2 (n1 + a) e3
    rw [this])
   have s1 := hs.1
   rw [e1, e2, itM_add, itM_add, hh] at s1
   cases s1
theorem cross_ok {m : MacV} {l : List Int} (hz : loadE m l = 0) (hm : meetsM m l 0 = false) : crossE m l = 0 := by
 unfold crossE; rw [if_neg (by simp [hz]), hm]; rfl
theorem order_ok {m : MacV} {l : List Int} (hz : loadE m l = 0) (hr : m.ring = false) (hm : meetsM m l 0 = false) : orderE m l = 0 := by
 unfold orderE; rw [if_neg (by simp [hz]), hr, hm]; rfl

theorem fold_pre : ∀ (cs : List CrM) (r a o : List Int), cs.foldl weaveC (r, a ++ o) = ((cs.foldl weaveC (r, o)).1, a ++ (cs.foldl weaveC (r, o)).2)
 | [], r, a, o => rfl
 | c :: cs, r, a, o => by
   rw [List.foldl_cons, List.foldl_cons]
   have e : weaveC (r, a ++ o) c = ((weaveC (r, o) c).1, a ++ (weaveC (r, o) c).2) := by unfold weaveC; simp
   rw [e]
   exact fold_pre cs _ a _
theorem wv_two {m : MacV} {l : List Int} (hr : m.ring = false) (h : LoadOk m l) {a : Nat} {n : Int} (hm : meetsM m l n = false) (ha : (a : Int) ≤ n) : ∀ b : Nat, wvM m l (a + b) = ((wvM m (atL m l a) b).1, (wvM m l a).2 ++ (wvM m (atL m l a) b).2)
 | 0 => by
   show wvM m l a = (orderM m (atL m l a), (wvM m l a).2 ++ [])
   rw [List.append_nil, ← wvM_row hr h.rng hm a ha]
 | b + 1 => by
   have ih := wv_two hr h hm ha b
   rw [show a + (b + 1) = (a + b) + 1 by omega, wvM, wvM, ih, atL_add, Nat.add_comm b a]
   unfold weaveS
   exact fold_pre _ _ _ _
theorem wrd_two {m : MacV} {l : List Int} (hr : m.ring = false) (h : LoadOk m l) {a b : Nat} (hm : meetsM m l ((a + b : Nat) : Int) = false) : wrdL m l ((a + b : Nat) : Int) = wrdL m l (a : Int) ++ wrdL m (atL m l a) (b : Int) := by
 unfold wrdL
 simp only [Int.toNat_natCast]
 rw [wv_two hr h hm (by omega)]

/-- the state after some crossings of a step. -/
noncomputable def stC (m : MacV) (l : List Int) (k i : Nat) : List Int × List Int := ((crossM m (atL m l k)).take i).foldl weaveC (wvM m l k)
theorem stC_last (m : MacV) (l : List Int) (k : Nat) : stC m l k (crossM m (atL m l k)).length = wvM m l (k + 1) := by
 unfold stC
 rw [List.take_length]; rfl
theorem fold_post : ∀ (cs : List CrM) (st : List Int × List Int), ∃ v, (cs.foldl weaveC st).2 = st.2 ++ v
 | [], st => ⟨[], by simp⟩
 | c :: cs, st => by
   rw [List.foldl_cons]
   obtain ⟨v, hv⟩ := fold_post cs (weaveC st c)
   refine ⟨letterC st.1 c :: v, ?_⟩
   rw [hv]; simp [weaveC]
theorem wvM_post (m : MacV) (l : List Int) : ∀ {j k : Nat}, j ≤ k → ∃ v, (wvM m l k).2 = (wvM m l j).2 ++ v := by
 intro j k hjk
 induction hjk with
 | refl => exact ⟨[], by simp⟩
 | step _ ih =>
  rename_i q _
  obtain ⟨v, hv⟩ := ih
  obtain ⟨u, hu⟩ := fold_post (crossM m (atL m l q)) (wvM m l q)
  exact ⟨v ++ u, by rw [wvM, weaveS, hu, hv, List.append_assoc]⟩
theorem stC_post (m : MacV) (l : List Int) {k i N : Nat} (hk : k < N) : ∃ v, (wvM m l N).2 = (stC m l k i).2 ++ v := by
 obtain ⟨v, hv⟩ := wvM_post m l (j := k + 1) (k := N) hk
 obtain ⟨u, hu⟩ := fold_post ((crossM m (atL m l k)).drop i) (stC m l k i)
 refine ⟨u ++ v, ?_⟩
 have e : ((crossM m (atL m l k)).drop i).foldl weaveC (stC m l k i) = wvM m l (k + 1) := by
  unfold stC
  rw [← List.foldl_append, List.take_append_drop]; rfl
 rw [e] at hu
 rw [hv, hu, List.append_assoc]
/-- one letter of a word. -/
theorem stC_step {m : MacV} {l : List Int} (hr : m.ring = false) (h : LoadOk m l) {n : Int} (hm : meetsM m l n = false) {k i N : Nat} (hkn : (k : Int) ≤ n) (hk : k < N) (hi : i < (crossM m (atL m l k)).length) :
  ∃ p : Nat, p + 1 < (stC m l k i).1.length ∧ stC m l k (i + 1) = (swpL (stC m l k i).1 p, (stC m l k i).2 ++ [atD 0 (wvM m l N).2 (stC m l k i).2.length]) ∧
   (stC m l k i).2.length < (wvM m l N).2.length ∧
   ((atD 0 (wvM m l N).2 (stC m l k i).2.length = (p : Int) + 1 ∧ (atD ⟨0, 0, 0, 0⟩ (crossM m (atL m l k)) i).over = atD 0 (stC m l k i).1 p ∧ (atD ⟨0, 0, 0, 0⟩ (crossM m (atL m l k)) i).under = atD 0 (stC m l k i).1 ((p : Int) + 1)) ∨
    (atD 0 (wvM m l N).2 (stC m l k i).2.length = -(p : Int) - 1 ∧ (atD ⟨0, 0, 0, 0⟩ (crossM m (atL m l k)) i).over = atD 0 (stC m l k i).1 ((p : Int) + 1) ∧ (atD ⟨0, 0, 0, 0⟩ (crossM m (atL m l k)) i).under = atD 0 (stC m l k i).1 p)) := by
 obtain ⟨cs, hcs⟩ : ∃ cs, cs = crossM m (atL m l k) := ⟨_, rfl⟩
 have hnx := crossM_next m (atL m l k)
 rw [← wvM_row hr h.rng hm k hkn] at hnx
 have hok := crossM_ok m (atL m l k)
 rw [← hcs] at hi hnx hok
 obtain ⟨p, hp, hp1, hp2⟩ := nextC_at hnx hi
 have hst : (stC m l k i).1 = (cs.take i).foldl rowC (wvM m l k).1 := by
  unfold stC
  rw [← hcs]
  have : wvM m l k = ((wvM m l k).1, (wvM m l k).2) := rfl
  rw [this, fold_fst]
 rw [← hst] at hp hp1 hp2
 have ec : atD (⟨0, 0, 0, 0⟩ : CrM) cs i = cs[i] := by simp [atD, hi]
 have hstep : stC m l k (i + 1) = weaveC (stC m l k i) cs[i] := by
  unfold stC
  rw [← hcs, foldC_step hi, ec]
 rw [weaveC_at hp] at hstep
 obtain ⟨v, hv⟩ := stC_post m l (k := k) (i := i + 1) (N := N) hk
 rw [hstep] at hv
 dsimp only at hv
 have hat : atD 0 (wvM m l N).2 (stC m l k i).2.length = if cs[i].over = cs[i].going then (p : Int) + 1 else -(p : Int) - 1 := by
  unfold atD
  rw [hv]
  simp only [Int.toNat_natCast, List.getD_eq_getElem?_getD]
  rw [List.append_assoc, List.getElem?_append_right (Nat.le_refl _), Nat.sub_self]
  simp
 have hgo : atD 0 (stC m l k i).1 (p : Int) = cs[i].going := by
  obtain ⟨a, b, c⟩ := idxO_some hp
  unfold atD
  rw [List.getD_eq_getElem?_getD, c]; rfl
 refine ⟨p, hp1, by rw [hstep, hat], by rw [hv]; simp, ?_⟩
 rw [← hcs, ec, hat, hgo, hp2]
 rcases hok cs[i] (List.getElem_mem hi) with ⟨a, b⟩ | ⟨a, b⟩
 ·refine .inl ⟨if_pos a, a, ?_⟩
  unfold otherC; rw [if_pos a]
 ·refine .inr ⟨if_neg b, ?_, a⟩
  unfold otherC; rw [if_neg b]
end Go.Proofs.YtglpfpdomnllkaaGreat

namespace Go.Proofs.YtglpfpdomnllkaaGreat
open Go.RowKit
set_option maxHeartbeats 2000000
set_option maxRecDepth 100000

theorem rCheckPerm_any (a : Option Addr) (cap : Nat) (p : List Int) (w : World) (hS : Ints w a cap p) (hp : IsP p) (h : p.length ≤ 256) :
  Calls Tryz.prog 15 #[.slice a p.length cap] w fun r w' => r = .returned (.int .i64 0) ∧ Below w.heap.size w w' := by
 have hcap := hS.le
 have hm := hS.max
 have HP := hid hp; clear hp
 go_enter Tryz.func15, Tryz.ntmps15
 go_wp2
 go_loopw [3, 4] (fun i _ wr => ∃ k : Nat, k ≤ p.length ∧ i = .int .i64 k ∧ Below w.heap.size w wr) (fun i _ _ => p.length - (intOf i).toNat)
 case atStart => exact ⟨0, by omega, rfl, Below.refl _ _⟩
 case round =>
  obtain ⟨k, hk, rfl, hb⟩ := hrel
  have hR := hS.below hb
  by_cases hlt : k < p.length
  ·have hr := HP.out.rng k (by omega) (by omega)
   have d1 : ¬ atD 0 p k < 0 := by omega
   have d2 : ¬ (p.length : Int) ≤ atD 0 p k := by omega
   clear hr
   go_wp2_with (first | (with_reducible refine wpList_idx _ 0 E_ints F_int cInt1 wU wU (hR) oD oD (fun _ => wU) (fun _ => ?_)) | (with_reducible refine wpList_idxG 0 E_ints F_int cInt1 wU wU (hR) (rfl) oD oD (fun _ => wU) wU (fun _ => wU) (fun _ => ?_)))
   go_loopw [4] (fun i wq => ∃ j : Nat, j ≤ k ∧ i = .int .i64 j ∧ Below w.heap.size w wq) (fun i _ => k - (intOf i).toNat)
   case atStart => exact ⟨0, by omega, rfl, hb⟩
   case round =>
    obtain ⟨j, hj, rfl, hb2⟩ := hrel
    have hR2 := hS.below hb2
    by_cases hjk : j < k
    ·have hjl : j < p.length := by omega
     have hne : atD 0 p j ≠ atD 0 p k := fun e => by have := HP.out.inj j k (by omega) (by omega) (by omega) (by omega) e; omega
     have d3 : (atD 0 p j == atD 0 p k) = false := by simpa using hne
     clear hne
     go_wp2_with fail
     refine wp_region_quiet_lit kR kR ?_
     repeat (first | ((with_reducible refine wpQD_idx 0 E_ints F_int cInt1 wU wU (hR2) oD oD (fun _ => wU) (fun _ => ?_)); (try simp only [Act.put, pA, pB, pC]); (try simp only [cInt])) | quiet_step (fail))
     refine wpQuiet_nil ?_
     intro w2 hb3
     replace hb3 := below_drewN hb3
     go_wp2_with fail
     go_roundw
     case rel => exact ⟨j + 1, by omega, by simp, bnext hb2 hb3⟩
     case measure => simp [intOf]; omega
    ·have : j = k := by omega
     subst this
     go_wp2_with fail
     go_roundw
     case rel => exact ⟨j + 1, by omega, by simp, hb2⟩
     case measure => simp [intOf]; omega
  ·have : k = p.length := by omega
   subst this
   go_wp2_with fail
   go_ret
   exact ⟨rfl, hb⟩

end Go.Proofs.YtglpfpdomnllkaaGreat

namespace Go.Proofs.YtglpfpdomnllkaaGreat
open Go.RowKit Go.ChangeShapes Go.WideShapes Go.ChangeAt
set_option maxRecDepth 100000

theorem kidsP : Kids Tryz.prog (· < Tryz.prog.types.size) := kids_rows kR kR
theorem fullP : ∀ t e, t < Tryz.prog.types.size → Tryz.prog.underlying t = some (.slice e) → 0 < Tryz.prog.cellsOf e := slices_full_of Tryz.prog kR

section
variable {H : Type} {enc : TypeId × Value → H} {P : Program} {W W' : World}
theorem trodAll_carryW {base : Nat} {sp : Nat → Bool} {held : Bool} : ∀ {ts : List TypeId} {vs : List Value} {ds : List (DataW H)} {ps : List MemPlace}, DataW.TrodAll enc P W base sp held ts vs ds ps → (∀ p ∈ ps, W.sameAt W' p) → DataW.TrodAll enc P W' base sp held ts vs ds ps
 | [], [], [], _, h, _ => h
 | _ :: _, _ :: _, _ :: _, _, ⟨p, q, ⟨n, h1⟩, h2, e⟩, hs => ⟨p, q, ⟨n, DataW.trod_carry n _ _ _ h1 (fun x hx => hs x (by rw [e]; exact List.mem_append_left _ hx))⟩, trodAll_carryW h2 (fun x hx => hs x (by rw [e]; exact List.mem_append_right _ hx)), e⟩
theorem sameAt_below (hb : Below W.heap.size W W') {p : MemPlace} (h : p.block < W.heap.size) : W.sameAt W' p := by
 cases p with
 | cell b off => exact (hb.cell (p := ⟨b, off, none⟩) h)
 | map b => exact hb.block b h
theorem kept_below (hb : Below W.heap.size W W') (may : MemPlace → Prop) : W.keptBut W' may := by
 refine ⟨hb.os, hb.output, fun i hi => ?_⟩
 rw [hb.block i hi]
 cases h : W.heap[i]? with
 | none => rfl
 | some o =>
  cases o with
  | cells c t fr => exact ⟨rfl, rfl, rfl, fun _ _ => rfl⟩
  | map es clock => exact .inr ⟨rfl, rfl⟩
  | _ => rfl
/-- a law that returns true and turns nothing that was there. -/
theorem law_post {f : Func} {s : ChangeSpec} {args : Array Value} {ds gs : List (DataW H)} {before : List MemPlace} (hv : s.vars = []) (hr : f.resultTypes = #[4]) (hp : ∀ t ∈ f.params.toList, t < Tryz.prog.types.size)
   (hs : (s.fn H ds).results = [.lit (.bool true)] ∧ (s.fn H ds).args = ds ∧ (s.fn H ds).vars = [])
   (hW : DataW.Whole enc Tryz.prog f.params.toList s.vars false W args.toList ds gs before) (hb : Below W.heap.size W W') : s.post enc Tryz.prog f false true false false W args (.bool true) W' := by
 have hlt := hW.lt
 have hW' := hW
 obtain ⟨p, q, hA, hV, rfl, hfz, _⟩ := hW
 rw [hv] at hV
 have hgs : gs = [] ∧ q = [] := by
  cases gs with
  | nil => exact ⟨rfl, hV⟩
  | cons g gs => exact absurd hV id
 obtain ⟨rfl, rfl⟩ := hgs
 simp only [List.append_nil] at hlt hW' ⊢
 have hsame : ∀ p' ∈ p, W.sameAt W' p' := fun p' hp' => sameAt_below hb (hlt p' hp')
 refine ⟨ds, [], p, [], p, [], hW', ?_, ?_, ?_, kept_below hb _, fun h => by cases h⟩
 ·rw [List.append_nil, hs.1, hr]
  exact trodAll_cons_mk (shut_bool Tryz.underlying4 _) trodAll_mk0
 ·rw [List.append_nil, hs.2.1]
  exact DataW.TrodAll.respare kidsP fullP hp (trodAll_carryW hA hsame) (fun p' hp' => by simpa using hlt p' hp')
 ·rw [List.append_nil, hs.2.2, hv]
  rfl
end
end Go.Proofs.YtglpfpdomnllkaaGreat

namespace Go.Proofs.YtglpfpdomnllkaaGreat
open Go.RowKit Go.ChangeShapes Go.WideShapes Go.ChangeAt Go.Joins Go.Deep
set_option maxRecDepth 100000
theorem cellsInt : Tryz.prog.cellsOf 3 = 1 := by kernel_rfl
theorem inI_wf {x : Int} (h : (Lit.int .i64 x).wf = true) : InI x := by
 simp [Lit.wf, IntKind.min, IntKind.max, IntKind.bits, IntKind.signed] at h
 unfold InI
 omega
section
variable {H : Type} {enc : TypeId × Value → H} {W : World}
theorem ints_of_cells {a : Addr} {zs : List Int} {len cap : Nat} (hl : len ≤ cap) (hm : cap ≤ maxLen) (hz : len ≤ zs.length) (hc : ∀ i, i < zs.length → W.cell? (a.add i) = some (.int .i64 (zs.getD i 0))) : Ints W (some a) cap (zs.take len) := by
 have hlen : (zs.take len).length = len := by simp; omega
 refine ⟨cIntS, by rw [hlen]; exact hl, hm, fun h => (by cases h), fun j u hj => ?_⟩
 have hfm : ((zs.take len).flatMap fun x => (cInt x).cells.toList) = (zs.take len).map fun x => Value.int .i64 x := by
  generalize zs.take len = l
  induction l with
  | nil => rfl
  | cons x r ih => rw [List.flatMap_cons, ih]; rfl
 rw [hfm, List.getElem?_map] at hj
 have hjl : j < len := by
  obtain ⟨x, hx, _⟩ := Option.map_eq_some_iff.1 hj
  have := (List.getElem?_eq_some_iff.1 hx).1
  simp at this; omega
 have h0 := hc 0 (by omega)
 have hsp : a.spot = none := by
  unfold World.cell? Addr.add at h0
  simp only [if_pos] at h0
  split at h0
  ·split at h0
   ·cases h0
   ·next h => simpa using h
  ·cases h0
 refine ⟨a.block, a.off, by rw [← hsp], ?_⟩
 have hj0 := hc j (by omega)
 have e : a.add j = ⟨a.block, a.off + j, none⟩ := by
  unfold Addr.add
  split
  ·next h => subst h; rw [← hsp]; rfl
  ·rfl
 rw [e] at hj0
 rw [hj0, ← hj]
 have h2 : j < zs.length := by omega
 simp [List.getElem?_take, hjl, h2]
theorem open_intsA {r : Reach} {b0 : Nat} {v : Value} {d : DataW H} {ps : List MemPlace} (hval : Value.okWide Tryz.prog W r b0 22 v) (h : DataW.Trod enc Tryz.prog W 0 (fun _ => true) true 22 v d ps) : ∃ a cap l, v = .slice a l.length cap ∧ Ints W a cap l ∧ ∀ x ∈ l, InI x := by
 obtain ⟨a0, len, cap, rfl⟩ := okWide_slice Tryz.underlying22 hval
 obtain ⟨fuel, hf⟩ := h
 rcases open_ints Tryz.underlying22 Tryz.underlying3 cellsInt hf with ⟨hcs, _⟩ | ⟨a, len', cap', zs, hcs, _, hl, hm, hz, _, hcell, hwz⟩
 ·simp [Value.cells] at hcs
  obtain ⟨rfl, rfl, rfl⟩ := hcs
  exact ⟨_, _, [], rfl, ints_nil W, fun x hx => by cases hx⟩
 ·simp [Value.cells] at hcs
  obtain ⟨rfl, rfl, rfl⟩ := hcs
  simp only [if_true] at hz
  have hlen : (zs.take len).length = len := by simp; omega
  refine ⟨some a, cap, zs.take len, by rw [hlen], ints_of_cells hl hm (by omega) hcell, fun x hx => ?_⟩
  exact inI_wf (hwz x (List.mem_of_mem_take hx))
theorem open_intA {r : Reach} {b0 : Nat} {v : Value} {d : DataW H} {ps : List MemPlace} (hval : Value.okWide Tryz.prog W r b0 3 v) (h : DataW.Trod enc Tryz.prog W 0 (fun _ => true) true 3 v d ps) : ∃ x : Int, v = .int .i64 x ∧ InI x := by
 obtain ⟨y, rfl⟩ := okWide_int Tryz.underlying3 hval
 obtain ⟨n, hn⟩ := h
 obtain ⟨x, e, _, w0⟩ := DataW.trod_int Tryz.underlying3 hn
 simp [Value.cells] at e
 subst e
 exact ⟨y, rfl, inI_wf w0⟩
end
end Go.Proofs.YtglpfpdomnllkaaGreat

namespace Go.Proofs.YtglpfpdomnllkaaGreat
open Go.RowKit Go.ChangeShapes Go.WideShapes Go.ChangeAt Go.Joins Go.Deep
set_option maxRecDepth 100000

section
variable {H : Type} {enc : TypeId × Value → H} {W : World}
end
end Go.Proofs.YtglpfpdomnllkaaGreat

namespace Go.Proofs.YtglpfpdomnllkaaGreat
open Go.RowKit Go.ChangeShapes Go.WideShapes Go.ChangeAt Go.Joins Go.Deep
set_option maxRecDepth 100000

section
variable {H : Type} {enc : TypeId × Value → H} {W : World}
end
end Go.Proofs.YtglpfpdomnllkaaGreat

namespace Go.Proofs.YtglpfpdomnllkaaGreat
set_option maxRecDepth 100000
theorem orderM_isP {m : MacV} {l : List Int} (h : LoadOk m l) : IsP (orderM m l) := by
 have hlo := h.ok.lo
 refine ⟨fun x h0 h1 => ?_, fun x y a b c d e => ?_⟩
 ·have hm := (orderM_mem (by omega) h.rng h.nodup).1 (atD_memZ h0 h1)
  rw [orderM_length (by omega) h.rng h.nodup]
  exact hm
 ·obtain ⟨i, rfl⟩ : ∃ i : Nat, x = i := ⟨x.toNat, by omega⟩
  obtain ⟨j, rfl⟩ : ∃ j : Nat, y = j := ⟨y.toNat, by omega⟩
  have hn := orderM_nodup m l
  rcases Nat.lt_trichotomy i j with hij | hij | hij
  ·exact absurd e (by first | exact nodup_ne hn hij (by omega) | exact (nodup_ne hn hij (by omega)).symm)
  ·rw [hij]
  ·exact absurd e (by first | exact nodup_ne hn hij (by omega) | exact (nodup_ne hn hij (by omega)).symm)
/-- what a law of two times needs. -/
structure Wv (m : MacV) (l : List Int) (A B N : Nat) : Prop where
 ordE : ∀ k : Nat, k ≤ N → orderE m (atL m l k) = 0
 crE : ∀ k : Nat, k ≤ N → crossE m (atL m l k) = 0
 row : ∀ k : Nat, k ≤ N → orderM m (atL m l k) = (wvM m l k).1
 st1 : ∀ k : Nat, stepsE m (atL m l k) 1 = 0
 map1 : ∀ k : Nat, (atL m l k).map (fun s => itM m s (1 : Int).toNat) = atL m l (k + 1)
 chk : ∀ k : Nat, (if 4 * m.gears < ((atL m l k).length : Int) then (5 : Int) else loadGo m [] (atL m l k)) = 0
 wN : wrdE m l N = 0
 wS : (wrdL m l N).length ≤ 144
 vN : weaveE m l N = 0
 wA : wrdE m l A = 0
 wB : wrdE m (atL m l A) B = 0
 sA : stepsE m l A = 0
 two : wrdL m l N = wrdL m l A ++ wrdL m (atL m l A) B
 ip : IsP (orderM m l)
 olen : (orderM m l).length = l.length
theorem wv_ok {m : MacV} {l : List Int} (hf : Fits m l 6 6) (hr : m.ring = false) {A B N : Nat} (hA : A ≤ 12) (hB : B ≤ 12) (hN : N = A + B) (hm : meetsM m l N = false) : Wv m l A B N := by
 have he := hf.2.2.2
 have hl6 := hf.2.2.1
 have hlk := loadE_zero he
 have hlo := hlk.ok.lo
 have hm0 : ∀ a b : Nat, a + b ≤ N → meetsM m (atL m l a) (b : Int) = false := fun a b h => meets_later hlk hm (by omega)
 have lz := fun k => atL_load hlk k
 have mA : meetsM m l A = false := by have := hm0 0 A (by omega); rw [atL_zero] at this; exact this
 have w1 := wrdE_ok he hr (by omega) (Int.natCast_nonneg N) (by omega) hm
 refine ⟨fun k hk => order_ok (lz k) hr (hm0 k 0 (by omega)), fun k hk => cross_ok (lz k) (hm0 k 0 (by omega)), fun k hk => (wvM_row hr hlk.rng hm k (by omega)).symm, fun k => ?_, fun k => ?_, fun k => ?_, w1.1, w1.2, weaveE_ok he hr (by omega) (Int.natCast_nonneg N) (by omega) hm, (wrdE_ok he hr (by omega) (Int.natCast_nonneg A) (by omega) mA).1, (wrdE_ok (lz A) hr (by rw [atL_len]; omega) (Int.natCast_nonneg B) (by omega) (hm0 A B (by omega))).1, ?_, ?_, orderM_isP hlk, orderM_length (by omega) hlk.rng hlk.nodup⟩
 ·unfold stepsE; rw [if_neg (by simp [lz k]), if_neg (by decide)]
 ·have := atL_add m l 1 k
  rw [Nat.add_comm] at this; exact this
 ·have h1 := lz k
  unfold loadE at h1
  rw [if_neg (by simp [hlk.mac])] at h1
  exact h1
 ·unfold stepsE; rw [if_neg (by simp [he]), if_neg (by omega)]
 ·rw [hN] at hm ⊢
  exact wrd_two hr hlk hm
end Go.Proofs.YtglpfpdomnllkaaGreat

namespace Go.Proofs.YtglpfpdomnllkaaGreat
open Go.RowKit
set_option maxHeartbeats 8000000
set_option maxRecDepth 100000
abbrev cT (x : Int × Int × Int) : Value := .agg #[.int .i64 x.1, .int .i64 x.2.1, .int .i64 x.2.2]
end Go.Proofs.YtglpfpdomnllkaaGreat

namespace Go.Proofs.YtglpfpdomnllkaaGreat
set_option maxRecDepth 100000
theorem swp_swap {r : List Int} {p : Nat} (h : p + 1 < r.length) : swpL r p = swapL r ((p : Int) + 1) :=
 ext_atD (by rw [swp_length, swapL_len]) fun j j0 j1 => by
  rw [swp_atD h j0, swapL_at (by omega) (by omega) j0, show (p : Int) + 1 - 1 = p by omega]
theorem swapL_map {r : List Int} {k : Int} (f : Int → Int) (h1 : 1 ≤ k) (h2 : k < r.length) : (swapL r k).map f = swapL (r.map f) k := by
 have e : ∀ (l : List Int) (j : Int), 0 ≤ j → j < l.length → atD 0 (l.map f) j = f (atD 0 l j) := fun l j j0 j1 => by
  obtain ⟨i, rfl⟩ : ∃ i : Nat, j = i := ⟨j.toNat, by omega⟩
  exact atD_map2 (by omega)
 refine ext_atD (by rw [List.length_map, swapL_len, swapL_len, List.length_map]) fun j j0 j1 => ?_
 rw [List.length_map, swapL_len] at j1
 have hs := sw_rng (f := k - 1) (t := k) (n := r.length) ⟨by omega, by omega⟩ ⟨by omega, h2⟩ ⟨j0, j1⟩
 rw [e _ _ j0 (by rw [swapL_len]; exact j1), swapL_at h1 h2 j0, swapL_at h1 (by rw [List.length_map]; exact h2) j0, e _ _ hs.1 hs.2]
theorem row5_snoc (st w : List Int) (x : Int) : row5 st (w ++ [x]) = swapL (row5 st w) (absI x) := by
 induction w generalizing st with
 | nil => rfl
 | cons y w ih => rw [List.cons_append, row5, row5, ih]
def LetRng (k : Nat) (w : List Int) : Prop := ∀ x ∈ w, 1 ≤ absI x ∧ absI x < (k : Int)
theorem letRng_snoc {k : Nat} {w : List Int} {x : Int} (h : LetRng k w) (h1 : 1 ≤ absI x) (h2 : absI x < k) : LetRng k (w ++ [x]) := fun y hy => by
 rcases List.mem_append.1 hy with hy | hy
 ·exact h y hy
 ·rw [List.mem_singleton.1 hy]; exact ⟨h1, h2⟩
theorem row5_VP {k : Nat} {w : List Int} (h : LetRng k w) : VP k (row5 (idL k) w) :=
 ⟨row5_isP w _ (idL_isP k) (fun x hx => by rw [idL_len]; exact h x hx), by rw [row5_len, idL_len]⟩
theorem map_id_atD (l : List Int) : (idL l.length).map (atD 0 l) = l := by
 refine ext_atD (by rw [List.length_map, idL_len]) fun j j0 j1 => ?_
 rw [List.length_map, idL_len] at j1
 obtain ⟨i, rfl⟩ : ∃ i : Nat, j = i := ⟨j.toNat, by omega⟩
 rw [atD_map2 (by rw [idL_len]; omega), idL_at j0 j1]
section
variable {m : MacV} {l : List Int} {n : Int}
/-- the row is the first order, led by the letters so far; the letters are letters. -/
def RowIs (m : MacV) (l : List Int) (st : List Int × List Int) : Prop := st.1 = (row5 (idL l.length) st.2).map (atD 0 (orderM m l)) ∧ LetRng l.length st.2
theorem rowIs_stC (hr : m.ring = false) (h : LoadOk m l) (hm : meetsM m l n = false) {j : Nat} (hj : (j : Int) ≤ n) (h0 : RowIs m l (wvM m l j)) : ∀ i : Nat, i ≤ (crossM m (atL m l j)).length → RowIs m l (stC m l j i)
 | 0, _ => h0
 | i + 1, hi => by
   obtain ⟨a, b⟩ := rowIs_stC hr h hm hj h0 i (by omega)
   obtain ⟨p, hp, hst, _, hl⟩ := stC_step hr h hm hj (N := j + 1) (by omega) (i := i) (by omega)
   obtain ⟨x, hx⟩ : ∃ x, x = atD 0 (wvM m l (j + 1)).2 (stC m l j i).2.length := ⟨_, rfl⟩
   rw [← hx] at hst hl
   have hlen : (stC m l j i).1.length = l.length := by rw [a, List.length_map, row5_len, idL_len]
   have hax : absI x = (p : Int) + 1 := by
     unfold absI
     rcases hl with ⟨e, _⟩ | ⟨e, _⟩ <;> rw [e] <;> split <;> omega
   refine ⟨?_, ?_⟩
   · rw [hst]
     dsimp only
     rw [row5_snoc, hax, swapL_map _ (by omega) (by rw [row5_len, idL_len]; omega), ← a]
     exact swp_swap hp
   · rw [hst]
     exact letRng_snoc b (by omega) (by omega)
theorem rowIs_wv (hr : m.ring = false) (h : LoadOk m l) (hm : meetsM m l n = false) : ∀ j : Nat, (j : Int) ≤ n + 1 → RowIs m l (wvM m l j)
 | 0, _ => by
   have hlo := h.ok.lo
   have e : (orderM m l).length = l.length := orderM_length (by omega) h.rng h.nodup
   refine ⟨?_, fun x hx => by simp [wvM] at hx⟩
   show orderM m l = (idL l.length).map (atD 0 (orderM m l))
   rw [← e, map_id_atD]
 | j + 1, hj => by
   rw [← stC_last]
   exact rowIs_stC hr h hm (by omega) (rowIs_wv hr h hm j (by omega)) _ (Nat.le_refl _)
theorem wrd_rng (hr : m.ring = false) (h : LoadOk m l) {N : Nat} (hm : meetsM m l N = false) : LetRng l.length (wrdL m l N) := (rowIs_wv hr h hm N (by omega)).2
/-- the strands stand where the permutation of the word takes them. -/
theorem strands_perm (hr : m.ring = false) (h : LoadOk m l) {N : Nat} (hm : meetsM m l N = false) : strandsL m l N = permB l.length (wrdL m l N) := by
 have hlo := h.ok.lo
 have e : (orderM m l).length = l.length := orderM_length (by omega) h.rng h.nodup
 obtain ⟨a, b⟩ := rowIs_wv hr h hm N (by omega)
 have hv := row5_VP b
 have hip := orderM_isP h
 have hts : (strandsL m l N).length = l.length := by unfold strandsL; rw [List.length_map, e]
 have hrow := wvM_row hr h.rng hm N (Int.le_refl _)
 refine ext_atD (by unfold permB; rw [hts, invL_len, row5_len, idL_len]) fun j j0 j1 => ?_
 rw [hts] at j1
 obtain ⟨i, rfl⟩ : ∃ i : Nat, j = i := ⟨j.toNat, by omega⟩
 obtain ⟨K, k0, k1, k2, -⟩ := later_at (n := (N : Int)) (by omega) h.rng h.nodup (atL_rng h.rng N) (atL_nodup h.rng h.nodup N) (i := i) (by omega)
 replace k0 : K < (orderM m (atL m l N)).length := k0
 replace k2 : atD 0 (orderM m (atL m l N)) (K : Int) = atD 0 (orderM m l) i := k2
 rw [← hrow, a] at k0 k2
 rw [List.length_map, row5_len, idL_len] at k0
 rw [atD_map2 (by rw [row5_len, idL_len]; exact k0)] at k2
 have hx := hv.rg (x := (K : Int)) (by omega) (by omega)
 have he := hip.inj _ _ hx.1 (by rw [e]; exact hx.2) (by omega) (by rw [e]; omega) k2
 have hq := hv.qp (x := (K : Int)) (by omega) (by omega)
 rw [he] at hq
 rw [k1]
 exact hq.symm
end
def linkF (s : List (List Int) × List Int) (x : Int) : List (List Int) × List Int := (addM s.1 (atD 0 s.2 (absI x - 1)) (atD 0 s.2 (absI x)) (sgnI x), swapL s.2 (absI x))
theorem linkGo_fold : ∀ (w : List Int) (M : List (List Int)) (st : List Int), w.foldl linkF (M, st) = (linkGo M st w, row5 st w)
 | [], _, _ => rfl
 | x :: r, M, st => by rw [List.foldl_cons, linkGo, row5]; exact linkGo_fold r _ _
theorem linkL_snoc (k : Nat) (w : List Int) (x : Int) : linkL k (w ++ [x]) = addM (linkL k w) (atD 0 (row5 (idL k) w) (absI x - 1)) (atD 0 (row5 (idL k) w) (absI x)) (sgnI x) := by
 have h := linkGo_fold (w ++ [x]) (zeroM k) (idL k)
 rw [List.foldl_append, linkGo_fold w] at h
 exact (congrArg Prod.fst h).symm
theorem sgn_eq {x : Int} (h : x ≠ 0) : max (-1) (min 1 x) = sgnI x := by unfold sgnI; split <;> omega
/-- a crossing of carriers, at their first positions, adds what its letter adds. -/
theorem woven_step {m : MacV} {l : List Int} {n : Int} (hr : m.ring = false) (h : LoadOk m l) (hm : meetsM m l n = false) {j i N : Nat} (hj : (j : Int) ≤ n) (hN : j < N) (hi : i < (crossM m (atL m l j)).length) :
  (stC m l j i).2.length < (wvM m l N).2.length ∧ (stC m l j (i + 1)).2 = (stC m l j i).2 ++ [atD 0 (wvM m l N).2 (stC m l j i).2.length] ∧ atD 0 (wvM m l N).2 (stC m l j i).2.length ≠ 0 ∧
  ∃ y, y = atD (⟨0, 0, 0, 0⟩ : CrM) (crossM m (atL m l j)) i ∧ (0 ≤ y.over ∧ y.over < l.length) ∧ (0 ≤ y.under ∧ y.under < l.length) ∧
   (0 ≤ atD 0 (invL (orderM m l)) y.over ∧ atD 0 (invL (orderM m l)) y.over < l.length) ∧ (0 ≤ atD 0 (invL (orderM m l)) y.under ∧ atD 0 (invL (orderM m l)) y.under < l.length) ∧
   linkL l.length (stC m l j (i + 1)).2 = addM (linkL l.length (stC m l j i).2) (atD 0 (invL (orderM m l)) y.over) (atD 0 (invL (orderM m l)) y.under) (sgnI (atD 0 (wvM m l N).2 (stC m l j i).2.length)) := by
 have hlo := h.ok.lo
 have e : (orderM m l).length = l.length := orderM_length (by omega) h.rng h.nodup
 have hV : VP l.length (orderM m l) := ⟨orderM_isP h, e⟩
 obtain ⟨a, b⟩ := rowIs_stC hr h hm hj (rowIs_wv hr h hm j (by omega)) i (by omega)
 obtain ⟨p, hp, hst, hz, hl⟩ := stC_step hr h hm hj hN hi
 have hlen : (stC m l j i).1.length = l.length := by rw [a, List.length_map, row5_len, idL_len]
 have hX := row5_VP b
 obtain ⟨x, hx⟩ : ∃ x, x = atD 0 (wvM m l N).2 (stC m l j i).2.length := ⟨_, rfl⟩
 rw [← hx] at hst hl ⊢
 have hax : absI x = (p : Int) + 1 := by
  unfold absI
  rcases hl with ⟨e, _⟩ | ⟨e, _⟩ <;> rw [e] <;> split <;> omega
 have hs2 := congrArg Prod.snd hst
 dsimp only at hs2
 have x0 := hX.rg (x := (p : Int)) (by omega) (by omega)
 have x1 := hX.rg (x := (p : Int) + 1) (by omega) (by omega)
 have hne := hX.ne (j := p) (by omega)
 have rp : atD 0 (stC m l j i).1 (p : Int) = atD 0 (orderM m l) (atD 0 (row5 (idL l.length) (stC m l j i).2) p) := by
  rw [a]; exact atD_map2 (by rw [row5_len, idL_len]; omega)
 have rp1 : atD 0 (stC m l j i).1 ((p : Int) + 1) = atD 0 (orderM m l) (atD 0 (row5 (idL l.length) (stC m l j i).2) ((p : Int) + 1)) := by
  rw [a]
  have := atD_map2 (l := row5 (idL l.length) (stC m l j i).2) (f := atD 0 (orderM m l)) (i := p + 1) (by rw [row5_len, idL_len]; omega)
  rwa [show ((p + 1 : Nat) : Int) = (p : Int) + 1 by omega] at this
 have o0 := hV.rg x0.1 x0.2
 have o1 := hV.rg x1.1 x1.2
 have q0 := hV.qp x0.1 x0.2
 have q1 := hV.qp x1.1 x1.2
 rw [rp, rp1] at hl
 refine ⟨hz, hs2, fun e0 => by rw [e0] at hax; unfold absI at hax; simp at hax; omega, _, rfl, ?_⟩
 rw [hs2, linkL_snoc, hax, show (p : Int) + 1 - 1 = p by omega]
 rcases hl with ⟨_, h1, h2⟩ | ⟨_, h1, h2⟩
 ·rw [h1, h2, q0, q1]
  exact ⟨o0, o1, x0, x1, rfl⟩
 ·rw [h1, h2, q0, q1]
  exact ⟨o1, o0, x1, x0, addM_symm _ (by omega)⟩
end Go.Proofs.YtglpfpdomnllkaaGreat

namespace Go.Proofs.YtglpfpdomnllkaaGreat
set_option maxRecDepth 100000
/-- the strand that is above in a letter. -/
def overO (st : List Int) (x : Int) : Int := if x < 0 then atD 0 st (absI x) else atD 0 st (absI x - 1)
def seenGo : List Int → List Int → List Int
 | _, [] => []
 | st, x :: r => overO st x :: seenGo (swapL st (absI x)) r
theorem seenGo_len : ∀ (w st : List Int), (seenGo st w).length = w.length
 | [], _ => rfl
 | x :: w, st => by rw [seenGo, List.length_cons, List.length_cons, seenGo_len w]
section
variable {m : MacV} {l l' : List Int} {τ : Int → Int} {n : Int}
end
end Go.Proofs.YtglpfpdomnllkaaGreat

namespace Go.Proofs.YtglpfpdomnllkaaGreat
set_option maxRecDepth 100000
section
variable {k : Nat} {w : List Int}
end
/-- the strands above in the crossings are the ones that are seen, told from 1 on. -/
theorem cross_fst : ∀ (ws st : List Int), ((rowGo st [] ws).2).map Prod.fst = seenGo st ws
 | [], _ => rfl
 | x :: r, st => by
   rw [rowGo, rowGo_cr, List.map_append, cross_fst r, seenGo]
   show [(crossOf st x).1] ++ _ = _
   have : (crossOf st x).1 = overO st x := by unfold crossOf overO; split <;> rfl
   rw [this]; rfl
end Go.Proofs.YtglpfpdomnllkaaGreat

namespace Go.Proofs.YtglpfpdomnllkaaGreat
open Go.RowKit
set_option maxHeartbeats 1000000
set_option maxRecDepth 100000

theorem wordE_fit {n : Int} {l : List Int} (h1 : 1 ≤ n) (h2 : n ≤ 12) (hl : l.length ≤ 200) (hf : ∀ x ∈ l, 1 ≤ absI x ∧ absI x < n) : wordE n l = 0 := by
 rw [wordE_any (by unfold strandsE; rw [if_neg (by omega)]) hl]
 rw [if_neg]
 intro h
 obtain ⟨x, hx, hb⟩ := List.any_eq_true.1 h
 obtain ⟨a, b⟩ := hf x hx
 unfold outB at hb
 unfold absI at a b
 simp at hb
 split at a <;> split at b <;> omega
end Go.Proofs.YtglpfpdomnllkaaGreat
