/- Contracts and plain facts that the claim uses (QrR TuP RmP K8p K8a). Conditions: as each one states. -/
import Derived.RangeFuncNested
import Derived.RangeFuncBound
import Derived.RangeFuncCalls
import Derived.RangeFuncLeaves
import Derived.RangeFuncFrom
import Derived.Shelf.Abstract
import Derived.Shelf.RegionOpen
import Derived.WalkKit
import Derived.OwnWalkIn
import Derived.TacticsInMore
import Derived.LoopNIn
import Derived.LoopIn
import Derived.Test.YtoebgfgihfjnnaaGreatDoorProg
import Derived.WalkSpells
import Derived.Maps.AppendAt
import Derived.Deep.Quiet
import Derived.Maps.Own
import Derived.Maps.OwnSet
import Derived.Maps.Views
import Derived.WalkLawsBesides
import Derived.Laws.EntriesVeiled
import Derived.Deep.QuietTactic
import Derived.BigQuiet
import Derived.Shelf.Strings.Trim
import Derived.Shelf.Strings.SlTrimAscii
import Derived.Shelf.Strings.Repeat
import Derived.Shelf.Strings.OnBuilder
import Derived.Shelf.Strconv.Itoa1
import Derived.Shelf.Strconv.Itoa3
import Derived.Shelf.LaysM
import Derived.Ground.Names2Prog
import Derived.Lib.OthersKept
import Derived.Deep.RegionHeld3
import Derived.Deep.AppendLies
import Derived.Deep.RegionHeldLaw
import Derived.Deep.RegionLaw
import Derived.StillTail
import Derived.Laws.Tables
import Derived.IntWalk
import Derived.Laws.CopyOwn
import Derived.BigRegion
import Derived.ChangeAlike
import Derived.Shelf.Bits.Mul64
import Derived.Lib.ItoaLen
import Derived.Lib.ItoaMem
import Derived.Sort.LoopGhostIn
import Derived.Maps.RangeWalk
import Derived.Maps.Ext
import Derived.Sort.QuietThIn
import Derived.Deep.LoopGhost
import Derived.Lib.Split
import Derived.Lib.AtoiAll
import Derived.Shelf.Strconv.ErrVarAll
import Derived.Shelf.Strconv.AtoiAll
import Derived.Shelf.Strings.Cut
import Derived.Shelf.Strings.Split
import Derived.Shelf.Strings.SplitShaped
import Derived.Lib.AppendIntMem
import Derived.Lib.SmallJoins
import Derived.LaidSub
import Derived.Lib.LaidTab
import Derived.Lib.AtoiErrMem
import Derived.Stop.LaidErr
import Derived.ReadAgain
import Derived.ChangeSlices
import Derived.OpenShut
import Derived.ProofKit
import Derived.Deep.DeepHandedRow
import Derived.Deep.SlicePairs
import Derived.Test.YtoebgfgihfjnnaaGreatDoorXz01
import Derived.Test.YtoebgfgihfjnnaaGreatDoorXz02
import Derived.Test.YtoebgfgihfjnnaaGreatDoorXz03
import Derived.Test.YtoebgfgihfjnnaaGreatDoorXz04
import Derived.Test.YtoebgfgihfjnnaaGreatDoorXz05
import Derived.Test.YtoebgfgihfjnnaaGreatDoorXz06
import Derived.Test.YtoebgfgihfjnnaaGreatDoorXz07
import Derived.Test.YtoebgfgihfjnnaaGreatDoorXz08
import Derived.Test.YtoebgfgihfjnnaaGreatDoorXz09
import Derived.Test.YtoebgfgihfjnnaaGreatDoorXz10
import Derived.Test.YtoebgfgihfjnnaaGreatDoorXz11
import Derived.Test.YtoebgfgihfjnnaaGreatDoorXz12
import Derived.Test.YtoebgfgihfjnnaaGreatDoorY4801
set_option linter.all false

namespace Go.Proofs.YtoebgfgihfjnnaaGreatDoor
set_option maxRecDepth 100000
/-- the first one of the greatest loads that begin with l and go on with slots from s on (f slots are left). -/
noncomputable def bestF (m : MacV) : Nat → List Int → Int → List Int
 | 0, l, _ => l
 | f + 1, l, s => bigger (if apartM m s l then bestF m f (l ++ [s]) (s + 1) else l) (bestF m f l (s + 1))
theorem bigger_len2 (a b : List Int) : (bigger a b).length = max a.length b.length := by
 unfold bigger; split <;> omega
theorem bigger_assoc (a b c : List Int) : bigger (bigger a b) c = bigger a (bigger b c) := by
 unfold bigger
 by_cases h1 : a.length < b.length
 ·rw [if_pos h1]
  by_cases h2 : b.length < c.length
  ·rw [if_pos h2, if_pos (by omega)]
  ·rw [if_neg h2, if_pos h1]
 ·rw [if_neg h1]
  by_cases h2 : b.length < c.length
  ·rw [if_pos h2]
  ·rw [if_neg h2, if_neg h1, if_neg (by omega)]
theorem bigger_keep {a b : List Int} (h : b.length ≤ a.length) : bigger a b = a := by unfold bigger; rw [if_neg (by omega)]
theorem bestF_ge (m : MacV) : ∀ (f : Nat) (l : List Int) (s : Int), l.length ≤ (bestF m f l s).length
 | 0, l, s => Nat.le_refl _
 | f + 1, l, s => by
   rw [bestF, bigger_len2]
   have := bestF_ge m f l (s + 1)
   omega
theorem bestF_le (m : MacV) : ∀ (f : Nat) (l : List Int) (s : Int), (bestF m f l s).length ≤ l.length + f
 | 0, l, s => Nat.le_refl _
 | f + 1, l, s => by
   rw [bestF, bigger_len2]
   have h1 := bestF_le m f l (s + 1)
   split
   · have h2 := bestF_le m f (l ++ [s]) (s + 1)
     rw [List.length_append, List.length_singleton] at h2
     omega
   · omega
theorem bestF_eq (m : MacV) : ∀ (f : Nat) (l : List Int) (s : Int), (bestF m f l s).length ≤ l.length → bestF m f l s = l
 | 0, l, s, h => rfl
 | f + 1, l, s, h => by
   rw [bestF] at h ⊢
   rw [bigger_len2] at h
   by_cases ha : apartM m s l = true
   · rw [if_pos ha] at h
     have := bestF_ge m f (l ++ [s]) (s + 1)
     rw [List.length_append, List.length_singleton] at this
     omega
   · rw [if_neg ha]
     rw [if_neg ha] at h
     rw [bestF_eq m f l (s + 1) (by omega)]
     exact bigger_keep (Nat.le_refl _)
/-- the program's search. -/
theorem extF_best (m : MacV) : ∀ (f : Nat) (best l : List Int) (s : Int), l.length ≤ best.length → extF m f best l s = bigger best (bestF m f l s)
 | 0, best, l, s, h => by rw [extF, bestF, bigger_keep h]
 | f + 1, best, l, s, h => by
   rw [extF]
   by_cases hp : best.length < l.length + (f + 1)
   · rw [if_pos hp, bestF]
     by_cases ha : apartM m s l = true
     · rw [if_pos ha, if_pos ha]
       have h1 : extF m f (bigger best (l ++ [s])) (l ++ [s]) (s + 1) = bigger best (bestF m f (l ++ [s]) (s + 1)) := by
         rw [extF_best m f _ _ _ (by rw [bigger_len2]; omega), bigger_assoc]
         congr 1
         have hg := bestF_ge m f (l ++ [s]) (s + 1)
         unfold bigger
         by_cases he : (l ++ [s]).length < (bestF m f (l ++ [s]) (s + 1)).length
         · rw [if_pos he]
         · rw [if_neg he]
           exact (bestF_eq m f (l ++ [s]) (s + 1) (by omega)).symm
       rw [h1, extF_best m f _ _ _ (by rw [bigger_len2]; omega), bigger_assoc]
     · rw [if_neg ha, if_neg ha, extF_best m f _ _ _ h]
       congr 1
       have hg := bestF_ge m f l (s + 1)
       unfold bigger
       by_cases he : l.length < (bestF m f l (s + 1)).length
       · rw [if_pos he]
       · rw [if_neg he]
         exact bestF_eq m f l (s + 1) (by omega)
   · rw [if_neg hp, bigger_keep]
     have := bestF_le m (f + 1) l s
     omega
theorem fillM_best (m : MacV) : fillM m = bestF m (4 * m.gears).toNat [] 0 := by
 unfold fillM
 rw [extF_best m _ _ _ _ (Nat.le_refl _)]
 unfold bigger
 by_cases h : ([] : List Int).length < (bestF m (4 * m.gears).toNat [] 0).length
 ·rw [if_pos h]
 ·rw [if_neg h]
  simp only [List.length_nil, Nat.not_lt, Nat.le_zero] at h
  exact (List.eq_nil_of_length_eq_zero h).symm
end Go.Proofs.YtoebgfgihfjnnaaGreatDoor

namespace Go.Proofs.YtoebgfgihfjnnaaGreatDoor
set_option maxRecDepth 100000
theorem loadGo_ok (m : MacV) : ∀ (l pre : List Int), (∀ x ∈ l, 0 ≤ x ∧ x < 4 * m.gears) → (pre ++ l).Nodup → loadGo m pre l = 0
 | [], pre, _, _ => rfl
 | s :: r, pre, h, hn => by
   have hs := h s (by simp)
   have h2 : s ∉ pre := fun hm => by
     have := (List.nodup_append.1 hn).2.2 s hm s (by simp)
     exact this rfl
   rw [loadGo, if_neg (by omega), if_neg h2]
   exact loadGo_ok m r (pre ++ [s]) (fun x hx => h x (List.mem_cons_of_mem _ hx)) (by simpa using hn)
theorem loadE_ok {m : MacV} {l : List Int} (hm : macE m = 0) (hr : ∀ x ∈ l, 0 ≤ x ∧ x < 4 * m.gears) (hn : l.Nodup) : loadE m l = 0 := by
 have hle : (l.length : Int) ≤ 4 * m.gears := by
  have hg := (macE_zero hm).1.lo
  have := nodup_le (4 * m.gears).toNat l hn (fun x hx => by have := hr x hx; omega)
  omega
 unfold loadE
 rw [if_neg (by simp [hm]), if_neg (by omega)]
 exact loadGo_ok m l [] hr (by simpa using hn)
end Go.Proofs.YtoebgfgihfjnnaaGreatDoor

namespace Go.Proofs.YtoebgfgihfjnnaaGreatDoor
set_option maxRecDepth 100000
theorem meet_none_iff {m : MacV} {a b : Int} : meetM m a b = none ↔ ∀ k, hitM m (itM m a k) (itM m b k) = false := by
 have hs := meetM_spec m a b
 constructor
 ·intro h; rw [h] at hs; exact hs
 ·intro h
  cases hm : meetM m a b with
  | none => rfl
  | some v => rw [hm] at hs; have := h v.1; rw [hs.1] at this; cases this
theorem meet_symm {m : MacV} {a b : Int} : meetM m a b = none ↔ meetM m b a = none := by
 rw [meet_none_iff, meet_none_iff]
 constructor
 ·intro h k; rw [hitM_symm]; exact h k
 ·intro h k; rw [hitM_symm]; exact h k
/-- no two ever meet. -/
def AllA (m : MacV) (l : List Int) : Prop := ∀ x ∈ l, ∀ y ∈ l, x ≠ y → meetM m x y = none
theorem at_memI {l : List Int} {i : Nat} (h : i < l.length) : atD 0 l i ∈ l := by
 have e : atD 0 l (i : Int) = l[i] := by simp [atD, h]
 rw [e]; exact List.getElem_mem h
theorem first_all {m : MacV} {l : List Int} (hn : l.Nodup) : firstM m l = none ↔ AllA m l := by
 obtain ⟨s1, s2⟩ := foldF_spec m (pairsTo l l.length) none
 constructor
 ·intro h x hx y hy hxy
  have k := (s1 h).2
  obtain ⟨i, hi, rfl⟩ := List.mem_iff_getElem.1 hx
  obtain ⟨j, hj, rfl⟩ := List.mem_iff_getElem.1 hy
  have ei : atD 0 l (i : Int) = l[i] := by simp [atD, hi]
  have ej : atD 0 l (j : Int) = l[j] := by simp [atD, hj]
  rcases Nat.lt_trichotomy j i with hl | hl | hl
  ·have := k _ ((pairsTo_mem (Nat.le_refl _)).2 ⟨i, j, hl, hi, rfl⟩)
   rw [ei, ej] at this; exact this
  ·subst hl; exact absurd rfl hxy
  ·have := k _ ((pairsTo_mem (Nat.le_refl _)).2 ⟨j, i, hl, hj, rfl⟩)
   rw [ei, ej] at this; exact meet_symm.1 this
 ·intro h
  cases hf : firstM m l with
  | none => rfl
  | some v =>
   obtain ⟨_, _, k3⟩ := s2 v hf
   rcases k3 with k3 | ⟨p, hp, e⟩
   ·cases k3
   ·obtain ⟨i, j, hji, hi, rfl⟩ := (pairsTo_mem (Nat.le_refl _)).1 hp
    have hne : atD 0 l (i : Int) ≠ atD 0 l (j : Int) := fun e2 => nodup_ne hn hji hi e2.symm
    rw [h _ (at_memI hi) _ (at_memI (by omega)) hne] at e
    cases e
theorem apart_iff {m : MacV} {s : Int} {l : List Int} : apartM m s l = true ↔ ∀ b ∈ l, b ≠ s ∧ meetM m s b = none := by
 unfold apartM hurtM
 simp only [Bool.not_eq_true', List.any_eq_false, Bool.or_eq_true, decide_eq_true_eq, not_or]
 constructor
 ·intro h b hb
  obtain ⟨h1, h2⟩ := h b hb
  exact ⟨h1, by simpa using h2⟩
 ·intro h b hb
  obtain ⟨h1, h2⟩ := h b hb
  exact ⟨h1, by simp [h2]⟩
theorem all_snoc {m : MacV} {s : Int} {l : List Int} (hs : s ∉ l) : AllA m (l ++ [s]) ↔ AllA m l ∧ apartM m s l = true := by
 rw [apart_iff]
 constructor
 ·intro h
  refine ⟨fun x hx y hy => h x (by simp [hx]) y (by simp [hy]), fun b hb => ?_⟩
  have hne : b ≠ s := fun e => hs (e ▸ hb)
  exact ⟨hne, h s (by simp) b (by simp [hb]) (fun e => hne e.symm)⟩
 ·rintro ⟨h1, h2⟩ x hx y hy hxy
  rcases List.mem_append.1 hx with hx2 | hx2
  ·rcases List.mem_append.1 hy with hy | hy
   ·exact h1 x hx2 y hy hxy
   ·simp only [List.mem_singleton] at hy; subst hy; exact meet_symm.1 (h2 x hx2).2
  ·simp only [List.mem_singleton] at hx2; subst hx2
   rcases List.mem_append.1 hy with hy | hy
   ·exact (h2 y hy).2
   ·simp at hy; exact absurd hy.symm hxy
structure GoodL (m : MacV) (l : List Int) (s : Int) : Prop where
 all : AllA m l
 asc : l.Pairwise (· < ·)
 rng : ∀ x ∈ l, 0 ≤ x ∧ x < s
theorem GoodL.mono {m : MacV} {l : List Int} {s t : Int} (h : GoodL m l s) (hst : s ≤ t) : GoodL m l t := ⟨h.all, h.asc, fun x hx => by have := h.rng x hx; omega⟩
theorem GoodL.snoc {m : MacV} {l : List Int} {s : Int} (h : GoodL m l s) (h0 : 0 ≤ s) (ha : apartM m s l = true) : GoodL m (l ++ [s]) (s + 1) := by
 have hs : s ∉ l := fun hm => by have := h.rng s hm; omega
 refine ⟨(all_snoc hs).2 ⟨h.all, ha⟩, ?_, fun x hx => ?_⟩
 ·rw [List.pairwise_append]
  refine ⟨h.asc, by simp, fun a hal b hb => ?_⟩
  simp only [List.mem_singleton] at hb; subst hb
  exact (h.rng a hal).2
 ·rcases List.mem_append.1 hx with hx | hx
  ·have := h.rng x hx; omega
  ·simp at hx; subst hx; omega
theorem bestF_good (m : MacV) : ∀ (f : Nat) (l : List Int) (s : Int), 0 ≤ s → GoodL m l s → GoodL m (bestF m f l s) (s + f)
 | 0, l, s, h0, h => h.mono (by omega)
 | f + 1, l, s, h0, h => by
   rw [bestF]
   have h2 := bestF_good m f l (s + 1) (by omega) (h.mono (by omega))
   have e : s + 1 + (f : Int) = s + ((f + 1 : Nat) : Int) := by omega
   rw [e] at h2
   have h3 : GoodL m (if apartM m s l then bestF m f (l ++ [s]) (s + 1) else l) (s + ((f + 1 : Nat) : Int)) := by
     by_cases ha : apartM m s l = true
     · rw [if_pos ha]
       have h3 := bestF_good m f (l ++ [s]) (s + 1) (by omega) (h.snoc h0 ha)
       rw [e] at h3
       exact h3
     · rw [if_neg ha]
       exact h.mono (by omega)
   generalize (if apartM m s l then bestF m f (l ++ [s]) (s + 1) else l) = q at h3
   unfold bigger
   by_cases hc : q.length < (bestF m f l (s + 1)).length
   · rw [if_pos hc]; exact h2
   · rw [if_neg hc]; exact h3
theorem bestF_max (m : MacV) : ∀ (f : Nat) (l : List Int) (s : Int) (r : List Int), r.Pairwise (· < ·) → (∀ x ∈ r, s ≤ x ∧ x < s + f) → (∀ x ∈ l, x < s) → AllA m (l ++ r) → l.length + r.length ≤ (bestF m f l s).length
 | 0, l, s, r, _, hr, _, _ => by
   cases r with
   | nil => exact Nat.le_refl _
   | cons x t => have := hr x (by simp); omega
 | f + 1, l, s, r, hp, hr, hl, ha => by
   cases r with
   | nil => exact bestF_ge m _ l s
   | cons x t =>
     rw [bestF, bigger_len2]
     have hpt := List.pairwise_cons.1 hp
     have hx := hr x (by simp)
     by_cases e : x = s
     · subst e
       have hxl : x ∉ l := fun hm => by have := hl x hm; omega
       have eA : l ++ x :: t = (l ++ [x]) ++ t := by simp
       rw [eA] at ha
       have hA : AllA m (l ++ [x]) := fun a h1 b h2 => ha a (List.mem_append_left _ h1) b (List.mem_append_left _ h2)
       have hap := ((all_snoc hxl).1 hA).2
       rw [if_pos hap]
       have ih := bestF_max m f (l ++ [x]) (x + 1) t hpt.2 (fun y hy => by have h1 := hpt.1 y hy; have h2 := hr y (by simp [hy]); omega) (fun y hy => by
         rcases List.mem_append.1 hy with hy | hy
         · have := hl y hy; omega
         · simp at hy; omega) ha
       rw [List.length_append, List.length_singleton] at ih
       rw [List.length_cons]
       omega
     · have ih := bestF_max m f l (s + 1) (x :: t) hp (fun y hy => by
         rcases List.mem_cons.1 hy with rfl | h
         · have := hr y (by simp); omega
         · have h1 := hpt.1 y h; have h2 := hr y (by simp [h]); omega) (fun y hy => by have := hl y hy; omega) ha
       omega
theorem slotsL_asc (m : MacV) : (slotsL m).Pairwise (· < ·) := by
 unfold slotsL
 rw [List.pairwise_map]
 exact List.pairwise_lt_range.imp fun h => by omega
theorem slotsL_mem {m : MacV} {s : Int} : s ∈ slotsL m ↔ 0 ≤ s ∧ s < 4 * m.gears := by
 unfold slotsL
 rw [List.mem_map]
 constructor
 ·rintro ⟨i, hi, rfl⟩
  have := List.mem_range.1 hi
  omega
 ·intro h
  exact ⟨s.toNat, List.mem_range.2 (by omega), by omega⟩
theorem nodup_sub_len {l r : List Int} (hn : l.Nodup) (h : ∀ x ∈ l, x ∈ r) : l.length ≤ r.length := by
 induction l generalizing r with
 | nil => simp
 | cons x t ih =>
  obtain ⟨h1, h2⟩ := List.nodup_cons.1 hn
  have hx := h x (by simp)
  have := ih (r := r.erase x) h2 fun y hy => (List.mem_erase_of_ne (fun e : y = x => h1 (by rw [← e]; exact hy))).2 (h y (by simp [hy]))
  rw [List.length_erase_of_mem hx] at this
  have hp : 0 < r.length := List.length_pos_of_mem hx
  rw [List.length_cons]; omega
/-- no load that is accepted has more carriers. -/
theorem fill_max {m : MacV} {l : List Int} (h : LoadOk m l) (hf : firstM m l = none) : l.length ≤ (fillM m).length := by
 have hA := (first_all h.nodup).1 hf
 have hlo := h.ok.lo
 have hb := bestF_max m (4 * m.gears).toNat [] 0 ((slotsL m).filter fun s => decide (s ∈ l)) ((slotsL_asc m).filter _) (fun x hx => by
  have := slotsL_mem.1 (List.mem_filter.1 hx).1; omega) (fun x hx => by cases hx) (by
  rw [List.nil_append]
  intro x hx y hy hxy
  exact hA x (by simpa using (List.mem_filter.1 hx).2) y (by simpa using (List.mem_filter.1 hy).2) hxy)
 rw [← fillM_best] at hb
 have hs := nodup_sub_len (r := (slotsL m).filter fun s => decide (s ∈ l)) h.nodup fun x hx => List.mem_filter.2 ⟨slotsL_mem.2 (h.rng x hx), by simpa using hx⟩
 simp only [List.length_nil, Nat.zero_add] at hb
 omega
theorem asc_nodup {l : List Int} (h : l.Pairwise (· < ·)) : l.Nodup := by
 rw [List.nodup_iff_pairwise_ne]
 exact h.imp fun h => by omega
theorem fill_good {m : MacV} (hg : 0 ≤ m.gears) : GoodL m (fillM m) (4 * m.gears) := by
 have h0 : GoodL m [] 0 := { all := fun x hx => (by cases hx), asc := List.Pairwise.nil, rng := fun x hx => (by cases hx) }
 have := bestF_good m (4 * m.gears).toNat [] 0 (by omega) h0
 rw [← fillM_best] at this
 exact this.mono (by omega)
/-- the greatest load is accepted. -/
theorem fill_acc {m : MacV} (hm : macE m = 0) : loadE m (fillM m) = 0 ∧ firstM m (fillM m) = none := by
 have hg := (macE_zero hm).1.lo
 have h := fill_good (m := m) (by omega)
 exact ⟨loadE_ok hm h.rng (asc_nodup h.asc), (first_all (asc_nodup h.asc)).2 h.all⟩
theorem snoc_load {m : MacV} {l : List Int} {s : Int} (h : LoadOk m l) (h0 : 0 ≤ s) (h1 : s < 4 * m.gears) (hs : s ∉ l) : loadE m (l ++ [s]) = 0 := by
 refine loadE_ok h.mac (fun x hx => ?_) ?_
 ·rcases List.mem_append.1 hx with hx | hx
  ·exact h.rng x hx
  ·simp at hx; subst hx; exact ⟨h0, h1⟩
 ·rw [List.nodup_append]
  refine ⟨h.nodup, by simp, fun a ha b hb e => ?_⟩
  simp at hb; subst hb; subst e; exact hs ha
/-- one carrier more. -/
theorem acc_snoc {m : MacV} {l : List Int} {s : Int} (h : LoadOk m l) (hf : firstM m l = none) (h0 : 0 ≤ s) (h1 : s < 4 * m.gears) (hs : s ∉ l) : accE m (l ++ [s]) = if apartM m s l then 0 else 16 := by
 have hz := snoc_load h h0 h1 hs
 have hok := loadE_zero hz
 unfold accE
 rw [if_neg (by simp [hz])]
 have hA := (first_all h.nodup).1 hf
 by_cases ha : apartM m s l = true
 ·rw [if_pos ha, (first_all hok.nodup).2 ((all_snoc hs).2 ⟨hA, ha⟩)]; rfl
 ·rw [if_neg ha]
  cases hq : firstM m (l ++ [s]) with
  | none => exact absurd ((all_snoc hs).1 ((first_all hok.nodup).1 hq)).2 ha
  | some v => rfl
theorem free_more {m : MacV} {l : List Int} (h : LoadOk m l) (hf : firstM m l = none) (hne : freeM m l ≠ []) : l.length < (fillM m).length := by
 obtain ⟨s, hs⟩ := List.exists_mem_of_ne_nil _ hne
 unfold freeM at hs
 obtain ⟨h1, h2⟩ := List.mem_filter.1 hs
 have hr := slotsL_mem.1 h1
 have hn : s ∉ l := fun hm => ((apart_iff.1 h2) s hm).1 rfl
 have hz := snoc_load h hr.1 hr.2 hn
 have hok := loadE_zero hz
 have hq : firstM m (l ++ [s]) = none := (first_all hok.nodup).2 ((all_snoc hn).2 ⟨(first_all h.nodup).1 hf, h2⟩)
 have := fill_max hok hq
 rw [List.length_append, List.length_singleton] at this
 omega
theorem free_fill {m : MacV} (hm : macE m = 0) : freeM m (fillM m) = [] := by
 obtain ⟨a, b⟩ := fill_acc hm
 refine Classical.byContradiction fun h => ?_
 have := free_more (loadE_zero a) b h
 omega
theorem fill_asc {m : MacV} (hm : macE m = 0) {i : Nat} (h0 : 0 < i) (h : i < (fillM m).length) : atD 0 (fillM m) ((i : Int) - 1) < atD 0 (fillM m) i := by
 have hg := (macE_zero hm).1.lo
 have ha := (fill_good (m := m) (by omega)).asc
 rw [List.pairwise_iff_getElem] at ha
 have := ha (i - 1) i (by omega) h (by omega)
 have e1 : atD 0 (fillM m) ((i : Int) - 1) = (fillM m)[i - 1] := by
  have : ((i : Int) - 1).toNat = i - 1 := by omega
  have h2 : i - 1 < (fillM m).length := by omega
  simp [atD, this, h2]
 have e2 : atD 0 (fillM m) (i : Int) = (fillM m)[i] := by simp [atD, h]
 rw [e1, e2]; exact this
/-- the free slots ahead of one. -/
noncomputable def freeN (m : MacV) (l : List Int) (k : Nat) : Nat := (((slotsL m).take k).filter fun s => apartM m s l).length
theorem freeN_succ {m : MacV} {l : List Int} {k : Nat} (h : k < (slotsL m).length) : freeN m l (k + 1) = freeN m l k + if apartM m k l then 1 else 0 := by
 unfold freeN
 rw [slotsL_take m h, List.filter_append, List.length_append]
 by_cases ha : apartM m (k : Int) l = true
 ·simp [ha]
 ·simp [ha]
theorem freeN_all (m : MacV) (l : List Int) : freeN m l (slotsL m).length = (freeM m l).length := by
 unfold freeN freeM; rw [List.take_length]
theorem free_at {m : MacV} {l : List Int} {k : Nat} (h : k < (slotsL m).length) : (freeN m l k < (freeM m l).length ∧ atD 0 (freeM m l) (freeN m l k) = k) ↔ apartM m k l = true := by
 have e : freeM m l = ((slotsL m).take k).filter (fun s => apartM m s l) ++ ((slotsL m).drop k).filter (fun s => apartM m s l) := by
  unfold freeM
  rw [← List.filter_append, List.take_append_drop]
 have ek : (slotsL m)[k] = (k : Int) := by simp [slotsL]
 rw [List.drop_eq_getElem_cons h, ek, List.filter_cons] at e
 have hat : atD 0 (freeM m l) (freeN m l k) = (if apartM m k l then (k : Int) :: ((slotsL m).drop (k + 1)).filter (fun s => apartM m s l) else ((slotsL m).drop (k + 1)).filter (fun s => apartM m s l)).getD 0 0 := by
  unfold atD freeN
  rw [e]
  simp only [Int.toNat_natCast, List.getD_eq_getElem?_getD]
  rw [List.getElem?_append_right (Nat.le_refl _), Nat.sub_self]
 constructor
 ·rintro ⟨h1, h2⟩
  refine Classical.byContradiction fun ha => ?_
  rw [hat, if_neg ha] at h2
  have hl : freeN m l k < (((slotsL m).take k).filter (fun s => apartM m s l) ++ ((slotsL m).drop (k + 1)).filter (fun s => apartM m s l)).length := by
   rw [if_neg ha] at e; rw [← e]; exact h1
  rw [List.length_append] at hl
  unfold freeN at hl
  cases hd : ((slotsL m).drop (k + 1)).filter (fun s => apartM m s l) with
  | nil => rw [hd] at hl; simp at hl
  | cons x t =>
   rw [hd] at h2
   simp at h2
   have hx : x ∈ ((slotsL m).drop (k + 1)).filter (fun s => apartM m s l) := by rw [hd]; simp
   have hx2 := (List.mem_filter.1 hx).1
   obtain ⟨i, hi, e3⟩ := List.mem_iff_getElem.1 hx2
   rw [List.getElem_drop] at e3
   have : (slotsL m)[k + 1 + i]'(by rw [List.length_drop] at hi; omega) = ((k + 1 + i : Nat) : Int) := by simp [slotsL]
   rw [this] at e3
   omega
 ·intro ha
  rw [hat, if_pos ha]
  refine ⟨?_, rfl⟩
  rw [e, if_pos ha, List.length_append, List.length_cons]
  unfold freeN
  omega
theorem apart_out {m : MacV} {s : Int} {l : List Int} (h : apartM m s l = true) : s ∉ l := fun hm => ((apart_iff.1 h) s hm).1 rfl
end Go.Proofs.YtoebgfgihfjnnaaGreatDoor

namespace Go.Proofs.YtoebgfgihfjnnaaGreatDoor
open Go.RowKit
set_option maxHeartbeats 8000000
set_option maxRecDepth 100000
theorem wpList_unguard {P : Program} {ops : Array Oper} {rest : List Oper} {a : Act} {Q : Exit → Act → World → Prop} {w : World} {d : Option Tmp} {op : Op} {ty : TypeId} {p : String} {af : Array Edge} {g : Option (Nat × Bool)}
  (hg : Region.wanted (⟨d, op, ty, p, af, g⟩ : Oper) (yielded ops a.tmps) = true) (h : wpList P ops Q (⟨d, op, ty, p, af, none⟩ :: rest) a w) : wpList P ops Q (⟨d, op, ty, p, af, g⟩ :: rest) a w := by
 unfold wpList at h ⊢
 rw [if_pos hg]
 rw [if_pos (show Region.wanted (⟨d, op, ty, p, af, none⟩ : Oper) (yielded ops a.tmps) = true from rfl)] at h
 exact h
/-- a number of a list, up to a place. -/
theorem take_has {l : List Int} {s : Int} {j : Nat} (h : j < l.length) : decide (s ∈ l.take (j + 1)) = (decide (s ∈ l.take j) || (atD 0 l j == s)) := by
 rw [take_snoc h]
 by_cases h1 : s ∈ l.take j
 ·rw [decide_eq_true h1, decide_eq_true (List.mem_append_left _ h1)]; rfl
 ·rw [decide_eq_false h1]
  by_cases h2 : atD 0 l j = s
  ·rw [decide_eq_true (List.mem_append_right _ (by rw [h2]; simp))]; simp [h2]
  ·rw [decide_eq_false]
   ·simp [h2]
   ·intro hm
    rcases List.mem_append.1 hm with hm | hm
    ·exact h1 hm
    ·simp at hm; exact h2 hm.symm
end Go.Proofs.YtoebgfgihfjnnaaGreatDoor

namespace Go.Proofs.YtoebgfgihfjnnaaGreatDoor
open Go.RowKit
set_option maxHeartbeats 8000000
set_option maxRecDepth 100000
theorem mo_bad (m : MacV) (ad al : Option Addr) (cap cl : Nat) (l : List Int) (w : World) (hR : Ints w ad cap m.sw) (hL : Ints w al cl l) (hI : InI m.gears) (hw : LibW w) (hf : Fits m l 3 8) (hacc : accE m l ≠ 0) :
  Calls Tryz.prog 7 #[mV m ad cap, .slice al l.length cl] w fun r w' => r = .returned (.bool true) ∧ Below w.heap.size w w' := by
 have hS0 := (SL.nil w).box (.cells (mC m ad cap) 24)
 have HA := hid awake4_any
 have hlc := hL.le
 have hlm := hL.max
 have he := hf.2.2.2
 have hlk := loadE_zero he
 have hm := hlk.mac
 have hok := hlk.ok
 have hl8 := hf.2.2.1
 have hg3 := hf.2.1
 have hlo := hok.lo
 have hhi := hok.hi
 obtain ⟨N, hN⟩ : ∃ N : Nat, 4 * m.gears = N := ⟨(4 * m.gears).toNat, by omega⟩
 have hN64 : N ≤ 12 := by omega
 have KM : ∀ (a : Option Addr) (c : Nat), ChkM m a c := fun a c w h => CheckMachine_any m a c w h hI
 have hfe : fillE m = 0 := by unfold fillE; rw [if_neg (by simp [hm]), if_neg (by omega)]
 obtain ⟨fa1, fa2⟩ := fill_acc hm
 have hae : accE m (fillM m) = 0 := by unfold accE; rw [if_neg (by simp [fa1]), fa2]; rfl
 have hff := free_fill hm
 have hfl : (fillM m).length ≤ 64 := by
  have := bestF_le m (4 * m.gears).toNat [] 0
  rw [← fillM_best] at this
  simp at this
  omega
 have hcl : (if 4 * m.gears < ((fillM m).length : Int) then (5 : Int) else loadGo m [] (fillM m)) = 0 := by
  have h1 := fa1
  unfold loadE at h1
  rw [if_neg (by simp [hm])] at h1
  exact h1
 have CFI := fun w h => mFill_any m ad cap w h (KM _ _)
 rw [if_pos hfe, hfe] at CFI
 have CFF := fun (b : Option Addr) (d : Nat) w h h2 => mFree_any m ad cap b d (fillM m) w h h2 (CheckLoad_any m ad cap b d _ (KM _ _))
 rw [if_pos hae, hae, hff] at CFF
 have CCL := fun (b : Option Addr) (d : Nat) w h2 => rCheckLoad_any m ad cap b d (fillM m) w h2 hlo hhi
 rw [hcl] at CCL
 have CAF := fun (b : Option Addr) (d : Nat) w h h2 => mAccept_any m ad cap b d (fillM m) w h h2 (CheckLoad_any m ad cap b d _ (KM _ _))
 rw [hae] at CAF
 have hasc := fun (i : Nat) (h0 : 0 < i) (h : i < (fillM m).length) => fill_asc hm h0 h
 have CFR := fun w h h2 => mFree_any m ad cap al cl l w h h2 (CheckLoad_any m ad cap al cl l (KM _ _))
 have CAC := fun w h h2 => mAccept_any m ad cap al cl l w h h2 (CheckLoad_any m ad cap al cl l (KM _ _))
 have HF := hid (fun w h h2 => lfits_ok m ad al cap cl l 3 8 w h h2 hf)
 have hmx : 0 ≤ (fillM m).length := Nat.zero_le _
 have ha : accE m l = 16 := by
  unfold accE
  rw [if_neg (by simp [he])]
  unfold accE at hacc
  rw [if_neg (by simp [he])] at hacc
  split
  ·rfl
  ·rename_i h; rw [if_neg h] at hacc; exact absurd rfl hacc
 rw [ha, if_neg (by decide)] at CFR
 rw [ha] at CAC
 obtain ⟨FL, hFL⟩ : ∃ FL, FL = fillM m := ⟨_, rfl⟩
 rw [← hFL] at CFI CFF CCL CAF hfl hmx
 simp only [← hFL] at hasc
 have HFI := hid CFI; have HFF := hid CFF; have HCL := hid CCL; have HAF := hid CAF; have HASC := hid hasc; have HFR := hid CFR; have HAC := hid CAC
 clear CFI CFF CCL CAF hasc CFR CAC hFL hcl hff hae fa1 fa2 hfe hf he KM hlk hok
 go_enter Tryz.func7, Tryz.ntmps7
 go_wp2_with fail
 refine (HA.out _ (hw.below hS0.b)).mono ?_
 rintro e w1 ⟨rfl, b1⟩
 have hS1 := hS0.mono b1
 have q1_m := (hS1.blk 0 rfl).1
 clear hS0
 go_wp2_with (with_reducible refine wpList_ldS (n := 4) (us := mC m ad cap) A_mach kR wU wU (by assumption) wU wU ?_)
 refine (HF.out _ (hR.below hS1.b) (hL.below hS1.b)).mono ?_
 rintro e w2 ⟨rfl, b2⟩
 have hS2 := hS1.mono b2
 have q2_m := (hS2.blk 0 rfl).1
 clear hS1 q1_m
 go_wp2_with (with_reducible refine wpList_ldS (n := 4) (us := mC m ad cap) A_mach kR wU wU (by assumption) wU wU ?_)
 refine (HFI.out _ (hR.below hS2.b)).mono ?_
 rintro e w3 ⟨v3, rfl, ho3, b3⟩
 have hS3 := hS2.call (SL.ofOwn ho3 b3)
 simp only [List.cons_append, List.nil_append] at hS3
 have q3_m := (hS3.blk 1 rfl).1
 clear hS2 q2_m
 clear ho3 b3
 obtain ⟨aF, cF, rfl, _⟩ := hS3.slice 0 rfl
 go_wp2_with (with_reducible refine wpList_ldS (n := 4) (us := mC m ad cap) A_mach kR wU wU (by assumption) wU wU ?_)
 refine (HFF.out aF cF _ (hR.below hS3.b) (hS3.rd 0 rfl)).mono ?_
 rintro e w4 ⟨v4, rfl, ho4, b4⟩
 have hS4 := hS3.call (SL.ofOwn ho4 b4)
 simp only [List.cons_append, List.nil_append] at hS4
 have q4_m := (hS4.blk 2 rfl).1
 clear hS3 q3_m
 clear ho4 b4
 obtain ⟨aE, cE, rfl, _⟩ := hS4.slice 0 rfl
 go_wp2_with (with_reducible refine wpList_ldS (n := 4) (us := mC m ad cap) A_mach kR wU wU (by assumption) wU wU ?_)
 refine (HCL.out aF cF _ (hS4.rd 1 rfl)).mono ?_
 rintro e w5 ⟨rfl, b5⟩
 have hS5 := hS4.mono b5
 have q5_m := (hS5.blk 2 rfl).1
 clear hS4 q4_m
 go_wp2_with (with_reducible refine wpList_ldS (n := 4) (us := mC m ad cap) A_mach kR wU wU (by assumption) wU wU ?_)
 refine (HAF.out aF cF _ (hR.below hS5.b) (hS5.rd 1 rfl)).mono ?_
 rintro e w6 ⟨rfl, b6⟩
 have hS6 := hS5.mono b6
 have q6_m := (hS6.blk 2 rfl).1
 clear hS5 q5_m
 go_wp2_with fail
 have hF9 := (hS6.rd 1 rfl)
 have hb9 := hS6.b
 have hq9 := q6_m
 obtain ⟨wz, hwz⟩ : ∃ wz, wz = w6 := ⟨_, rfl⟩
 rw [← hwz] at hF9 hb9 hq9 ⊢
 clear hS6 q6_m hwz
 have hlt9 : w.heap.size < wz.heap.size := (Array.getElem?_eq_some_iff.1 hq9).1
 go_loopw [9] (fun iv wr => ∃ k : Nat, 1 ≤ k ∧ k ≤ FL.length + 1 ∧ iv = .int .i64 k ∧ Below wz.heap.size wz wr) (fun iv _ => FL.length + 1 - (intOf iv).toNat)
 case atStart => exact ⟨1, by omega, by omega, rfl, Below.refl _ _⟩
 case round =>
  obtain ⟨k, hk1, hk, rfl, hbr⟩ := hrel
  have hFr := hF9.below hbr
  by_cases hlt : k < FL.length
  ·have hxy := HASC.out k (by omega) hlt
   obtain ⟨x, hx⟩ : ∃ x, x = atD 0 FL k := ⟨_, rfl⟩
   obtain ⟨y, hy⟩ : ∃ y, y = atD 0 FL ((k : Int) - 1) := ⟨_, rfl⟩
   rw [← hx, ← hy] at hxy
   have hwk : IntKind.i64.wrap ((k : Int) - 1) = (k : Int) - 1 := IntWalk.i64_in _ (by omega)
   have hd : decide (x ≤ y) = false := decide_eq_false (by omega)
   have HX := hid hx; have HY := hid hy
   clear hx hy hxy
   go_wp2_with fail
   refine wp_region_q kR kR ?_
   repeat (first | (((with_reducible refine wpB_idx2 0 E_ints F_int cInt1 wU (rfl) wU (hFr) oD oD (fun _ => wU) (fun _ => ?_)); (try simp only [Act.put, pA, pB, pC]); (try simp only [cInt])); first | rw [← HX.out] | rw [← HY.out]) |  ((with_reducible refine wpB_load (by first | exact F_int | exact F_u64s) wU wU (by assumption) wU ?_); (try simp only [Act.put, pA, pB, pC])) | ((refine wpQ_oneG ?_ wU (fun w' => ?_) ?_); rotate_left; (go_simp; rfl); (try simp only [Act.put, pA, pB, pC])))
   refine wpQuiet_nil ?_
   intro wy hby
   go_wp2_with fail
   exact ⟨⟨k + 1, by omega, by omega, by go_num, bnext hbr hby⟩, by simp [intOf]; omega⟩
  ·have q1 := (hbr.block _ hlt9).trans hq9
   have hb1 := bnext hb9 hbr
   obtain ⟨we, rfl⟩ : ∃ we, we = wr := ⟨_, rfl⟩
   clear hFr hF9 hbr hq9 hb9 hlt9
   go_wp2_with (with_reducible refine wpList_ldS (n := 4) (us := mC m ad cap) A_mach kR wU wU (by assumption) wU wU ?_)
   refine (HFR.out _ (hR.below hb1) (hL.below hb1)).mono ?_
   rintro e w2 ⟨v2, rfl, ho2, b2⟩
   obtain ⟨a2, c2, rfl, h2, _, _⟩ := ho2.reps
   have hlt1 : w.heap.size < we.heap.size := (Array.getElem?_eq_some_iff.1 q1).1
   have q2 := (b2.block _ hlt1).trans q1
   have hb2 := bnext hb1 b2
   have hlt2 : w.heap.size < w2.heap.size := (Array.getElem?_eq_some_iff.1 q2).1
   clear ho2 q1
   go_wp2_with (with_reducible refine wpList_ldS (n := 4) (us := mC m ad cap) A_mach kR wU wU (by assumption) wU wU ?_)
   refine (HAC.out _ (hR.below hb2) (hL.below hb2)).mono ?_
   rintro e w3 ⟨rfl, b3⟩
   have hb3 := bnext hb2 b3
   go_wp2_with fail
   go_ret
   exact ⟨rfl, hb3⟩
theorem mo_good0 (m : MacV) (ad al : Option Addr) (cap cl : Nat) (l : List Int) (w : World) (hR : Ints w ad cap m.sw) (hL : Ints w al cl l) (hI : InI m.gears) (hw : LibW w) (hf : Fits m l 3 8) (hacc : accE m l = 0) (hz : ¬ 0 < (freeM m l).length) :
  Calls Tryz.prog 7 #[mV m ad cap, .slice al l.length cl] w fun r w' => r = .returned (.bool true) ∧ Below w.heap.size w w' := by
 have hS0 := (SL.nil w).box (.cells (mC m ad cap) 24)
 have HA := hid awake4_any
 have hlc := hL.le
 have hlm := hL.max
 have he := hf.2.2.2
 have hlk := loadE_zero he
 have hm := hlk.mac
 have hok := hlk.ok
 have hl8 := hf.2.2.1
 have hg3 := hf.2.1
 have hlo := hok.lo
 have hhi := hok.hi
 obtain ⟨N, hN⟩ : ∃ N : Nat, 4 * m.gears = N := ⟨(4 * m.gears).toNat, by omega⟩
 have hN64 : N ≤ 12 := by omega
 have KM : ∀ (a : Option Addr) (c : Nat), ChkM m a c := fun a c w h => CheckMachine_any m a c w h hI
 have hfe : fillE m = 0 := by unfold fillE; rw [if_neg (by simp [hm]), if_neg (by omega)]
 obtain ⟨fa1, fa2⟩ := fill_acc hm
 have hae : accE m (fillM m) = 0 := by unfold accE; rw [if_neg (by simp [fa1]), fa2]; rfl
 have hff := free_fill hm
 have hfl : (fillM m).length ≤ 64 := by
  have := bestF_le m (4 * m.gears).toNat [] 0
  rw [← fillM_best] at this
  simp at this
  omega
 have hcl : (if 4 * m.gears < ((fillM m).length : Int) then (5 : Int) else loadGo m [] (fillM m)) = 0 := by
  have h1 := fa1
  unfold loadE at h1
  rw [if_neg (by simp [hm])] at h1
  exact h1
 have CFI := fun w h => mFill_any m ad cap w h (KM _ _)
 rw [if_pos hfe, hfe] at CFI
 have CFF := fun (b : Option Addr) (d : Nat) w h h2 => mFree_any m ad cap b d (fillM m) w h h2 (CheckLoad_any m ad cap b d _ (KM _ _))
 rw [if_pos hae, hae, hff] at CFF
 have CCL := fun (b : Option Addr) (d : Nat) w h2 => rCheckLoad_any m ad cap b d (fillM m) w h2 hlo hhi
 rw [hcl] at CCL
 have CAF := fun (b : Option Addr) (d : Nat) w h h2 => mAccept_any m ad cap b d (fillM m) w h h2 (CheckLoad_any m ad cap b d _ (KM _ _))
 rw [hae] at CAF
 have hasc := fun (i : Nat) (h0 : 0 < i) (h : i < (fillM m).length) => fill_asc hm h0 h
 have CFR := fun w h h2 => mFree_any m ad cap al cl l w h h2 (CheckLoad_any m ad cap al cl l (KM _ _))
 have CAC := fun w h h2 => mAccept_any m ad cap al cl l w h h2 (CheckLoad_any m ad cap al cl l (KM _ _))
 have HF := hid (fun w h h2 => lfits_ok m ad al cap cl l 3 8 w h h2 hf)
 have hfn := (accE_zero hacc).2
 have hmx := fill_max hlk hfn
 rw [if_pos hacc, hacc] at CFR
 rw [hacc] at CAC
 have hmore : 0 < (freeM m l).length → l.length < (fillM m).length := fun h => free_more hlk hfn (List.length_pos_iff.1 h)
 have hsl : (slotsL m).length = N := by rw [slotsL_len]; omega
 have hfs := fun (k : Nat) (h : k < N) => freeN_succ (m := m) (l := l) (k := k) (by rw [hsl]; exact h)
 have hfa := fun (k : Nat) (h : k < N) => free_at (m := m) (l := l) (k := k) (by rw [hsl]; exact h)
 have hfz := freeN_all m l
 rw [hsl] at hfz
 have hout := fun (k : Nat) (h : apartM m (k : Int) l = true) => apart_out h
 have hfle : ∀ k, k ≤ N → freeN m l k ≤ 64 := fun k hk => by
  unfold freeN
  refine Nat.le_trans (List.length_filter_le _ _) ?_
  rw [List.length_take]; omega
 have CAN := fun (b : Option Addr) (d : Nat) (k : Nat) (hk : k < N) (hs : (k : Int) ∉ l) w h h2 => mAccept_any m ad cap b d (l ++ [(k : Int)]) w h h2 (CheckLoad_any m ad cap b d _ (KM _ _))
 have hac := fun (k : Nat) (hk : k < N) (hs : (k : Int) ∉ l) => acc_snoc hlk hfn (s := (k : Int)) (by omega) (by omega) hs
 obtain ⟨F2, hF2⟩ : ∃ F2, F2 = freeM m l := ⟨_, rfl⟩
 rw [← hF2] at CFR hmore hfz hz
 simp only [← hF2] at hfa
 have HFS := hid hfs; have HFA := hid hfa; have HFZ := hid hfz; have HOUT := hid hout; have HCAN := hid CAN; have HACN := hid hac; have HFLE := hid hfle
 have hwN : IntKind.i64.wrap (4 * m.gears) = (N : Int) := by rw [hN]; exact IntWalk.i64_in _ (by omega)
 obtain ⟨FL, hFL⟩ : ∃ FL, FL = fillM m := ⟨_, rfl⟩
 rw [← hFL] at CFI CFF CCL CAF hfl hmx hmore
 simp only [← hFL] at hasc
 have HMORE := hid hmore
 have HZ := hid hz
 have HFI := hid CFI; have HFF := hid CFF; have HCL := hid CCL; have HAF := hid CAF; have HASC := hid hasc; have HFR := hid CFR; have HAC := hid CAC
 clear CFI CFF CCL CAF hasc CFR CAC hFL hcl hff hae fa1 fa2 hfe hf he KM hlk hok hfs hfa hfz hout CAN hac hfle hmore hfn hsl hF2 hN hz
 go_enter Tryz.func7, Tryz.ntmps7
 go_wp2_with fail
 refine (HA.out _ (hw.below hS0.b)).mono ?_
 rintro e w1 ⟨rfl, b1⟩
 have hS1 := hS0.mono b1
 have q1_m := (hS1.blk 0 rfl).1
 clear hS0
 go_wp2_with (with_reducible refine wpList_ldS (n := 4) (us := mC m ad cap) A_mach kR wU wU (by assumption) wU wU ?_)
 refine (HF.out _ (hR.below hS1.b) (hL.below hS1.b)).mono ?_
 rintro e w2 ⟨rfl, b2⟩
 have hS2 := hS1.mono b2
 have q2_m := (hS2.blk 0 rfl).1
 clear hS1 q1_m
 go_wp2_with (with_reducible refine wpList_ldS (n := 4) (us := mC m ad cap) A_mach kR wU wU (by assumption) wU wU ?_)
 refine (HFI.out _ (hR.below hS2.b)).mono ?_
 rintro e w3 ⟨v3, rfl, ho3, b3⟩
 have hS3 := hS2.call (SL.ofOwn ho3 b3)
 simp only [List.cons_append, List.nil_append] at hS3
 have q3_m := (hS3.blk 1 rfl).1
 clear hS2 q2_m
 clear ho3 b3
 obtain ⟨aF, cF, rfl, _⟩ := hS3.slice 0 rfl
 go_wp2_with (with_reducible refine wpList_ldS (n := 4) (us := mC m ad cap) A_mach kR wU wU (by assumption) wU wU ?_)
 refine (HFF.out aF cF _ (hR.below hS3.b) (hS3.rd 0 rfl)).mono ?_
 rintro e w4 ⟨v4, rfl, ho4, b4⟩
 have hS4 := hS3.call (SL.ofOwn ho4 b4)
 simp only [List.cons_append, List.nil_append] at hS4
 have q4_m := (hS4.blk 2 rfl).1
 clear hS3 q3_m
 clear ho4 b4
 obtain ⟨aE, cE, rfl, _⟩ := hS4.slice 0 rfl
 go_wp2_with (with_reducible refine wpList_ldS (n := 4) (us := mC m ad cap) A_mach kR wU wU (by assumption) wU wU ?_)
 refine (HCL.out aF cF _ (hS4.rd 1 rfl)).mono ?_
 rintro e w5 ⟨rfl, b5⟩
 have hS5 := hS4.mono b5
 have q5_m := (hS5.blk 2 rfl).1
 clear hS4 q4_m
 go_wp2_with (with_reducible refine wpList_ldS (n := 4) (us := mC m ad cap) A_mach kR wU wU (by assumption) wU wU ?_)
 refine (HAF.out aF cF _ (hR.below hS5.b) (hS5.rd 1 rfl)).mono ?_
 rintro e w6 ⟨rfl, b6⟩
 have hS6 := hS5.mono b6
 have q6_m := (hS6.blk 2 rfl).1
 clear hS5 q5_m
 go_wp2_with fail
 have hF9 := (hS6.rd 1 rfl)
 have hb9 := hS6.b
 have hq9 := q6_m
 obtain ⟨wz, hwz⟩ : ∃ wz, wz = w6 := ⟨_, rfl⟩
 rw [← hwz] at hF9 hb9 hq9 ⊢
 clear hS6 q6_m hwz
 have hlt9 : w.heap.size < wz.heap.size := (Array.getElem?_eq_some_iff.1 hq9).1
 go_loopw [9] (fun iv wr => ∃ k : Nat, 1 ≤ k ∧ k ≤ FL.length + 1 ∧ iv = .int .i64 k ∧ Below wz.heap.size wz wr) (fun iv _ => FL.length + 1 - (intOf iv).toNat)
 case atStart => exact ⟨1, by omega, by omega, rfl, Below.refl _ _⟩
 case round =>
  obtain ⟨k, hk1, hk, rfl, hbr⟩ := hrel
  have hFr := hF9.below hbr
  by_cases hlt : k < FL.length
  ·have hxy := HASC.out k (by omega) hlt
   obtain ⟨x, hx⟩ : ∃ x, x = atD 0 FL k := ⟨_, rfl⟩
   obtain ⟨y, hy⟩ : ∃ y, y = atD 0 FL ((k : Int) - 1) := ⟨_, rfl⟩
   rw [← hx, ← hy] at hxy
   have hwk : IntKind.i64.wrap ((k : Int) - 1) = (k : Int) - 1 := IntWalk.i64_in _ (by omega)
   have hd : decide (x ≤ y) = false := decide_eq_false (by omega)
   have HX := hid hx; have HY := hid hy
   clear hx hy hxy
   go_wp2_with fail
   refine wp_region_q kR kR ?_
   repeat (first | (((with_reducible refine wpB_idx2 0 E_ints F_int cInt1 wU (rfl) wU (hFr) oD oD (fun _ => wU) (fun _ => ?_)); (try simp only [Act.put, pA, pB, pC]); (try simp only [cInt])); first | rw [← HX.out] | rw [← HY.out]) |  ((with_reducible refine wpB_load (by first | exact F_int | exact F_u64s) wU wU (by assumption) wU ?_); (try simp only [Act.put, pA, pB, pC])) | ((refine wpQ_oneG ?_ wU (fun w' => ?_) ?_); rotate_left; (go_simp; rfl); (try simp only [Act.put, pA, pB, pC])))
   refine wpQuiet_nil ?_
   intro wy hby
   go_wp2_with fail
   exact ⟨⟨k + 1, by omega, by omega, by go_num, bnext hbr hby⟩, by simp [intOf]; omega⟩
  ·have q1 := (hbr.block _ hlt9).trans hq9
   have hb1 := bnext hb9 hbr
   obtain ⟨we, rfl⟩ : ∃ we, we = wr := ⟨_, rfl⟩
   clear hFr hF9 hbr hq9 hb9 hlt9
   go_wp2_with (with_reducible refine wpList_ldS (n := 4) (us := mC m ad cap) A_mach kR wU wU (by assumption) wU wU ?_)
   refine (HFR.out _ (hR.below hb1) (hL.below hb1)).mono ?_
   rintro e w2 ⟨v2, rfl, ho2, b2⟩
   obtain ⟨a2, c2, rfl, h2, _, _⟩ := ho2.reps
   have hlt1 : w.heap.size < we.heap.size := (Array.getElem?_eq_some_iff.1 q1).1
   have q2 := (b2.block _ hlt1).trans q1
   have hb2 := bnext hb1 b2
   have hlt2 : w.heap.size < w2.heap.size := (Array.getElem?_eq_some_iff.1 q2).1
   clear ho2 q1
   go_wp2_with (with_reducible refine wpList_ldS (n := 4) (us := mC m ad cap) A_mach kR wU wU (by assumption) wU wU ?_)
   refine (HAC.out _ (hR.below hb2) (hL.below hb2)).mono ?_
   rintro e w3 ⟨rfl, b3⟩
   have hb3 := bnext hb2 b3
   have q3 := (b3.block _ hlt2).trans q2
   have h3 := h2.below b3
   clear h2 q2
   have z0 : ¬ 0 < F2.length := HZ.out
   have z1 : ¬ (0 : Int) < F2.length := by omega
   go_wp2_with (with_reducible refine wpList_ldB (by first | exact F_int | exact F_u64s) wU wU (by assumption) wU ?_)
   have hlt3 : w.heap.size < w3.heap.size := (Array.getElem?_eq_some_iff.1 q3).1
   go_loopw [116, 13, 14, 121, 16, 12, 17] (fun hv _ _ _ _ av _ wr => ∃ k : Nat, k ≤ N ∧ hv = .int .i64 k ∧ av = .int .i64 (freeN m l k) ∧ Below w3.heap.size w3 wr) (fun hv _ _ _ _ _ _ _ => N - (intOf hv).toNat)
   case atStart => exact ⟨0, by omega, rfl, by simp [freeN], Below.refl _ _⟩
   case round =>
    obtain ⟨k, hk, rfl, rfl, hb4⟩ := hrel
    have q4 := (hb4.block _ hlt3).trans q3
    have h2r := h3.below hb4
    have hRo := hR.below (bnext hb3 hb4)
    have hLo := hL.below (bnext hb3 hb4)
    have hfle := HFLE.out k hk
    obtain ⟨wo, rfl⟩ : ∃ wo, wo = wr := ⟨_, rfl⟩
    have hlt4 : w.heap.size < wo.heap.size := (Array.getElem?_eq_some_iff.1 q4).1
    by_cases hlt : k < N
    ·go_wp2_with fail
     go_loopw [121, 16, 14] (fun jv _ tv wq => ∃ j : Nat, j ≤ l.length ∧ jv = .int .i64 j ∧ tv = .bool (decide ((k : Int) ∈ l.take j)) ∧ Below wo.heap.size wo wq) (fun jv _ _ _ => l.length - (intOf jv).toNat)
     case atStart => exact ⟨0, by omega, rfl, by simp, Below.refl _ _⟩
     case round =>
      obtain ⟨j, hj, rfl, rfl, hbq⟩ := hrel
      have hLq := hLo.below hbq
      by_cases hjt : j < l.length
      ·have hth := take_has (s := (k : Int)) hjt
       obtain ⟨x, hx⟩ : ∃ x, x = atD 0 l j := ⟨_, rfl⟩
       rw [← hx] at hth
       have HX := hid hx
       clear hx
       cases htk : decide ((k : Int) ∈ l.take j)
       ·rw [htk] at hth
        have HTH := hid hth
        clear hth htk
        cases hxs : (x == (k : Int))
        all_goals
         have HXS := hid hxs
         go_wp2_with ((with_reducible refine wpList_idx _ 0 E_ints F_int cInt1 wU wU (hLq) oD oD (fun _ => wU) (fun _ => ?_)); rw [← HX.out])
         exact ⟨⟨j + 1, by omega, by go_num, by rw [HTH.out, HXS.out]; rfl, hbq⟩, by simp [intOf]; omega⟩
       ·rw [htk] at hth
        have HTH := hid hth
        clear hth htk
        go_wp2_with ((with_reducible refine wpList_idx _ 0 E_ints F_int cInt1 wU wU (hLq) oD oD (fun _ => wU) (fun _ => ?_)); rw [← HX.out])
        exact ⟨⟨j + 1, by omega, by go_num, by rw [HTH.out]; rfl, hbq⟩, by simp [intOf]; omega⟩
      ·have hjj : l.take j = l := List.take_of_length_le (by omega)
       rw [hjj]
       clear hLq hjj
       have h5 := h2r.below hbq
       have q5 := (hbq.block _ hlt4).trans q4
       have hlt5 : w.heap.size < wr.heap.size := (Array.getElem?_eq_some_iff.1 q5).1
       have hRr := hRo.below hbq
       have hLr := hLo.below hbq
       have hfa := HFA.out k hlt
       have hfs := HFS.out k hlt
       obtain ⟨n, hn⟩ : ∃ n, n = freeN m l k := ⟨_, rfl⟩
       rw [← hn] at hfa hfs hfle ⊢
       clear hn
       cases htk : decide ((k : Int) ∈ l)
       ·have hnot : (k : Int) ∉ l := of_decide_eq_false htk
        have hcan := HACN.out k hlt hnot
        have CA := fun b d => HCAN.out b d k hlt hnot
        rw [hcan] at CA
        cases hap : apartM m (k : Int) l
        ·rw [hap] at CA hfs hfa
         rw [if_neg (by decide)] at CA
         replace hfs : freeN m l (k + 1) = n := by rw [hfs]; rfl
         replace hfa : ¬ (n < F2.length ∧ atD 0 F2 n = (k : Int)) := fun h => by have h2 := hfa.1 h; cases h2
         have HCA := hid CA; have HFN := hid hfs
         clear CA hfs hcan hnot hap htk
         have hn5 : ¬ n < F2.length := by omega
         clear hfa
         go_wp2_with fail
         refine wp_regionK (C := Below (wr).heap.size (wr)) [0, 1, 2, 3, 5, 7, 12] [_, _, _, _, _, _, _] 8 (by simp only [List.map_cons, List.map_nil, List.getElem?_toArray]; rfl) rfl kR kR kR ((Below.refl _ _).drew) ?_
         refine ⟨_, yieldsK_val wU (fun w' => by with_unfolding_all exact rfl), ?_⟩
         go_frame
         refine ⟨.bool true, yieldsK_val wU (fun w' => by first | (go_simp; done) | (go_simp; rfl)), ?_⟩
         go_frame
         refine ⟨_, yieldsK_val wU (fun w' => by with_unfolding_all exact rfl), ?_⟩
         go_frame
         refine ⟨_, yieldsK_blkC (n := 4) A_mach kR (fun V h => (h.block _ hlt5).trans q5) rfl wU wU, ?_⟩
         go_frame
         refine ⟨_, yieldsK_val wU (fun w' => by with_unfolding_all exact rfl), ?_⟩
         go_frame
         refine ⟨_, yieldsK_val wU (fun w' => by with_unfolding_all exact rfl), ?_⟩
         go_frame
         refine ⟨_, yieldsK_val wU (fun w' => by with_unfolding_all exact rfl), ?_⟩
         go_frame
         unfold wpPureK
         have hVd : ({ wr with drawn := wr.drawn + 1 } : World) = wr.drew := rfl
         rw [hVd]
         have hT0 : SL wr.heap.size wr wr.drew [] := (SL.nil wr).drew
         refine wpAnyC_on [4, 8] kR (by simp) ?_
         simp only [List.forall_mem_cons, List.not_mem_nil, false_implies, implies_true, and_true]
         refine ⟨?_, ?_⟩
         ·have hT1 := (hT0).call (SL.ofOwn (own_newN (e := 3) (w := wr.drew) cIntS [] 0 rfl (by decide) #[] rfl (Nat.le_refl _) rfl) (bal (Below.refl _ _) _))
          simp only [List.cons_append, List.nil_append] at hT1
          refine wpOp_value (v := .slice (some ⟨(wr.drew).heap.size, 0, none⟩) 0 0) (w' := (wr.drew).alloc (.cells #[] 3)) (by rw [List.getElem?_toArray]; rfl) wU (by first | (go_simp; done) | (go_simp; rfl) | (simp [execOp, Act.eval, Result.andThen]; done)) ?_
          refine ⟨hT1.b, ?_⟩
          go_frame
          obtain ⟨VhT1, hVhT1⟩ : ∃ V, V = (wr.drew).alloc (.cells #[] 3) := ⟨_, rfl⟩
          obtain ⟨nhT1, hnhT1⟩ : ∃ b, b = (wr.drew).heap.size := ⟨_, rfl⟩
          rw [← hVhT1, ← hnhT1] at hT1
          simp only [← hVhT1, ← hnhT1]
          clear hVhT1 hnhT1
          refine wpAnyC_on [6, 8] kR (by simp) ?_
          simp only [List.forall_mem_cons, List.not_mem_nil, false_implies, implies_true, and_true]
          refine ⟨?_, ?_⟩
          ·refine wpOp_of_list (by rw [List.getElem?_toArray]; rfl) ?_
           refine wpList_unguard wU ?_
           ((with_reducible refine wpList_appL 0 E_ints wU wU (hT1) wU ((hLr.below hT1.b)) (rfl) cIntO (by first | omega | (simp; omega)) (by first | omega | (simp; omega)) ?_); intro v2 w2 hT2)
           rw [List.nil_append] at hT2
           refine ⟨hT2.b, ?_⟩
           go_frame
           refine wpAnyC_on [8] kR (by simp) ?_
           simp only [List.forall_mem_cons, List.not_mem_nil, false_implies, implies_true, and_true]
           have hT3 := (hT2).call (SL.ofOwn (own_newN (e := 3) (w := w2) cIntS [(k : Int)] 1 rfl (by decide) #[.int .i64 (k : Int)] rfl (Nat.le_refl _) rfl) (bal (Below.refl _ _) _))
           simp only [List.cons_append, List.nil_append] at hT3
           refine wpOp_value (v := .slice (some ⟨(w2).heap.size, 0, none⟩) 1 1) (w' := (w2).alloc (.cells #[.int .i64 (k : Int)] 3)) (by rw [List.getElem?_toArray]; rfl) wU (by first | (go_simp; done) | (go_simp; rfl) | (simp [execOp, Act.eval, Result.andThen]; done)) ?_
           refine ⟨hT3.b, ?_⟩
           go_frame
           obtain ⟨VhT3, hVhT3⟩ : ∃ V, V = (w2).alloc (.cells #[.int .i64 (k : Int)] 3) := ⟨_, rfl⟩
           obtain ⟨nhT3, hnhT3⟩ : ∃ b, b = (w2).heap.size := ⟨_, rfl⟩
           rw [← hVhT3, ← hnhT3] at hT3
           simp only [← hVhT3, ← hnhT3]
           clear hVhT3 hnhT3
           refine wpAnyC_on [9] kR (by simp) ?_
           simp only [List.forall_mem_cons, List.not_mem_nil, false_implies, implies_true, and_true]
           refine wpOp_of_list (by rw [List.getElem?_toArray]; rfl) ?_
           refine wpList_unguard wU ?_
           have hRb := hT3.rd 0 rfl
           ((with_reducible refine wpList_appL 1 E_ints wU wU (hT3) wU (hRb) (rfl) cIntO (by first | omega | (simp; omega)) (by first | omega | (simp; omega)) ?_); intro v4 w4 hT4)
           refine ⟨hT4.b, ?_⟩
           go_frame
           obtain ⟨a9, c9, rfl, hr9⟩ := hT4.slice 1 rfl
           refine wpAnyC_on [10] kR (by simp) ?_
           simp only [List.forall_mem_cons, List.not_mem_nil, false_implies, implies_true, and_true]
           refine wpOp_call (f := 50) (args := #[mV m ad cap, .slice a9 (l ++ [(k : Int)]).length c9]) (by rw [List.getElem?_toArray]; rfl) wU (by first | (go_simp; done) | (simp [execOp, Act.eval, Result.andThen]; done) | (simp [execOp, Act.eval, Result.andThen]; rfl)) ?_
           refine (HCA.out a9 c9 _ (hRr.below hT4.b) hr9).mono ?_
           rintro e w8 ⟨rfl, b8⟩
           have t8 := bnext hT4.b b8
           refine ⟨_, rfl, t8, ?_⟩
           go_frame
           refine wpAnyC_rest [11, 13, 14] [_, _, _] rfl (by simp only [List.map_cons, List.map_nil, List.getElem?_toArray]; rfl) kR kR kR (t8) ?_
           repeat (refine ⟨_, .inl ⟨by with_unfolding_all rfl, fun w' _ => by with_unfolding_all exact rfl⟩, ?_⟩; go_frame)
           unfold wpPure
           refine of_wpList_nil (P := Tryz.prog) (ops := #[]) ?_
           clear hT4
           go_wp2_with fail
           exact ⟨⟨k + 1, by omega, by go_num, by rw [HFN.out], bnext hb4 (bnext hbq t8)⟩, by simp [intOf]; omega⟩
          ·have hT2 := (hT1).call (SL.ofOwn (own_newN (e := 3) (w := VhT1) cIntS [(k : Int)] 1 rfl (by decide) #[.int .i64 (k : Int)] rfl (Nat.le_refl _) rfl) (bal (Below.refl _ _) _))
           simp only [List.cons_append, List.nil_append] at hT2
           refine wpOp_value (v := .slice (some ⟨(VhT1).heap.size, 0, none⟩) 1 1) (w' := (VhT1).alloc (.cells #[.int .i64 (k : Int)] 3)) (by rw [List.getElem?_toArray]; rfl) wU (by first | (go_simp; done) | (go_simp; rfl) | (simp [execOp, Act.eval, Result.andThen]; done)) ?_
           refine ⟨hT2.b, ?_⟩
           go_frame
           obtain ⟨VhT2, hVhT2⟩ : ∃ V, V = (VhT1).alloc (.cells #[.int .i64 (k : Int)] 3) := ⟨_, rfl⟩
           obtain ⟨nhT2, hnhT2⟩ : ∃ b, b = (VhT1).heap.size := ⟨_, rfl⟩
           rw [← hVhT2, ← hnhT2] at hT2
           simp only [← hVhT2, ← hnhT2]
           clear hVhT2 hnhT2
           refine wpAnyC_on [6] kR (by simp) ?_
           simp only [List.forall_mem_cons, List.not_mem_nil, false_implies, implies_true, and_true]
           refine wpOp_of_list (by rw [List.getElem?_toArray]; rfl) ?_
           refine wpList_unguard wU ?_
           ((with_reducible refine wpList_appL 1 E_ints wU wU (hT2) wU ((hLr.below hT2.b)) (rfl) cIntO (by first | omega | (simp; omega)) (by first | omega | (simp; omega)) ?_); intro v3 w3 hT3)
           rw [List.nil_append] at hT3
           refine ⟨hT3.b, ?_⟩
           go_frame
           refine wpAnyC_on [9] kR (by simp) ?_
           simp only [List.forall_mem_cons, List.not_mem_nil, false_implies, implies_true, and_true]
           refine wpOp_of_list (by rw [List.getElem?_toArray]; rfl) ?_
           refine wpList_unguard wU ?_
           have hRb := hT3.rd 0 rfl
           ((with_reducible refine wpList_appL 1 E_ints wU wU (hT3) wU (hRb) (rfl) cIntO (by first | omega | (simp; omega)) (by first | omega | (simp; omega)) ?_); intro v4 w4 hT4)
           refine ⟨hT4.b, ?_⟩
           go_frame
           obtain ⟨a9, c9, rfl, hr9⟩ := hT4.slice 1 rfl
           refine wpAnyC_on [10] kR (by simp) ?_
           simp only [List.forall_mem_cons, List.not_mem_nil, false_implies, implies_true, and_true]
           refine wpOp_call (f := 50) (args := #[mV m ad cap, .slice a9 (l ++ [(k : Int)]).length c9]) (by rw [List.getElem?_toArray]; rfl) wU (by first | (go_simp; done) | (simp [execOp, Act.eval, Result.andThen]; done) | (simp [execOp, Act.eval, Result.andThen]; rfl)) ?_
           refine (HCA.out a9 c9 _ (hRr.below hT4.b) hr9).mono ?_
           rintro e w8 ⟨rfl, b8⟩
           have t8 := bnext hT4.b b8
           refine ⟨_, rfl, t8, ?_⟩
           go_frame
           refine wpAnyC_rest [11, 13, 14] [_, _, _] rfl (by simp only [List.map_cons, List.map_nil, List.getElem?_toArray]; rfl) kR kR kR (t8) ?_
           repeat (refine ⟨_, .inl ⟨by with_unfolding_all rfl, fun w' _ => by with_unfolding_all exact rfl⟩, ?_⟩; go_frame)
           unfold wpPure
           refine of_wpList_nil (P := Tryz.prog) (ops := #[]) ?_
           clear hT4
           go_wp2_with fail
           exact ⟨⟨k + 1, by omega, by go_num, by rw [HFN.out], bnext hb4 (bnext hbq t8)⟩, by simp [intOf]; omega⟩
         ·have hT1 := (hT0).call (SL.ofOwn (own_newN (e := 3) (w := wr.drew) cIntS [(k : Int)] 1 rfl (by decide) #[.int .i64 (k : Int)] rfl (Nat.le_refl _) rfl) (bal (Below.refl _ _) _))
          simp only [List.cons_append, List.nil_append] at hT1
          refine wpOp_value (v := .slice (some ⟨(wr.drew).heap.size, 0, none⟩) 1 1) (w' := (wr.drew).alloc (.cells #[.int .i64 (k : Int)] 3)) (by rw [List.getElem?_toArray]; rfl) wU (by first | (go_simp; done) | (go_simp; rfl) | (simp [execOp, Act.eval, Result.andThen]; done)) ?_
          refine ⟨hT1.b, ?_⟩
          go_frame
          obtain ⟨VhT1, hVhT1⟩ : ∃ V, V = (wr.drew).alloc (.cells #[.int .i64 (k : Int)] 3) := ⟨_, rfl⟩
          obtain ⟨nhT1, hnhT1⟩ : ∃ b, b = (wr.drew).heap.size := ⟨_, rfl⟩
          rw [← hVhT1, ← hnhT1] at hT1
          simp only [← hVhT1, ← hnhT1]
          clear hVhT1 hnhT1
          refine wpAnyC_on [4] kR (by simp) ?_
          simp only [List.forall_mem_cons, List.not_mem_nil, false_implies, implies_true, and_true]
          have hT2 := (hT1).call (SL.ofOwn (own_newN (e := 3) (w := VhT1) cIntS [] 0 rfl (by decide) #[] rfl (Nat.le_refl _) rfl) (bal (Below.refl _ _) _))
          simp only [List.cons_append, List.nil_append] at hT2
          refine wpOp_value (v := .slice (some ⟨(VhT1).heap.size, 0, none⟩) 0 0) (w' := (VhT1).alloc (.cells #[] 3)) (by rw [List.getElem?_toArray]; rfl) wU (by first | (go_simp; done) | (go_simp; rfl) | (simp [execOp, Act.eval, Result.andThen]; done)) ?_
          refine ⟨hT2.b, ?_⟩
          go_frame
          obtain ⟨VhT2, hVhT2⟩ : ∃ V, V = (VhT1).alloc (.cells #[] 3) := ⟨_, rfl⟩
          obtain ⟨nhT2, hnhT2⟩ : ∃ b, b = (VhT1).heap.size := ⟨_, rfl⟩
          rw [← hVhT2, ← hnhT2] at hT2
          simp only [← hVhT2, ← hnhT2]
          clear hVhT2 hnhT2
          refine wpAnyC_on [6] kR (by simp) ?_
          simp only [List.forall_mem_cons, List.not_mem_nil, false_implies, implies_true, and_true]
          refine wpOp_of_list (by rw [List.getElem?_toArray]; rfl) ?_
          refine wpList_unguard wU ?_
          ((with_reducible refine wpList_appL 0 E_ints wU wU (hT2) wU ((hLr.below hT2.b)) (rfl) cIntO (by first | omega | (simp; omega)) (by first | omega | (simp; omega)) ?_); intro v3 w3 hT3)
          rw [List.nil_append] at hT3
          refine ⟨hT3.b, ?_⟩
          go_frame
          refine wpAnyC_on [9] kR (by simp) ?_
          simp only [List.forall_mem_cons, List.not_mem_nil, false_implies, implies_true, and_true]
          refine wpOp_of_list (by rw [List.getElem?_toArray]; rfl) ?_
          refine wpList_unguard wU ?_
          have hRb := hT3.rd 1 rfl
          ((with_reducible refine wpList_appL 0 E_ints wU wU (hT3) wU (hRb) (rfl) cIntO (by first | omega | (simp; omega)) (by first | omega | (simp; omega)) ?_); intro v4 w4 hT4)
          refine ⟨hT4.b, ?_⟩
          go_frame
          obtain ⟨a9, c9, rfl, hr9⟩ := hT4.slice 0 rfl
          refine wpAnyC_on [10] kR (by simp) ?_
          simp only [List.forall_mem_cons, List.not_mem_nil, false_implies, implies_true, and_true]
          refine wpOp_call (f := 50) (args := #[mV m ad cap, .slice a9 (l ++ [(k : Int)]).length c9]) (by rw [List.getElem?_toArray]; rfl) wU (by first | (go_simp; done) | (simp [execOp, Act.eval, Result.andThen]; done) | (simp [execOp, Act.eval, Result.andThen]; rfl)) ?_
          refine (HCA.out a9 c9 _ (hRr.below hT4.b) hr9).mono ?_
          rintro e w8 ⟨rfl, b8⟩
          have t8 := bnext hT4.b b8
          refine ⟨_, rfl, t8, ?_⟩
          go_frame
          refine wpAnyC_rest [11, 13, 14] [_, _, _] rfl (by simp only [List.map_cons, List.map_nil, List.getElem?_toArray]; rfl) kR kR kR (t8) ?_
          repeat (refine ⟨_, .inl ⟨by with_unfolding_all rfl, fun w' _ => by with_unfolding_all exact rfl⟩, ?_⟩; go_frame)
          unfold wpPure
          refine of_wpList_nil (P := Tryz.prog) (ops := #[]) ?_
          clear hT4
          go_wp2_with fail
          exact ⟨⟨k + 1, by omega, by go_num, by rw [HFN.out], bnext hb4 (bnext hbq t8)⟩, by simp [intOf]; omega⟩
        ·rw [hap] at CA hfs hfa
         rw [if_pos rfl] at CA
         replace hfs : freeN m l (k + 1) = n + 1 := by rw [hfs]; rfl
         have hfa := hfa.2 rfl
         have HCA := hid CA; have HFN := hid hfs
         clear CA hfs hcan hnot hap htk
         exact absurd hfa.1 (by omega)
       ·have hap : apartM m (k : Int) l = false := by
         cases h : apartM m (k : Int) l with
         | false => rfl
         | true => exact absurd (of_decide_eq_true htk) (HOUT.out k h)
        rw [hap] at hfs hfa
        replace hfs : freeN m l (k + 1) = n := by rw [hfs]; rfl
        replace hfa : ¬ (n < F2.length ∧ atD 0 F2 n = (k : Int)) := fun h => by have h2 := hfa.1 h; cases h2
        have HFN := hid hfs
        clear hfs hap htk
        have hn5 : ¬ n < F2.length := by omega
        clear hfa
        go_wp2_with fail
        refine wp_region_q kR kR ?_
        repeat (first | ((with_reducible refine wpQ_skip wU ?_); (try simp only [Act.put, pA, pB, pC])) |  ((with_reducible refine wpB_load (by first | exact F_int | exact F_u64s) wU wU (by assumption) wU ?_); (try simp only [Act.put, pA, pB, pC])) | ((refine wpQ_oneG ?_ wU (fun w' => ?_) ?_); rotate_left; (go_simp; rfl); (try simp only [Act.put, pA, pB, pC])))
        refine wpQuiet_nil ?_
        intro w8 b8
        go_wp2_with fail
        exact ⟨⟨k + 1, by omega, by go_num, by rw [HFN.out], bnext hb4 (bnext hbq b8)⟩, by simp [intOf]; omega⟩
    ·have hkN : k = N := by omega
     subst hkN
     rw [HFZ.out]
     go_wp2_with fail
     go_ret
     exact ⟨rfl, bnext hb3 hb4⟩
end Go.Proofs.YtoebgfgihfjnnaaGreatDoor
