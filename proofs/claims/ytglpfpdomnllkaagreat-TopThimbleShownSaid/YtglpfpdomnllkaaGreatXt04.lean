/- Contracts and plain facts that the claim uses (MbS MbG MbN MbO). Conditions: as each one states. -/
import Derived.RangeFuncNested
import Derived.RangeFuncBound
import Derived.RangeFuncCalls
import Derived.RangeFuncLeaves
import Derived.RangeFuncFrom
import Derived.Shelf.Abstract
import Derived.Shelf.RegionOpen
import Derived.WalkKit
import Derived.OwnWalkIn
import Derived.TacticsInMore
import Derived.LoopNIn
import Derived.LoopIn
import Derived.Test.YtglpfpdomnllkaaGreatProg
import Derived.WalkSpells
import Derived.Maps.AppendAt
import Derived.Deep.Quiet
import Derived.Maps.Own
import Derived.Maps.OwnSet
import Derived.Maps.Views
import Derived.WalkLawsBesides
import Derived.Laws.EntriesVeiled
import Derived.Deep.QuietTactic
import Derived.BigQuiet
import Derived.Shelf.Strings.Trim
import Derived.Shelf.Strings.SlTrimAscii
import Derived.Shelf.Strings.Repeat
import Derived.Shelf.Strings.OnBuilder
import Derived.Shelf.Strconv.Itoa1
import Derived.Shelf.Strconv.Itoa3
import Derived.Shelf.LaysM
import Derived.Ground.Names2Prog
import Derived.Lib.OthersKept
import Derived.Deep.RegionHeld3
import Derived.Deep.AppendLies
import Derived.Deep.RegionHeldLaw
import Derived.Deep.RegionLaw
import Derived.StillTail
import Derived.Laws.Tables
import Derived.IntWalk
import Derived.Laws.CopyOwn
import Derived.BigRegion
import Derived.ChangeAlike
import Derived.Shelf.Bits.Mul64
import Derived.Lib.ItoaLen
import Derived.Lib.ItoaMem
import Derived.Sort.LoopGhostIn
import Derived.Maps.RangeWalk
import Derived.Sort.QuietThIn
import Derived.Test.YtglpfpdomnllkaaGreatXt01
import Derived.Test.YtglpfpdomnllkaaGreatXt02
import Derived.Test.YtglpfpdomnllkaaGreatXt03
set_option linter.all false

namespace Go.Proofs.YtglpfpdomnllkaaGreat
set_option maxRecDepth 100000

theorem befo_irrefl (a : Nat × Int) : befo a a = false := by simp [befo]
theorem befo_false {a b : Nat × Int} : befo a b = false ↔ b.1 < a.1 ∨ (b.1 = a.1 ∧ b.2 ≤ a.2) := by
 unfold befo
 simp only [Bool.or_eq_false_iff, Bool.and_eq_false_imp, decide_eq_false_iff_not, decide_eq_true_eq]
 constructor
 ·rintro ⟨h1, h2⟩
  by_cases e : a.1 = b.1
  ·right; have := h2 e; omega
  ·left; omega
 ·rintro (h | ⟨h1, h2⟩)
  ·exact ⟨by omega, fun e => by omega⟩
  ·exact ⟨by omega, fun _ => by omega⟩
theorem foldF_spec (m : MacV) : ∀ (ps : List (Int × Int)) (acc : Option (Nat × Int)),
  (ps.foldl (fun b p => bestS b (meetM m p.1 p.2)) acc = none → acc = none ∧ ∀ p ∈ ps, meetM m p.1 p.2 = none) ∧
  (∀ b, ps.foldl (fun b p => bestS b (meetM m p.1 p.2)) acc = some b → (∀ a, acc = some a → befo a b = false) ∧ (∀ p ∈ ps, ∀ v, meetM m p.1 p.2 = some v → befo v b = false) ∧ (acc = some b ∨ ∃ p ∈ ps, meetM m p.1 p.2 = some b))
 | [], acc => ⟨fun h => ⟨h, fun p hp => absurd hp (by simp)⟩, fun b h => ⟨fun a ha => by rw [List.foldl_nil] at h; rw [ha] at h; cases h; exact befo_irrefl _, fun p hp => absurd hp (by simp), .inl h⟩⟩
 | q :: ps, acc => by
   rw [List.foldl_cons]
   obtain ⟨h1, h2⟩ := foldF_spec m ps (bestS acc (meetM m q.1 q.2))
   constructor
   · intro h
     obtain ⟨k1, k2⟩ := h1 h
     cases hm : meetM m q.1 q.2 with
     | none =>
       rw [hm] at k1
       exact ⟨k1, fun p hp => by rcases List.mem_cons.1 hp with rfl | hp; exact hm; exact k2 p hp⟩
     | some v =>
       rw [hm] at k1
       cases acc with
       | none => cases k1
       | some w => unfold bestS at k1; dsimp only at k1; split at k1 <;> cases k1
   · intro b h
     obtain ⟨k1, k2, k3⟩ := h2 b h
     cases hm : meetM m q.1 q.2 with
     | none =>
       rw [hm] at k1 k3
       refine ⟨k1, fun p hp v hv => ?_, ?_⟩
       · rcases List.mem_cons.1 hp with rfl | hp
         · rw [hm] at hv; cases hv
         · exact k2 p hp v hv
       · rcases k3 with k3 | ⟨p, hp, e⟩
         · exact .inl k3
         · exact .inr ⟨p, List.mem_cons_of_mem _ hp, e⟩
     | some v =>
       rw [hm] at k1 k3
       have low : ∀ c, bestS acc (some v) = some c → (∀ a, acc = some a → befo a c = false) ∧ befo v c = false ∧ (acc = some c ∨ v = c) := by
         intro c hc
         cases acc with
         | none => cases hc; exact ⟨fun a ha => (by cases ha), befo_irrefl _, .inr rfl⟩
         | some w =>
           unfold bestS at hc
           dsimp only at hc
           split at hc
           · rename_i hb
             cases hc
             refine ⟨fun a ha => ?_, befo_irrefl _, .inr rfl⟩
             cases ha
             unfold befo at hb
             simp only [Bool.or_eq_true, Bool.and_eq_true, decide_eq_true_eq] at hb
             rw [befo_false]; omega
           · rename_i hb
             cases hc
             exact ⟨fun a ha => (by cases ha; exact befo_irrefl _), by simpa using hb, .inl rfl⟩
       obtain ⟨c, hc⟩ : ∃ c, bestS acc (some v) = some c := by
         cases acc with
         | none => exact ⟨v, rfl⟩
         | some w => unfold bestS; dsimp only; split <;> exact ⟨_, rfl⟩
       obtain ⟨l1, l2, l3⟩ := low c hc
       have kc := k1 c hc
       have tr : ∀ a, befo a c = false → befo a b = false := by
         intro a ha
         rw [befo_false] at ha kc ⊢
         omega
       refine ⟨fun a ha => tr a (l1 a ha), fun p hp v' hv' => ?_, ?_⟩
       · rcases List.mem_cons.1 hp with rfl | hp
         · rw [hm] at hv'; cases hv'; exact tr _ l2
         · exact k2 p hp v' hv'
       · rcases k3 with k3 | ⟨p, hp, e⟩
         · rw [hc] at k3
           cases k3
           rcases l3 with l3 | l3
           · exact .inl l3
           · exact .inr ⟨q, List.mem_cons_self, by rw [hm, l3]⟩
         · exact .inr ⟨p, List.mem_cons_of_mem _ hp, e⟩
theorem pairsTo_mem {l : List Int} {p : Int × Int} {n : Nat} (hn : n ≤ l.length) : p ∈ pairsTo l n ↔ ∃ i j : Nat, j < i ∧ i < n ∧ p = (atD 0 l i, atD 0 l j) := by
 unfold pairsTo
 simp only [List.mem_flatMap, List.mem_range, List.mem_map]
 constructor
 ·rintro ⟨i, hi, b, hb, rfl⟩
  obtain ⟨j, hj, e⟩ := List.mem_iff_getElem.1 hb
  rw [List.length_take] at hj
  refine ⟨i, j, by omega, hi, ?_⟩
  rw [List.getElem_take] at e
  have hjl : j < l.length := by omega
  rw [← e]
  simp [atD, hjl]
 ·rintro ⟨i, j, hji, hi, rfl⟩
  have hjl : j < l.length := by omega
  refine ⟨i, hi, atD 0 l j, ?_, rfl⟩
  refine List.mem_iff_getElem.2 ⟨j, by simp; omega, ?_⟩
  simp [atD, hjl]
theorem hitM_symm (m : MacV) (x y : Int) : hitM m x y = hitM m y x := by
 unfold hitM
 by_cases e : placeM m x = placeM m y
 ·rw [e]
 ·rw [decide_eq_false e, decide_eq_false (show ¬ placeM m y = placeM m x from fun h => e h.symm), Bool.and_false, Bool.and_false]
/-- no meeting up to some steps. -/
theorem no_meets {m : MacV} {l : List Int} {n : Int} (h : meetsM m l n = false) {k : Nat} (hk : (k : Int) ≤ n) : NoHit m (l.map fun s => itM m s k) := by
 have key : ∀ i j : Nat, j < i → i < l.length → hitM m (itM m (atD 0 l i) k) (itM m (atD 0 l j) k) = false := by
  intro i j hji hi
  have hsp := meetM_spec m (atD 0 l i) (atD 0 l j)
  have hp := (pairsTo_mem (l := l) (n := l.length) (Nat.le_refl _)).2 ⟨i, j, hji, hi, rfl⟩
  obtain ⟨s1, s2⟩ := foldF_spec m (pairsTo l l.length) none
  cases hm : meetM m (atD 0 l i) (atD 0 l j) with
  | none => rw [hm] at hsp; exact hsp k
  | some v =>
   rw [hm] at hsp
   refine hsp.2.2 k ?_
   unfold meetsM at h
   cases hf : firstM m l with
   | none =>
    have := (s1 hf).2 _ hp
    rw [hm] at this; cases this
   | some b =>
    rw [hf] at h
    have hb := (s2 b hf).2.1 _ hp v hm
    rw [befo_false] at hb
    simp only [decide_eq_false_iff_not] at h
    omega
 intro x hx y hy hxy
 obtain ⟨a, ha, rfl⟩ := List.mem_map.1 hx
 obtain ⟨b, hb, rfl⟩ := List.mem_map.1 hy
 obtain ⟨i, hi, rfl⟩ := List.mem_iff_getElem.1 ha
 obtain ⟨j, hj, rfl⟩ := List.mem_iff_getElem.1 hb
 have ei : atD 0 l (i : Int) = l[i] := by simp [atD, hi]
 have ej : atD 0 l (j : Int) = l[j] := by simp [atD, hj]
 rcases Nat.lt_trichotomy j i with hl | hl | hl
 ·rw [← ei, ← ej]; exact key i j hl hi
 ·subst hl; exact absurd rfl hxy
 ·rw [← ei, ← ej, hitM_symm]; exact key j i hl hj
/-- the carriers after some steps. -/
noncomputable def atL (m : MacV) (l : List Int) (k : Nat) : List Int := l.map fun s => itM m s k
theorem atL_succ {m : MacV} {l : List Int} (hl : ∀ x ∈ l, 0 ≤ x ∧ x < 4 * m.gears) (k : Nat) : stepL m (atL m l k) = atL m l (k + 1) := by
 unfold atL stepL
 rw [List.map_map]
 exact List.map_congr_left (fun x hx => (itM_succ (hl x hx).1 (hl x hx).2 k).symm)
theorem atL_rng {m : MacV} {l : List Int} (hl : ∀ x ∈ l, 0 ≤ x ∧ x < 4 * m.gears) (k : Nat) : ∀ x ∈ atL m l k, 0 ≤ x ∧ x < 4 * m.gears := by
 intro x hx
 obtain ⟨y, hy, rfl⟩ := List.mem_map.1 hx
 exact itM_rng (hl y hy).1 (hl y hy).2 k
/-- row and letters after some steps. -/
noncomputable def wvM (m : MacV) (l : List Int) : Nat → List Int × List Int
 | 0 => (orderM m l, [])
 | k + 1 => weaveS m (wvM m l k) (atL m l k)
theorem wvM_row {m : MacV} {l : List Int} (hr : m.ring = false) (hl : ∀ x ∈ l, 0 ≤ x ∧ x < 4 * m.gears) {n : Int} (h : meetsM m l n = false) : ∀ k : Nat, (k : Int) ≤ n → (wvM m l k).1 = orderM m (atL m l k)
 | 0, _ => by
   show orderM m l = _
   have : atL m l 0 = l := by
     unfold atL
     conv => rhs; rw [← List.map_id l]
     exact List.map_congr_left (fun x _ => rfl)
   rw [this]
 | k + 1, hk => by
   have ih := wvM_row hr hl h k (by omega)
   obtain ⟨out', h1, _⟩ := weaveS_row m (atL m l k) (wvM m l k).2
   rw [wvM]
   rw [show wvM m l k = (orderM m (atL m l k), (wvM m l k).2) from Prod.ext ih rfl] at *
   rw [h1]
   have hno := no_meets h hk
   rw [show l.map (fun s => itM m s (k + 1)) = atL m l (k + 1) from rfl, ← atL_succ hl k] at hno
   show afterM m (atL m l k) = _
   rw [order_step hr (atL_rng hl k) hno, atL_succ hl k]
theorem wvM_mono (m : MacV) (l : List Int) : ∀ {j k : Nat}, j ≤ k → (wvM m l j).2.length ≤ (wvM m l k).2.length := by
 intro j k hjk
 induction hjk with
 | refl => exact Nat.le_refl _
 | step _ ih => rw [wvM, weaveS_len]; omega
theorem orderM_len (m : MacV) (l : List Int) : (orderM m l).length ≤ 4 * m.gears.toNat := by
 rw [orderM_seq]
 refine Nat.le_trans (List.length_filterMap_le _ _) ?_
 have key : ∀ gs : List Int, (gs.flatMap (slotsG m)).length = 4 * gs.length := by
  intro gs
  induction gs with
  | nil => rfl
  | cons g gs ih => rw [List.flatMap_cons, List.length_append, ih, slotsG_eq, List.length_cons]; simp only [List.length_cons, List.length_nil]; omega
 rw [key]
 simp [gearsL]
/-- the error ahead of a word. -/
noncomputable def weaveE (m : MacV) (l : List Int) (n : Int) : Int := if loadE m l ≠ 0 then loadE m l else if m.ring = true then 13 else if 12 < l.length then 5 else if n < 0 ∨ 1000 < n then 3 else if meetsM m l n = true then 16 else 0
theorem weaveE_zero {m : MacV} {l : List Int} {n : Int} (h : weaveE m l n = 0) : LoadOk m l ∧ m.ring = false ∧ l.length ≤ 12 ∧ 0 ≤ n ∧ n ≤ 1000 ∧ meetsM m l n = false := by
 unfold weaveE at h
 split at h
 ·rename_i h1; exact absurd h h1
 ·rename_i h1
  split at h
  ·omega
  ·rename_i h2
   split at h
   ·omega
   ·rename_i h3
    split at h
    ·omega
    ·rename_i h4
     split at h
     ·omega
     ·rename_i h5
      exact ⟨loadE_zero (by simpa using h1), by simpa using h2, by omega, by omega, by omega, by simpa using h5⟩
end Go.Proofs.YtglpfpdomnllkaaGreat

namespace Go.Proofs.YtglpfpdomnllkaaGreat
open Go.RowKit Go.Shelf
attribute [local go_sem] Oper.semAt_some
set_option maxHeartbeats 8000000
set_option maxRecDepth 100000

section
variable {F : Fence} {nn : Nat} {P : Program} {ops : Array Oper} {Q : Exit → Act → World → Prop} {a : Act} {w : World} {rest : List Oper} {ty : TypeId} {p : String} {af : Array Edge} {g : Option (Nat × Bool)}
end
abbrev gC (m : MacV) (g : Int) : Array Value := #[.int .i64 (slotG m g 0), .int .i64 (slotG m g 1), .int .i64 (slotG m g 2), .int .i64 (slotG m g 3)]
def gearV (m : MacV) (g : Int) : Array Value := #[.int .i64 g, .agg (gC m g)]
def gearsTo (k : Nat) : List Int := (List.range k).map fun (g : Nat) => (g : Int)
theorem gearsTo_succ (k : Nat) : gearsTo (k + 1) = gearsTo k ++ [(k : Int)] := by simp [gearsTo, List.range_succ]
theorem gearsTo_len (k : Nat) : (gearsTo k).length = k := by simp [gearsTo]
/-- the slots of a gear while they are set. -/
def mixC (f : Bool) (g : Int) (j : Nat) : Array Value :=
 #[.int .i64 (if 0 < j then 4 * g else 0), .int .i64 ((if f then 1 else 3) + (if 1 < j then 4 * g else 0)), .int .i64 ((if f then 3 else 1) + (if 2 < j then 4 * g else 0)), .int .i64 (2 + (if 3 < j then 4 * g else 0))]
theorem mixC_end (m : MacV) (g : Int) : mixC (fwdM m g) g 4 = gC m g := by
 cases hf : fwdM m g <;> simp [mixC, gC, slotG, hf] <;> omega

theorem gears1_in (mm l bm : Nat) (m : MacV) (ad : Option Addr) (cap : Nat) (n : Nat) (hn : m.gears = n) (hn2 : n ≤ 16) (hm : 1 ≤ mm) (J Jx : List (Slot n) → World → Prop)
  (hY : ∀ pre (x : Slot n) W, J pre W → pre.length < n → YieldAt Fence.wide (mm - 1) Tryz.prog l (gearV m x.1) W fun e W' =>
   (e = .returned (.bool true) ∧ J (pre ++ [x]) W' ∧ KeepAt bm W W') ∨ (e = .returned (.bool false) ∧ Jx (pre ++ [x]) W'))
  (hJ : ∀ pre (W W' : World), J pre W → W.grownBy W' none → J pre W')
  (W : World) (hWm : W.heap[bm]? = some (.cells (mC m ad cap) 24)) (h0 : J [] W) :
  CallsIn Fence.wide mm Tryz.prog 155 #[.func (.yield l) #[] #[], .pointer (some ⟨bm, 0, none⟩)] W fun e W' => (∃ v, e = .returned v) ∧
   ((∃ ys : List (Slot n), ys.map (·.1) = gearsTo n ∧ J ys W') ∨ (∃ pre, Jx pre W')) := by
 have c1 : W.cell? ⟨bm, 1, none⟩ = some (.int .i64 m.gears) := by simp [World.cell?, hWm]
 have hge1 : (n : Int) ≤ m.gears := by omega
 have hge2 : m.gears ≤ (n : Int) := by omega
 clear hn
 refine callsIn_of_wp Tryz.func155 rfl trivial ?_ rfl
 simp only [Tryz.ntmps155, List.size_toArray, List.length_cons, List.length_nil, Nat.reduceAdd, Nat.reduceSub, Array.replicate_succ, Array.replicate_zero, List.push_toArray, List.append_toArray, List.nil_append, List.cons_append]
 gi_wp2
 gi_loopw [8] (fun x wr => ∃ (k : Nat) (pre : List (Slot n)), k ≤ n ∧ x = .int .i64 k ∧ pre.map (·.1) = gearsTo k ∧ J pre wr ∧ wr.heap[bm]? = some (.cells (mC m ad cap) 24)) (fun x _ => n - (intOf x).toNat)
 case atStart => exact ⟨0, [], by omega, rfl, rfl, h0, hWm⟩
 case round =>
  obtain ⟨k, pre, hk, rfl, hpre, hJs, hwm⟩ := hrel
  have hlen : pre.length = k := by have := congrArg List.length hpre; simpa [gearsTo_len] using this
  obtain ⟨V, rfl⟩ : ∃ V, V = wr := ⟨wr, rfl⟩
  by_cases hlt : k < n
  ·have HHP := hid hpre; have HLN := hid hlen
   clear hpre hlen
   have CF := fun w => forwards_any m ad cap (k : Int) w (by omega) (by omega)
   have hme := mixC_end m k
   cases hf : fwdM m k
   ·rw [hf] at CF hme
    have HF := hid CF; have HME := hid hme
    clear CF hf hme
    have hbl : bm < V.heap.size := (Array.getElem?_eq_some_iff.1 hwm).1
    have kk : ∀ j u, (mC m ad cap)[j]? = some u → (V.alloc (.cells #[.int .i64 0, .int .i64 3, .int .i64 1, .int .i64 2] 137)).cell? ⟨bm, j, none⟩ = some u := by
     intro j u hu
     have := Below.heap_alloc V (.cells #[.int .i64 0, .int .i64 3, .int .i64 1, .int .i64 2] 137) bm hbl
     simp [World.cell?, this, hwm, hu]
    have k0 := kk 0 _ rfl
    have k1 := kk 1 _ rfl
    have k2 := kk 2 _ rfl
    have k3 := kk 3 _ rfl
    have hS0 := (SL.nil V).box (.cells #[.int .i64 0, .int .i64 3, .int .i64 1, .int .i64 2] 137)
    gi_wp2
    refine ⟨trivial, (callsIn_wide.2 (HF.out _)).mono ?_⟩
    rintro e w2 ⟨rfl, b2⟩
    have hS2 := hS0.mono b2
    clear k0 k1 k2 k3 kk
    gi_wp2
    clear HF
    gi_loopw [16] (fun i wq => ∃ j : Nat, j ≤ 4 ∧ i = .int .i64 j ∧ SL V.heap.size V wq [pBlk V.heap.size (.cells (mixC false k j) 137)]) (fun i _ => 4 - (intOf i).toNat)
    case atStart => exact ⟨0, by omega, rfl, hS2⟩
    case round =>
     clear hS2 hS0 b2
     obtain ⟨j, hj, rfl, hSq⟩ := hrel
     have hj5 : j = 0 ∨ j = 1 ∨ j = 2 ∨ j = 3 ∨ j = 4 := by omega
     have f0 := hSq.frozen 0 rfl 0
     have f1 := hSq.frozen 0 rfl 1
     have f2 := hSq.frozen 0 rfl 2
     have f3 := hSq.frozen 0 rfl 3
     rcases hj5 with rfl | rfl | rfl | rfl | rfl
     ·have q := hSq.cell 0 rfl 0 (u := .int .i64 0) (by simp [mixC])
      have hw : IntKind.i64.wrap (0 + 4 * (k : Int)) = 0 + 4 * (k : Int) := IntWalk.i64_in _ (by omega)
      gi_wp2
      go_roundw
      case rel => exact ⟨1, by omega, rfl, hSq.set 0 rfl 0 _⟩
      case measure => simp [intOf]
     ·have q := hSq.cell 0 rfl 1 (u := .int .i64 3) (by simp [mixC])
      have hw : IntKind.i64.wrap (3 + 4 * (k : Int)) = 3 + 4 * (k : Int) := IntWalk.i64_in _ (by omega)
      gi_wp2
      go_roundw
      case rel => exact ⟨2, by omega, rfl, hSq.set 0 rfl 1 _⟩
      case measure => simp [intOf]
     ·have q := hSq.cell 0 rfl 2 (u := .int .i64 1) (by simp [mixC])
      have hw : IntKind.i64.wrap (1 + 4 * (k : Int)) = 1 + 4 * (k : Int) := IntWalk.i64_in _ (by omega)
      gi_wp2
      go_roundw
      case rel => exact ⟨3, by omega, rfl, hSq.set 0 rfl 2 _⟩
      case measure => simp [intOf]
     ·have q := hSq.cell 0 rfl 3 (u := .int .i64 2) (by simp [mixC])
      have hw : IntKind.i64.wrap (2 + 4 * (k : Int)) = 2 + 4 * (k : Int) := IntWalk.i64_in _ (by omega)
      gi_wp2
      go_roundw
      case rel => exact ⟨4, by omega, rfl, hSq.set 0 rfl 3 _⟩
      case measure => simp [intOf]
     ·rw [HME.out] at hSq
      have q0 := hSq.cell 0 rfl 0 rfl
      have q1 := hSq.cell 0 rfl 1 rfl
      have q2 := hSq.cell 0 rfl 2 rfl
      have q3 := hSq.cell 0 rfl 3 rfl
      have hwm2 := (hSq.b.block bm hbl).trans hwm
      obtain ⟨fn, tmps, assign, body, hy, hR⟩ := hY pre ⟨(k : Int), by omega, by omega⟩ wr (hJ _ _ _ hJs (grown_of_below hSq.b)) (by have := HLN.out; omega)
      unfold gearV at hy
      dsimp only at hy
      clear hY f0 f1 f2 f3
      gi_wp2
      refine hR.mono ?_
      rintro e W3 (⟨rfl, hJ3, hk3⟩ | ⟨rfl, hJx3⟩)
      ·gi_wp2
       go_roundw
       case rel => exact ⟨k + 1, _, by omega, by go_num, by rw [List.map_append, HHP.out, gearsTo_succ]; rfl, hJ3, Eq.trans hk3 hwm2⟩
       case measure => simp [intOf]; omega
      ·gi_wp2
       refine bodyPost_ret (results_none rfl _ _ _) rfl ?_
       exact ⟨⟨_, rfl⟩, .inr ⟨_, hJx3⟩⟩
   ·rw [hf] at CF hme
    have HF := hid CF; have HME := hid hme
    clear CF hf hme
    have hbl : bm < V.heap.size := (Array.getElem?_eq_some_iff.1 hwm).1
    have kk : ∀ j u, (mC m ad cap)[j]? = some u → (V.alloc (.cells #[.int .i64 0, .int .i64 3, .int .i64 1, .int .i64 2] 137)).cell? ⟨bm, j, none⟩ = some u := by
     intro j u hu
     have := Below.heap_alloc V (.cells #[.int .i64 0, .int .i64 3, .int .i64 1, .int .i64 2] 137) bm hbl
     simp [World.cell?, this, hwm, hu]
    have k0 := kk 0 _ rfl
    have k1 := kk 1 _ rfl
    have k2 := kk 2 _ rfl
    have k3 := kk 3 _ rfl
    have hS0 := (SL.nil V).box (.cells #[.int .i64 0, .int .i64 3, .int .i64 1, .int .i64 2] 137)
    gi_wp2
    refine ⟨trivial, (callsIn_wide.2 (HF.out _)).mono ?_⟩
    rintro e w2 ⟨rfl, b2⟩
    have hS2 := hS0.mono b2
    clear k0 k1 k2 k3 kk
    have z0 := hS2.cell 0 rfl 0 rfl
    have z1 := hS2.cell 0 rfl 1 rfl
    have z2 := hS2.cell 0 rfl 2 rfl
    have z3 := hS2.cell 0 rfl 3 rfl
    have f0 := hS2.frozen 0 rfl 0
    have f1 := hS2.frozen 0 rfl 1
    have f2 := hS2.frozen 0 rfl 2
    have f3 := hS2.frozen 0 rfl 3
    have hS3 := (((hS2.set 0 rfl 0 (.int .i64 0)).set 0 rfl 1 (.int .i64 1)).set 0 rfl 2 (.int .i64 3)).set 0 rfl 3 (.int .i64 2)
    clear hS2
    have hS2 := hS3
    clear hS3
    gi_wp2
    clear z0 z1 z2 z3 f0 f1 f2 f3
    gi_loopw [16] (fun i wq => ∃ j : Nat, j ≤ 4 ∧ i = .int .i64 j ∧ SL V.heap.size V wq [pBlk V.heap.size (.cells (mixC true k j) 137)]) (fun i _ => 4 - (intOf i).toNat)
    case atStart => exact ⟨0, by omega, rfl, hS2⟩
    case round =>
     clear hS2 hS0 b2
     obtain ⟨j, hj, rfl, hSq⟩ := hrel
     have hj5 : j = 0 ∨ j = 1 ∨ j = 2 ∨ j = 3 ∨ j = 4 := by omega
     have f0 := hSq.frozen 0 rfl 0
     have f1 := hSq.frozen 0 rfl 1
     have f2 := hSq.frozen 0 rfl 2
     have f3 := hSq.frozen 0 rfl 3
     rcases hj5 with rfl | rfl | rfl | rfl | rfl
     ·have q := hSq.cell 0 rfl 0 (u := .int .i64 0) (by simp [mixC])
      have hw : IntKind.i64.wrap (0 + 4 * (k : Int)) = 0 + 4 * (k : Int) := IntWalk.i64_in _ (by omega)
      gi_wp2
      go_roundw
      case rel => exact ⟨1, by omega, rfl, hSq.set 0 rfl 0 _⟩
      case measure => simp [intOf]
     ·have q := hSq.cell 0 rfl 1 (u := .int .i64 1) (by simp [mixC])
      have hw : IntKind.i64.wrap (1 + 4 * (k : Int)) = 1 + 4 * (k : Int) := IntWalk.i64_in _ (by omega)
      gi_wp2
      go_roundw
      case rel => exact ⟨2, by omega, rfl, hSq.set 0 rfl 1 _⟩
      case measure => simp [intOf]
     ·have q := hSq.cell 0 rfl 2 (u := .int .i64 3) (by simp [mixC])
      have hw : IntKind.i64.wrap (3 + 4 * (k : Int)) = 3 + 4 * (k : Int) := IntWalk.i64_in _ (by omega)
      gi_wp2
      go_roundw
      case rel => exact ⟨3, by omega, rfl, hSq.set 0 rfl 2 _⟩
      case measure => simp [intOf]
     ·have q := hSq.cell 0 rfl 3 (u := .int .i64 2) (by simp [mixC])
      have hw : IntKind.i64.wrap (2 + 4 * (k : Int)) = 2 + 4 * (k : Int) := IntWalk.i64_in _ (by omega)
      gi_wp2
      go_roundw
      case rel => exact ⟨4, by omega, rfl, hSq.set 0 rfl 3 _⟩
      case measure => simp [intOf]
     ·rw [HME.out] at hSq
      have q0 := hSq.cell 0 rfl 0 rfl
      have q1 := hSq.cell 0 rfl 1 rfl
      have q2 := hSq.cell 0 rfl 2 rfl
      have q3 := hSq.cell 0 rfl 3 rfl
      have hwm2 := (hSq.b.block bm hbl).trans hwm
      obtain ⟨fn, tmps, assign, body, hy, hR⟩ := hY pre ⟨(k : Int), by omega, by omega⟩ wr (hJ _ _ _ hJs (grown_of_below hSq.b)) (by have := HLN.out; omega)
      unfold gearV at hy
      dsimp only at hy
      clear hY f0 f1 f2 f3
      gi_wp2
      refine hR.mono ?_
      rintro e W3 (⟨rfl, hJ3, hk3⟩ | ⟨rfl, hJx3⟩)
      ·gi_wp2
       go_roundw
       case rel => exact ⟨k + 1, _, by omega, by go_num, by rw [List.map_append, HHP.out, gearsTo_succ]; rfl, hJ3, Eq.trans hk3 hwm2⟩
       case measure => simp [intOf]; omega
      ·gi_wp2
       refine bodyPost_ret (results_none rfl _ _ _) rfl ?_
       exact ⟨⟨_, rfl⟩, .inr ⟨_, hJx3⟩⟩
  ·have hkn : k = n := by omega
   subst hkn
   gi_wp2
   go_end0
   exact ⟨⟨_, rfl⟩, .inl ⟨pre, hpre, hJs⟩⟩
/-- gears' value hands out the gears from left to right. -/
theorem gears_stops (mm bm : Nat) (m : MacV) (ad : Option Addr) (cap : Nat) (n : Nat) (hn : m.gears = n) (hn2 : n ≤ 16) (hm : 1 ≤ mm) (w : World) (hbm : bm < w.heap.size) (hWm : w.heap[bm]? = some (.cells (mC m ad cap) 24)) :
  SeqStopsK Fence.wide mm Tryz.prog 155 #[.pointer (some ⟨bm, 0, none⟩)] (fun x : Slot n => gearV m x.1) (KeepAt bm) (fun ys => ys.map (·.1) = gearsTo n) (fun _ => True) n w := fun l J Jx W hW hJ _ hY h0 => by
 refine (gears1_in mm l bm m ad cap n hn hn2 hm J Jx hY (fun pre A B hA hg => hJ _ _ _ none hA hg (fun r e => by cases e)) W ((hW.block _ hbm).trans hWm) h0).mono ?_
 rintro e W' ⟨he, ⟨ys, hys, hj⟩ | ⟨pre, hj⟩⟩
 ·exact ⟨he, .inl ⟨ys, hys, hj⟩⟩
 ·exact ⟨he, .inr ⟨pre, trivial, hj⟩⟩
theorem gears_any (m : MacV) (ad : Option Addr) (cap : Nat) (w : World) :
  Calls Tryz.prog 108 #[mV m ad cap] w fun r w' =>
   r = .returned (.func (.func 155) #[] #[.pointer (some ⟨w.heap.size, 0, none⟩)]) ∧ w' = w.alloc (.cells (mC m ad cap) 24) := by
 go_enter Tryz.func108, Tryz.ntmps108
 go_wp2
 go_ret
 exact ⟨rfl, rfl⟩
end Go.Proofs.YtglpfpdomnllkaaGreat

namespace Go.Proofs.YtglpfpdomnllkaaGreat
open Go.RowKit
set_option maxRecDepth 100000

theorem run_index4 (w : World) (a b c d : Value) (k : Int) (h0 : 0 ≤ k) (h1 : k < 4) : (Instr.index 137 (.agg #[a, b, c, d]) (.int .i64 k)).run Tryz.prog w = .ok ([a, b, c, d].getD k.toNat undef) w := by
 have hi : (Tryz.prog.info? 3).map (fun i => (i.zero, i.size, i.bytes)) = some (some (.int .i64 0), 1, 8) := by kernel_rfl
 obtain ⟨i, hi, _, hs, _⟩ := info_parts hi
 have hF := F_int
 obtain ⟨dd, hu, hd⟩ := hF
 have hk : k.toNat = 0 ∨ k.toNat = 1 ∨ k.toNat = 2 ∨ k.toNat = 3 := by omega
 have hagg : (isAgg 3).run Tryz.prog w = .ok false w := by
  unfold isAgg
  rw [Sem.run_bind, run_underlying hu w]
  cases dd <;> simp_all
 rcases hk with hk | hk | hk | hk <;> simp [Instr.index, asIntOf, run_underlying Tryz.underlying137, h0, h1, sizeOf, typeInfo, hi, hs, hk, part, hagg, Sem.run_bind]
theorem run_index32 (w : World) (a b c d e f : Value) (k : Int) (h0 : 0 ≤ k) (h1 : k < 3) : (Instr.index 138 (.agg #[a, b, c, d, e, f]) (.int .i64 k)).run Tryz.prog w = .ok ([.agg #[a, b], .agg #[c, d], .agg #[e, f]].getD k.toNat undef) w := by
 have hi2 : (Tryz.prog.info? 60).map (·.size) = some 2 := by kernel_rfl
 obtain ⟨i, hi, hs⟩ : ∃ i, Tryz.prog.info? 60 = some i ∧ i.size = 2 := by
  cases hi : Tryz.prog.info? 60 with
  | none => rw [hi] at hi2; cases hi2
  | some i => rw [hi] at hi2; exact ⟨i, rfl, by simpa using hi2⟩
 obtain ⟨dd, hu, hd⟩ := A_two
 have hk : k.toNat = 0 ∨ k.toNat = 1 ∨ k.toNat = 2 := by omega
 have hagg : (isAgg 60).run Tryz.prog w = .ok true w := by
  unfold isAgg
  rw [Sem.run_bind, run_underlying hu w]
  cases dd <;> simp_all
 rcases hk with hk | hk | hk <;> simp [Instr.index, asIntOf, run_underlying Tryz.underlying138, h0, h1, sizeOf, typeInfo, hi, hs, hk, part, hagg, Sem.run_bind]

section
variable {F : Fence} {n : Nat} {P : Program} {ops : Array Oper} {md : Region.Mode} {C : World → Prop}
theorem Oper.wpIn_of_quietR {o : Oper} {a : Act} {K : Act → Prop} {K' : Act → World → Prop} {Q' : Exit → Act → World → Prop} {w : World} (hnd : ∀ c, o.op ≠ .defer c) (hw : C w) (h : ∀ a w', C w' → K a → K' a w')
  (ha : o.askedIn F P a C) (hh : o.quietIn F n P a C K) : o.wpIn F n P a w K' Q' := by
 obtain ⟨v, h1, h2⟩ := hh
 have h3 := h1 w hw
 unfold Oper.quietAtIn at h3
 unfold Oper.wpIn
 refine ⟨ha w hw, ?_⟩
 rw [Oper.semAt_plain F _ _ hnd]
 generalize (execOp a.eval o).run P w = r at *
 cases r with
 | ok x w' =>
  cases x <;> simp only [Oper.quietUponIn] at h3 <;> simp only [Oper.uponIn]
  case value u =>
   obtain ⟨e1, e2⟩ := h3
   rw [e1, e2]
   exact h _ _ hw h2
  case skip =>
   obtain ⟨e1, e2⟩ := h3
   rw [e1, ← e2]
   exact h _ _ hw h2
  case enter f args =>
   obtain ⟨e1, hd, hc⟩ := h3
   rw [e1]
   exact ⟨hd, hc.mono fun e w'' ⟨he, hw''⟩ => by subst he; exact h _ _ hw'' h2⟩
 | halt x w' => simp only [Oper.quietUponIn] at h3
theorem wpOpIn_of_qOpInR {i : Nat} {a : Act} {K : Act → Prop} {K' : Act → World → Prop} {Q' : Exit → Act → World → Prop} {w : World} (hnd : ∀ o, ops[i]? = some o → ∀ c, o.op ≠ .defer c) (hC : C w) (h : ∀ a w', C w' → K a → K' a w')
  (hh : qOpIn F n P ops C i K a) : wpOpIn F n P ops Q' i K' a w := by
 unfold qOpIn at hh
 unfold wpOpIn
 split
 ·rename_i ho; simp only [ho] at hh; exact h _ _ hC hh
 ·rename_i o ho
  simp only [ho] at hh
  obtain ⟨ha, hh⟩ := hh
  split
  ·rename_i hw; simp only [hw, if_true] at hh; exact Oper.wpIn_of_quietR (hnd o ho) hC h ha hh
  ·rename_i hw; simp only [hw] at hh; exact ⟨ha w hC, h _ _ hC hh⟩
theorem wpAnyIn_of_quietR {Q : Act → Prop} {Q' : Exit → Act → World → Prop} (hnd : ∀ (i : Nat) o, ops[i]? = some o → ∀ c, o.op ≠ .defer c) (hQ : ∀ a w, C w → Q a → Q' .normal a w) : ∀ (fuel : Nat) (listed : Array Bool) (a : Act) (w : World), C w →
  wpAnyQIn F n P md ops C Q fuel listed a → wpAnyIn F n P md ops Q' fuel listed a w
 | 0, _, _, _, hw, h => ⟨h.1, hQ _ _ hw h.2⟩
 | fuel + 1, _, _, _, hw, h => ⟨fun h0 => hQ _ _ hw (h.1 h0), fun i hi => wpOpIn_of_qOpInR (hnd i) hw (fun a' w' hw' => wpAnyIn_of_quietR hnd hQ fuel _ a' w' hw') (h.2 i hi)⟩
theorem wpIn_region_quietR {id : Nat} {Q : Exit → Act → World → Prop} {a : Act} {w : World} {l : List Oper} (hnd : l.all (fun o => match o.op with | .defer _ => false | _ => true) = true) (hm : P.follows .mixedOrders = true) (hB : Region.lexB .any l.toArray = true)
  (h : wpQuietIn F n P l.toArray (fun w' => ∃ n, w' = w.drewN n) (fun a' => ∀ w', (∃ n, w' = w.drewN n) → Q .normal a' w') l a) : (Code.region id l.toArray true).wpIn F n P Q a w := by
 simp only [Region.lexB, Bool.and_eq_true] at hB
 have hnd' : ∀ (i : Nat) o, l.toArray[i]? = some o → ∀ c, o.op ≠ .defer c := by
  intro i o ho c hc
  have hm : o ∈ l := List.mem_of_getElem? (by simpa using ho)
  have := List.all_eq_true.1 hnd o hm
  rw [hc] at this
  cases this
 refine wpIn_region_any hm (wpAnyIn_of_quietR (C := fun w' => ∃ n, w' = w.drewN n) (Q := fun a' => ∀ w', (∃ n, w' = w.drewN n) → Q .normal a' w') hnd' (fun _ w' hw' h => h w' hw') _ _ _ _ ⟨1, rfl⟩ ?_)
 have := wpAnyQIn_lex (F := F) (n := n) (C := fun w' => ∃ n, w' = w.drewN n) (md := .any) hB.1 l 0 (Array.replicate l.toArray.size false) a (by simp) (by simpa using hB.2) (by simpa using h)
 simpa using this
theorem wpQIn_val {Q : Act → Prop} {a : Act} {o : Oper} {rest : List Oper} (v : Value) (hg : o.guard = none) (ha : ∀ w, o.about P w a.eval = none) (hr : ∀ w', (execOp a.eval o).run P w' = .ok (.value v) w')
  (h : wpQuietIn F n P ops C Q rest (a.put o.dst v)) : wpQuietIn F n P ops C Q (o :: rest) a := by
 refine ⟨fun w _ f hf => (by rw [ha w] at hf; cases hf), ?_⟩
 rw [if_pos (by simp [Region.wanted, hg])]
 refine ⟨v, fun w' _ => ?_, h⟩
 unfold Oper.quietAtIn
 rw [hr w']
 exact ⟨rfl, rfl⟩
theorem wpQIn_load {Q : Act → Prop} {a : Act} {rest : List Oper} {w : World} {d : Tmp} {e : TypeId} {s : Operand} {ty : TypeId} {p : String} {af : Array Edge} {pa : Addr} {v : Value} (hF : Flat P e) (hs : a.eval s = .pointer (some pa)) (hc : w.cell? pa = some v)
  (h : wpQuietIn F n P ops (fun w' => ∃ n, w' = w.drewN n) Q rest (a.put (some d) v)) : wpQuietIn F n P ops (fun w' => ∃ n, w' = w.drewN n) Q (⟨some d, .load e s, ty, p, af, none⟩ :: rest) a := by
 refine ⟨fun w _ f hf => (by simp [Oper.about] at hf), ?_⟩
 rw [if_pos (by simp [Region.wanted])]
 refine ⟨v, fun w' hw' => ?_, h⟩
 obtain ⟨k, rfl⟩ := hw'
 unfold Oper.quietAtIn
 have := run_loadAt_cell (P := P) (w.drewN k) (a := pa) (v := v) hF hc
 simp [execOp, hs, this, Result.andThen]
 exact ⟨rfl, rfl⟩
end
end Go.Proofs.YtglpfpdomnllkaaGreat

namespace Go.Proofs.YtglpfpdomnllkaaGreat
open Go.RowKit Go.Shelf
attribute [local go_sem] Oper.semAt_some
attribute [local go_sem ↓] run_index4
set_option maxHeartbeats 8000000
set_option maxRecDepth 100000

theorem idxL_O (l : List Int) (x : Int) : idxL l x = (idxO l x).getD (-1) := by
 unfold idxL idxO
 split <;> rfl
theorem sIndexO_any (a : Option Addr) (cap : Nat) (l : List Int) (x : Int) (w : World) (h : Ints w a cap l) :
  Calls Tryz.prog 52 #[.slice a l.length cap, .int .i64 x] w fun r w' => r = .returned (.int .i64 ((idxO l x).getD (-1))) ∧ w = w' := by
 have := sIndex_any a cap l x w h
 rwa [idxL_O] at this
theorem slotsG_take (m : MacV) (g : Int) {j : Nat} (h : j < 4) : (slotsG m g).take (j + 1) = (slotsG m g).take j ++ [slotG m g j] := by
 rw [slotsG_eq]
 have : j = 0 ∨ j = 1 ∨ j = 2 ∨ j = 3 := by omega
 rcases this with rfl | rfl | rfl | rfl <;> rfl

theorem order_any (m : MacV) (ad : Option Addr) (cap : Nat) (al : Option Addr) (cl : Nat) (l : List Int) (w : World) (hL : Ints w al cl l) (h0 : 0 ≤ m.gears) (h1 : m.gears ≤ 16) :
  Calls Tryz.prog 50 #[mV m ad cap, .slice al l.length cl] w fun r w' => ∃ v, r = .returned v ∧ OwnI w.heap.size w' v (orderM m l) ∧ Below w.heap.size w w' := by
 have hcap := hL.le
 have hm := hL.max
 refine callsIn_wide.1 (callsIn_of_wp_marks (n := 9) (F := Fence.wide) Tryz.func50 rfl trivial ?_ rfl)
 simp only [Tryz.ntmps50, List.size_toArray, List.length_cons, List.length_nil, Nat.reduceAdd, Nat.reduceSub, Array.replicate_succ, Array.replicate_zero, List.push_toArray, List.append_toArray, List.nil_append, List.cons_append]
 refine wpIn_wide.2 ?_
 have hS := ((((SL.nil w).box (.cells (mC m ad cap) 24)).box (.cells #[.slice al l.length cl] 22)).nilS (α := Int) (e := 3) cIntS).box (.cells #[.slice none 0 0] 22)
 simp only [World.size_alloc] at hS
 have q3 := (hS.blk 3 rfl).1
 go_wp2_with (with_reducible refine wpList_ldS (n := 4) (us := mC m ad cap) A_mach kR wU wU (by assumption) wU wU ?_)
 refine (gears_any m ad cap _).mono ?_
 rintro e w3 ⟨rfl, rfl⟩
 have hS2 := hS.box (.cells (mC m ad cap) 24)
 simp only [World.size_alloc] at hS2
 go_wp2_with fail
 obtain ⟨n, hn⟩ : ∃ n : Nat, m.gears = n := ⟨m.gears.toNat, by omega⟩
 have hgl : gearsL m = gearsTo n := by unfold gearsL gearsTo; rw [hn]; rfl
 have hn16 : n ≤ 16 := by omega
 have hokT : ∀ (lv : Value) (L : List Int), ∀ q ∈ [pBlk (w.heap.size + 1 + 1 + 1) (.cells (mC m ad cap) 24), pBlk (w.heap.size + 1 + 1) (.cells #[lv] 22), pOwn cInt 1 3 lv L, pBlk (w.heap.size + 1) (.cells #[.slice al l.length cl] 22), pBlk w.heap.size (.cells (mC m ad cap) 24)], q.okT (w.heap.size + 1 + 1 + 1 + 1) := by
  intro lv L q hq
  simp only [List.mem_cons, List.not_mem_nil, or_false] at hq
  rcases hq with rfl | rfl | rfl | rfl | rfl
  ·exact okT_cells
  ·exact okT_cells
  ·exact okT_own
  ·exact okT_cells
  ·exact okT_cells
 have HOK := hid hokT; have HN := hid hn; have HGL := hid hgl
 have hS3 := hS2.pick [0, 1, 2, 3, 4] (by decide) [pBlk (w.heap.size + 1 + 1 + 1) (.cells (mC m ad cap) 24), pBlk (w.heap.size + 1 + 1) (.cells #[.slice none 0 0] 22), pOwn cInt 1 3 (.slice none 0 0) [], pBlk (w.heap.size + 1) (.cells #[.slice al l.length cl] 22), pBlk w.heap.size (.cells (mC m ad cap) 24)] rfl
 clear hokT hgl q3 hS hS2
 refine (wpIn_wide (n := 9)).1 ?_
 refine wpIn_rangeFunc_ownH rfl (by decide) (gf := 155) (lb := #[.pointer (some ⟨w.heap.size + 1 + 1 + 1, 0, none⟩)]) rfl trivial (enters_of Tryz.func155 kR rfl)
  (gears_stops 8 (w.heap.size + 1 + 1 + 1) m ad cap n hn hn16 (by decide) _ (by simp) (hS3.blk 0 rfl).1)
  (fun h1 h2 => Eq.trans h2 h1) (fun W j o o' hj _ _ _ => World.putObj_heap_other (by simp at hj; omega)) (Below.refl _ _) (fun _ => rfl)
  (fun pre W => pre.length ≤ n ∧ ∃ lv, SL w.heap.size w W [pBlk (w.heap.size + 1 + 1 + 1) (.cells (mC m ad cap) 24), pBlk (w.heap.size + 1 + 1) (.cells #[lv] 22), pOwn cInt 1 3 lv (pre.flatMap fun x => orderG m l x.1), pBlk (w.heap.size + 1) (.cells #[.slice al l.length cl] 22), pBlk w.heap.size (.cells (mC m ad cap) 24)])
  (fun _ _ _ => False) ?hI (fun _ _ _ _ _ hs _ _ => hs) ⟨by simp, .slice none 0 0, hS3⟩
  (fun x a' W => ∃ b, a' = { tmps := #[mV m ad cap, .slice al l.length cl, .pointer (some ⟨w.heap.size, 0, none⟩), .pointer (some ⟨w.heap.size + 1, 0, none⟩), .slice none 0 0, .pointer (some ⟨w.heap.size + 1 + 1, 0, none⟩), undef, .pointer (some ⟨b, 0, none⟩), undef, undef, undef, mV m ad cap, .func (.func 155) #[] #[.pointer (some ⟨w.heap.size + 1 + 1 + 1, 0, none⟩)], .int .i64 x.1, .agg (gC m x.1), undef, undef, undef, undef, undef, undef, undef, undef, undef, undef, undef, undef, undef, undef, undef], defers := [] } ∧ W.heap[b]? = some (.cells (gC m x.1) 137)) ?hAx ?assign ?body ?done ?stop
 case hI =>
  rintro s A B row ⟨hs1, lv, hs⟩ hg hr
  exact ⟨hs1, lv, hs.turn (C := w.heap.size + 1 + 1 + 1 + 1) (by omega) (HOK.out _ _) hg (fun r e => by have := hr r e; simpa using this)⟩
 case hAx =>
  rintro x a' s A B row ⟨b, e, hb⟩ hg hr
  refine ⟨b, e, (hg.block b (Array.getElem?_eq_some_iff.1 hb).1 (fun e2 => ?_)).trans hb⟩
  obtain ⟨_, o, ho, hc⟩ := hr b e2.symm
  rw [hb] at ho; cases ho; cases hc
 case assign =>
  rintro q pre x W K ⟨hpl, lv, hs⟩ hK
  dsimp only [gearV]
  gi_wp2
  refine hK _ _ ((KeepsOthers.alloc _ _).from _) (Below.heap_alloc _ _ _ (hs.blk 0 rfl).2.2) ⟨hpl, lv, hs.al _⟩ ⟨W.heap.size, rfl, ?_⟩
  exact heap_alloc_new W _
 case body =>
  rintro q pre x a' W - - ⟨hpl, lv, hs⟩ ⟨b, rfl, hb⟩ hlt
  have hbm := (hs.blk 0 rfl).1
  have hal : (pre.flatMap fun x => orderG m l x.1).length ≤ 64 := by
   have key : ∀ p : List (Slot n), (p.flatMap fun x => orderG m l x.1).length ≤ 4 * p.length := by
    intro p
    induction p with
    | nil => simp
    | cons y p ih =>
     rw [List.flatMap_cons, List.length_append, List.length_cons]
     have : (orderG m l y.1).length ≤ 4 := by unfold orderG; refine Nat.le_trans (List.length_filterMap_le _ _) ?_; rw [slotsG_eq]; exact Nat.le_refl 4
     omega
   have := key pre
   omega
  have q0 : W.cell? ⟨b, 0, none⟩ = some (.int .i64 (slotG m x.1 0)) := by simp [World.cell?, hb]
  have q1 : W.cell? ⟨b, 1, none⟩ = some (.int .i64 (slotG m x.1 1)) := by simp [World.cell?, hb]
  have q2 : W.cell? ⟨b, 2, none⟩ = some (.int .i64 (slotG m x.1 2)) := by simp [World.cell?, hb]
  have q3 : W.cell? ⟨b, 3, none⟩ = some (.int .i64 (slotG m x.1 3)) := by simp [World.cell?, hb]
  have htk := fun j h => slotsG_take m x.1 (j := j) h
  have hfin : (pre ++ [x]).flatMap (fun x => orderG m l x.1) = (pre.flatMap fun x => orderG m l x.1) ++ ((slotsG m x.1).take 4).filterMap (idxO l) := by
   rw [List.flatMap_append]; simp [orderG, slotsG_eq]
  obtain ⟨acc, hacc⟩ : ∃ acc, acc = (pre.flatMap fun x => orderG m l x.1) := ⟨_, rfl⟩
  rw [← hacc] at hs hal hfin
  have hx0 := x.2.1
  have hx1 := x.2.2
  have HTK := hid htk; have HFIN := hid hfin
  clear hb htk hfin hacc HN
  gi_wp2
  clear q0 q1 q2 q3
  gi_loopw [16] (fun i wq => ∃ (j : Nat) (lv : Value), j ≤ 4 ∧ i = .int .i64 j ∧ KeepsOthers W wq ∧ SL w.heap.size w wq [pBlk (w.heap.size + 1 + 1 + 1) (.cells (mC m ad cap) 24), pBlk (w.heap.size + 1 + 1) (.cells #[lv] 22), pOwn cInt 1 3 lv (acc ++ ((slotsG m x.1).take j).filterMap (idxO l)), pBlk (w.heap.size + 1) (.cells #[.slice al l.length cl] 22), pBlk w.heap.size (.cells (mC m ad cap) 24)]) (fun i _ => 4 - (intOf i).toNat)
  case atStart => exact ⟨0, lv, by omega, rfl, KeepsOthers.refl _, by simpa using hs⟩
  case round =>
   clear hs
   obtain ⟨j, lw, hj, rfl, hko, hSq⟩ := hrel
   have hlen : (acc ++ ((slotsG m x.1).take j).filterMap (idxO l)).length ≤ 70 := by
    rw [List.length_append]
    have := List.length_filterMap_le (idxO l) ((slotsG m x.1).take j)
    rw [List.length_take] at this
    omega
   obtain ⟨A, hA⟩ : ∃ A, A = acc ++ ((slotsG m x.1).take j).filterMap (idxO l) := ⟨_, rfl⟩
   rw [← hA] at hSq hlen
   have HA := hid hA
   clear hA
   have hj5 : j = 0 ∨ j = 1 ∨ j = 2 ∨ j = 3 ∨ j = 4 := by omega
   have hlc := hSq.cell 3 rfl 0 rfl
   have hlb := hSq.cell 1 rfl 0 rfl
   have hlf := hSq.frozen 1 rfl 0
   have hLq := hL.below hSq.b
   rcases hj5 with rfl | rfl | rfl | rfl | rfl
   ·have CI := fun w h => sIndexO_any al cl l (slotG m x.1 0) w h
    have ht := HTK.out 0 (by omega)
    obtain ⟨S, hS⟩ : ∃ S, S = slotG m x.1 0 := ⟨_, rfl⟩
    rw [← hS] at CI ht ⊢
    cases hi : idxO l S with
    | none =>
     rw [hi] at CI
     have HC := hid CI; have HT := hid ht; have HI := hid hi
     clear CI hS hi ht
     gi_wp2
     refine ⟨trivial, (callsIn_wide.2 (HC.out _ hLq)).mono ?_⟩
     rintro e w' ⟨rfl, rfl⟩
     gi_wp2
     go_roundw
     case rel => exact ⟨1, lw, by omega, rfl, hko, by rw [HT.out, List.filterMap_append, ← List.append_assoc, ← HA.out]; simpa [HI.out] using hSq⟩
     case measure => simp [intOf]
    | some k =>
     have hk := (idxO_some hi).1
     rw [hi] at CI
     have HC := hid CI; have HT := hid ht; have HI := hid hi
     clear CI hS hi ht
     have hob := hSq.own 2 rfl
     gi_wp2
     refine ⟨trivial, (callsIn_wide.2 (HC.out _ hLq)).mono ?_⟩
     rintro e w' ⟨rfl, rfl⟩
     gi_wp2_with (((with_reducible refine wpListIn_pushL (y := _) 2 E_ints wU wU (hSq) wU cIntO ⟨rfl, rfl⟩ (by first | with_unfolding_all rfl | simp) wU (by first | omega | (simp; omega)) (by first | omega | (simp; omega)) ?_); intro v6 w6 hP hg6 _); obtain ⟨a6, c6, rfl, _⟩ := hP.slice 2 rfl; have hlb6 := hP.cell 1 rfl 0 rfl; have hlf6 := hP.frozen 1 rfl 0)
     have hP2 := hP.set 1 rfl 0 (.slice a6 (A ++ [k]).length c6)
     have eL : (A ++ [k]).length = A.length + 1 := by simp
     rw [eL] at hP2
     go_roundw
     case rel =>
      refine ⟨1, .slice a6 (A.length + 1) c6, by omega, rfl, hko.trans ((KeepsOthers.of_grownBy hg6 fun j o ej hj => ?_).trans (KeepsOthers.setCell _ _ _)), ?_⟩
      ·obtain ⟨o', h1, h2⟩ := own_isCells hob ej
       have h3 := hj.symm.trans h1
       cases h3; exact h2
      ·rw [HT.out, List.filterMap_append]
       have e2 : [S].filterMap (idxO l) = [k] := by simp [HI.out]
       rw [e2, ← List.append_assoc, ← HA.out]
       exact hP2
     case measure => simp [intOf]
   ·have CI := fun w h => sIndexO_any al cl l (slotG m x.1 1) w h
    have ht := HTK.out 1 (by omega)
    obtain ⟨S, hS⟩ : ∃ S, S = slotG m x.1 1 := ⟨_, rfl⟩
    rw [← hS] at CI ht ⊢
    cases hi : idxO l S with
    | none =>
     rw [hi] at CI
     have HC := hid CI; have HT := hid ht; have HI := hid hi
     clear CI hS hi ht
     gi_wp2
     refine ⟨trivial, (callsIn_wide.2 (HC.out _ hLq)).mono ?_⟩
     rintro e w' ⟨rfl, rfl⟩
     gi_wp2
     go_roundw
     case rel => exact ⟨2, lw, by omega, rfl, hko, by rw [HT.out, List.filterMap_append, ← List.append_assoc, ← HA.out]; simpa [HI.out] using hSq⟩
     case measure => simp [intOf]
    | some k =>
     have hk := (idxO_some hi).1
     rw [hi] at CI
     have HC := hid CI; have HT := hid ht; have HI := hid hi
     clear CI hS hi ht
     have hob := hSq.own 2 rfl
     gi_wp2
     refine ⟨trivial, (callsIn_wide.2 (HC.out _ hLq)).mono ?_⟩
     rintro e w' ⟨rfl, rfl⟩
     gi_wp2_with (((with_reducible refine wpListIn_pushL (y := _) 2 E_ints wU wU (hSq) wU cIntO ⟨rfl, rfl⟩ (by first | with_unfolding_all rfl | simp) wU (by first | omega | (simp; omega)) (by first | omega | (simp; omega)) ?_); intro v6 w6 hP hg6 _); obtain ⟨a6, c6, rfl, _⟩ := hP.slice 2 rfl; have hlb6 := hP.cell 1 rfl 0 rfl; have hlf6 := hP.frozen 1 rfl 0)
     have hP2 := hP.set 1 rfl 0 (.slice a6 (A ++ [k]).length c6)
     have eL : (A ++ [k]).length = A.length + 1 := by simp
     rw [eL] at hP2
     go_roundw
     case rel =>
      refine ⟨2, .slice a6 (A.length + 1) c6, by omega, rfl, hko.trans ((KeepsOthers.of_grownBy hg6 fun j o ej hj => ?_).trans (KeepsOthers.setCell _ _ _)), ?_⟩
      ·obtain ⟨o', h1, h2⟩ := own_isCells hob ej
       have h3 := hj.symm.trans h1
       cases h3; exact h2
      ·rw [HT.out, List.filterMap_append]
       have e2 : [S].filterMap (idxO l) = [k] := by simp [HI.out]
       rw [e2, ← List.append_assoc, ← HA.out]
       exact hP2
     case measure => simp [intOf]
   ·have CI := fun w h => sIndexO_any al cl l (slotG m x.1 2) w h
    have ht := HTK.out 2 (by omega)
    obtain ⟨S, hS⟩ : ∃ S, S = slotG m x.1 2 := ⟨_, rfl⟩
    rw [← hS] at CI ht ⊢
    cases hi : idxO l S with
    | none =>
     rw [hi] at CI
     have HC := hid CI; have HT := hid ht; have HI := hid hi
     clear CI hS hi ht
     gi_wp2
     refine ⟨trivial, (callsIn_wide.2 (HC.out _ hLq)).mono ?_⟩
     rintro e w' ⟨rfl, rfl⟩
     gi_wp2
     go_roundw
     case rel => exact ⟨3, lw, by omega, rfl, hko, by rw [HT.out, List.filterMap_append, ← List.append_assoc, ← HA.out]; simpa [HI.out] using hSq⟩
     case measure => simp [intOf]
    | some k =>
     have hk := (idxO_some hi).1
     rw [hi] at CI
     have HC := hid CI; have HT := hid ht; have HI := hid hi
     clear CI hS hi ht
     have hob := hSq.own 2 rfl
     gi_wp2
     refine ⟨trivial, (callsIn_wide.2 (HC.out _ hLq)).mono ?_⟩
     rintro e w' ⟨rfl, rfl⟩
     gi_wp2_with (((with_reducible refine wpListIn_pushL (y := _) 2 E_ints wU wU (hSq) wU cIntO ⟨rfl, rfl⟩ (by first | with_unfolding_all rfl | simp) wU (by first | omega | (simp; omega)) (by first | omega | (simp; omega)) ?_); intro v6 w6 hP hg6 _); obtain ⟨a6, c6, rfl, _⟩ := hP.slice 2 rfl; have hlb6 := hP.cell 1 rfl 0 rfl; have hlf6 := hP.frozen 1 rfl 0)
     have hP2 := hP.set 1 rfl 0 (.slice a6 (A ++ [k]).length c6)
     have eL : (A ++ [k]).length = A.length + 1 := by simp
     rw [eL] at hP2
     go_roundw
     case rel =>
      refine ⟨3, .slice a6 (A.length + 1) c6, by omega, rfl, hko.trans ((KeepsOthers.of_grownBy hg6 fun j o ej hj => ?_).trans (KeepsOthers.setCell _ _ _)), ?_⟩
      ·obtain ⟨o', h1, h2⟩ := own_isCells hob ej
       have h3 := hj.symm.trans h1
       cases h3; exact h2
      ·rw [HT.out, List.filterMap_append]
       have e2 : [S].filterMap (idxO l) = [k] := by simp [HI.out]
       rw [e2, ← List.append_assoc, ← HA.out]
       exact hP2
     case measure => simp [intOf]
   ·have CI := fun w h => sIndexO_any al cl l (slotG m x.1 3) w h
    have ht := HTK.out 3 (by omega)
    obtain ⟨S, hS⟩ : ∃ S, S = slotG m x.1 3 := ⟨_, rfl⟩
    rw [← hS] at CI ht ⊢
    cases hi : idxO l S with
    | none =>
     rw [hi] at CI
     have HC := hid CI; have HT := hid ht; have HI := hid hi
     clear CI hS hi ht
     gi_wp2
     refine ⟨trivial, (callsIn_wide.2 (HC.out _ hLq)).mono ?_⟩
     rintro e w' ⟨rfl, rfl⟩
     gi_wp2
     go_roundw
     case rel => exact ⟨4, lw, by omega, rfl, hko, by rw [HT.out, List.filterMap_append, ← List.append_assoc, ← HA.out]; simpa [HI.out] using hSq⟩
     case measure => simp [intOf]
    | some k =>
     have hk := (idxO_some hi).1
     rw [hi] at CI
     have HC := hid CI; have HT := hid ht; have HI := hid hi
     clear CI hS hi ht
     have hob := hSq.own 2 rfl
     gi_wp2
     refine ⟨trivial, (callsIn_wide.2 (HC.out _ hLq)).mono ?_⟩
     rintro e w' ⟨rfl, rfl⟩
     gi_wp2_with (((with_reducible refine wpListIn_pushL (y := _) 2 E_ints wU wU (hSq) wU cIntO ⟨rfl, rfl⟩ (by first | with_unfolding_all rfl | simp) wU (by first | omega | (simp; omega)) (by first | omega | (simp; omega)) ?_); intro v6 w6 hP hg6 _); obtain ⟨a6, c6, rfl, _⟩ := hP.slice 2 rfl; have hlb6 := hP.cell 1 rfl 0 rfl; have hlf6 := hP.frozen 1 rfl 0)
     have hP2 := hP.set 1 rfl 0 (.slice a6 (A ++ [k]).length c6)
     have eL : (A ++ [k]).length = A.length + 1 := by simp
     rw [eL] at hP2
     go_roundw
     case rel =>
      refine ⟨4, .slice a6 (A.length + 1) c6, by omega, rfl, hko.trans ((KeepsOthers.of_grownBy hg6 fun j o ej hj => ?_).trans (KeepsOthers.setCell _ _ _)), ?_⟩
      ·obtain ⟨o', h1, h2⟩ := own_isCells hob ej
       have h3 := hj.symm.trans h1
       cases h3; exact h2
      ·rw [HT.out, List.filterMap_append]
       have e2 : [S].filterMap (idxO l) = [k] := by simp [HI.out]
       rw [e2, ← List.append_assoc, ← HA.out]
       exact hP2
     case measure => simp [intOf]
   ·have hbq := (hSq.blk 0 rfl).1
    gi_wp2
    refine ⟨hko.from _, ?_, ?_⟩
    ·show _ = _
     rw [hbq, hbm]
    ·refine ⟨by rw [List.length_append]; exact hlt, lw, ?_⟩
     rw [HFIN.out, ← HA.out]
     exact hSq
 case done =>
  rintro D ys W hD hys ⟨hpl, lv, hs0⟩ hK
  have hs := hs0.addMark (C := w.heap.size + 1 + 1 + 1 + 1) (HOK.out _ _) (by omega) (by simpa using hD) hK
  clear hs0
  have hc := hs.cell 2 rfl 0 rfl
  have hfin : (ys.flatMap fun x => orderG m l x.1) = orderM m l := by
   unfold orderM
   rw [HGL.out, ← hys, List.flatMap_map]
  rw [hfin] at hs
  clear hys hfin
  dsimp only
  go_wp2_with fail
  refine SL.leave (L := [_, _, _, _, _]) (fun V hV => ⟨lv, ?_, _, rfl, hV.own 2 rfl, hV.b⟩) [D] W hs
  simp [results, Tryz.f50, go_sem]
 case stop =>
  rintro D c pre W _ _ h _
  exact h.elim
end Go.Proofs.YtglpfpdomnllkaaGreat
