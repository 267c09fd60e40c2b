/- Contracts and plain facts that the claim uses (MbC MbU MbV). Conditions: as each one states. -/
import Derived.RangeFuncNested
import Derived.RangeFuncBound
import Derived.RangeFuncCalls
import Derived.RangeFuncLeaves
import Derived.RangeFuncFrom
import Derived.Shelf.Abstract
import Derived.Shelf.RegionOpen
import Derived.WalkKit
import Derived.OwnWalkIn
import Derived.TacticsInMore
import Derived.LoopNIn
import Derived.LoopIn
import Derived.Test.YtdeoogbiipodmaaGreatProg
import Derived.WalkSpells
import Derived.Maps.AppendAt
import Derived.Deep.Quiet
import Derived.Maps.Own
import Derived.Maps.OwnSet
import Derived.Maps.Views
import Derived.WalkLawsBesides
import Derived.Laws.EntriesVeiled
import Derived.Deep.QuietTactic
import Derived.BigQuiet
import Derived.Shelf.Strings.Trim
import Derived.Shelf.Strings.SlTrimAscii
import Derived.Shelf.Strings.Repeat
import Derived.Shelf.Strings.OnBuilder
import Derived.Shelf.Strconv.Itoa1
import Derived.Shelf.Strconv.Itoa3
import Derived.Shelf.LaysM
import Derived.Ground.Names2Prog
import Derived.Lib.OthersKept
import Derived.Deep.RegionHeld3
import Derived.Deep.AppendLies
import Derived.Deep.RegionHeldLaw
import Derived.Deep.RegionLaw
import Derived.StillTail
import Derived.Laws.Tables
import Derived.IntWalk
import Derived.Laws.CopyOwn
import Derived.BigRegion
import Derived.ChangeAlike
import Derived.Shelf.Bits.Mul64
import Derived.Lib.ItoaLen
import Derived.Lib.ItoaMem
import Derived.Sort.LoopGhostIn
import Derived.Maps.RangeWalk
import Derived.Sort.QuietThIn
import Derived.Maps.Ext
import Derived.Test.YtdeoogbiipodmaaGreatXz01
import Derived.Test.YtdeoogbiipodmaaGreatXz02
import Derived.Test.YtdeoogbiipodmaaGreatXz03
import Derived.Test.YtdeoogbiipodmaaGreatXz04
import Derived.Test.YtdeoogbiipodmaaGreatXz05
import Derived.Test.YtdeoogbiipodmaaGreatXz06
set_option linter.all false

namespace Go.Proofs.YtdeoogbiipodmaaGreat
open Go.RowKit Go.Shelf
attribute [local go_sem] Oper.semAt_some
attribute [local go_sem ↓] run_index4 run_index32
set_option maxHeartbeats 8000000
set_option maxRecDepth 100000

def cCr (c : CrM) : Value := .agg #[.int .i64 c.gear, .int .i64 c.over, .int .i64 c.under, .int .i64 c.going]
attribute [go_sem] cCr
theorem cCr1 (x : CrM) : cCr x = .agg (cCr x).cells := rfl
theorem cCrS (x : CrM) : (cCr x).cells.size = 4 := rfl
theorem cCrO (x : CrM) : ∀ u ∈ (cCr x).cells.toList, u.oneCell' = true := by
 intro u hu; simp [cCr, Value.cells] at hu; rcases hu with rfl | rfl | rfl | rfl <;> rfl
theorem E_crs : ETy Tryz.prog 55 60 (.agg #[.int .i64 0, .int .i64 0, .int .i64 0, .int .i64 0]) 4 32 := ⟨Tryz.underlying55, by kernel_rfl, rfl, by decide⟩
theorem A_crs : Aggr Tryz.prog 60 := ⟨_, Tryz.underlying60, rfl⟩

def mixZ (z0 z1 z2 z3 : Int) (j : Nat) : Array Value := #[.int .i64 (if 0 < j then z0 else 0), .int .i64 (if 1 < j then z1 else 0), .int .i64 (if 2 < j then z2 else 0), .int .i64 (if 3 < j then z3 else 0)]

theorem crossings_any (m : MacV) (ad : Option Addr) (cap : Nat) (al : Option Addr) (cl : Nat) (l : List Int) (w : World) (hL : Ints w al cl l) (h0 : 0 ≤ m.gears) (h1 : m.gears ≤ 16) :
  Calls Tryz.prog 22 #[mV m ad cap, .slice al l.length cl] w fun r w' => ∃ v, r = .returned v ∧ Own cCr 4 w.heap.size 60 w' v (crossM m l) ∧ Below w.heap.size w w' := by
 have hcap := hL.le
 have hm := hL.max
 refine callsIn_wide.1 (callsIn_of_wp_marks (n := 9) (F := Fence.wide) Tryz.func22 rfl trivial ?_ rfl)
 simp only [Tryz.ntmps22, List.size_toArray, List.length_cons, List.length_nil, Nat.reduceAdd, Nat.reduceSub, Array.replicate_succ, Array.replicate_zero, List.push_toArray, List.append_toArray, List.nil_append, List.cons_append]
 refine wpIn_wide.2 ?_
 have hS := ((((SL.nil w).box (.cells (mC m ad cap) 24)).box (.cells #[.slice al l.length cl] 22)).nilS (α := CrM) (c := cCr) (sz := 4) (e := 60) cCrS).box (.cells #[.slice none 0 0] 55)
 simp only [World.size_alloc] at hS
 have q3 := (hS.blk 3 rfl).1
 go_wp2_with (with_reducible refine wpList_ldS (n := 4) (us := mC m ad cap) A_mach kR wU wU (by assumption) wU wU ?_)
 refine (gears_any m ad cap _).mono ?_
 rintro e w3 ⟨rfl, rfl⟩
 have hS2 := hS.box (.cells (mC m ad cap) 24)
 simp only [World.size_alloc] at hS2
 go_wp2_with fail
 obtain ⟨n, hn⟩ : ∃ n : Nat, m.gears = n := ⟨m.gears.toNat, by omega⟩
 have hgl : gearsL m = gearsTo n := by unfold gearsL gearsTo; rw [hn]; rfl
 have hn16 : n ≤ 16 := by omega
 have hokT : ∀ (lv : Value) (L : List CrM), ∀ q ∈ [pBlk (w.heap.size + 1 + 1 + 1) (.cells (mC m ad cap) 24), pBlk (w.heap.size + 1 + 1) (.cells #[lv] 55), pOwn cCr 4 60 (lv) (L), pBlk (w.heap.size + 1) (.cells #[.slice al l.length cl] 22), pBlk w.heap.size (.cells (mC m ad cap) 24)], q.okT (w.heap.size + 1 + 1 + 1 + 1) := by
  intro lv L q hq
  simp only [List.mem_cons, List.not_mem_nil, or_false] at hq
  rcases hq with rfl | rfl | rfl | rfl | rfl
  ·exact okT_cells
  ·exact okT_cells
  ·exact okT_own
  ·exact okT_cells
  ·exact okT_cells
 have HOK := hid hokT; have HN := hid hn; have HGL := hid hgl
 have hS3 := hS2.pick [0, 1, 2, 3, 4] (by decide) [pBlk (w.heap.size + 1 + 1 + 1) (.cells (mC m ad cap) 24), pBlk (w.heap.size + 1 + 1) (.cells #[.slice none 0 0] 55), pOwn cCr 4 60 (.slice none 0 0) ([]), pBlk (w.heap.size + 1) (.cells #[.slice al l.length cl] 22), pBlk w.heap.size (.cells (mC m ad cap) 24)] rfl
 clear hokT hgl q3 hS hS2
 refine (wpIn_wide (n := 9)).1 ?_
 refine wpIn_rangeFunc_ownH rfl (by decide) (gf := 88) (lb := #[.pointer (some ⟨w.heap.size + 1 + 1 + 1, 0, none⟩)]) rfl trivial (enters_of Tryz.func88 kR rfl)
  (gears_stops 8 (w.heap.size + 1 + 1 + 1) m ad cap n hn hn16 (by decide) _ (by simp) (hS3.blk 0 rfl).1)
  (fun h1 h2 => Eq.trans h2 h1) (fun W j o o' hj _ _ _ => World.putObj_heap_other (by simp at hj; omega)) (Below.refl _ _) (fun _ => rfl)
  (fun pre W => pre.length ≤ n ∧ ∃ lv, SL w.heap.size w W [pBlk (w.heap.size + 1 + 1 + 1) (.cells (mC m ad cap) 24), pBlk (w.heap.size + 1 + 1) (.cells #[lv] 55), pOwn cCr 4 60 (lv) (pre.flatMap fun x => crossG m l x.1), pBlk (w.heap.size + 1) (.cells #[.slice al l.length cl] 22), pBlk w.heap.size (.cells (mC m ad cap) 24)])
  (fun _ _ _ => False) ?hI (fun _ _ _ _ _ hs _ _ => hs) ⟨by simp, .slice none 0 0, hS3⟩
  (fun x a' W => ∃ b, a' = { tmps := #[mV m ad cap, .slice al l.length cl, .pointer (some ⟨w.heap.size, 0, none⟩), .pointer (some ⟨w.heap.size + 1, 0, none⟩), .slice none 0 0, .pointer (some ⟨w.heap.size + 1 + 1, 0, none⟩), .int .i64 x.1, .pointer (some ⟨b, 0, none⟩), undef, undef, undef, undef, undef, undef, undef, undef, mV m ad cap, .func (.func 88) #[] #[.pointer (some ⟨w.heap.size + 1 + 1 + 1, 0, none⟩)], .int .i64 x.1, .agg (gC m x.1), undef, undef, undef, undef, undef, undef, undef, undef, undef, undef, undef, undef, undef, undef, undef, undef, undef, undef, undef, undef, undef, undef, undef, undef, undef, undef, undef, undef, undef, undef, undef, undef, undef, undef, undef, undef, undef, undef, undef, undef, undef, undef, undef, undef, undef, undef, undef, undef, undef, undef, undef, undef], defers := [] } ∧ W.heap[b]? = some (.cells (gC m x.1) 98)) ?hAx ?assign ?body ?done ?stop
 case hI =>
  rintro s A B row ⟨hs1, lv, hs⟩ hg hr
  exact ⟨hs1, lv, hs.turn (C := w.heap.size + 1 + 1 + 1 + 1) (by omega) (HOK.out _ _) hg (fun r e => by have := hr r e; simpa using this)⟩
 case hAx =>
  rintro x a' s A B row ⟨b, e, hb⟩ hg hr
  refine ⟨b, e, (hg.block b (Array.getElem?_eq_some_iff.1 hb).1 (fun e2 => ?_)).trans hb⟩
  obtain ⟨_, o, ho, hc⟩ := hr b e2.symm
  rw [hb] at ho; cases ho; cases hc
 case assign =>
  rintro q pre x W K ⟨hpl, lv, hs⟩ hK
  dsimp only [gearV]
  gi_wp2
  refine hK _ _ ((KeepsOthers.alloc _ _).from _) (Below.heap_alloc _ _ _ (hs.blk 0 rfl).2.2) ⟨hpl, lv, hs.al _⟩ ⟨W.heap.size, rfl, ?_⟩
  exact heap_alloc_new W _
 case body =>
  rintro q pre x a' W - - ⟨hpl, lv, hs⟩ ⟨b, rfl, hb⟩ hlt
  clear hn
  have hbm := (hs.blk 0 rfl).1
  have hal : (pre.flatMap fun x => crossG m l x.1).length ≤ 64 := by
   have key : ∀ p : List (Slot n), (p.flatMap fun x => crossG m l x.1).length ≤ 3 * p.length := by
    intro p
    induction p with
    | nil => simp
    | cons y p ih =>
     rw [List.flatMap_cons, List.length_append, List.length_cons]
     have : (crossG m l y.1).length ≤ 3 := by unfold crossG; exact Nat.le_trans (List.length_filterMap_le _ _) (by decide)
     omega
   have := key pre
   omega
  have kk : ∀ i u, (gC m x.1)[i]? = some u → (W.alloc (.cells #[.int .i64 0, .int .i64 0, .int .i64 0, .int .i64 0] 98)).cell? ⟨b, i, none⟩ = some u := by
   intro i u hu
   have := Below.heap_alloc W (.cells #[.int .i64 0, .int .i64 0, .int .i64 0, .int .i64 0] 98) b (Array.getElem?_eq_some_iff.1 hb).1
   simp [World.cell?, this, hb, hu]
  have q0 := kk 0 _ rfl
  have q1 := kk 1 _ rfl
  have q2 := kk 2 _ rfl
  have q3 := kk 3 _ rfl
  have hfin : (pre ++ [x]).flatMap (fun x => crossG m l x.1) = (pre.flatMap fun x => crossG m l x.1) ++ (pairsX.take 3).filterMap (fun p => crossA m l x.1 p.1 p.2) := by
   rw [List.flatMap_append]; simp [crossG, pairsX]
  obtain ⟨acc, hacc⟩ : ∃ acc, acc = (pre.flatMap fun x => crossG m l x.1) := ⟨_, rfl⟩
  rw [← hacc] at hs hal hfin
  have hx0 := x.2.1
  have hx1 := x.2.2
  have HFIN := hid hfin
  have C0 := fun w h => sIndexO_any al cl l (slotG m x.1 0) w h
  have C1 := fun w h => sIndexO_any al cl l (slotG m x.1 1) w h
  have C2 := fun w h => sIndexO_any al cl l (slotG m x.1 2) w h
  have C3 := fun w h => sIndexO_any al cl l (slotG m x.1 3) w h
  obtain ⟨Z0, hZ0⟩ : ∃ Z, Z = (idxO l (slotG m x.1 0)).getD (-1) := ⟨_, rfl⟩
  obtain ⟨Z1, hZ1⟩ : ∃ Z, Z = (idxO l (slotG m x.1 1)).getD (-1) := ⟨_, rfl⟩
  obtain ⟨Z2, hZ2⟩ : ∃ Z, Z = (idxO l (slotG m x.1 2)).getD (-1) := ⟨_, rfl⟩
  obtain ⟨Z3, hZ3⟩ : ∃ Z, Z = (idxO l (slotG m x.1 3)).getD (-1) := ⟨_, rfl⟩
  rw [← hZ0] at C0
  rw [← hZ1] at C1
  rw [← hZ2] at C2
  rw [← hZ3] at C3
  have HC0 := hid C0; have HC1 := hid C1; have HC2 := hid C2; have HC3 := hid C3
  have HZ0 := hid hZ0; have HZ1 := hid hZ1; have HZ2 := hid hZ2; have HZ3 := hid hZ3
  have CF := fun w => forwards_any m ad cap x.1 w hx0 (by omega)
  have HF := hid CF
  clear hb kk hfin hacc HN C0 C1 C2 C3 hZ0 hZ1 hZ2 hZ3 CF
  have hs8 := hs.box (.cells #[.int .i64 0, .int .i64 0, .int .i64 0, .int .i64 0] 98)
  gi_wp2
  clear q0 q1 q2 q3
  gi_loopw [21] (fun i wq => ∃ (j : Nat), j ≤ 4 ∧ i = .int .i64 j ∧ KeepsOthers W wq ∧ SL w.heap.size w wq (pBlk W.heap.size (.cells (mixZ Z0 Z1 Z2 Z3 j) 98) :: [pBlk (w.heap.size + 1 + 1 + 1) (.cells (mC m ad cap) 24), pBlk (w.heap.size + 1 + 1) (.cells #[lv] 55), pOwn cCr 4 60 (lv) (acc), pBlk (w.heap.size + 1) (.cells #[.slice al l.length cl] 22), pBlk w.heap.size (.cells (mC m ad cap) 24)])) (fun i _ => 4 - (intOf i).toNat)
  case atStart => exact ⟨0, by omega, rfl, KeepsOthers.alloc _ _, hs8⟩
  case round =>
   clear hs hs8
   obtain ⟨j, hj, rfl, hko, hSq⟩ := hrel
   have hj5 : j = 0 ∨ j = 1 ∨ j = 2 ∨ j = 3 ∨ j = 4 := by omega
   have hlc := hSq.cell 4 rfl 0 rfl
   have hLq := hL.below hSq.b
   rcases hj5 with rfl | rfl | rfl | rfl | rfl
   ·have q := hSq.cell 0 rfl 0 (u := .int .i64 0) (by simp [mixZ])
    have fz := hSq.frozen 0 rfl 0
    gi_wp2
    refine ⟨trivial, (callsIn_wide.2 (HC0.out _ hLq)).mono ?_⟩
    rintro e w' ⟨rfl, rfl⟩
    gi_wp2
    go_roundw
    case rel => exact ⟨1, by omega, rfl, hko.trans (KeepsOthers.setCell _ _ _), hSq.set 0 rfl 0 _⟩
    case measure => simp [intOf]
   ·have q := hSq.cell 0 rfl 1 (u := .int .i64 0) (by simp [mixZ])
    have fz := hSq.frozen 0 rfl 1
    gi_wp2
    refine ⟨trivial, (callsIn_wide.2 (HC1.out _ hLq)).mono ?_⟩
    rintro e w' ⟨rfl, rfl⟩
    gi_wp2
    go_roundw
    case rel => exact ⟨2, by omega, rfl, hko.trans (KeepsOthers.setCell _ _ _), hSq.set 0 rfl 1 _⟩
    case measure => simp [intOf]
   ·have q := hSq.cell 0 rfl 2 (u := .int .i64 0) (by simp [mixZ])
    have fz := hSq.frozen 0 rfl 2
    gi_wp2
    refine ⟨trivial, (callsIn_wide.2 (HC2.out _ hLq)).mono ?_⟩
    rintro e w' ⟨rfl, rfl⟩
    gi_wp2
    go_roundw
    case rel => exact ⟨3, by omega, rfl, hko.trans (KeepsOthers.setCell _ _ _), hSq.set 0 rfl 2 _⟩
    case measure => simp [intOf]
   ·have q := hSq.cell 0 rfl 3 (u := .int .i64 0) (by simp [mixZ])
    have fz := hSq.frozen 0 rfl 3
    gi_wp2
    refine ⟨trivial, (callsIn_wide.2 (HC3.out _ hLq)).mono ?_⟩
    rintro e w' ⟨rfl, rfl⟩
    gi_wp2
    go_roundw
    case rel => exact ⟨4, by omega, rfl, hko.trans (KeepsOthers.setCell _ _ _), hSq.set 0 rfl 3 _⟩
    case measure => simp [intOf]
   ·clear hlc hLq HC0 HC1 HC2 HC3
    gi_wp2
    gi_loopw [35] (fun i wq => ∃ (k : Nat) (lw : Value), k ≤ 3 ∧ i = .int .i64 k ∧ KeepsOthers W wq ∧ SL w.heap.size w wq (pBlk W.heap.size (.cells #[.int .i64 Z0, .int .i64 Z1, .int .i64 Z2, .int .i64 Z3] 98) :: [pBlk (w.heap.size + 1 + 1 + 1) (.cells (mC m ad cap) 24), pBlk (w.heap.size + 1 + 1) (.cells #[lw] 55), pOwn cCr 4 60 (lw) (acc ++ (pairsX.take k).filterMap (fun p => crossA m l x.1 p.1 p.2)), pBlk (w.heap.size + 1) (.cells #[.slice al l.length cl] 22), pBlk w.heap.size (.cells (mC m ad cap) 24)])) (fun i _ => 3 - (intOf i).toNat)
    case atStart => exact ⟨0, lv, by omega, rfl, hko, by simpa [mixZ] using hSq⟩
    case round =>
     clear hSq hko
     obtain ⟨k, lw, hk, rfl, hko, hSq⟩ := hrel
     have hlen : (acc ++ (pairsX.take k).filterMap (fun p => crossA m l x.1 p.1 p.2)).length ≤ 70 := by
      rw [List.length_append]
      have := List.length_filterMap_le (fun p : Nat × Nat => crossA m l x.1 p.1 p.2) (pairsX.take k)
      rw [List.length_take] at this
      omega
     obtain ⟨A, hA⟩ : ∃ A, A = acc ++ (pairsX.take k).filterMap (fun p => crossA m l x.1 p.1 p.2) := ⟨_, rfl⟩
     rw [← hA] at hSq hlen
     have HA := hid hA
     clear hA
     have hk4 : k = 0 ∨ k = 1 ∨ k = 2 ∨ k = 3 := by omega
     have hmx : Tryz.prog.follows .mixedOrders = true := by kernel_rfl
     have hz8 := (hSq.blk 0 rfl).2.2
     have hzB := (hSq.blk 2 rfl).2.2
     rcases hk4 with rfl | rfl | rfl | rfl
     ·have hS12 := hSq.box (.cells #[.int .i64 1, .int .i64 2] 99)
      have u0 := hS12.cell 0 rfl 0 rfl
      have u1 := hS12.cell 0 rfl 1 rfl
      have z1 := hS12.cell 1 rfl 1 rfl
      have z2 := hS12.cell 1 rfl 2 rfl
      have hst : (pairsX.take 1).filterMap (fun p => crossA m l x.1 p.1 p.2) = (pairsX.take 0).filterMap (fun p => crossA m l x.1 p.1 p.2) ++ (crossA m l x.1 1 2).toList := by
       rw [show pairsX.take 1 = pairsX.take 0 ++ [(1, 2)] from rfl, List.filterMap_append]
       congr 1
      have HST := hid hst
      clear hst
      cases ox : idxO l (slotG m x.1 1) with
      | none =>
       have hz : Z1 = -1 := by rw [HZ1.out, ox]; rfl
       have hcr : crossA m l x.1 1 2 = none := by unfold crossA; rw [ox]
       have HCR := hid hcr
       subst hz
       clear ox hcr
       gi_wp2
       refine wpIn_region_quietR kR hmx kR ?_
       refine wpQIn_val (.pointer (some ⟨wr.heap.size, 0, none⟩)) rfl (fun _ => rfl) (fun w' => by go_simp) ?_
       go_frame
       refine wpQIn_load F_int wU u0 ?_
       go_frame
       refine wpQIn_val (.pointer (some ⟨W.heap.size, 1, none⟩)) rfl (fun _ => rfl) (fun w' => by go_simp) ?_
       go_frame
       refine wpQIn_load F_int wU z1 ?_
       go_frame
       refine wpQIn_val (.pointer (some ⟨wr.heap.size, 1, none⟩)) rfl (fun _ => rfl) (fun w' => by go_simp) ?_
       go_frame
       refine wpQIn_load F_int wU u1 ?_
       go_frame
       refine wpQIn_val (.pointer (some ⟨W.heap.size, 2, none⟩)) rfl (fun _ => rfl) (fun w' => by go_simp) ?_
       go_frame
       refine wpQIn_load F_int wU z2 ?_
       go_frame
       refine wpQIn_val (.int .i64 (-1)) rfl (fun _ => rfl) (fun w' => by go_simp) ?_
       go_frame
       refine wpQIn_val (.int .i64 Z2) rfl (fun _ => rfl) (fun w' => by go_simp) ?_
       go_frame
       refine wpQuietIn_nil ?_
       intro w4 hw4
       have b4 := below_drewN hw4
       have ko4 := KeepsOthers.of_grownBy (grown_of_below b4) (fun j o e => by cases e)
       have hS4 := hS12.mono b4
       clear hw4 u0 u1 z1 z2
       gi_wp2
       go_roundw
       case rel => exact ⟨1, lw, by omega, rfl, hko.trans ((KeepsOthers.alloc _ _).trans ko4), by rw [HST.out, HCR.out, ← List.append_assoc, ← HA.out]; simpa using hS4.tail⟩
       case measure => simp [intOf]
      | some a =>
       have ha0 := (idxO_some ox).1
       have hz : Z1 = a := by rw [HZ1.out, ox]; rfl
       subst hz
       have dX : decide (Z1 < 0) = false := decide_eq_false (by omega)
       cases oy : idxO l (slotG m x.1 2) with
       | none =>
        have hz2 : Z2 = -1 := by rw [HZ2.out, oy]; rfl
        have hcr : crossA m l x.1 1 2 = none := by unfold crossA; rw [ox, oy]
        have HCR := hid hcr
        subst hz2
        clear ox oy hcr
        gi_wp2
        refine wpIn_region_quietR kR hmx kR ?_
        refine wpQIn_val (.pointer (some ⟨wr.heap.size, 0, none⟩)) rfl (fun _ => rfl) (fun w' => by go_simp) ?_
        go_frame
        refine wpQIn_load F_int wU u0 ?_
        go_frame
        refine wpQIn_val (.pointer (some ⟨W.heap.size, 1, none⟩)) rfl (fun _ => rfl) (fun w' => by go_simp) ?_
        go_frame
        refine wpQIn_load F_int wU z1 ?_
        go_frame
        refine wpQIn_val (.pointer (some ⟨wr.heap.size, 1, none⟩)) rfl (fun _ => rfl) (fun w' => by go_simp) ?_
        go_frame
        refine wpQIn_load F_int wU u1 ?_
        go_frame
        refine wpQIn_val (.pointer (some ⟨W.heap.size, 2, none⟩)) rfl (fun _ => rfl) (fun w' => by go_simp) ?_
        go_frame
        refine wpQIn_load F_int wU z2 ?_
        go_frame
        refine wpQIn_val (.int .i64 Z1) rfl (fun _ => rfl) (fun w' => by go_simp) ?_
        go_frame
        refine wpQIn_val (.int .i64 (-1)) rfl (fun _ => rfl) (fun w' => by go_simp) ?_
        go_frame
        refine wpQuietIn_nil ?_
        intro w4 hw4
        have b4 := below_drewN hw4
        have ko4 := KeepsOthers.of_grownBy (grown_of_below b4) (fun j o e => by cases e)
        have hS4 := hS12.mono b4
        clear hw4 u0 u1 z1 z2
        gi_wp2
        go_roundw
        case rel => exact ⟨1, lw, by omega, rfl, hko.trans ((KeepsOthers.alloc _ _).trans ko4), by rw [HST.out, HCR.out, ← List.append_assoc, ← HA.out]; simpa using hS4.tail⟩
        case measure => simp [intOf]
       | some c =>
        have hb0 := (idxO_some oy).1
        have hz2 : Z2 = c := by rw [HZ2.out, oy]; rfl
        subst hz2
        have dY : decide (Z2 < 0) = false := decide_eq_false (by omega)
        have hcr : crossA m l x.1 1 2 = some (if fwdM m x.1 then ⟨x.1, Z2, Z1, Z1⟩ else ⟨x.1, Z1, Z2, Z1⟩) := by unfold crossA; rw [ox, oy]
        have CF := HF.out
        clear ox oy
        cases hf : fwdM m x.1
        ·rw [hf] at CF hcr
         have HFF := hid CF; have HCR := hid hcr
         clear CF hf hcr
         gi_wp2
         refine wpIn_region_quietR kR hmx kR ?_
         refine wpQIn_val (.pointer (some ⟨wr.heap.size, 0, none⟩)) rfl (fun _ => rfl) (fun w' => by go_simp) ?_
         go_frame
         refine wpQIn_load F_int wU u0 ?_
         go_frame
         refine wpQIn_val (.pointer (some ⟨W.heap.size, 1, none⟩)) rfl (fun _ => rfl) (fun w' => by go_simp) ?_
         go_frame
         refine wpQIn_load F_int wU z1 ?_
         go_frame
         refine wpQIn_val (.pointer (some ⟨wr.heap.size, 1, none⟩)) rfl (fun _ => rfl) (fun w' => by go_simp) ?_
         go_frame
         refine wpQIn_load F_int wU u1 ?_
         go_frame
         refine wpQIn_val (.pointer (some ⟨W.heap.size, 2, none⟩)) rfl (fun _ => rfl) (fun w' => by go_simp) ?_
         go_frame
         refine wpQIn_load F_int wU z2 ?_
         go_frame
         refine wpQIn_val (.int .i64 Z1) rfl (fun _ => rfl) (fun w' => by go_simp) ?_
         go_frame
         refine wpQIn_val (.int .i64 Z2) rfl (fun _ => rfl) (fun w' => by go_simp) ?_
         go_frame
         refine wpQuietIn_nil ?_
         intro w4 hw4
         have b4 := below_drewN hw4
         have ko4 := KeepsOthers.of_grownBy (grown_of_below b4) (fun j o e => by cases e)
         have hS4 := hS12.mono b4
         have hS5 := hS4.box (.cells #[.int .i64 x.1, .int .i64 Z1, .int .i64 Z2, .int .i64 Z1] 60)
         have m0 := hS5.cell 7 rfl 0 rfl
         have m1 := hS5.cell 7 rfl 1 rfl
         have m2 := hS5.cell 7 rfl 2 rfl
         have m3 := hS5.cell 7 rfl 3 rfl
         clear hw4 u0 u1 z1 z2
         gi_wp2
         refine ⟨trivial, (callsIn_wide.2 (HFF.out _)).mono ?_⟩
         rintro e w6 ⟨rfl, b6⟩
         have hS6 := hS5.mono b6
         have ko6 := KeepsOthers.of_grownBy (grown_of_below b6) (fun j o e => by cases e)
         clear m0 m1 m2 m3
         have c0 := hS6.cell 0 rfl 0 rfl
         have c1 := hS6.cell 0 rfl 1 rfl
         have c2 := hS6.cell 0 rfl 2 rfl
         have c3 := hS6.cell 0 rfl 3 rfl
         have hlb := hS6.cell 4 rfl 0 rfl
         have hlf := hS6.frozen 4 rfl 0
         have hob := hS6.own 5 rfl
         gi_wp2_with (((with_reducible refine wpListIn_pushL (y := (⟨x.1, Z1, Z2, Z1⟩ : CrM)) 5 E_crs wU wU (hS6) wU cCrO ⟨rfl, rfl⟩ (by first | with_unfolding_all rfl | simp) wU (by first | omega | (simp; omega)) (by first | omega | (simp; omega)) ?_); intro v7 w7 hP hg7 _); obtain ⟨a7, c7, rfl, _⟩ := hP.slice 5 rfl; have hlb7 := hP.cell 4 rfl 0 rfl; have hlf7 := hP.frozen 4 rfl 0)
         have hP2 := hP.set 4 rfl 0 (.slice a7 (A ++ [(⟨x.1, Z1, Z2, Z1⟩ : CrM)]).length c7)
         have eL : (A ++ [(⟨x.1, Z1, Z2, Z1⟩ : CrM)]).length = A.length + 1 := by simp
         rw [eL] at hP2
         refine ⟨?_, by simp [intOf]⟩
         repeat apply Exists.intro
         refine ⟨?_, rfl⟩
         refine ⟨1, .slice a7 (A.length + 1) c7, by omega, rfl, hko.trans ((KeepsOthers.alloc _ _).trans (ko4.trans ((KeepsOthers.alloc _ _).trans (ko6.trans ((KeepsOthers.of_grownBy hg7 fun j o ej hj => ?_).trans (KeepsOthers.setCell _ _ _)))))), ?_⟩
         ·obtain ⟨o', h1, h2⟩ := own_isCells hob ej
          have h3 := hj.symm.trans h1
          cases h3; exact h2
         ·rw [HST.out, HCR.out, ← List.append_assoc, ← HA.out]
          exact hP2.tail.tail
        ·rw [hf] at CF hcr
         have HFF := hid CF; have HCR := hid hcr
         clear CF hf hcr
         gi_wp2
         refine wpIn_region_quietR kR hmx kR ?_
         refine wpQIn_val (.pointer (some ⟨wr.heap.size, 0, none⟩)) rfl (fun _ => rfl) (fun w' => by go_simp) ?_
         go_frame
         refine wpQIn_load F_int wU u0 ?_
         go_frame
         refine wpQIn_val (.pointer (some ⟨W.heap.size, 1, none⟩)) rfl (fun _ => rfl) (fun w' => by go_simp) ?_
         go_frame
         refine wpQIn_load F_int wU z1 ?_
         go_frame
         refine wpQIn_val (.pointer (some ⟨wr.heap.size, 1, none⟩)) rfl (fun _ => rfl) (fun w' => by go_simp) ?_
         go_frame
         refine wpQIn_load F_int wU u1 ?_
         go_frame
         refine wpQIn_val (.pointer (some ⟨W.heap.size, 2, none⟩)) rfl (fun _ => rfl) (fun w' => by go_simp) ?_
         go_frame
         refine wpQIn_load F_int wU z2 ?_
         go_frame
         refine wpQIn_val (.int .i64 Z1) rfl (fun _ => rfl) (fun w' => by go_simp) ?_
         go_frame
         refine wpQIn_val (.int .i64 Z2) rfl (fun _ => rfl) (fun w' => by go_simp) ?_
         go_frame
         refine wpQuietIn_nil ?_
         intro w4 hw4
         have b4 := below_drewN hw4
         have ko4 := KeepsOthers.of_grownBy (grown_of_below b4) (fun j o e => by cases e)
         have hS4 := hS12.mono b4
         have hS5 := hS4.box (.cells #[.int .i64 x.1, .int .i64 Z1, .int .i64 Z2, .int .i64 Z1] 60)
         have m0 := hS5.cell 7 rfl 0 rfl
         have m1 := hS5.cell 7 rfl 1 rfl
         have m2 := hS5.cell 7 rfl 2 rfl
         have m3 := hS5.cell 7 rfl 3 rfl
         clear hw4 u0 u1 z1 z2
         gi_wp2
         refine ⟨trivial, (callsIn_wide.2 (HFF.out _)).mono ?_⟩
         rintro e w6 ⟨rfl, b6⟩
         have hS6 := hS5.mono b6
         have ko6 := KeepsOthers.of_grownBy (grown_of_below b6) (fun j o e => by cases e)
         clear m0 m1 m2 m3
         have f0 := hS6.frozen 0 rfl 0
         have f1 := hS6.frozen 0 rfl 1
         have f2 := hS6.frozen 0 rfl 2
         have c0 := hS6.cell 0 rfl 0 rfl
         have c1 := hS6.cell 0 rfl 1 rfl
         have c2 := hS6.cell 0 rfl 2 rfl
         have c3 := hS6.cell 0 rfl 3 rfl
         have hlb := hS6.cell 4 rfl 0 rfl
         have hne : ¬ w.heap.size + 1 + 1 = w4.heap.size := by have := (hS4.blk 3 rfl).2.2; omega
         have hS7 := ((hS6.set 0 rfl 0 (.int .i64 x.1)).set 0 rfl 1 (.int .i64 Z2)).set 0 rfl 2 (.int .i64 Z1)
         have hob := hS7.own 5 rfl
         gi_wp2_with (((with_reducible refine wpListIn_pushL (y := (⟨x.1, Z2, Z1, Z1⟩ : CrM)) 5 E_crs wU wU (hS7) wU cCrO ⟨rfl, rfl⟩ (by first | with_unfolding_all rfl | simp) wU (by first | omega | (simp; omega)) (by first | omega | (simp; omega)) ?_); intro v7 w7 hP hg7 _); obtain ⟨a7, c7, rfl, _⟩ := hP.slice 5 rfl; have hlb7 := hP.cell 4 rfl 0 rfl; have hlf7 := hP.frozen 4 rfl 0)
         have hP2 := hP.set 4 rfl 0 (.slice a7 (A ++ [(⟨x.1, Z2, Z1, Z1⟩ : CrM)]).length c7)
         have eL : (A ++ [(⟨x.1, Z2, Z1, Z1⟩ : CrM)]).length = A.length + 1 := by simp
         rw [eL] at hP2
         refine ⟨?_, by simp [intOf]⟩
         repeat apply Exists.intro
         refine ⟨?_, rfl⟩
         refine ⟨1, .slice a7 (A.length + 1) c7, by omega, rfl, hko.trans ((KeepsOthers.alloc _ _).trans (ko4.trans ((KeepsOthers.alloc _ _).trans (ko6.trans ((KeepsOthers.setCell _ _ _).trans ((KeepsOthers.setCell _ _ _).trans ((KeepsOthers.setCell _ _ _).trans ((KeepsOthers.of_grownBy hg7 fun j o ej hj => ?_).trans (KeepsOthers.setCell _ _ _))))))))), ?_⟩
         ·obtain ⟨o', h1, h2⟩ := own_isCells hob ej
          have h3 := hj.symm.trans h1
          cases h3; exact h2
         ·rw [HST.out, HCR.out, ← List.append_assoc, ← HA.out]
          exact hP2.tail.tail
     ·have hS12 := hSq.box (.cells #[.int .i64 0, .int .i64 2] 99)
      have u0 := hS12.cell 0 rfl 0 rfl
      have u1 := hS12.cell 0 rfl 1 rfl
      have z0 := hS12.cell 1 rfl 0 rfl
      have z2 := hS12.cell 1 rfl 2 rfl
      have hst : (pairsX.take 2).filterMap (fun p => crossA m l x.1 p.1 p.2) = (pairsX.take 1).filterMap (fun p => crossA m l x.1 p.1 p.2) ++ (crossA m l x.1 0 2).toList := by
       rw [show pairsX.take 2 = pairsX.take 1 ++ [(0, 2)] from rfl, List.filterMap_append]
       congr 1
      have HST := hid hst
      clear hst
      cases ox : idxO l (slotG m x.1 0) with
      | none =>
       have hz : Z0 = -1 := by rw [HZ0.out, ox]; rfl
       have hcr : crossA m l x.1 0 2 = none := by unfold crossA; rw [ox]
       have HCR := hid hcr
       subst hz
       clear ox hcr
       gi_wp2
       refine wpIn_region_quietR kR hmx kR ?_
       refine wpQIn_val (.pointer (some ⟨wr.heap.size, 0, none⟩)) rfl (fun _ => rfl) (fun w' => by go_simp) ?_
       go_frame
       refine wpQIn_load F_int wU u0 ?_
       go_frame
       refine wpQIn_val (.pointer (some ⟨W.heap.size, 0, none⟩)) rfl (fun _ => rfl) (fun w' => by go_simp) ?_
       go_frame
       refine wpQIn_load F_int wU z0 ?_
       go_frame
       refine wpQIn_val (.pointer (some ⟨wr.heap.size, 1, none⟩)) rfl (fun _ => rfl) (fun w' => by go_simp) ?_
       go_frame
       refine wpQIn_load F_int wU u1 ?_
       go_frame
       refine wpQIn_val (.pointer (some ⟨W.heap.size, 2, none⟩)) rfl (fun _ => rfl) (fun w' => by go_simp) ?_
       go_frame
       refine wpQIn_load F_int wU z2 ?_
       go_frame
       refine wpQIn_val (.int .i64 (-1)) rfl (fun _ => rfl) (fun w' => by go_simp) ?_
       go_frame
       refine wpQIn_val (.int .i64 Z2) rfl (fun _ => rfl) (fun w' => by go_simp) ?_
       go_frame
       refine wpQuietIn_nil ?_
       intro w4 hw4
       have b4 := below_drewN hw4
       have ko4 := KeepsOthers.of_grownBy (grown_of_below b4) (fun j o e => by cases e)
       have hS4 := hS12.mono b4
       clear hw4 u0 u1 z0 z2
       gi_wp2
       go_roundw
       case rel => exact ⟨2, lw, by omega, rfl, hko.trans ((KeepsOthers.alloc _ _).trans ko4), by rw [HST.out, HCR.out, ← List.append_assoc, ← HA.out]; simpa using hS4.tail⟩
       case measure => simp [intOf]
      | some a =>
       have ha0 := (idxO_some ox).1
       have hz : Z0 = a := by rw [HZ0.out, ox]; rfl
       subst hz
       have dX : decide (Z0 < 0) = false := decide_eq_false (by omega)
       cases oy : idxO l (slotG m x.1 2) with
       | none =>
        have hz2 : Z2 = -1 := by rw [HZ2.out, oy]; rfl
        have hcr : crossA m l x.1 0 2 = none := by unfold crossA; rw [ox, oy]
        have HCR := hid hcr
        subst hz2
        clear ox oy hcr
        gi_wp2
        refine wpIn_region_quietR kR hmx kR ?_
        refine wpQIn_val (.pointer (some ⟨wr.heap.size, 0, none⟩)) rfl (fun _ => rfl) (fun w' => by go_simp) ?_
        go_frame
        refine wpQIn_load F_int wU u0 ?_
        go_frame
        refine wpQIn_val (.pointer (some ⟨W.heap.size, 0, none⟩)) rfl (fun _ => rfl) (fun w' => by go_simp) ?_
        go_frame
        refine wpQIn_load F_int wU z0 ?_
        go_frame
        refine wpQIn_val (.pointer (some ⟨wr.heap.size, 1, none⟩)) rfl (fun _ => rfl) (fun w' => by go_simp) ?_
        go_frame
        refine wpQIn_load F_int wU u1 ?_
        go_frame
        refine wpQIn_val (.pointer (some ⟨W.heap.size, 2, none⟩)) rfl (fun _ => rfl) (fun w' => by go_simp) ?_
        go_frame
        refine wpQIn_load F_int wU z2 ?_
        go_frame
        refine wpQIn_val (.int .i64 Z0) rfl (fun _ => rfl) (fun w' => by go_simp) ?_
        go_frame
        refine wpQIn_val (.int .i64 (-1)) rfl (fun _ => rfl) (fun w' => by go_simp) ?_
        go_frame
        refine wpQuietIn_nil ?_
        intro w4 hw4
        have b4 := below_drewN hw4
        have ko4 := KeepsOthers.of_grownBy (grown_of_below b4) (fun j o e => by cases e)
        have hS4 := hS12.mono b4
        clear hw4 u0 u1 z0 z2
        gi_wp2
        go_roundw
        case rel => exact ⟨2, lw, by omega, rfl, hko.trans ((KeepsOthers.alloc _ _).trans ko4), by rw [HST.out, HCR.out, ← List.append_assoc, ← HA.out]; simpa using hS4.tail⟩
        case measure => simp [intOf]
       | some c =>
        have hb0 := (idxO_some oy).1
        have hz2 : Z2 = c := by rw [HZ2.out, oy]; rfl
        subst hz2
        have dY : decide (Z2 < 0) = false := decide_eq_false (by omega)
        have hcr : crossA m l x.1 0 2 = some (if fwdM m x.1 then ⟨x.1, Z2, Z0, Z0⟩ else ⟨x.1, Z0, Z2, Z0⟩) := by unfold crossA; rw [ox, oy]
        have CF := HF.out
        clear ox oy
        cases hf : fwdM m x.1
        ·rw [hf] at CF hcr
         have HFF := hid CF; have HCR := hid hcr
         clear CF hf hcr
         gi_wp2
         refine wpIn_region_quietR kR hmx kR ?_
         refine wpQIn_val (.pointer (some ⟨wr.heap.size, 0, none⟩)) rfl (fun _ => rfl) (fun w' => by go_simp) ?_
         go_frame
         refine wpQIn_load F_int wU u0 ?_
         go_frame
         refine wpQIn_val (.pointer (some ⟨W.heap.size, 0, none⟩)) rfl (fun _ => rfl) (fun w' => by go_simp) ?_
         go_frame
         refine wpQIn_load F_int wU z0 ?_
         go_frame
         refine wpQIn_val (.pointer (some ⟨wr.heap.size, 1, none⟩)) rfl (fun _ => rfl) (fun w' => by go_simp) ?_
         go_frame
         refine wpQIn_load F_int wU u1 ?_
         go_frame
         refine wpQIn_val (.pointer (some ⟨W.heap.size, 2, none⟩)) rfl (fun _ => rfl) (fun w' => by go_simp) ?_
         go_frame
         refine wpQIn_load F_int wU z2 ?_
         go_frame
         refine wpQIn_val (.int .i64 Z0) rfl (fun _ => rfl) (fun w' => by go_simp) ?_
         go_frame
         refine wpQIn_val (.int .i64 Z2) rfl (fun _ => rfl) (fun w' => by go_simp) ?_
         go_frame
         refine wpQuietIn_nil ?_
         intro w4 hw4
         have b4 := below_drewN hw4
         have ko4 := KeepsOthers.of_grownBy (grown_of_below b4) (fun j o e => by cases e)
         have hS4 := hS12.mono b4
         have hS5 := hS4.box (.cells #[.int .i64 x.1, .int .i64 Z0, .int .i64 Z2, .int .i64 Z0] 60)
         have m0 := hS5.cell 7 rfl 0 rfl
         have m1 := hS5.cell 7 rfl 1 rfl
         have m2 := hS5.cell 7 rfl 2 rfl
         have m3 := hS5.cell 7 rfl 3 rfl
         clear hw4 u0 u1 z0 z2
         gi_wp2
         refine ⟨trivial, (callsIn_wide.2 (HFF.out _)).mono ?_⟩
         rintro e w6 ⟨rfl, b6⟩
         have hS6 := hS5.mono b6
         have ko6 := KeepsOthers.of_grownBy (grown_of_below b6) (fun j o e => by cases e)
         clear m0 m1 m2 m3
         have c0 := hS6.cell 0 rfl 0 rfl
         have c1 := hS6.cell 0 rfl 1 rfl
         have c2 := hS6.cell 0 rfl 2 rfl
         have c3 := hS6.cell 0 rfl 3 rfl
         have hlb := hS6.cell 4 rfl 0 rfl
         have hlf := hS6.frozen 4 rfl 0
         have hob := hS6.own 5 rfl
         gi_wp2_with (((with_reducible refine wpListIn_pushL (y := (⟨x.1, Z0, Z2, Z0⟩ : CrM)) 5 E_crs wU wU (hS6) wU cCrO ⟨rfl, rfl⟩ (by first | with_unfolding_all rfl | simp) wU (by first | omega | (simp; omega)) (by first | omega | (simp; omega)) ?_); intro v7 w7 hP hg7 _); obtain ⟨a7, c7, rfl, _⟩ := hP.slice 5 rfl; have hlb7 := hP.cell 4 rfl 0 rfl; have hlf7 := hP.frozen 4 rfl 0)
         have hP2 := hP.set 4 rfl 0 (.slice a7 (A ++ [(⟨x.1, Z0, Z2, Z0⟩ : CrM)]).length c7)
         have eL : (A ++ [(⟨x.1, Z0, Z2, Z0⟩ : CrM)]).length = A.length + 1 := by simp
         rw [eL] at hP2
         refine ⟨?_, by simp [intOf]⟩
         repeat apply Exists.intro
         refine ⟨?_, rfl⟩
         refine ⟨2, .slice a7 (A.length + 1) c7, by omega, rfl, hko.trans ((KeepsOthers.alloc _ _).trans (ko4.trans ((KeepsOthers.alloc _ _).trans (ko6.trans ((KeepsOthers.of_grownBy hg7 fun j o ej hj => ?_).trans (KeepsOthers.setCell _ _ _)))))), ?_⟩
         ·obtain ⟨o', h1, h2⟩ := own_isCells hob ej
          have h3 := hj.symm.trans h1
          cases h3; exact h2
         ·rw [HST.out, HCR.out, ← List.append_assoc, ← HA.out]
          exact hP2.tail.tail
        ·rw [hf] at CF hcr
         have HFF := hid CF; have HCR := hid hcr
         clear CF hf hcr
         gi_wp2
         refine wpIn_region_quietR kR hmx kR ?_
         refine wpQIn_val (.pointer (some ⟨wr.heap.size, 0, none⟩)) rfl (fun _ => rfl) (fun w' => by go_simp) ?_
         go_frame
         refine wpQIn_load F_int wU u0 ?_
         go_frame
         refine wpQIn_val (.pointer (some ⟨W.heap.size, 0, none⟩)) rfl (fun _ => rfl) (fun w' => by go_simp) ?_
         go_frame
         refine wpQIn_load F_int wU z0 ?_
         go_frame
         refine wpQIn_val (.pointer (some ⟨wr.heap.size, 1, none⟩)) rfl (fun _ => rfl) (fun w' => by go_simp) ?_
         go_frame
         refine wpQIn_load F_int wU u1 ?_
         go_frame
         refine wpQIn_val (.pointer (some ⟨W.heap.size, 2, none⟩)) rfl (fun _ => rfl) (fun w' => by go_simp) ?_
         go_frame
         refine wpQIn_load F_int wU z2 ?_
         go_frame
         refine wpQIn_val (.int .i64 Z0) rfl (fun _ => rfl) (fun w' => by go_simp) ?_
         go_frame
         refine wpQIn_val (.int .i64 Z2) rfl (fun _ => rfl) (fun w' => by go_simp) ?_
         go_frame
         refine wpQuietIn_nil ?_
         intro w4 hw4
         have b4 := below_drewN hw4
         have ko4 := KeepsOthers.of_grownBy (grown_of_below b4) (fun j o e => by cases e)
         have hS4 := hS12.mono b4
         have hS5 := hS4.box (.cells #[.int .i64 x.1, .int .i64 Z0, .int .i64 Z2, .int .i64 Z0] 60)
         have m0 := hS5.cell 7 rfl 0 rfl
         have m1 := hS5.cell 7 rfl 1 rfl
         have m2 := hS5.cell 7 rfl 2 rfl
         have m3 := hS5.cell 7 rfl 3 rfl
         clear hw4 u0 u1 z0 z2
         gi_wp2
         refine ⟨trivial, (callsIn_wide.2 (HFF.out _)).mono ?_⟩
         rintro e w6 ⟨rfl, b6⟩
         have hS6 := hS5.mono b6
         have ko6 := KeepsOthers.of_grownBy (grown_of_below b6) (fun j o e => by cases e)
         clear m0 m1 m2 m3
         have f0 := hS6.frozen 0 rfl 0
         have f1 := hS6.frozen 0 rfl 1
         have f2 := hS6.frozen 0 rfl 2
         have c0 := hS6.cell 0 rfl 0 rfl
         have c1 := hS6.cell 0 rfl 1 rfl
         have c2 := hS6.cell 0 rfl 2 rfl
         have c3 := hS6.cell 0 rfl 3 rfl
         have hlb := hS6.cell 4 rfl 0 rfl
         have hne : ¬ w.heap.size + 1 + 1 = w4.heap.size := by have := (hS4.blk 3 rfl).2.2; omega
         have hS7 := ((hS6.set 0 rfl 0 (.int .i64 x.1)).set 0 rfl 1 (.int .i64 Z2)).set 0 rfl 2 (.int .i64 Z0)
         have hob := hS7.own 5 rfl
         gi_wp2_with (((with_reducible refine wpListIn_pushL (y := (⟨x.1, Z2, Z0, Z0⟩ : CrM)) 5 E_crs wU wU (hS7) wU cCrO ⟨rfl, rfl⟩ (by first | with_unfolding_all rfl | simp) wU (by first | omega | (simp; omega)) (by first | omega | (simp; omega)) ?_); intro v7 w7 hP hg7 _); obtain ⟨a7, c7, rfl, _⟩ := hP.slice 5 rfl; have hlb7 := hP.cell 4 rfl 0 rfl; have hlf7 := hP.frozen 4 rfl 0)
         have hP2 := hP.set 4 rfl 0 (.slice a7 (A ++ [(⟨x.1, Z2, Z0, Z0⟩ : CrM)]).length c7)
         have eL : (A ++ [(⟨x.1, Z2, Z0, Z0⟩ : CrM)]).length = A.length + 1 := by simp
         rw [eL] at hP2
         refine ⟨?_, by simp [intOf]⟩
         repeat apply Exists.intro
         refine ⟨?_, rfl⟩
         refine ⟨2, .slice a7 (A.length + 1) c7, by omega, rfl, hko.trans ((KeepsOthers.alloc _ _).trans (ko4.trans ((KeepsOthers.alloc _ _).trans (ko6.trans ((KeepsOthers.setCell _ _ _).trans ((KeepsOthers.setCell _ _ _).trans ((KeepsOthers.setCell _ _ _).trans ((KeepsOthers.of_grownBy hg7 fun j o ej hj => ?_).trans (KeepsOthers.setCell _ _ _))))))))), ?_⟩
         ·obtain ⟨o', h1, h2⟩ := own_isCells hob ej
          have h3 := hj.symm.trans h1
          cases h3; exact h2
         ·rw [HST.out, HCR.out, ← List.append_assoc, ← HA.out]
          exact hP2.tail.tail
     ·have hS12 := hSq.box (.cells #[.int .i64 1, .int .i64 3] 99)
      have u0 := hS12.cell 0 rfl 0 rfl
      have u1 := hS12.cell 0 rfl 1 rfl
      have z1 := hS12.cell 1 rfl 1 rfl
      have z3 := hS12.cell 1 rfl 3 rfl
      have hst : (pairsX.take 3).filterMap (fun p => crossA m l x.1 p.1 p.2) = (pairsX.take 2).filterMap (fun p => crossA m l x.1 p.1 p.2) ++ (crossA m l x.1 1 3).toList := by
       rw [show pairsX.take 3 = pairsX.take 2 ++ [(1, 3)] from rfl, List.filterMap_append]
       congr 1
      have HST := hid hst
      clear hst
      cases ox : idxO l (slotG m x.1 1) with
      | none =>
       have hz : Z1 = -1 := by rw [HZ1.out, ox]; rfl
       have hcr : crossA m l x.1 1 3 = none := by unfold crossA; rw [ox]
       have HCR := hid hcr
       subst hz
       clear ox hcr
       gi_wp2
       refine wpIn_region_quietR kR hmx kR ?_
       refine wpQIn_val (.pointer (some ⟨wr.heap.size, 0, none⟩)) rfl (fun _ => rfl) (fun w' => by go_simp) ?_
       go_frame
       refine wpQIn_load F_int wU u0 ?_
       go_frame
       refine wpQIn_val (.pointer (some ⟨W.heap.size, 1, none⟩)) rfl (fun _ => rfl) (fun w' => by go_simp) ?_
       go_frame
       refine wpQIn_load F_int wU z1 ?_
       go_frame
       refine wpQIn_val (.pointer (some ⟨wr.heap.size, 1, none⟩)) rfl (fun _ => rfl) (fun w' => by go_simp) ?_
       go_frame
       refine wpQIn_load F_int wU u1 ?_
       go_frame
       refine wpQIn_val (.pointer (some ⟨W.heap.size, 3, none⟩)) rfl (fun _ => rfl) (fun w' => by go_simp) ?_
       go_frame
       refine wpQIn_load F_int wU z3 ?_
       go_frame
       refine wpQIn_val (.int .i64 (-1)) rfl (fun _ => rfl) (fun w' => by go_simp) ?_
       go_frame
       refine wpQIn_val (.int .i64 Z3) rfl (fun _ => rfl) (fun w' => by go_simp) ?_
       go_frame
       refine wpQuietIn_nil ?_
       intro w4 hw4
       have b4 := below_drewN hw4
       have ko4 := KeepsOthers.of_grownBy (grown_of_below b4) (fun j o e => by cases e)
       have hS4 := hS12.mono b4
       clear hw4 u0 u1 z1 z3
       gi_wp2
       go_roundw
       case rel => exact ⟨3, lw, by omega, rfl, hko.trans ((KeepsOthers.alloc _ _).trans ko4), by rw [HST.out, HCR.out, ← List.append_assoc, ← HA.out]; simpa using hS4.tail⟩
       case measure => simp [intOf]
      | some a =>
       have ha0 := (idxO_some ox).1
       have hz : Z1 = a := by rw [HZ1.out, ox]; rfl
       subst hz
       have dX : decide (Z1 < 0) = false := decide_eq_false (by omega)
       cases oy : idxO l (slotG m x.1 3) with
       | none =>
        have hz2 : Z3 = -1 := by rw [HZ3.out, oy]; rfl
        have hcr : crossA m l x.1 1 3 = none := by unfold crossA; rw [ox, oy]
        have HCR := hid hcr
        subst hz2
        clear ox oy hcr
        gi_wp2
        refine wpIn_region_quietR kR hmx kR ?_
        refine wpQIn_val (.pointer (some ⟨wr.heap.size, 0, none⟩)) rfl (fun _ => rfl) (fun w' => by go_simp) ?_
        go_frame
        refine wpQIn_load F_int wU u0 ?_
        go_frame
        refine wpQIn_val (.pointer (some ⟨W.heap.size, 1, none⟩)) rfl (fun _ => rfl) (fun w' => by go_simp) ?_
        go_frame
        refine wpQIn_load F_int wU z1 ?_
        go_frame
        refine wpQIn_val (.pointer (some ⟨wr.heap.size, 1, none⟩)) rfl (fun _ => rfl) (fun w' => by go_simp) ?_
        go_frame
        refine wpQIn_load F_int wU u1 ?_
        go_frame
        refine wpQIn_val (.pointer (some ⟨W.heap.size, 3, none⟩)) rfl (fun _ => rfl) (fun w' => by go_simp) ?_
        go_frame
        refine wpQIn_load F_int wU z3 ?_
        go_frame
        refine wpQIn_val (.int .i64 Z1) rfl (fun _ => rfl) (fun w' => by go_simp) ?_
        go_frame
        refine wpQIn_val (.int .i64 (-1)) rfl (fun _ => rfl) (fun w' => by go_simp) ?_
        go_frame
        refine wpQuietIn_nil ?_
        intro w4 hw4
        have b4 := below_drewN hw4
        have ko4 := KeepsOthers.of_grownBy (grown_of_below b4) (fun j o e => by cases e)
        have hS4 := hS12.mono b4
        clear hw4 u0 u1 z1 z3
        gi_wp2
        go_roundw
        case rel => exact ⟨3, lw, by omega, rfl, hko.trans ((KeepsOthers.alloc _ _).trans ko4), by rw [HST.out, HCR.out, ← List.append_assoc, ← HA.out]; simpa using hS4.tail⟩
        case measure => simp [intOf]
       | some c =>
        have hb0 := (idxO_some oy).1
        have hz2 : Z3 = c := by rw [HZ3.out, oy]; rfl
        subst hz2
        have dY : decide (Z3 < 0) = false := decide_eq_false (by omega)
        have hcr : crossA m l x.1 1 3 = some (if fwdM m x.1 then ⟨x.1, Z3, Z1, Z1⟩ else ⟨x.1, Z1, Z3, Z1⟩) := by unfold crossA; rw [ox, oy]
        have CF := HF.out
        clear ox oy
        cases hf : fwdM m x.1
        ·rw [hf] at CF hcr
         have HFF := hid CF; have HCR := hid hcr
         clear CF hf hcr
         gi_wp2
         refine wpIn_region_quietR kR hmx kR ?_
         refine wpQIn_val (.pointer (some ⟨wr.heap.size, 0, none⟩)) rfl (fun _ => rfl) (fun w' => by go_simp) ?_
         go_frame
         refine wpQIn_load F_int wU u0 ?_
         go_frame
         refine wpQIn_val (.pointer (some ⟨W.heap.size, 1, none⟩)) rfl (fun _ => rfl) (fun w' => by go_simp) ?_
         go_frame
         refine wpQIn_load F_int wU z1 ?_
         go_frame
         refine wpQIn_val (.pointer (some ⟨wr.heap.size, 1, none⟩)) rfl (fun _ => rfl) (fun w' => by go_simp) ?_
         go_frame
         refine wpQIn_load F_int wU u1 ?_
         go_frame
         refine wpQIn_val (.pointer (some ⟨W.heap.size, 3, none⟩)) rfl (fun _ => rfl) (fun w' => by go_simp) ?_
         go_frame
         refine wpQIn_load F_int wU z3 ?_
         go_frame
         refine wpQIn_val (.int .i64 Z1) rfl (fun _ => rfl) (fun w' => by go_simp) ?_
         go_frame
         refine wpQIn_val (.int .i64 Z3) rfl (fun _ => rfl) (fun w' => by go_simp) ?_
         go_frame
         refine wpQuietIn_nil ?_
         intro w4 hw4
         have b4 := below_drewN hw4
         have ko4 := KeepsOthers.of_grownBy (grown_of_below b4) (fun j o e => by cases e)
         have hS4 := hS12.mono b4
         have hS5 := hS4.box (.cells #[.int .i64 x.1, .int .i64 Z1, .int .i64 Z3, .int .i64 Z1] 60)
         have m0 := hS5.cell 7 rfl 0 rfl
         have m1 := hS5.cell 7 rfl 1 rfl
         have m2 := hS5.cell 7 rfl 2 rfl
         have m3 := hS5.cell 7 rfl 3 rfl
         clear hw4 u0 u1 z1 z3
         gi_wp2
         refine ⟨trivial, (callsIn_wide.2 (HFF.out _)).mono ?_⟩
         rintro e w6 ⟨rfl, b6⟩
         have hS6 := hS5.mono b6
         have ko6 := KeepsOthers.of_grownBy (grown_of_below b6) (fun j o e => by cases e)
         clear m0 m1 m2 m3
         have c0 := hS6.cell 0 rfl 0 rfl
         have c1 := hS6.cell 0 rfl 1 rfl
         have c2 := hS6.cell 0 rfl 2 rfl
         have c3 := hS6.cell 0 rfl 3 rfl
         have hlb := hS6.cell 4 rfl 0 rfl
         have hlf := hS6.frozen 4 rfl 0
         have hob := hS6.own 5 rfl
         gi_wp2_with (((with_reducible refine wpListIn_pushL (y := (⟨x.1, Z1, Z3, Z1⟩ : CrM)) 5 E_crs wU wU (hS6) wU cCrO ⟨rfl, rfl⟩ (by first | with_unfolding_all rfl | simp) wU (by first | omega | (simp; omega)) (by first | omega | (simp; omega)) ?_); intro v7 w7 hP hg7 _); obtain ⟨a7, c7, rfl, _⟩ := hP.slice 5 rfl; have hlb7 := hP.cell 4 rfl 0 rfl; have hlf7 := hP.frozen 4 rfl 0)
         have hP2 := hP.set 4 rfl 0 (.slice a7 (A ++ [(⟨x.1, Z1, Z3, Z1⟩ : CrM)]).length c7)
         have eL : (A ++ [(⟨x.1, Z1, Z3, Z1⟩ : CrM)]).length = A.length + 1 := by simp
         rw [eL] at hP2
         refine ⟨?_, by simp [intOf]⟩
         repeat apply Exists.intro
         refine ⟨?_, rfl⟩
         refine ⟨3, .slice a7 (A.length + 1) c7, by omega, rfl, hko.trans ((KeepsOthers.alloc _ _).trans (ko4.trans ((KeepsOthers.alloc _ _).trans (ko6.trans ((KeepsOthers.of_grownBy hg7 fun j o ej hj => ?_).trans (KeepsOthers.setCell _ _ _)))))), ?_⟩
         ·obtain ⟨o', h1, h2⟩ := own_isCells hob ej
          have h3 := hj.symm.trans h1
          cases h3; exact h2
         ·rw [HST.out, HCR.out, ← List.append_assoc, ← HA.out]
          exact hP2.tail.tail
        ·rw [hf] at CF hcr
         have HFF := hid CF; have HCR := hid hcr
         clear CF hf hcr
         gi_wp2
         refine wpIn_region_quietR kR hmx kR ?_
         refine wpQIn_val (.pointer (some ⟨wr.heap.size, 0, none⟩)) rfl (fun _ => rfl) (fun w' => by go_simp) ?_
         go_frame
         refine wpQIn_load F_int wU u0 ?_
         go_frame
         refine wpQIn_val (.pointer (some ⟨W.heap.size, 1, none⟩)) rfl (fun _ => rfl) (fun w' => by go_simp) ?_
         go_frame
         refine wpQIn_load F_int wU z1 ?_
         go_frame
         refine wpQIn_val (.pointer (some ⟨wr.heap.size, 1, none⟩)) rfl (fun _ => rfl) (fun w' => by go_simp) ?_
         go_frame
         refine wpQIn_load F_int wU u1 ?_
         go_frame
         refine wpQIn_val (.pointer (some ⟨W.heap.size, 3, none⟩)) rfl (fun _ => rfl) (fun w' => by go_simp) ?_
         go_frame
         refine wpQIn_load F_int wU z3 ?_
         go_frame
         refine wpQIn_val (.int .i64 Z1) rfl (fun _ => rfl) (fun w' => by go_simp) ?_
         go_frame
         refine wpQIn_val (.int .i64 Z3) rfl (fun _ => rfl) (fun w' => by go_simp) ?_
         go_frame
         refine wpQuietIn_nil ?_
         intro w4 hw4
         have b4 := below_drewN hw4
         have ko4 := KeepsOthers.of_grownBy (grown_of_below b4) (fun j o e => by cases e)
         have hS4 := hS12.mono b4
         have hS5 := hS4.box (.cells #[.int .i64 x.1, .int .i64 Z1, .int .i64 Z3, .int .i64 Z1] 60)
         have m0 := hS5.cell 7 rfl 0 rfl
         have m1 := hS5.cell 7 rfl 1 rfl
         have m2 := hS5.cell 7 rfl 2 rfl
         have m3 := hS5.cell 7 rfl 3 rfl
         clear hw4 u0 u1 z1 z3
         gi_wp2
         refine ⟨trivial, (callsIn_wide.2 (HFF.out _)).mono ?_⟩
         rintro e w6 ⟨rfl, b6⟩
         have hS6 := hS5.mono b6
         have ko6 := KeepsOthers.of_grownBy (grown_of_below b6) (fun j o e => by cases e)
         clear m0 m1 m2 m3
         have f0 := hS6.frozen 0 rfl 0
         have f1 := hS6.frozen 0 rfl 1
         have f2 := hS6.frozen 0 rfl 2
         have c0 := hS6.cell 0 rfl 0 rfl
         have c1 := hS6.cell 0 rfl 1 rfl
         have c2 := hS6.cell 0 rfl 2 rfl
         have c3 := hS6.cell 0 rfl 3 rfl
         have hlb := hS6.cell 4 rfl 0 rfl
         have hne : ¬ w.heap.size + 1 + 1 = w4.heap.size := by have := (hS4.blk 3 rfl).2.2; omega
         have hS7 := ((hS6.set 0 rfl 0 (.int .i64 x.1)).set 0 rfl 1 (.int .i64 Z3)).set 0 rfl 2 (.int .i64 Z1)
         have hob := hS7.own 5 rfl
         gi_wp2_with (((with_reducible refine wpListIn_pushL (y := (⟨x.1, Z3, Z1, Z1⟩ : CrM)) 5 E_crs wU wU (hS7) wU cCrO ⟨rfl, rfl⟩ (by first | with_unfolding_all rfl | simp) wU (by first | omega | (simp; omega)) (by first | omega | (simp; omega)) ?_); intro v7 w7 hP hg7 _); obtain ⟨a7, c7, rfl, _⟩ := hP.slice 5 rfl; have hlb7 := hP.cell 4 rfl 0 rfl; have hlf7 := hP.frozen 4 rfl 0)
         have hP2 := hP.set 4 rfl 0 (.slice a7 (A ++ [(⟨x.1, Z3, Z1, Z1⟩ : CrM)]).length c7)
         have eL : (A ++ [(⟨x.1, Z3, Z1, Z1⟩ : CrM)]).length = A.length + 1 := by simp
         rw [eL] at hP2
         refine ⟨?_, by simp [intOf]⟩
         repeat apply Exists.intro
         refine ⟨?_, rfl⟩
         refine ⟨3, .slice a7 (A.length + 1) c7, by omega, rfl, hko.trans ((KeepsOthers.alloc _ _).trans (ko4.trans ((KeepsOthers.alloc _ _).trans (ko6.trans ((KeepsOthers.setCell _ _ _).trans ((KeepsOthers.setCell _ _ _).trans ((KeepsOthers.setCell _ _ _).trans ((KeepsOthers.of_grownBy hg7 fun j o ej hj => ?_).trans (KeepsOthers.setCell _ _ _))))))))), ?_⟩
         ·obtain ⟨o', h1, h2⟩ := own_isCells hob ej
          have h3 := hj.symm.trans h1
          cases h3; exact h2
         ·rw [HST.out, HCR.out, ← List.append_assoc, ← HA.out]
          exact hP2.tail.tail
     ·have hbq := (hSq.blk 1 rfl).1
      gi_wp2
      refine ⟨hko.from _, ?_, ?_⟩
      ·show _ = _
       rw [hbq, hbm]
      ·refine ⟨by rw [List.length_append]; exact hlt, lw, ?_⟩
       rw [HFIN.out, ← HA.out]
       exact hSq.tail
 case done =>
  rintro D ys W hD hys ⟨hpl, lv, hs0⟩ hK
  have hs := hs0.addMark (C := w.heap.size + 1 + 1 + 1 + 1) (HOK.out _ _) (by omega) (by simpa using hD) hK
  clear hs0
  have hc := hs.cell 2 rfl 0 rfl
  have hfin : (ys.flatMap fun x => crossG m l x.1) = crossM m l := by
   unfold crossM
   rw [HGL.out, ← hys, List.flatMap_map]
  rw [hfin] at hs
  clear hys hfin
  dsimp only
  go_wp2_with fail
  refine SL.leave (L := [_, _, _, _, _]) (fun V hV => ⟨lv, ?_, _, rfl, hV.own 2 rfl, hV.b⟩) [D] W hs
  simp [results, Tryz.f22, go_sem]
 case stop =>
  rintro D c pre W _ _ h _
  exact h.elim
end Go.Proofs.YtdeoogbiipodmaaGreat

namespace Go.Proofs.YtdeoogbiipodmaaGreat
open Go.RowKit
set_option maxHeartbeats 8000000
set_option maxRecDepth 100000

/-- a crossing as it is told. -/
def cX (c : CrM) : Value := .agg #[.int .i64 c.gear, .int .i64 c.over, .int .i64 c.under]
attribute [go_sem] cX
theorem A_xs : Aggr Tryz.prog 58 := ⟨_, Tryz.underlying58, rfl⟩
end Go.Proofs.YtdeoogbiipodmaaGreat

namespace Go.Proofs.YtdeoogbiipodmaaGreat
open Go.RowKit
set_option maxHeartbeats 8000000
set_option maxRecDepth 100000

def pre4 (E : Int) (r : Bool) (k : Nat) (n : Int) : Int := firstE [E, if r then 13 else 0, if decide (12 < (k : Int)) then 5 else 0, if n < 0 ∨ 1000 < n then 3 else 0]
theorem weaveE_pre (m : MacV) (l : List Int) (n : Int) : weaveE m l n = if pre4 (loadE m l) m.ring l.length n ≠ 0 then pre4 (loadE m l) m.ring l.length n else if meetsM m l n = true then 16 else 0 := by
 unfold weaveE pre4
 by_cases he : loadE m l = 0
 ·rw [if_neg (by simp [he]), he, firstE_z]
  cases hr : m.ring
  ·simp only [Bool.false_eq_true, if_false]
   rw [firstE_z]
   by_cases hl : 12 < l.length
   ·have : decide (12 < (l.length : Int)) = true := decide_eq_true (by omega)
    rw [this, if_pos rfl, if_pos hl, firstE_head (by decide)]
    simp
   ·have : decide (12 < (l.length : Int)) = false := decide_eq_false (by omega)
    rw [this, if_neg hl]
    simp only [Bool.false_eq_true, if_false]
    rw [firstE_z]
    by_cases hn : n < 0 ∨ 1000 < n
    ·have e : (if n < 0 ∨ 1000 < n then (3 : Int) else 0) = 3 := if_pos hn
     rw [e, if_pos hn, firstE_head (by decide)]
     rfl
    ·have e : (if n < 0 ∨ 1000 < n then (3 : Int) else 0) = 0 := if_neg hn
     rw [e, if_neg hn, firstE_z, firstE_nil]
     rfl
  ·simp only [if_true]
   rw [firstE_head (by decide)]
   simp
 ·rw [if_pos he, firstE_head he, if_pos he]
theorem pre4_zero {m : MacV} {l : List Int} {n : Int} (h : pre4 (loadE m l) m.ring l.length n = 0) : LoadOk m l := by
 refine loadE_zero ?_
 by_cases he : loadE m l = 0
 ·exact he
 ·unfold pre4 at h; rw [firstE_head he] at h; exact absurd h he

theorem wwhen (b : Bool) (e v : Int) (h : v = if b then e else 0) (w : World) : Calls Tryz.prog 53 #[.bool b, .int .i64 e] w fun r w' => r = .returned (.int .i64 v) ∧ Below w.heap.size w w' := by
 subst h
 exact calls_below (mwhen_any b e w)

theorem checkWeave_any (m : MacV) (ad : Option Addr) (cap : Nat) (al : Option Addr) (cl : Nat) (l : List Int) (n : Int) (w : World) (hR : Ints w ad cap m.sw) (hL : Ints w al cl l) (HK : ChkL m ad cap al cl l) :
  Calls Tryz.prog 20 #[mV m ad cap, .slice al l.length cl, .int .i64 n] w fun r w' => r = .returned (.int .i64 (weaveE m l n)) ∧ Below w.heap.size w w' := by
 have hcap := hL.le
 have hmx := hL.max
 have hS := (SL.nil w).box (.cells (mC m ad cap) 24)
 have q1 := (hS.blk 0 rfl).1
 have R1 := hR.below hS.b
 have L1 := hL.below hS.b
 unfold ChkL at HK
 have hv := weaveE_pre m l n
 obtain ⟨Z, hZ⟩ : ∃ Z, Z = pre4 (loadE m l) m.ring l.length n := ⟨_, rfl⟩
 have hok : Z = 0 → LoadOk m l := fun h => pre4_zero (by rw [← hZ]; exact h)
 rw [← hZ] at hv
 unfold pre4 at hZ
 obtain ⟨E, hE⟩ : ∃ E, E = loadE m l := ⟨_, rfl⟩
 obtain ⟨R, hRR⟩ : ∃ R, R = (if m.ring = true then (13 : Int) else 0) := ⟨_, rfl⟩
 obtain ⟨V5, hV5⟩ : ∃ V, V = (if decide (12 < (l.length : Int)) = true then (5 : Int) else 0) := ⟨_, rfl⟩
 obtain ⟨V3, hV3⟩ : ∃ V, V = (if n < 0 ∨ 1000 < n then (3 : Int) else 0) := ⟨_, rfl⟩
 rw [← hE] at HK hZ
 rw [← hRR, ← hV5, ← hV3] at hZ
 have HC := hid HK
 have HW := hid (wwhen m.ring 13 R hRR)
 have HW5 := hid (wwhen (decide (12 < (l.length : Int))) 5 V5 hV5)
 have HZ := hid hZ
 rw [hv]
 have fin : ∀ w1, SL w.heap.size w w1 [pBlk w.heap.size (.cells (mC m ad cap) 24)] → True := fun _ _ => trivial
 clear HK hE hRR hV5 hZ hv fin
 by_cases c1 : n < 0
 ·have hb3 : V3 = if (true : Bool) then 3 else 0 := by rw [hV3, if_pos (.inl c1)]; rfl
  have HW3 := hid (wwhen true 3 V3 hb3)
  have d1 : decide (n < 0) = true := decide_eq_true c1
  clear hV3 hb3
  by_cases hz : Z = 0
  ·have CM := fun w h h2 => meets_any m ad al cap cl l n w h h2 (hok hz).ok.hi (hok hz).rng
   rw [if_neg (by simp [hz])]
   clear hok
   subst hz
   cases hm : meetsM m l n
   all_goals
    rw [hm] at CM
    have HM := hid CM
    clear CM hm
    go_enter Tryz.func20, Tryz.ntmps20
    go_wp2_with fail
    refine wp_region_qt 17 kR kR ?_
    simp only [List.take_succ_cons, List.take_zero, List.drop_succ_cons, List.drop_zero]
    repeat (first | ((with_reducible refine wpB_loadS (n := 4) (us := mC m ad cap) A_mach kR wU wU (by assumption) wU wU ?_); (try simp only [Act.put, pA, pB, pC])) | ((with_reducible refine wpB_load F_boolM wU wU (by assumption) wU ?_); (try simp only [Act.put, pA, pB, pC])) | ((refine wpB_call (.int .i64 E) wU (fun w' => ?_) (fun w' hw' => HC.out w' (R1.below hw') (L1.below hw')) ?_); (focus (go_simp; done)); (try simp only [Act.put, pA, pB, pC])) | ((refine wpB_call (.int .i64 R) wU (fun w' => ?_) (fun w' hw' => HW.out w') ?_); (focus (go_simp; done)); (try simp only [Act.put, pA, pB, pC])) | ((refine wpB_call (.int .i64 V5) wU (fun w' => ?_) (fun w' hw' => HW5.out w') ?_); (focus (go_simp; done)); (try simp only [Act.put, pA, pB, pC])) | ((refine wpB_call (.int .i64 V3) wU (fun w' => ?_) (fun w' hw' => HW3.out w') ?_); (focus (go_simp; done)); (try simp only [Act.put, pA, pB, pC])) | ((with_reducible refine wpQ_skip wU ?_); (try simp only [Act.put, pA, pB, pC])) |  ((with_reducible refine wpB_load (by first | exact F_int | fail) wU wU (by assumption) wU ?_); (try simp only [Act.put, pA, pB, pC])) | ((with_reducible refine wpB_loadS (n := 2) (us := #[_, _]) (by fail) kR wU wU (by assumption) wU wU ?_); (try simp only [Act.put, pA, pB, pC])) | ((with_reducible refine wpB_loadS (n := 4) (us := #[_, _, _, _]) (by fail) kR wU wU (by assumption) wU wU ?_); (try simp only [Act.put, pA, pB, pC])) | ((refine wpQ_oneG ?_ wU (fun w' => ?_) ?_); rotate_left; (go_simp; rfl); (try simp only [Act.put, pA, pB, pC])))
    refine wpQuiet_nil ?_
    intro w1 hb1
    have hS1 := hS.mono hb1
    have hS2 := hS1.al (.cells #[.int .i64 E, .int .i64 R, .int .i64 V5, .int .i64 V3] 28)
    have q2 := (hS2.blk 0 rfl).1
    go_wp2_with (first | (go_at_call 51; refine (mfirst_any _ _ [_, _, _, _] _ (reps_newN cIntS [_, _, _, _] 4 rfl (by decide) _ _ (by simp) rfl)).mono ?_; rw [← HZ.out]; rintro e w' ⟨rfl, rfl⟩) | (with_reducible refine wpList_ldS (n := 4) (us := mC m ad cap) A_mach kR wU wU (by assumption) wU wU ?_))
    refine (HM.out _ (hR.below hS2.b) (hL.below hS2.b)).mono ?_
    rintro e w3 ⟨rfl, b3⟩
    have hS3 := hS2.mono b3
    go_wp2_with (go_at_call 53; refine (mwhen_any _ _ _).mono ?_; rintro e w' ⟨rfl, rfl⟩)
    go_ret
    exact ⟨rfl, hS3.b⟩
  ·have hne : (Z != 0) = true := by simpa using hz
   rw [if_pos hz]
   clear hok
   go_enter Tryz.func20, Tryz.ntmps20
   go_wp2_with fail
   refine wp_region_qt 17 kR kR ?_
   simp only [List.take_succ_cons, List.take_zero, List.drop_succ_cons, List.drop_zero]
   repeat (first | ((with_reducible refine wpB_loadS (n := 4) (us := mC m ad cap) A_mach kR wU wU (by assumption) wU wU ?_); (try simp only [Act.put, pA, pB, pC])) | ((with_reducible refine wpB_load F_boolM wU wU (by assumption) wU ?_); (try simp only [Act.put, pA, pB, pC])) | ((refine wpB_call (.int .i64 E) wU (fun w' => ?_) (fun w' hw' => HC.out w' (R1.below hw') (L1.below hw')) ?_); (focus (go_simp; done)); (try simp only [Act.put, pA, pB, pC])) | ((refine wpB_call (.int .i64 R) wU (fun w' => ?_) (fun w' hw' => HW.out w') ?_); (focus (go_simp; done)); (try simp only [Act.put, pA, pB, pC])) | ((refine wpB_call (.int .i64 V5) wU (fun w' => ?_) (fun w' hw' => HW5.out w') ?_); (focus (go_simp; done)); (try simp only [Act.put, pA, pB, pC])) | ((refine wpB_call (.int .i64 V3) wU (fun w' => ?_) (fun w' hw' => HW3.out w') ?_); (focus (go_simp; done)); (try simp only [Act.put, pA, pB, pC])) | ((with_reducible refine wpQ_skip wU ?_); (try simp only [Act.put, pA, pB, pC])) |  ((with_reducible refine wpB_load (by first | exact F_int | fail) wU wU (by assumption) wU ?_); (try simp only [Act.put, pA, pB, pC])) | ((with_reducible refine wpB_loadS (n := 2) (us := #[_, _]) (by fail) kR wU wU (by assumption) wU wU ?_); (try simp only [Act.put, pA, pB, pC])) | ((with_reducible refine wpB_loadS (n := 4) (us := #[_, _, _, _]) (by fail) kR wU wU (by assumption) wU wU ?_); (try simp only [Act.put, pA, pB, pC])) | ((refine wpQ_oneG ?_ wU (fun w' => ?_) ?_); rotate_left; (go_simp; rfl); (try simp only [Act.put, pA, pB, pC])))
   refine wpQuiet_nil ?_
   intro w1 hb1
   have hS1 := hS.mono hb1
   go_wp2_with (go_at_call 51; refine (mfirst_any _ _ [_, _, _, _] _ (reps_newN cIntS [_, _, _, _] 4 rfl (by decide) _ _ (by simp) rfl)).mono ?_; rw [← HZ.out]; rintro e w' ⟨rfl, rfl⟩)
   go_ret
   exact ⟨rfl, bal hS1.b _⟩
 ·have hb3 : V3 = if decide (1000 < n) then 3 else 0 := by
   rw [hV3]
   by_cases h : 1000 < n
   ·rw [if_pos (.inr h), decide_eq_true h]; rfl
   ·rw [if_neg (by omega), decide_eq_false h]; rfl
  have HW3 := hid (wwhen (decide (1000 < n)) 3 V3 hb3)
  have d1 : decide (n < 0) = false := decide_eq_false c1
  clear hV3 hb3
  by_cases hz : Z = 0
  ·have CM := fun w h h2 => meets_any m ad al cap cl l n w h h2 (hok hz).ok.hi (hok hz).rng
   rw [if_neg (by simp [hz])]
   clear hok
   subst hz
   cases hm : meetsM m l n
   all_goals
    rw [hm] at CM
    have HM := hid CM
    clear CM hm
    go_enter Tryz.func20, Tryz.ntmps20
    go_wp2_with fail
    refine wp_region_qt 17 kR kR ?_
    simp only [List.take_succ_cons, List.take_zero, List.drop_succ_cons, List.drop_zero]
    repeat (first | ((with_reducible refine wpB_loadS (n := 4) (us := mC m ad cap) A_mach kR wU wU (by assumption) wU wU ?_); (try simp only [Act.put, pA, pB, pC])) | ((with_reducible refine wpB_load F_boolM wU wU (by assumption) wU ?_); (try simp only [Act.put, pA, pB, pC])) | ((refine wpB_call (.int .i64 E) wU (fun w' => ?_) (fun w' hw' => HC.out w' (R1.below hw') (L1.below hw')) ?_); (focus (go_simp; done)); (try simp only [Act.put, pA, pB, pC])) | ((refine wpB_call (.int .i64 R) wU (fun w' => ?_) (fun w' hw' => HW.out w') ?_); (focus (go_simp; done)); (try simp only [Act.put, pA, pB, pC])) | ((refine wpB_call (.int .i64 V5) wU (fun w' => ?_) (fun w' hw' => HW5.out w') ?_); (focus (go_simp; done)); (try simp only [Act.put, pA, pB, pC])) | ((refine wpB_call (.int .i64 V3) wU (fun w' => ?_) (fun w' hw' => HW3.out w') ?_); (focus (go_simp; done)); (try simp only [Act.put, pA, pB, pC])) | ((with_reducible refine wpQ_skip wU ?_); (try simp only [Act.put, pA, pB, pC])) |  ((with_reducible refine wpB_load (by first | exact F_int | fail) wU wU (by assumption) wU ?_); (try simp only [Act.put, pA, pB, pC])) | ((with_reducible refine wpB_loadS (n := 2) (us := #[_, _]) (by fail) kR wU wU (by assumption) wU wU ?_); (try simp only [Act.put, pA, pB, pC])) | ((with_reducible refine wpB_loadS (n := 4) (us := #[_, _, _, _]) (by fail) kR wU wU (by assumption) wU wU ?_); (try simp only [Act.put, pA, pB, pC])) | ((refine wpQ_oneG ?_ wU (fun w' => ?_) ?_); rotate_left; (go_simp; rfl); (try simp only [Act.put, pA, pB, pC])))
    refine wpQuiet_nil ?_
    intro w1 hb1
    have hS1 := hS.mono hb1
    have hS2 := hS1.al (.cells #[.int .i64 E, .int .i64 R, .int .i64 V5, .int .i64 V3] 28)
    have q2 := (hS2.blk 0 rfl).1
    go_wp2_with (first | (go_at_call 51; refine (mfirst_any _ _ [_, _, _, _] _ (reps_newN cIntS [_, _, _, _] 4 rfl (by decide) _ _ (by simp) rfl)).mono ?_; rw [← HZ.out]; rintro e w' ⟨rfl, rfl⟩) | (with_reducible refine wpList_ldS (n := 4) (us := mC m ad cap) A_mach kR wU wU (by assumption) wU wU ?_))
    refine (HM.out _ (hR.below hS2.b) (hL.below hS2.b)).mono ?_
    rintro e w3 ⟨rfl, b3⟩
    have hS3 := hS2.mono b3
    go_wp2_with (go_at_call 53; refine (mwhen_any _ _ _).mono ?_; rintro e w' ⟨rfl, rfl⟩)
    go_ret
    exact ⟨rfl, hS3.b⟩
  ·have hne : (Z != 0) = true := by simpa using hz
   rw [if_pos hz]
   clear hok
   go_enter Tryz.func20, Tryz.ntmps20
   go_wp2_with fail
   refine wp_region_qt 17 kR kR ?_
   simp only [List.take_succ_cons, List.take_zero, List.drop_succ_cons, List.drop_zero]
   repeat (first | ((with_reducible refine wpB_loadS (n := 4) (us := mC m ad cap) A_mach kR wU wU (by assumption) wU wU ?_); (try simp only [Act.put, pA, pB, pC])) | ((with_reducible refine wpB_load F_boolM wU wU (by assumption) wU ?_); (try simp only [Act.put, pA, pB, pC])) | ((refine wpB_call (.int .i64 E) wU (fun w' => ?_) (fun w' hw' => HC.out w' (R1.below hw') (L1.below hw')) ?_); (focus (go_simp; done)); (try simp only [Act.put, pA, pB, pC])) | ((refine wpB_call (.int .i64 R) wU (fun w' => ?_) (fun w' hw' => HW.out w') ?_); (focus (go_simp; done)); (try simp only [Act.put, pA, pB, pC])) | ((refine wpB_call (.int .i64 V5) wU (fun w' => ?_) (fun w' hw' => HW5.out w') ?_); (focus (go_simp; done)); (try simp only [Act.put, pA, pB, pC])) | ((refine wpB_call (.int .i64 V3) wU (fun w' => ?_) (fun w' hw' => HW3.out w') ?_); (focus (go_simp; done)); (try simp only [Act.put, pA, pB, pC])) | ((with_reducible refine wpQ_skip wU ?_); (try simp only [Act.put, pA, pB, pC])) |  ((with_reducible refine wpB_load (by first | exact F_int | fail) wU wU (by assumption) wU ?_); (try simp only [Act.put, pA, pB, pC])) | ((with_reducible refine wpB_loadS (n := 2) (us := #[_, _]) (by fail) kR wU wU (by assumption) wU wU ?_); (try simp only [Act.put, pA, pB, pC])) | ((with_reducible refine wpB_loadS (n := 4) (us := #[_, _, _, _]) (by fail) kR wU wU (by assumption) wU wU ?_); (try simp only [Act.put, pA, pB, pC])) | ((refine wpQ_oneG ?_ wU (fun w' => ?_) ?_); rotate_left; (go_simp; rfl); (try simp only [Act.put, pA, pB, pC])))
   refine wpQuiet_nil ?_
   intro w1 hb1
   have hS1 := hS.mono hb1
   go_wp2_with (go_at_call 51; refine (mfirst_any _ _ [_, _, _, _] _ (reps_newN cIntS [_, _, _, _] 4 rfl (by decide) _ _ (by simp) rfl)).mono ?_; rw [← HZ.out]; rintro e w' ⟨rfl, rfl⟩)
   go_ret
   exact ⟨rfl, bal hS1.b _⟩
end Go.Proofs.YtdeoogbiipodmaaGreat
