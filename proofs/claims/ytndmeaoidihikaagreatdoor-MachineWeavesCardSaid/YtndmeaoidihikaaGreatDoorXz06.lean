/- Contracts and plain facts that the claim uses (MbC MaK MaL MaM RtP RtM MaN). Conditions: as each one states. -/
import Derived.RangeFuncNested
import Derived.RangeFuncBound
import Derived.RangeFuncCalls
import Derived.RangeFuncLeaves
import Derived.RangeFuncFrom
import Derived.Shelf.Abstract
import Derived.Shelf.RegionOpen
import Derived.WalkKit
import Derived.OwnWalkIn
import Derived.TacticsInMore
import Derived.LoopNIn
import Derived.LoopIn
import Derived.Test.YtndmeaoidihikaaGreatDoorProg
import Derived.WalkSpells
import Derived.Maps.AppendAt
import Derived.Deep.Quiet
import Derived.Maps.Own
import Derived.Maps.OwnSet
import Derived.Maps.Views
import Derived.WalkLawsBesides
import Derived.Laws.EntriesVeiled
import Derived.Deep.QuietTactic
import Derived.BigQuiet
import Derived.Shelf.Strings.Trim
import Derived.Shelf.Strings.SlTrimAscii
import Derived.Shelf.Strings.Repeat
import Derived.Shelf.Strings.OnBuilder
import Derived.Shelf.Strconv.Itoa1
import Derived.Shelf.Strconv.Itoa3
import Derived.Shelf.LaysM
import Derived.Ground.Names2Prog
import Derived.Lib.OthersKept
import Derived.Deep.RegionHeld3
import Derived.Deep.AppendLies
import Derived.Deep.RegionHeldLaw
import Derived.Deep.RegionLaw
import Derived.StillTail
import Derived.Laws.Tables
import Derived.IntWalk
import Derived.Laws.CopyOwn
import Derived.BigRegion
import Derived.ChangeAlike
import Derived.Shelf.Bits.Mul64
import Derived.Lib.ItoaLen
import Derived.Lib.ItoaMem
import Derived.Sort.LoopGhostIn
import Derived.Maps.RangeWalk
import Derived.Sort.QuietThIn
import Derived.Maps.Ext
import Derived.Test.YtndmeaoidihikaaGreatDoorXz01
import Derived.Test.YtndmeaoidihikaaGreatDoorXz02
import Derived.Test.YtndmeaoidihikaaGreatDoorXz03
import Derived.Test.YtndmeaoidihikaaGreatDoorXz04
import Derived.Test.YtndmeaoidihikaaGreatDoorXz05
set_option linter.all false

namespace Go.Proofs.YtndmeaoidihikaaGreatDoor
open Go.RowKit Go.Shelf
attribute [local go_sem] Oper.semAt_some
attribute [local go_sem ↓] run_index4 run_index32
set_option maxHeartbeats 8000000
set_option maxRecDepth 100000

def cCr (c : CrM) : Value := .agg #[.int .i64 c.gear, .int .i64 c.over, .int .i64 c.under, .int .i64 c.going]
attribute [go_sem] cCr
theorem cCr1 (x : CrM) : cCr x = .agg (cCr x).cells := rfl
theorem cCrS (x : CrM) : (cCr x).cells.size = 4 := rfl
theorem cCrO (x : CrM) : ∀ u ∈ (cCr x).cells.toList, u.oneCell' = true := by
 intro u hu; simp [cCr, Value.cells] at hu; rcases hu with rfl | rfl | rfl | rfl <;> rfl
theorem E_crs : ETy Tryz.prog 101 104 (.agg #[.int .i64 0, .int .i64 0, .int .i64 0, .int .i64 0]) 4 32 := ⟨Tryz.underlying101, by kernel_rfl, rfl, by decide⟩
theorem A_crs : Aggr Tryz.prog 104 := ⟨_, Tryz.underlying104, rfl⟩

def mixZ (z0 z1 z2 z3 : Int) (j : Nat) : Array Value := #[.int .i64 (if 0 < j then z0 else 0), .int .i64 (if 1 < j then z1 else 0), .int .i64 (if 2 < j then z2 else 0), .int .i64 (if 3 < j then z3 else 0)]

theorem crossings_any (m : MacV) (ad : Option Addr) (cap : Nat) (al : Option Addr) (cl : Nat) (l : List Int) (w : World) (hL : Ints w al cl l) (h0 : 0 ≤ m.gears) (h1 : m.gears ≤ 16) :
  Calls Tryz.prog 65 #[mV m ad cap, .slice al l.length cl] w fun r w' => ∃ v, r = .returned v ∧ Own cCr 4 w.heap.size 104 w' v (crossM m l) ∧ Below w.heap.size w w' := by
 have hcap := hL.le
 have hm := hL.max
 refine callsIn_wide.1 (callsIn_of_wp_marks (n := 9) (F := Fence.wide) Tryz.func65 rfl trivial ?_ rfl)
 simp only [Tryz.ntmps65, List.size_toArray, List.length_cons, List.length_nil, Nat.reduceAdd, Nat.reduceSub, Array.replicate_succ, Array.replicate_zero, List.push_toArray, List.append_toArray, List.nil_append, List.cons_append]
 refine wpIn_wide.2 ?_
 have hS := ((((SL.nil w).box (.cells (mC m ad cap) 24)).box (.cells #[.slice al l.length cl] 22)).nilS (α := CrM) (c := cCr) (sz := 4) (e := 104) cCrS).box (.cells #[.slice none 0 0] 101)
 simp only [World.size_alloc] at hS
 have q3 := (hS.blk 3 rfl).1
 go_wp2_with (with_reducible refine wpList_ldS (n := 4) (us := mC m ad cap) A_mach kR wU wU (by assumption) wU wU ?_)
 refine (gears_any m ad cap _).mono ?_
 rintro e w3 ⟨rfl, rfl⟩
 have hS2 := hS.box (.cells (mC m ad cap) 24)
 simp only [World.size_alloc] at hS2
 go_wp2_with fail
 obtain ⟨n, hn⟩ : ∃ n : Nat, m.gears = n := ⟨m.gears.toNat, by omega⟩
 have hgl : gearsL m = gearsTo n := by unfold gearsL gearsTo; rw [hn]; rfl
 have hn16 : n ≤ 16 := by omega
 have hokT : ∀ (lv : Value) (L : List CrM), ∀ q ∈ [pBlk (w.heap.size + 1 + 1 + 1) (.cells (mC m ad cap) 24), pBlk (w.heap.size + 1 + 1) (.cells #[lv] 101), pOwn cCr 4 104 (lv) (L), pBlk (w.heap.size + 1) (.cells #[.slice al l.length cl] 22), pBlk w.heap.size (.cells (mC m ad cap) 24)], q.okT (w.heap.size + 1 + 1 + 1 + 1) := by
  intro lv L q hq
  simp only [List.mem_cons, List.not_mem_nil, or_false] at hq
  rcases hq with rfl | rfl | rfl | rfl | rfl
  ·exact okT_cells
  ·exact okT_cells
  ·exact okT_own
  ·exact okT_cells
  ·exact okT_cells
 have HOK := hid hokT; have HN := hid hn; have HGL := hid hgl
 have hS3 := hS2.pick [0, 1, 2, 3, 4] (by decide) [pBlk (w.heap.size + 1 + 1 + 1) (.cells (mC m ad cap) 24), pBlk (w.heap.size + 1 + 1) (.cells #[.slice none 0 0] 101), pOwn cCr 4 104 (.slice none 0 0) ([]), pBlk (w.heap.size + 1) (.cells #[.slice al l.length cl] 22), pBlk w.heap.size (.cells (mC m ad cap) 24)] rfl
 clear hokT hgl q3 hS hS2
 refine (wpIn_wide (n := 9)).1 ?_
 refine wpIn_rangeFunc_ownH rfl (by decide) (gf := 136) (lb := #[.pointer (some ⟨w.heap.size + 1 + 1 + 1, 0, none⟩)]) rfl trivial (enters_of Tryz.func136 kR rfl)
  (gears_stops 8 (w.heap.size + 1 + 1 + 1) m ad cap n hn hn16 (by decide) _ (by simp) (hS3.blk 0 rfl).1)
  (fun h1 h2 => Eq.trans h2 h1) (fun W j o o' hj _ _ _ => World.putObj_heap_other (by simp at hj; omega)) (Below.refl _ _) (fun _ => rfl)
  (fun pre W => pre.length ≤ n ∧ ∃ lv, SL w.heap.size w W [pBlk (w.heap.size + 1 + 1 + 1) (.cells (mC m ad cap) 24), pBlk (w.heap.size + 1 + 1) (.cells #[lv] 101), pOwn cCr 4 104 (lv) (pre.flatMap fun x => crossG m l x.1), pBlk (w.heap.size + 1) (.cells #[.slice al l.length cl] 22), pBlk w.heap.size (.cells (mC m ad cap) 24)])
  (fun _ _ _ => False) ?hI (fun _ _ _ _ _ hs _ _ => hs) ⟨by simp, .slice none 0 0, hS3⟩
  (fun x a' W => ∃ b, a' = { tmps := #[mV m ad cap, .slice al l.length cl, .pointer (some ⟨w.heap.size, 0, none⟩), .pointer (some ⟨w.heap.size + 1, 0, none⟩), .slice none 0 0, .pointer (some ⟨w.heap.size + 1 + 1, 0, none⟩), .int .i64 x.1, .pointer (some ⟨b, 0, none⟩), undef, undef, undef, undef, undef, undef, undef, undef, mV m ad cap, .func (.func 136) #[] #[.pointer (some ⟨w.heap.size + 1 + 1 + 1, 0, none⟩)], .int .i64 x.1, .agg (gC m x.1), undef, undef, undef, undef, undef, undef, undef, undef, undef, undef, undef, undef, undef, undef, undef, undef, undef, undef, undef, undef, undef, undef, undef, undef, undef, undef, undef, undef, undef, undef, undef, undef, undef, undef, undef, undef, undef, undef, undef, undef, undef, undef, undef, undef, undef, undef, undef, undef, undef, undef, undef, undef], defers := [] } ∧ W.heap[b]? = some (.cells (gC m x.1) 146)) ?hAx ?assign ?body ?done ?stop
 case hI =>
  rintro s A B row ⟨hs1, lv, hs⟩ hg hr
  exact ⟨hs1, lv, hs.turn (C := w.heap.size + 1 + 1 + 1 + 1) (by omega) (HOK.out _ _) hg (fun r e => by have := hr r e; simpa using this)⟩
 case hAx =>
  rintro x a' s A B row ⟨b, e, hb⟩ hg hr
  refine ⟨b, e, (hg.block b (Array.getElem?_eq_some_iff.1 hb).1 (fun e2 => ?_)).trans hb⟩
  obtain ⟨_, o, ho, hc⟩ := hr b e2.symm
  rw [hb] at ho; cases ho; cases hc
 case assign =>
  rintro q pre x W K ⟨hpl, lv, hs⟩ hK
  dsimp only [gearV]
  gi_wp2
  refine hK _ _ ((KeepsOthers.alloc _ _).from _) (Below.heap_alloc _ _ _ (hs.blk 0 rfl).2.2) ⟨hpl, lv, hs.al _⟩ ⟨W.heap.size, rfl, ?_⟩
  exact heap_alloc_new W _
 case body =>
  rintro q pre x a' W - - ⟨hpl, lv, hs⟩ ⟨b, rfl, hb⟩ hlt
  clear hn
  have hbm := (hs.blk 0 rfl).1
  have hal : (pre.flatMap fun x => crossG m l x.1).length ≤ 64 := by
   have key : ∀ p : List (Slot n), (p.flatMap fun x => crossG m l x.1).length ≤ 3 * p.length := by
    intro p
    induction p with
    | nil => simp
    | cons y p ih =>
     rw [List.flatMap_cons, List.length_append, List.length_cons]
     have : (crossG m l y.1).length ≤ 3 := by unfold crossG; exact Nat.le_trans (List.length_filterMap_le _ _) (by decide)
     omega
   have := key pre
   omega
  have kk : ∀ i u, (gC m x.1)[i]? = some u → (W.alloc (.cells #[.int .i64 0, .int .i64 0, .int .i64 0, .int .i64 0] 146)).cell? ⟨b, i, none⟩ = some u := by
   intro i u hu
   have := Below.heap_alloc W (.cells #[.int .i64 0, .int .i64 0, .int .i64 0, .int .i64 0] 146) b (Array.getElem?_eq_some_iff.1 hb).1
   simp [World.cell?, this, hb, hu]
  have q0 := kk 0 _ rfl
  have q1 := kk 1 _ rfl
  have q2 := kk 2 _ rfl
  have q3 := kk 3 _ rfl
  have hfin : (pre ++ [x]).flatMap (fun x => crossG m l x.1) = (pre.flatMap fun x => crossG m l x.1) ++ (pairsX.take 3).filterMap (fun p => crossA m l x.1 p.1 p.2) := by
   rw [List.flatMap_append]; simp [crossG, pairsX]
  obtain ⟨acc, hacc⟩ : ∃ acc, acc = (pre.flatMap fun x => crossG m l x.1) := ⟨_, rfl⟩
  rw [← hacc] at hs hal hfin
  have hx0 := x.2.1
  have hx1 := x.2.2
  have HFIN := hid hfin
  have C0 := fun w h => sIndexO_any al cl l (slotG m x.1 0) w h
  have C1 := fun w h => sIndexO_any al cl l (slotG m x.1 1) w h
  have C2 := fun w h => sIndexO_any al cl l (slotG m x.1 2) w h
  have C3 := fun w h => sIndexO_any al cl l (slotG m x.1 3) w h
  obtain ⟨Z0, hZ0⟩ : ∃ Z, Z = (idxO l (slotG m x.1 0)).getD (-1) := ⟨_, rfl⟩
  obtain ⟨Z1, hZ1⟩ : ∃ Z, Z = (idxO l (slotG m x.1 1)).getD (-1) := ⟨_, rfl⟩
  obtain ⟨Z2, hZ2⟩ : ∃ Z, Z = (idxO l (slotG m x.1 2)).getD (-1) := ⟨_, rfl⟩
  obtain ⟨Z3, hZ3⟩ : ∃ Z, Z = (idxO l (slotG m x.1 3)).getD (-1) := ⟨_, rfl⟩
  rw [← hZ0] at C0
  rw [← hZ1] at C1
  rw [← hZ2] at C2
  rw [← hZ3] at C3
  have HC0 := hid C0; have HC1 := hid C1; have HC2 := hid C2; have HC3 := hid C3
  have HZ0 := hid hZ0; have HZ1 := hid hZ1; have HZ2 := hid hZ2; have HZ3 := hid hZ3
  have CF := fun w => forwards_any m ad cap x.1 w hx0 (by omega)
  have HF := hid CF
  clear hb kk hfin hacc HN C0 C1 C2 C3 hZ0 hZ1 hZ2 hZ3 CF
  have hs8 := hs.box (.cells #[.int .i64 0, .int .i64 0, .int .i64 0, .int .i64 0] 146)
  gi_wp2
  clear q0 q1 q2 q3
  gi_loopw [21] (fun i wq => ∃ (j : Nat), j ≤ 4 ∧ i = .int .i64 j ∧ KeepsOthers W wq ∧ SL w.heap.size w wq (pBlk W.heap.size (.cells (mixZ Z0 Z1 Z2 Z3 j) 146) :: [pBlk (w.heap.size + 1 + 1 + 1) (.cells (mC m ad cap) 24), pBlk (w.heap.size + 1 + 1) (.cells #[lv] 101), pOwn cCr 4 104 (lv) (acc), pBlk (w.heap.size + 1) (.cells #[.slice al l.length cl] 22), pBlk w.heap.size (.cells (mC m ad cap) 24)])) (fun i _ => 4 - (intOf i).toNat)
  case atStart => exact ⟨0, by omega, rfl, KeepsOthers.alloc _ _, hs8⟩
  case round =>
   clear hs hs8
   obtain ⟨j, hj, rfl, hko, hSq⟩ := hrel
   have hj5 : j = 0 ∨ j = 1 ∨ j = 2 ∨ j = 3 ∨ j = 4 := by omega
   have hlc := hSq.cell 4 rfl 0 rfl
   have hLq := hL.below hSq.b
   rcases hj5 with rfl | rfl | rfl | rfl | rfl
   ·have q := hSq.cell 0 rfl 0 (u := .int .i64 0) (by simp [mixZ])
    have fz := hSq.frozen 0 rfl 0
    gi_wp2
    refine ⟨trivial, (callsIn_wide.2 (HC0.out _ hLq)).mono ?_⟩
    rintro e w' ⟨rfl, rfl⟩
    gi_wp2
    go_roundw
    case rel => exact ⟨1, by omega, rfl, hko.trans (KeepsOthers.setCell _ _ _), hSq.set 0 rfl 0 _⟩
    case measure => simp [intOf]
   ·have q := hSq.cell 0 rfl 1 (u := .int .i64 0) (by simp [mixZ])
    have fz := hSq.frozen 0 rfl 1
    gi_wp2
    refine ⟨trivial, (callsIn_wide.2 (HC1.out _ hLq)).mono ?_⟩
    rintro e w' ⟨rfl, rfl⟩
    gi_wp2
    go_roundw
    case rel => exact ⟨2, by omega, rfl, hko.trans (KeepsOthers.setCell _ _ _), hSq.set 0 rfl 1 _⟩
    case measure => simp [intOf]
   ·have q := hSq.cell 0 rfl 2 (u := .int .i64 0) (by simp [mixZ])
    have fz := hSq.frozen 0 rfl 2
    gi_wp2
    refine ⟨trivial, (callsIn_wide.2 (HC2.out _ hLq)).mono ?_⟩
    rintro e w' ⟨rfl, rfl⟩
    gi_wp2
    go_roundw
    case rel => exact ⟨3, by omega, rfl, hko.trans (KeepsOthers.setCell _ _ _), hSq.set 0 rfl 2 _⟩
    case measure => simp [intOf]
   ·have q := hSq.cell 0 rfl 3 (u := .int .i64 0) (by simp [mixZ])
    have fz := hSq.frozen 0 rfl 3
    gi_wp2
    refine ⟨trivial, (callsIn_wide.2 (HC3.out _ hLq)).mono ?_⟩
    rintro e w' ⟨rfl, rfl⟩
    gi_wp2
    go_roundw
    case rel => exact ⟨4, by omega, rfl, hko.trans (KeepsOthers.setCell _ _ _), hSq.set 0 rfl 3 _⟩
    case measure => simp [intOf]
   ·clear hlc hLq HC0 HC1 HC2 HC3
    gi_wp2
    gi_loopw [35] (fun i wq => ∃ (k : Nat) (lw : Value), k ≤ 3 ∧ i = .int .i64 k ∧ KeepsOthers W wq ∧ SL w.heap.size w wq (pBlk W.heap.size (.cells #[.int .i64 Z0, .int .i64 Z1, .int .i64 Z2, .int .i64 Z3] 146) :: [pBlk (w.heap.size + 1 + 1 + 1) (.cells (mC m ad cap) 24), pBlk (w.heap.size + 1 + 1) (.cells #[lw] 101), pOwn cCr 4 104 (lw) (acc ++ (pairsX.take k).filterMap (fun p => crossA m l x.1 p.1 p.2)), pBlk (w.heap.size + 1) (.cells #[.slice al l.length cl] 22), pBlk w.heap.size (.cells (mC m ad cap) 24)])) (fun i _ => 3 - (intOf i).toNat)
    case atStart => exact ⟨0, lv, by omega, rfl, hko, by simpa [mixZ] using hSq⟩
    case round =>
     clear hSq hko
     obtain ⟨k, lw, hk, rfl, hko, hSq⟩ := hrel
     have hlen : (acc ++ (pairsX.take k).filterMap (fun p => crossA m l x.1 p.1 p.2)).length ≤ 70 := by
      rw [List.length_append]
      have := List.length_filterMap_le (fun p : Nat × Nat => crossA m l x.1 p.1 p.2) (pairsX.take k)
      rw [List.length_take] at this
      omega
     obtain ⟨A, hA⟩ : ∃ A, A = acc ++ (pairsX.take k).filterMap (fun p => crossA m l x.1 p.1 p.2) := ⟨_, rfl⟩
     rw [← hA] at hSq hlen
     have HA := hid hA
     clear hA
     have hk4 : k = 0 ∨ k = 1 ∨ k = 2 ∨ k = 3 := by omega
     have hmx : Tryz.prog.follows .mixedOrders = true := by kernel_rfl
     have hz8 := (hSq.blk 0 rfl).2.2
     have hzB := (hSq.blk 2 rfl).2.2
     rcases hk4 with rfl | rfl | rfl | rfl
     ·have hS12 := hSq.box (.cells #[.int .i64 1, .int .i64 2] 53)
      have u0 := hS12.cell 0 rfl 0 rfl
      have u1 := hS12.cell 0 rfl 1 rfl
      have z1 := hS12.cell 1 rfl 1 rfl
      have z2 := hS12.cell 1 rfl 2 rfl
      have hst : (pairsX.take 1).filterMap (fun p => crossA m l x.1 p.1 p.2) = (pairsX.take 0).filterMap (fun p => crossA m l x.1 p.1 p.2) ++ (crossA m l x.1 1 2).toList := by
       rw [show pairsX.take 1 = pairsX.take 0 ++ [(1, 2)] from rfl, List.filterMap_append]
       congr 1
      have HST := hid hst
      clear hst
      cases ox : idxO l (slotG m x.1 1) with
      | none =>
       have hz : Z1 = -1 := by rw [HZ1.out, ox]; rfl
       have hcr : crossA m l x.1 1 2 = none := by unfold crossA; rw [ox]
       have HCR := hid hcr
       subst hz
       clear ox hcr
       gi_wp2
       refine wpIn_region_quietR kR hmx kR ?_
       refine wpQIn_val (.pointer (some ⟨wr.heap.size, 0, none⟩)) rfl (fun _ => rfl) (fun w' => by go_simp) ?_
       go_frame
       refine wpQIn_load F_int wU u0 ?_
       go_frame
       refine wpQIn_val (.pointer (some ⟨W.heap.size, 1, none⟩)) rfl (fun _ => rfl) (fun w' => by go_simp) ?_
       go_frame
       refine wpQIn_load F_int wU z1 ?_
       go_frame
       refine wpQIn_val (.pointer (some ⟨wr.heap.size, 1, none⟩)) rfl (fun _ => rfl) (fun w' => by go_simp) ?_
       go_frame
       refine wpQIn_load F_int wU u1 ?_
       go_frame
       refine wpQIn_val (.pointer (some ⟨W.heap.size, 2, none⟩)) rfl (fun _ => rfl) (fun w' => by go_simp) ?_
       go_frame
       refine wpQIn_load F_int wU z2 ?_
       go_frame
       refine wpQIn_val (.int .i64 (-1)) rfl (fun _ => rfl) (fun w' => by go_simp) ?_
       go_frame
       refine wpQIn_val (.int .i64 Z2) rfl (fun _ => rfl) (fun w' => by go_simp) ?_
       go_frame
       refine wpQuietIn_nil ?_
       intro w4 hw4
       have b4 := below_drewN hw4
       have ko4 := KeepsOthers.of_grownBy (grown_of_below b4) (fun j o e => by cases e)
       have hS4 := hS12.mono b4
       clear hw4 u0 u1 z1 z2
       gi_wp2
       go_roundw
       case rel => exact ⟨1, lw, by omega, rfl, hko.trans ((KeepsOthers.alloc _ _).trans ko4), by rw [HST.out, HCR.out, ← List.append_assoc, ← HA.out]; simpa using hS4.tail⟩
       case measure => simp [intOf]
      | some a =>
       have ha0 := (idxO_some ox).1
       have hz : Z1 = a := by rw [HZ1.out, ox]; rfl
       subst hz
       have dX : decide (Z1 < 0) = false := decide_eq_false (by omega)
       cases oy : idxO l (slotG m x.1 2) with
       | none =>
        have hz2 : Z2 = -1 := by rw [HZ2.out, oy]; rfl
        have hcr : crossA m l x.1 1 2 = none := by unfold crossA; rw [ox, oy]
        have HCR := hid hcr
        subst hz2
        clear ox oy hcr
        gi_wp2
        refine wpIn_region_quietR kR hmx kR ?_
        refine wpQIn_val (.pointer (some ⟨wr.heap.size, 0, none⟩)) rfl (fun _ => rfl) (fun w' => by go_simp) ?_
        go_frame
        refine wpQIn_load F_int wU u0 ?_
        go_frame
        refine wpQIn_val (.pointer (some ⟨W.heap.size, 1, none⟩)) rfl (fun _ => rfl) (fun w' => by go_simp) ?_
        go_frame
        refine wpQIn_load F_int wU z1 ?_
        go_frame
        refine wpQIn_val (.pointer (some ⟨wr.heap.size, 1, none⟩)) rfl (fun _ => rfl) (fun w' => by go_simp) ?_
        go_frame
        refine wpQIn_load F_int wU u1 ?_
        go_frame
        refine wpQIn_val (.pointer (some ⟨W.heap.size, 2, none⟩)) rfl (fun _ => rfl) (fun w' => by go_simp) ?_
        go_frame
        refine wpQIn_load F_int wU z2 ?_
        go_frame
        refine wpQIn_val (.int .i64 Z1) rfl (fun _ => rfl) (fun w' => by go_simp) ?_
        go_frame
        refine wpQIn_val (.int .i64 (-1)) rfl (fun _ => rfl) (fun w' => by go_simp) ?_
        go_frame
        refine wpQuietIn_nil ?_
        intro w4 hw4
        have b4 := below_drewN hw4
        have ko4 := KeepsOthers.of_grownBy (grown_of_below b4) (fun j o e => by cases e)
        have hS4 := hS12.mono b4
        clear hw4 u0 u1 z1 z2
        gi_wp2
        go_roundw
        case rel => exact ⟨1, lw, by omega, rfl, hko.trans ((KeepsOthers.alloc _ _).trans ko4), by rw [HST.out, HCR.out, ← List.append_assoc, ← HA.out]; simpa using hS4.tail⟩
        case measure => simp [intOf]
       | some c =>
        have hb0 := (idxO_some oy).1
        have hz2 : Z2 = c := by rw [HZ2.out, oy]; rfl
        subst hz2
        have dY : decide (Z2 < 0) = false := decide_eq_false (by omega)
        have hcr : crossA m l x.1 1 2 = some (if fwdM m x.1 then ⟨x.1, Z2, Z1, Z1⟩ else ⟨x.1, Z1, Z2, Z1⟩) := by unfold crossA; rw [ox, oy]
        have CF := HF.out
        clear ox oy
        cases hf : fwdM m x.1
        ·rw [hf] at CF hcr
         have HFF := hid CF; have HCR := hid hcr
         clear CF hf hcr
         gi_wp2
         refine wpIn_region_quietR kR hmx kR ?_
         refine wpQIn_val (.pointer (some ⟨wr.heap.size, 0, none⟩)) rfl (fun _ => rfl) (fun w' => by go_simp) ?_
         go_frame
         refine wpQIn_load F_int wU u0 ?_
         go_frame
         refine wpQIn_val (.pointer (some ⟨W.heap.size, 1, none⟩)) rfl (fun _ => rfl) (fun w' => by go_simp) ?_
         go_frame
         refine wpQIn_load F_int wU z1 ?_
         go_frame
         refine wpQIn_val (.pointer (some ⟨wr.heap.size, 1, none⟩)) rfl (fun _ => rfl) (fun w' => by go_simp) ?_
         go_frame
         refine wpQIn_load F_int wU u1 ?_
         go_frame
         refine wpQIn_val (.pointer (some ⟨W.heap.size, 2, none⟩)) rfl (fun _ => rfl) (fun w' => by go_simp) ?_
         go_frame
         refine wpQIn_load F_int wU z2 ?_
         go_frame
         refine wpQIn_val (.int .i64 Z1) rfl (fun _ => rfl) (fun w' => by go_simp) ?_
         go_frame
         refine wpQIn_val (.int .i64 Z2) rfl (fun _ => rfl) (fun w' => by go_simp) ?_
         go_frame
         refine wpQuietIn_nil ?_
         intro w4 hw4
         have b4 := below_drewN hw4
         have ko4 := KeepsOthers.of_grownBy (grown_of_below b4) (fun j o e => by cases e)
         have hS4 := hS12.mono b4
         have hS5 := hS4.box (.cells #[.int .i64 x.1, .int .i64 Z1, .int .i64 Z2, .int .i64 Z1] 104)
         have m0 := hS5.cell 7 rfl 0 rfl
         have m1 := hS5.cell 7 rfl 1 rfl
         have m2 := hS5.cell 7 rfl 2 rfl
         have m3 := hS5.cell 7 rfl 3 rfl
         clear hw4 u0 u1 z1 z2
         gi_wp2
         refine ⟨trivial, (callsIn_wide.2 (HFF.out _)).mono ?_⟩
         rintro e w6 ⟨rfl, b6⟩
         have hS6 := hS5.mono b6
         have ko6 := KeepsOthers.of_grownBy (grown_of_below b6) (fun j o e => by cases e)
         clear m0 m1 m2 m3
         have c0 := hS6.cell 0 rfl 0 rfl
         have c1 := hS6.cell 0 rfl 1 rfl
         have c2 := hS6.cell 0 rfl 2 rfl
         have c3 := hS6.cell 0 rfl 3 rfl
         have hlb := hS6.cell 4 rfl 0 rfl
         have hlf := hS6.frozen 4 rfl 0
         have hob := hS6.own 5 rfl
         gi_wp2_with (((with_reducible refine wpListIn_pushL (y := (⟨x.1, Z1, Z2, Z1⟩ : CrM)) 5 E_crs wU wU (hS6) wU cCrO ⟨rfl, rfl⟩ (by first | with_unfolding_all rfl | simp) wU (by first | omega | (simp; omega)) (by first | omega | (simp; omega)) ?_); intro v7 w7 hP hg7 _); obtain ⟨a7, c7, rfl, _⟩ := hP.slice 5 rfl; have hlb7 := hP.cell 4 rfl 0 rfl; have hlf7 := hP.frozen 4 rfl 0)
         have hP2 := hP.set 4 rfl 0 (.slice a7 (A ++ [(⟨x.1, Z1, Z2, Z1⟩ : CrM)]).length c7)
         have eL : (A ++ [(⟨x.1, Z1, Z2, Z1⟩ : CrM)]).length = A.length + 1 := by simp
         rw [eL] at hP2
         refine ⟨?_, by simp [intOf]⟩
         repeat apply Exists.intro
         refine ⟨?_, rfl⟩
         refine ⟨1, .slice a7 (A.length + 1) c7, by omega, rfl, hko.trans ((KeepsOthers.alloc _ _).trans (ko4.trans ((KeepsOthers.alloc _ _).trans (ko6.trans ((KeepsOthers.of_grownBy hg7 fun j o ej hj => ?_).trans (KeepsOthers.setCell _ _ _)))))), ?_⟩
         ·obtain ⟨o', h1, h2⟩ := own_isCells hob ej
          have h3 := hj.symm.trans h1
          cases h3; exact h2
         ·rw [HST.out, HCR.out, ← List.append_assoc, ← HA.out]
          exact hP2.tail.tail
        ·rw [hf] at CF hcr
         have HFF := hid CF; have HCR := hid hcr
         clear CF hf hcr
         gi_wp2
         refine wpIn_region_quietR kR hmx kR ?_
         refine wpQIn_val (.pointer (some ⟨wr.heap.size, 0, none⟩)) rfl (fun _ => rfl) (fun w' => by go_simp) ?_
         go_frame
         refine wpQIn_load F_int wU u0 ?_
         go_frame
         refine wpQIn_val (.pointer (some ⟨W.heap.size, 1, none⟩)) rfl (fun _ => rfl) (fun w' => by go_simp) ?_
         go_frame
         refine wpQIn_load F_int wU z1 ?_
         go_frame
         refine wpQIn_val (.pointer (some ⟨wr.heap.size, 1, none⟩)) rfl (fun _ => rfl) (fun w' => by go_simp) ?_
         go_frame
         refine wpQIn_load F_int wU u1 ?_
         go_frame
         refine wpQIn_val (.pointer (some ⟨W.heap.size, 2, none⟩)) rfl (fun _ => rfl) (fun w' => by go_simp) ?_
         go_frame
         refine wpQIn_load F_int wU z2 ?_
         go_frame
         refine wpQIn_val (.int .i64 Z1) rfl (fun _ => rfl) (fun w' => by go_simp) ?_
         go_frame
         refine wpQIn_val (.int .i64 Z2) rfl (fun _ => rfl) (fun w' => by go_simp) ?_
         go_frame
         refine wpQuietIn_nil ?_
         intro w4 hw4
         have b4 := below_drewN hw4
         have ko4 := KeepsOthers.of_grownBy (grown_of_below b4) (fun j o e => by cases e)
         have hS4 := hS12.mono b4
         have hS5 := hS4.box (.cells #[.int .i64 x.1, .int .i64 Z1, .int .i64 Z2, .int .i64 Z1] 104)
         have m0 := hS5.cell 7 rfl 0 rfl
         have m1 := hS5.cell 7 rfl 1 rfl
         have m2 := hS5.cell 7 rfl 2 rfl
         have m3 := hS5.cell 7 rfl 3 rfl
         clear hw4 u0 u1 z1 z2
         gi_wp2
         refine ⟨trivial, (callsIn_wide.2 (HFF.out _)).mono ?_⟩
         rintro e w6 ⟨rfl, b6⟩
         have hS6 := hS5.mono b6
         have ko6 := KeepsOthers.of_grownBy (grown_of_below b6) (fun j o e => by cases e)
         clear m0 m1 m2 m3
         have f0 := hS6.frozen 0 rfl 0
         have f1 := hS6.frozen 0 rfl 1
         have f2 := hS6.frozen 0 rfl 2
         have c0 := hS6.cell 0 rfl 0 rfl
         have c1 := hS6.cell 0 rfl 1 rfl
         have c2 := hS6.cell 0 rfl 2 rfl
         have c3 := hS6.cell 0 rfl 3 rfl
         have hlb := hS6.cell 4 rfl 0 rfl
         have hne : ¬ w.heap.size + 1 + 1 = w4.heap.size := by have := (hS4.blk 3 rfl).2.2; omega
         have hS7 := ((hS6.set 0 rfl 0 (.int .i64 x.1)).set 0 rfl 1 (.int .i64 Z2)).set 0 rfl 2 (.int .i64 Z1)
         have hob := hS7.own 5 rfl
         gi_wp2_with (((with_reducible refine wpListIn_pushL (y := (⟨x.1, Z2, Z1, Z1⟩ : CrM)) 5 E_crs wU wU (hS7) wU cCrO ⟨rfl, rfl⟩ (by first | with_unfolding_all rfl | simp) wU (by first | omega | (simp; omega)) (by first | omega | (simp; omega)) ?_); intro v7 w7 hP hg7 _); obtain ⟨a7, c7, rfl, _⟩ := hP.slice 5 rfl; have hlb7 := hP.cell 4 rfl 0 rfl; have hlf7 := hP.frozen 4 rfl 0)
         have hP2 := hP.set 4 rfl 0 (.slice a7 (A ++ [(⟨x.1, Z2, Z1, Z1⟩ : CrM)]).length c7)
         have eL : (A ++ [(⟨x.1, Z2, Z1, Z1⟩ : CrM)]).length = A.length + 1 := by simp
         rw [eL] at hP2
         refine ⟨?_, by simp [intOf]⟩
         repeat apply Exists.intro
         refine ⟨?_, rfl⟩
         refine ⟨1, .slice a7 (A.length + 1) c7, by omega, rfl, hko.trans ((KeepsOthers.alloc _ _).trans (ko4.trans ((KeepsOthers.alloc _ _).trans (ko6.trans ((KeepsOthers.setCell _ _ _).trans ((KeepsOthers.setCell _ _ _).trans ((KeepsOthers.setCell _ _ _).trans ((KeepsOthers.of_grownBy hg7 fun j o ej hj => ?_).trans (KeepsOthers.setCell _ _ _))))))))), ?_⟩
         ·obtain ⟨o', h1, h2⟩ := own_isCells hob ej
          have h3 := hj.symm.trans h1
          cases h3; exact h2
         ·rw [HST.out, HCR.out, ← List.append_assoc, ← HA.out]
          exact hP2.tail.tail
     ·have hS12 := hSq.box (.cells #[.int .i64 0, .int .i64 2] 53)
      have u0 := hS12.cell 0 rfl 0 rfl
      have u1 := hS12.cell 0 rfl 1 rfl
      have z0 := hS12.cell 1 rfl 0 rfl
      have z2 := hS12.cell 1 rfl 2 rfl
      have hst : (pairsX.take 2).filterMap (fun p => crossA m l x.1 p.1 p.2) = (pairsX.take 1).filterMap (fun p => crossA m l x.1 p.1 p.2) ++ (crossA m l x.1 0 2).toList := by
       rw [show pairsX.take 2 = pairsX.take 1 ++ [(0, 2)] from rfl, List.filterMap_append]
       congr 1
      have HST := hid hst
      clear hst
      cases ox : idxO l (slotG m x.1 0) with
      | none =>
       have hz : Z0 = -1 := by rw [HZ0.out, ox]; rfl
       have hcr : crossA m l x.1 0 2 = none := by unfold crossA; rw [ox]
       have HCR := hid hcr
       subst hz
       clear ox hcr
       gi_wp2
       refine wpIn_region_quietR kR hmx kR ?_
       refine wpQIn_val (.pointer (some ⟨wr.heap.size, 0, none⟩)) rfl (fun _ => rfl) (fun w' => by go_simp) ?_
       go_frame
       refine wpQIn_load F_int wU u0 ?_
       go_frame
       refine wpQIn_val (.pointer (some ⟨W.heap.size, 0, none⟩)) rfl (fun _ => rfl) (fun w' => by go_simp) ?_
       go_frame
       refine wpQIn_load F_int wU z0 ?_
       go_frame
       refine wpQIn_val (.pointer (some ⟨wr.heap.size, 1, none⟩)) rfl (fun _ => rfl) (fun w' => by go_simp) ?_
       go_frame
       refine wpQIn_load F_int wU u1 ?_
       go_frame
       refine wpQIn_val (.pointer (some ⟨W.heap.size, 2, none⟩)) rfl (fun _ => rfl) (fun w' => by go_simp) ?_
       go_frame
       refine wpQIn_load F_int wU z2 ?_
       go_frame
       refine wpQIn_val (.int .i64 (-1)) rfl (fun _ => rfl) (fun w' => by go_simp) ?_
       go_frame
       refine wpQIn_val (.int .i64 Z2) rfl (fun _ => rfl) (fun w' => by go_simp) ?_
       go_frame
       refine wpQuietIn_nil ?_
       intro w4 hw4
       have b4 := below_drewN hw4
       have ko4 := KeepsOthers.of_grownBy (grown_of_below b4) (fun j o e => by cases e)
       have hS4 := hS12.mono b4
       clear hw4 u0 u1 z0 z2
       gi_wp2
       go_roundw
       case rel => exact ⟨2, lw, by omega, rfl, hko.trans ((KeepsOthers.alloc _ _).trans ko4), by rw [HST.out, HCR.out, ← List.append_assoc, ← HA.out]; simpa using hS4.tail⟩
       case measure => simp [intOf]
      | some a =>
       have ha0 := (idxO_some ox).1
       have hz : Z0 = a := by rw [HZ0.out, ox]; rfl
       subst hz
       have dX : decide (Z0 < 0) = false := decide_eq_false (by omega)
       cases oy : idxO l (slotG m x.1 2) with
       | none =>
        have hz2 : Z2 = -1 := by rw [HZ2.out, oy]; rfl
        have hcr : crossA m l x.1 0 2 = none := by unfold crossA; rw [ox, oy]
        have HCR := hid hcr
        subst hz2
        clear ox oy hcr
        gi_wp2
        refine wpIn_region_quietR kR hmx kR ?_
        refine wpQIn_val (.pointer (some ⟨wr.heap.size, 0, none⟩)) rfl (fun _ => rfl) (fun w' => by go_simp) ?_
        go_frame
        refine wpQIn_load F_int wU u0 ?_
        go_frame
        refine wpQIn_val (.pointer (some ⟨W.heap.size, 0, none⟩)) rfl (fun _ => rfl) (fun w' => by go_simp) ?_
        go_frame
        refine wpQIn_load F_int wU z0 ?_
        go_frame
        refine wpQIn_val (.pointer (some ⟨wr.heap.size, 1, none⟩)) rfl (fun _ => rfl) (fun w' => by go_simp) ?_
        go_frame
        refine wpQIn_load F_int wU u1 ?_
        go_frame
        refine wpQIn_val (.pointer (some ⟨W.heap.size, 2, none⟩)) rfl (fun _ => rfl) (fun w' => by go_simp) ?_
        go_frame
        refine wpQIn_load F_int wU z2 ?_
        go_frame
        refine wpQIn_val (.int .i64 Z0) rfl (fun _ => rfl) (fun w' => by go_simp) ?_
        go_frame
        refine wpQIn_val (.int .i64 (-1)) rfl (fun _ => rfl) (fun w' => by go_simp) ?_
        go_frame
        refine wpQuietIn_nil ?_
        intro w4 hw4
        have b4 := below_drewN hw4
        have ko4 := KeepsOthers.of_grownBy (grown_of_below b4) (fun j o e => by cases e)
        have hS4 := hS12.mono b4
        clear hw4 u0 u1 z0 z2
        gi_wp2
        go_roundw
        case rel => exact ⟨2, lw, by omega, rfl, hko.trans ((KeepsOthers.alloc _ _).trans ko4), by rw [HST.out, HCR.out, ← List.append_assoc, ← HA.out]; simpa using hS4.tail⟩
        case measure => simp [intOf]
       | some c =>
        have hb0 := (idxO_some oy).1
        have hz2 : Z2 = c := by rw [HZ2.out, oy]; rfl
        subst hz2
        have dY : decide (Z2 < 0) = false := decide_eq_false (by omega)
        have hcr : crossA m l x.1 0 2 = some (if fwdM m x.1 then ⟨x.1, Z2, Z0, Z0⟩ else ⟨x.1, Z0, Z2, Z0⟩) := by unfold crossA; rw [ox, oy]
        have CF := HF.out
        clear ox oy
        cases hf : fwdM m x.1
        ·rw [hf] at CF hcr
         have HFF := hid CF; have HCR := hid hcr
         clear CF hf hcr
         gi_wp2
         refine wpIn_region_quietR kR hmx kR ?_
         refine wpQIn_val (.pointer (some ⟨wr.heap.size, 0, none⟩)) rfl (fun _ => rfl) (fun w' => by go_simp) ?_
         go_frame
         refine wpQIn_load F_int wU u0 ?_
         go_frame
         refine wpQIn_val (.pointer (some ⟨W.heap.size, 0, none⟩)) rfl (fun _ => rfl) (fun w' => by go_simp) ?_
         go_frame
         refine wpQIn_load F_int wU z0 ?_
         go_frame
         refine wpQIn_val (.pointer (some ⟨wr.heap.size, 1, none⟩)) rfl (fun _ => rfl) (fun w' => by go_simp) ?_
         go_frame
         refine wpQIn_load F_int wU u1 ?_
         go_frame
         refine wpQIn_val (.pointer (some ⟨W.heap.size, 2, none⟩)) rfl (fun _ => rfl) (fun w' => by go_simp) ?_
         go_frame
         refine wpQIn_load F_int wU z2 ?_
         go_frame
         refine wpQIn_val (.int .i64 Z0) rfl (fun _ => rfl) (fun w' => by go_simp) ?_
         go_frame
         refine wpQIn_val (.int .i64 Z2) rfl (fun _ => rfl) (fun w' => by go_simp) ?_
         go_frame
         refine wpQuietIn_nil ?_
         intro w4 hw4
         have b4 := below_drewN hw4
         have ko4 := KeepsOthers.of_grownBy (grown_of_below b4) (fun j o e => by cases e)
         have hS4 := hS12.mono b4
         have hS5 := hS4.box (.cells #[.int .i64 x.1, .int .i64 Z0, .int .i64 Z2, .int .i64 Z0] 104)
         have m0 := hS5.cell 7 rfl 0 rfl
         have m1 := hS5.cell 7 rfl 1 rfl
         have m2 := hS5.cell 7 rfl 2 rfl
         have m3 := hS5.cell 7 rfl 3 rfl
         clear hw4 u0 u1 z0 z2
         gi_wp2
         refine ⟨trivial, (callsIn_wide.2 (HFF.out _)).mono ?_⟩
         rintro e w6 ⟨rfl, b6⟩
         have hS6 := hS5.mono b6
         have ko6 := KeepsOthers.of_grownBy (grown_of_below b6) (fun j o e => by cases e)
         clear m0 m1 m2 m3
         have c0 := hS6.cell 0 rfl 0 rfl
         have c1 := hS6.cell 0 rfl 1 rfl
         have c2 := hS6.cell 0 rfl 2 rfl
         have c3 := hS6.cell 0 rfl 3 rfl
         have hlb := hS6.cell 4 rfl 0 rfl
         have hlf := hS6.frozen 4 rfl 0
         have hob := hS6.own 5 rfl
         gi_wp2_with (((with_reducible refine wpListIn_pushL (y := (⟨x.1, Z0, Z2, Z0⟩ : CrM)) 5 E_crs wU wU (hS6) wU cCrO ⟨rfl, rfl⟩ (by first | with_unfolding_all rfl | simp) wU (by first | omega | (simp; omega)) (by first | omega | (simp; omega)) ?_); intro v7 w7 hP hg7 _); obtain ⟨a7, c7, rfl, _⟩ := hP.slice 5 rfl; have hlb7 := hP.cell 4 rfl 0 rfl; have hlf7 := hP.frozen 4 rfl 0)
         have hP2 := hP.set 4 rfl 0 (.slice a7 (A ++ [(⟨x.1, Z0, Z2, Z0⟩ : CrM)]).length c7)
         have eL : (A ++ [(⟨x.1, Z0, Z2, Z0⟩ : CrM)]).length = A.length + 1 := by simp
         rw [eL] at hP2
         refine ⟨?_, by simp [intOf]⟩
         repeat apply Exists.intro
         refine ⟨?_, rfl⟩
         refine ⟨2, .slice a7 (A.length + 1) c7, by omega, rfl, hko.trans ((KeepsOthers.alloc _ _).trans (ko4.trans ((KeepsOthers.alloc _ _).trans (ko6.trans ((KeepsOthers.of_grownBy hg7 fun j o ej hj => ?_).trans (KeepsOthers.setCell _ _ _)))))), ?_⟩
         ·obtain ⟨o', h1, h2⟩ := own_isCells hob ej
          have h3 := hj.symm.trans h1
          cases h3; exact h2
         ·rw [HST.out, HCR.out, ← List.append_assoc, ← HA.out]
          exact hP2.tail.tail
        ·rw [hf] at CF hcr
         have HFF := hid CF; have HCR := hid hcr
         clear CF hf hcr
         gi_wp2
         refine wpIn_region_quietR kR hmx kR ?_
         refine wpQIn_val (.pointer (some ⟨wr.heap.size, 0, none⟩)) rfl (fun _ => rfl) (fun w' => by go_simp) ?_
         go_frame
         refine wpQIn_load F_int wU u0 ?_
         go_frame
         refine wpQIn_val (.pointer (some ⟨W.heap.size, 0, none⟩)) rfl (fun _ => rfl) (fun w' => by go_simp) ?_
         go_frame
         refine wpQIn_load F_int wU z0 ?_
         go_frame
         refine wpQIn_val (.pointer (some ⟨wr.heap.size, 1, none⟩)) rfl (fun _ => rfl) (fun w' => by go_simp) ?_
         go_frame
         refine wpQIn_load F_int wU u1 ?_
         go_frame
         refine wpQIn_val (.pointer (some ⟨W.heap.size, 2, none⟩)) rfl (fun _ => rfl) (fun w' => by go_simp) ?_
         go_frame
         refine wpQIn_load F_int wU z2 ?_
         go_frame
         refine wpQIn_val (.int .i64 Z0) rfl (fun _ => rfl) (fun w' => by go_simp) ?_
         go_frame
         refine wpQIn_val (.int .i64 Z2) rfl (fun _ => rfl) (fun w' => by go_simp) ?_
         go_frame
         refine wpQuietIn_nil ?_
         intro w4 hw4
         have b4 := below_drewN hw4
         have ko4 := KeepsOthers.of_grownBy (grown_of_below b4) (fun j o e => by cases e)
         have hS4 := hS12.mono b4
         have hS5 := hS4.box (.cells #[.int .i64 x.1, .int .i64 Z0, .int .i64 Z2, .int .i64 Z0] 104)
         have m0 := hS5.cell 7 rfl 0 rfl
         have m1 := hS5.cell 7 rfl 1 rfl
         have m2 := hS5.cell 7 rfl 2 rfl
         have m3 := hS5.cell 7 rfl 3 rfl
         clear hw4 u0 u1 z0 z2
         gi_wp2
         refine ⟨trivial, (callsIn_wide.2 (HFF.out _)).mono ?_⟩
         rintro e w6 ⟨rfl, b6⟩
         have hS6 := hS5.mono b6
         have ko6 := KeepsOthers.of_grownBy (grown_of_below b6) (fun j o e => by cases e)
         clear m0 m1 m2 m3
         have f0 := hS6.frozen 0 rfl 0
         have f1 := hS6.frozen 0 rfl 1
         have f2 := hS6.frozen 0 rfl 2
         have c0 := hS6.cell 0 rfl 0 rfl
         have c1 := hS6.cell 0 rfl 1 rfl
         have c2 := hS6.cell 0 rfl 2 rfl
         have c3 := hS6.cell 0 rfl 3 rfl
         have hlb := hS6.cell 4 rfl 0 rfl
         have hne : ¬ w.heap.size + 1 + 1 = w4.heap.size := by have := (hS4.blk 3 rfl).2.2; omega
         have hS7 := ((hS6.set 0 rfl 0 (.int .i64 x.1)).set 0 rfl 1 (.int .i64 Z2)).set 0 rfl 2 (.int .i64 Z0)
         have hob := hS7.own 5 rfl
         gi_wp2_with (((with_reducible refine wpListIn_pushL (y := (⟨x.1, Z2, Z0, Z0⟩ : CrM)) 5 E_crs wU wU (hS7) wU cCrO ⟨rfl, rfl⟩ (by first | with_unfolding_all rfl | simp) wU (by first | omega | (simp; omega)) (by first | omega | (simp; omega)) ?_); intro v7 w7 hP hg7 _); obtain ⟨a7, c7, rfl, _⟩ := hP.slice 5 rfl; have hlb7 := hP.cell 4 rfl 0 rfl; have hlf7 := hP.frozen 4 rfl 0)
         have hP2 := hP.set 4 rfl 0 (.slice a7 (A ++ [(⟨x.1, Z2, Z0, Z0⟩ : CrM)]).length c7)
         have eL : (A ++ [(⟨x.1, Z2, Z0, Z0⟩ : CrM)]).length = A.length + 1 := by simp
         rw [eL] at hP2
         refine ⟨?_, by simp [intOf]⟩
         repeat apply Exists.intro
         refine ⟨?_, rfl⟩
         refine ⟨2, .slice a7 (A.length + 1) c7, by omega, rfl, hko.trans ((KeepsOthers.alloc _ _).trans (ko4.trans ((KeepsOthers.alloc _ _).trans (ko6.trans ((KeepsOthers.setCell _ _ _).trans ((KeepsOthers.setCell _ _ _).trans ((KeepsOthers.setCell _ _ _).trans ((KeepsOthers.of_grownBy hg7 fun j o ej hj => ?_).trans (KeepsOthers.setCell _ _ _))))))))), ?_⟩
         ·obtain ⟨o', h1, h2⟩ := own_isCells hob ej
          have h3 := hj.symm.trans h1
          cases h3; exact h2
         ·rw [HST.out, HCR.out, ← List.append_assoc, ← HA.out]
          exact hP2.tail.tail
     ·have hS12 := hSq.box (.cells #[.int .i64 1, .int .i64 3] 53)
      have u0 := hS12.cell 0 rfl 0 rfl
      have u1 := hS12.cell 0 rfl 1 rfl
      have z1 := hS12.cell 1 rfl 1 rfl
      have z3 := hS12.cell 1 rfl 3 rfl
      have hst : (pairsX.take 3).filterMap (fun p => crossA m l x.1 p.1 p.2) = (pairsX.take 2).filterMap (fun p => crossA m l x.1 p.1 p.2) ++ (crossA m l x.1 1 3).toList := by
       rw [show pairsX.take 3 = pairsX.take 2 ++ [(1, 3)] from rfl, List.filterMap_append]
       congr 1
      have HST := hid hst
      clear hst
      cases ox : idxO l (slotG m x.1 1) with
      | none =>
       have hz : Z1 = -1 := by rw [HZ1.out, ox]; rfl
       have hcr : crossA m l x.1 1 3 = none := by unfold crossA; rw [ox]
       have HCR := hid hcr
       subst hz
       clear ox hcr
       gi_wp2
       refine wpIn_region_quietR kR hmx kR ?_
       refine wpQIn_val (.pointer (some ⟨wr.heap.size, 0, none⟩)) rfl (fun _ => rfl) (fun w' => by go_simp) ?_
       go_frame
       refine wpQIn_load F_int wU u0 ?_
       go_frame
       refine wpQIn_val (.pointer (some ⟨W.heap.size, 1, none⟩)) rfl (fun _ => rfl) (fun w' => by go_simp) ?_
       go_frame
       refine wpQIn_load F_int wU z1 ?_
       go_frame
       refine wpQIn_val (.pointer (some ⟨wr.heap.size, 1, none⟩)) rfl (fun _ => rfl) (fun w' => by go_simp) ?_
       go_frame
       refine wpQIn_load F_int wU u1 ?_
       go_frame
       refine wpQIn_val (.pointer (some ⟨W.heap.size, 3, none⟩)) rfl (fun _ => rfl) (fun w' => by go_simp) ?_
       go_frame
       refine wpQIn_load F_int wU z3 ?_
       go_frame
       refine wpQIn_val (.int .i64 (-1)) rfl (fun _ => rfl) (fun w' => by go_simp) ?_
       go_frame
       refine wpQIn_val (.int .i64 Z3) rfl (fun _ => rfl) (fun w' => by go_simp) ?_
       go_frame
       refine wpQuietIn_nil ?_
       intro w4 hw4
       have b4 := below_drewN hw4
       have ko4 := KeepsOthers.of_grownBy (grown_of_below b4) (fun j o e => by cases e)
       have hS4 := hS12.mono b4
       clear hw4 u0 u1 z1 z3
       gi_wp2
       go_roundw
       case rel => exact ⟨3, lw, by omega, rfl, hko.trans ((KeepsOthers.alloc _ _).trans ko4), by rw [HST.out, HCR.out, ← List.append_assoc, ← HA.out]; simpa using hS4.tail⟩
       case measure => simp [intOf]
      | some a =>
       have ha0 := (idxO_some ox).1
       have hz : Z1 = a := by rw [HZ1.out, ox]; rfl
       subst hz
       have dX : decide (Z1 < 0) = false := decide_eq_false (by omega)
       cases oy : idxO l (slotG m x.1 3) with
       | none =>
        have hz2 : Z3 = -1 := by rw [HZ3.out, oy]; rfl
        have hcr : crossA m l x.1 1 3 = none := by unfold crossA; rw [ox, oy]
        have HCR := hid hcr
        subst hz2
        clear ox oy hcr
        gi_wp2
        refine wpIn_region_quietR kR hmx kR ?_
        refine wpQIn_val (.pointer (some ⟨wr.heap.size, 0, none⟩)) rfl (fun _ => rfl) (fun w' => by go_simp) ?_
        go_frame
        refine wpQIn_load F_int wU u0 ?_
        go_frame
        refine wpQIn_val (.pointer (some ⟨W.heap.size, 1, none⟩)) rfl (fun _ => rfl) (fun w' => by go_simp) ?_
        go_frame
        refine wpQIn_load F_int wU z1 ?_
        go_frame
        refine wpQIn_val (.pointer (some ⟨wr.heap.size, 1, none⟩)) rfl (fun _ => rfl) (fun w' => by go_simp) ?_
        go_frame
        refine wpQIn_load F_int wU u1 ?_
        go_frame
        refine wpQIn_val (.pointer (some ⟨W.heap.size, 3, none⟩)) rfl (fun _ => rfl) (fun w' => by go_simp) ?_
        go_frame
        refine wpQIn_load F_int wU z3 ?_
        go_frame
        refine wpQIn_val (.int .i64 Z1) rfl (fun _ => rfl) (fun w' => by go_simp) ?_
        go_frame
        refine wpQIn_val (.int .i64 (-1)) rfl (fun _ => rfl) (fun w' => by go_simp) ?_
        go_frame
        refine wpQuietIn_nil ?_
        intro w4 hw4
        have b4 := below_drewN hw4
        have ko4 := KeepsOthers.of_grownBy (grown_of_below b4) (fun j o e => by cases e)
        have hS4 := hS12.mono b4
        clear hw4 u0 u1 z1 z3
        gi_wp2
        go_roundw
        case rel => exact ⟨3, lw, by omega, rfl, hko.trans ((KeepsOthers.alloc _ _).trans ko4), by rw [HST.out, HCR.out, ← List.append_assoc, ← HA.out]; simpa using hS4.tail⟩
        case measure => simp [intOf]
       | some c =>
        have hb0 := (idxO_some oy).1
        have hz2 : Z3 = c := by rw [HZ3.out, oy]; rfl
        subst hz2
        have dY : decide (Z3 < 0) = false := decide_eq_false (by omega)
        have hcr : crossA m l x.1 1 3 = some (if fwdM m x.1 then ⟨x.1, Z3, Z1, Z1⟩ else ⟨x.1, Z1, Z3, Z1⟩) := by unfold crossA; rw [ox, oy]
        have CF := HF.out
        clear ox oy
        cases hf : fwdM m x.1
        ·rw [hf] at CF hcr
         have HFF := hid CF; have HCR := hid hcr
         clear CF hf hcr
         gi_wp2
         refine wpIn_region_quietR kR hmx kR ?_
         refine wpQIn_val (.pointer (some ⟨wr.heap.size, 0, none⟩)) rfl (fun _ => rfl) (fun w' => by go_simp) ?_
         go_frame
         refine wpQIn_load F_int wU u0 ?_
         go_frame
         refine wpQIn_val (.pointer (some ⟨W.heap.size, 1, none⟩)) rfl (fun _ => rfl) (fun w' => by go_simp) ?_
         go_frame
         refine wpQIn_load F_int wU z1 ?_
         go_frame
         refine wpQIn_val (.pointer (some ⟨wr.heap.size, 1, none⟩)) rfl (fun _ => rfl) (fun w' => by go_simp) ?_
         go_frame
         refine wpQIn_load F_int wU u1 ?_
         go_frame
         refine wpQIn_val (.pointer (some ⟨W.heap.size, 3, none⟩)) rfl (fun _ => rfl) (fun w' => by go_simp) ?_
         go_frame
         refine wpQIn_load F_int wU z3 ?_
         go_frame
         refine wpQIn_val (.int .i64 Z1) rfl (fun _ => rfl) (fun w' => by go_simp) ?_
         go_frame
         refine wpQIn_val (.int .i64 Z3) rfl (fun _ => rfl) (fun w' => by go_simp) ?_
         go_frame
         refine wpQuietIn_nil ?_
         intro w4 hw4
         have b4 := below_drewN hw4
         have ko4 := KeepsOthers.of_grownBy (grown_of_below b4) (fun j o e => by cases e)
         have hS4 := hS12.mono b4
         have hS5 := hS4.box (.cells #[.int .i64 x.1, .int .i64 Z1, .int .i64 Z3, .int .i64 Z1] 104)
         have m0 := hS5.cell 7 rfl 0 rfl
         have m1 := hS5.cell 7 rfl 1 rfl
         have m2 := hS5.cell 7 rfl 2 rfl
         have m3 := hS5.cell 7 rfl 3 rfl
         clear hw4 u0 u1 z1 z3
         gi_wp2
         refine ⟨trivial, (callsIn_wide.2 (HFF.out _)).mono ?_⟩
         rintro e w6 ⟨rfl, b6⟩
         have hS6 := hS5.mono b6
         have ko6 := KeepsOthers.of_grownBy (grown_of_below b6) (fun j o e => by cases e)
         clear m0 m1 m2 m3
         have c0 := hS6.cell 0 rfl 0 rfl
         have c1 := hS6.cell 0 rfl 1 rfl
         have c2 := hS6.cell 0 rfl 2 rfl
         have c3 := hS6.cell 0 rfl 3 rfl
         have hlb := hS6.cell 4 rfl 0 rfl
         have hlf := hS6.frozen 4 rfl 0
         have hob := hS6.own 5 rfl
         gi_wp2_with (((with_reducible refine wpListIn_pushL (y := (⟨x.1, Z1, Z3, Z1⟩ : CrM)) 5 E_crs wU wU (hS6) wU cCrO ⟨rfl, rfl⟩ (by first | with_unfolding_all rfl | simp) wU (by first | omega | (simp; omega)) (by first | omega | (simp; omega)) ?_); intro v7 w7 hP hg7 _); obtain ⟨a7, c7, rfl, _⟩ := hP.slice 5 rfl; have hlb7 := hP.cell 4 rfl 0 rfl; have hlf7 := hP.frozen 4 rfl 0)
         have hP2 := hP.set 4 rfl 0 (.slice a7 (A ++ [(⟨x.1, Z1, Z3, Z1⟩ : CrM)]).length c7)
         have eL : (A ++ [(⟨x.1, Z1, Z3, Z1⟩ : CrM)]).length = A.length + 1 := by simp
         rw [eL] at hP2
         refine ⟨?_, by simp [intOf]⟩
         repeat apply Exists.intro
         refine ⟨?_, rfl⟩
         refine ⟨3, .slice a7 (A.length + 1) c7, by omega, rfl, hko.trans ((KeepsOthers.alloc _ _).trans (ko4.trans ((KeepsOthers.alloc _ _).trans (ko6.trans ((KeepsOthers.of_grownBy hg7 fun j o ej hj => ?_).trans (KeepsOthers.setCell _ _ _)))))), ?_⟩
         ·obtain ⟨o', h1, h2⟩ := own_isCells hob ej
          have h3 := hj.symm.trans h1
          cases h3; exact h2
         ·rw [HST.out, HCR.out, ← List.append_assoc, ← HA.out]
          exact hP2.tail.tail
        ·rw [hf] at CF hcr
         have HFF := hid CF; have HCR := hid hcr
         clear CF hf hcr
         gi_wp2
         refine wpIn_region_quietR kR hmx kR ?_
         refine wpQIn_val (.pointer (some ⟨wr.heap.size, 0, none⟩)) rfl (fun _ => rfl) (fun w' => by go_simp) ?_
         go_frame
         refine wpQIn_load F_int wU u0 ?_
         go_frame
         refine wpQIn_val (.pointer (some ⟨W.heap.size, 1, none⟩)) rfl (fun _ => rfl) (fun w' => by go_simp) ?_
         go_frame
         refine wpQIn_load F_int wU z1 ?_
         go_frame
         refine wpQIn_val (.pointer (some ⟨wr.heap.size, 1, none⟩)) rfl (fun _ => rfl) (fun w' => by go_simp) ?_
         go_frame
         refine wpQIn_load F_int wU u1 ?_
         go_frame
         refine wpQIn_val (.pointer (some ⟨W.heap.size, 3, none⟩)) rfl (fun _ => rfl) (fun w' => by go_simp) ?_
         go_frame
         refine wpQIn_load F_int wU z3 ?_
         go_frame
         refine wpQIn_val (.int .i64 Z1) rfl (fun _ => rfl) (fun w' => by go_simp) ?_
         go_frame
         refine wpQIn_val (.int .i64 Z3) rfl (fun _ => rfl) (fun w' => by go_simp) ?_
         go_frame
         refine wpQuietIn_nil ?_
         intro w4 hw4
         have b4 := below_drewN hw4
         have ko4 := KeepsOthers.of_grownBy (grown_of_below b4) (fun j o e => by cases e)
         have hS4 := hS12.mono b4
         have hS5 := hS4.box (.cells #[.int .i64 x.1, .int .i64 Z1, .int .i64 Z3, .int .i64 Z1] 104)
         have m0 := hS5.cell 7 rfl 0 rfl
         have m1 := hS5.cell 7 rfl 1 rfl
         have m2 := hS5.cell 7 rfl 2 rfl
         have m3 := hS5.cell 7 rfl 3 rfl
         clear hw4 u0 u1 z1 z3
         gi_wp2
         refine ⟨trivial, (callsIn_wide.2 (HFF.out _)).mono ?_⟩
         rintro e w6 ⟨rfl, b6⟩
         have hS6 := hS5.mono b6
         have ko6 := KeepsOthers.of_grownBy (grown_of_below b6) (fun j o e => by cases e)
         clear m0 m1 m2 m3
         have f0 := hS6.frozen 0 rfl 0
         have f1 := hS6.frozen 0 rfl 1
         have f2 := hS6.frozen 0 rfl 2
         have c0 := hS6.cell 0 rfl 0 rfl
         have c1 := hS6.cell 0 rfl 1 rfl
         have c2 := hS6.cell 0 rfl 2 rfl
         have c3 := hS6.cell 0 rfl 3 rfl
         have hlb := hS6.cell 4 rfl 0 rfl
         have hne : ¬ w.heap.size + 1 + 1 = w4.heap.size := by have := (hS4.blk 3 rfl).2.2; omega
         have hS7 := ((hS6.set 0 rfl 0 (.int .i64 x.1)).set 0 rfl 1 (.int .i64 Z3)).set 0 rfl 2 (.int .i64 Z1)
         have hob := hS7.own 5 rfl
         gi_wp2_with (((with_reducible refine wpListIn_pushL (y := (⟨x.1, Z3, Z1, Z1⟩ : CrM)) 5 E_crs wU wU (hS7) wU cCrO ⟨rfl, rfl⟩ (by first | with_unfolding_all rfl | simp) wU (by first | omega | (simp; omega)) (by first | omega | (simp; omega)) ?_); intro v7 w7 hP hg7 _); obtain ⟨a7, c7, rfl, _⟩ := hP.slice 5 rfl; have hlb7 := hP.cell 4 rfl 0 rfl; have hlf7 := hP.frozen 4 rfl 0)
         have hP2 := hP.set 4 rfl 0 (.slice a7 (A ++ [(⟨x.1, Z3, Z1, Z1⟩ : CrM)]).length c7)
         have eL : (A ++ [(⟨x.1, Z3, Z1, Z1⟩ : CrM)]).length = A.length + 1 := by simp
         rw [eL] at hP2
         refine ⟨?_, by simp [intOf]⟩
         repeat apply Exists.intro
         refine ⟨?_, rfl⟩
         refine ⟨3, .slice a7 (A.length + 1) c7, by omega, rfl, hko.trans ((KeepsOthers.alloc _ _).trans (ko4.trans ((KeepsOthers.alloc _ _).trans (ko6.trans ((KeepsOthers.setCell _ _ _).trans ((KeepsOthers.setCell _ _ _).trans ((KeepsOthers.setCell _ _ _).trans ((KeepsOthers.of_grownBy hg7 fun j o ej hj => ?_).trans (KeepsOthers.setCell _ _ _))))))))), ?_⟩
         ·obtain ⟨o', h1, h2⟩ := own_isCells hob ej
          have h3 := hj.symm.trans h1
          cases h3; exact h2
         ·rw [HST.out, HCR.out, ← List.append_assoc, ← HA.out]
          exact hP2.tail.tail
     ·have hbq := (hSq.blk 1 rfl).1
      gi_wp2
      refine ⟨hko.from _, ?_, ?_⟩
      ·show _ = _
       rw [hbq, hbm]
      ·refine ⟨by rw [List.length_append]; exact hlt, lw, ?_⟩
       rw [HFIN.out, ← HA.out]
       exact hSq.tail
 case done =>
  rintro D ys W hD hys ⟨hpl, lv, hs0⟩ hK
  have hs := hs0.addMark (C := w.heap.size + 1 + 1 + 1 + 1) (HOK.out _ _) (by omega) (by simpa using hD) hK
  clear hs0
  have hc := hs.cell 2 rfl 0 rfl
  have hfin : (ys.flatMap fun x => crossG m l x.1) = crossM m l := by
   unfold crossM
   rw [HGL.out, ← hys, List.flatMap_map]
  rw [hfin] at hs
  clear hys hfin
  dsimp only
  go_wp2_with fail
  refine SL.leave (L := [_, _, _, _, _]) (fun V hV => ⟨lv, ?_, _, rfl, hV.own 2 rfl, hV.b⟩) [D] W hs
  simp [results, Tryz.f65, go_sem]
 case stop =>
  rintro D c pre W _ _ h _
  exact h.elim
end Go.Proofs.YtndmeaoidihikaaGreatDoor

namespace Go.Proofs.YtndmeaoidihikaaGreatDoor
open Go.RowKit
set_option maxHeartbeats 8000000
set_option maxRecDepth 100000

/-- steps, place and error of the first meeting. -/
noncomputable def meet3 (m : MacV) (l : List Int) : Nat × Int × Int := if loadE m l ≠ 0 then (0, 0, loadE m l) else match firstM m l with
 | none => (0, 0, 7)
 | some x => (x.1, x.2, 0)
noncomputable def accE (m : MacV) (l : List Int) : Int := if loadE m l ≠ 0 then loadE m l else if (firstM m l).isSome then 16 else 0

theorem mMeet_any (m : MacV) (ad : Option Addr) (cap : Nat) (al : Option Addr) (cl : Nat) (l : List Int) (w : World) (hR : Ints w ad cap m.sw) (hL : Ints w al cl l) (HK : ChkL m ad cap al cl l) :
  Calls Tryz.prog 18 #[mV m ad cap, .slice al l.length cl] w fun r w' => r = .returned (.tuple #[.int .i64 (meet3 m l).1, .int .i64 (meet3 m l).2.1, .int .i64 (meet3 m l).2.2]) ∧ Below w.heap.size w w' := by
 have hS := (SL.nil w).box (.cells (mC m ad cap) 24)
 have R1 := hR.below hS.b
 have L1 := hL.below hS.b
 unfold ChkL at HK
 by_cases he : loadE m l = 0
 ·have hok := loadE_zero he
  have CF := fun w h h2 => firstB_any m ad al cap cl l w h h2 hok.ok.hi hok.rng
  have hv : meet3 m l = match firstM m l with | none => (0, 0, 7) | some x => (x.1, x.2, 0) := by unfold meet3; rw [if_neg (by simp [he])]
  rw [hv]
  rw [he] at HK
  have HC := hid HK
  clear hv HK he hok
  cases hf : firstM m l with
  | none =>
   rw [hf] at CF
   have HF := hid CF
   clear CF hf
   go_enter Tryz.func18, Tryz.ntmps18
   go_wp2_with fail
   refine (HC.out _ R1 L1).mono ?_
   rintro e w1 ⟨rfl, b1⟩
   have hS1 := hS.mono b1
   have q1 := (hS1.blk 0 rfl).1
   go_wp2_with (with_reducible refine wpList_ldS (n := 4) (us := mC m ad cap) A_mach kR wU wU (by assumption) wU wU ?_)
   refine (HF.out _ (hR.below hS1.b) (hL.below hS1.b)).mono ?_
   rintro e w2 ⟨rfl, b2⟩
   have hS2 := (hS1.mono b2).box (.cells #[.int .i64 0, .int .i64 0] 89)
   clear q1
   go_wp2_with ((with_reducible refine wpList_stoR (us := #[.int .i64 0, .int .i64 0]) 0 wU wU (hS2) wU kR wU wU ?_); intro w3 hS3)
   have q3 := (hS3.blk 0 rfl).1
   refine wp_region_q kR kR ?_
   repeat (first | ((with_reducible refine wpB_load F_int wU wU (by assumption) wU ?_); (try simp only [Act.put, pA, pB, pC])) | ((with_reducible refine wpB_when wU wU wU ?_); (try simp only [Act.put, pA, pB, pC])) | ((with_reducible refine wpQ_skip wU ?_); (try simp only [Act.put, pA, pB, pC])) |  ((with_reducible refine wpB_load (by first | exact F_int | exact F_u64s) wU wU (by assumption) wU ?_); (try simp only [Act.put, pA, pB, pC])) | ((refine wpQ_oneG ?_ wU (fun w' => ?_) ?_); rotate_left; (go_simp; rfl); (try simp only [Act.put, pA, pB, pC])))
   refine wpQuiet_nil ?_
   intro w4 hb4
   go_wp2_with fail
   go_ret3
   exact ⟨rfl, bnext hS3.b hb4⟩
  | some v =>
   rw [hf] at CF
   have HF := hid CF
   clear CF hf
   go_enter Tryz.func18, Tryz.ntmps18
   go_wp2_with fail
   refine (HC.out _ R1 L1).mono ?_
   rintro e w1 ⟨rfl, b1⟩
   have hS1 := hS.mono b1
   have q1 := (hS1.blk 0 rfl).1
   go_wp2_with (with_reducible refine wpList_ldS (n := 4) (us := mC m ad cap) A_mach kR wU wU (by assumption) wU wU ?_)
   refine (HF.out _ (hR.below hS1.b) (hL.below hS1.b)).mono ?_
   rintro e w2 ⟨rfl, b2⟩
   have hS2 := (hS1.mono b2).box (.cells #[.int .i64 0, .int .i64 0] 89)
   clear q1
   go_wp2_with ((with_reducible refine wpList_stoR (us := meC v) 0 wU wU (hS2) wU kR wU wU ?_); intro w3 hS3)
   have q3 := (hS3.blk 0 rfl).1
   refine wp_region_q kR kR ?_
   repeat (first | ((with_reducible refine wpB_load F_int wU wU (by assumption) wU ?_); (try simp only [Act.put, pA, pB, pC])) | ((with_reducible refine wpB_when wU wU wU ?_); (try simp only [Act.put, pA, pB, pC])) | ((with_reducible refine wpQ_skip wU ?_); (try simp only [Act.put, pA, pB, pC])) |  ((with_reducible refine wpB_load (by first | exact F_int | exact F_u64s) wU wU (by assumption) wU ?_); (try simp only [Act.put, pA, pB, pC])) | ((refine wpQ_oneG ?_ wU (fun w' => ?_) ?_); rotate_left; (go_simp; rfl); (try simp only [Act.put, pA, pB, pC])))
   refine wpQuiet_nil ?_
   intro w4 hb4
   go_wp2_with fail
   go_ret3
   exact ⟨rfl, bnext hS3.b hb4⟩
 ·obtain ⟨E, hE⟩ : ∃ E, E = loadE m l := ⟨_, rfl⟩
  have hv : meet3 m l = (0, 0, E) := by unfold meet3; rw [if_pos he, hE]
  rw [← hE] at HK he
  have hne : (E != 0) = true := by simpa using he
  rw [hv]
  have HC := hid HK
  clear hv hE HK
  go_enter Tryz.func18, Tryz.ntmps18
  go_wp2_with fail
  refine (HC.out _ R1 L1).mono ?_
  rintro e w1 ⟨rfl, b1⟩
  have hS1 := hS.mono b1
  go_wp2_with fail
  go_ret3
  exact ⟨rfl, hS1.b⟩

theorem mAccept_any (m : MacV) (ad : Option Addr) (cap : Nat) (al : Option Addr) (cl : Nat) (l : List Int) (w : World) (hR : Ints w ad cap m.sw) (hL : Ints w al cl l) (HK : ChkL m ad cap al cl l) :
  Calls Tryz.prog 19 #[mV m ad cap, .slice al l.length cl] w fun r w' => r = .returned (.int .i64 (accE m l)) ∧ Below w.heap.size w w' := by
 have hS := (SL.nil w).box (.cells (mC m ad cap) 24)
 have R1 := hR.below hS.b
 have L1 := hL.below hS.b
 unfold ChkL at HK
 by_cases he : loadE m l = 0
 ·have hok := loadE_zero he
  have CF := fun w h h2 => firstB_any m ad al cap cl l w h h2 hok.ok.hi hok.rng
  have hv : accE m l = if (firstM m l).isSome then 16 else 0 := by unfold accE; rw [if_neg (by simp [he])]
  rw [hv]
  rw [he] at HK
  have HC := hid HK
  clear hv HK he hok
  cases hf : firstM m l with
  | none =>
   rw [hf] at CF
   have HF := hid CF
   clear CF hf
   go_enter Tryz.func19, Tryz.ntmps19
   go_wp2_with fail
   refine (HC.out _ R1 L1).mono ?_
   rintro e w1 ⟨rfl, b1⟩
   have hS1 := hS.mono b1
   have q1 := (hS1.blk 0 rfl).1
   go_wp2_with (with_reducible refine wpList_ldS (n := 4) (us := mC m ad cap) A_mach kR wU wU (by assumption) wU wU ?_)
   refine (HF.out _ (hR.below hS1.b) (hL.below hS1.b)).mono ?_
   rintro e w2 ⟨rfl, b2⟩
   have hS2 := (hS1.mono b2).box (.cells #[.int .i64 0, .int .i64 0] 89)
   clear q1
   go_wp2_with (first | ((with_reducible refine wpList_stoR (us := #[.int .i64 0, .int .i64 0]) 0 wU wU (hS2) wU kR wU wU ?_); intro w3 hS3) | (go_at_call 55; refine (mwhen_any _ _ _).mono ?_; rintro e w' ⟨rfl, rfl⟩))
   go_ret
   exact ⟨rfl, hS3.b⟩
  | some v =>
   rw [hf] at CF
   have HF := hid CF
   clear CF hf
   go_enter Tryz.func19, Tryz.ntmps19
   go_wp2_with fail
   refine (HC.out _ R1 L1).mono ?_
   rintro e w1 ⟨rfl, b1⟩
   have hS1 := hS.mono b1
   have q1 := (hS1.blk 0 rfl).1
   go_wp2_with (with_reducible refine wpList_ldS (n := 4) (us := mC m ad cap) A_mach kR wU wU (by assumption) wU wU ?_)
   refine (HF.out _ (hR.below hS1.b) (hL.below hS1.b)).mono ?_
   rintro e w2 ⟨rfl, b2⟩
   have hS2 := (hS1.mono b2).box (.cells #[.int .i64 0, .int .i64 0] 89)
   clear q1
   go_wp2_with (first | ((with_reducible refine wpList_stoR (us := meC v) 0 wU wU (hS2) wU kR wU wU ?_); intro w3 hS3) | (go_at_call 55; refine (mwhen_any _ _ _).mono ?_; rintro e w' ⟨rfl, rfl⟩))
   go_ret
   exact ⟨rfl, hS3.b⟩
 ·obtain ⟨E, hE⟩ : ∃ E, E = loadE m l := ⟨_, rfl⟩
  have hv : accE m l = E := by unfold accE; rw [if_pos he, hE]
  rw [← hE] at HK he
  have hne : (E != 0) = true := by simpa using he
  rw [hv]
  have HC := hid HK
  clear hv hE HK
  go_enter Tryz.func19, Tryz.ntmps19
  go_wp2_with fail
  refine (HC.out _ R1 L1).mono ?_
  rintro e w1 ⟨rfl, b1⟩
  have hS1 := hS.mono b1
  go_wp2_with fail
  go_ret
  exact ⟨rfl, hS1.b⟩
end Go.Proofs.YtndmeaoidihikaaGreatDoor

namespace Go.Proofs.YtndmeaoidihikaaGreatDoor
open Go.RowKit
set_option maxHeartbeats 8000000
set_option maxRecDepth 100000

/-- one more carrier in a slot meets none, and is in the slot of none. -/
noncomputable def hurtM (m : MacV) (s b : Int) : Bool := decide (b = s) || (meetM m s b).isSome
noncomputable def apartM (m : MacV) (s : Int) (l : List Int) : Bool := !l.any (hurtM m s)

theorem apart1_any (m : MacV) (ad : Option Addr) (cap : Nat) (bs bm : Nat) (s b : Int) (w : World) (hm : w.heap[bm]? = some (.cells (mC m ad cap) 24)) (hs : w.heap[bs]? = some (.cells #[.int .i64 s] 3)) (hR : Ints w ad cap m.sw) (hg : m.gears ≤ 16) (s0 : 0 ≤ s) (s1 : s < 4 * m.gears) (b0 : 0 ≤ b) (b1 : b < 4 * m.gears) :
  Calls Tryz.prog 108 #[.int .i64 b, .pointer (some ⟨bs, 0, none⟩), .pointer (some ⟨bm, 0, none⟩)] w fun r w' => r = .returned (.bool (hurtM m s b)) ∧ Below w.heap.size w w' := by
 have CM := fun w h => meet_any m ad cap s b w h hg s0 s1 b0 b1
 have hh : hurtM m s b = (decide (b = s) || (meetM m s b).isSome) := rfl
 rw [hh]
 clear hh
 have S0 := SL.nil w
 by_cases e : b = s
 ·have d1 : (b == s) = true := by simpa using e
  have d2 : decide (b = s) = true := decide_eq_true e
  rw [d2]
  clear e CM d2
  go_enter Tryz.func108, Tryz.ntmps108
  go_wp2_with (with_reducible refine wpList_ldB F_int wU wU hs wU ?_)
  go_ret
  exact ⟨rfl, Below.refl _ _⟩
 ·have d1 : (b == s) = false := by simpa using e
  have d2 : decide (b = s) = false := decide_eq_false e
  rw [d2, Bool.false_or]
  clear e d2
  cases hf : meetM m s b with
  | none =>
   rw [hf] at CM
   have HM := hid CM
   clear CM hf
   go_enter Tryz.func108, Tryz.ntmps108
   go_wp2_with (first | (with_reducible refine wpList_ldB F_int wU wU hs wU ?_) | (with_reducible refine wpList_ldS (n := 4) (us := mC m ad cap) A_mach kR wU wU (by assumption) wU wU ?_))
   refine (HM.out _ hR).mono ?_
   rintro e w1 ⟨rfl, b1⟩
   have hS1 := (S0.mono b1).box (.cells #[.int .i64 0, .int .i64 0] 89)
   go_wp2_with ((with_reducible refine wpList_stoR (us := #[.int .i64 0, .int .i64 0]) 0 wU wU (hS1) wU kR wU wU ?_); intro w3 hS3)
   go_ret
   exact ⟨rfl, hS3.b⟩
  | some v =>
   rw [hf] at CM
   have HM := hid CM
   clear CM hf
   go_enter Tryz.func108, Tryz.ntmps108
   go_wp2_with (first | (with_reducible refine wpList_ldB F_int wU wU hs wU ?_) | (with_reducible refine wpList_ldS (n := 4) (us := mC m ad cap) A_mach kR wU wU (by assumption) wU wU ?_))
   refine (HM.out _ hR).mono ?_
   rintro e w1 ⟨rfl, b1⟩
   have hS1 := (S0.mono b1).box (.cells #[.int .i64 0, .int .i64 0] 89)
   go_wp2_with ((with_reducible refine wpList_stoR (us := meC v) 0 wU wU (hS1) wU kR wU wU ?_); intro w3 hS3)
   go_ret
   exact ⟨rfl, hS3.b⟩

/-- slices.IndexFunc with a function of the program. -/
theorem indexF_any (p1 p2 : Value) (g : Int → Bool) (al : Option Addr) (cl : Nat) (l : List Int) (w : World) (hL : Ints w al cl l)
  (HF : ∀ x ∈ l, ∀ w', Below w.heap.size w w' → Calls Tryz.prog 108 #[.int .i64 x, p1, p2] w' fun r w'' => r = .returned (.bool (g x)) ∧ Below w'.heap.size w' w'') :
  Calls Tryz.prog 137 #[.slice al l.length cl, .func (.func 108) #[] #[p1, p2]] w fun r w' => ∃ z : Int, r = .returned (.int .i64 z) ∧ decide (0 ≤ z) = l.any g ∧ Below w.heap.size w w' := by
 have hcap := hL.le
 have hmx := hL.max
 have H := hid HF
 clear HF
 have hS := SL.nil w
 go_enter Tryz.func137, Tryz.ntmps137
 go_wp2_with fail
 go_loopw [8] (fun i wr => ∃ k : Nat, k ≤ l.length ∧ i = .int .i64 k ∧ (l.take k).any g = false ∧ SL w.heap.size w wr []) (fun i _ => l.length - (intOf i).toNat)
 case atStart => exact ⟨0, by omega, rfl, rfl, hS⟩
 case round =>
  clear hS
  obtain ⟨k, hk, rfl, hno, hSr⟩ := hrel
  have hLr := hL.below hSr.b
  by_cases hlt : k < l.length
  ·have hmem := atD_mem hlt
   have ht := take_snoc hlt
   obtain ⟨x, hx⟩ : ∃ x, x = atD 0 l k := ⟨_, rfl⟩
   rw [← hx] at hmem ht
   have HX := hid hx; have HT := hid ht; have HNO := hid hno
   have C := fun w' h => H.out x hmem w' h
   clear hx ht hno
   cases hgx : g x
   ·rw [hgx] at C
    have HC := hid C
    have HG := hid hgx
    clear C hgx
    go_wp2_with ((with_reducible refine wpList_idx _ 0 E_ints F_int cInt1 wU wU (hLr) oD oD (fun _ => wU) (fun _ => ?_)); rw [← HX.out])
    refine (HC.out _ hSr.b).mono ?_
    rintro e w1 ⟨rfl, b1⟩
    have hS1 := hSr.mono b1
    go_wp2_with fail
    exact ⟨⟨k + 1, by omega, by go_num, by rw [HT.out, List.any_append, HNO.out]; simp [HG.out], hS1⟩, by simp [intOf]; omega⟩
   ·rw [hgx] at C
    have HC := hid C
    have HG := hid hgx
    clear C hgx
    go_wp2_with ((with_reducible refine wpList_idx _ 0 E_ints F_int cInt1 wU wU (hLr) oD oD (fun _ => wU) (fun _ => ?_)); rw [← HX.out])
    refine (HC.out _ hSr.b).mono ?_
    rintro e w1 ⟨rfl, b1⟩
    have hS1 := hSr.mono b1
    go_wp2_with fail
    go_ret
    refine ⟨_, rfl, ?_, hS1.b⟩
    rw [List.any_eq_true.2 ⟨x, hmem, HG.out⟩]
    simp
  ·have hkk : k = l.length := by omega
   subst hkk
   rw [List.take_length] at hno
   have HNO := hid hno
   clear hno
   go_wp2_with fail
   go_ret
   exact ⟨_, rfl, by rw [HNO.out]; decide, hSr.b⟩
theorem containsF_any (p1 p2 : Value) (g : Int → Bool) (al : Option Addr) (cl : Nat) (l : List Int) (w : World) (hL : Ints w al cl l)
  (HF : ∀ x ∈ l, ∀ w', Below w.heap.size w w' → Calls Tryz.prog 108 #[.int .i64 x, p1, p2] w' fun r w'' => r = .returned (.bool (g x)) ∧ Below w'.heap.size w' w'') :
  Calls Tryz.prog 107 #[.slice al l.length cl, .func (.func 108) #[] #[p1, p2]] w fun r w' => r = .returned (.bool (l.any g)) ∧ Below w.heap.size w w' := by
 have HI := hid (indexF_any p1 p2 g al cl l w hL HF)
 clear HF
 go_enter Tryz.func107, Tryz.ntmps107
 go_wp2_with fail
 refine HI.out.mono ?_
 rintro e w1 ⟨z, rfl, hz, b1⟩
 have HZ := hid hz
 clear hz
 go_wp2_with fail
 go_ret
 exact ⟨by rw [← HZ.out]; rfl, b1⟩
theorem apart_any (m : MacV) (ad : Option Addr) (cap : Nat) (al : Option Addr) (cl : Nat) (s : Int) (l : List Int) (w : World) (hR : Ints w ad cap m.sw) (hL : Ints w al cl l) (hg : m.gears ≤ 16) (s0 : 0 ≤ s) (s1 : s < 4 * m.gears) (hl : ∀ x ∈ l, 0 ≤ x ∧ x < 4 * m.gears) :
  Calls Tryz.prog 73 #[mV m ad cap, .int .i64 s, .slice al l.length cl] w fun r w' => r = .returned (.bool (apartM m s l)) ∧ Below w.heap.size w w' := by
 have hS := ((SL.nil w).box (.cells (mC m ad cap) 24)).box (.cells #[.int .i64 s] 3)
 simp only [World.size_alloc] at hS
 have q1 := (hS.blk 1 rfl).1
 have q0 := (hS.blk 0 rfl).1
 have hb : apartM m s l = !l.any (hurtM m s) := rfl
 rw [hb]
 clear hb
 go_enter Tryz.func73, Tryz.ntmps73
 go_wp2_with fail
 refine (containsF_any _ _ (hurtM m s) al cl l _ (hL.below hS.b) (fun x hx w' hw' => ?_)).mono ?_
 ·refine apart1_any m ad cap _ _ s x w' ?_ ?_ ((hR.below hS.b).below hw') hg s0 s1 (hl x hx).1 (hl x hx).2
  ·exact (hw'.block _ (hS.blk 1 rfl).2.2).trans q1
  ·exact (hw'.block _ (hS.blk 0 rfl).2.2).trans q0
 rintro e w1 ⟨rfl, b1⟩
 go_wp2_with fail
 go_ret
 exact ⟨rfl, bnext hS.b b1⟩

def slotsL (m : MacV) : List Int := (List.range (4 * m.gears).toNat).map fun (i : Nat) => (i : Int)
theorem slotsL_len (m : MacV) : (slotsL m).length = (4 * m.gears).toNat := by simp [slotsL]
theorem slotsL_take (m : MacV) {k : Nat} (h : k < (slotsL m).length) : (slotsL m).take (k + 1) = (slotsL m).take k ++ [(k : Int)] := by
 rw [List.take_succ_eq_append_getElem h]
 simp [slotsL]
noncomputable def freeM (m : MacV) (l : List Int) : List Int := (slotsL m).filter fun s => apartM m s l
theorem accE_zero {m : MacV} {l : List Int} (h : accE m l = 0) : LoadOk m l ∧ firstM m l = none := by
 unfold accE at h
 split at h
 ·rename_i h1; exact absurd h h1
 ·rename_i h1
  refine ⟨loadE_zero (by simpa using h1), ?_⟩
  cases hf : firstM m l with
  | none => rfl
  | some v => rw [hf] at h; simp at h

theorem mFree_any (m : MacV) (ad : Option Addr) (cap : Nat) (al : Option Addr) (cl : Nat) (l : List Int) (w : World) (hR : Ints w ad cap m.sw) (hL : Ints w al cl l) (HK : ChkL m ad cap al cl l) :
  Calls Tryz.prog 31 #[mV m ad cap, .slice al l.length cl] w fun r w' => ∃ v, r = .returned (.tuple #[v, .int .i64 (accE m l)]) ∧ OwnI w.heap.size w' v (if accE m l = 0 then freeM m l else []) ∧ Below w.heap.size w w' := by
 have CA := fun w h h2 => mAccept_any m ad cap al cl l w h h2 HK
 have hS := (SL.nil w).box (.cells (mC m ad cap) 24)
 have R1 := hR.below hS.b
 have L1 := hL.below hS.b
 clear HK
 by_cases he : accE m l = 0
 ·have hok := (accE_zero he).1
  have hlo := hok.ok.lo
  have hhi := hok.ok.hi
  have CS := fun w => slots_any m ad cap w (by omega) hhi
  have CP := fun (k : Nat) w h h2 (hk : (k : Int) < 4 * m.gears) => apart_any m ad cap al cl (k : Int) l w h h2 hhi (by omega) hk hok.rng
  rw [if_pos he]
  rw [he] at CA ⊢
  have hlen := slotsL_len m
  obtain ⟨n, hn⟩ : ∃ n : Nat, 4 * m.gears = n := ⟨(4 * m.gears).toNat, by omega⟩
  have hlen2 : (slotsL m).length = n := by rw [hlen]; omega
  rw [hn] at CS CP
  have hn64 : n ≤ 64 := by omega
  have HC := hid CA; have HS := hid CS; have HP := hid CP; have HLL := hid hlen2
  clear CA CS CP hok he hlen hlen2 hn
  go_enter Tryz.func31, Tryz.ntmps31
  go_wp2_with fail
  refine (HC.out _ R1 L1).mono ?_
  rintro e w1 ⟨rfl, b1⟩
  have hS1 := hS.mono b1
  have q1 := (hS1.blk 0 rfl).1
  go_wp2_with (with_reducible refine wpList_ldS (n := 4) (us := mC m ad cap) A_mach kR wU wU (by assumption) wU wU ?_)
  refine (HS.out _).mono ?_
  rintro e w2 ⟨rfl, b2⟩
  have hS2 := (hS1.mono b2).nilS (α := Int) (e := 3) cIntS
  clear q1
  go_wp2_with fail
  go_loopw [7, 17] (fun v i wr => ∃ k : Nat, k ≤ n ∧ i = .int .i64 k ∧ SL w.heap.size w wr [pOwn cInt 1 3 v (((slotsL m).take k).filter fun s => apartM m s l), pBlk w.heap.size (.cells (mC m ad cap) 24)]) (fun _ i _ => n - (intOf i).toNat)
  case atStart => exact ⟨0, by omega, rfl, hS2⟩
  case round =>
   clear hS2 hS1 hS
   obtain ⟨k, hk, rfl, hSr⟩ := hrel
   have q1 := (hSr.blk 1 rfl).1
   by_cases hlt : k < n
   ·have ht := slotsL_take m (k := k) (by rw [HLL.out]; exact hlt)
    have hle : (((slotsL m).take k).filter fun s => apartM m s l).length ≤ 64 := Nat.le_trans (List.length_filter_le _ _) (by rw [List.length_take]; omega)
    have HT := hid ht
    have C := fun w h h2 => HP.out k w h h2 (by omega)
    clear ht
    cases hap : apartM m k l
    ·rw [hap] at C
     have HA := hid hap; have HCC := hid C
     clear hap C
     go_wp2_with (with_reducible refine wpList_ldS (n := 4) (us := mC m ad cap) A_mach kR wU wU (by assumption) wU wU ?_)
     refine (HCC.out _ (hR.below hSr.b) (hL.below hSr.b)).mono ?_
     rintro e w4 ⟨rfl, b4⟩
     have hS4 := hSr.mono b4
     go_wp2_with fail
     exact ⟨⟨k + 1, by omega, by go_num, by rw [HT.out, List.filter_append]; simpa [HA.out] using hS4⟩, by simp [intOf]; omega⟩
    ·rw [hap] at C
     have HA := hid hap; have HCC := hid C
     clear hap C
     go_wp2_with (with_reducible refine wpList_ldS (n := 4) (us := mC m ad cap) A_mach kR wU wU (by assumption) wU wU ?_)
     refine (HCC.out _ (hR.below hSr.b) (hL.below hSr.b)).mono ?_
     rintro e w4 ⟨rfl, b4⟩
     have hS4 := hSr.mono b4
     go_wp2_with ((with_reducible refine wpList_pushL (y := (k : Int)) 0 E_ints wU wU (hS4) wU cIntO ⟨rfl, rfl⟩ (by first | with_unfolding_all rfl | simp) wU (by first | omega | (simp; omega)) (by first | omega | (simp; omega)) ?_); intro v5 w5 hS5)
     exact ⟨⟨k + 1, by omega, by go_num, by rw [HT.out, List.filter_append]; simpa [HA.out] using hS5⟩, by simp [intOf]; omega⟩
   ·have hkn : k = n := by omega
    subst hkn
    have et : ((slotsL m).take k).filter (fun s => apartM m s l) = freeM m l := by rw [List.take_of_length_le (by rw [HLL.out]; omega)]; rfl
    rw [et] at hSr
    clear et
    go_wp2_with fail
    go_ret2
    exact ⟨_, rfl, hSr.own 0 rfl, hSr.b⟩
 ·obtain ⟨E, hE⟩ : ∃ E, E = accE m l := ⟨_, rfl⟩
  rw [← hE] at CA he ⊢
  have hne : (E != 0) = true := by simpa using he
  rw [if_neg he]
  have HC := hid CA
  clear CA hE he
  go_enter Tryz.func31, Tryz.ntmps31
  go_wp2_with fail
  refine (HC.out _ R1 L1).mono ?_
  rintro e w1 ⟨rfl, b1⟩
  have hS1 := hS.mono b1
  go_wp2_with fail
  go_ret2
  exact ⟨_, rfl, own_nil cIntS, hS1.b⟩
end Go.Proofs.YtndmeaoidihikaaGreatDoor

namespace Go.Proofs.YtndmeaoidihikaaGreatDoor
open Go.RowKit
set_option maxHeartbeats 8000000
set_option maxRecDepth 100000

theorem SL.madeB {B : Nat} {w0 w : World} {L : List Pc} (h : SL B w0 w L) : SL B w0 (w.alloc (.map #[] 0)) (pMapB w.heap.size 0 (fun _ => false) :: L) :=
 h.new _ (b := some w.heap.size) (World.grownBy_alloc w _ .none) ⟨rfl, mapB_made w⟩ (fun k e => by cases e; exact Nat.le_refl _)
theorem orbK_len2 (p : List Int) (i : Int) (j : Nat) : (orbK p i j).length = j := by simp [orbK]

theorem mPaths_any (m : MacV) (ad : Option Addr) (cap : Nat) (w : World) (hR : Ints w ad cap m.sw) (HK : ChkM m ad cap) :
  Calls Tryz.prog 10 #[mV m ad cap] w fun r w' => ∃ (v : Value) (qs : List (SlH × List Int)), r = .returned (.tuple #[v, .int .i64 (macE m)]) ∧ qs.map Prod.snd = (if macE m = 0 then cycK (permM m) (permM m).length else []) ∧ SL w.heap.size w w' (pOwn cSl 1 22 v (qs.map Prod.fst) :: qs.map inP) := by
 have hS := (SL.nil w).box (.cells (mC m ad cap) 24)
 have R1 := hR.below hS.b
 unfold ChkM at HK
 by_cases he : macE m = 0
 ·have hok := (macE_zero he).1
  have hlo := hok.lo
  have hhi := hok.hi
  have hp := permM_isP m
  have hpl := permM_len m
  obtain ⟨N, hN⟩ : ∃ N : Nat, (permM m).length = N := ⟨_, rfl⟩
  have hN4 : 4 * m.gears = N := by omega
  have CS := fun w => slots_any m ad cap w (by omega) hhi
  rw [hN4] at CS
  have CN := fun (s : Int) (k : Nat) w (h : Ints w ad cap m.sw) (h0 : 0 ≤ s) (h1 : s < N) => mnext_any m ad cap (itM m s k) w h hhi (itM_rng h0 (by omega) k).1 (itM_rng h0 (by omega) k).2
  have CE := fun (s : Int) (k : Nat) (h0 : 0 ≤ s) (h1 : s < N) => itM_succ (m := m) h0 (by omega) k
  have hN64 : N ≤ 64 := by omega
  rw [if_pos he, hN]
  rw [he] at HK ⊢
  obtain ⟨p, hpp⟩ : ∃ p, p = permM m := ⟨_, rfl⟩
  have CI : ∀ s k, itM m s k = itP p s k := by intro s k; rw [hpp]; rfl
  rw [← hpp] at hp hN ⊢
  have hmm := @run_makeMap Tryz.prog
  have HC := hid HK; have HS := hid CS; have HN := hid CN; have HE := hid CE; have HI := hid CI
  clear HK CS CN CE CI hok he hpl hpp
  go_enter Tryz.func10, Tryz.ntmps10
  go_wp2_with fail
  refine (HC.out _ R1).mono ?_
  rintro e w1 ⟨rfl, b1⟩
  have hS1 := hS.mono b1
  have q1 := (hS1.blk 0 rfl).1
  have hS2 := (hS1.madeB).nilS (α := SlH) (c := cSl) (sz := 1) (e := 22) cSlS
  have q2 := (hS2.blk 2 rfl).1
  obtain ⟨M, hM⟩ : ∃ M, M = w1.heap.size := ⟨_, rfl⟩
  go_wp2_with (with_reducible refine wpList_ldS (n := 4) (us := mC m ad cap) A_mach kR wU wU (by assumption) wU wU ?_)
  rw [← hM] at hS2 ⊢
  clear hM
  refine (HS.out _).mono ?_
  rintro e w3 ⟨rfl, b3⟩
  have hS3 := hS2.mono b3
  clear q1 q2 hmm
  go_wp2_with fail
  go_loopw [6, 18] (fun ov i wr => ∃ (k n : Nat) (f : Int → Bool) (qs : List (SlH × List Int)), k ≤ N ∧ i = .int .i64 k ∧ n ≤ 64 * k ∧ (∀ x : Int, 0 ≤ x → x < N → f x = decide (x ∈ (cycK p k).flatten)) ∧ qs.map Prod.snd = cycK p k ∧ SL w.heap.size w wr (pOwn cSl 1 22 ov (qs.map Prod.fst) :: pMapB M n f :: pBlk w.heap.size (.cells (mC m ad cap) 24) :: qs.map inP)) (fun _ i _ => N - (intOf i).toNat)
  case atStart => exact ⟨0, 0, fun _ => false, [], by omega, rfl, by omega, fun x h0 h1 => by simp [cycK], rfl, hS3⟩
  case round =>
   clear hS3 hS1 hS2 hS
   obtain ⟨k, n, f, qs, hk, rfl, hnk, hsn, hqs, hSL⟩ := hrel
   have HSN := hid hsn; have HQ := hid hqs
   have hql : qs.length ≤ k := by have := cycK_len p k; rw [← hqs] at this; simpa using this
   have hqlen : (qs.map Prod.fst).length ≤ 64 := by simp; omega
   clear hsn hqs
   by_cases hlt : k < N
   ·have hk0 : (0 : Int) ≤ k := by omega
    have hk1 : (k : Int) < p.length := by omega
    have hkN : k < p.length := by omega
    have hkI : InI (k : Int) := by unfold InI; omega
    have hmB := hSL.mapB 1 rfl
    have hsk := HSN.out k hk0 (by omega)
    by_cases hin : (k : Int) ∈ (cycK p k).flatten
    ·rw [decide_eq_true hin] at hsk
     have HSK := hid hsk; have HIN := hid hin
     clear hsk hin
     go_wp2_with ((with_reducible refine wpList_lookB wU wU (hmB) (hkI) wU ?_); rw [HSK.out])
     refine ⟨⟨k + 1, n, f, qs, by omega, by go_num, by omega, ?_, ?_, hSL⟩, by simp [intOf]; omega⟩
     ·rw [cycK_in HIN.out]; exact HSN.out
     ·rw [cycK_in HIN.out]; exact HQ.out
    ·rw [decide_eq_false hin] at hsk
     obtain ⟨d, hd⟩ := ord_ex hp hk0 hk1
     have hd0 := hd.pos
     have hd1 := hd.le
     have HSK := hid hsk; have HIN := hid hin; have HD := hid hd
     clear hsk hin hd
     go_wp2_with ((with_reducible refine wpList_lookB wU wU (hmB) (hkI) wU ?_); rw [HSK.out])
     have hSc := hSL.nilS (α := Int) (c := cInt) (sz := 1) (e := 3) cIntS
     go_loopw [8, 9] (fun cv av wq => ∃ (j n' : Nat) (g : Int → Bool), j ≤ d ∧ av = .int .i64 (itP p k j) ∧ lenV cv = j ∧ n' ≤ 64 * k + j ∧ (∀ x : Int, 0 ≤ x → x < N → g x = (decide (x ∈ (cycK p k).flatten) || decide (x ∈ orbK p k j))) ∧ SL w.heap.size w wq (pOwn cInt 1 3 cv (orbK p k j) :: pOwn cSl 1 22 u6 (qs.map Prod.fst) :: pMapB M n' g :: pBlk w.heap.size (.cells (mC m ad cap) 24) :: qs.map inP)) (fun cv _ _ => d - lenV cv)
     case atStart => exact ⟨0, n, f, by omega, rfl, rfl, by omega, fun x h0 h1 => by rw [HSN.out x h0 h1]; simp [orbK], hSc⟩
     case round =>
      clear hSc hmB hSL
      obtain ⟨j, n', g, hj, rfl, hlv, hn', hgs, hSq⟩ := hrel
      have HLV := hid hlv; have HGS := hid hgs
      clear hlv hgs
      obtain ⟨x0, x1⟩ := itP_rng hp hk0 hk1 j
      have hol := orbK_len2 p k j
      have hole : (orbK p k j).length ≤ 64 := by rw [hol]; omega
      have hat := HGS.out _ x0 (by omega)
      have hsuc := orbK_succ p k j
      have hXI : InI (itP p k j) := by unfold InI; omega
      have hmB := hSq.mapB 2 rfl
      have hmx : n' < maxLen := by unfold maxLen; omega
      obtain ⟨X, hX⟩ : ∃ X, X = itP p k j := ⟨_, rfl⟩
      have C := fun w h => HN.out (k : Int) j w h hk0 (by omega)
      rw [← HE.out (k : Int) j hk0 (by omega), HI.out, HI.out, ← hX] at C
      have HSU := hid hsuc; have HOL := hid hol; have HC := hid C
      clear hol hsuc C
      by_cases hjd : j < d
      ·have hf1 := orbK_out hp hkN HIN.out HD.out hj
       have hf2 := orbK_new hp hk0 hk1 HD.out hjd
       rw [decide_eq_false hf1, decide_eq_false hf2] at hat
       rw [← hX] at hat hXI x0 x1 HSU ⊢
       have HAT := hid hat
       clear hat hf1 hf2 hX
       go_wp2_with (first | ((with_reducible refine wpList_lookB wU wU (hmB) (hXI) wU ?_); rw [HAT.out]) | ((with_reducible refine wpList_putBL 2 wU wU wU (hSq) wU (hXI) (hmx) ?_); intro w4 hS4) | (((with_reducible refine wpList_pushL (y := X) 0 E_ints wU wU (hS4) wU cIntO ⟨rfl, rfl⟩ (by first | with_unfolding_all rfl | simp) wU (by first | omega | (simp; omega)) (by first | omega | (simp; omega)) ?_); intro v5 w5 hS5); have q5 := (hS5.blk 3 rfl).1) | (with_reducible refine wpList_ldS (n := 4) (us := mC m ad cap) A_mach kR wU wU (by assumption) wU wU ?_))
       refine (HC.out _ (hR.below hS5.b)).mono ?_
       rintro e w6 ⟨rfl, b6⟩
       have hS6 := hS5.mono b6
       obtain ⟨a5, c5, e5, _⟩ := hS6.slice 0 rfl
       have hl5 : lenV v5 = j + 1 := by rw [e5]; show (orbK p k j ++ [X]).length = j + 1; rw [List.length_append, HOL.out]; rfl
       clear e5
       have HL5 := hid hl5
       clear hl5
       go_wp2_with fail
       have hl5 := HL5.out
       refine ⟨⟨j + 1, n' + 1, fun x => if x = X then true else g x, by omega, rfl, hl5, by omega, ?_, by rw [HSU.out]; exact hS6⟩, by rw [hl5, HLV.out]; omega⟩
       intro x h0 h1
       rw [HSU.out]
       by_cases e : x = X
       ·simp [e]
       ·simp only [e, if_false]
        rw [HGS.out x h0 h1]
        simp [e]
      ·have hjj : j = d := by omega
       subst hjj
       have hxd : itP p k j = k := HD.out.back
       have hmem : itP p k j ∈ orbK p k j := by rw [hxd]; exact List.mem_map.2 ⟨0, by simp [hd0], rfl⟩
       rw [decide_eq_true hmem, Bool.or_true] at hat
       have HAT := hid hat; have HXD := hid hxd
       clear hat hmem
       obtain ⟨al, cl, rfl, _⟩ := hSq.slice 0 rfl
       rw [← hX] at hXI HAT HXD ⊢
       go_wp2_with (first | ((with_reducible refine wpList_lookB wU wU (hmB) (hXI) wU ?_); rw [HAT.out]) | ((with_reducible refine wpList_pushL (y := ((al, (orbK p k j).length, cl) : SlH)) 1 E_sls wU wU (hSq) wU cSlO ⟨rfl, rfl⟩ (by first | with_unfolding_all rfl | simp) wU (by first | omega | (simp; omega)) (by first | omega | (simp; omega)) ?_); intro v4 w4 hP))
       refine ⟨⟨k + 1, n', g, qs ++ [((al, (orbK p k j).length, cl), orbK p k j)], by omega, by go_num, by omega, ?_, ?_, ?_⟩, by simp [intOf]; omega⟩
       ·intro x h0 h1
        rw [HGS.out x h0 h1, cycK_out HIN.out, orb_eq HD.out]
        simp [orbK]
       ·rw [List.map_append, HQ.out, cycK_out HIN.out, orb_eq HD.out]; rfl
       ·have hP2 := SL.pickA (K := [_, _, _, _]) (M := qs.map inP) hP [1, 2, 3, 0] (by decide) (by simp) [_, _, _, _] rfl
        refine hP2.perm ?_
        rw [List.map_append, List.map_append]
        refine List.Perm.cons _ (List.Perm.cons _ (List.Perm.cons _ ?_))
        exact List.perm_append_comm (l₁ := [_])
   ·have hkn : k = N := by omega
    subst hkn
    go_wp2_with fail
    go_ret2
    refine ⟨_, qs, rfl, HQ.out, ?_⟩
    exact (SL.comm (K := [_]) (L := qs.map inP) (SL.pickA (K := [_, _, _]) (M := qs.map inP) hSL [0] (by decide) (by simp) [_] rfl)).comm
 ·obtain ⟨E, hE⟩ : ∃ E, E = macE m := ⟨_, rfl⟩
  rw [if_neg he]
  rw [← hE] at HK he ⊢
  have hne : (E != 0) = true := by simpa using he
  have HC := hid HK
  clear HK he hE
  go_enter Tryz.func10, Tryz.ntmps10
  go_wp2_with fail
  refine (HC.out _ R1).mono ?_
  rintro e w1 ⟨rfl, b1⟩
  have hS1 := (hS.mono b1).nilS (α := SlH) (c := cSl) (sz := 1) (e := 22) cSlS
  go_wp2_with fail
  go_ret2
  exact ⟨_, [], rfl, rfl, hS1.pick [0] (by decide) _ rfl⟩
end Go.Proofs.YtndmeaoidihikaaGreatDoor

namespace Go.Proofs.YtndmeaoidihikaaGreatDoor
open Go.RowKit
set_option maxHeartbeats 1000000
set_option maxRecDepth 100000

open Go.Maps in
/-- the map counts the numbers of the list. -/
structure CntD (D : DataW Unit) (l : List Int) : Prop where
 map : IsMap D
 key : ∀ kl, has D kl = true ↔ ∃ x ∈ l, kl = .int .i64 x
 cnt : ∀ x ∈ l, ∀ z, D.atKey (.int .i64 x) z = .lit (.int .i64 (l.count x))
end Go.Proofs.YtndmeaoidihikaaGreatDoor

namespace Go.Proofs.YtndmeaoidihikaaGreatDoor
open Go.RowKit Go.Maps
set_option maxRecDepth 100000

def CntM (w : World) (b n : Nat) (l : List Int) : Prop := ∃ D : DataW Unit, w.ownsMap Tryz.prog 3 (plainElem Tryz.prog 3) b n D ∧ CntD D l
theorem CntM.kept {w w' : World} {b n : Nat} {l : List Int} {row : Option Nat} (h : CntM w b n l) (hg : w.grownBy w' row) (hne : some b ≠ row) : CntM w' b n l := by
 obtain ⟨D, h1, h2⟩ := h; exact ⟨D, h1.kept hg hne, h2⟩
theorem CntM.lt {w : World} {b n : Nat} {l : List Int} (h : CntM w b n l) : b < w.heap.size := by obtain ⟨D, h1, _⟩ := h; exact h1.lt
section
variable {ops : Array Oper} {rest : List Oper} {a : Act} {Q : Exit → Act → World → Prop} {d : Option Tmp} {ty : TypeId} {p : String} {m x y : Operand} {af : Array Edge} {g : Option (Nat × Bool)} {b n B : Nat} {k : Int} {w0 w : World} {L : List Pc} {l : List Int}
end
section
variable {P : Program} {ops : Array Oper} {rest : List Oper} {a : Act} {α : Type} {c : α → Value} {sz bytes : Nat} {t e t2 e2 : TypeId} {z : Value} {ad : Option Addr} {cap n : Nat} {l : List α} {k : Int} {w : World}
 {d1 d2 d3 : Tmp} {ty1 ty2 ty3 : TypeId} {p1 p2 p3 : String} {s x : Operand} {af1 af2 af3 : Array Edge} {j : Nat} {g1 g2 g3 : Option (Nat × Bool)}
end
section
variable {P : Program} {ops : Array Oper} {a : Act} {ty : TypeId} {p : String} {af : Array Edge} {g : Option (Nat × Bool)} {d : Tmp} {C : World → Prop}
theorem yieldsK_cellC {e : TypeId} {s : Operand} {x : Addr} {v : Value} (hF : Flat P e) (hb : ∀ w, C w → w.cell? x = some v) (hg : Region.wanted (⟨some d, .load e s, ty, p, af, g⟩ : Oper) (yielded ops a.tmps) = true) (hs : a.eval s = .pointer (some x)) :
  YieldsK P ops C ⟨some d, .load e s, ty, p, af, g⟩ v a :=
 .inl ⟨hg, fun w' hw' => by simp [execOp, hs, run_loadAt_cell w' hF (hb w' hw'), Result.andThen]⟩
end
end Go.Proofs.YtndmeaoidihikaaGreatDoor

namespace Go.Proofs.YtndmeaoidihikaaGreatDoor
open Go.RowKit
set_option maxHeartbeats 8000000
set_option maxRecDepth 100000

theorem cloneI_any (a : Option Addr) (cap : Nat) (l : List Int) (w : World) (hS : Ints w a cap l) (hsm : l.length ≤ 1048576) :
  Calls Tryz.prog 72 #[.slice a l.length cap] w fun r w' => ∃ v, r = .returned v ∧ OwnI w.heap.size w' v l ∧ Below w.heap.size w w' := by
 have hcap := hS.le
 have hm := hS.max
 have heq := fun (w : World) (a : Option Addr) (n c : Nat) => Lib.run_eql_slice_nil (P := Tryz.prog) w 22 3 a n c 0 0 Tryz.underlying22
 cases a with
 | none =>
  have h0 : cap = 0 := hS.2.2.2.1 rfl
  have hl : l = [] := by
   cases l with
   | nil => rfl
   | cons x r => simp at hcap; omega
  subst hl
  go_enter Tryz.func72, Tryz.ntmps72
  go_wp2_with fail
  go_ret
  exact ⟨_, rfl, own_nil cIntS, Below.refl _ _⟩
 | some b =>
  go_enter Tryz.func72, Tryz.ntmps72
  go_wp2_with ((with_reducible refine wpList_app (B := w.heap.size) (l := []) (ys := l) E_ints wU wU (own_made0 cIntS w rfl (Nat.le_refl _)) (hS.alloc _) cIntO (by simp; omega) (by simp) (by simp; omega) ?_); intro v1 w1 ho1 hg1 _)
  go_ret
  refine ⟨v1, rfl, ho1, ?_⟩
  exact (bal (Below.refl _ _) _).grown hg1 (by simp) (fun k hk => by cases hk; exact Nat.le_refl _)

/-- the machine with the opposite turn. -/
def turnMac (m : MacV) : MacV := ⟨m.ring, m.gears, -m.turn, m.sw⟩
theorem mturned_any (m : MacV) (ad : Option Addr) (cap : Nat) (w : World) (hR : Ints w ad cap m.sw) (ht : m.turn = 1 ∨ m.turn = -1) (hs : m.sw.length ≤ 16) :
  Calls Tryz.prog 74 #[mV m ad cap] w fun r w' => ∃ a c, r = .returned (mV (turnMac m) a c) ∧ OwnI w.heap.size w' (.slice a m.sw.length c) m.sw ∧ Below w.heap.size w w' := by
 have hcap := hR.le
 have hmx := hR.max
 have hS := ((SL.nil w).box (.cells (mC m ad cap) 24)).box (.cells #[.bool false, .int .i64 0, .int .i64 0, .slice none 0 0] 24)
 simp only [World.size_alloc] at hS
 have q1 := (hS.blk 1 rfl).1
 have k0 := hS.cell 1 rfl 0 rfl
 have k1 := hS.cell 1 rfl 1 rfl
 have k2 := hS.cell 1 rfl 2 rfl
 have k3 := hS.cell 1 rfl 3 rfl
 have hb := hS.b
 have hw : IntKind.i64.wrap (-m.turn) = -m.turn := IntWalk.i64_in _ (by omega)
 have CL := fun w h => cloneI_any ad cap m.sw w h (by omega)
 have HC := hid CL
 clear CL
 go_enter Tryz.func74, Tryz.ntmps74
 go_wp2_with fail
 obtain ⟨W, hW⟩ : ∃ W, W = (w.alloc (.cells (mC m ad cap) 24)).alloc (.cells #[.bool false, .int .i64 0, .int .i64 0, .slice none 0 0] 24) := ⟨_, rfl⟩
 rw [← hW] at hS q1 k0 k1 k2 k3 hb ⊢
 clear hW
 have kc : ∀ (V : World), (Below w.heap.size w V ∧ V.heap[w.heap.size]? = some (.cells (mC m ad cap) 24)) → ∀ j u, (mC m ad cap)[j]? = some u → V.cell? ⟨w.heap.size, j, none⟩ = some u := by
  rintro V ⟨_, h⟩ j u hu
  simp [World.cell?, h, hu]
 refine wp_regionK (C := (fun V => Below w.heap.size w V ∧ V.heap[w.heap.size]? = some (.cells (mC m ad cap) 24))) [0, 1, 2, 3, 4, 5, 6, 7, 8] [_, _, _, _, _, _, _, _, _] 3 (by simp only [List.map_cons, List.map_nil, List.getElem?_toArray]; rfl) rfl kR kR kR (⟨hb.drew, q1⟩) ?_
 refine ⟨_, yieldsK_val wU (fun w' => by with_unfolding_all exact rfl), ?_⟩
 go_frame
 refine ⟨_, yieldsK_cellC F_boolM (fun V h => kc V h 0 _ rfl) wU wU, ?_⟩
 go_frame
 refine ⟨_, yieldsK_val wU (fun w' => by with_unfolding_all exact rfl), ?_⟩
 go_frame
 refine ⟨_, yieldsK_cellC F_int (fun V h => kc V h 1 _ rfl) wU wU, ?_⟩
 go_frame
 refine ⟨_, yieldsK_val wU (fun w' => by with_unfolding_all exact rfl), ?_⟩
 go_frame
 refine ⟨_, yieldsK_cellC F_int (fun V h => kc V h 2 _ rfl) wU wU, ?_⟩
 go_frame
 refine ⟨.int .i64 (-m.turn), yieldsK_val wU (fun w' => by first | (go_simp; done) | (go_simp; rfl)), ?_⟩
 go_frame
 refine ⟨_, yieldsK_val wU (fun w' => by with_unfolding_all exact rfl), ?_⟩
 go_frame
 refine ⟨_, yieldsK_cellC F_sliceM (fun V h => kc V h 3 _ rfl) wU wU, ?_⟩
 go_frame
 unfold wpPureK
 have hVd : ({ W with drawn := W.drawn + 1 } : World) = W.drew := rfl
 rw [hVd]
 have b2 := hb.drew
 refine wpAnyC_on [9] kR (by simp) ?_
 simp only [List.forall_mem_cons, List.not_mem_nil, false_implies, implies_true, and_true]
 refine wpOp_call (f := 72) (args := #[.slice ad m.sw.length cap]) (by rw [List.getElem?_toArray]; rfl) wU (by first | (go_simp; done) | (simp [execOp, Act.eval, Result.andThen]; done) | (simp [execOp, Act.eval, Result.andThen]; rfl)) ?_
 refine (HC.out _ (hR.below b2)).mono ?_
 rintro e V1 ⟨v1, rfl, hO1, hb1⟩
 obtain ⟨a1, cap1, rfl, hr1, hf1, _⟩ := hO1.reps
 have hS2 := hS.drew.call (SL.ofOwn hO1 hb1)
 simp only [List.cons_append, List.nil_append] at hS2
 refine ⟨_, rfl, ⟨hS2.b, (hS2.blk 2 rfl).1⟩, ?_⟩
 go_frame
 refine wpAnyC_on [10] kR (by simp) ?_
 simp only [List.forall_mem_cons, List.not_mem_nil, false_implies, implies_true, and_true]
 refine wpOp_value (v := .agg #[.bool m.ring, .int .i64 m.gears, .int .i64 (-m.turn), .slice a1 m.sw.length cap1]) (w' := V1) (by rw [List.getElem?_toArray]; rfl) wU (by first | (go_simp; done) | (go_simp; rfl) | (simp [execOp, Act.eval, Result.andThen]; done)) ?_
 refine ⟨⟨hS2.b, (hS2.blk 2 rfl).1⟩, ?_⟩
 go_frame
 refine wpAnyC_on [11] kR (by simp) ?_
 simp only [List.forall_mem_cons, List.not_mem_nil, false_implies, implies_true, and_true]
 refine wpOp_of_list (by rw [List.getElem?_toArray]; rfl) ?_
 ((with_reducible refine wpList_stoR (us := #[.bool m.ring, .int .i64 m.gears, .int .i64 (-m.turn), .slice a1 m.sw.length cap1]) 1 wU wU (hS2) wU kR wU wU ?_); intro w3 hS3)
 refine ⟨⟨hS3.b, (hS3.blk 2 rfl).1⟩, ?_⟩
 go_frame
 refine wpAnyC_rest [] [] rfl rfl kR kR kR ⟨hS3.b, (hS3.blk 2 rfl).1⟩ ?_
 unfold wpPure
 refine of_wpList_nil (P := Tryz.prog) (ops := #[]) ?_
 go_wp2_with fail
 exact bodyPost_ret (results_cell rfl rfl A_mach kR (hS3.blk 1 rfl).1) rfl ⟨a1, cap1, rfl, hS3.own 0 rfl, hS3.b⟩
end Go.Proofs.YtndmeaoidihikaaGreatDoor
