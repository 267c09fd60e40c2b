/- Contracts and plain facts that the claim uses (QsC QsA RdP). Conditions: as each one states. -/
import Derived.RangeFuncNested
import Derived.RangeFuncBound
import Derived.RangeFuncCalls
import Derived.RangeFuncLeaves
import Derived.RangeFuncFrom
import Derived.Shelf.Abstract
import Derived.Shelf.RegionOpen
import Derived.WalkKit
import Derived.OwnWalkIn
import Derived.TacticsInMore
import Derived.LoopNIn
import Derived.LoopIn
import Derived.Test.YtoebgfgihfjnnaaGreatDoorProg
import Derived.WalkSpells
import Derived.Maps.AppendAt
import Derived.Deep.Quiet
import Derived.Maps.Own
import Derived.Maps.OwnSet
import Derived.Maps.Views
import Derived.WalkLawsBesides
import Derived.Laws.EntriesVeiled
import Derived.Deep.QuietTactic
import Derived.BigQuiet
import Derived.Shelf.Strings.Trim
import Derived.Shelf.Strings.SlTrimAscii
import Derived.Shelf.Strings.Repeat
import Derived.Shelf.Strings.OnBuilder
import Derived.Shelf.Strconv.Itoa1
import Derived.Shelf.Strconv.Itoa3
import Derived.Shelf.LaysM
import Derived.Ground.Names2Prog
import Derived.Lib.OthersKept
import Derived.Deep.RegionHeld3
import Derived.Deep.AppendLies
import Derived.Deep.RegionHeldLaw
import Derived.Deep.RegionLaw
import Derived.StillTail
import Derived.Laws.Tables
import Derived.IntWalk
import Derived.Laws.CopyOwn
import Derived.BigRegion
import Derived.ChangeAlike
import Derived.Shelf.Bits.Mul64
import Derived.Lib.ItoaLen
import Derived.Lib.ItoaMem
import Derived.Sort.LoopGhostIn
import Derived.Maps.RangeWalk
import Derived.Maps.Ext
import Derived.Deep.LoopGhost
import Derived.Lib.Split
import Derived.Lib.AtoiAll
import Derived.Shelf.Strconv.ErrVarAll
import Derived.Shelf.Strconv.AtoiAll
import Derived.Shelf.Strings.Cut
import Derived.Shelf.Strings.Split
import Derived.Shelf.Strings.SplitShaped
import Derived.Lib.AppendIntMem
import Derived.Lib.SmallJoins
import Derived.LaidSub
import Derived.Lib.LaidTab
import Derived.Lib.AtoiErrMem
import Derived.Stop.LaidErr
import Derived.ReadAgain
import Derived.ChangeSlices
import Derived.OpenShut
import Derived.ProofKit
import Derived.Deep.DeepHandedRow
import Derived.Deep.SlicePairs
import Derived.Test.YtoebgfgihfjnnaaGreatDoorXz01
import Derived.Test.YtoebgfgihfjnnaaGreatDoorXz02
import Derived.Test.YtoebgfgihfjnnaaGreatDoorXz03
import Derived.Test.YtoebgfgihfjnnaaGreatDoorXz04
import Derived.Test.YtoebgfgihfjnnaaGreatDoorXz05
import Derived.Test.YtoebgfgihfjnnaaGreatDoorXz06
import Derived.Test.YtoebgfgihfjnnaaGreatDoorXz07
import Derived.Test.YtoebgfgihfjnnaaGreatDoorXz08
import Derived.Test.YtoebgfgihfjnnaaGreatDoorXz09
import Derived.Test.YtoebgfgihfjnnaaGreatDoorXz10
import Derived.Test.YtoebgfgihfjnnaaGreatDoorXz11
import Derived.Test.YtoebgfgihfjnnaaGreatDoorXz12
import Derived.Test.YtoebgfgihfjnnaaGreatDoorY4501
import Derived.Test.YtoebgfgihfjnnaaGreatDoorY4502
set_option linter.all false

namespace Go.Proofs.YtoebgfgihfjnnaaGreatDoor
open Go.RowKit
set_option maxHeartbeats 8000000
set_option maxRecDepth 100000
theorem rMirrored_any (m : MacV) (ad : Option Addr) (cap : Nat) (al : Option Addr) (cl : Nat) (l : List Int) (w : World) (hR : Ints w ad cap m.sw) (hL : Ints w al cl l) (ht : m.turn = 1 ∨ m.turn = -1) (hs : m.sw.length ≤ 16) (hn : l.length ≤ 1048576) (hl : ∀ x ∈ l, 0 ≤ x ∧ x < 4 * m.gears) (hgg : m.gears ≤ 16) :
  Calls Tryz.prog 38 #[mV m ad cap, .slice al l.length cl] w fun r w' => ∃ a c v, r = .returned (.tuple #[mV (turnMac m) a c, v]) ∧ SL w.heap.size w w' [pOwn cInt 1 3 (.slice a m.sw.length c) m.sw, pOwn cInt 1 3 v (l.map mirM)] := by
 have hcap := hR.le
 have hmx := hR.max
 have hcapl := hL.le
 have hmxl := hL.max
 have hS := ((SL.nil w).box (.cells (mC m ad cap) 25)).box (.cells #[.bool false, .int .i64 0, .int .i64 0, .slice none 0 0] 25)
 simp only [World.size_alloc] at hS
 have q1 := (hS.blk 1 rfl).1
 have hb := hS.b
 have hw0 : IntKind.i64.wrap (0 - m.turn) = -m.turn := by rw [Int.zero_sub]; exact IntWalk.i64_in _ (by omega)
 have hw1 : IntKind.i64.wrap (-m.turn) = -m.turn := IntWalk.i64_in _ (by omega)
 go_enter Tryz.func38, Tryz.ntmps38
 go_wp2_with fail
 obtain ⟨W, hW⟩ : ∃ W, W = (w.alloc (.cells (mC m ad cap) 25)).alloc (.cells #[.bool false, .int .i64 0, .int .i64 0, .slice none 0 0] 25) := ⟨_, rfl⟩
 rw [← hW] at hS q1 hb ⊢
 clear hW
 have kc : ∀ (V : World), (Below w.heap.size w V ∧ V.heap[w.heap.size]? = some (.cells (mC m ad cap) 25)) → ∀ j u, (mC m ad cap)[j]? = some u → V.cell? ⟨w.heap.size, j, none⟩ = some u := by
  rintro V ⟨_, h⟩ j u hu
  simp [World.cell?, h, hu]
 refine wp_regionK (C := (fun V => Below w.heap.size w V ∧ V.heap[w.heap.size]? = some (.cells (mC m ad cap) 25))) [0, 1, 2, 3, 4, 5, 6, 8, 9] [_, _, _, _, _, _, _, _, _] 5 (by simp only [List.map_cons, List.map_nil, List.getElem?_toArray]; rfl) rfl kR kR kR (⟨hb.drew, q1⟩) ?_
 refine ⟨_, yieldsK_val wU (fun w' => by with_unfolding_all exact rfl), ?_⟩
 go_frame
 refine ⟨_, yieldsK_cellC F_boolM (fun V h => kc V h 0 _ rfl) wU wU, ?_⟩
 go_frame
 refine ⟨_, yieldsK_val wU (fun w' => by with_unfolding_all exact rfl), ?_⟩
 go_frame
 refine ⟨_, yieldsK_cellC F_int (fun V h => kc V h 1 _ rfl) wU wU, ?_⟩
 go_frame
 refine ⟨_, yieldsK_val wU (fun w' => by with_unfolding_all exact rfl), ?_⟩
 go_frame
 refine ⟨_, yieldsK_cellC F_int (fun V h => kc V h 2 _ rfl) wU wU, ?_⟩
 go_frame
 refine ⟨.int .i64 (-m.turn), yieldsK_val wU (fun w' => by first | (go_simp; done) | (go_simp; rfl)), ?_⟩
 go_frame
 refine ⟨_, yieldsK_val wU (fun w' => by with_unfolding_all exact rfl), ?_⟩
 go_frame
 refine ⟨_, yieldsK_cellC F_sliceM (fun V h => kc V h 3 _ rfl) wU wU, ?_⟩
 go_frame
 unfold wpPureK
 have hVd : ({ W with drawn := W.drawn + 1 } : World) = W.drew := rfl
 rw [hVd]
 have hT0 := hS.drew
 refine wpAnyC_on [7, 12] kR (by simp) ?_
 simp only [List.forall_mem_cons, List.not_mem_nil, false_implies, implies_true, and_true]
 refine ⟨?_, ?_⟩
 ·have hT1 := (hT0).call (SL.ofOwn (own_newN (e := 3) (w := W.drew) cIntS [] 0 rfl (by decide) #[] rfl (Nat.le_refl _) rfl) (bal (Below.refl _ _) _))
  simp only [List.cons_append, List.nil_append] at hT1
  refine wpOp_value (v := .slice (some ⟨(W.drew).heap.size, 0, none⟩) 0 0) (w' := (W.drew).alloc (.cells #[] 3)) (by rw [List.getElem?_toArray]; rfl) wU (by first | (go_simp; done) | (go_simp; rfl) | (simp [execOp, Act.eval, Result.andThen]; done)) ?_
  refine ⟨⟨hT1.b, (hT1.blk 2 rfl).1⟩, ?_⟩
  go_frame
  obtain ⟨VhT1, hVhT1⟩ : ∃ V, V = (W.drew).alloc (.cells #[] 3) := ⟨_, rfl⟩
  obtain ⟨nhT1, hnhT1⟩ : ∃ b, b = (W.drew).heap.size := ⟨_, rfl⟩
  rw [← hVhT1, ← hnhT1] at hT1
  simp only [← hVhT1, ← hnhT1]
  clear hVhT1 hnhT1
  refine wpAnyC_on [10, 12] kR (by simp) ?_
  simp only [List.forall_mem_cons, List.not_mem_nil, false_implies, implies_true, and_true]
  refine ⟨?_, ?_⟩
  ·refine wpOp_of_list (by rw [List.getElem?_toArray]; rfl) ?_
   ((with_reducible refine wpList_appL 0 E_ints wU wU (hT1) wU ((hR.below hT1.b)) (rfl) cIntO (by first | omega | (simp; omega)) (by first | omega | (simp; omega)) ?_); intro v2 w2 hT2)
   rw [List.nil_append] at hT2
   refine ⟨⟨hT2.b, (hT2.blk 2 rfl).1⟩, ?_⟩
   go_frame
   obtain ⟨a2, c2, rfl, _⟩ := hT2.slice 0 rfl
   refine wpAnyC_on [11, 12] kR (by simp) ?_
   simp only [List.forall_mem_cons, List.not_mem_nil, false_implies, implies_true, and_true]
   refine ⟨?_, ?_⟩
   ·refine wpOp_value (v := .agg #[.bool m.ring, .int .i64 m.gears, .int .i64 (-m.turn), .slice a2 m.sw.length c2]) (w' := w2) (by rw [List.getElem?_toArray]; rfl) wU (by first | (go_simp; done) | (go_simp; rfl) | (simp [execOp, Act.eval, Result.andThen]; done)) ?_
    refine ⟨⟨hT2.b, (hT2.blk 2 rfl).1⟩, ?_⟩
    go_frame
    refine wpAnyC_on [12] kR (by simp) ?_
    simp only [List.forall_mem_cons, List.not_mem_nil, false_implies, implies_true, and_true]
    have hT3 := (hT2).box (.cells #[.bool false, .int .i64 0, .int .i64 0, .slice none 0 0] 25)
    refine wpOp_value (v := .pointer (some ⟨(w2).heap.size, 0, none⟩)) (w' := (w2).alloc (.cells #[.bool false, .int .i64 0, .int .i64 0, .slice none 0 0] 25)) (by rw [List.getElem?_toArray]; rfl) wU (by first | (go_simp; done) | (go_simp; rfl) | (simp [execOp, Act.eval, Result.andThen]; done)) ?_
    refine ⟨⟨hT3.b, (hT3.blk 3 rfl).1⟩, ?_⟩
    go_frame
    obtain ⟨VhT3, hVhT3⟩ : ∃ V, V = (w2).alloc (.cells #[.bool false, .int .i64 0, .int .i64 0, .slice none 0 0] 25) := ⟨_, rfl⟩
    obtain ⟨nhT3, hnhT3⟩ : ∃ b, b = (w2).heap.size := ⟨_, rfl⟩
    rw [← hVhT3, ← hnhT3] at hT3
    simp only [← hVhT3, ← hnhT3]
    clear hVhT3 hnhT3
    refine wpAnyC_on [13] kR (by simp) ?_
    simp only [List.forall_mem_cons, List.not_mem_nil, false_implies, implies_true, and_true]
    refine wpOp_of_list (by rw [List.getElem?_toArray]; rfl) ?_
    ((with_reducible refine wpList_stoR (us := #[.bool m.ring, .int .i64 m.gears, .int .i64 (-m.turn), .slice a2 m.sw.length c2]) 0 wU wU (hT3) wU kR wU wU ?_); intro w4 hT4)
    refine ⟨⟨hT4.b, (hT4.blk 3 rfl).1⟩, ?_⟩
    go_frame
    refine wpAnyC_rest [] [] rfl rfl kR kR kR ⟨hT4.b, (hT4.blk 3 rfl).1⟩ ?_
    unfold wpPure
    refine of_wpList_nil (P := Tryz.prog) (ops := #[]) ?_
    have hS6 := (hT4.pick [0, 1, 2, 3] (by decide) [pBlk nhT3 (.cells #[.bool m.ring, .int .i64 m.gears, .int .i64 (-m.turn), .slice a2 m.sw.length c2] 25), pOwn cInt 1 3 (.slice a2 m.sw.length c2) m.sw, pBlk (w.heap.size + 1) (.cells #[.bool false, .int .i64 0, .int .i64 0, .slice none 0 0] 25), pBlk w.heap.size (.cells (mC m ad cap) 25)] rfl).nilS (α := Int) (c := cInt) (sz := 1) (e := 3) cIntS
    clear hT0 hT1 hT2 hT3 hT4
    revert hS6
    generalize nhT3 = b6
    generalize w4 = W6
    intro hS6
    go_wp2_with fail
    go_loopw [7, 8, 39, 49] (fun sv iv _ _ wr => ∃ k : Nat, k ≤ l.length ∧ iv = .int .i64 k ∧ SL w.heap.size w wr [pOwn cInt 1 3 sv ((l.take k).map mirM), pBlk b6 (.cells #[.bool m.ring, .int .i64 m.gears, .int .i64 (-m.turn), .slice a2 m.sw.length c2] 25), pOwn cInt 1 3 (.slice a2 m.sw.length c2) m.sw, pBlk (w.heap.size + 1) (.cells #[.bool false, .int .i64 0, .int .i64 0, .slice none 0 0] 25), pBlk w.heap.size (.cells (mC m ad cap) 25)]) (fun _ iv _ _ _ => l.length - (intOf iv).toNat)
    case atStart => exact ⟨0, by omega, rfl, hS6⟩
    case round =>
     clear hS6
     obtain ⟨k, hk, rfl, hSr⟩ := hrel
     have hLr := hL.below hSr.b
     by_cases hlt : k < l.length
     ·have ht := mapStep mirM hlt
      rw [← List.map_take, ← List.map_take] at ht
      have hrg := hl _ (atD_mem hlt)
      have hlen : ((l.take k).map mirM).length ≤ 1048576 := by simp; omega
      obtain ⟨x, hx⟩ : ∃ x, x = atD 0 l k := ⟨_, rfl⟩
      rw [← hx] at ht hrg
      have HX := hid hx
      clear hx
      have hw2 : IntKind.i64.wrap (x + 2) = x + 2 := IntWalk.i64_in _ (by omega)
      have hw3 : IntKind.i64.wrap (x - 2) = x - 2 := IntWalk.i64_in _ (by omega)
      have htm : x.tmod 4 = x % 4 := Int.tmod_eq_emod_of_nonneg (by omega)
      have hr4 : x % 4 = 0 ∨ x % 4 = 1 ∨ x % 4 = 2 ∨ x % 4 = 3 := by omega
      have hw4 : IntKind.i64.wrap 0 = 0 ∧ IntKind.i64.wrap 1 = 1 ∧ IntKind.i64.wrap 2 = 2 ∧ IntKind.i64.wrap 3 = 3 := by decide
      obtain ⟨z0, z1, z2, z3⟩ := hw4
      rcases hr4 with h | h | h | h
      ·rw [h] at htm
       rw [show mirM x = x by unfold mirM; rw [if_neg (by omega), if_neg (by omega)]] at ht
       have HT := hid ht
       clear ht hrg h
       go_wp2_with (first | ((with_reducible refine wpList_idx _ 0 E_ints F_int cInt1 wU wU (hLr) oD oD (fun _ => wU) (fun _ => ?_)); rw [← HX.out]) | ((with_reducible refine wpList_pushL (y := (x)) 0 E_ints wU wU (hSr) wU cIntO ⟨rfl, rfl⟩ (by first | with_unfolding_all rfl | simp) wU (by first | omega | (simp; omega)) (by first | omega | (simp; omega)) ?_); intro v2 w2 hS2))
       refine ⟨?_, by simp [intOf]; omega⟩
       repeat apply Exists.intro
       refine ⟨?_, rfl⟩
       exact ⟨k + 1, by omega, by go_num, by rw [HT.out]; exact hS2⟩
      ·rw [h] at htm
       rw [show mirM x = x + 2 by unfold mirM; rw [if_pos h]] at ht
       have HT := hid ht
       clear ht hrg h
       go_wp2_with (first | ((with_reducible refine wpList_idx _ 0 E_ints F_int cInt1 wU wU (hLr) oD oD (fun _ => wU) (fun _ => ?_)); rw [← HX.out]) | ((with_reducible refine wpList_pushL (y := (x + 2)) 0 E_ints wU wU (hSr) wU cIntO ⟨rfl, rfl⟩ (by first | with_unfolding_all rfl | simp) wU (by first | omega | (simp; omega)) (by first | omega | (simp; omega)) ?_); intro v2 w2 hS2))
       refine ⟨?_, by simp [intOf]; omega⟩
       repeat apply Exists.intro
       refine ⟨?_, rfl⟩
       exact ⟨k + 1, by omega, by go_num, by rw [HT.out]; exact hS2⟩
      ·rw [h] at htm
       rw [show mirM x = x by unfold mirM; rw [if_neg (by omega), if_neg (by omega)]] at ht
       have HT := hid ht
       clear ht hrg h
       go_wp2_with (first | ((with_reducible refine wpList_idx _ 0 E_ints F_int cInt1 wU wU (hLr) oD oD (fun _ => wU) (fun _ => ?_)); rw [← HX.out]) | ((with_reducible refine wpList_pushL (y := (x)) 0 E_ints wU wU (hSr) wU cIntO ⟨rfl, rfl⟩ (by first | with_unfolding_all rfl | simp) wU (by first | omega | (simp; omega)) (by first | omega | (simp; omega)) ?_); intro v2 w2 hS2))
       refine ⟨?_, by simp [intOf]; omega⟩
       repeat apply Exists.intro
       refine ⟨?_, rfl⟩
       exact ⟨k + 1, by omega, by go_num, by rw [HT.out]; exact hS2⟩
      ·rw [h] at htm
       rw [show mirM x = x - 2 by unfold mirM; rw [if_neg (by omega), if_pos h]] at ht
       have HT := hid ht
       clear ht hrg h
       go_wp2_with (first | ((with_reducible refine wpList_idx _ 0 E_ints F_int cInt1 wU wU (hLr) oD oD (fun _ => wU) (fun _ => ?_)); rw [← HX.out]) | ((with_reducible refine wpList_pushL (y := (x - 2)) 0 E_ints wU wU (hSr) wU cIntO ⟨rfl, rfl⟩ (by first | with_unfolding_all rfl | simp) wU (by first | omega | (simp; omega)) (by first | omega | (simp; omega)) ?_); intro v2 w2 hS2))
       refine ⟨?_, by simp [intOf]; omega⟩
       repeat apply Exists.intro
       refine ⟨?_, rfl⟩
       exact ⟨k + 1, by omega, by go_num, by rw [HT.out]; exact hS2⟩
     ·have hkk : k = l.length := by omega
      subst hkk
      rw [List.take_length] at hSr
      have q6 := (hSr.blk 1 rfl).1
      go_wp2_with (first | (with_reducible refine wpList_ldS (n := 4) (us := #[.bool m.ring, .int .i64 m.gears, .int .i64 (-m.turn), .slice a2 m.sw.length c2]) A_rmach kR wU wU (by assumption) wU wU ?_) | ((with_reducible refine wpList_stoR (us := #[.bool m.ring, .int .i64 m.gears, .int .i64 (-m.turn), .slice a2 m.sw.length c2]) 3 wU wU (hSr) wU kR wU wU ?_); intro w9 hS9))
      exact bodyPost_ret (results_cellSlot rfl rfl rfl A_rmach kR (hS9.blk 3 rfl).1) rfl ⟨a2, c2, _, rfl, hS9.pick [2, 0] (by decide) _ rfl⟩
   ·have hT3 := (hT2).box (.cells #[.bool false, .int .i64 0, .int .i64 0, .slice none 0 0] 25)
    refine wpOp_value (v := .pointer (some ⟨(w2).heap.size, 0, none⟩)) (w' := (w2).alloc (.cells #[.bool false, .int .i64 0, .int .i64 0, .slice none 0 0] 25)) (by rw [List.getElem?_toArray]; rfl) wU (by first | (go_simp; done) | (go_simp; rfl) | (simp [execOp, Act.eval, Result.andThen]; done)) ?_
    refine ⟨⟨hT3.b, (hT3.blk 3 rfl).1⟩, ?_⟩
    go_frame
    obtain ⟨VhT3, hVhT3⟩ : ∃ V, V = (w2).alloc (.cells #[.bool false, .int .i64 0, .int .i64 0, .slice none 0 0] 25) := ⟨_, rfl⟩
    obtain ⟨nhT3, hnhT3⟩ : ∃ b, b = (w2).heap.size := ⟨_, rfl⟩
    rw [← hVhT3, ← hnhT3] at hT3
    simp only [← hVhT3, ← hnhT3]
    clear hVhT3 hnhT3
    refine wpAnyC_on [11] kR (by simp) ?_
    simp only [List.forall_mem_cons, List.not_mem_nil, false_implies, implies_true, and_true]
    refine wpOp_value (v := .agg #[.bool m.ring, .int .i64 m.gears, .int .i64 (-m.turn), .slice a2 m.sw.length c2]) (w' := VhT3) (by rw [List.getElem?_toArray]; rfl) wU (by first | (go_simp; done) | (go_simp; rfl) | (simp [execOp, Act.eval, Result.andThen]; done)) ?_
    refine ⟨⟨hT3.b, (hT3.blk 3 rfl).1⟩, ?_⟩
    go_frame
    refine wpAnyC_on [13] kR (by simp) ?_
    simp only [List.forall_mem_cons, List.not_mem_nil, false_implies, implies_true, and_true]
    refine wpOp_of_list (by rw [List.getElem?_toArray]; rfl) ?_
    ((with_reducible refine wpList_stoR (us := #[.bool m.ring, .int .i64 m.gears, .int .i64 (-m.turn), .slice a2 m.sw.length c2]) 0 wU wU (hT3) wU kR wU wU ?_); intro w4 hT4)
    refine ⟨⟨hT4.b, (hT4.blk 3 rfl).1⟩, ?_⟩
    go_frame
    refine wpAnyC_rest [] [] rfl rfl kR kR kR ⟨hT4.b, (hT4.blk 3 rfl).1⟩ ?_
    unfold wpPure
    refine of_wpList_nil (P := Tryz.prog) (ops := #[]) ?_
    have hS6 := (hT4.pick [0, 1, 2, 3] (by decide) [pBlk nhT3 (.cells #[.bool m.ring, .int .i64 m.gears, .int .i64 (-m.turn), .slice a2 m.sw.length c2] 25), pOwn cInt 1 3 (.slice a2 m.sw.length c2) m.sw, pBlk (w.heap.size + 1) (.cells #[.bool false, .int .i64 0, .int .i64 0, .slice none 0 0] 25), pBlk w.heap.size (.cells (mC m ad cap) 25)] rfl).nilS (α := Int) (c := cInt) (sz := 1) (e := 3) cIntS
    clear hT0 hT1 hT2 hT3 hT4
    revert hS6
    generalize nhT3 = b6
    generalize w4 = W6
    intro hS6
    go_wp2_with fail
    go_loopw [7, 8, 39, 49] (fun sv iv _ _ wr => ∃ k : Nat, k ≤ l.length ∧ iv = .int .i64 k ∧ SL w.heap.size w wr [pOwn cInt 1 3 sv ((l.take k).map mirM), pBlk b6 (.cells #[.bool m.ring, .int .i64 m.gears, .int .i64 (-m.turn), .slice a2 m.sw.length c2] 25), pOwn cInt 1 3 (.slice a2 m.sw.length c2) m.sw, pBlk (w.heap.size + 1) (.cells #[.bool false, .int .i64 0, .int .i64 0, .slice none 0 0] 25), pBlk w.heap.size (.cells (mC m ad cap) 25)]) (fun _ iv _ _ _ => l.length - (intOf iv).toNat)
    case atStart => exact ⟨0, by omega, rfl, hS6⟩
    case round =>
     clear hS6
     obtain ⟨k, hk, rfl, hSr⟩ := hrel
     have hLr := hL.below hSr.b
     by_cases hlt : k < l.length
     ·have ht := mapStep mirM hlt
      rw [← List.map_take, ← List.map_take] at ht
      have hrg := hl _ (atD_mem hlt)
      have hlen : ((l.take k).map mirM).length ≤ 1048576 := by simp; omega
      obtain ⟨x, hx⟩ : ∃ x, x = atD 0 l k := ⟨_, rfl⟩
      rw [← hx] at ht hrg
      have HX := hid hx
      clear hx
      have hw2 : IntKind.i64.wrap (x + 2) = x + 2 := IntWalk.i64_in _ (by omega)
      have hw3 : IntKind.i64.wrap (x - 2) = x - 2 := IntWalk.i64_in _ (by omega)
      have htm : x.tmod 4 = x % 4 := Int.tmod_eq_emod_of_nonneg (by omega)
      have hr4 : x % 4 = 0 ∨ x % 4 = 1 ∨ x % 4 = 2 ∨ x % 4 = 3 := by omega
      have hw4 : IntKind.i64.wrap 0 = 0 ∧ IntKind.i64.wrap 1 = 1 ∧ IntKind.i64.wrap 2 = 2 ∧ IntKind.i64.wrap 3 = 3 := by decide
      obtain ⟨z0, z1, z2, z3⟩ := hw4
      rcases hr4 with h | h | h | h
      ·rw [h] at htm
       rw [show mirM x = x by unfold mirM; rw [if_neg (by omega), if_neg (by omega)]] at ht
       have HT := hid ht
       clear ht hrg h
       go_wp2_with (first | ((with_reducible refine wpList_idx _ 0 E_ints F_int cInt1 wU wU (hLr) oD oD (fun _ => wU) (fun _ => ?_)); rw [← HX.out]) | ((with_reducible refine wpList_pushL (y := (x)) 0 E_ints wU wU (hSr) wU cIntO ⟨rfl, rfl⟩ (by first | with_unfolding_all rfl | simp) wU (by first | omega | (simp; omega)) (by first | omega | (simp; omega)) ?_); intro v2 w2 hS2))
       refine ⟨?_, by simp [intOf]; omega⟩
       repeat apply Exists.intro
       refine ⟨?_, rfl⟩
       exact ⟨k + 1, by omega, by go_num, by rw [HT.out]; exact hS2⟩
      ·rw [h] at htm
       rw [show mirM x = x + 2 by unfold mirM; rw [if_pos h]] at ht
       have HT := hid ht
       clear ht hrg h
       go_wp2_with (first | ((with_reducible refine wpList_idx _ 0 E_ints F_int cInt1 wU wU (hLr) oD oD (fun _ => wU) (fun _ => ?_)); rw [← HX.out]) | ((with_reducible refine wpList_pushL (y := (x + 2)) 0 E_ints wU wU (hSr) wU cIntO ⟨rfl, rfl⟩ (by first | with_unfolding_all rfl | simp) wU (by first | omega | (simp; omega)) (by first | omega | (simp; omega)) ?_); intro v2 w2 hS2))
       refine ⟨?_, by simp [intOf]; omega⟩
       repeat apply Exists.intro
       refine ⟨?_, rfl⟩
       exact ⟨k + 1, by omega, by go_num, by rw [HT.out]; exact hS2⟩
      ·rw [h] at htm
       rw [show mirM x = x by unfold mirM; rw [if_neg (by omega), if_neg (by omega)]] at ht
       have HT := hid ht
       clear ht hrg h
       go_wp2_with (first | ((with_reducible refine wpList_idx _ 0 E_ints F_int cInt1 wU wU (hLr) oD oD (fun _ => wU) (fun _ => ?_)); rw [← HX.out]) | ((with_reducible refine wpList_pushL (y := (x)) 0 E_ints wU wU (hSr) wU cIntO ⟨rfl, rfl⟩ (by first | with_unfolding_all rfl | simp) wU (by first | omega | (simp; omega)) (by first | omega | (simp; omega)) ?_); intro v2 w2 hS2))
       refine ⟨?_, by simp [intOf]; omega⟩
       repeat apply Exists.intro
       refine ⟨?_, rfl⟩
       exact ⟨k + 1, by omega, by go_num, by rw [HT.out]; exact hS2⟩
      ·rw [h] at htm
       rw [show mirM x = x - 2 by unfold mirM; rw [if_neg (by omega), if_pos h]] at ht
       have HT := hid ht
       clear ht hrg h
       go_wp2_with (first | ((with_reducible refine wpList_idx _ 0 E_ints F_int cInt1 wU wU (hLr) oD oD (fun _ => wU) (fun _ => ?_)); rw [← HX.out]) | ((with_reducible refine wpList_pushL (y := (x - 2)) 0 E_ints wU wU (hSr) wU cIntO ⟨rfl, rfl⟩ (by first | with_unfolding_all rfl | simp) wU (by first | omega | (simp; omega)) (by first | omega | (simp; omega)) ?_); intro v2 w2 hS2))
       refine ⟨?_, by simp [intOf]; omega⟩
       repeat apply Exists.intro
       refine ⟨?_, rfl⟩
       exact ⟨k + 1, by omega, by go_num, by rw [HT.out]; exact hS2⟩
     ·have hkk : k = l.length := by omega
      subst hkk
      rw [List.take_length] at hSr
      have q6 := (hSr.blk 1 rfl).1
      go_wp2_with (first | (with_reducible refine wpList_ldS (n := 4) (us := #[.bool m.ring, .int .i64 m.gears, .int .i64 (-m.turn), .slice a2 m.sw.length c2]) A_rmach kR wU wU (by assumption) wU wU ?_) | ((with_reducible refine wpList_stoR (us := #[.bool m.ring, .int .i64 m.gears, .int .i64 (-m.turn), .slice a2 m.sw.length c2]) 3 wU wU (hSr) wU kR wU wU ?_); intro w9 hS9))
      exact bodyPost_ret (results_cellSlot rfl rfl rfl A_rmach kR (hS9.blk 3 rfl).1) rfl ⟨a2, c2, _, rfl, hS9.pick [2, 0] (by decide) _ rfl⟩
  ·have hT2 := (hT1).box (.cells #[.bool false, .int .i64 0, .int .i64 0, .slice none 0 0] 25)
   refine wpOp_value (v := .pointer (some ⟨(VhT1).heap.size, 0, none⟩)) (w' := (VhT1).alloc (.cells #[.bool false, .int .i64 0, .int .i64 0, .slice none 0 0] 25)) (by rw [List.getElem?_toArray]; rfl) wU (by first | (go_simp; done) | (go_simp; rfl) | (simp [execOp, Act.eval, Result.andThen]; done)) ?_
   refine ⟨⟨hT2.b, (hT2.blk 3 rfl).1⟩, ?_⟩
   go_frame
   obtain ⟨VhT2, hVhT2⟩ : ∃ V, V = (VhT1).alloc (.cells #[.bool false, .int .i64 0, .int .i64 0, .slice none 0 0] 25) := ⟨_, rfl⟩
   obtain ⟨nhT2, hnhT2⟩ : ∃ b, b = (VhT1).heap.size := ⟨_, rfl⟩
   rw [← hVhT2, ← hnhT2] at hT2
   simp only [← hVhT2, ← hnhT2]
   clear hVhT2 hnhT2
   refine wpAnyC_on [10] kR (by simp) ?_
   simp only [List.forall_mem_cons, List.not_mem_nil, false_implies, implies_true, and_true]
   refine wpOp_of_list (by rw [List.getElem?_toArray]; rfl) ?_
   ((with_reducible refine wpList_appL 1 E_ints wU wU (hT2) wU ((hR.below hT2.b)) (rfl) cIntO (by first | omega | (simp; omega)) (by first | omega | (simp; omega)) ?_); intro v3 w3 hT3)
   rw [List.nil_append] at hT3
   refine ⟨⟨hT3.b, (hT3.blk 3 rfl).1⟩, ?_⟩
   go_frame
   obtain ⟨a3, c3, rfl, _⟩ := hT3.slice 1 rfl
   refine wpAnyC_on [11] kR (by simp) ?_
   simp only [List.forall_mem_cons, List.not_mem_nil, false_implies, implies_true, and_true]
   refine wpOp_value (v := .agg #[.bool m.ring, .int .i64 m.gears, .int .i64 (-m.turn), .slice a3 m.sw.length c3]) (w' := w3) (by rw [List.getElem?_toArray]; rfl) wU (by first | (go_simp; done) | (go_simp; rfl) | (simp [execOp, Act.eval, Result.andThen]; done)) ?_
   refine ⟨⟨hT3.b, (hT3.blk 3 rfl).1⟩, ?_⟩
   go_frame
   refine wpAnyC_on [13] kR (by simp) ?_
   simp only [List.forall_mem_cons, List.not_mem_nil, false_implies, implies_true, and_true]
   refine wpOp_of_list (by rw [List.getElem?_toArray]; rfl) ?_
   ((with_reducible refine wpList_stoR (us := #[.bool m.ring, .int .i64 m.gears, .int .i64 (-m.turn), .slice a3 m.sw.length c3]) 0 wU wU (hT3) wU kR wU wU ?_); intro w4 hT4)
   refine ⟨⟨hT4.b, (hT4.blk 3 rfl).1⟩, ?_⟩
   go_frame
   refine wpAnyC_rest [] [] rfl rfl kR kR kR ⟨hT4.b, (hT4.blk 3 rfl).1⟩ ?_
   unfold wpPure
   refine of_wpList_nil (P := Tryz.prog) (ops := #[]) ?_
   have hS6 := (hT4.pick [0, 1, 2, 3] (by decide) [pBlk nhT2 (.cells #[.bool m.ring, .int .i64 m.gears, .int .i64 (-m.turn), .slice a3 m.sw.length c3] 25), pOwn cInt 1 3 (.slice a3 m.sw.length c3) m.sw, pBlk (w.heap.size + 1) (.cells #[.bool false, .int .i64 0, .int .i64 0, .slice none 0 0] 25), pBlk w.heap.size (.cells (mC m ad cap) 25)] rfl).nilS (α := Int) (c := cInt) (sz := 1) (e := 3) cIntS
   clear hT0 hT1 hT2 hT3 hT4
   revert hS6
   generalize nhT2 = b6
   generalize w4 = W6
   intro hS6
   go_wp2_with fail
   go_loopw [7, 8, 39, 49] (fun sv iv _ _ wr => ∃ k : Nat, k ≤ l.length ∧ iv = .int .i64 k ∧ SL w.heap.size w wr [pOwn cInt 1 3 sv ((l.take k).map mirM), pBlk b6 (.cells #[.bool m.ring, .int .i64 m.gears, .int .i64 (-m.turn), .slice a3 m.sw.length c3] 25), pOwn cInt 1 3 (.slice a3 m.sw.length c3) m.sw, pBlk (w.heap.size + 1) (.cells #[.bool false, .int .i64 0, .int .i64 0, .slice none 0 0] 25), pBlk w.heap.size (.cells (mC m ad cap) 25)]) (fun _ iv _ _ _ => l.length - (intOf iv).toNat)
   case atStart => exact ⟨0, by omega, rfl, hS6⟩
   case round =>
    clear hS6
    obtain ⟨k, hk, rfl, hSr⟩ := hrel
    have hLr := hL.below hSr.b
    by_cases hlt : k < l.length
    ·have ht := mapStep mirM hlt
     rw [← List.map_take, ← List.map_take] at ht
     have hrg := hl _ (atD_mem hlt)
     have hlen : ((l.take k).map mirM).length ≤ 1048576 := by simp; omega
     obtain ⟨x, hx⟩ : ∃ x, x = atD 0 l k := ⟨_, rfl⟩
     rw [← hx] at ht hrg
     have HX := hid hx
     clear hx
     have hw2 : IntKind.i64.wrap (x + 2) = x + 2 := IntWalk.i64_in _ (by omega)
     have hw3 : IntKind.i64.wrap (x - 2) = x - 2 := IntWalk.i64_in _ (by omega)
     have htm : x.tmod 4 = x % 4 := Int.tmod_eq_emod_of_nonneg (by omega)
     have hr4 : x % 4 = 0 ∨ x % 4 = 1 ∨ x % 4 = 2 ∨ x % 4 = 3 := by omega
     have hw4 : IntKind.i64.wrap 0 = 0 ∧ IntKind.i64.wrap 1 = 1 ∧ IntKind.i64.wrap 2 = 2 ∧ IntKind.i64.wrap 3 = 3 := by decide
     obtain ⟨z0, z1, z2, z3⟩ := hw4
     rcases hr4 with h | h | h | h
     ·rw [h] at htm
      rw [show mirM x = x by unfold mirM; rw [if_neg (by omega), if_neg (by omega)]] at ht
      have HT := hid ht
      clear ht hrg h
      go_wp2_with (first | ((with_reducible refine wpList_idx _ 0 E_ints F_int cInt1 wU wU (hLr) oD oD (fun _ => wU) (fun _ => ?_)); rw [← HX.out]) | ((with_reducible refine wpList_pushL (y := (x)) 0 E_ints wU wU (hSr) wU cIntO ⟨rfl, rfl⟩ (by first | with_unfolding_all rfl | simp) wU (by first | omega | (simp; omega)) (by first | omega | (simp; omega)) ?_); intro v2 w2 hS2))
      refine ⟨?_, by simp [intOf]; omega⟩
      repeat apply Exists.intro
      refine ⟨?_, rfl⟩
      exact ⟨k + 1, by omega, by go_num, by rw [HT.out]; exact hS2⟩
     ·rw [h] at htm
      rw [show mirM x = x + 2 by unfold mirM; rw [if_pos h]] at ht
      have HT := hid ht
      clear ht hrg h
      go_wp2_with (first | ((with_reducible refine wpList_idx _ 0 E_ints F_int cInt1 wU wU (hLr) oD oD (fun _ => wU) (fun _ => ?_)); rw [← HX.out]) | ((with_reducible refine wpList_pushL (y := (x + 2)) 0 E_ints wU wU (hSr) wU cIntO ⟨rfl, rfl⟩ (by first | with_unfolding_all rfl | simp) wU (by first | omega | (simp; omega)) (by first | omega | (simp; omega)) ?_); intro v2 w2 hS2))
      refine ⟨?_, by simp [intOf]; omega⟩
      repeat apply Exists.intro
      refine ⟨?_, rfl⟩
      exact ⟨k + 1, by omega, by go_num, by rw [HT.out]; exact hS2⟩
     ·rw [h] at htm
      rw [show mirM x = x by unfold mirM; rw [if_neg (by omega), if_neg (by omega)]] at ht
      have HT := hid ht
      clear ht hrg h
      go_wp2_with (first | ((with_reducible refine wpList_idx _ 0 E_ints F_int cInt1 wU wU (hLr) oD oD (fun _ => wU) (fun _ => ?_)); rw [← HX.out]) | ((with_reducible refine wpList_pushL (y := (x)) 0 E_ints wU wU (hSr) wU cIntO ⟨rfl, rfl⟩ (by first | with_unfolding_all rfl | simp) wU (by first | omega | (simp; omega)) (by first | omega | (simp; omega)) ?_); intro v2 w2 hS2))
      refine ⟨?_, by simp [intOf]; omega⟩
      repeat apply Exists.intro
      refine ⟨?_, rfl⟩
      exact ⟨k + 1, by omega, by go_num, by rw [HT.out]; exact hS2⟩
     ·rw [h] at htm
      rw [show mirM x = x - 2 by unfold mirM; rw [if_neg (by omega), if_pos h]] at ht
      have HT := hid ht
      clear ht hrg h
      go_wp2_with (first | ((with_reducible refine wpList_idx _ 0 E_ints F_int cInt1 wU wU (hLr) oD oD (fun _ => wU) (fun _ => ?_)); rw [← HX.out]) | ((with_reducible refine wpList_pushL (y := (x - 2)) 0 E_ints wU wU (hSr) wU cIntO ⟨rfl, rfl⟩ (by first | with_unfolding_all rfl | simp) wU (by first | omega | (simp; omega)) (by first | omega | (simp; omega)) ?_); intro v2 w2 hS2))
      refine ⟨?_, by simp [intOf]; omega⟩
      repeat apply Exists.intro
      refine ⟨?_, rfl⟩
      exact ⟨k + 1, by omega, by go_num, by rw [HT.out]; exact hS2⟩
    ·have hkk : k = l.length := by omega
     subst hkk
     rw [List.take_length] at hSr
     have q6 := (hSr.blk 1 rfl).1
     go_wp2_with (first | (with_reducible refine wpList_ldS (n := 4) (us := #[.bool m.ring, .int .i64 m.gears, .int .i64 (-m.turn), .slice a3 m.sw.length c3]) A_rmach kR wU wU (by assumption) wU wU ?_) | ((with_reducible refine wpList_stoR (us := #[.bool m.ring, .int .i64 m.gears, .int .i64 (-m.turn), .slice a3 m.sw.length c3]) 3 wU wU (hSr) wU kR wU wU ?_); intro w9 hS9))
     exact bodyPost_ret (results_cellSlot rfl rfl rfl A_rmach kR (hS9.blk 3 rfl).1) rfl ⟨a3, c3, _, rfl, hS9.pick [2, 0] (by decide) _ rfl⟩
 ·have hT1 := (hT0).box (.cells #[.bool false, .int .i64 0, .int .i64 0, .slice none 0 0] 25)
  refine wpOp_value (v := .pointer (some ⟨(W.drew).heap.size, 0, none⟩)) (w' := (W.drew).alloc (.cells #[.bool false, .int .i64 0, .int .i64 0, .slice none 0 0] 25)) (by rw [List.getElem?_toArray]; rfl) wU (by first | (go_simp; done) | (go_simp; rfl) | (simp [execOp, Act.eval, Result.andThen]; done)) ?_
  refine ⟨⟨hT1.b, (hT1.blk 2 rfl).1⟩, ?_⟩
  go_frame
  obtain ⟨VhT1, hVhT1⟩ : ∃ V, V = (W.drew).alloc (.cells #[.bool false, .int .i64 0, .int .i64 0, .slice none 0 0] 25) := ⟨_, rfl⟩
  obtain ⟨nhT1, hnhT1⟩ : ∃ b, b = (W.drew).heap.size := ⟨_, rfl⟩
  rw [← hVhT1, ← hnhT1] at hT1
  simp only [← hVhT1, ← hnhT1]
  clear hVhT1 hnhT1
  refine wpAnyC_on [7] kR (by simp) ?_
  simp only [List.forall_mem_cons, List.not_mem_nil, false_implies, implies_true, and_true]
  have hT2 := (hT1).call (SL.ofOwn (own_newN (e := 3) (w := VhT1) cIntS [] 0 rfl (by decide) #[] rfl (Nat.le_refl _) rfl) (bal (Below.refl _ _) _))
  simp only [List.cons_append, List.nil_append] at hT2
  refine wpOp_value (v := .slice (some ⟨(VhT1).heap.size, 0, none⟩) 0 0) (w' := (VhT1).alloc (.cells #[] 3)) (by rw [List.getElem?_toArray]; rfl) wU (by first | (go_simp; done) | (go_simp; rfl) | (simp [execOp, Act.eval, Result.andThen]; done)) ?_
  refine ⟨⟨hT2.b, (hT2.blk 3 rfl).1⟩, ?_⟩
  go_frame
  obtain ⟨VhT2, hVhT2⟩ : ∃ V, V = (VhT1).alloc (.cells #[] 3) := ⟨_, rfl⟩
  obtain ⟨nhT2, hnhT2⟩ : ∃ b, b = (VhT1).heap.size := ⟨_, rfl⟩
  rw [← hVhT2, ← hnhT2] at hT2
  simp only [← hVhT2, ← hnhT2]
  clear hVhT2 hnhT2
  refine wpAnyC_on [10] kR (by simp) ?_
  simp only [List.forall_mem_cons, List.not_mem_nil, false_implies, implies_true, and_true]
  refine wpOp_of_list (by rw [List.getElem?_toArray]; rfl) ?_
  ((with_reducible refine wpList_appL 0 E_ints wU wU (hT2) wU ((hR.below hT2.b)) (rfl) cIntO (by first | omega | (simp; omega)) (by first | omega | (simp; omega)) ?_); intro v3 w3 hT3)
  rw [List.nil_append] at hT3
  refine ⟨⟨hT3.b, (hT3.blk 3 rfl).1⟩, ?_⟩
  go_frame
  obtain ⟨a3, c3, rfl, _⟩ := hT3.slice 0 rfl
  refine wpAnyC_on [11] kR (by simp) ?_
  simp only [List.forall_mem_cons, List.not_mem_nil, false_implies, implies_true, and_true]
  refine wpOp_value (v := .agg #[.bool m.ring, .int .i64 m.gears, .int .i64 (-m.turn), .slice a3 m.sw.length c3]) (w' := w3) (by rw [List.getElem?_toArray]; rfl) wU (by first | (go_simp; done) | (go_simp; rfl) | (simp [execOp, Act.eval, Result.andThen]; done)) ?_
  refine ⟨⟨hT3.b, (hT3.blk 3 rfl).1⟩, ?_⟩
  go_frame
  refine wpAnyC_on [13] kR (by simp) ?_
  simp only [List.forall_mem_cons, List.not_mem_nil, false_implies, implies_true, and_true]
  refine wpOp_of_list (by rw [List.getElem?_toArray]; rfl) ?_
  ((with_reducible refine wpList_stoR (us := #[.bool m.ring, .int .i64 m.gears, .int .i64 (-m.turn), .slice a3 m.sw.length c3]) 1 wU wU (hT3) wU kR wU wU ?_); intro w4 hT4)
  refine ⟨⟨hT4.b, (hT4.blk 3 rfl).1⟩, ?_⟩
  go_frame
  refine wpAnyC_rest [] [] rfl rfl kR kR kR ⟨hT4.b, (hT4.blk 3 rfl).1⟩ ?_
  unfold wpPure
  refine of_wpList_nil (P := Tryz.prog) (ops := #[]) ?_
  have hS6 := (hT4.pick [1, 0, 2, 3] (by decide) [pBlk nhT1 (.cells #[.bool m.ring, .int .i64 m.gears, .int .i64 (-m.turn), .slice a3 m.sw.length c3] 25), pOwn cInt 1 3 (.slice a3 m.sw.length c3) m.sw, pBlk (w.heap.size + 1) (.cells #[.bool false, .int .i64 0, .int .i64 0, .slice none 0 0] 25), pBlk w.heap.size (.cells (mC m ad cap) 25)] rfl).nilS (α := Int) (c := cInt) (sz := 1) (e := 3) cIntS
  clear hT0 hT1 hT2 hT3 hT4
  revert hS6
  generalize nhT1 = b6
  generalize w4 = W6
  intro hS6
  go_wp2_with fail
  go_loopw [7, 8, 39, 49] (fun sv iv _ _ wr => ∃ k : Nat, k ≤ l.length ∧ iv = .int .i64 k ∧ SL w.heap.size w wr [pOwn cInt 1 3 sv ((l.take k).map mirM), pBlk b6 (.cells #[.bool m.ring, .int .i64 m.gears, .int .i64 (-m.turn), .slice a3 m.sw.length c3] 25), pOwn cInt 1 3 (.slice a3 m.sw.length c3) m.sw, pBlk (w.heap.size + 1) (.cells #[.bool false, .int .i64 0, .int .i64 0, .slice none 0 0] 25), pBlk w.heap.size (.cells (mC m ad cap) 25)]) (fun _ iv _ _ _ => l.length - (intOf iv).toNat)
  case atStart => exact ⟨0, by omega, rfl, hS6⟩
  case round =>
   clear hS6
   obtain ⟨k, hk, rfl, hSr⟩ := hrel
   have hLr := hL.below hSr.b
   by_cases hlt : k < l.length
   ·have ht := mapStep mirM hlt
    rw [← List.map_take, ← List.map_take] at ht
    have hrg := hl _ (atD_mem hlt)
    have hlen : ((l.take k).map mirM).length ≤ 1048576 := by simp; omega
    obtain ⟨x, hx⟩ : ∃ x, x = atD 0 l k := ⟨_, rfl⟩
    rw [← hx] at ht hrg
    have HX := hid hx
    clear hx
    have hw2 : IntKind.i64.wrap (x + 2) = x + 2 := IntWalk.i64_in _ (by omega)
    have hw3 : IntKind.i64.wrap (x - 2) = x - 2 := IntWalk.i64_in _ (by omega)
    have htm : x.tmod 4 = x % 4 := Int.tmod_eq_emod_of_nonneg (by omega)
    have hr4 : x % 4 = 0 ∨ x % 4 = 1 ∨ x % 4 = 2 ∨ x % 4 = 3 := by omega
    have hw4 : IntKind.i64.wrap 0 = 0 ∧ IntKind.i64.wrap 1 = 1 ∧ IntKind.i64.wrap 2 = 2 ∧ IntKind.i64.wrap 3 = 3 := by decide
    obtain ⟨z0, z1, z2, z3⟩ := hw4
    rcases hr4 with h | h | h | h
    ·rw [h] at htm
     rw [show mirM x = x by unfold mirM; rw [if_neg (by omega), if_neg (by omega)]] at ht
     have HT := hid ht
     clear ht hrg h
     go_wp2_with (first | ((with_reducible refine wpList_idx _ 0 E_ints F_int cInt1 wU wU (hLr) oD oD (fun _ => wU) (fun _ => ?_)); rw [← HX.out]) | ((with_reducible refine wpList_pushL (y := (x)) 0 E_ints wU wU (hSr) wU cIntO ⟨rfl, rfl⟩ (by first | with_unfolding_all rfl | simp) wU (by first | omega | (simp; omega)) (by first | omega | (simp; omega)) ?_); intro v2 w2 hS2))
     refine ⟨?_, by simp [intOf]; omega⟩
     repeat apply Exists.intro
     refine ⟨?_, rfl⟩
     exact ⟨k + 1, by omega, by go_num, by rw [HT.out]; exact hS2⟩
    ·rw [h] at htm
     rw [show mirM x = x + 2 by unfold mirM; rw [if_pos h]] at ht
     have HT := hid ht
     clear ht hrg h
     go_wp2_with (first | ((with_reducible refine wpList_idx _ 0 E_ints F_int cInt1 wU wU (hLr) oD oD (fun _ => wU) (fun _ => ?_)); rw [← HX.out]) | ((with_reducible refine wpList_pushL (y := (x + 2)) 0 E_ints wU wU (hSr) wU cIntO ⟨rfl, rfl⟩ (by first | with_unfolding_all rfl | simp) wU (by first | omega | (simp; omega)) (by first | omega | (simp; omega)) ?_); intro v2 w2 hS2))
     refine ⟨?_, by simp [intOf]; omega⟩
     repeat apply Exists.intro
     refine ⟨?_, rfl⟩
     exact ⟨k + 1, by omega, by go_num, by rw [HT.out]; exact hS2⟩
    ·rw [h] at htm
     rw [show mirM x = x by unfold mirM; rw [if_neg (by omega), if_neg (by omega)]] at ht
     have HT := hid ht
     clear ht hrg h
     go_wp2_with (first | ((with_reducible refine wpList_idx _ 0 E_ints F_int cInt1 wU wU (hLr) oD oD (fun _ => wU) (fun _ => ?_)); rw [← HX.out]) | ((with_reducible refine wpList_pushL (y := (x)) 0 E_ints wU wU (hSr) wU cIntO ⟨rfl, rfl⟩ (by first | with_unfolding_all rfl | simp) wU (by first | omega | (simp; omega)) (by first | omega | (simp; omega)) ?_); intro v2 w2 hS2))
     refine ⟨?_, by simp [intOf]; omega⟩
     repeat apply Exists.intro
     refine ⟨?_, rfl⟩
     exact ⟨k + 1, by omega, by go_num, by rw [HT.out]; exact hS2⟩
    ·rw [h] at htm
     rw [show mirM x = x - 2 by unfold mirM; rw [if_neg (by omega), if_pos h]] at ht
     have HT := hid ht
     clear ht hrg h
     go_wp2_with (first | ((with_reducible refine wpList_idx _ 0 E_ints F_int cInt1 wU wU (hLr) oD oD (fun _ => wU) (fun _ => ?_)); rw [← HX.out]) | ((with_reducible refine wpList_pushL (y := (x - 2)) 0 E_ints wU wU (hSr) wU cIntO ⟨rfl, rfl⟩ (by first | with_unfolding_all rfl | simp) wU (by first | omega | (simp; omega)) (by first | omega | (simp; omega)) ?_); intro v2 w2 hS2))
     refine ⟨?_, by simp [intOf]; omega⟩
     repeat apply Exists.intro
     refine ⟨?_, rfl⟩
     exact ⟨k + 1, by omega, by go_num, by rw [HT.out]; exact hS2⟩
   ·have hkk : k = l.length := by omega
    subst hkk
    rw [List.take_length] at hSr
    have q6 := (hSr.blk 1 rfl).1
    go_wp2_with (first | (with_reducible refine wpList_ldS (n := 4) (us := #[.bool m.ring, .int .i64 m.gears, .int .i64 (-m.turn), .slice a3 m.sw.length c3]) A_rmach kR wU wU (by assumption) wU wU ?_) | ((with_reducible refine wpList_stoR (us := #[.bool m.ring, .int .i64 m.gears, .int .i64 (-m.turn), .slice a3 m.sw.length c3]) 3 wU wU (hSr) wU kR wU wU ?_); intro w9 hS9))
    exact bodyPost_ret (results_cellSlot rfl rfl rfl A_rmach kR (hS9.blk 3 rfl).1) rfl ⟨a3, c3, _, rfl, hS9.pick [2, 0] (by decide) _ rfl⟩
theorem rBackwards_any (m : MacV) (ad : Option Addr) (cap : Nat) (al : Option Addr) (cl : Nat) (l : List Int) (w : World) (hR : Ints w ad cap m.sw) (hL : Ints w al cl l) (hg0 : 1 ≤ m.gears) (ht : m.turn = 1 ∨ m.turn = -1) (hs : m.sw.length ≤ 16) (hn : l.length ≤ 1048576) (hl : ∀ x ∈ l, 0 ≤ x ∧ x < 4 * m.gears) (hgg : m.gears ≤ 16) :
  Calls Tryz.prog 39 #[mV m ad cap, .slice al l.length cl] w fun r w' => ∃ a c v, r = .returned (.tuple #[mV (turnMac m) a c, v]) ∧ SL w.heap.size w w' [pOwn cInt 1 3 (.slice a m.sw.length c) m.sw, pOwn cInt 1 3 v (l.map (overM m))] := by
 have hcap := hR.le
 have hmx := hR.max
 have hcapl := hL.le
 have hmxl := hL.max
 have hS := ((SL.nil w).box (.cells (mC m ad cap) 25)).box (.cells #[.bool false, .int .i64 0, .int .i64 0, .slice none 0 0] 25)
 simp only [World.size_alloc] at hS
 have q1 := (hS.blk 1 rfl).1
 have hb := hS.b
 have hw0 : IntKind.i64.wrap (0 - m.turn) = -m.turn := by rw [Int.zero_sub]; exact IntWalk.i64_in _ (by omega)
 have hw1 : IntKind.i64.wrap (-m.turn) = -m.turn := IntWalk.i64_in _ (by omega)
 have HOV : Hid (∀ (x : Int) w, Ints w ad cap m.sw → 0 ≤ x → x < 4 * m.gears → _) := hid fun x w h h0 h1 => rOver_any m ad cap x w h hg0 hgg h0 h1
 go_enter Tryz.func39, Tryz.ntmps39
 go_wp2_with fail
 obtain ⟨W, hW⟩ : ∃ W, W = (w.alloc (.cells (mC m ad cap) 25)).alloc (.cells #[.bool false, .int .i64 0, .int .i64 0, .slice none 0 0] 25) := ⟨_, rfl⟩
 rw [← hW] at hS q1 hb ⊢
 clear hW
 have kc : ∀ (V : World), (Below w.heap.size w V ∧ V.heap[w.heap.size]? = some (.cells (mC m ad cap) 25)) → ∀ j u, (mC m ad cap)[j]? = some u → V.cell? ⟨w.heap.size, j, none⟩ = some u := by
  rintro V ⟨_, h⟩ j u hu
  simp [World.cell?, h, hu]
 refine wp_regionK (C := (fun V => Below w.heap.size w V ∧ V.heap[w.heap.size]? = some (.cells (mC m ad cap) 25))) [0, 1, 2, 3, 4, 5, 6, 8, 9] [_, _, _, _, _, _, _, _, _] 5 (by simp only [List.map_cons, List.map_nil, List.getElem?_toArray]; rfl) rfl kR kR kR (⟨hb.drew, q1⟩) ?_
 refine ⟨_, yieldsK_val wU (fun w' => by with_unfolding_all exact rfl), ?_⟩
 go_frame
 refine ⟨_, yieldsK_cellC F_boolM (fun V h => kc V h 0 _ rfl) wU wU, ?_⟩
 go_frame
 refine ⟨_, yieldsK_val wU (fun w' => by with_unfolding_all exact rfl), ?_⟩
 go_frame
 refine ⟨_, yieldsK_cellC F_int (fun V h => kc V h 1 _ rfl) wU wU, ?_⟩
 go_frame
 refine ⟨_, yieldsK_val wU (fun w' => by with_unfolding_all exact rfl), ?_⟩
 go_frame
 refine ⟨_, yieldsK_cellC F_int (fun V h => kc V h 2 _ rfl) wU wU, ?_⟩
 go_frame
 refine ⟨.int .i64 (-m.turn), yieldsK_val wU (fun w' => by first | (go_simp; done) | (go_simp; rfl)), ?_⟩
 go_frame
 refine ⟨_, yieldsK_val wU (fun w' => by with_unfolding_all exact rfl), ?_⟩
 go_frame
 refine ⟨_, yieldsK_cellC F_sliceM (fun V h => kc V h 3 _ rfl) wU wU, ?_⟩
 go_frame
 unfold wpPureK
 have hVd : ({ W with drawn := W.drawn + 1 } : World) = W.drew := rfl
 rw [hVd]
 have hT0 := hS.drew
 refine wpAnyC_on [7, 12] kR (by simp) ?_
 simp only [List.forall_mem_cons, List.not_mem_nil, false_implies, implies_true, and_true]
 refine ⟨?_, ?_⟩
 ·have hT1 := (hT0).call (SL.ofOwn (own_newN (e := 3) (w := W.drew) cIntS [] 0 rfl (by decide) #[] rfl (Nat.le_refl _) rfl) (bal (Below.refl _ _) _))
  simp only [List.cons_append, List.nil_append] at hT1
  refine wpOp_value (v := .slice (some ⟨(W.drew).heap.size, 0, none⟩) 0 0) (w' := (W.drew).alloc (.cells #[] 3)) (by rw [List.getElem?_toArray]; rfl) wU (by first | (go_simp; done) | (go_simp; rfl) | (simp [execOp, Act.eval, Result.andThen]; done)) ?_
  refine ⟨⟨hT1.b, (hT1.blk 2 rfl).1⟩, ?_⟩
  go_frame
  obtain ⟨VhT1, hVhT1⟩ : ∃ V, V = (W.drew).alloc (.cells #[] 3) := ⟨_, rfl⟩
  obtain ⟨nhT1, hnhT1⟩ : ∃ b, b = (W.drew).heap.size := ⟨_, rfl⟩
  rw [← hVhT1, ← hnhT1] at hT1
  simp only [← hVhT1, ← hnhT1]
  clear hVhT1 hnhT1
  refine wpAnyC_on [10, 12] kR (by simp) ?_
  simp only [List.forall_mem_cons, List.not_mem_nil, false_implies, implies_true, and_true]
  refine ⟨?_, ?_⟩
  ·refine wpOp_of_list (by rw [List.getElem?_toArray]; rfl) ?_
   ((with_reducible refine wpList_appL 0 E_ints wU wU (hT1) wU ((hR.below hT1.b)) (rfl) cIntO (by first | omega | (simp; omega)) (by first | omega | (simp; omega)) ?_); intro v2 w2 hT2)
   rw [List.nil_append] at hT2
   refine ⟨⟨hT2.b, (hT2.blk 2 rfl).1⟩, ?_⟩
   go_frame
   obtain ⟨a2, c2, rfl, _⟩ := hT2.slice 0 rfl
   refine wpAnyC_on [11, 12] kR (by simp) ?_
   simp only [List.forall_mem_cons, List.not_mem_nil, false_implies, implies_true, and_true]
   refine ⟨?_, ?_⟩
   ·refine wpOp_value (v := .agg #[.bool m.ring, .int .i64 m.gears, .int .i64 (-m.turn), .slice a2 m.sw.length c2]) (w' := w2) (by rw [List.getElem?_toArray]; rfl) wU (by first | (go_simp; done) | (go_simp; rfl) | (simp [execOp, Act.eval, Result.andThen]; done)) ?_
    refine ⟨⟨hT2.b, (hT2.blk 2 rfl).1⟩, ?_⟩
    go_frame
    refine wpAnyC_on [12] kR (by simp) ?_
    simp only [List.forall_mem_cons, List.not_mem_nil, false_implies, implies_true, and_true]
    have hT3 := (hT2).box (.cells #[.bool false, .int .i64 0, .int .i64 0, .slice none 0 0] 25)
    refine wpOp_value (v := .pointer (some ⟨(w2).heap.size, 0, none⟩)) (w' := (w2).alloc (.cells #[.bool false, .int .i64 0, .int .i64 0, .slice none 0 0] 25)) (by rw [List.getElem?_toArray]; rfl) wU (by first | (go_simp; done) | (go_simp; rfl) | (simp [execOp, Act.eval, Result.andThen]; done)) ?_
    refine ⟨⟨hT3.b, (hT3.blk 3 rfl).1⟩, ?_⟩
    go_frame
    obtain ⟨VhT3, hVhT3⟩ : ∃ V, V = (w2).alloc (.cells #[.bool false, .int .i64 0, .int .i64 0, .slice none 0 0] 25) := ⟨_, rfl⟩
    obtain ⟨nhT3, hnhT3⟩ : ∃ b, b = (w2).heap.size := ⟨_, rfl⟩
    rw [← hVhT3, ← hnhT3] at hT3
    simp only [← hVhT3, ← hnhT3]
    clear hVhT3 hnhT3
    refine wpAnyC_on [13] kR (by simp) ?_
    simp only [List.forall_mem_cons, List.not_mem_nil, false_implies, implies_true, and_true]
    refine wpOp_of_list (by rw [List.getElem?_toArray]; rfl) ?_
    ((with_reducible refine wpList_stoR (us := #[.bool m.ring, .int .i64 m.gears, .int .i64 (-m.turn), .slice a2 m.sw.length c2]) 0 wU wU (hT3) wU kR wU wU ?_); intro w4 hT4)
    refine ⟨⟨hT4.b, (hT4.blk 3 rfl).1⟩, ?_⟩
    go_frame
    refine wpAnyC_rest [] [] rfl rfl kR kR kR ⟨hT4.b, (hT4.blk 3 rfl).1⟩ ?_
    unfold wpPure
    refine of_wpList_nil (P := Tryz.prog) (ops := #[]) ?_
    have hS6 := (hT4.pick [0, 1, 2, 3] (by decide) [pBlk nhT3 (.cells #[.bool m.ring, .int .i64 m.gears, .int .i64 (-m.turn), .slice a2 m.sw.length c2] 25), pOwn cInt 1 3 (.slice a2 m.sw.length c2) m.sw, pBlk (w.heap.size + 1) (.cells #[.bool false, .int .i64 0, .int .i64 0, .slice none 0 0] 25), pBlk w.heap.size (.cells (mC m ad cap) 25)] rfl).nilS (α := Int) (c := cInt) (sz := 1) (e := 3) cIntS
    clear hT0 hT1 hT2 hT3 hT4
    revert hS6
    generalize nhT3 = b6
    generalize w4 = W6
    intro hS6
    go_wp2_with fail
    go_loopw [7, 8] (fun sv iv wr => ∃ k : Nat, k ≤ l.length ∧ iv = .int .i64 k ∧ SL w.heap.size w wr [pOwn cInt 1 3 sv ((l.take k).map (overM m)), pBlk b6 (.cells #[.bool m.ring, .int .i64 m.gears, .int .i64 (-m.turn), .slice a2 m.sw.length c2] 25), pOwn cInt 1 3 (.slice a2 m.sw.length c2) m.sw, pBlk (w.heap.size + 1) (.cells #[.bool false, .int .i64 0, .int .i64 0, .slice none 0 0] 25), pBlk w.heap.size (.cells (mC m ad cap) 25)]) (fun _ iv _ => l.length - (intOf iv).toNat)
    case atStart => exact ⟨0, by omega, rfl, hS6⟩
    case round =>
     clear hS6
     obtain ⟨k, hk, rfl, hSr⟩ := hrel
     have hLr := hL.below hSr.b
     by_cases hlt : k < l.length
     ·have ht := mapStep (overM m) hlt
      rw [← List.map_take, ← List.map_take] at ht
      have hrg := hl _ (atD_mem hlt)
      have hlen : ((l.take k).map (overM m)).length ≤ 1048576 := by simp; omega
      obtain ⟨x, hx⟩ : ∃ x, x = atD 0 l k := ⟨_, rfl⟩
      rw [← hx] at ht hrg
      have HX := hid hx
      clear hx
      have q4 := (hSr.blk 4 rfl).1
      have CX := fun w h => HOV.out x w h hrg.1 hrg.2
      obtain ⟨bl, ol, hal, hcl⟩ := hL.cells (by decide) 0 k hlt
      subst hal
      have hcell : w.cell? ⟨bl, ol + k * 1, none⟩ = some (.int .i64 x) := by
       have := hcl 0 (cInt (atD 0 l k)) (by simp [cInt, Value.cells, atD])
       rw [← HX.out] at this
       simpa [Addr.add_z, cInt] using this
      have HT := hid ht; have HCX := hid CX
      clear ht CX hrg
      go_wp2_with fail
      refine wp_regionK (C := (fun V => Below w.heap.size w V ∧ V.heap[w.heap.size]? = some (.cells (mC m ad cap) 25))) [0, 1, 2, 3, 4, 5] [_, _, _, _, _, _] 4 (by simp only [List.map_cons, List.map_nil, List.getElem?_toArray]; rfl) rfl kR kR kR (⟨hSr.b.drew, q4⟩) ?_
      refine ⟨_, yieldsK_val wU (fun w' => by with_unfolding_all exact rfl), ?_⟩
      go_frame
      refine ⟨_, yieldsK_blkC (n := 4) A_rmach kR (fun V h => h.2) rfl wU wU, ?_⟩
      go_frame
      refine ⟨_, yieldsK_val wU (fun w' => by with_unfolding_all exact rfl), ?_⟩
      go_frame
      refine ⟨_, yieldsK_val wU (fun w' => by with_unfolding_all exact rfl), ?_⟩
      go_frame
      refine ⟨_, yieldsK_idx (k := (k : Int)) (n := l.length) E_ints (by omega) (by omega) wU wU wU, ?_⟩
      go_frame
      refine ⟨_, yieldsK_cellC F_int (fun V h => (h.1.cell (World.block_lt_of_cell? w _ hcell)).trans hcell) wU wU, ?_⟩
      go_frame
      unfold wpPureK
      have hVd : ({ wr with drawn := wr.drawn + 1 } : World) = wr.drew := rfl
      rw [hVd]
      have hS2 := hSr.drew
      refine wpAnyC_on [6] kR (by simp) ?_
      simp only [List.forall_mem_cons, List.not_mem_nil, false_implies, implies_true, and_true]
      refine wpOp_call (f := 94) (args := #[mV m ad cap, .int .i64 x]) (by rw [List.getElem?_toArray]; rfl) wU (by first | (go_simp; done) | (simp [execOp, Act.eval, Result.andThen]; done) | (simp [execOp, Act.eval, Result.andThen]; rfl)) ?_
      refine (HCX.out _ (hR.below hS2.b)).mono ?_
      rintro e w2 ⟨rfl, b2⟩
      have hS3 := hS2.mono b2
      refine ⟨_, rfl, ⟨hS3.b, (hS3.blk 4 rfl).1⟩, ?_⟩
      go_frame
      have hS5 := hS3.call (SL.ofOwn (own_newN (e := 3) (w := w2) cIntS [overM m x] 1 rfl (by decide) #[.int .i64 (overM m x)] rfl (Nat.le_refl _) rfl) (bal (Below.refl _ _) _))
      simp only [List.cons_append, List.nil_append] at hS5
      refine wpAnyC_on [7] kR (by simp) ?_
      simp only [List.forall_mem_cons, List.not_mem_nil, false_implies, implies_true, and_true]
      refine wpOp_value (v := .slice (some ⟨w2.heap.size, 0, none⟩) 1 1) (w' := w2.alloc (.cells #[.int .i64 (overM m x)] 3)) (by rw [List.getElem?_toArray]; rfl) wU (by first | (go_simp; done) | (go_simp; rfl) | (simp [execOp, Act.eval, Result.andThen]; done)) ?_
      refine ⟨⟨hS5.b, (hS5.blk 5 rfl).1⟩, ?_⟩
      go_frame
      refine wpAnyC_on [8] kR (by simp) ?_
      simp only [List.forall_mem_cons, List.not_mem_nil, false_implies, implies_true, and_true]
      refine wpOp_of_list (by rw [List.getElem?_toArray]; rfl) ?_
      have hRb := hS5.rd 0 rfl
      ((with_reducible refine wpList_appL 1 E_ints wU wU (hS5) wU (hRb) (rfl) cIntO (by first | omega | (simp; omega)) (by first | omega | (simp; omega)) ?_); intro v6 w6 hS6)
      refine ⟨⟨hS6.b, (hS6.blk 5 rfl).1⟩, ?_⟩
      go_frame
      refine wpAnyC_on [9] kR (by simp) ?_
      simp only [List.forall_mem_cons, List.not_mem_nil, false_implies, implies_true, and_true]
      refine wpOp_value (v := v6) (w' := w6) (by rw [List.getElem?_toArray]; rfl) wU (by first | (go_simp; done) | (go_simp; rfl) | (simp [execOp, Act.eval, Result.andThen]; done)) ?_
      refine ⟨⟨hS6.b, (hS6.blk 5 rfl).1⟩, ?_⟩
      go_frame
      refine wpAnyC_rest [] [] rfl rfl kR kR kR ⟨hS6.b, (hS6.blk 5 rfl).1⟩ ?_
      unfold wpPure
      refine of_wpList_nil (P := Tryz.prog) (ops := #[]) ?_
      go_wp2_with fail
      exact ⟨⟨k + 1, by omega, by go_num, by rw [HT.out]; exact hS6.tail⟩, by simp [intOf]; omega⟩
     ·have hkk : k = l.length := by omega
      subst hkk
      rw [List.take_length] at hSr
      have q6 := (hSr.blk 1 rfl).1
      go_wp2_with (first | (with_reducible refine wpList_ldS (n := 4) (us := #[.bool m.ring, .int .i64 m.gears, .int .i64 (-m.turn), .slice a2 m.sw.length c2]) A_rmach kR wU wU (by assumption) wU wU ?_) | ((with_reducible refine wpList_stoR (us := #[.bool m.ring, .int .i64 m.gears, .int .i64 (-m.turn), .slice a2 m.sw.length c2]) 3 wU wU (hSr) wU kR wU wU ?_); intro w9 hS9))
      exact bodyPost_ret (results_cellSlot rfl rfl rfl A_rmach kR (hS9.blk 3 rfl).1) rfl ⟨a2, c2, _, rfl, hS9.pick [2, 0] (by decide) _ rfl⟩
   ·have hT3 := (hT2).box (.cells #[.bool false, .int .i64 0, .int .i64 0, .slice none 0 0] 25)
    refine wpOp_value (v := .pointer (some ⟨(w2).heap.size, 0, none⟩)) (w' := (w2).alloc (.cells #[.bool false, .int .i64 0, .int .i64 0, .slice none 0 0] 25)) (by rw [List.getElem?_toArray]; rfl) wU (by first | (go_simp; done) | (go_simp; rfl) | (simp [execOp, Act.eval, Result.andThen]; done)) ?_
    refine ⟨⟨hT3.b, (hT3.blk 3 rfl).1⟩, ?_⟩
    go_frame
    obtain ⟨VhT3, hVhT3⟩ : ∃ V, V = (w2).alloc (.cells #[.bool false, .int .i64 0, .int .i64 0, .slice none 0 0] 25) := ⟨_, rfl⟩
    obtain ⟨nhT3, hnhT3⟩ : ∃ b, b = (w2).heap.size := ⟨_, rfl⟩
    rw [← hVhT3, ← hnhT3] at hT3
    simp only [← hVhT3, ← hnhT3]
    clear hVhT3 hnhT3
    refine wpAnyC_on [11] kR (by simp) ?_
    simp only [List.forall_mem_cons, List.not_mem_nil, false_implies, implies_true, and_true]
    refine wpOp_value (v := .agg #[.bool m.ring, .int .i64 m.gears, .int .i64 (-m.turn), .slice a2 m.sw.length c2]) (w' := VhT3) (by rw [List.getElem?_toArray]; rfl) wU (by first | (go_simp; done) | (go_simp; rfl) | (simp [execOp, Act.eval, Result.andThen]; done)) ?_
    refine ⟨⟨hT3.b, (hT3.blk 3 rfl).1⟩, ?_⟩
    go_frame
    refine wpAnyC_on [13] kR (by simp) ?_
    simp only [List.forall_mem_cons, List.not_mem_nil, false_implies, implies_true, and_true]
    refine wpOp_of_list (by rw [List.getElem?_toArray]; rfl) ?_
    ((with_reducible refine wpList_stoR (us := #[.bool m.ring, .int .i64 m.gears, .int .i64 (-m.turn), .slice a2 m.sw.length c2]) 0 wU wU (hT3) wU kR wU wU ?_); intro w4 hT4)
    refine ⟨⟨hT4.b, (hT4.blk 3 rfl).1⟩, ?_⟩
    go_frame
    refine wpAnyC_rest [] [] rfl rfl kR kR kR ⟨hT4.b, (hT4.blk 3 rfl).1⟩ ?_
    unfold wpPure
    refine of_wpList_nil (P := Tryz.prog) (ops := #[]) ?_
    have hS6 := (hT4.pick [0, 1, 2, 3] (by decide) [pBlk nhT3 (.cells #[.bool m.ring, .int .i64 m.gears, .int .i64 (-m.turn), .slice a2 m.sw.length c2] 25), pOwn cInt 1 3 (.slice a2 m.sw.length c2) m.sw, pBlk (w.heap.size + 1) (.cells #[.bool false, .int .i64 0, .int .i64 0, .slice none 0 0] 25), pBlk w.heap.size (.cells (mC m ad cap) 25)] rfl).nilS (α := Int) (c := cInt) (sz := 1) (e := 3) cIntS
    clear hT0 hT1 hT2 hT3 hT4
    revert hS6
    generalize nhT3 = b6
    generalize w4 = W6
    intro hS6
    go_wp2_with fail
    go_loopw [7, 8] (fun sv iv wr => ∃ k : Nat, k ≤ l.length ∧ iv = .int .i64 k ∧ SL w.heap.size w wr [pOwn cInt 1 3 sv ((l.take k).map (overM m)), pBlk b6 (.cells #[.bool m.ring, .int .i64 m.gears, .int .i64 (-m.turn), .slice a2 m.sw.length c2] 25), pOwn cInt 1 3 (.slice a2 m.sw.length c2) m.sw, pBlk (w.heap.size + 1) (.cells #[.bool false, .int .i64 0, .int .i64 0, .slice none 0 0] 25), pBlk w.heap.size (.cells (mC m ad cap) 25)]) (fun _ iv _ => l.length - (intOf iv).toNat)
    case atStart => exact ⟨0, by omega, rfl, hS6⟩
    case round =>
     clear hS6
     obtain ⟨k, hk, rfl, hSr⟩ := hrel
     have hLr := hL.below hSr.b
     by_cases hlt : k < l.length
     ·have ht := mapStep (overM m) hlt
      rw [← List.map_take, ← List.map_take] at ht
      have hrg := hl _ (atD_mem hlt)
      have hlen : ((l.take k).map (overM m)).length ≤ 1048576 := by simp; omega
      obtain ⟨x, hx⟩ : ∃ x, x = atD 0 l k := ⟨_, rfl⟩
      rw [← hx] at ht hrg
      have HX := hid hx
      clear hx
      have q4 := (hSr.blk 4 rfl).1
      have CX := fun w h => HOV.out x w h hrg.1 hrg.2
      obtain ⟨bl, ol, hal, hcl⟩ := hL.cells (by decide) 0 k hlt
      subst hal
      have hcell : w.cell? ⟨bl, ol + k * 1, none⟩ = some (.int .i64 x) := by
       have := hcl 0 (cInt (atD 0 l k)) (by simp [cInt, Value.cells, atD])
       rw [← HX.out] at this
       simpa [Addr.add_z, cInt] using this
      have HT := hid ht; have HCX := hid CX
      clear ht CX hrg
      go_wp2_with fail
      refine wp_regionK (C := (fun V => Below w.heap.size w V ∧ V.heap[w.heap.size]? = some (.cells (mC m ad cap) 25))) [0, 1, 2, 3, 4, 5] [_, _, _, _, _, _] 4 (by simp only [List.map_cons, List.map_nil, List.getElem?_toArray]; rfl) rfl kR kR kR (⟨hSr.b.drew, q4⟩) ?_
      refine ⟨_, yieldsK_val wU (fun w' => by with_unfolding_all exact rfl), ?_⟩
      go_frame
      refine ⟨_, yieldsK_blkC (n := 4) A_rmach kR (fun V h => h.2) rfl wU wU, ?_⟩
      go_frame
      refine ⟨_, yieldsK_val wU (fun w' => by with_unfolding_all exact rfl), ?_⟩
      go_frame
      refine ⟨_, yieldsK_val wU (fun w' => by with_unfolding_all exact rfl), ?_⟩
      go_frame
      refine ⟨_, yieldsK_idx (k := (k : Int)) (n := l.length) E_ints (by omega) (by omega) wU wU wU, ?_⟩
      go_frame
      refine ⟨_, yieldsK_cellC F_int (fun V h => (h.1.cell (World.block_lt_of_cell? w _ hcell)).trans hcell) wU wU, ?_⟩
      go_frame
      unfold wpPureK
      have hVd : ({ wr with drawn := wr.drawn + 1 } : World) = wr.drew := rfl
      rw [hVd]
      have hS2 := hSr.drew
      refine wpAnyC_on [6] kR (by simp) ?_
      simp only [List.forall_mem_cons, List.not_mem_nil, false_implies, implies_true, and_true]
      refine wpOp_call (f := 94) (args := #[mV m ad cap, .int .i64 x]) (by rw [List.getElem?_toArray]; rfl) wU (by first | (go_simp; done) | (simp [execOp, Act.eval, Result.andThen]; done) | (simp [execOp, Act.eval, Result.andThen]; rfl)) ?_
      refine (HCX.out _ (hR.below hS2.b)).mono ?_
      rintro e w2 ⟨rfl, b2⟩
      have hS3 := hS2.mono b2
      refine ⟨_, rfl, ⟨hS3.b, (hS3.blk 4 rfl).1⟩, ?_⟩
      go_frame
      have hS5 := hS3.call (SL.ofOwn (own_newN (e := 3) (w := w2) cIntS [overM m x] 1 rfl (by decide) #[.int .i64 (overM m x)] rfl (Nat.le_refl _) rfl) (bal (Below.refl _ _) _))
      simp only [List.cons_append, List.nil_append] at hS5
      refine wpAnyC_on [7] kR (by simp) ?_
      simp only [List.forall_mem_cons, List.not_mem_nil, false_implies, implies_true, and_true]
      refine wpOp_value (v := .slice (some ⟨w2.heap.size, 0, none⟩) 1 1) (w' := w2.alloc (.cells #[.int .i64 (overM m x)] 3)) (by rw [List.getElem?_toArray]; rfl) wU (by first | (go_simp; done) | (go_simp; rfl) | (simp [execOp, Act.eval, Result.andThen]; done)) ?_
      refine ⟨⟨hS5.b, (hS5.blk 5 rfl).1⟩, ?_⟩
      go_frame
      refine wpAnyC_on [8] kR (by simp) ?_
      simp only [List.forall_mem_cons, List.not_mem_nil, false_implies, implies_true, and_true]
      refine wpOp_of_list (by rw [List.getElem?_toArray]; rfl) ?_
      have hRb := hS5.rd 0 rfl
      ((with_reducible refine wpList_appL 1 E_ints wU wU (hS5) wU (hRb) (rfl) cIntO (by first | omega | (simp; omega)) (by first | omega | (simp; omega)) ?_); intro v6 w6 hS6)
      refine ⟨⟨hS6.b, (hS6.blk 5 rfl).1⟩, ?_⟩
      go_frame
      refine wpAnyC_on [9] kR (by simp) ?_
      simp only [List.forall_mem_cons, List.not_mem_nil, false_implies, implies_true, and_true]
      refine wpOp_value (v := v6) (w' := w6) (by rw [List.getElem?_toArray]; rfl) wU (by first | (go_simp; done) | (go_simp; rfl) | (simp [execOp, Act.eval, Result.andThen]; done)) ?_
      refine ⟨⟨hS6.b, (hS6.blk 5 rfl).1⟩, ?_⟩
      go_frame
      refine wpAnyC_rest [] [] rfl rfl kR kR kR ⟨hS6.b, (hS6.blk 5 rfl).1⟩ ?_
      unfold wpPure
      refine of_wpList_nil (P := Tryz.prog) (ops := #[]) ?_
      go_wp2_with fail
      exact ⟨⟨k + 1, by omega, by go_num, by rw [HT.out]; exact hS6.tail⟩, by simp [intOf]; omega⟩
     ·have hkk : k = l.length := by omega
      subst hkk
      rw [List.take_length] at hSr
      have q6 := (hSr.blk 1 rfl).1
      go_wp2_with (first | (with_reducible refine wpList_ldS (n := 4) (us := #[.bool m.ring, .int .i64 m.gears, .int .i64 (-m.turn), .slice a2 m.sw.length c2]) A_rmach kR wU wU (by assumption) wU wU ?_) | ((with_reducible refine wpList_stoR (us := #[.bool m.ring, .int .i64 m.gears, .int .i64 (-m.turn), .slice a2 m.sw.length c2]) 3 wU wU (hSr) wU kR wU wU ?_); intro w9 hS9))
      exact bodyPost_ret (results_cellSlot rfl rfl rfl A_rmach kR (hS9.blk 3 rfl).1) rfl ⟨a2, c2, _, rfl, hS9.pick [2, 0] (by decide) _ rfl⟩
  ·have hT2 := (hT1).box (.cells #[.bool false, .int .i64 0, .int .i64 0, .slice none 0 0] 25)
   refine wpOp_value (v := .pointer (some ⟨(VhT1).heap.size, 0, none⟩)) (w' := (VhT1).alloc (.cells #[.bool false, .int .i64 0, .int .i64 0, .slice none 0 0] 25)) (by rw [List.getElem?_toArray]; rfl) wU (by first | (go_simp; done) | (go_simp; rfl) | (simp [execOp, Act.eval, Result.andThen]; done)) ?_
   refine ⟨⟨hT2.b, (hT2.blk 3 rfl).1⟩, ?_⟩
   go_frame
   obtain ⟨VhT2, hVhT2⟩ : ∃ V, V = (VhT1).alloc (.cells #[.bool false, .int .i64 0, .int .i64 0, .slice none 0 0] 25) := ⟨_, rfl⟩
   obtain ⟨nhT2, hnhT2⟩ : ∃ b, b = (VhT1).heap.size := ⟨_, rfl⟩
   rw [← hVhT2, ← hnhT2] at hT2
   simp only [← hVhT2, ← hnhT2]
   clear hVhT2 hnhT2
   refine wpAnyC_on [10] kR (by simp) ?_
   simp only [List.forall_mem_cons, List.not_mem_nil, false_implies, implies_true, and_true]
   refine wpOp_of_list (by rw [List.getElem?_toArray]; rfl) ?_
   ((with_reducible refine wpList_appL 1 E_ints wU wU (hT2) wU ((hR.below hT2.b)) (rfl) cIntO (by first | omega | (simp; omega)) (by first | omega | (simp; omega)) ?_); intro v3 w3 hT3)
   rw [List.nil_append] at hT3
   refine ⟨⟨hT3.b, (hT3.blk 3 rfl).1⟩, ?_⟩
   go_frame
   obtain ⟨a3, c3, rfl, _⟩ := hT3.slice 1 rfl
   refine wpAnyC_on [11] kR (by simp) ?_
   simp only [List.forall_mem_cons, List.not_mem_nil, false_implies, implies_true, and_true]
   refine wpOp_value (v := .agg #[.bool m.ring, .int .i64 m.gears, .int .i64 (-m.turn), .slice a3 m.sw.length c3]) (w' := w3) (by rw [List.getElem?_toArray]; rfl) wU (by first | (go_simp; done) | (go_simp; rfl) | (simp [execOp, Act.eval, Result.andThen]; done)) ?_
   refine ⟨⟨hT3.b, (hT3.blk 3 rfl).1⟩, ?_⟩
   go_frame
   refine wpAnyC_on [13] kR (by simp) ?_
   simp only [List.forall_mem_cons, List.not_mem_nil, false_implies, implies_true, and_true]
   refine wpOp_of_list (by rw [List.getElem?_toArray]; rfl) ?_
   ((with_reducible refine wpList_stoR (us := #[.bool m.ring, .int .i64 m.gears, .int .i64 (-m.turn), .slice a3 m.sw.length c3]) 0 wU wU (hT3) wU kR wU wU ?_); intro w4 hT4)
   refine ⟨⟨hT4.b, (hT4.blk 3 rfl).1⟩, ?_⟩
   go_frame
   refine wpAnyC_rest [] [] rfl rfl kR kR kR ⟨hT4.b, (hT4.blk 3 rfl).1⟩ ?_
   unfold wpPure
   refine of_wpList_nil (P := Tryz.prog) (ops := #[]) ?_
   have hS6 := (hT4.pick [0, 1, 2, 3] (by decide) [pBlk nhT2 (.cells #[.bool m.ring, .int .i64 m.gears, .int .i64 (-m.turn), .slice a3 m.sw.length c3] 25), pOwn cInt 1 3 (.slice a3 m.sw.length c3) m.sw, pBlk (w.heap.size + 1) (.cells #[.bool false, .int .i64 0, .int .i64 0, .slice none 0 0] 25), pBlk w.heap.size (.cells (mC m ad cap) 25)] rfl).nilS (α := Int) (c := cInt) (sz := 1) (e := 3) cIntS
   clear hT0 hT1 hT2 hT3 hT4
   revert hS6
   generalize nhT2 = b6
   generalize w4 = W6
   intro hS6
   go_wp2_with fail
   go_loopw [7, 8] (fun sv iv wr => ∃ k : Nat, k ≤ l.length ∧ iv = .int .i64 k ∧ SL w.heap.size w wr [pOwn cInt 1 3 sv ((l.take k).map (overM m)), pBlk b6 (.cells #[.bool m.ring, .int .i64 m.gears, .int .i64 (-m.turn), .slice a3 m.sw.length c3] 25), pOwn cInt 1 3 (.slice a3 m.sw.length c3) m.sw, pBlk (w.heap.size + 1) (.cells #[.bool false, .int .i64 0, .int .i64 0, .slice none 0 0] 25), pBlk w.heap.size (.cells (mC m ad cap) 25)]) (fun _ iv _ => l.length - (intOf iv).toNat)
   case atStart => exact ⟨0, by omega, rfl, hS6⟩
   case round =>
    clear hS6
    obtain ⟨k, hk, rfl, hSr⟩ := hrel
    have hLr := hL.below hSr.b
    by_cases hlt : k < l.length
    ·have ht := mapStep (overM m) hlt
     rw [← List.map_take, ← List.map_take] at ht
     have hrg := hl _ (atD_mem hlt)
     have hlen : ((l.take k).map (overM m)).length ≤ 1048576 := by simp; omega
     obtain ⟨x, hx⟩ : ∃ x, x = atD 0 l k := ⟨_, rfl⟩
     rw [← hx] at ht hrg
     have HX := hid hx
     clear hx
     have q4 := (hSr.blk 4 rfl).1
     have CX := fun w h => HOV.out x w h hrg.1 hrg.2
     obtain ⟨bl, ol, hal, hcl⟩ := hL.cells (by decide) 0 k hlt
     subst hal
     have hcell : w.cell? ⟨bl, ol + k * 1, none⟩ = some (.int .i64 x) := by
      have := hcl 0 (cInt (atD 0 l k)) (by simp [cInt, Value.cells, atD])
      rw [← HX.out] at this
      simpa [Addr.add_z, cInt] using this
     have HT := hid ht; have HCX := hid CX
     clear ht CX hrg
     go_wp2_with fail
     refine wp_regionK (C := (fun V => Below w.heap.size w V ∧ V.heap[w.heap.size]? = some (.cells (mC m ad cap) 25))) [0, 1, 2, 3, 4, 5] [_, _, _, _, _, _] 4 (by simp only [List.map_cons, List.map_nil, List.getElem?_toArray]; rfl) rfl kR kR kR (⟨hSr.b.drew, q4⟩) ?_
     refine ⟨_, yieldsK_val wU (fun w' => by with_unfolding_all exact rfl), ?_⟩
     go_frame
     refine ⟨_, yieldsK_blkC (n := 4) A_rmach kR (fun V h => h.2) rfl wU wU, ?_⟩
     go_frame
     refine ⟨_, yieldsK_val wU (fun w' => by with_unfolding_all exact rfl), ?_⟩
     go_frame
     refine ⟨_, yieldsK_val wU (fun w' => by with_unfolding_all exact rfl), ?_⟩
     go_frame
     refine ⟨_, yieldsK_idx (k := (k : Int)) (n := l.length) E_ints (by omega) (by omega) wU wU wU, ?_⟩
     go_frame
     refine ⟨_, yieldsK_cellC F_int (fun V h => (h.1.cell (World.block_lt_of_cell? w _ hcell)).trans hcell) wU wU, ?_⟩
     go_frame
     unfold wpPureK
     have hVd : ({ wr with drawn := wr.drawn + 1 } : World) = wr.drew := rfl
     rw [hVd]
     have hS2 := hSr.drew
     refine wpAnyC_on [6] kR (by simp) ?_
     simp only [List.forall_mem_cons, List.not_mem_nil, false_implies, implies_true, and_true]
     refine wpOp_call (f := 94) (args := #[mV m ad cap, .int .i64 x]) (by rw [List.getElem?_toArray]; rfl) wU (by first | (go_simp; done) | (simp [execOp, Act.eval, Result.andThen]; done) | (simp [execOp, Act.eval, Result.andThen]; rfl)) ?_
     refine (HCX.out _ (hR.below hS2.b)).mono ?_
     rintro e w2 ⟨rfl, b2⟩
     have hS3 := hS2.mono b2
     refine ⟨_, rfl, ⟨hS3.b, (hS3.blk 4 rfl).1⟩, ?_⟩
     go_frame
     have hS5 := hS3.call (SL.ofOwn (own_newN (e := 3) (w := w2) cIntS [overM m x] 1 rfl (by decide) #[.int .i64 (overM m x)] rfl (Nat.le_refl _) rfl) (bal (Below.refl _ _) _))
     simp only [List.cons_append, List.nil_append] at hS5
     refine wpAnyC_on [7] kR (by simp) ?_
     simp only [List.forall_mem_cons, List.not_mem_nil, false_implies, implies_true, and_true]
     refine wpOp_value (v := .slice (some ⟨w2.heap.size, 0, none⟩) 1 1) (w' := w2.alloc (.cells #[.int .i64 (overM m x)] 3)) (by rw [List.getElem?_toArray]; rfl) wU (by first | (go_simp; done) | (go_simp; rfl) | (simp [execOp, Act.eval, Result.andThen]; done)) ?_
     refine ⟨⟨hS5.b, (hS5.blk 5 rfl).1⟩, ?_⟩
     go_frame
     refine wpAnyC_on [8] kR (by simp) ?_
     simp only [List.forall_mem_cons, List.not_mem_nil, false_implies, implies_true, and_true]
     refine wpOp_of_list (by rw [List.getElem?_toArray]; rfl) ?_
     have hRb := hS5.rd 0 rfl
     ((with_reducible refine wpList_appL 1 E_ints wU wU (hS5) wU (hRb) (rfl) cIntO (by first | omega | (simp; omega)) (by first | omega | (simp; omega)) ?_); intro v6 w6 hS6)
     refine ⟨⟨hS6.b, (hS6.blk 5 rfl).1⟩, ?_⟩
     go_frame
     refine wpAnyC_on [9] kR (by simp) ?_
     simp only [List.forall_mem_cons, List.not_mem_nil, false_implies, implies_true, and_true]
     refine wpOp_value (v := v6) (w' := w6) (by rw [List.getElem?_toArray]; rfl) wU (by first | (go_simp; done) | (go_simp; rfl) | (simp [execOp, Act.eval, Result.andThen]; done)) ?_
     refine ⟨⟨hS6.b, (hS6.blk 5 rfl).1⟩, ?_⟩
     go_frame
     refine wpAnyC_rest [] [] rfl rfl kR kR kR ⟨hS6.b, (hS6.blk 5 rfl).1⟩ ?_
     unfold wpPure
     refine of_wpList_nil (P := Tryz.prog) (ops := #[]) ?_
     go_wp2_with fail
     exact ⟨⟨k + 1, by omega, by go_num, by rw [HT.out]; exact hS6.tail⟩, by simp [intOf]; omega⟩
    ·have hkk : k = l.length := by omega
     subst hkk
     rw [List.take_length] at hSr
     have q6 := (hSr.blk 1 rfl).1
     go_wp2_with (first | (with_reducible refine wpList_ldS (n := 4) (us := #[.bool m.ring, .int .i64 m.gears, .int .i64 (-m.turn), .slice a3 m.sw.length c3]) A_rmach kR wU wU (by assumption) wU wU ?_) | ((with_reducible refine wpList_stoR (us := #[.bool m.ring, .int .i64 m.gears, .int .i64 (-m.turn), .slice a3 m.sw.length c3]) 3 wU wU (hSr) wU kR wU wU ?_); intro w9 hS9))
     exact bodyPost_ret (results_cellSlot rfl rfl rfl A_rmach kR (hS9.blk 3 rfl).1) rfl ⟨a3, c3, _, rfl, hS9.pick [2, 0] (by decide) _ rfl⟩
 ·have hT1 := (hT0).box (.cells #[.bool false, .int .i64 0, .int .i64 0, .slice none 0 0] 25)
  refine wpOp_value (v := .pointer (some ⟨(W.drew).heap.size, 0, none⟩)) (w' := (W.drew).alloc (.cells #[.bool false, .int .i64 0, .int .i64 0, .slice none 0 0] 25)) (by rw [List.getElem?_toArray]; rfl) wU (by first | (go_simp; done) | (go_simp; rfl) | (simp [execOp, Act.eval, Result.andThen]; done)) ?_
  refine ⟨⟨hT1.b, (hT1.blk 2 rfl).1⟩, ?_⟩
  go_frame
  obtain ⟨VhT1, hVhT1⟩ : ∃ V, V = (W.drew).alloc (.cells #[.bool false, .int .i64 0, .int .i64 0, .slice none 0 0] 25) := ⟨_, rfl⟩
  obtain ⟨nhT1, hnhT1⟩ : ∃ b, b = (W.drew).heap.size := ⟨_, rfl⟩
  rw [← hVhT1, ← hnhT1] at hT1
  simp only [← hVhT1, ← hnhT1]
  clear hVhT1 hnhT1
  refine wpAnyC_on [7] kR (by simp) ?_
  simp only [List.forall_mem_cons, List.not_mem_nil, false_implies, implies_true, and_true]
  have hT2 := (hT1).call (SL.ofOwn (own_newN (e := 3) (w := VhT1) cIntS [] 0 rfl (by decide) #[] rfl (Nat.le_refl _) rfl) (bal (Below.refl _ _) _))
  simp only [List.cons_append, List.nil_append] at hT2
  refine wpOp_value (v := .slice (some ⟨(VhT1).heap.size, 0, none⟩) 0 0) (w' := (VhT1).alloc (.cells #[] 3)) (by rw [List.getElem?_toArray]; rfl) wU (by first | (go_simp; done) | (go_simp; rfl) | (simp [execOp, Act.eval, Result.andThen]; done)) ?_
  refine ⟨⟨hT2.b, (hT2.blk 3 rfl).1⟩, ?_⟩
  go_frame
  obtain ⟨VhT2, hVhT2⟩ : ∃ V, V = (VhT1).alloc (.cells #[] 3) := ⟨_, rfl⟩
  obtain ⟨nhT2, hnhT2⟩ : ∃ b, b = (VhT1).heap.size := ⟨_, rfl⟩
  rw [← hVhT2, ← hnhT2] at hT2
  simp only [← hVhT2, ← hnhT2]
  clear hVhT2 hnhT2
  refine wpAnyC_on [10] kR (by simp) ?_
  simp only [List.forall_mem_cons, List.not_mem_nil, false_implies, implies_true, and_true]
  refine wpOp_of_list (by rw [List.getElem?_toArray]; rfl) ?_
  ((with_reducible refine wpList_appL 0 E_ints wU wU (hT2) wU ((hR.below hT2.b)) (rfl) cIntO (by first | omega | (simp; omega)) (by first | omega | (simp; omega)) ?_); intro v3 w3 hT3)
  rw [List.nil_append] at hT3
  refine ⟨⟨hT3.b, (hT3.blk 3 rfl).1⟩, ?_⟩
  go_frame
  obtain ⟨a3, c3, rfl, _⟩ := hT3.slice 0 rfl
  refine wpAnyC_on [11] kR (by simp) ?_
  simp only [List.forall_mem_cons, List.not_mem_nil, false_implies, implies_true, and_true]
  refine wpOp_value (v := .agg #[.bool m.ring, .int .i64 m.gears, .int .i64 (-m.turn), .slice a3 m.sw.length c3]) (w' := w3) (by rw [List.getElem?_toArray]; rfl) wU (by first | (go_simp; done) | (go_simp; rfl) | (simp [execOp, Act.eval, Result.andThen]; done)) ?_
  refine ⟨⟨hT3.b, (hT3.blk 3 rfl).1⟩, ?_⟩
  go_frame
  refine wpAnyC_on [13] kR (by simp) ?_
  simp only [List.forall_mem_cons, List.not_mem_nil, false_implies, implies_true, and_true]
  refine wpOp_of_list (by rw [List.getElem?_toArray]; rfl) ?_
  ((with_reducible refine wpList_stoR (us := #[.bool m.ring, .int .i64 m.gears, .int .i64 (-m.turn), .slice a3 m.sw.length c3]) 1 wU wU (hT3) wU kR wU wU ?_); intro w4 hT4)
  refine ⟨⟨hT4.b, (hT4.blk 3 rfl).1⟩, ?_⟩
  go_frame
  refine wpAnyC_rest [] [] rfl rfl kR kR kR ⟨hT4.b, (hT4.blk 3 rfl).1⟩ ?_
  unfold wpPure
  refine of_wpList_nil (P := Tryz.prog) (ops := #[]) ?_
  have hS6 := (hT4.pick [1, 0, 2, 3] (by decide) [pBlk nhT1 (.cells #[.bool m.ring, .int .i64 m.gears, .int .i64 (-m.turn), .slice a3 m.sw.length c3] 25), pOwn cInt 1 3 (.slice a3 m.sw.length c3) m.sw, pBlk (w.heap.size + 1) (.cells #[.bool false, .int .i64 0, .int .i64 0, .slice none 0 0] 25), pBlk w.heap.size (.cells (mC m ad cap) 25)] rfl).nilS (α := Int) (c := cInt) (sz := 1) (e := 3) cIntS
  clear hT0 hT1 hT2 hT3 hT4
  revert hS6
  generalize nhT1 = b6
  generalize w4 = W6
  intro hS6
  go_wp2_with fail
  go_loopw [7, 8] (fun sv iv wr => ∃ k : Nat, k ≤ l.length ∧ iv = .int .i64 k ∧ SL w.heap.size w wr [pOwn cInt 1 3 sv ((l.take k).map (overM m)), pBlk b6 (.cells #[.bool m.ring, .int .i64 m.gears, .int .i64 (-m.turn), .slice a3 m.sw.length c3] 25), pOwn cInt 1 3 (.slice a3 m.sw.length c3) m.sw, pBlk (w.heap.size + 1) (.cells #[.bool false, .int .i64 0, .int .i64 0, .slice none 0 0] 25), pBlk w.heap.size (.cells (mC m ad cap) 25)]) (fun _ iv _ => l.length - (intOf iv).toNat)
  case atStart => exact ⟨0, by omega, rfl, hS6⟩
  case round =>
   clear hS6
   obtain ⟨k, hk, rfl, hSr⟩ := hrel
   have hLr := hL.below hSr.b
   by_cases hlt : k < l.length
   ·have ht := mapStep (overM m) hlt
    rw [← List.map_take, ← List.map_take] at ht
    have hrg := hl _ (atD_mem hlt)
    have hlen : ((l.take k).map (overM m)).length ≤ 1048576 := by simp; omega
    obtain ⟨x, hx⟩ : ∃ x, x = atD 0 l k := ⟨_, rfl⟩
    rw [← hx] at ht hrg
    have HX := hid hx
    clear hx
    have q4 := (hSr.blk 4 rfl).1
    have CX := fun w h => HOV.out x w h hrg.1 hrg.2
    obtain ⟨bl, ol, hal, hcl⟩ := hL.cells (by decide) 0 k hlt
    subst hal
    have hcell : w.cell? ⟨bl, ol + k * 1, none⟩ = some (.int .i64 x) := by
     have := hcl 0 (cInt (atD 0 l k)) (by simp [cInt, Value.cells, atD])
     rw [← HX.out] at this
     simpa [Addr.add_z, cInt] using this
    have HT := hid ht; have HCX := hid CX
    clear ht CX hrg
    go_wp2_with fail
    refine wp_regionK (C := (fun V => Below w.heap.size w V ∧ V.heap[w.heap.size]? = some (.cells (mC m ad cap) 25))) [0, 1, 2, 3, 4, 5] [_, _, _, _, _, _] 4 (by simp only [List.map_cons, List.map_nil, List.getElem?_toArray]; rfl) rfl kR kR kR (⟨hSr.b.drew, q4⟩) ?_
    refine ⟨_, yieldsK_val wU (fun w' => by with_unfolding_all exact rfl), ?_⟩
    go_frame
    refine ⟨_, yieldsK_blkC (n := 4) A_rmach kR (fun V h => h.2) rfl wU wU, ?_⟩
    go_frame
    refine ⟨_, yieldsK_val wU (fun w' => by with_unfolding_all exact rfl), ?_⟩
    go_frame
    refine ⟨_, yieldsK_val wU (fun w' => by with_unfolding_all exact rfl), ?_⟩
    go_frame
    refine ⟨_, yieldsK_idx (k := (k : Int)) (n := l.length) E_ints (by omega) (by omega) wU wU wU, ?_⟩
    go_frame
    refine ⟨_, yieldsK_cellC F_int (fun V h => (h.1.cell (World.block_lt_of_cell? w _ hcell)).trans hcell) wU wU, ?_⟩
    go_frame
    unfold wpPureK
    have hVd : ({ wr with drawn := wr.drawn + 1 } : World) = wr.drew := rfl
    rw [hVd]
    have hS2 := hSr.drew
    refine wpAnyC_on [6] kR (by simp) ?_
    simp only [List.forall_mem_cons, List.not_mem_nil, false_implies, implies_true, and_true]
    refine wpOp_call (f := 94) (args := #[mV m ad cap, .int .i64 x]) (by rw [List.getElem?_toArray]; rfl) wU (by first | (go_simp; done) | (simp [execOp, Act.eval, Result.andThen]; done) | (simp [execOp, Act.eval, Result.andThen]; rfl)) ?_
    refine (HCX.out _ (hR.below hS2.b)).mono ?_
    rintro e w2 ⟨rfl, b2⟩
    have hS3 := hS2.mono b2
    refine ⟨_, rfl, ⟨hS3.b, (hS3.blk 4 rfl).1⟩, ?_⟩
    go_frame
    have hS5 := hS3.call (SL.ofOwn (own_newN (e := 3) (w := w2) cIntS [overM m x] 1 rfl (by decide) #[.int .i64 (overM m x)] rfl (Nat.le_refl _) rfl) (bal (Below.refl _ _) _))
    simp only [List.cons_append, List.nil_append] at hS5
    refine wpAnyC_on [7] kR (by simp) ?_
    simp only [List.forall_mem_cons, List.not_mem_nil, false_implies, implies_true, and_true]
    refine wpOp_value (v := .slice (some ⟨w2.heap.size, 0, none⟩) 1 1) (w' := w2.alloc (.cells #[.int .i64 (overM m x)] 3)) (by rw [List.getElem?_toArray]; rfl) wU (by first | (go_simp; done) | (go_simp; rfl) | (simp [execOp, Act.eval, Result.andThen]; done)) ?_
    refine ⟨⟨hS5.b, (hS5.blk 5 rfl).1⟩, ?_⟩
    go_frame
    refine wpAnyC_on [8] kR (by simp) ?_
    simp only [List.forall_mem_cons, List.not_mem_nil, false_implies, implies_true, and_true]
    refine wpOp_of_list (by rw [List.getElem?_toArray]; rfl) ?_
    have hRb := hS5.rd 0 rfl
    ((with_reducible refine wpList_appL 1 E_ints wU wU (hS5) wU (hRb) (rfl) cIntO (by first | omega | (simp; omega)) (by first | omega | (simp; omega)) ?_); intro v6 w6 hS6)
    refine ⟨⟨hS6.b, (hS6.blk 5 rfl).1⟩, ?_⟩
    go_frame
    refine wpAnyC_on [9] kR (by simp) ?_
    simp only [List.forall_mem_cons, List.not_mem_nil, false_implies, implies_true, and_true]
    refine wpOp_value (v := v6) (w' := w6) (by rw [List.getElem?_toArray]; rfl) wU (by first | (go_simp; done) | (go_simp; rfl) | (simp [execOp, Act.eval, Result.andThen]; done)) ?_
    refine ⟨⟨hS6.b, (hS6.blk 5 rfl).1⟩, ?_⟩
    go_frame
    refine wpAnyC_rest [] [] rfl rfl kR kR kR ⟨hS6.b, (hS6.blk 5 rfl).1⟩ ?_
    unfold wpPure
    refine of_wpList_nil (P := Tryz.prog) (ops := #[]) ?_
    go_wp2_with fail
    exact ⟨⟨k + 1, by omega, by go_num, by rw [HT.out]; exact hS6.tail⟩, by simp [intOf]; omega⟩
   ·have hkk : k = l.length := by omega
    subst hkk
    rw [List.take_length] at hSr
    have q6 := (hSr.blk 1 rfl).1
    go_wp2_with (first | (with_reducible refine wpList_ldS (n := 4) (us := #[.bool m.ring, .int .i64 m.gears, .int .i64 (-m.turn), .slice a3 m.sw.length c3]) A_rmach kR wU wU (by assumption) wU wU ?_) | ((with_reducible refine wpList_stoR (us := #[.bool m.ring, .int .i64 m.gears, .int .i64 (-m.turn), .slice a3 m.sw.length c3]) 3 wU wU (hSr) wU kR wU wU ?_); intro w9 hS9))
    exact bodyPost_ret (results_cellSlot rfl rfl rfl A_rmach kR (hS9.blk 3 rfl).1) rfl ⟨a3, c3, _, rfl, hS9.pick [2, 0] (by decide) _ rfl⟩
end Go.Proofs.YtoebgfgihfjnnaaGreatDoor

namespace Go.Proofs.YtoebgfgihfjnnaaGreatDoor
open Go.RowKit
set_option maxHeartbeats 4000000
set_option maxRecDepth 100000

theorem rinteger4_any (l : List UInt8) (w : World) (hz : l.length ≤ 1048576) :
  Calls Tryz.prog 90 #[.string (bT l)] w fun r w' => ∃ n : Int, r = .returned (.tuple #[.int .i64 n, .bool (intL l).isSome]) ∧ (∀ m : Nat, intL l = some m → n = m) ∧ w = w' := by
 have hsz := bT_size l
 have hby : ∀ (i : Nat) (h : i < (bT l).size) (h2 : i < l.length), (((bT l)[i]'h).toNat : Int) = (l[i].toNat : Int) := fun i h h2 => by rw [← byteAt_in h, bT_at h2]
 obtain ⟨s, hs⟩ : ∃ s, s = bT l := ⟨_, rfl⟩
 rw [← hs] at hsz ⊢
 have hby2 : ∀ (i : Nat) (h : i < s.size) (h2 : i < l.length), ((s[i]'h).toNat : Int) = (l[i].toNat : Int) := by subst hs; exact hby
 have hz2 : s.size ≤ 1048576 := by omega
 clear hby hs
 have bad : ¬ (canon l ∧ l.length ≤ 9) → (intL l).isSome = false ∧ ∀ m : Nat, intL l = some m → (0 : Int) = m := fun h => by
  have : intL l = none := by unfold intL; rw [if_neg h]
  rw [this]; exact ⟨rfl, fun m hm => by cases hm⟩
 by_cases h0 : l = []
 ·obtain ⟨b1, b2⟩ := bad (fun h => h.1.1 h0)
  have hs0 : s.size = 0 := by rw [hsz, h0]; rfl
  have hd : (s.size : Int) < 1 := by omega
  have HS0 := hid hs0; have B2 := hid b2
  rw [b1]
  clear hs0 b1 b2 bad hby2 hsz h0
  go_enter Tryz.func90, Tryz.ntmps90
  go_wp2_with fail
  all_goals go_ret2
  all_goals exact ⟨_, rfl, B2.out, rfl⟩
 have hpos : 0 < l.length := List.length_pos_iff.2 h0
 have hd0 : ¬ (s.size : Int) < 1 := by omega
 have hse : ¬ s = ByteArray.empty := by rintro rfl; simp at hsz; omega
 by_cases h9 : 9 < l.length
 ·obtain ⟨b1, b2⟩ := bad (fun h => by have := h.2; omega)
  have hs9 : 9 < s.size := by omega
  have B2 := hid b2
  rw [b1]
  clear b1 b2 bad hby2 hsz h0 h9 hpos
  go_enter Tryz.func90, Tryz.ntmps90
  go_wp2_with fail
  all_goals go_ret2
  all_goals exact ⟨_, rfl, B2.out, rfl⟩
 have hs9 : ¬ 9 < s.size := by omega
 have hp0 : 0 < s.size := by omega
 have hb0 := hby2 0 hp0 hpos
 have hhead : l.head? = some l[0] := by cases l with | nil => exact absurd rfl h0 | cons a r => rfl
 by_cases hz0 : 1 < l.length ∧ l[0] = 48
 ·obtain ⟨g1, g2⟩ := hz0
  obtain ⟨b1, b2⟩ := bad (fun h => h.1.2.1 g1 (by rw [hhead, g2]))
  have hs1 : 1 < s.size := by omega
  have hd1 : (((s[0]'hp0).toNat : Int) == 48) = true := by rw [hb0, g2]; rfl
  have B2 := hid b2
  rw [b1]
  clear b1 b2 bad hby2 hsz h0 h9 hpos hb0 hhead g1 g2
  go_enter Tryz.func90, Tryz.ntmps90
  go_wp2_with fail
  all_goals go_ret2
  all_goals exact ⟨_, rfl, B2.out, rfl⟩
 have hd1 : (decide (1 < (s.size : Int)) && (((s[0]'hp0).toNat : Int) == 48)) = false := by
  by_cases g1 : 1 < l.length
  ·have : l[0] ≠ 48 := fun e => hz0 ⟨g1, e⟩
   have : l[0].toNat ≠ 48 := fun e => this (by have := u8_eq e; simpa using this)
   rw [hb0]; simp; omega
  ·simp; omega
 have hgood : (∀ b ∈ l, isDig b) → intL l = some (valL l) := fun h => by
  unfold intL
  rw [if_pos ⟨⟨h0, fun g1 e => hz0 ⟨g1, by rw [hhead] at e; simpa using e⟩, h⟩, by omega⟩]
 have hval : ∀ k : Nat, k ≤ l.length → (∀ b ∈ l.take k, isDig b) → valL (l.take k) < 1000000000 := fun k hk h => valL_lt9 h (by simp; omega)
 have HB := hid hby2; have HG := hid hgood; have HV := hid hval; have HBAD := hid bad; have HSZ := hid hsz
 clear bad hby2 hgood hval hb0 hhead h0 hz0 hsz
 go_enter Tryz.func90, Tryz.ntmps90
 by_cases g1 : 1 < (s.size : Int)
 ·have hd2 : (((s[0]'hp0).toNat : Int) == 48) = false := by simpa [g1] using hd1
  clear hd1
  go_wp2_with fail
  go_loopw [4, 5] (fun nv iv wr => ∃ k : Nat, k ≤ l.length ∧ iv = .int .i64 k ∧ nv = .int .i64 (valL (l.take k)) ∧ (∀ b ∈ l.take k, isDig b) ∧ w = wr) (fun _ iv _ => s.size - (intOf iv).toNat)
  case atStart => exact ⟨0, by omega, rfl, rfl, by simp, rfl⟩
  case round =>
   obtain ⟨k, hk, rfl, rfl, hdg, rfl⟩ := hrel
   have hv := HV.out k hk hdg
   by_cases hlt : k < s.size
   ·have hltl : k < l.length := by have := HSZ.out; omega
    have hbk := HB.out k hlt hltl
    by_cases hdig : isDig l[k]
    ·have hst := valL_take hltl
     have hdg2 : ∀ b ∈ l.take (k + 1), isDig b := fun b hb => by
      rw [List.take_succ_eq_append_getElem hltl] at hb
      rcases List.mem_append.1 hb with hb | hb
      ·exact hdg b hb
      ·simp only [List.mem_singleton] at hb; rw [hb]; exact hdig
     unfold isDig at hdig
     have e1 : ¬ (((s[k]'hlt).toNat : Int) < 48) := by omega
     have e2 : ¬ (57 < ((s[k]'hlt).toNat : Int)) := by omega
     have e3 : IntKind.u8.wrap (((s[k]'hlt).toNat : Int) - 48) = ((s[k]'hlt).toNat : Int) - 48 := by rw [IntKind.wrap_u8]; omega
     have hst2 : (valL (l.take (k + 1)) : Int) = 10 * valL (l.take k) + (((s[k]'hlt).toNat : Int) - 48) := by rw [hst]; omega
     have HST := hid hst2; have HD := hid hdg2
     clear hst hst2 hdg2 hdig hbk hdg
     go_wp2_with fail
     exact ⟨⟨k + 1, by omega, by go_num, by rw [HST.out], HD.out, by trivial⟩, by simp [intOf]; omega⟩
    ·obtain ⟨b1, b2⟩ := HBAD.out (fun h => hdig (h.1.2.2 _ (List.getElem_mem hltl)))
     have hnd : ((s[k]'hlt).toNat : Int) < 48 ∨ ¬ ((s[k]'hlt).toNat : Int) < 48 ∧ 57 < ((s[k]'hlt).toNat : Int) := by unfold isDig at hdig; omega
     have B1 := hid b1; have B2 := hid b2
     clear b1 b2 hdig hbk hdg
     rcases hnd with e1 | ⟨e1, e2⟩
     ·go_wp2_with fail
      go_ret2
      exact ⟨_, by rw [B1.out]; rfl, B2.out, by trivial⟩
     ·go_wp2_with fail
      go_ret2
      exact ⟨_, by rw [B1.out]; rfl, B2.out, by trivial⟩
   ·have hkl : k = l.length := by have := HSZ.out; omega
    subst hkl
    rw [List.take_length] at hdg
    have hg := HG.out hdg
    have HGG := hid hg
    have et : l.take l.length = l := List.take_length
    rw [et]
    clear hg hdg et
    go_wp2_with fail
    go_ret2
    exact ⟨_, by rw [HGG.out]; rfl, (fun m hm => by rw [HGG.out] at hm; cases hm; rfl), by trivial⟩
 ·clear hd1
  go_wp2_with fail
  go_loopw [4, 5] (fun nv iv wr => ∃ k : Nat, k ≤ l.length ∧ iv = .int .i64 k ∧ nv = .int .i64 (valL (l.take k)) ∧ (∀ b ∈ l.take k, isDig b) ∧ w = wr) (fun _ iv _ => s.size - (intOf iv).toNat)
  case atStart => exact ⟨0, by omega, rfl, rfl, by simp, rfl⟩
  case round =>
   obtain ⟨k, hk, rfl, rfl, hdg, rfl⟩ := hrel
   have hv := HV.out k hk hdg
   by_cases hlt : k < s.size
   ·have hltl : k < l.length := by have := HSZ.out; omega
    have hbk := HB.out k hlt hltl
    by_cases hdig : isDig l[k]
    ·have hst := valL_take hltl
     have hdg2 : ∀ b ∈ l.take (k + 1), isDig b := fun b hb => by
      rw [List.take_succ_eq_append_getElem hltl] at hb
      rcases List.mem_append.1 hb with hb | hb
      ·exact hdg b hb
      ·simp only [List.mem_singleton] at hb; rw [hb]; exact hdig
     unfold isDig at hdig
     have e1 : ¬ (((s[k]'hlt).toNat : Int) < 48) := by omega
     have e2 : ¬ (57 < ((s[k]'hlt).toNat : Int)) := by omega
     have e3 : IntKind.u8.wrap (((s[k]'hlt).toNat : Int) - 48) = ((s[k]'hlt).toNat : Int) - 48 := by rw [IntKind.wrap_u8]; omega
     have hst2 : (valL (l.take (k + 1)) : Int) = 10 * valL (l.take k) + (((s[k]'hlt).toNat : Int) - 48) := by rw [hst]; omega
     have HST := hid hst2; have HD := hid hdg2
     clear hst hst2 hdg2 hdig hbk hdg
     go_wp2_with fail
     exact ⟨⟨k + 1, by omega, by go_num, by rw [HST.out], HD.out, by trivial⟩, by simp [intOf]; omega⟩
    ·obtain ⟨b1, b2⟩ := HBAD.out (fun h => hdig (h.1.2.2 _ (List.getElem_mem hltl)))
     have hnd : ((s[k]'hlt).toNat : Int) < 48 ∨ ¬ ((s[k]'hlt).toNat : Int) < 48 ∧ 57 < ((s[k]'hlt).toNat : Int) := by unfold isDig at hdig; omega
     have B1 := hid b1; have B2 := hid b2
     clear b1 b2 hdig hbk hdg
     rcases hnd with e1 | ⟨e1, e2⟩
     ·go_wp2_with fail
      go_ret2
      exact ⟨_, by rw [B1.out]; rfl, B2.out, by trivial⟩
     ·go_wp2_with fail
      go_ret2
      exact ⟨_, by rw [B1.out]; rfl, B2.out, by trivial⟩
   ·have hkl : k = l.length := by have := HSZ.out; omega
    subst hkl
    rw [List.take_length] at hdg
    have hg := HG.out hdg
    have HGG := hid hg
    have et : l.take l.length = l := List.take_length
    rw [et]
    clear hg hdg et
    go_wp2_with fail
    go_ret2
    exact ⟨_, by rw [HGG.out]; rfl, (fun m hm => by rw [HGG.out] at hm; cases hm; rfl), by trivial⟩
theorem rdecimal4_any (x : Nat) (w : World) (hx : x < 1000000000) :
  Calls Tryz.prog 88 #[.int .i64 x] w fun r w' => r = .returned (.string (itoaB x)) ∧ Below w.heap.size w w' := by
 have H := hid (fun w => rFromInt_any x w hx)
 go_enter Tryz.func88, Tryz.ntmps88
 go_wp2_with fail
 refine (H.out _).mono ?_
 rintro e w1 ⟨rfl, b1⟩
 go_wp2_with fail
 go_ret
 exact ⟨rfl, b1⟩

end Go.Proofs.YtoebgfgihfjnnaaGreatDoor

namespace Go.Proofs.YtoebgfgihfjnnaaGreatDoor
set_option maxRecDepth 100000
theorem join_splR (c : UInt8) : ∀ (l cur : List UInt8), Lib.join (splR c cur l) [c] = cur ++ l
 | [], cur => by rw [splR, Lib.join_cons]; simp [Lib.joinTail]
 | b :: r, cur => by
   rw [splR]
   split
   · rename_i e
     subst e
     have ih := join_splR b r []
     cases hs : splR b [] r with
     | nil => have := spl_pos b r []; rw [hs] at this; simp at this
     | cons x t =>
       rw [hs, Lib.join_cons, List.nil_append] at ih
       rw [Lib.join_cons]
       unfold Lib.joinTail at ih ⊢
       rw [List.map_cons, List.flatten_cons, ← ih]
       simp
   · rw [join_splR c r (cur ++ [b])]; simp
theorem join_spl (c : UInt8) (l : List UInt8) : Lib.join (spl c l) [c] = l := by
 unfold spl; rw [join_splR]; rfl
def itoaD (n : Int) : List UInt8 := (itoaB n).data.toList
theorem intL_itoa {l : List UInt8} {n : Nat} (h : intL l = some n) : itoaD (n : Int) = l := by
 obtain ⟨_, _, _, h4, _⟩ := intL_canon h
 unfold itoaD
 rw [h4]; simp [bT]
theorem intsL_itoa : ∀ {ls : List (List UInt8)} {v : List Int}, intsL ls = some v → v.map itoaD = ls
 | [], v, h => by cases h; rfl
 | x :: r, v, h => by
   rw [intsL] at h
   cases h1 : intL x with
   | none => rw [h1] at h; cases h
   | some n =>
     cases h2 : intsL r with
     | none => rw [h1, h2] at h; cases h
     | some l =>
       rw [h1, h2] at h
       cases h
       rw [List.map_cons, intsL_itoa h2, intL_itoa h1]
def swT (l : List Int) : List UInt8 := if l = [] then noneT else Lib.join (l.map itoaD) [44]
theorem swB_T (l : List Int) : (swB l).data.toList = swT l := by
 unfold swB swT
 split
 ·rfl
 ·unfold joinB
  simp only [List.map_map]
  rfl
theorem places_sw {w : List UInt8} {v : List Int} (h : placesL w = some v) : swT v = w := by
 unfold placesL at h
 split at h
 ·rename_i e; cases h; unfold swT; rw [if_pos rfl]; exact e.symm
 ·have hm := intsL_itoa h
  have hp := spl_pos 44 w []
  have : v ≠ [] := by
   intro e
   subst e
   have := congrArg List.length hm
   unfold spl at this
   simp at this
   omega
  unfold swT
  rw [if_neg this, hm, join_spl]
def printT (m : MacV) : List UInt8 := Lib.join [if m.ring then ringT else rowT, itoaD m.gears, if m.turn < 0 then [45] else [43], swT m.sw] [32]
theorem printMB_T (m : MacV) : (printMB m).data.toList = printT m := by
 unfold printMB printT joinB
 have h1 : (kindB m.ring).data.toList = if m.ring then ringT else rowT := by unfold kindB; split <;> rfl
 have h2 : (signB m.turn).data.toList = if m.turn < 0 then [45] else [43] := by unfold signB; split <;> rfl
 simp only [List.map_cons, List.map_nil, h1, h2, swB_T]
 rfl
/-- printed as it was read. -/
theorem parse_print {s : List UInt8} {m : MacV} (h : parseMB s = (m, 0)) : printT m = s ∧ macE m = 0 ∧ s.length ≤ 4096 := by
 unfold parseMB at h
 split at h
 ·cases h
 ·rename_i hlen
  match hs : spl 32 s with
  | [] => rw [hs] at h; cases h
  | [_] => rw [hs] at h; cases h
  | [_, _] => rw [hs] at h; cases h
  | [_, _, _] => rw [hs] at h; cases h
  | _ :: _ :: _ :: _ :: _ :: _ => rw [hs] at h; cases h
  | [k, g, t, w] =>
   have hj := join_spl 32 s
   rw [hs] at h hj
   rw [parseGo] at h
   split at h
   ·cases h
   ·rename_i hk
    split at h
    ·rename_i n l hn hl
     by_cases hm : macE ⟨decide (k = ringT), n, if t = [45] then -1 else 1, l⟩ ≠ 0
     ·rw [if_pos hm] at h; exact absurd (congrArg Prod.snd h) hm
     ·rw [if_neg hm] at h
      have h := congrArg Prod.fst h
      dsimp only at h
      subst h
      refine ⟨?_, by simpa using hm, by omega⟩
      unfold printT
      dsimp only
      rw [intL_itoa hn, places_sw hl]
      have e1 : (if decide (k = ringT) = true then ringT else rowT) = k := by
       by_cases e : k = ringT
       ·rw [decide_eq_true e, if_pos rfl, e]
       ·rw [decide_eq_false e]
        by_cases e2 : k = rowT
        ·rw [e2]; rfl
        ·exact absurd (.inl ⟨e2, e⟩) hk
      have e2 : (if (if t = [45] then (-1 : Int) else 1) < 0 then ([45] : List UInt8) else [43]) = t := by
       by_cases e : t = [45]
       ·rw [if_pos e, e]; rfl
       ·rw [if_neg e]
        by_cases e2 : t = [43]
        ·rw [e2]; rfl
        ·exact absurd (.inr ⟨e2, e⟩) hk
      rw [e1, e2, hj]
    ·cases h
end Go.Proofs.YtoebgfgihfjnnaaGreatDoor
