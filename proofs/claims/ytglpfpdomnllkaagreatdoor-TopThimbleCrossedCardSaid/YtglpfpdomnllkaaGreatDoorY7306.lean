/- Contracts and plain facts that the claim uses (PtB). Conditions: as each one states. -/
import Derived.RangeFuncNested
import Derived.RangeFuncBound
import Derived.RangeFuncCalls
import Derived.RangeFuncLeaves
import Derived.RangeFuncFrom
import Derived.Shelf.Abstract
import Derived.Shelf.RegionOpen
import Derived.WalkKit
import Derived.OwnWalkIn
import Derived.TacticsInMore
import Derived.LoopNIn
import Derived.LoopIn
import Derived.Test.YtglpfpdomnllkaaGreatDoorProg
import Derived.WalkSpells
import Derived.Maps.AppendAt
import Derived.Deep.Quiet
import Derived.Maps.Own
import Derived.Maps.OwnSet
import Derived.Maps.Views
import Derived.WalkLawsBesides
import Derived.Laws.EntriesVeiled
import Derived.Deep.QuietTactic
import Derived.BigQuiet
import Derived.Shelf.Strings.Trim
import Derived.Shelf.Strings.SlTrimAscii
import Derived.Shelf.Strings.Repeat
import Derived.Shelf.Strings.OnBuilder
import Derived.Shelf.Strconv.Itoa1
import Derived.Shelf.Strconv.Itoa3
import Derived.Shelf.LaysM
import Derived.Ground.Names2Prog
import Derived.Lib.OthersKept
import Derived.Deep.RegionHeld3
import Derived.Deep.AppendLies
import Derived.Deep.RegionHeldLaw
import Derived.Deep.RegionLaw
import Derived.StillTail
import Derived.Laws.Tables
import Derived.IntWalk
import Derived.Laws.CopyOwn
import Derived.BigRegion
import Derived.ChangeAlike
import Derived.Shelf.Bits.Mul64
import Derived.Lib.ItoaLen
import Derived.Lib.ItoaMem
import Derived.Sort.LoopGhostIn
import Derived.Maps.RangeWalk
import Derived.Laws.IdiomStrings
import Derived.Maps.Ext
import Derived.Sort.QuietThIn
import Derived.Deep.LoopGhost
import Derived.Lib.Split
import Derived.Lib.AtoiAll
import Derived.Lib.AppendIntMem
import Derived.Lib.SmallJoins
import Derived.LaidSub
import Derived.Lib.LaidTab
import Derived.Lib.AtoiErrMem
import Derived.Stop.LaidErr
import Derived.ReadAgain
import Derived.ChangeSlices
import Derived.OpenShut
import Derived.ProofKit
import Derived.Deep.DeepHandedRow
import Derived.Deep.SlicePairs
import Derived.Test.YtglpfpdomnllkaaGreatDoorXd01
import Derived.Test.YtglpfpdomnllkaaGreatDoorXd02
import Derived.Test.YtglpfpdomnllkaaGreatDoorXd03
import Derived.Test.YtglpfpdomnllkaaGreatDoorXd04
import Derived.Test.YtglpfpdomnllkaaGreatDoorY7301
import Derived.Test.YtglpfpdomnllkaaGreatDoorY7302
import Derived.Test.YtglpfpdomnllkaaGreatDoorY7303
import Derived.Test.YtglpfpdomnllkaaGreatDoorY7304
import Derived.Test.YtglpfpdomnllkaaGreatDoorY7305
set_option linter.all false

namespace Go.Proofs.YtglpfpdomnllkaaGreatDoor
open Go.RowKit
set_option maxHeartbeats 8000000
set_option maxRecDepth 100000
theorem sto_slV (v : Value) (hv : ∃ a n c, v = .slice a n c) (w : World) (p : Addr) (h1 : (w.cell? p).isSome = true) (h2 : w.frozen? p = false) : (Instr.storeAt 22 (.pointer (some p)) v).run Tryz.prog w = .ok () (w.setCell p v) := by
 obtain ⟨a, n, c, rfl⟩ := hv
 obtain ⟨u, hu⟩ := Option.isSome_iff_exists.1 h1
 simp [go_sem, hu, h2]
theorem isSl {α : Type} {c : α → Value} {sz B : Nat} {e : TypeId} {w0 w : World} {v : Value} {l : List α} {L : List Pc} (h : SL B w0 w L) (i : Nat) (hi : L[i]? = some (pOwn c sz e v l)) : ∃ a n c, v = .slice a n c := by
 obtain ⟨a, cap, e1, _⟩ := h.slice i hi
 exact ⟨a, _, cap, e1⟩
theorem A_sch : Aggr Tryz.prog 63 := ⟨_, Tryz.underlying63, rfl⟩
/-- a scheme and its two lists. -/
def SchV (w : World) (v : Value) (S F : List Int) : Prop := ∃ a c a2 c2, v = .agg #[.slice a S.length c, .slice a2 F.length c2] ∧ Ints w a c S ∧ Ints w a2 c2 F
theorem get_map {l : List Int} {k : Int} (h0 : 0 ≤ k) (h1 : k < l.length) : l[k.toNat]?.map cInt = some (.int .i64 (atD 0 l k)) := by
 have : k.toNat < l.length := by omega
 simp [atD, this, cInt]
theorem open_any (n : Nat) (ad : Option Addr) (cap : Nat) (l : List Int) (w : World) (hL : Ints w ad cap l) (hn : 1 ≤ n) (hn2 : n ≤ 12) (hl : l.length ≤ 1000) (hf : LetRng n l) :
  Calls Tryz.prog 26 #[.int .i64 n, .slice ad l.length cap] w fun r w' => ∃ v, r = .returned v ∧ SchV w' v (seenL n l) (row5 (idL n) l) ∧ Below w.heap.size w w' := by
 have hcap := hL.le
 have hmx := hL.max
 have hS := ((SL.nil w).box (.cells #[.slice none 0 0, .slice none 0 0] 63)).box (.cells #[.slice none 0 0, .slice none 0 0] 63)
 have hS1 := (hS.nilS (α := Int) (e := 3) cIntS).nilS (α := Int) (e := 3) cIntS
 simp only [World.size_alloc] at hS1
 have hS2 := hS1.pick [2, 0, 1, 3] (by decide) [pBlk (w.heap.size + 1) (.cells #[.slice none 0 0, .slice none 0 0] 63), pOwn cInt 1 3 (.slice none 0 0) [], pOwn cInt 1 3 (.slice none 0 0) [], pBlk w.heap.size (.cells #[.slice none 0 0, .slice none 0 0] 63)] rfl
 clear hS hS1
 go_enter Tryz.func26, Tryz.ntmps26
 go_wp2_with fail
 have HS := hid hL; have HF := hid hf
 clear hL hf
 obtain ⟨B, hB⟩ : ∃ B, B = w.heap.size + 1 := ⟨_, rfl⟩
 rw [← hB] at hS2 ⊢
 obtain ⟨w1, hw1⟩ : ∃ w1, w1 = ((w.alloc (.cells #[.slice none 0 0, .slice none 0 0] 63)).alloc (.cells #[.slice none 0 0, .slice none 0 0] 63)) := ⟨_, rfl⟩
 rw [← hw1] at hS2 ⊢
 clear hw1 hB
 go_loopw [13, 6] (fun iv _ wr => ∃ (k : Nat) (fv : Value), k ≤ n ∧ iv = .int .i64 k ∧ SL w.heap.size w wr [pBlk B (.cells #[.slice none 0 0, fv] 63), pOwn cInt 1 3 (.slice none 0 0) [], pOwn cInt 1 3 fv (idL k), pBlk w.heap.size (.cells #[.slice none 0 0, .slice none 0 0] 63)]) (fun iv _ _ => n - (intOf iv).toNat)
 case atStart => exact ⟨0, .slice none 0 0, by omega, rfl, hS2⟩
 case round =>
  clear hS2
  obtain ⟨k, fv, hk, rfl, hSr⟩ := hrel
  by_cases hlt : k < n
  ·have c1 := hSr.cell 0 rfl 1 rfl
   have hil : (idL k).length ≤ 20 := by rw [idL_len]; omega
   have hsn := idL_succ k
   obtain ⟨IL, hIL⟩ : ∃ IL, IL = idL k := ⟨_, rfl⟩
   rw [← hIL] at hSr hil hsn
   have HSN := hid hsn
   clear hIL hsn
   go_wp2_with (first | ((with_reducible refine wpList_pushL (y := (k : Int)) 2 E_ints wU wU (hSr) wU cIntO ⟨rfl, rfl⟩ (by first | with_unfolding_all rfl | simp) wU (by first | omega | (simp; omega)) (by first | omega | (simp; omega)) ?_); intro v2 w2 hS3) | (with_reducible refine wpList_stoAt (sto_slV v2 (isSl hS3 2 rfl) _ _) wU wU (hS3.cell 0 rfl 1 rfl) (hS3.frozen 0 rfl 1) ?_))
   have hS4 := hS3.set 0 rfl 1 v2
   exact ⟨⟨k + 1, v2, by omega, by go_num, by rw [HSN.out]; exact hS4⟩, by simp [intOf]; omega⟩
  ·have hkk : k = n := by omega
   rw [hkk] at hSr
   obtain ⟨af, cf, hfv, -⟩ := hSr.slice 2 rfl
   subst hfv
   rw [idL_len] at hSr
   obtain ⟨G, hG, -⟩ := hSr.setOwn cInt1 2 rfl 0 (by omega) (by rw [idL_len]; omega) 0
   subst hG
   have hkn : ¬ ((k : Int) < (n : Int)) := by omega
   clear hkk hlt hk
   go_wp2_with fail
   go_loopw [25, 8, 9, 10] (fun iv _ _ _ wr => ∃ (j : Nat) (sv : Value), j ≤ l.length ∧ iv = .int .i64 j ∧ SL w.heap.size w wr [pBlk B (.cells #[sv, .slice (some ⟨G, 0, none⟩) n cf] 63), pOwn cInt 1 3 sv (seenGo (idL n) (l.take j)), pOwn cInt 1 3 (.slice (some ⟨G, 0, none⟩) n cf) (row5 (idL n) (l.take j)), pBlk w.heap.size (.cells #[.slice none 0 0, .slice none 0 0] 63)]) (fun iv _ _ _ _ => l.length - (intOf iv).toNat)
   case atStart => exact ⟨0, .slice none 0 0, by omega, rfl, hSr⟩
   case round =>
    clear hSr hkn
    obtain ⟨j, sv, hj, rfl, hSr⟩ := hrel
    have hLr := HS.out.below hSr.b
    by_cases hlt : j < l.length
    ·obtain ⟨hx1, hx2⟩ := HF.out (atD 0 l j) (atD_mem hlt)
     have e1 : l.take (j + 1) = l.take j ++ [atD 0 l j] := by rw [List.take_succ_eq_append_getElem hlt]; simp [atD, hlt]
     have HSEEN : Hid (seenGo (idL n) (l.take (j + 1)) = seenGo (idL n) (l.take j) ++ [overO (row5 (idL n) (l.take j)) (atD 0 l j)]) := hid (by rw [e1, seenGo_snoc])
     have HROW : Hid (row5 (idL n) (l.take (j + 1)) = swapL (row5 (idL n) (l.take j)) (absI (atD 0 l j))) := hid (row5_take _ _ hlt)
     have hrl : (row5 (idL n) (l.take j)).length = n := by rw [row5_len, idL_len]
     have hsl : (seenGo (idL n) (l.take j)).length ≤ 1000 := by rw [seenGo_len, List.length_take]; omega
     obtain ⟨x, hx⟩ : ∃ x, x = atD 0 l j := ⟨_, rfl⟩
     rw [← hx] at hx1 hx2 HSEEN HROW
     have HX := hid hx
     obtain ⟨row, hrow⟩ : ∃ r, r = row5 (idL n) (l.take j) := ⟨_, rfl⟩
     rw [← hrow] at hSr hrl HSEEN HROW
     obtain ⟨SE, hSE⟩ : ∃ r, r = seenGo (idL n) (l.take j) := ⟨_, rfl⟩
     rw [← hSE] at hSr hsl HSEEN
     obtain ⟨I, hI⟩ : ∃ I, I = absI x := ⟨_, rfl⟩
     rw [← hI] at hx1 hx2 HROW
     obtain ⟨P, hP⟩ : ∃ P, P = I - 1 := ⟨_, rfl⟩
     have hI0 : 0 ≤ I := by omega
     have hIn : I < (n : Int) := by omega
     have hP0 : 0 ≤ P := by omega
     have hPn : P < (n : Int) := by omega
     have hI2 : I < (row.length : Int) := by omega
     have hP2 : P < (row.length : Int) := by omega
     obtain ⟨A0, hA0⟩ : ∃ A, A = atD 0 row P := ⟨_, rfl⟩
     obtain ⟨A1, hA1⟩ : ∃ A, A = atD 0 row I := ⟨_, rfl⟩
     have HA0 : Hid (row[P.toNat]?.map cInt = some (.int .i64 A0)) := hid (by rw [hA0]; exact get_map hP0 hP2)
     have HA1 : Hid (row[I.toNat]?.map cInt = some (.int .i64 A1)) := hid (by rw [hA1]; exact get_map hI0 hI2)
     have HI5 : Hid ((row.set P.toNat A1)[I.toNat]?.map cInt = some (.int .i64 A1)) := hid (by rw [List.getElem?_set_ne (by omega)]; rw [hA1]; exact get_map hI0 hI2)
     have hsw : swapL row I = (row.set P.toNat A1).set I.toNat A0 := by unfold swapL; rw [hA0, hA1, hP]
     rw [hsw] at HROW
     have hwP0 : IntKind.i64.wrap (I - 1) = P := by rw [hP]; exact IntWalk.i64_in _ (by omega)
     have hwPO : IntKind.i64.wrap P = P := IntWalk.i64_in _ (by omega)
     have hwP1 : IntKind.i64.wrap (P + 1) = I := by rw [show P + 1 = I by omega]; exact IntWalk.i64_in _ (by omega)
     by_cases hx0 : x < 0
     ·obtain ⟨O, hO⟩ : ∃ O, O = I := ⟨_, rfl⟩
      have hO0 : 0 ≤ O := by omega
      have hOn : O < (n : Int) := by omega
      have hO2 : O < (row.length : Int) := by omega
      obtain ⟨AO, hAO⟩ : ∃ A, A = overO row x := ⟨_, rfl⟩
      rw [← hAO] at HSEEN
      have HAO : Hid (row[O.toNat]?.map cInt = some (.int .i64 AO)) := hid (by rw [hAO, hO]; unfold overO; rw [if_pos hx0, ← hI]; exact get_map hI0 hI2)
      have hneg : IntKind.i64.wrap (-x) = I := by rw [hI]; unfold absI; rw [if_neg (by omega)]; exact IntWalk.i64_in _ (by unfold absI at hI; rw [if_neg (by omega)] at hI; omega)
      have hneg2 : wrap64 (-x) = I := by rw [hI]; unfold absI; rw [if_neg (by omega)]; exact IntWalk.wrap64_in _ (by unfold absI at hI; rw [if_neg (by omega)] at hI; omega)
      rw [← hO] at hwP1
      have dx : decide (x < 0) = true := decide_eq_true hx0
      clear hx hrow hSE hI hP hA0 hA1 hAO hO hsw hx0 hx1 hx2 e1 hrl
      go_wp2_with ((with_reducible refine wpList_idx _ 0 E_ints F_int cInt1 wU wU (hLr) oD oD (fun _ => wU) (fun _ => ?_)); rw [← HX.out])
      refine wp_regionK (C := (fun V => Below w.heap.size w V)) [0, 2, 4, 5, 6, 7] [_, _, _, _, _, _] 8 (by simp only [List.map_cons, List.map_nil, List.getElem?_toArray]; rfl) rfl kR kR kR (hSr.b.drew) ?_
      refine ⟨.pointer (some ⟨B, 0, none⟩), yieldsK_val wU (fun w' => by first | (go_simp; done) | (go_simp; rfl)), ?_⟩
      go_frame
      refine ⟨.pointer (some ⟨B, 1, none⟩), yieldsK_val wU (fun w' => by first | (go_simp; done) | (go_simp; rfl)), ?_⟩
      go_frame
      refine ⟨.int .i64 I, yieldsK_val wU (fun w' => by first | (go_simp; done) | (go_simp; rfl)), ?_⟩
      go_frame
      refine ⟨.int .i64 P, yieldsK_val wU (fun w' => by first | (go_simp; done) | (go_simp; rfl)), ?_⟩
      go_frame
      refine ⟨.int .i64 1, yieldsK_val wU (fun w' => by first | (go_simp; done) | (go_simp; rfl)), ?_⟩
      go_frame
      refine ⟨.int .i64 O, yieldsK_val wU (fun w' => by first | (go_simp; done) | (go_simp; rfl)), ?_⟩
      go_frame
      unfold wpPureK
      have hVd : ({ wr with drawn := wr.drawn + 1 } : World) = wr.drew := rfl
      rw [hVd]
      clear hVd
      have hSd := hSr.drew
      have c0 := hSd.cell 0 rfl 0 rfl
      have c1 := hSd.cell 0 rfl 1 rfl
      have qA := ((hSd.al (.cells #[.int .i64 AO] 3)).blk 0 rfl).1
      obtain ⟨g0, eg0, -, cO, -, -⟩ := hSd.setOwn cInt1 2 rfl O hO0 hO2 0
      cases eg0
      rw [HAO.out] at cO
      refine wpAnyC_on [1, 3] kR (by simp) ?_
      simp only [List.forall_mem_cons, List.not_mem_nil, false_implies, implies_true, and_true]
      refine ⟨?_, ?_⟩
      ·as_aux_lemma =>
       refine wpOp_value (v := sv) (w' := (wr.drew)) (by rw [List.getElem?_toArray]; rfl) wU (by first | (go_simp; done) | (go_simp; rfl) | (simp [execOp, Act.eval, Result.andThen]; done)) ?_
       refine ⟨hSd.b, ?_⟩
       go_frame
       refine wpAnyC_on [3] kR (by simp) ?_
       simp only [List.forall_mem_cons, List.not_mem_nil, false_implies, implies_true, and_true]
       refine wpOp_value (v := .slice (some ⟨G, 0, none⟩) n cf) (w' := (wr.drew)) (by rw [List.getElem?_toArray]; rfl) wU (by first | (go_simp; done) | (go_simp; rfl) | (simp [execOp, Act.eval, Result.andThen]; done)) ?_
       refine ⟨hSd.b, ?_⟩
       go_frame
       refine wpAnyC_on [8] kR (by simp) ?_
       simp only [List.forall_mem_cons, List.not_mem_nil, false_implies, implies_true, and_true]
       refine wpOp_value (v := .pointer (some ⟨G, O.toNat, none⟩)) (w' := (wr.drew)) (by rw [List.getElem?_toArray]; rfl) wU (by first | (go_simp; done) | (go_simp; rfl) | (simp [execOp, Act.eval, Result.andThen]; done)) ?_
       refine ⟨hSd.b, ?_⟩
       go_frame
       refine wpAnyC_on [9] kR (by simp) ?_
       simp only [List.forall_mem_cons, List.not_mem_nil, false_implies, implies_true, and_true]
       refine wpOp_value (v := .int .i64 AO) (w' := (wr.drew)) (by rw [List.getElem?_toArray]; rfl) wU (by first | (go_simp; done) | (go_simp; rfl) | (simp [execOp, Act.eval, Result.andThen]; done)) ?_
       refine ⟨hSd.b, ?_⟩
       go_frame
       refine wpAnyC_on [10] kR (by simp) ?_
       simp only [List.forall_mem_cons, List.not_mem_nil, false_implies, implies_true, and_true]
       refine wpOp_value (v := .slice (some ⟨(wr.drew).heap.size, 0, none⟩) 1 1) (w' := ((wr.drew).alloc (.cells #[.int .i64 AO] 3))) (by rw [List.getElem?_toArray]; rfl) wU (by first | (go_simp; done) | (go_simp; rfl) | (simp [execOp, Act.eval, Result.andThen]; done)) ?_
       refine ⟨(hSd.al _).b, ?_⟩
       go_frame
       refine wpAnyC_on [11] kR (by simp) ?_
       simp only [List.forall_mem_cons, List.not_mem_nil, false_implies, implies_true, and_true]
       refine wpOp_of_list (by rw [List.getElem?_toArray]; rfl) ?_
       ((with_reducible refine wpList_pushL (y := AO) 1 E_ints wU wU (hSd) wU cIntO ⟨rfl, rfl⟩ (by first | with_unfolding_all rfl | simp) wU (by first | omega | (simp; omega)) (by first | omega | (simp; omega)) ?_); intro v2 w2 hS2)
       refine ⟨hS2.b, ?_⟩
       go_frame
       refine wpAnyC_on [12] kR (by simp) ?_
       simp only [List.forall_mem_cons, List.not_mem_nil, false_implies, implies_true, and_true]
       refine wpOp_value (v := .pointer (some ⟨B, 0, none⟩)) (w' := w2) (by rw [List.getElem?_toArray]; rfl) wU (by first | (go_simp; done) | (go_simp; rfl) | (simp [execOp, Act.eval, Result.andThen]; done)) ?_
       refine ⟨hS2.b, ?_⟩
       go_frame
       refine wpAnyC_on [13] kR (by simp) ?_
       simp only [List.forall_mem_cons, List.not_mem_nil, false_implies, implies_true, and_true]
       refine wpOp_of_list (by rw [List.getElem?_toArray]; rfl) ?_
       refine wpList_stoAt (sto_slV v2 (isSl hS2 1 rfl) _ _) wU wU (hS2.cell 0 rfl 0 rfl) (hS2.frozen 0 rfl 0) ?_
       have hS3 := hS2.set 0 rfl 0 v2
       refine ⟨hS3.b, ?_⟩
       go_frame
       refine wpAnyC_rest [] [] rfl rfl kR kR kR hS3.b ?_
       unfold wpPure
       refine of_wpList_nil (P := Tryz.prog) (ops := #[]) ?_
       replace hS3 : SL w.heap.size w (w2.setCell ⟨B, 0, none⟩ v2) [pBlk B (.cells #[v2, .slice (some ⟨G, 0, none⟩) n cf] 63), pOwn cInt 1 3 v2 (SE ++ [AO]), pOwn cInt 1 3 (.slice (some ⟨G, 0, none⟩) n cf) row, pBlk w.heap.size (.cells #[.slice none 0 0, .slice none 0 0] 63)] := hS3
       show wpList _ _ _ _ _ (w2.setCell ⟨B, 0, none⟩ v2)
       obtain ⟨W3, hW3⟩ : ∃ W3, W3 = w2.setCell ⟨B, 0, none⟩ v2 := ⟨_, rfl⟩
       rw [← hW3] at hS3 ⊢
       clear hW3 hSd c0 c1 cO qA hwPO hwP1
       have q3 := (hS3.blk 0 rfl).1
       have kc : ∀ V : World, (Below w.heap.size w V ∧ V.heap[B]? = some (.cells #[v2, .slice (some ⟨G, 0, none⟩) n cf] 63)) → V.cell? ⟨B, 1, none⟩ = some (.slice (some ⟨G, 0, none⟩) n cf) := fun V h => by simp [World.cell?, h.2]
       clear hS2
       go_wp2_with fail
       refine wp_regionK (C := (fun V => Below w.heap.size w V ∧ V.heap[B]? = some (.cells #[v2, .slice (some ⟨G, 0, none⟩) n cf] 63))) [0, 1, 2, 3, 4, 5, 6, 7, 8, 9, 10, 12, 13, 14, 15, 16] [_, _, _, _, _, _, _, _, _, _, _, _, _, _, _, _] 6 (by simp only [List.map_cons, List.map_nil, List.getElem?_toArray]; rfl) rfl kR kR kR (⟨hS3.b.drew, q3⟩) ?_
       refine ⟨.pointer (some ⟨B, 1, none⟩), yieldsK_val wU (fun w' => by first | (go_simp; done) | (go_simp; rfl)), ?_⟩
       go_frame
       refine ⟨_, yieldsK_cellC F_sl (fun V h => kc V h) wU wU, ?_⟩
       go_frame
       refine ⟨.int .i64 I, yieldsK_val wU (fun w' => by first | (go_simp; done) | (go_simp; rfl)), ?_⟩
       go_frame
       refine ⟨.int .i64 P, yieldsK_val wU (fun w' => by first | (go_simp; done) | (go_simp; rfl)), ?_⟩
       go_frame
       refine ⟨.pointer (some ⟨B, 1, none⟩), yieldsK_val wU (fun w' => by first | (go_simp; done) | (go_simp; rfl)), ?_⟩
       go_frame
       refine ⟨_, yieldsK_cellC F_sl (fun V h => kc V h) wU wU, ?_⟩
       go_frame
       refine ⟨.int .i64 I, yieldsK_val wU (fun w' => by first | (go_simp; done) | (go_simp; rfl)), ?_⟩
       go_frame
       refine ⟨.pointer (some ⟨B, 1, none⟩), yieldsK_val wU (fun w' => by first | (go_simp; done) | (go_simp; rfl)), ?_⟩
       go_frame
       refine ⟨_, yieldsK_cellC F_sl (fun V h => kc V h) wU wU, ?_⟩
       go_frame
       refine ⟨.int .i64 I, yieldsK_val wU (fun w' => by first | (go_simp; done) | (go_simp; rfl)), ?_⟩
       go_frame
       refine ⟨.pointer (some ⟨G, I.toNat, none⟩), yieldsK_val wU (fun w' => by first | (go_simp; done) | (go_simp; rfl)), ?_⟩
       go_frame
       refine ⟨.pointer (some ⟨B, 1, none⟩), yieldsK_val wU (fun w' => by first | (go_simp; done) | (go_simp; rfl)), ?_⟩
       go_frame
       refine ⟨_, yieldsK_cellC F_sl (fun V h => kc V h) wU wU, ?_⟩
       go_frame
       refine ⟨.int .i64 I, yieldsK_val wU (fun w' => by first | (go_simp; done) | (go_simp; rfl)), ?_⟩
       go_frame
       refine ⟨.int .i64 P, yieldsK_val wU (fun w' => by first | (go_simp; done) | (go_simp; rfl)), ?_⟩
       go_frame
       refine ⟨.pointer (some ⟨G, P.toNat, none⟩), yieldsK_val wU (fun w' => by first | (go_simp; done) | (go_simp; rfl)), ?_⟩
       go_frame
       unfold wpPureK
       have hVd : ({ W3 with drawn := W3.drawn + 1 } : World) = W3.drew := rfl
       rw [hVd]
       clear hVd
       obtain ⟨W4, hW4⟩ : ∃ W4, W4 = W3.drew := ⟨_, rfl⟩
       have hS4 : SL w.heap.size w W4 [pBlk B (.cells #[v2, .slice (some ⟨G, 0, none⟩) n cf] 63), pOwn cInt 1 3 v2 (SE ++ [AO]), pOwn cInt 1 3 (.slice (some ⟨G, 0, none⟩) n cf) row, pBlk w.heap.size (.cells #[.slice none 0 0, .slice none 0 0] 63)] := by rw [hW4]; exact hS3.drew
       rw [← hW4]
       clear hW4 hS3 q3 kc
       have q4 := (hS4.blk 0 rfl).1
       obtain ⟨g0, eg0, -, hcI, -, -⟩ := hS4.setOwn cInt1 2 rfl I hI0 hI2 0
       cases eg0
       obtain ⟨g1, eg1, -, hcP, hfP, hS5⟩ := hS4.setOwn cInt1 2 rfl P hP0 hP2 A1
       cases eg1
       obtain ⟨g2, eg2, -, hcI5, hfI5, hS6⟩ := hS5.setOwn cInt1 2 rfl I hI0 (by rw [List.length_set]; exact hI2) A0
       cases eg2
       rw [HA1.out] at hcI
       rw [HA0.out] at hcP
       rw [HI5.out] at hcI5
       replace hS6 : SL w.heap.size w ((W4.setCell ⟨G, P.toNat, none⟩ (.int .i64 A1)).setCell ⟨G, I.toNat, none⟩ (.int .i64 A0)) [pBlk B (.cells #[v2, .slice (some ⟨G, 0, none⟩) n cf] 63), pOwn cInt 1 3 v2 (SE ++ [AO]), pOwn cInt 1 3 (.slice (some ⟨G, 0, none⟩) n cf) ((row.set P.toNat A1).set I.toNat A0), pBlk w.heap.size (.cells #[.slice none 0 0, .slice none 0 0] 63)] := hS6
       refine wpAnyC_on [11, 17] kR (by simp) ?_
       simp only [List.forall_mem_cons, List.not_mem_nil, false_implies, implies_true, and_true]
       refine ⟨?_, ?_⟩
       ·as_aux_lemma =>
        refine wpOp_value (v := .int .i64 A1) (w' := W4) (by rw [List.getElem?_toArray]; rfl) wU (by first | (go_simp; done) | (go_simp; rfl) | (simp [execOp, Act.eval, Result.andThen]; done)) ?_
        refine ⟨⟨hS4.b, q4⟩, ?_⟩
        go_frame
        refine wpAnyC_on [17] kR (by simp) ?_
        simp only [List.forall_mem_cons, List.not_mem_nil, false_implies, implies_true, and_true]
        refine wpOp_value (v := .int .i64 A0) (w' := W4) (by rw [List.getElem?_toArray]; rfl) wU (by first | (go_simp; done) | (go_simp; rfl) | (simp [execOp, Act.eval, Result.andThen]; done)) ?_
        refine ⟨⟨hS4.b, q4⟩, ?_⟩
        go_frame
        refine wpAnyC_on [18] kR (by simp) ?_
        simp only [List.forall_mem_cons, List.not_mem_nil, false_implies, implies_true, and_true]
        refine wpOp_value (v := .pointer (some ⟨G, P.toNat, none⟩)) (w' := W4) (by rw [List.getElem?_toArray]; rfl) wU (by first | (go_simp; done) | (go_simp; rfl) | (simp [execOp, Act.eval, Result.andThen]; done)) ?_
        refine ⟨⟨hS4.b, q4⟩, ?_⟩
        go_frame
        refine wpAnyC_on [19] kR (by simp) ?_
        simp only [List.forall_mem_cons, List.not_mem_nil, false_implies, implies_true, and_true]
        refine wpOp_of_list (by rw [List.getElem?_toArray]; rfl) ?_
        refine wpList_stoAt (sto_int A1 _ _) wU wU hcP hfP ?_
        refine ⟨⟨hS5.b, (hS5.blk 0 rfl).1⟩, ?_⟩
        go_frame
        refine wpAnyC_on [20] kR (by simp) ?_
        simp only [List.forall_mem_cons, List.not_mem_nil, false_implies, implies_true, and_true]
        refine wpOp_value (v := .pointer (some ⟨G, I.toNat, none⟩)) (w' := (W4.setCell ⟨G, P.toNat, none⟩ (.int .i64 A1))) (by rw [List.getElem?_toArray]; rfl) wU (by first | (go_simp; done) | (go_simp; rfl) | (simp [execOp, Act.eval, Result.andThen]; done)) ?_
        refine ⟨⟨hS5.b, (hS5.blk 0 rfl).1⟩, ?_⟩
        go_frame
        refine wpAnyC_on [21] kR (by simp) ?_
        simp only [List.forall_mem_cons, List.not_mem_nil, false_implies, implies_true, and_true]
        refine wpOp_of_list (by rw [List.getElem?_toArray]; rfl) ?_
        refine wpList_stoAt (sto_int A0 _ _) wU wU hcI5 hfI5 ?_
        refine ⟨⟨hS6.b, (hS6.blk 0 rfl).1⟩, ?_⟩
        go_frame
        refine wpAnyC_rest [] [] rfl rfl kR kR kR ⟨hS6.b, (hS6.blk 0 rfl).1⟩ ?_
        unfold wpPure
        refine of_wpList_nil (P := Tryz.prog) (ops := #[]) ?_
        show wpList _ _ _ _ _ ((W4.setCell ⟨G, P.toNat, none⟩ (.int .i64 A1)).setCell ⟨G, I.toNat, none⟩ (.int .i64 A0))
        generalize ((W4.setCell ⟨G, P.toNat, none⟩ (.int .i64 A1)).setCell ⟨G, I.toNat, none⟩ (.int .i64 A0)) = w6 at *
        clear hS5 hS4 hcP hfP hcI5 hfI5 hcI q4
        go_wp2_with fail
        exact ⟨⟨j + 1, v2, by omega, by go_num, by rw [HSEEN.out, HROW.out]; exact hS6⟩, by simp [intOf]; omega⟩
       ·as_aux_lemma =>
        refine wpOp_value (v := .int .i64 A0) (w' := W4) (by rw [List.getElem?_toArray]; rfl) wU (by first | (go_simp; done) | (go_simp; rfl) | (simp [execOp, Act.eval, Result.andThen]; done)) ?_
        refine ⟨⟨hS4.b, q4⟩, ?_⟩
        go_frame
        refine wpAnyC_on [11] kR (by simp) ?_
        simp only [List.forall_mem_cons, List.not_mem_nil, false_implies, implies_true, and_true]
        refine wpOp_value (v := .int .i64 A1) (w' := W4) (by rw [List.getElem?_toArray]; rfl) wU (by first | (go_simp; done) | (go_simp; rfl) | (simp [execOp, Act.eval, Result.andThen]; done)) ?_
        refine ⟨⟨hS4.b, q4⟩, ?_⟩
        go_frame
        refine wpAnyC_on [18] kR (by simp) ?_
        simp only [List.forall_mem_cons, List.not_mem_nil, false_implies, implies_true, and_true]
        refine wpOp_value (v := .pointer (some ⟨G, P.toNat, none⟩)) (w' := W4) (by rw [List.getElem?_toArray]; rfl) wU (by first | (go_simp; done) | (go_simp; rfl) | (simp [execOp, Act.eval, Result.andThen]; done)) ?_
        refine ⟨⟨hS4.b, q4⟩, ?_⟩
        go_frame
        refine wpAnyC_on [19] kR (by simp) ?_
        simp only [List.forall_mem_cons, List.not_mem_nil, false_implies, implies_true, and_true]
        refine wpOp_of_list (by rw [List.getElem?_toArray]; rfl) ?_
        refine wpList_stoAt (sto_int A1 _ _) wU wU hcP hfP ?_
        refine ⟨⟨hS5.b, (hS5.blk 0 rfl).1⟩, ?_⟩
        go_frame
        refine wpAnyC_on [20] kR (by simp) ?_
        simp only [List.forall_mem_cons, List.not_mem_nil, false_implies, implies_true, and_true]
        refine wpOp_value (v := .pointer (some ⟨G, I.toNat, none⟩)) (w' := (W4.setCell ⟨G, P.toNat, none⟩ (.int .i64 A1))) (by rw [List.getElem?_toArray]; rfl) wU (by first | (go_simp; done) | (go_simp; rfl) | (simp [execOp, Act.eval, Result.andThen]; done)) ?_
        refine ⟨⟨hS5.b, (hS5.blk 0 rfl).1⟩, ?_⟩
        go_frame
        refine wpAnyC_on [21] kR (by simp) ?_
        simp only [List.forall_mem_cons, List.not_mem_nil, false_implies, implies_true, and_true]
        refine wpOp_of_list (by rw [List.getElem?_toArray]; rfl) ?_
        refine wpList_stoAt (sto_int A0 _ _) wU wU hcI5 hfI5 ?_
        refine ⟨⟨hS6.b, (hS6.blk 0 rfl).1⟩, ?_⟩
        go_frame
        refine wpAnyC_rest [] [] rfl rfl kR kR kR ⟨hS6.b, (hS6.blk 0 rfl).1⟩ ?_
        unfold wpPure
        refine of_wpList_nil (P := Tryz.prog) (ops := #[]) ?_
        show wpList _ _ _ _ _ ((W4.setCell ⟨G, P.toNat, none⟩ (.int .i64 A1)).setCell ⟨G, I.toNat, none⟩ (.int .i64 A0))
        generalize ((W4.setCell ⟨G, P.toNat, none⟩ (.int .i64 A1)).setCell ⟨G, I.toNat, none⟩ (.int .i64 A0)) = w6 at *
        clear hS5 hS4 hcP hfP hcI5 hfI5 hcI q4
        go_wp2_with fail
        exact ⟨⟨j + 1, v2, by omega, by go_num, by rw [HSEEN.out, HROW.out]; exact hS6⟩, by simp [intOf]; omega⟩
      ·as_aux_lemma =>
       refine wpOp_value (v := .slice (some ⟨G, 0, none⟩) n cf) (w' := (wr.drew)) (by rw [List.getElem?_toArray]; rfl) wU (by first | (go_simp; done) | (go_simp; rfl) | (simp [execOp, Act.eval, Result.andThen]; done)) ?_
       refine ⟨hSd.b, ?_⟩
       go_frame
       refine wpAnyC_on [1, 8] kR (by simp) ?_
       simp only [List.forall_mem_cons, List.not_mem_nil, false_implies, implies_true, and_true]
       refine ⟨?_, ?_⟩
       ·as_aux_lemma =>
        refine wpOp_value (v := sv) (w' := (wr.drew)) (by rw [List.getElem?_toArray]; rfl) wU (by first | (go_simp; done) | (go_simp; rfl) | (simp [execOp, Act.eval, Result.andThen]; done)) ?_
        refine ⟨hSd.b, ?_⟩
        go_frame
        refine wpAnyC_on [8] kR (by simp) ?_
        simp only [List.forall_mem_cons, List.not_mem_nil, false_implies, implies_true, and_true]
        refine wpOp_value (v := .pointer (some ⟨G, O.toNat, none⟩)) (w' := (wr.drew)) (by rw [List.getElem?_toArray]; rfl) wU (by first | (go_simp; done) | (go_simp; rfl) | (simp [execOp, Act.eval, Result.andThen]; done)) ?_
        refine ⟨hSd.b, ?_⟩
        go_frame
        refine wpAnyC_on [9] kR (by simp) ?_
        simp only [List.forall_mem_cons, List.not_mem_nil, false_implies, implies_true, and_true]
        refine wpOp_value (v := .int .i64 AO) (w' := (wr.drew)) (by rw [List.getElem?_toArray]; rfl) wU (by first | (go_simp; done) | (go_simp; rfl) | (simp [execOp, Act.eval, Result.andThen]; done)) ?_
        refine ⟨hSd.b, ?_⟩
        go_frame
        refine wpAnyC_on [10] kR (by simp) ?_
        simp only [List.forall_mem_cons, List.not_mem_nil, false_implies, implies_true, and_true]
        refine wpOp_value (v := .slice (some ⟨(wr.drew).heap.size, 0, none⟩) 1 1) (w' := ((wr.drew).alloc (.cells #[.int .i64 AO] 3))) (by rw [List.getElem?_toArray]; rfl) wU (by first | (go_simp; done) | (go_simp; rfl) | (simp [execOp, Act.eval, Result.andThen]; done)) ?_
        refine ⟨(hSd.al _).b, ?_⟩
        go_frame
        refine wpAnyC_on [11] kR (by simp) ?_
        simp only [List.forall_mem_cons, List.not_mem_nil, false_implies, implies_true, and_true]
        refine wpOp_of_list (by rw [List.getElem?_toArray]; rfl) ?_
        ((with_reducible refine wpList_pushL (y := AO) 1 E_ints wU wU (hSd) wU cIntO ⟨rfl, rfl⟩ (by first | with_unfolding_all rfl | simp) wU (by first | omega | (simp; omega)) (by first | omega | (simp; omega)) ?_); intro v2 w2 hS2)
        refine ⟨hS2.b, ?_⟩
        go_frame
        refine wpAnyC_on [12] kR (by simp) ?_
        simp only [List.forall_mem_cons, List.not_mem_nil, false_implies, implies_true, and_true]
        refine wpOp_value (v := .pointer (some ⟨B, 0, none⟩)) (w' := w2) (by rw [List.getElem?_toArray]; rfl) wU (by first | (go_simp; done) | (go_simp; rfl) | (simp [execOp, Act.eval, Result.andThen]; done)) ?_
        refine ⟨hS2.b, ?_⟩
        go_frame
        refine wpAnyC_on [13] kR (by simp) ?_
        simp only [List.forall_mem_cons, List.not_mem_nil, false_implies, implies_true, and_true]
        refine wpOp_of_list (by rw [List.getElem?_toArray]; rfl) ?_
        refine wpList_stoAt (sto_slV v2 (isSl hS2 1 rfl) _ _) wU wU (hS2.cell 0 rfl 0 rfl) (hS2.frozen 0 rfl 0) ?_
        have hS3 := hS2.set 0 rfl 0 v2
        refine ⟨hS3.b, ?_⟩
        go_frame
        refine wpAnyC_rest [] [] rfl rfl kR kR kR hS3.b ?_
        unfold wpPure
        refine of_wpList_nil (P := Tryz.prog) (ops := #[]) ?_
        replace hS3 : SL w.heap.size w (w2.setCell ⟨B, 0, none⟩ v2) [pBlk B (.cells #[v2, .slice (some ⟨G, 0, none⟩) n cf] 63), pOwn cInt 1 3 v2 (SE ++ [AO]), pOwn cInt 1 3 (.slice (some ⟨G, 0, none⟩) n cf) row, pBlk w.heap.size (.cells #[.slice none 0 0, .slice none 0 0] 63)] := hS3
        show wpList _ _ _ _ _ (w2.setCell ⟨B, 0, none⟩ v2)
        obtain ⟨W3, hW3⟩ : ∃ W3, W3 = w2.setCell ⟨B, 0, none⟩ v2 := ⟨_, rfl⟩
        rw [← hW3] at hS3 ⊢
        clear hW3 hSd c0 c1 cO qA hwPO hwP1
        have q3 := (hS3.blk 0 rfl).1
        have kc : ∀ V : World, (Below w.heap.size w V ∧ V.heap[B]? = some (.cells #[v2, .slice (some ⟨G, 0, none⟩) n cf] 63)) → V.cell? ⟨B, 1, none⟩ = some (.slice (some ⟨G, 0, none⟩) n cf) := fun V h => by simp [World.cell?, h.2]
        clear hS2
        go_wp2_with fail
        refine wp_regionK (C := (fun V => Below w.heap.size w V ∧ V.heap[B]? = some (.cells #[v2, .slice (some ⟨G, 0, none⟩) n cf] 63))) [0, 1, 2, 3, 4, 5, 6, 7, 8, 9, 10, 12, 13, 14, 15, 16] [_, _, _, _, _, _, _, _, _, _, _, _, _, _, _, _] 6 (by simp only [List.map_cons, List.map_nil, List.getElem?_toArray]; rfl) rfl kR kR kR (⟨hS3.b.drew, q3⟩) ?_
        refine ⟨.pointer (some ⟨B, 1, none⟩), yieldsK_val wU (fun w' => by first | (go_simp; done) | (go_simp; rfl)), ?_⟩
        go_frame
        refine ⟨_, yieldsK_cellC F_sl (fun V h => kc V h) wU wU, ?_⟩
        go_frame
        refine ⟨.int .i64 I, yieldsK_val wU (fun w' => by first | (go_simp; done) | (go_simp; rfl)), ?_⟩
        go_frame
        refine ⟨.int .i64 P, yieldsK_val wU (fun w' => by first | (go_simp; done) | (go_simp; rfl)), ?_⟩
        go_frame
        refine ⟨.pointer (some ⟨B, 1, none⟩), yieldsK_val wU (fun w' => by first | (go_simp; done) | (go_simp; rfl)), ?_⟩
        go_frame
        refine ⟨_, yieldsK_cellC F_sl (fun V h => kc V h) wU wU, ?_⟩
        go_frame
        refine ⟨.int .i64 I, yieldsK_val wU (fun w' => by first | (go_simp; done) | (go_simp; rfl)), ?_⟩
        go_frame
        refine ⟨.pointer (some ⟨B, 1, none⟩), yieldsK_val wU (fun w' => by first | (go_simp; done) | (go_simp; rfl)), ?_⟩
        go_frame
        refine ⟨_, yieldsK_cellC F_sl (fun V h => kc V h) wU wU, ?_⟩
        go_frame
        refine ⟨.int .i64 I, yieldsK_val wU (fun w' => by first | (go_simp; done) | (go_simp; rfl)), ?_⟩
        go_frame
        refine ⟨.pointer (some ⟨G, I.toNat, none⟩), yieldsK_val wU (fun w' => by first | (go_simp; done) | (go_simp; rfl)), ?_⟩
        go_frame
        refine ⟨.pointer (some ⟨B, 1, none⟩), yieldsK_val wU (fun w' => by first | (go_simp; done) | (go_simp; rfl)), ?_⟩
        go_frame
        refine ⟨_, yieldsK_cellC F_sl (fun V h => kc V h) wU wU, ?_⟩
        go_frame
        refine ⟨.int .i64 I, yieldsK_val wU (fun w' => by first | (go_simp; done) | (go_simp; rfl)), ?_⟩
        go_frame
        refine ⟨.int .i64 P, yieldsK_val wU (fun w' => by first | (go_simp; done) | (go_simp; rfl)), ?_⟩
        go_frame
        refine ⟨.pointer (some ⟨G, P.toNat, none⟩), yieldsK_val wU (fun w' => by first | (go_simp; done) | (go_simp; rfl)), ?_⟩
        go_frame
        unfold wpPureK
        have hVd : ({ W3 with drawn := W3.drawn + 1 } : World) = W3.drew := rfl
        rw [hVd]
        clear hVd
        obtain ⟨W4, hW4⟩ : ∃ W4, W4 = W3.drew := ⟨_, rfl⟩
        have hS4 : SL w.heap.size w W4 [pBlk B (.cells #[v2, .slice (some ⟨G, 0, none⟩) n cf] 63), pOwn cInt 1 3 v2 (SE ++ [AO]), pOwn cInt 1 3 (.slice (some ⟨G, 0, none⟩) n cf) row, pBlk w.heap.size (.cells #[.slice none 0 0, .slice none 0 0] 63)] := by rw [hW4]; exact hS3.drew
        rw [← hW4]
        clear hW4 hS3 q3 kc
        have q4 := (hS4.blk 0 rfl).1
        obtain ⟨g0, eg0, -, hcI, -, -⟩ := hS4.setOwn cInt1 2 rfl I hI0 hI2 0
        cases eg0
        obtain ⟨g1, eg1, -, hcP, hfP, hS5⟩ := hS4.setOwn cInt1 2 rfl P hP0 hP2 A1
        cases eg1
        obtain ⟨g2, eg2, -, hcI5, hfI5, hS6⟩ := hS5.setOwn cInt1 2 rfl I hI0 (by rw [List.length_set]; exact hI2) A0
        cases eg2
        rw [HA1.out] at hcI
        rw [HA0.out] at hcP
        rw [HI5.out] at hcI5
        replace hS6 : SL w.heap.size w ((W4.setCell ⟨G, P.toNat, none⟩ (.int .i64 A1)).setCell ⟨G, I.toNat, none⟩ (.int .i64 A0)) [pBlk B (.cells #[v2, .slice (some ⟨G, 0, none⟩) n cf] 63), pOwn cInt 1 3 v2 (SE ++ [AO]), pOwn cInt 1 3 (.slice (some ⟨G, 0, none⟩) n cf) ((row.set P.toNat A1).set I.toNat A0), pBlk w.heap.size (.cells #[.slice none 0 0, .slice none 0 0] 63)] := hS6
        refine wpAnyC_on [11, 17] kR (by simp) ?_
        simp only [List.forall_mem_cons, List.not_mem_nil, false_implies, implies_true, and_true]
        refine ⟨?_, ?_⟩
        ·as_aux_lemma =>
         refine wpOp_value (v := .int .i64 A1) (w' := W4) (by rw [List.getElem?_toArray]; rfl) wU (by first | (go_simp; done) | (go_simp; rfl) | (simp [execOp, Act.eval, Result.andThen]; done)) ?_
         refine ⟨⟨hS4.b, q4⟩, ?_⟩
         go_frame
         refine wpAnyC_on [17] kR (by simp) ?_
         simp only [List.forall_mem_cons, List.not_mem_nil, false_implies, implies_true, and_true]
         refine wpOp_value (v := .int .i64 A0) (w' := W4) (by rw [List.getElem?_toArray]; rfl) wU (by first | (go_simp; done) | (go_simp; rfl) | (simp [execOp, Act.eval, Result.andThen]; done)) ?_
         refine ⟨⟨hS4.b, q4⟩, ?_⟩
         go_frame
         refine wpAnyC_on [18] kR (by simp) ?_
         simp only [List.forall_mem_cons, List.not_mem_nil, false_implies, implies_true, and_true]
         refine wpOp_value (v := .pointer (some ⟨G, P.toNat, none⟩)) (w' := W4) (by rw [List.getElem?_toArray]; rfl) wU (by first | (go_simp; done) | (go_simp; rfl) | (simp [execOp, Act.eval, Result.andThen]; done)) ?_
         refine ⟨⟨hS4.b, q4⟩, ?_⟩
         go_frame
         refine wpAnyC_on [19] kR (by simp) ?_
         simp only [List.forall_mem_cons, List.not_mem_nil, false_implies, implies_true, and_true]
         refine wpOp_of_list (by rw [List.getElem?_toArray]; rfl) ?_
         refine wpList_stoAt (sto_int A1 _ _) wU wU hcP hfP ?_
         refine ⟨⟨hS5.b, (hS5.blk 0 rfl).1⟩, ?_⟩
         go_frame
         refine wpAnyC_on [20] kR (by simp) ?_
         simp only [List.forall_mem_cons, List.not_mem_nil, false_implies, implies_true, and_true]
         refine wpOp_value (v := .pointer (some ⟨G, I.toNat, none⟩)) (w' := (W4.setCell ⟨G, P.toNat, none⟩ (.int .i64 A1))) (by rw [List.getElem?_toArray]; rfl) wU (by first | (go_simp; done) | (go_simp; rfl) | (simp [execOp, Act.eval, Result.andThen]; done)) ?_
         refine ⟨⟨hS5.b, (hS5.blk 0 rfl).1⟩, ?_⟩
         go_frame
         refine wpAnyC_on [21] kR (by simp) ?_
         simp only [List.forall_mem_cons, List.not_mem_nil, false_implies, implies_true, and_true]
         refine wpOp_of_list (by rw [List.getElem?_toArray]; rfl) ?_
         refine wpList_stoAt (sto_int A0 _ _) wU wU hcI5 hfI5 ?_
         refine ⟨⟨hS6.b, (hS6.blk 0 rfl).1⟩, ?_⟩
         go_frame
         refine wpAnyC_rest [] [] rfl rfl kR kR kR ⟨hS6.b, (hS6.blk 0 rfl).1⟩ ?_
         unfold wpPure
         refine of_wpList_nil (P := Tryz.prog) (ops := #[]) ?_
         show wpList _ _ _ _ _ ((W4.setCell ⟨G, P.toNat, none⟩ (.int .i64 A1)).setCell ⟨G, I.toNat, none⟩ (.int .i64 A0))
         generalize ((W4.setCell ⟨G, P.toNat, none⟩ (.int .i64 A1)).setCell ⟨G, I.toNat, none⟩ (.int .i64 A0)) = w6 at *
         clear hS5 hS4 hcP hfP hcI5 hfI5 hcI q4
         go_wp2_with fail
         exact ⟨⟨j + 1, v2, by omega, by go_num, by rw [HSEEN.out, HROW.out]; exact hS6⟩, by simp [intOf]; omega⟩
        ·as_aux_lemma =>
         refine wpOp_value (v := .int .i64 A0) (w' := W4) (by rw [List.getElem?_toArray]; rfl) wU (by first | (go_simp; done) | (go_simp; rfl) | (simp [execOp, Act.eval, Result.andThen]; done)) ?_
         refine ⟨⟨hS4.b, q4⟩, ?_⟩
         go_frame
         refine wpAnyC_on [11] kR (by simp) ?_
         simp only [List.forall_mem_cons, List.not_mem_nil, false_implies, implies_true, and_true]
         refine wpOp_value (v := .int .i64 A1) (w' := W4) (by rw [List.getElem?_toArray]; rfl) wU (by first | (go_simp; done) | (go_simp; rfl) | (simp [execOp, Act.eval, Result.andThen]; done)) ?_
         refine ⟨⟨hS4.b, q4⟩, ?_⟩
         go_frame
         refine wpAnyC_on [18] kR (by simp) ?_
         simp only [List.forall_mem_cons, List.not_mem_nil, false_implies, implies_true, and_true]
         refine wpOp_value (v := .pointer (some ⟨G, P.toNat, none⟩)) (w' := W4) (by rw [List.getElem?_toArray]; rfl) wU (by first | (go_simp; done) | (go_simp; rfl) | (simp [execOp, Act.eval, Result.andThen]; done)) ?_
         refine ⟨⟨hS4.b, q4⟩, ?_⟩
         go_frame
         refine wpAnyC_on [19] kR (by simp) ?_
         simp only [List.forall_mem_cons, List.not_mem_nil, false_implies, implies_true, and_true]
         refine wpOp_of_list (by rw [List.getElem?_toArray]; rfl) ?_
         refine wpList_stoAt (sto_int A1 _ _) wU wU hcP hfP ?_
         refine ⟨⟨hS5.b, (hS5.blk 0 rfl).1⟩, ?_⟩
         go_frame
         refine wpAnyC_on [20] kR (by simp) ?_
         simp only [List.forall_mem_cons, List.not_mem_nil, false_implies, implies_true, and_true]
         refine wpOp_value (v := .pointer (some ⟨G, I.toNat, none⟩)) (w' := (W4.setCell ⟨G, P.toNat, none⟩ (.int .i64 A1))) (by rw [List.getElem?_toArray]; rfl) wU (by first | (go_simp; done) | (go_simp; rfl) | (simp [execOp, Act.eval, Result.andThen]; done)) ?_
         refine ⟨⟨hS5.b, (hS5.blk 0 rfl).1⟩, ?_⟩
         go_frame
         refine wpAnyC_on [21] kR (by simp) ?_
         simp only [List.forall_mem_cons, List.not_mem_nil, false_implies, implies_true, and_true]
         refine wpOp_of_list (by rw [List.getElem?_toArray]; rfl) ?_
         refine wpList_stoAt (sto_int A0 _ _) wU wU hcI5 hfI5 ?_
         refine ⟨⟨hS6.b, (hS6.blk 0 rfl).1⟩, ?_⟩
         go_frame
         refine wpAnyC_rest [] [] rfl rfl kR kR kR ⟨hS6.b, (hS6.blk 0 rfl).1⟩ ?_
         unfold wpPure
         refine of_wpList_nil (P := Tryz.prog) (ops := #[]) ?_
         show wpList _ _ _ _ _ ((W4.setCell ⟨G, P.toNat, none⟩ (.int .i64 A1)).setCell ⟨G, I.toNat, none⟩ (.int .i64 A0))
         generalize ((W4.setCell ⟨G, P.toNat, none⟩ (.int .i64 A1)).setCell ⟨G, I.toNat, none⟩ (.int .i64 A0)) = w6 at *
         clear hS5 hS4 hcP hfP hcI5 hfI5 hcI q4
         go_wp2_with fail
         exact ⟨⟨j + 1, v2, by omega, by go_num, by rw [HSEEN.out, HROW.out]; exact hS6⟩, by simp [intOf]; omega⟩
       ·as_aux_lemma =>
        refine wpOp_value (v := .pointer (some ⟨G, O.toNat, none⟩)) (w' := (wr.drew)) (by rw [List.getElem?_toArray]; rfl) wU (by first | (go_simp; done) | (go_simp; rfl) | (simp [execOp, Act.eval, Result.andThen]; done)) ?_
        refine ⟨hSd.b, ?_⟩
        go_frame
        refine wpAnyC_on [1, 9] kR (by simp) ?_
        simp only [List.forall_mem_cons, List.not_mem_nil, false_implies, implies_true, and_true]
        refine ⟨?_, ?_⟩
        ·as_aux_lemma =>
         refine wpOp_value (v := sv) (w' := (wr.drew)) (by rw [List.getElem?_toArray]; rfl) wU (by first | (go_simp; done) | (go_simp; rfl) | (simp [execOp, Act.eval, Result.andThen]; done)) ?_
         refine ⟨hSd.b, ?_⟩
         go_frame
         refine wpAnyC_on [9] kR (by simp) ?_
         simp only [List.forall_mem_cons, List.not_mem_nil, false_implies, implies_true, and_true]
         refine wpOp_value (v := .int .i64 AO) (w' := (wr.drew)) (by rw [List.getElem?_toArray]; rfl) wU (by first | (go_simp; done) | (go_simp; rfl) | (simp [execOp, Act.eval, Result.andThen]; done)) ?_
         refine ⟨hSd.b, ?_⟩
         go_frame
         refine wpAnyC_on [10] kR (by simp) ?_
         simp only [List.forall_mem_cons, List.not_mem_nil, false_implies, implies_true, and_true]
         refine wpOp_value (v := .slice (some ⟨(wr.drew).heap.size, 0, none⟩) 1 1) (w' := ((wr.drew).alloc (.cells #[.int .i64 AO] 3))) (by rw [List.getElem?_toArray]; rfl) wU (by first | (go_simp; done) | (go_simp; rfl) | (simp [execOp, Act.eval, Result.andThen]; done)) ?_
         refine ⟨(hSd.al _).b, ?_⟩
         go_frame
         refine wpAnyC_on [11] kR (by simp) ?_
         simp only [List.forall_mem_cons, List.not_mem_nil, false_implies, implies_true, and_true]
         refine wpOp_of_list (by rw [List.getElem?_toArray]; rfl) ?_
         ((with_reducible refine wpList_pushL (y := AO) 1 E_ints wU wU (hSd) wU cIntO ⟨rfl, rfl⟩ (by first | with_unfolding_all rfl | simp) wU (by first | omega | (simp; omega)) (by first | omega | (simp; omega)) ?_); intro v2 w2 hS2)
         refine ⟨hS2.b, ?_⟩
         go_frame
         refine wpAnyC_on [12] kR (by simp) ?_
         simp only [List.forall_mem_cons, List.not_mem_nil, false_implies, implies_true, and_true]
         refine wpOp_value (v := .pointer (some ⟨B, 0, none⟩)) (w' := w2) (by rw [List.getElem?_toArray]; rfl) wU (by first | (go_simp; done) | (go_simp; rfl) | (simp [execOp, Act.eval, Result.andThen]; done)) ?_
         refine ⟨hS2.b, ?_⟩
         go_frame
         refine wpAnyC_on [13] kR (by simp) ?_
         simp only [List.forall_mem_cons, List.not_mem_nil, false_implies, implies_true, and_true]
         refine wpOp_of_list (by rw [List.getElem?_toArray]; rfl) ?_
         refine wpList_stoAt (sto_slV v2 (isSl hS2 1 rfl) _ _) wU wU (hS2.cell 0 rfl 0 rfl) (hS2.frozen 0 rfl 0) ?_
         have hS3 := hS2.set 0 rfl 0 v2
         refine ⟨hS3.b, ?_⟩
         go_frame
         refine wpAnyC_rest [] [] rfl rfl kR kR kR hS3.b ?_
         unfold wpPure
         refine of_wpList_nil (P := Tryz.prog) (ops := #[]) ?_
         replace hS3 : SL w.heap.size w (w2.setCell ⟨B, 0, none⟩ v2) [pBlk B (.cells #[v2, .slice (some ⟨G, 0, none⟩) n cf] 63), pOwn cInt 1 3 v2 (SE ++ [AO]), pOwn cInt 1 3 (.slice (some ⟨G, 0, none⟩) n cf) row, pBlk w.heap.size (.cells #[.slice none 0 0, .slice none 0 0] 63)] := hS3
         show wpList _ _ _ _ _ (w2.setCell ⟨B, 0, none⟩ v2)
         obtain ⟨W3, hW3⟩ : ∃ W3, W3 = w2.setCell ⟨B, 0, none⟩ v2 := ⟨_, rfl⟩
         rw [← hW3] at hS3 ⊢
         clear hW3 hSd c0 c1 cO qA hwPO hwP1
         have q3 := (hS3.blk 0 rfl).1
         have kc : ∀ V : World, (Below w.heap.size w V ∧ V.heap[B]? = some (.cells #[v2, .slice (some ⟨G, 0, none⟩) n cf] 63)) → V.cell? ⟨B, 1, none⟩ = some (.slice (some ⟨G, 0, none⟩) n cf) := fun V h => by simp [World.cell?, h.2]
         clear hS2
         go_wp2_with fail
         refine wp_regionK (C := (fun V => Below w.heap.size w V ∧ V.heap[B]? = some (.cells #[v2, .slice (some ⟨G, 0, none⟩) n cf] 63))) [0, 1, 2, 3, 4, 5, 6, 7, 8, 9, 10, 12, 13, 14, 15, 16] [_, _, _, _, _, _, _, _, _, _, _, _, _, _, _, _] 6 (by simp only [List.map_cons, List.map_nil, List.getElem?_toArray]; rfl) rfl kR kR kR (⟨hS3.b.drew, q3⟩) ?_
         refine ⟨.pointer (some ⟨B, 1, none⟩), yieldsK_val wU (fun w' => by first | (go_simp; done) | (go_simp; rfl)), ?_⟩
         go_frame
         refine ⟨_, yieldsK_cellC F_sl (fun V h => kc V h) wU wU, ?_⟩
         go_frame
         refine ⟨.int .i64 I, yieldsK_val wU (fun w' => by first | (go_simp; done) | (go_simp; rfl)), ?_⟩
         go_frame
         refine ⟨.int .i64 P, yieldsK_val wU (fun w' => by first | (go_simp; done) | (go_simp; rfl)), ?_⟩
         go_frame
         refine ⟨.pointer (some ⟨B, 1, none⟩), yieldsK_val wU (fun w' => by first | (go_simp; done) | (go_simp; rfl)), ?_⟩
         go_frame
         refine ⟨_, yieldsK_cellC F_sl (fun V h => kc V h) wU wU, ?_⟩
         go_frame
         refine ⟨.int .i64 I, yieldsK_val wU (fun w' => by first | (go_simp; done) | (go_simp; rfl)), ?_⟩
         go_frame
         refine ⟨.pointer (some ⟨B, 1, none⟩), yieldsK_val wU (fun w' => by first | (go_simp; done) | (go_simp; rfl)), ?_⟩
         go_frame
         refine ⟨_, yieldsK_cellC F_sl (fun V h => kc V h) wU wU, ?_⟩
         go_frame
         refine ⟨.int .i64 I, yieldsK_val wU (fun w' => by first | (go_simp; done) | (go_simp; rfl)), ?_⟩
         go_frame
         refine ⟨.pointer (some ⟨G, I.toNat, none⟩), yieldsK_val wU (fun w' => by first | (go_simp; done) | (go_simp; rfl)), ?_⟩
         go_frame
         refine ⟨.pointer (some ⟨B, 1, none⟩), yieldsK_val wU (fun w' => by first | (go_simp; done) | (go_simp; rfl)), ?_⟩
         go_frame
         refine ⟨_, yieldsK_cellC F_sl (fun V h => kc V h) wU wU, ?_⟩
         go_frame
         refine ⟨.int .i64 I, yieldsK_val wU (fun w' => by first | (go_simp; done) | (go_simp; rfl)), ?_⟩
         go_frame
         refine ⟨.int .i64 P, yieldsK_val wU (fun w' => by first | (go_simp; done) | (go_simp; rfl)), ?_⟩
         go_frame
         refine ⟨.pointer (some ⟨G, P.toNat, none⟩), yieldsK_val wU (fun w' => by first | (go_simp; done) | (go_simp; rfl)), ?_⟩
         go_frame
         unfold wpPureK
         have hVd : ({ W3 with drawn := W3.drawn + 1 } : World) = W3.drew := rfl
         rw [hVd]
         clear hVd
         obtain ⟨W4, hW4⟩ : ∃ W4, W4 = W3.drew := ⟨_, rfl⟩
         have hS4 : SL w.heap.size w W4 [pBlk B (.cells #[v2, .slice (some ⟨G, 0, none⟩) n cf] 63), pOwn cInt 1 3 v2 (SE ++ [AO]), pOwn cInt 1 3 (.slice (some ⟨G, 0, none⟩) n cf) row, pBlk w.heap.size (.cells #[.slice none 0 0, .slice none 0 0] 63)] := by rw [hW4]; exact hS3.drew
         rw [← hW4]
         clear hW4 hS3 q3 kc
         have q4 := (hS4.blk 0 rfl).1
         obtain ⟨g0, eg0, -, hcI, -, -⟩ := hS4.setOwn cInt1 2 rfl I hI0 hI2 0
         cases eg0
         obtain ⟨g1, eg1, -, hcP, hfP, hS5⟩ := hS4.setOwn cInt1 2 rfl P hP0 hP2 A1
         cases eg1
         obtain ⟨g2, eg2, -, hcI5, hfI5, hS6⟩ := hS5.setOwn cInt1 2 rfl I hI0 (by rw [List.length_set]; exact hI2) A0
         cases eg2
         rw [HA1.out] at hcI
         rw [HA0.out] at hcP
         rw [HI5.out] at hcI5
         replace hS6 : SL w.heap.size w ((W4.setCell ⟨G, P.toNat, none⟩ (.int .i64 A1)).setCell ⟨G, I.toNat, none⟩ (.int .i64 A0)) [pBlk B (.cells #[v2, .slice (some ⟨G, 0, none⟩) n cf] 63), pOwn cInt 1 3 v2 (SE ++ [AO]), pOwn cInt 1 3 (.slice (some ⟨G, 0, none⟩) n cf) ((row.set P.toNat A1).set I.toNat A0), pBlk w.heap.size (.cells #[.slice none 0 0, .slice none 0 0] 63)] := hS6
         refine wpAnyC_on [11, 17] kR (by simp) ?_
         simp only [List.forall_mem_cons, List.not_mem_nil, false_implies, implies_true, and_true]
         refine ⟨?_, ?_⟩
         ·as_aux_lemma =>
          refine wpOp_value (v := .int .i64 A1) (w' := W4) (by rw [List.getElem?_toArray]; rfl) wU (by first | (go_simp; done) | (go_simp; rfl) | (simp [execOp, Act.eval, Result.andThen]; done)) ?_
          refine ⟨⟨hS4.b, q4⟩, ?_⟩
          go_frame
          refine wpAnyC_on [17] kR (by simp) ?_
          simp only [List.forall_mem_cons, List.not_mem_nil, false_implies, implies_true, and_true]
          refine wpOp_value (v := .int .i64 A0) (w' := W4) (by rw [List.getElem?_toArray]; rfl) wU (by first | (go_simp; done) | (go_simp; rfl) | (simp [execOp, Act.eval, Result.andThen]; done)) ?_
          refine ⟨⟨hS4.b, q4⟩, ?_⟩
          go_frame
          refine wpAnyC_on [18] kR (by simp) ?_
          simp only [List.forall_mem_cons, List.not_mem_nil, false_implies, implies_true, and_true]
          refine wpOp_value (v := .pointer (some ⟨G, P.toNat, none⟩)) (w' := W4) (by rw [List.getElem?_toArray]; rfl) wU (by first | (go_simp; done) | (go_simp; rfl) | (simp [execOp, Act.eval, Result.andThen]; done)) ?_
          refine ⟨⟨hS4.b, q4⟩, ?_⟩
          go_frame
          refine wpAnyC_on [19] kR (by simp) ?_
          simp only [List.forall_mem_cons, List.not_mem_nil, false_implies, implies_true, and_true]
          refine wpOp_of_list (by rw [List.getElem?_toArray]; rfl) ?_
          refine wpList_stoAt (sto_int A1 _ _) wU wU hcP hfP ?_
          refine ⟨⟨hS5.b, (hS5.blk 0 rfl).1⟩, ?_⟩
          go_frame
          refine wpAnyC_on [20] kR (by simp) ?_
          simp only [List.forall_mem_cons, List.not_mem_nil, false_implies, implies_true, and_true]
          refine wpOp_value (v := .pointer (some ⟨G, I.toNat, none⟩)) (w' := (W4.setCell ⟨G, P.toNat, none⟩ (.int .i64 A1))) (by rw [List.getElem?_toArray]; rfl) wU (by first | (go_simp; done) | (go_simp; rfl) | (simp [execOp, Act.eval, Result.andThen]; done)) ?_
          refine ⟨⟨hS5.b, (hS5.blk 0 rfl).1⟩, ?_⟩
          go_frame
          refine wpAnyC_on [21] kR (by simp) ?_
          simp only [List.forall_mem_cons, List.not_mem_nil, false_implies, implies_true, and_true]
          refine wpOp_of_list (by rw [List.getElem?_toArray]; rfl) ?_
          refine wpList_stoAt (sto_int A0 _ _) wU wU hcI5 hfI5 ?_
          refine ⟨⟨hS6.b, (hS6.blk 0 rfl).1⟩, ?_⟩
          go_frame
          refine wpAnyC_rest [] [] rfl rfl kR kR kR ⟨hS6.b, (hS6.blk 0 rfl).1⟩ ?_
          unfold wpPure
          refine of_wpList_nil (P := Tryz.prog) (ops := #[]) ?_
          show wpList _ _ _ _ _ ((W4.setCell ⟨G, P.toNat, none⟩ (.int .i64 A1)).setCell ⟨G, I.toNat, none⟩ (.int .i64 A0))
          generalize ((W4.setCell ⟨G, P.toNat, none⟩ (.int .i64 A1)).setCell ⟨G, I.toNat, none⟩ (.int .i64 A0)) = w6 at *
          clear hS5 hS4 hcP hfP hcI5 hfI5 hcI q4
          go_wp2_with fail
          exact ⟨⟨j + 1, v2, by omega, by go_num, by rw [HSEEN.out, HROW.out]; exact hS6⟩, by simp [intOf]; omega⟩
         ·as_aux_lemma =>
          refine wpOp_value (v := .int .i64 A0) (w' := W4) (by rw [List.getElem?_toArray]; rfl) wU (by first | (go_simp; done) | (go_simp; rfl) | (simp [execOp, Act.eval, Result.andThen]; done)) ?_
          refine ⟨⟨hS4.b, q4⟩, ?_⟩
          go_frame
          refine wpAnyC_on [11] kR (by simp) ?_
          simp only [List.forall_mem_cons, List.not_mem_nil, false_implies, implies_true, and_true]
          refine wpOp_value (v := .int .i64 A1) (w' := W4) (by rw [List.getElem?_toArray]; rfl) wU (by first | (go_simp; done) | (go_simp; rfl) | (simp [execOp, Act.eval, Result.andThen]; done)) ?_
          refine ⟨⟨hS4.b, q4⟩, ?_⟩
          go_frame
          refine wpAnyC_on [18] kR (by simp) ?_
          simp only [List.forall_mem_cons, List.not_mem_nil, false_implies, implies_true, and_true]
          refine wpOp_value (v := .pointer (some ⟨G, P.toNat, none⟩)) (w' := W4) (by rw [List.getElem?_toArray]; rfl) wU (by first | (go_simp; done) | (go_simp; rfl) | (simp [execOp, Act.eval, Result.andThen]; done)) ?_
          refine ⟨⟨hS4.b, q4⟩, ?_⟩
          go_frame
          refine wpAnyC_on [19] kR (by simp) ?_
          simp only [List.forall_mem_cons, List.not_mem_nil, false_implies, implies_true, and_true]
          refine wpOp_of_list (by rw [List.getElem?_toArray]; rfl) ?_
          refine wpList_stoAt (sto_int A1 _ _) wU wU hcP hfP ?_
          refine ⟨⟨hS5.b, (hS5.blk 0 rfl).1⟩, ?_⟩
          go_frame
          refine wpAnyC_on [20] kR (by simp) ?_
          simp only [List.forall_mem_cons, List.not_mem_nil, false_implies, implies_true, and_true]
          refine wpOp_value (v := .pointer (some ⟨G, I.toNat, none⟩)) (w' := (W4.setCell ⟨G, P.toNat, none⟩ (.int .i64 A1))) (by rw [List.getElem?_toArray]; rfl) wU (by first | (go_simp; done) | (go_simp; rfl) | (simp [execOp, Act.eval, Result.andThen]; done)) ?_
          refine ⟨⟨hS5.b, (hS5.blk 0 rfl).1⟩, ?_⟩
          go_frame
          refine wpAnyC_on [21] kR (by simp) ?_
          simp only [List.forall_mem_cons, List.not_mem_nil, false_implies, implies_true, and_true]
          refine wpOp_of_list (by rw [List.getElem?_toArray]; rfl) ?_
          refine wpList_stoAt (sto_int A0 _ _) wU wU hcI5 hfI5 ?_
          refine ⟨⟨hS6.b, (hS6.blk 0 rfl).1⟩, ?_⟩
          go_frame
          refine wpAnyC_rest [] [] rfl rfl kR kR kR ⟨hS6.b, (hS6.blk 0 rfl).1⟩ ?_
          unfold wpPure
          refine of_wpList_nil (P := Tryz.prog) (ops := #[]) ?_
          show wpList _ _ _ _ _ ((W4.setCell ⟨G, P.toNat, none⟩ (.int .i64 A1)).setCell ⟨G, I.toNat, none⟩ (.int .i64 A0))
          generalize ((W4.setCell ⟨G, P.toNat, none⟩ (.int .i64 A1)).setCell ⟨G, I.toNat, none⟩ (.int .i64 A0)) = w6 at *
          clear hS5 hS4 hcP hfP hcI5 hfI5 hcI q4
          go_wp2_with fail
          exact ⟨⟨j + 1, v2, by omega, by go_num, by rw [HSEEN.out, HROW.out]; exact hS6⟩, by simp [intOf]; omega⟩
        ·as_aux_lemma =>
         refine wpOp_value (v := .int .i64 AO) (w' := (wr.drew)) (by rw [List.getElem?_toArray]; rfl) wU (by first | (go_simp; done) | (go_simp; rfl) | (simp [execOp, Act.eval, Result.andThen]; done)) ?_
         refine ⟨hSd.b, ?_⟩
         go_frame
         refine wpAnyC_on [1, 10] kR (by simp) ?_
         simp only [List.forall_mem_cons, List.not_mem_nil, false_implies, implies_true, and_true]
         refine ⟨?_, ?_⟩
         ·as_aux_lemma =>
          refine wpOp_value (v := sv) (w' := (wr.drew)) (by rw [List.getElem?_toArray]; rfl) wU (by first | (go_simp; done) | (go_simp; rfl) | (simp [execOp, Act.eval, Result.andThen]; done)) ?_
          refine ⟨hSd.b, ?_⟩
          go_frame
          refine wpAnyC_on [10] kR (by simp) ?_
          simp only [List.forall_mem_cons, List.not_mem_nil, false_implies, implies_true, and_true]
          refine wpOp_value (v := .slice (some ⟨(wr.drew).heap.size, 0, none⟩) 1 1) (w' := ((wr.drew).alloc (.cells #[.int .i64 AO] 3))) (by rw [List.getElem?_toArray]; rfl) wU (by first | (go_simp; done) | (go_simp; rfl) | (simp [execOp, Act.eval, Result.andThen]; done)) ?_
          refine ⟨(hSd.al _).b, ?_⟩
          go_frame
          refine wpAnyC_on [11] kR (by simp) ?_
          simp only [List.forall_mem_cons, List.not_mem_nil, false_implies, implies_true, and_true]
          refine wpOp_of_list (by rw [List.getElem?_toArray]; rfl) ?_
          ((with_reducible refine wpList_pushL (y := AO) 1 E_ints wU wU (hSd) wU cIntO ⟨rfl, rfl⟩ (by first | with_unfolding_all rfl | simp) wU (by first | omega | (simp; omega)) (by first | omega | (simp; omega)) ?_); intro v2 w2 hS2)
          refine ⟨hS2.b, ?_⟩
          go_frame
          refine wpAnyC_on [12] kR (by simp) ?_
          simp only [List.forall_mem_cons, List.not_mem_nil, false_implies, implies_true, and_true]
          refine wpOp_value (v := .pointer (some ⟨B, 0, none⟩)) (w' := w2) (by rw [List.getElem?_toArray]; rfl) wU (by first | (go_simp; done) | (go_simp; rfl) | (simp [execOp, Act.eval, Result.andThen]; done)) ?_
          refine ⟨hS2.b, ?_⟩
          go_frame
          refine wpAnyC_on [13] kR (by simp) ?_
          simp only [List.forall_mem_cons, List.not_mem_nil, false_implies, implies_true, and_true]
          refine wpOp_of_list (by rw [List.getElem?_toArray]; rfl) ?_
          refine wpList_stoAt (sto_slV v2 (isSl hS2 1 rfl) _ _) wU wU (hS2.cell 0 rfl 0 rfl) (hS2.frozen 0 rfl 0) ?_
          have hS3 := hS2.set 0 rfl 0 v2
          refine ⟨hS3.b, ?_⟩
          go_frame
          refine wpAnyC_rest [] [] rfl rfl kR kR kR hS3.b ?_
          unfold wpPure
          refine of_wpList_nil (P := Tryz.prog) (ops := #[]) ?_
          replace hS3 : SL w.heap.size w (w2.setCell ⟨B, 0, none⟩ v2) [pBlk B (.cells #[v2, .slice (some ⟨G, 0, none⟩) n cf] 63), pOwn cInt 1 3 v2 (SE ++ [AO]), pOwn cInt 1 3 (.slice (some ⟨G, 0, none⟩) n cf) row, pBlk w.heap.size (.cells #[.slice none 0 0, .slice none 0 0] 63)] := hS3
          show wpList _ _ _ _ _ (w2.setCell ⟨B, 0, none⟩ v2)
          obtain ⟨W3, hW3⟩ : ∃ W3, W3 = w2.setCell ⟨B, 0, none⟩ v2 := ⟨_, rfl⟩
          rw [← hW3] at hS3 ⊢
          clear hW3 hSd c0 c1 cO qA hwPO hwP1
          have q3 := (hS3.blk 0 rfl).1
          have kc : ∀ V : World, (Below w.heap.size w V ∧ V.heap[B]? = some (.cells #[v2, .slice (some ⟨G, 0, none⟩) n cf] 63)) → V.cell? ⟨B, 1, none⟩ = some (.slice (some ⟨G, 0, none⟩) n cf) := fun V h => by simp [World.cell?, h.2]
          clear hS2
          go_wp2_with fail
          refine wp_regionK (C := (fun V => Below w.heap.size w V ∧ V.heap[B]? = some (.cells #[v2, .slice (some ⟨G, 0, none⟩) n cf] 63))) [0, 1, 2, 3, 4, 5, 6, 7, 8, 9, 10, 12, 13, 14, 15, 16] [_, _, _, _, _, _, _, _, _, _, _, _, _, _, _, _] 6 (by simp only [List.map_cons, List.map_nil, List.getElem?_toArray]; rfl) rfl kR kR kR (⟨hS3.b.drew, q3⟩) ?_
          refine ⟨.pointer (some ⟨B, 1, none⟩), yieldsK_val wU (fun w' => by first | (go_simp; done) | (go_simp; rfl)), ?_⟩
          go_frame
          refine ⟨_, yieldsK_cellC F_sl (fun V h => kc V h) wU wU, ?_⟩
          go_frame
          refine ⟨.int .i64 I, yieldsK_val wU (fun w' => by first | (go_simp; done) | (go_simp; rfl)), ?_⟩
          go_frame
          refine ⟨.int .i64 P, yieldsK_val wU (fun w' => by first | (go_simp; done) | (go_simp; rfl)), ?_⟩
          go_frame
          refine ⟨.pointer (some ⟨B, 1, none⟩), yieldsK_val wU (fun w' => by first | (go_simp; done) | (go_simp; rfl)), ?_⟩
          go_frame
          refine ⟨_, yieldsK_cellC F_sl (fun V h => kc V h) wU wU, ?_⟩
          go_frame
          refine ⟨.int .i64 I, yieldsK_val wU (fun w' => by first | (go_simp; done) | (go_simp; rfl)), ?_⟩
          go_frame
          refine ⟨.pointer (some ⟨B, 1, none⟩), yieldsK_val wU (fun w' => by first | (go_simp; done) | (go_simp; rfl)), ?_⟩
          go_frame
          refine ⟨_, yieldsK_cellC F_sl (fun V h => kc V h) wU wU, ?_⟩
          go_frame
          refine ⟨.int .i64 I, yieldsK_val wU (fun w' => by first | (go_simp; done) | (go_simp; rfl)), ?_⟩
          go_frame
          refine ⟨.pointer (some ⟨G, I.toNat, none⟩), yieldsK_val wU (fun w' => by first | (go_simp; done) | (go_simp; rfl)), ?_⟩
          go_frame
          refine ⟨.pointer (some ⟨B, 1, none⟩), yieldsK_val wU (fun w' => by first | (go_simp; done) | (go_simp; rfl)), ?_⟩
          go_frame
          refine ⟨_, yieldsK_cellC F_sl (fun V h => kc V h) wU wU, ?_⟩
          go_frame
          refine ⟨.int .i64 I, yieldsK_val wU (fun w' => by first | (go_simp; done) | (go_simp; rfl)), ?_⟩
          go_frame
          refine ⟨.int .i64 P, yieldsK_val wU (fun w' => by first | (go_simp; done) | (go_simp; rfl)), ?_⟩
          go_frame
          refine ⟨.pointer (some ⟨G, P.toNat, none⟩), yieldsK_val wU (fun w' => by first | (go_simp; done) | (go_simp; rfl)), ?_⟩
          go_frame
          unfold wpPureK
          have hVd : ({ W3 with drawn := W3.drawn + 1 } : World) = W3.drew := rfl
          rw [hVd]
          clear hVd
          obtain ⟨W4, hW4⟩ : ∃ W4, W4 = W3.drew := ⟨_, rfl⟩
          have hS4 : SL w.heap.size w W4 [pBlk B (.cells #[v2, .slice (some ⟨G, 0, none⟩) n cf] 63), pOwn cInt 1 3 v2 (SE ++ [AO]), pOwn cInt 1 3 (.slice (some ⟨G, 0, none⟩) n cf) row, pBlk w.heap.size (.cells #[.slice none 0 0, .slice none 0 0] 63)] := by rw [hW4]; exact hS3.drew
          rw [← hW4]
          clear hW4 hS3 q3 kc
          have q4 := (hS4.blk 0 rfl).1
          obtain ⟨g0, eg0, -, hcI, -, -⟩ := hS4.setOwn cInt1 2 rfl I hI0 hI2 0
          cases eg0
          obtain ⟨g1, eg1, -, hcP, hfP, hS5⟩ := hS4.setOwn cInt1 2 rfl P hP0 hP2 A1
          cases eg1
          obtain ⟨g2, eg2, -, hcI5, hfI5, hS6⟩ := hS5.setOwn cInt1 2 rfl I hI0 (by rw [List.length_set]; exact hI2) A0
          cases eg2
          rw [HA1.out] at hcI
          rw [HA0.out] at hcP
          rw [HI5.out] at hcI5
          replace hS6 : SL w.heap.size w ((W4.setCell ⟨G, P.toNat, none⟩ (.int .i64 A1)).setCell ⟨G, I.toNat, none⟩ (.int .i64 A0)) [pBlk B (.cells #[v2, .slice (some ⟨G, 0, none⟩) n cf] 63), pOwn cInt 1 3 v2 (SE ++ [AO]), pOwn cInt 1 3 (.slice (some ⟨G, 0, none⟩) n cf) ((row.set P.toNat A1).set I.toNat A0), pBlk w.heap.size (.cells #[.slice none 0 0, .slice none 0 0] 63)] := hS6
          refine wpAnyC_on [11, 17] kR (by simp) ?_
          simp only [List.forall_mem_cons, List.not_mem_nil, false_implies, implies_true, and_true]
          refine ⟨?_, ?_⟩
          ·as_aux_lemma =>
           refine wpOp_value (v := .int .i64 A1) (w' := W4) (by rw [List.getElem?_toArray]; rfl) wU (by first | (go_simp; done) | (go_simp; rfl) | (simp [execOp, Act.eval, Result.andThen]; done)) ?_
           refine ⟨⟨hS4.b, q4⟩, ?_⟩
           go_frame
           refine wpAnyC_on [17] kR (by simp) ?_
           simp only [List.forall_mem_cons, List.not_mem_nil, false_implies, implies_true, and_true]
           refine wpOp_value (v := .int .i64 A0) (w' := W4) (by rw [List.getElem?_toArray]; rfl) wU (by first | (go_simp; done) | (go_simp; rfl) | (simp [execOp, Act.eval, Result.andThen]; done)) ?_
           refine ⟨⟨hS4.b, q4⟩, ?_⟩
           go_frame
           refine wpAnyC_on [18] kR (by simp) ?_
           simp only [List.forall_mem_cons, List.not_mem_nil, false_implies, implies_true, and_true]
           refine wpOp_value (v := .pointer (some ⟨G, P.toNat, none⟩)) (w' := W4) (by rw [List.getElem?_toArray]; rfl) wU (by first | (go_simp; done) | (go_simp; rfl) | (simp [execOp, Act.eval, Result.andThen]; done)) ?_
           refine ⟨⟨hS4.b, q4⟩, ?_⟩
           go_frame
           refine wpAnyC_on [19] kR (by simp) ?_
           simp only [List.forall_mem_cons, List.not_mem_nil, false_implies, implies_true, and_true]
           refine wpOp_of_list (by rw [List.getElem?_toArray]; rfl) ?_
           refine wpList_stoAt (sto_int A1 _ _) wU wU hcP hfP ?_
           refine ⟨⟨hS5.b, (hS5.blk 0 rfl).1⟩, ?_⟩
           go_frame
           refine wpAnyC_on [20] kR (by simp) ?_
           simp only [List.forall_mem_cons, List.not_mem_nil, false_implies, implies_true, and_true]
           refine wpOp_value (v := .pointer (some ⟨G, I.toNat, none⟩)) (w' := (W4.setCell ⟨G, P.toNat, none⟩ (.int .i64 A1))) (by rw [List.getElem?_toArray]; rfl) wU (by first | (go_simp; done) | (go_simp; rfl) | (simp [execOp, Act.eval, Result.andThen]; done)) ?_
           refine ⟨⟨hS5.b, (hS5.blk 0 rfl).1⟩, ?_⟩
           go_frame
           refine wpAnyC_on [21] kR (by simp) ?_
           simp only [List.forall_mem_cons, List.not_mem_nil, false_implies, implies_true, and_true]
           refine wpOp_of_list (by rw [List.getElem?_toArray]; rfl) ?_
           refine wpList_stoAt (sto_int A0 _ _) wU wU hcI5 hfI5 ?_
           refine ⟨⟨hS6.b, (hS6.blk 0 rfl).1⟩, ?_⟩
           go_frame
           refine wpAnyC_rest [] [] rfl rfl kR kR kR ⟨hS6.b, (hS6.blk 0 rfl).1⟩ ?_
           unfold wpPure
           refine of_wpList_nil (P := Tryz.prog) (ops := #[]) ?_
           show wpList _ _ _ _ _ ((W4.setCell ⟨G, P.toNat, none⟩ (.int .i64 A1)).setCell ⟨G, I.toNat, none⟩ (.int .i64 A0))
           generalize ((W4.setCell ⟨G, P.toNat, none⟩ (.int .i64 A1)).setCell ⟨G, I.toNat, none⟩ (.int .i64 A0)) = w6 at *
           clear hS5 hS4 hcP hfP hcI5 hfI5 hcI q4
           go_wp2_with fail
           exact ⟨⟨j + 1, v2, by omega, by go_num, by rw [HSEEN.out, HROW.out]; exact hS6⟩, by simp [intOf]; omega⟩
          ·as_aux_lemma =>
           refine wpOp_value (v := .int .i64 A0) (w' := W4) (by rw [List.getElem?_toArray]; rfl) wU (by first | (go_simp; done) | (go_simp; rfl) | (simp [execOp, Act.eval, Result.andThen]; done)) ?_
           refine ⟨⟨hS4.b, q4⟩, ?_⟩
           go_frame
           refine wpAnyC_on [11] kR (by simp) ?_
           simp only [List.forall_mem_cons, List.not_mem_nil, false_implies, implies_true, and_true]
           refine wpOp_value (v := .int .i64 A1) (w' := W4) (by rw [List.getElem?_toArray]; rfl) wU (by first | (go_simp; done) | (go_simp; rfl) | (simp [execOp, Act.eval, Result.andThen]; done)) ?_
           refine ⟨⟨hS4.b, q4⟩, ?_⟩
           go_frame
           refine wpAnyC_on [18] kR (by simp) ?_
           simp only [List.forall_mem_cons, List.not_mem_nil, false_implies, implies_true, and_true]
           refine wpOp_value (v := .pointer (some ⟨G, P.toNat, none⟩)) (w' := W4) (by rw [List.getElem?_toArray]; rfl) wU (by first | (go_simp; done) | (go_simp; rfl) | (simp [execOp, Act.eval, Result.andThen]; done)) ?_
           refine ⟨⟨hS4.b, q4⟩, ?_⟩
           go_frame
           refine wpAnyC_on [19] kR (by simp) ?_
           simp only [List.forall_mem_cons, List.not_mem_nil, false_implies, implies_true, and_true]
           refine wpOp_of_list (by rw [List.getElem?_toArray]; rfl) ?_
           refine wpList_stoAt (sto_int A1 _ _) wU wU hcP hfP ?_
           refine ⟨⟨hS5.b, (hS5.blk 0 rfl).1⟩, ?_⟩
           go_frame
           refine wpAnyC_on [20] kR (by simp) ?_
           simp only [List.forall_mem_cons, List.not_mem_nil, false_implies, implies_true, and_true]
           refine wpOp_value (v := .pointer (some ⟨G, I.toNat, none⟩)) (w' := (W4.setCell ⟨G, P.toNat, none⟩ (.int .i64 A1))) (by rw [List.getElem?_toArray]; rfl) wU (by first | (go_simp; done) | (go_simp; rfl) | (simp [execOp, Act.eval, Result.andThen]; done)) ?_
           refine ⟨⟨hS5.b, (hS5.blk 0 rfl).1⟩, ?_⟩
           go_frame
           refine wpAnyC_on [21] kR (by simp) ?_
           simp only [List.forall_mem_cons, List.not_mem_nil, false_implies, implies_true, and_true]
           refine wpOp_of_list (by rw [List.getElem?_toArray]; rfl) ?_
           refine wpList_stoAt (sto_int A0 _ _) wU wU hcI5 hfI5 ?_
           refine ⟨⟨hS6.b, (hS6.blk 0 rfl).1⟩, ?_⟩
           go_frame
           refine wpAnyC_rest [] [] rfl rfl kR kR kR ⟨hS6.b, (hS6.blk 0 rfl).1⟩ ?_
           unfold wpPure
           refine of_wpList_nil (P := Tryz.prog) (ops := #[]) ?_
           show wpList _ _ _ _ _ ((W4.setCell ⟨G, P.toNat, none⟩ (.int .i64 A1)).setCell ⟨G, I.toNat, none⟩ (.int .i64 A0))
           generalize ((W4.setCell ⟨G, P.toNat, none⟩ (.int .i64 A1)).setCell ⟨G, I.toNat, none⟩ (.int .i64 A0)) = w6 at *
           clear hS5 hS4 hcP hfP hcI5 hfI5 hcI q4
           go_wp2_with fail
           exact ⟨⟨j + 1, v2, by omega, by go_num, by rw [HSEEN.out, HROW.out]; exact hS6⟩, by simp [intOf]; omega⟩
         ·as_aux_lemma =>
          refine wpOp_value (v := .slice (some ⟨(wr.drew).heap.size, 0, none⟩) 1 1) (w' := ((wr.drew).alloc (.cells #[.int .i64 AO] 3))) (by rw [List.getElem?_toArray]; rfl) wU (by first | (go_simp; done) | (go_simp; rfl) | (simp [execOp, Act.eval, Result.andThen]; done)) ?_
          refine ⟨(hSd.al _).b, ?_⟩
          go_frame
          refine wpAnyC_on [1] kR (by simp) ?_
          simp only [List.forall_mem_cons, List.not_mem_nil, false_implies, implies_true, and_true]
          refine wpOp_of_list (by rw [List.getElem?_toArray]; rfl) ?_
          refine wpList_ldB F_sl wU wU qA wU ?_
          refine ⟨(hSd.al _).b, ?_⟩
          go_frame
          refine wpAnyC_on [11] kR (by simp) ?_
          simp only [List.forall_mem_cons, List.not_mem_nil, false_implies, implies_true, and_true]
          refine wpOp_of_list (by rw [List.getElem?_toArray]; rfl) ?_
          ((with_reducible refine wpList_pushL (y := AO) 1 E_ints wU wU (hSd) wU cIntO ⟨rfl, rfl⟩ (by first | with_unfolding_all rfl | simp) wU (by first | omega | (simp; omega)) (by first | omega | (simp; omega)) ?_); intro v2 w2 hS2)
          refine ⟨hS2.b, ?_⟩
          go_frame
          refine wpAnyC_on [12] kR (by simp) ?_
          simp only [List.forall_mem_cons, List.not_mem_nil, false_implies, implies_true, and_true]
          refine wpOp_value (v := .pointer (some ⟨B, 0, none⟩)) (w' := w2) (by rw [List.getElem?_toArray]; rfl) wU (by first | (go_simp; done) | (go_simp; rfl) | (simp [execOp, Act.eval, Result.andThen]; done)) ?_
          refine ⟨hS2.b, ?_⟩
          go_frame
          refine wpAnyC_on [13] kR (by simp) ?_
          simp only [List.forall_mem_cons, List.not_mem_nil, false_implies, implies_true, and_true]
          refine wpOp_of_list (by rw [List.getElem?_toArray]; rfl) ?_
          refine wpList_stoAt (sto_slV v2 (isSl hS2 1 rfl) _ _) wU wU (hS2.cell 0 rfl 0 rfl) (hS2.frozen 0 rfl 0) ?_
          have hS3 := hS2.set 0 rfl 0 v2
          refine ⟨hS3.b, ?_⟩
          go_frame
          refine wpAnyC_rest [] [] rfl rfl kR kR kR hS3.b ?_
          unfold wpPure
          refine of_wpList_nil (P := Tryz.prog) (ops := #[]) ?_
          replace hS3 : SL w.heap.size w (w2.setCell ⟨B, 0, none⟩ v2) [pBlk B (.cells #[v2, .slice (some ⟨G, 0, none⟩) n cf] 63), pOwn cInt 1 3 v2 (SE ++ [AO]), pOwn cInt 1 3 (.slice (some ⟨G, 0, none⟩) n cf) row, pBlk w.heap.size (.cells #[.slice none 0 0, .slice none 0 0] 63)] := hS3
          show wpList _ _ _ _ _ (w2.setCell ⟨B, 0, none⟩ v2)
          obtain ⟨W3, hW3⟩ : ∃ W3, W3 = w2.setCell ⟨B, 0, none⟩ v2 := ⟨_, rfl⟩
          rw [← hW3] at hS3 ⊢
          clear hW3 hSd c0 c1 cO qA hwPO hwP1
          have q3 := (hS3.blk 0 rfl).1
          have kc : ∀ V : World, (Below w.heap.size w V ∧ V.heap[B]? = some (.cells #[v2, .slice (some ⟨G, 0, none⟩) n cf] 63)) → V.cell? ⟨B, 1, none⟩ = some (.slice (some ⟨G, 0, none⟩) n cf) := fun V h => by simp [World.cell?, h.2]
          clear hS2
          go_wp2_with fail
          refine wp_regionK (C := (fun V => Below w.heap.size w V ∧ V.heap[B]? = some (.cells #[v2, .slice (some ⟨G, 0, none⟩) n cf] 63))) [0, 1, 2, 3, 4, 5, 6, 7, 8, 9, 10, 12, 13, 14, 15, 16] [_, _, _, _, _, _, _, _, _, _, _, _, _, _, _, _] 6 (by simp only [List.map_cons, List.map_nil, List.getElem?_toArray]; rfl) rfl kR kR kR (⟨hS3.b.drew, q3⟩) ?_
          refine ⟨.pointer (some ⟨B, 1, none⟩), yieldsK_val wU (fun w' => by first | (go_simp; done) | (go_simp; rfl)), ?_⟩
          go_frame
          refine ⟨_, yieldsK_cellC F_sl (fun V h => kc V h) wU wU, ?_⟩
          go_frame
          refine ⟨.int .i64 I, yieldsK_val wU (fun w' => by first | (go_simp; done) | (go_simp; rfl)), ?_⟩
          go_frame
          refine ⟨.int .i64 P, yieldsK_val wU (fun w' => by first | (go_simp; done) | (go_simp; rfl)), ?_⟩
          go_frame
          refine ⟨.pointer (some ⟨B, 1, none⟩), yieldsK_val wU (fun w' => by first | (go_simp; done) | (go_simp; rfl)), ?_⟩
          go_frame
          refine ⟨_, yieldsK_cellC F_sl (fun V h => kc V h) wU wU, ?_⟩
          go_frame
          refine ⟨.int .i64 I, yieldsK_val wU (fun w' => by first | (go_simp; done) | (go_simp; rfl)), ?_⟩
          go_frame
          refine ⟨.pointer (some ⟨B, 1, none⟩), yieldsK_val wU (fun w' => by first | (go_simp; done) | (go_simp; rfl)), ?_⟩
          go_frame
          refine ⟨_, yieldsK_cellC F_sl (fun V h => kc V h) wU wU, ?_⟩
          go_frame
          refine ⟨.int .i64 I, yieldsK_val wU (fun w' => by first | (go_simp; done) | (go_simp; rfl)), ?_⟩
          go_frame
          refine ⟨.pointer (some ⟨G, I.toNat, none⟩), yieldsK_val wU (fun w' => by first | (go_simp; done) | (go_simp; rfl)), ?_⟩
          go_frame
          refine ⟨.pointer (some ⟨B, 1, none⟩), yieldsK_val wU (fun w' => by first | (go_simp; done) | (go_simp; rfl)), ?_⟩
          go_frame
          refine ⟨_, yieldsK_cellC F_sl (fun V h => kc V h) wU wU, ?_⟩
          go_frame
          refine ⟨.int .i64 I, yieldsK_val wU (fun w' => by first | (go_simp; done) | (go_simp; rfl)), ?_⟩
          go_frame
          refine ⟨.int .i64 P, yieldsK_val wU (fun w' => by first | (go_simp; done) | (go_simp; rfl)), ?_⟩
          go_frame
          refine ⟨.pointer (some ⟨G, P.toNat, none⟩), yieldsK_val wU (fun w' => by first | (go_simp; done) | (go_simp; rfl)), ?_⟩
          go_frame
          unfold wpPureK
          have hVd : ({ W3 with drawn := W3.drawn + 1 } : World) = W3.drew := rfl
          rw [hVd]
          clear hVd
          obtain ⟨W4, hW4⟩ : ∃ W4, W4 = W3.drew := ⟨_, rfl⟩
          have hS4 : SL w.heap.size w W4 [pBlk B (.cells #[v2, .slice (some ⟨G, 0, none⟩) n cf] 63), pOwn cInt 1 3 v2 (SE ++ [AO]), pOwn cInt 1 3 (.slice (some ⟨G, 0, none⟩) n cf) row, pBlk w.heap.size (.cells #[.slice none 0 0, .slice none 0 0] 63)] := by rw [hW4]; exact hS3.drew
          rw [← hW4]
          clear hW4 hS3 q3 kc
          have q4 := (hS4.blk 0 rfl).1
          obtain ⟨g0, eg0, -, hcI, -, -⟩ := hS4.setOwn cInt1 2 rfl I hI0 hI2 0
          cases eg0
          obtain ⟨g1, eg1, -, hcP, hfP, hS5⟩ := hS4.setOwn cInt1 2 rfl P hP0 hP2 A1
          cases eg1
          obtain ⟨g2, eg2, -, hcI5, hfI5, hS6⟩ := hS5.setOwn cInt1 2 rfl I hI0 (by rw [List.length_set]; exact hI2) A0
          cases eg2
          rw [HA1.out] at hcI
          rw [HA0.out] at hcP
          rw [HI5.out] at hcI5
          replace hS6 : SL w.heap.size w ((W4.setCell ⟨G, P.toNat, none⟩ (.int .i64 A1)).setCell ⟨G, I.toNat, none⟩ (.int .i64 A0)) [pBlk B (.cells #[v2, .slice (some ⟨G, 0, none⟩) n cf] 63), pOwn cInt 1 3 v2 (SE ++ [AO]), pOwn cInt 1 3 (.slice (some ⟨G, 0, none⟩) n cf) ((row.set P.toNat A1).set I.toNat A0), pBlk w.heap.size (.cells #[.slice none 0 0, .slice none 0 0] 63)] := hS6
          refine wpAnyC_on [11, 17] kR (by simp) ?_
          simp only [List.forall_mem_cons, List.not_mem_nil, false_implies, implies_true, and_true]
          refine ⟨?_, ?_⟩
          ·as_aux_lemma =>
           refine wpOp_value (v := .int .i64 A1) (w' := W4) (by rw [List.getElem?_toArray]; rfl) wU (by first | (go_simp; done) | (go_simp; rfl) | (simp [execOp, Act.eval, Result.andThen]; done)) ?_
           refine ⟨⟨hS4.b, q4⟩, ?_⟩
           go_frame
           refine wpAnyC_on [17] kR (by simp) ?_
           simp only [List.forall_mem_cons, List.not_mem_nil, false_implies, implies_true, and_true]
           refine wpOp_value (v := .int .i64 A0) (w' := W4) (by rw [List.getElem?_toArray]; rfl) wU (by first | (go_simp; done) | (go_simp; rfl) | (simp [execOp, Act.eval, Result.andThen]; done)) ?_
           refine ⟨⟨hS4.b, q4⟩, ?_⟩
           go_frame
           refine wpAnyC_on [18] kR (by simp) ?_
           simp only [List.forall_mem_cons, List.not_mem_nil, false_implies, implies_true, and_true]
           refine wpOp_value (v := .pointer (some ⟨G, P.toNat, none⟩)) (w' := W4) (by rw [List.getElem?_toArray]; rfl) wU (by first | (go_simp; done) | (go_simp; rfl) | (simp [execOp, Act.eval, Result.andThen]; done)) ?_
           refine ⟨⟨hS4.b, q4⟩, ?_⟩
           go_frame
           refine wpAnyC_on [19] kR (by simp) ?_
           simp only [List.forall_mem_cons, List.not_mem_nil, false_implies, implies_true, and_true]
           refine wpOp_of_list (by rw [List.getElem?_toArray]; rfl) ?_
           refine wpList_stoAt (sto_int A1 _ _) wU wU hcP hfP ?_
           refine ⟨⟨hS5.b, (hS5.blk 0 rfl).1⟩, ?_⟩
           go_frame
           refine wpAnyC_on [20] kR (by simp) ?_
           simp only [List.forall_mem_cons, List.not_mem_nil, false_implies, implies_true, and_true]
           refine wpOp_value (v := .pointer (some ⟨G, I.toNat, none⟩)) (w' := (W4.setCell ⟨G, P.toNat, none⟩ (.int .i64 A1))) (by rw [List.getElem?_toArray]; rfl) wU (by first | (go_simp; done) | (go_simp; rfl) | (simp [execOp, Act.eval, Result.andThen]; done)) ?_
           refine ⟨⟨hS5.b, (hS5.blk 0 rfl).1⟩, ?_⟩
           go_frame
           refine wpAnyC_on [21] kR (by simp) ?_
           simp only [List.forall_mem_cons, List.not_mem_nil, false_implies, implies_true, and_true]
           refine wpOp_of_list (by rw [List.getElem?_toArray]; rfl) ?_
           refine wpList_stoAt (sto_int A0 _ _) wU wU hcI5 hfI5 ?_
           refine ⟨⟨hS6.b, (hS6.blk 0 rfl).1⟩, ?_⟩
           go_frame
           refine wpAnyC_rest [] [] rfl rfl kR kR kR ⟨hS6.b, (hS6.blk 0 rfl).1⟩ ?_
           unfold wpPure
           refine of_wpList_nil (P := Tryz.prog) (ops := #[]) ?_
           show wpList _ _ _ _ _ ((W4.setCell ⟨G, P.toNat, none⟩ (.int .i64 A1)).setCell ⟨G, I.toNat, none⟩ (.int .i64 A0))
           generalize ((W4.setCell ⟨G, P.toNat, none⟩ (.int .i64 A1)).setCell ⟨G, I.toNat, none⟩ (.int .i64 A0)) = w6 at *
           clear hS5 hS4 hcP hfP hcI5 hfI5 hcI q4
           go_wp2_with fail
           exact ⟨⟨j + 1, v2, by omega, by go_num, by rw [HSEEN.out, HROW.out]; exact hS6⟩, by simp [intOf]; omega⟩
          ·as_aux_lemma =>
           refine wpOp_value (v := .int .i64 A0) (w' := W4) (by rw [List.getElem?_toArray]; rfl) wU (by first | (go_simp; done) | (go_simp; rfl) | (simp [execOp, Act.eval, Result.andThen]; done)) ?_
           refine ⟨⟨hS4.b, q4⟩, ?_⟩
           go_frame
           refine wpAnyC_on [11] kR (by simp) ?_
           simp only [List.forall_mem_cons, List.not_mem_nil, false_implies, implies_true, and_true]
           refine wpOp_value (v := .int .i64 A1) (w' := W4) (by rw [List.getElem?_toArray]; rfl) wU (by first | (go_simp; done) | (go_simp; rfl) | (simp [execOp, Act.eval, Result.andThen]; done)) ?_
           refine ⟨⟨hS4.b, q4⟩, ?_⟩
           go_frame
           refine wpAnyC_on [18] kR (by simp) ?_
           simp only [List.forall_mem_cons, List.not_mem_nil, false_implies, implies_true, and_true]
           refine wpOp_value (v := .pointer (some ⟨G, P.toNat, none⟩)) (w' := W4) (by rw [List.getElem?_toArray]; rfl) wU (by first | (go_simp; done) | (go_simp; rfl) | (simp [execOp, Act.eval, Result.andThen]; done)) ?_
           refine ⟨⟨hS4.b, q4⟩, ?_⟩
           go_frame
           refine wpAnyC_on [19] kR (by simp) ?_
           simp only [List.forall_mem_cons, List.not_mem_nil, false_implies, implies_true, and_true]
           refine wpOp_of_list (by rw [List.getElem?_toArray]; rfl) ?_
           refine wpList_stoAt (sto_int A1 _ _) wU wU hcP hfP ?_
           refine ⟨⟨hS5.b, (hS5.blk 0 rfl).1⟩, ?_⟩
           go_frame
           refine wpAnyC_on [20] kR (by simp) ?_
           simp only [List.forall_mem_cons, List.not_mem_nil, false_implies, implies_true, and_true]
           refine wpOp_value (v := .pointer (some ⟨G, I.toNat, none⟩)) (w' := (W4.setCell ⟨G, P.toNat, none⟩ (.int .i64 A1))) (by rw [List.getElem?_toArray]; rfl) wU (by first | (go_simp; done) | (go_simp; rfl) | (simp [execOp, Act.eval, Result.andThen]; done)) ?_
           refine ⟨⟨hS5.b, (hS5.blk 0 rfl).1⟩, ?_⟩
           go_frame
           refine wpAnyC_on [21] kR (by simp) ?_
           simp only [List.forall_mem_cons, List.not_mem_nil, false_implies, implies_true, and_true]
           refine wpOp_of_list (by rw [List.getElem?_toArray]; rfl) ?_
           refine wpList_stoAt (sto_int A0 _ _) wU wU hcI5 hfI5 ?_
           refine ⟨⟨hS6.b, (hS6.blk 0 rfl).1⟩, ?_⟩
           go_frame
           refine wpAnyC_rest [] [] rfl rfl kR kR kR ⟨hS6.b, (hS6.blk 0 rfl).1⟩ ?_
           unfold wpPure
           refine of_wpList_nil (P := Tryz.prog) (ops := #[]) ?_
           show wpList _ _ _ _ _ ((W4.setCell ⟨G, P.toNat, none⟩ (.int .i64 A1)).setCell ⟨G, I.toNat, none⟩ (.int .i64 A0))
           generalize ((W4.setCell ⟨G, P.toNat, none⟩ (.int .i64 A1)).setCell ⟨G, I.toNat, none⟩ (.int .i64 A0)) = w6 at *
           clear hS5 hS4 hcP hfP hcI5 hfI5 hcI q4
           go_wp2_with fail
           exact ⟨⟨j + 1, v2, by omega, by go_num, by rw [HSEEN.out, HROW.out]; exact hS6⟩, by simp [intOf]; omega⟩
     ·obtain ⟨O, hO⟩ : ∃ O, O = P := ⟨_, rfl⟩
      have hO0 : 0 ≤ O := by omega
      have hOn : O < (n : Int) := by omega
      have hO2 : O < (row.length : Int) := by omega
      obtain ⟨AO, hAO⟩ : ∃ A, A = overO row x := ⟨_, rfl⟩
      rw [← hAO] at HSEEN
      have HAO : Hid (row[O.toNat]?.map cInt = some (.int .i64 AO)) := hid (by rw [hAO, hO]; unfold overO; rw [if_neg hx0, ← hI, ← hP]; exact get_map hP0 hP2)
      have hxI : I = x := by rw [hI]; unfold absI; rw [if_pos (by omega)]
      replace hwPO : IntKind.i64.wrap P = O := by rw [hO]; exact hwPO
      have dx : decide (x < 0) = false := decide_eq_false hx0
      clear hI
      subst hxI
      clear hx hrow hSE hP hA0 hA1 hAO hO hsw hx0 hx1 hx2 e1 hrl
      go_wp2_with ((with_reducible refine wpList_idx _ 0 E_ints F_int cInt1 wU wU (hLr) oD oD (fun _ => wU) (fun _ => ?_)); rw [← HX.out])
      refine wp_regionK (C := (fun V => Below w.heap.size w V)) [0, 2, 4, 5, 6, 7] [_, _, _, _, _, _] 8 (by simp only [List.map_cons, List.map_nil, List.getElem?_toArray]; rfl) rfl kR kR kR (hSr.b.drew) ?_
      refine ⟨.pointer (some ⟨B, 0, none⟩), yieldsK_val wU (fun w' => by first | (go_simp; done) | (go_simp; rfl)), ?_⟩
      go_frame
      refine ⟨.pointer (some ⟨B, 1, none⟩), yieldsK_val wU (fun w' => by first | (go_simp; done) | (go_simp; rfl)), ?_⟩
      go_frame
      refine ⟨.int .i64 I, yieldsK_val wU (fun w' => by first | (go_simp; done) | (go_simp; rfl)), ?_⟩
      go_frame
      refine ⟨.int .i64 P, yieldsK_val wU (fun w' => by first | (go_simp; done) | (go_simp; rfl)), ?_⟩
      go_frame
      refine ⟨.int .i64 0, yieldsK_val wU (fun w' => by first | (go_simp; done) | (go_simp; rfl)), ?_⟩
      go_frame
      refine ⟨.int .i64 O, yieldsK_val wU (fun w' => by first | (go_simp; done) | (go_simp; rfl)), ?_⟩
      go_frame
      unfold wpPureK
      have hVd : ({ wr with drawn := wr.drawn + 1 } : World) = wr.drew := rfl
      rw [hVd]
      clear hVd
      have hSd := hSr.drew
      have c0 := hSd.cell 0 rfl 0 rfl
      have c1 := hSd.cell 0 rfl 1 rfl
      have qA := ((hSd.al (.cells #[.int .i64 AO] 3)).blk 0 rfl).1
      obtain ⟨g0, eg0, -, cO, -, -⟩ := hSd.setOwn cInt1 2 rfl O hO0 hO2 0
      cases eg0
      rw [HAO.out] at cO
      refine wpAnyC_on [1, 3] kR (by simp) ?_
      simp only [List.forall_mem_cons, List.not_mem_nil, false_implies, implies_true, and_true]
      refine ⟨?_, ?_⟩
      ·as_aux_lemma =>
       refine wpOp_value (v := sv) (w' := (wr.drew)) (by rw [List.getElem?_toArray]; rfl) wU (by first | (go_simp; done) | (go_simp; rfl) | (simp [execOp, Act.eval, Result.andThen]; done)) ?_
       refine ⟨hSd.b, ?_⟩
       go_frame
       refine wpAnyC_on [3] kR (by simp) ?_
       simp only [List.forall_mem_cons, List.not_mem_nil, false_implies, implies_true, and_true]
       refine wpOp_value (v := .slice (some ⟨G, 0, none⟩) n cf) (w' := (wr.drew)) (by rw [List.getElem?_toArray]; rfl) wU (by first | (go_simp; done) | (go_simp; rfl) | (simp [execOp, Act.eval, Result.andThen]; done)) ?_
       refine ⟨hSd.b, ?_⟩
       go_frame
       refine wpAnyC_on [8] kR (by simp) ?_
       simp only [List.forall_mem_cons, List.not_mem_nil, false_implies, implies_true, and_true]
       refine wpOp_value (v := .pointer (some ⟨G, O.toNat, none⟩)) (w' := (wr.drew)) (by rw [List.getElem?_toArray]; rfl) wU (by first | (go_simp; done) | (go_simp; rfl) | (simp [execOp, Act.eval, Result.andThen]; done)) ?_
       refine ⟨hSd.b, ?_⟩
       go_frame
       refine wpAnyC_on [9] kR (by simp) ?_
       simp only [List.forall_mem_cons, List.not_mem_nil, false_implies, implies_true, and_true]
       refine wpOp_value (v := .int .i64 AO) (w' := (wr.drew)) (by rw [List.getElem?_toArray]; rfl) wU (by first | (go_simp; done) | (go_simp; rfl) | (simp [execOp, Act.eval, Result.andThen]; done)) ?_
       refine ⟨hSd.b, ?_⟩
       go_frame
       refine wpAnyC_on [10] kR (by simp) ?_
       simp only [List.forall_mem_cons, List.not_mem_nil, false_implies, implies_true, and_true]
       refine wpOp_value (v := .slice (some ⟨(wr.drew).heap.size, 0, none⟩) 1 1) (w' := ((wr.drew).alloc (.cells #[.int .i64 AO] 3))) (by rw [List.getElem?_toArray]; rfl) wU (by first | (go_simp; done) | (go_simp; rfl) | (simp [execOp, Act.eval, Result.andThen]; done)) ?_
       refine ⟨(hSd.al _).b, ?_⟩
       go_frame
       refine wpAnyC_on [11] kR (by simp) ?_
       simp only [List.forall_mem_cons, List.not_mem_nil, false_implies, implies_true, and_true]
       refine wpOp_of_list (by rw [List.getElem?_toArray]; rfl) ?_
       ((with_reducible refine wpList_pushL (y := AO) 1 E_ints wU wU (hSd) wU cIntO ⟨rfl, rfl⟩ (by first | with_unfolding_all rfl | simp) wU (by first | omega | (simp; omega)) (by first | omega | (simp; omega)) ?_); intro v2 w2 hS2)
       refine ⟨hS2.b, ?_⟩
       go_frame
       refine wpAnyC_on [12] kR (by simp) ?_
       simp only [List.forall_mem_cons, List.not_mem_nil, false_implies, implies_true, and_true]
       refine wpOp_value (v := .pointer (some ⟨B, 0, none⟩)) (w' := w2) (by rw [List.getElem?_toArray]; rfl) wU (by first | (go_simp; done) | (go_simp; rfl) | (simp [execOp, Act.eval, Result.andThen]; done)) ?_
       refine ⟨hS2.b, ?_⟩
       go_frame
       refine wpAnyC_on [13] kR (by simp) ?_
       simp only [List.forall_mem_cons, List.not_mem_nil, false_implies, implies_true, and_true]
       refine wpOp_of_list (by rw [List.getElem?_toArray]; rfl) ?_
       refine wpList_stoAt (sto_slV v2 (isSl hS2 1 rfl) _ _) wU wU (hS2.cell 0 rfl 0 rfl) (hS2.frozen 0 rfl 0) ?_
       have hS3 := hS2.set 0 rfl 0 v2
       refine ⟨hS3.b, ?_⟩
       go_frame
       refine wpAnyC_rest [] [] rfl rfl kR kR kR hS3.b ?_
       unfold wpPure
       refine of_wpList_nil (P := Tryz.prog) (ops := #[]) ?_
       replace hS3 : SL w.heap.size w (w2.setCell ⟨B, 0, none⟩ v2) [pBlk B (.cells #[v2, .slice (some ⟨G, 0, none⟩) n cf] 63), pOwn cInt 1 3 v2 (SE ++ [AO]), pOwn cInt 1 3 (.slice (some ⟨G, 0, none⟩) n cf) row, pBlk w.heap.size (.cells #[.slice none 0 0, .slice none 0 0] 63)] := hS3
       show wpList _ _ _ _ _ (w2.setCell ⟨B, 0, none⟩ v2)
       obtain ⟨W3, hW3⟩ : ∃ W3, W3 = w2.setCell ⟨B, 0, none⟩ v2 := ⟨_, rfl⟩
       rw [← hW3] at hS3 ⊢
       clear hW3 hSd c0 c1 cO qA hwPO hwP1
       have q3 := (hS3.blk 0 rfl).1
       have kc : ∀ V : World, (Below w.heap.size w V ∧ V.heap[B]? = some (.cells #[v2, .slice (some ⟨G, 0, none⟩) n cf] 63)) → V.cell? ⟨B, 1, none⟩ = some (.slice (some ⟨G, 0, none⟩) n cf) := fun V h => by simp [World.cell?, h.2]
       clear hS2
       go_wp2_with fail
       refine wp_regionK (C := (fun V => Below w.heap.size w V ∧ V.heap[B]? = some (.cells #[v2, .slice (some ⟨G, 0, none⟩) n cf] 63))) [0, 1, 2, 3, 4, 5, 6, 7, 8, 9, 10, 12, 13, 14, 15, 16] [_, _, _, _, _, _, _, _, _, _, _, _, _, _, _, _] 6 (by simp only [List.map_cons, List.map_nil, List.getElem?_toArray]; rfl) rfl kR kR kR (⟨hS3.b.drew, q3⟩) ?_
       refine ⟨.pointer (some ⟨B, 1, none⟩), yieldsK_val wU (fun w' => by first | (go_simp; done) | (go_simp; rfl)), ?_⟩
       go_frame
       refine ⟨_, yieldsK_cellC F_sl (fun V h => kc V h) wU wU, ?_⟩
       go_frame
       refine ⟨.int .i64 I, yieldsK_val wU (fun w' => by first | (go_simp; done) | (go_simp; rfl)), ?_⟩
       go_frame
       refine ⟨.int .i64 P, yieldsK_val wU (fun w' => by first | (go_simp; done) | (go_simp; rfl)), ?_⟩
       go_frame
       refine ⟨.pointer (some ⟨B, 1, none⟩), yieldsK_val wU (fun w' => by first | (go_simp; done) | (go_simp; rfl)), ?_⟩
       go_frame
       refine ⟨_, yieldsK_cellC F_sl (fun V h => kc V h) wU wU, ?_⟩
       go_frame
       refine ⟨.int .i64 I, yieldsK_val wU (fun w' => by first | (go_simp; done) | (go_simp; rfl)), ?_⟩
       go_frame
       refine ⟨.pointer (some ⟨B, 1, none⟩), yieldsK_val wU (fun w' => by first | (go_simp; done) | (go_simp; rfl)), ?_⟩
       go_frame
       refine ⟨_, yieldsK_cellC F_sl (fun V h => kc V h) wU wU, ?_⟩
       go_frame
       refine ⟨.int .i64 I, yieldsK_val wU (fun w' => by first | (go_simp; done) | (go_simp; rfl)), ?_⟩
       go_frame
       refine ⟨.pointer (some ⟨G, I.toNat, none⟩), yieldsK_val wU (fun w' => by first | (go_simp; done) | (go_simp; rfl)), ?_⟩
       go_frame
       refine ⟨.pointer (some ⟨B, 1, none⟩), yieldsK_val wU (fun w' => by first | (go_simp; done) | (go_simp; rfl)), ?_⟩
       go_frame
       refine ⟨_, yieldsK_cellC F_sl (fun V h => kc V h) wU wU, ?_⟩
       go_frame
       refine ⟨.int .i64 I, yieldsK_val wU (fun w' => by first | (go_simp; done) | (go_simp; rfl)), ?_⟩
       go_frame
       refine ⟨.int .i64 P, yieldsK_val wU (fun w' => by first | (go_simp; done) | (go_simp; rfl)), ?_⟩
       go_frame
       refine ⟨.pointer (some ⟨G, P.toNat, none⟩), yieldsK_val wU (fun w' => by first | (go_simp; done) | (go_simp; rfl)), ?_⟩
       go_frame
       unfold wpPureK
       have hVd : ({ W3 with drawn := W3.drawn + 1 } : World) = W3.drew := rfl
       rw [hVd]
       clear hVd
       obtain ⟨W4, hW4⟩ : ∃ W4, W4 = W3.drew := ⟨_, rfl⟩
       have hS4 : SL w.heap.size w W4 [pBlk B (.cells #[v2, .slice (some ⟨G, 0, none⟩) n cf] 63), pOwn cInt 1 3 v2 (SE ++ [AO]), pOwn cInt 1 3 (.slice (some ⟨G, 0, none⟩) n cf) row, pBlk w.heap.size (.cells #[.slice none 0 0, .slice none 0 0] 63)] := by rw [hW4]; exact hS3.drew
       rw [← hW4]
       clear hW4 hS3 q3 kc
       have q4 := (hS4.blk 0 rfl).1
       obtain ⟨g0, eg0, -, hcI, -, -⟩ := hS4.setOwn cInt1 2 rfl I hI0 hI2 0
       cases eg0
       obtain ⟨g1, eg1, -, hcP, hfP, hS5⟩ := hS4.setOwn cInt1 2 rfl P hP0 hP2 A1
       cases eg1
       obtain ⟨g2, eg2, -, hcI5, hfI5, hS6⟩ := hS5.setOwn cInt1 2 rfl I hI0 (by rw [List.length_set]; exact hI2) A0
       cases eg2
       rw [HA1.out] at hcI
       rw [HA0.out] at hcP
       rw [HI5.out] at hcI5
       replace hS6 : SL w.heap.size w ((W4.setCell ⟨G, P.toNat, none⟩ (.int .i64 A1)).setCell ⟨G, I.toNat, none⟩ (.int .i64 A0)) [pBlk B (.cells #[v2, .slice (some ⟨G, 0, none⟩) n cf] 63), pOwn cInt 1 3 v2 (SE ++ [AO]), pOwn cInt 1 3 (.slice (some ⟨G, 0, none⟩) n cf) ((row.set P.toNat A1).set I.toNat A0), pBlk w.heap.size (.cells #[.slice none 0 0, .slice none 0 0] 63)] := hS6
       refine wpAnyC_on [11, 17] kR (by simp) ?_
       simp only [List.forall_mem_cons, List.not_mem_nil, false_implies, implies_true, and_true]
       refine ⟨?_, ?_⟩
       ·as_aux_lemma =>
        refine wpOp_value (v := .int .i64 A1) (w' := W4) (by rw [List.getElem?_toArray]; rfl) wU (by first | (go_simp; done) | (go_simp; rfl) | (simp [execOp, Act.eval, Result.andThen]; done)) ?_
        refine ⟨⟨hS4.b, q4⟩, ?_⟩
        go_frame
        refine wpAnyC_on [17] kR (by simp) ?_
        simp only [List.forall_mem_cons, List.not_mem_nil, false_implies, implies_true, and_true]
        refine wpOp_value (v := .int .i64 A0) (w' := W4) (by rw [List.getElem?_toArray]; rfl) wU (by first | (go_simp; done) | (go_simp; rfl) | (simp [execOp, Act.eval, Result.andThen]; done)) ?_
        refine ⟨⟨hS4.b, q4⟩, ?_⟩
        go_frame
        refine wpAnyC_on [18] kR (by simp) ?_
        simp only [List.forall_mem_cons, List.not_mem_nil, false_implies, implies_true, and_true]
        refine wpOp_value (v := .pointer (some ⟨G, P.toNat, none⟩)) (w' := W4) (by rw [List.getElem?_toArray]; rfl) wU (by first | (go_simp; done) | (go_simp; rfl) | (simp [execOp, Act.eval, Result.andThen]; done)) ?_
        refine ⟨⟨hS4.b, q4⟩, ?_⟩
        go_frame
        refine wpAnyC_on [19] kR (by simp) ?_
        simp only [List.forall_mem_cons, List.not_mem_nil, false_implies, implies_true, and_true]
        refine wpOp_of_list (by rw [List.getElem?_toArray]; rfl) ?_
        refine wpList_stoAt (sto_int A1 _ _) wU wU hcP hfP ?_
        refine ⟨⟨hS5.b, (hS5.blk 0 rfl).1⟩, ?_⟩
        go_frame
        refine wpAnyC_on [20] kR (by simp) ?_
        simp only [List.forall_mem_cons, List.not_mem_nil, false_implies, implies_true, and_true]
        refine wpOp_value (v := .pointer (some ⟨G, I.toNat, none⟩)) (w' := (W4.setCell ⟨G, P.toNat, none⟩ (.int .i64 A1))) (by rw [List.getElem?_toArray]; rfl) wU (by first | (go_simp; done) | (go_simp; rfl) | (simp [execOp, Act.eval, Result.andThen]; done)) ?_
        refine ⟨⟨hS5.b, (hS5.blk 0 rfl).1⟩, ?_⟩
        go_frame
        refine wpAnyC_on [21] kR (by simp) ?_
        simp only [List.forall_mem_cons, List.not_mem_nil, false_implies, implies_true, and_true]
        refine wpOp_of_list (by rw [List.getElem?_toArray]; rfl) ?_
        refine wpList_stoAt (sto_int A0 _ _) wU wU hcI5 hfI5 ?_
        refine ⟨⟨hS6.b, (hS6.blk 0 rfl).1⟩, ?_⟩
        go_frame
        refine wpAnyC_rest [] [] rfl rfl kR kR kR ⟨hS6.b, (hS6.blk 0 rfl).1⟩ ?_
        unfold wpPure
        refine of_wpList_nil (P := Tryz.prog) (ops := #[]) ?_
        show wpList _ _ _ _ _ ((W4.setCell ⟨G, P.toNat, none⟩ (.int .i64 A1)).setCell ⟨G, I.toNat, none⟩ (.int .i64 A0))
        generalize ((W4.setCell ⟨G, P.toNat, none⟩ (.int .i64 A1)).setCell ⟨G, I.toNat, none⟩ (.int .i64 A0)) = w6 at *
        clear hS5 hS4 hcP hfP hcI5 hfI5 hcI q4
        go_wp2_with fail
        exact ⟨⟨j + 1, v2, by omega, by go_num, by rw [HSEEN.out, HROW.out]; exact hS6⟩, by simp [intOf]; omega⟩
       ·as_aux_lemma =>
        refine wpOp_value (v := .int .i64 A0) (w' := W4) (by rw [List.getElem?_toArray]; rfl) wU (by first | (go_simp; done) | (go_simp; rfl) | (simp [execOp, Act.eval, Result.andThen]; done)) ?_
        refine ⟨⟨hS4.b, q4⟩, ?_⟩
        go_frame
        refine wpAnyC_on [11] kR (by simp) ?_
        simp only [List.forall_mem_cons, List.not_mem_nil, false_implies, implies_true, and_true]
        refine wpOp_value (v := .int .i64 A1) (w' := W4) (by rw [List.getElem?_toArray]; rfl) wU (by first | (go_simp; done) | (go_simp; rfl) | (simp [execOp, Act.eval, Result.andThen]; done)) ?_
        refine ⟨⟨hS4.b, q4⟩, ?_⟩
        go_frame
        refine wpAnyC_on [18] kR (by simp) ?_
        simp only [List.forall_mem_cons, List.not_mem_nil, false_implies, implies_true, and_true]
        refine wpOp_value (v := .pointer (some ⟨G, P.toNat, none⟩)) (w' := W4) (by rw [List.getElem?_toArray]; rfl) wU (by first | (go_simp; done) | (go_simp; rfl) | (simp [execOp, Act.eval, Result.andThen]; done)) ?_
        refine ⟨⟨hS4.b, q4⟩, ?_⟩
        go_frame
        refine wpAnyC_on [19] kR (by simp) ?_
        simp only [List.forall_mem_cons, List.not_mem_nil, false_implies, implies_true, and_true]
        refine wpOp_of_list (by rw [List.getElem?_toArray]; rfl) ?_
        refine wpList_stoAt (sto_int A1 _ _) wU wU hcP hfP ?_
        refine ⟨⟨hS5.b, (hS5.blk 0 rfl).1⟩, ?_⟩
        go_frame
        refine wpAnyC_on [20] kR (by simp) ?_
        simp only [List.forall_mem_cons, List.not_mem_nil, false_implies, implies_true, and_true]
        refine wpOp_value (v := .pointer (some ⟨G, I.toNat, none⟩)) (w' := (W4.setCell ⟨G, P.toNat, none⟩ (.int .i64 A1))) (by rw [List.getElem?_toArray]; rfl) wU (by first | (go_simp; done) | (go_simp; rfl) | (simp [execOp, Act.eval, Result.andThen]; done)) ?_
        refine ⟨⟨hS5.b, (hS5.blk 0 rfl).1⟩, ?_⟩
        go_frame
        refine wpAnyC_on [21] kR (by simp) ?_
        simp only [List.forall_mem_cons, List.not_mem_nil, false_implies, implies_true, and_true]
        refine wpOp_of_list (by rw [List.getElem?_toArray]; rfl) ?_
        refine wpList_stoAt (sto_int A0 _ _) wU wU hcI5 hfI5 ?_
        refine ⟨⟨hS6.b, (hS6.blk 0 rfl).1⟩, ?_⟩
        go_frame
        refine wpAnyC_rest [] [] rfl rfl kR kR kR ⟨hS6.b, (hS6.blk 0 rfl).1⟩ ?_
        unfold wpPure
        refine of_wpList_nil (P := Tryz.prog) (ops := #[]) ?_
        show wpList _ _ _ _ _ ((W4.setCell ⟨G, P.toNat, none⟩ (.int .i64 A1)).setCell ⟨G, I.toNat, none⟩ (.int .i64 A0))
        generalize ((W4.setCell ⟨G, P.toNat, none⟩ (.int .i64 A1)).setCell ⟨G, I.toNat, none⟩ (.int .i64 A0)) = w6 at *
        clear hS5 hS4 hcP hfP hcI5 hfI5 hcI q4
        go_wp2_with fail
        exact ⟨⟨j + 1, v2, by omega, by go_num, by rw [HSEEN.out, HROW.out]; exact hS6⟩, by simp [intOf]; omega⟩
      ·as_aux_lemma =>
       refine wpOp_value (v := .slice (some ⟨G, 0, none⟩) n cf) (w' := (wr.drew)) (by rw [List.getElem?_toArray]; rfl) wU (by first | (go_simp; done) | (go_simp; rfl) | (simp [execOp, Act.eval, Result.andThen]; done)) ?_
       refine ⟨hSd.b, ?_⟩
       go_frame
       refine wpAnyC_on [1, 8] kR (by simp) ?_
       simp only [List.forall_mem_cons, List.not_mem_nil, false_implies, implies_true, and_true]
       refine ⟨?_, ?_⟩
       ·as_aux_lemma =>
        refine wpOp_value (v := sv) (w' := (wr.drew)) (by rw [List.getElem?_toArray]; rfl) wU (by first | (go_simp; done) | (go_simp; rfl) | (simp [execOp, Act.eval, Result.andThen]; done)) ?_
        refine ⟨hSd.b, ?_⟩
        go_frame
        refine wpAnyC_on [8] kR (by simp) ?_
        simp only [List.forall_mem_cons, List.not_mem_nil, false_implies, implies_true, and_true]
        refine wpOp_value (v := .pointer (some ⟨G, O.toNat, none⟩)) (w' := (wr.drew)) (by rw [List.getElem?_toArray]; rfl) wU (by first | (go_simp; done) | (go_simp; rfl) | (simp [execOp, Act.eval, Result.andThen]; done)) ?_
        refine ⟨hSd.b, ?_⟩
        go_frame
        refine wpAnyC_on [9] kR (by simp) ?_
        simp only [List.forall_mem_cons, List.not_mem_nil, false_implies, implies_true, and_true]
        refine wpOp_value (v := .int .i64 AO) (w' := (wr.drew)) (by rw [List.getElem?_toArray]; rfl) wU (by first | (go_simp; done) | (go_simp; rfl) | (simp [execOp, Act.eval, Result.andThen]; done)) ?_
        refine ⟨hSd.b, ?_⟩
        go_frame
        refine wpAnyC_on [10] kR (by simp) ?_
        simp only [List.forall_mem_cons, List.not_mem_nil, false_implies, implies_true, and_true]
        refine wpOp_value (v := .slice (some ⟨(wr.drew).heap.size, 0, none⟩) 1 1) (w' := ((wr.drew).alloc (.cells #[.int .i64 AO] 3))) (by rw [List.getElem?_toArray]; rfl) wU (by first | (go_simp; done) | (go_simp; rfl) | (simp [execOp, Act.eval, Result.andThen]; done)) ?_
        refine ⟨(hSd.al _).b, ?_⟩
        go_frame
        refine wpAnyC_on [11] kR (by simp) ?_
        simp only [List.forall_mem_cons, List.not_mem_nil, false_implies, implies_true, and_true]
        refine wpOp_of_list (by rw [List.getElem?_toArray]; rfl) ?_
        ((with_reducible refine wpList_pushL (y := AO) 1 E_ints wU wU (hSd) wU cIntO ⟨rfl, rfl⟩ (by first | with_unfolding_all rfl | simp) wU (by first | omega | (simp; omega)) (by first | omega | (simp; omega)) ?_); intro v2 w2 hS2)
        refine ⟨hS2.b, ?_⟩
        go_frame
        refine wpAnyC_on [12] kR (by simp) ?_
        simp only [List.forall_mem_cons, List.not_mem_nil, false_implies, implies_true, and_true]
        refine wpOp_value (v := .pointer (some ⟨B, 0, none⟩)) (w' := w2) (by rw [List.getElem?_toArray]; rfl) wU (by first | (go_simp; done) | (go_simp; rfl) | (simp [execOp, Act.eval, Result.andThen]; done)) ?_
        refine ⟨hS2.b, ?_⟩
        go_frame
        refine wpAnyC_on [13] kR (by simp) ?_
        simp only [List.forall_mem_cons, List.not_mem_nil, false_implies, implies_true, and_true]
        refine wpOp_of_list (by rw [List.getElem?_toArray]; rfl) ?_
        refine wpList_stoAt (sto_slV v2 (isSl hS2 1 rfl) _ _) wU wU (hS2.cell 0 rfl 0 rfl) (hS2.frozen 0 rfl 0) ?_
        have hS3 := hS2.set 0 rfl 0 v2
        refine ⟨hS3.b, ?_⟩
        go_frame
        refine wpAnyC_rest [] [] rfl rfl kR kR kR hS3.b ?_
        unfold wpPure
        refine of_wpList_nil (P := Tryz.prog) (ops := #[]) ?_
        replace hS3 : SL w.heap.size w (w2.setCell ⟨B, 0, none⟩ v2) [pBlk B (.cells #[v2, .slice (some ⟨G, 0, none⟩) n cf] 63), pOwn cInt 1 3 v2 (SE ++ [AO]), pOwn cInt 1 3 (.slice (some ⟨G, 0, none⟩) n cf) row, pBlk w.heap.size (.cells #[.slice none 0 0, .slice none 0 0] 63)] := hS3
        show wpList _ _ _ _ _ (w2.setCell ⟨B, 0, none⟩ v2)
        obtain ⟨W3, hW3⟩ : ∃ W3, W3 = w2.setCell ⟨B, 0, none⟩ v2 := ⟨_, rfl⟩
        rw [← hW3] at hS3 ⊢
        clear hW3 hSd c0 c1 cO qA hwPO hwP1
        have q3 := (hS3.blk 0 rfl).1
        have kc : ∀ V : World, (Below w.heap.size w V ∧ V.heap[B]? = some (.cells #[v2, .slice (some ⟨G, 0, none⟩) n cf] 63)) → V.cell? ⟨B, 1, none⟩ = some (.slice (some ⟨G, 0, none⟩) n cf) := fun V h => by simp [World.cell?, h.2]
        clear hS2
        go_wp2_with fail
        refine wp_regionK (C := (fun V => Below w.heap.size w V ∧ V.heap[B]? = some (.cells #[v2, .slice (some ⟨G, 0, none⟩) n cf] 63))) [0, 1, 2, 3, 4, 5, 6, 7, 8, 9, 10, 12, 13, 14, 15, 16] [_, _, _, _, _, _, _, _, _, _, _, _, _, _, _, _] 6 (by simp only [List.map_cons, List.map_nil, List.getElem?_toArray]; rfl) rfl kR kR kR (⟨hS3.b.drew, q3⟩) ?_
        refine ⟨.pointer (some ⟨B, 1, none⟩), yieldsK_val wU (fun w' => by first | (go_simp; done) | (go_simp; rfl)), ?_⟩
        go_frame
        refine ⟨_, yieldsK_cellC F_sl (fun V h => kc V h) wU wU, ?_⟩
        go_frame
        refine ⟨.int .i64 I, yieldsK_val wU (fun w' => by first | (go_simp; done) | (go_simp; rfl)), ?_⟩
        go_frame
        refine ⟨.int .i64 P, yieldsK_val wU (fun w' => by first | (go_simp; done) | (go_simp; rfl)), ?_⟩
        go_frame
        refine ⟨.pointer (some ⟨B, 1, none⟩), yieldsK_val wU (fun w' => by first | (go_simp; done) | (go_simp; rfl)), ?_⟩
        go_frame
        refine ⟨_, yieldsK_cellC F_sl (fun V h => kc V h) wU wU, ?_⟩
        go_frame
        refine ⟨.int .i64 I, yieldsK_val wU (fun w' => by first | (go_simp; done) | (go_simp; rfl)), ?_⟩
        go_frame
        refine ⟨.pointer (some ⟨B, 1, none⟩), yieldsK_val wU (fun w' => by first | (go_simp; done) | (go_simp; rfl)), ?_⟩
        go_frame
        refine ⟨_, yieldsK_cellC F_sl (fun V h => kc V h) wU wU, ?_⟩
        go_frame
        refine ⟨.int .i64 I, yieldsK_val wU (fun w' => by first | (go_simp; done) | (go_simp; rfl)), ?_⟩
        go_frame
        refine ⟨.pointer (some ⟨G, I.toNat, none⟩), yieldsK_val wU (fun w' => by first | (go_simp; done) | (go_simp; rfl)), ?_⟩
        go_frame
        refine ⟨.pointer (some ⟨B, 1, none⟩), yieldsK_val wU (fun w' => by first | (go_simp; done) | (go_simp; rfl)), ?_⟩
        go_frame
        refine ⟨_, yieldsK_cellC F_sl (fun V h => kc V h) wU wU, ?_⟩
        go_frame
        refine ⟨.int .i64 I, yieldsK_val wU (fun w' => by first | (go_simp; done) | (go_simp; rfl)), ?_⟩
        go_frame
        refine ⟨.int .i64 P, yieldsK_val wU (fun w' => by first | (go_simp; done) | (go_simp; rfl)), ?_⟩
        go_frame
        refine ⟨.pointer (some ⟨G, P.toNat, none⟩), yieldsK_val wU (fun w' => by first | (go_simp; done) | (go_simp; rfl)), ?_⟩
        go_frame
        unfold wpPureK
        have hVd : ({ W3 with drawn := W3.drawn + 1 } : World) = W3.drew := rfl
        rw [hVd]
        clear hVd
        obtain ⟨W4, hW4⟩ : ∃ W4, W4 = W3.drew := ⟨_, rfl⟩
        have hS4 : SL w.heap.size w W4 [pBlk B (.cells #[v2, .slice (some ⟨G, 0, none⟩) n cf] 63), pOwn cInt 1 3 v2 (SE ++ [AO]), pOwn cInt 1 3 (.slice (some ⟨G, 0, none⟩) n cf) row, pBlk w.heap.size (.cells #[.slice none 0 0, .slice none 0 0] 63)] := by rw [hW4]; exact hS3.drew
        rw [← hW4]
        clear hW4 hS3 q3 kc
        have q4 := (hS4.blk 0 rfl).1
        obtain ⟨g0, eg0, -, hcI, -, -⟩ := hS4.setOwn cInt1 2 rfl I hI0 hI2 0
        cases eg0
        obtain ⟨g1, eg1, -, hcP, hfP, hS5⟩ := hS4.setOwn cInt1 2 rfl P hP0 hP2 A1
        cases eg1
        obtain ⟨g2, eg2, -, hcI5, hfI5, hS6⟩ := hS5.setOwn cInt1 2 rfl I hI0 (by rw [List.length_set]; exact hI2) A0
        cases eg2
        rw [HA1.out] at hcI
        rw [HA0.out] at hcP
        rw [HI5.out] at hcI5
        replace hS6 : SL w.heap.size w ((W4.setCell ⟨G, P.toNat, none⟩ (.int .i64 A1)).setCell ⟨G, I.toNat, none⟩ (.int .i64 A0)) [pBlk B (.cells #[v2, .slice (some ⟨G, 0, none⟩) n cf] 63), pOwn cInt 1 3 v2 (SE ++ [AO]), pOwn cInt 1 3 (.slice (some ⟨G, 0, none⟩) n cf) ((row.set P.toNat A1).set I.toNat A0), pBlk w.heap.size (.cells #[.slice none 0 0, .slice none 0 0] 63)] := hS6
        refine wpAnyC_on [11, 17] kR (by simp) ?_
        simp only [List.forall_mem_cons, List.not_mem_nil, false_implies, implies_true, and_true]
        refine ⟨?_, ?_⟩
        ·as_aux_lemma =>
         refine wpOp_value (v := .int .i64 A1) (w' := W4) (by rw [List.getElem?_toArray]; rfl) wU (by first | (go_simp; done) | (go_simp; rfl) | (simp [execOp, Act.eval, Result.andThen]; done)) ?_
         refine ⟨⟨hS4.b, q4⟩, ?_⟩
         go_frame
         refine wpAnyC_on [17] kR (by simp) ?_
         simp only [List.forall_mem_cons, List.not_mem_nil, false_implies, implies_true, and_true]
         refine wpOp_value (v := .int .i64 A0) (w' := W4) (by rw [List.getElem?_toArray]; rfl) wU (by first | (go_simp; done) | (go_simp; rfl) | (simp [execOp, Act.eval, Result.andThen]; done)) ?_
         refine ⟨⟨hS4.b, q4⟩, ?_⟩
         go_frame
         refine wpAnyC_on [18] kR (by simp) ?_
         simp only [List.forall_mem_cons, List.not_mem_nil, false_implies, implies_true, and_true]
         refine wpOp_value (v := .pointer (some ⟨G, P.toNat, none⟩)) (w' := W4) (by rw [List.getElem?_toArray]; rfl) wU (by first | (go_simp; done) | (go_simp; rfl) | (simp [execOp, Act.eval, Result.andThen]; done)) ?_
         refine ⟨⟨hS4.b, q4⟩, ?_⟩
         go_frame
         refine wpAnyC_on [19] kR (by simp) ?_
         simp only [List.forall_mem_cons, List.not_mem_nil, false_implies, implies_true, and_true]
         refine wpOp_of_list (by rw [List.getElem?_toArray]; rfl) ?_
         refine wpList_stoAt (sto_int A1 _ _) wU wU hcP hfP ?_
         refine ⟨⟨hS5.b, (hS5.blk 0 rfl).1⟩, ?_⟩
         go_frame
         refine wpAnyC_on [20] kR (by simp) ?_
         simp only [List.forall_mem_cons, List.not_mem_nil, false_implies, implies_true, and_true]
         refine wpOp_value (v := .pointer (some ⟨G, I.toNat, none⟩)) (w' := (W4.setCell ⟨G, P.toNat, none⟩ (.int .i64 A1))) (by rw [List.getElem?_toArray]; rfl) wU (by first | (go_simp; done) | (go_simp; rfl) | (simp [execOp, Act.eval, Result.andThen]; done)) ?_
         refine ⟨⟨hS5.b, (hS5.blk 0 rfl).1⟩, ?_⟩
         go_frame
         refine wpAnyC_on [21] kR (by simp) ?_
         simp only [List.forall_mem_cons, List.not_mem_nil, false_implies, implies_true, and_true]
         refine wpOp_of_list (by rw [List.getElem?_toArray]; rfl) ?_
         refine wpList_stoAt (sto_int A0 _ _) wU wU hcI5 hfI5 ?_
         refine ⟨⟨hS6.b, (hS6.blk 0 rfl).1⟩, ?_⟩
         go_frame
         refine wpAnyC_rest [] [] rfl rfl kR kR kR ⟨hS6.b, (hS6.blk 0 rfl).1⟩ ?_
         unfold wpPure
         refine of_wpList_nil (P := Tryz.prog) (ops := #[]) ?_
         show wpList _ _ _ _ _ ((W4.setCell ⟨G, P.toNat, none⟩ (.int .i64 A1)).setCell ⟨G, I.toNat, none⟩ (.int .i64 A0))
         generalize ((W4.setCell ⟨G, P.toNat, none⟩ (.int .i64 A1)).setCell ⟨G, I.toNat, none⟩ (.int .i64 A0)) = w6 at *
         clear hS5 hS4 hcP hfP hcI5 hfI5 hcI q4
         go_wp2_with fail
         exact ⟨⟨j + 1, v2, by omega, by go_num, by rw [HSEEN.out, HROW.out]; exact hS6⟩, by simp [intOf]; omega⟩
        ·as_aux_lemma =>
         refine wpOp_value (v := .int .i64 A0) (w' := W4) (by rw [List.getElem?_toArray]; rfl) wU (by first | (go_simp; done) | (go_simp; rfl) | (simp [execOp, Act.eval, Result.andThen]; done)) ?_
         refine ⟨⟨hS4.b, q4⟩, ?_⟩
         go_frame
         refine wpAnyC_on [11] kR (by simp) ?_
         simp only [List.forall_mem_cons, List.not_mem_nil, false_implies, implies_true, and_true]
         refine wpOp_value (v := .int .i64 A1) (w' := W4) (by rw [List.getElem?_toArray]; rfl) wU (by first | (go_simp; done) | (go_simp; rfl) | (simp [execOp, Act.eval, Result.andThen]; done)) ?_
         refine ⟨⟨hS4.b, q4⟩, ?_⟩
         go_frame
         refine wpAnyC_on [18] kR (by simp) ?_
         simp only [List.forall_mem_cons, List.not_mem_nil, false_implies, implies_true, and_true]
         refine wpOp_value (v := .pointer (some ⟨G, P.toNat, none⟩)) (w' := W4) (by rw [List.getElem?_toArray]; rfl) wU (by first | (go_simp; done) | (go_simp; rfl) | (simp [execOp, Act.eval, Result.andThen]; done)) ?_
         refine ⟨⟨hS4.b, q4⟩, ?_⟩
         go_frame
         refine wpAnyC_on [19] kR (by simp) ?_
         simp only [List.forall_mem_cons, List.not_mem_nil, false_implies, implies_true, and_true]
         refine wpOp_of_list (by rw [List.getElem?_toArray]; rfl) ?_
         refine wpList_stoAt (sto_int A1 _ _) wU wU hcP hfP ?_
         refine ⟨⟨hS5.b, (hS5.blk 0 rfl).1⟩, ?_⟩
         go_frame
         refine wpAnyC_on [20] kR (by simp) ?_
         simp only [List.forall_mem_cons, List.not_mem_nil, false_implies, implies_true, and_true]
         refine wpOp_value (v := .pointer (some ⟨G, I.toNat, none⟩)) (w' := (W4.setCell ⟨G, P.toNat, none⟩ (.int .i64 A1))) (by rw [List.getElem?_toArray]; rfl) wU (by first | (go_simp; done) | (go_simp; rfl) | (simp [execOp, Act.eval, Result.andThen]; done)) ?_
         refine ⟨⟨hS5.b, (hS5.blk 0 rfl).1⟩, ?_⟩
         go_frame
         refine wpAnyC_on [21] kR (by simp) ?_
         simp only [List.forall_mem_cons, List.not_mem_nil, false_implies, implies_true, and_true]
         refine wpOp_of_list (by rw [List.getElem?_toArray]; rfl) ?_
         refine wpList_stoAt (sto_int A0 _ _) wU wU hcI5 hfI5 ?_
         refine ⟨⟨hS6.b, (hS6.blk 0 rfl).1⟩, ?_⟩
         go_frame
         refine wpAnyC_rest [] [] rfl rfl kR kR kR ⟨hS6.b, (hS6.blk 0 rfl).1⟩ ?_
         unfold wpPure
         refine of_wpList_nil (P := Tryz.prog) (ops := #[]) ?_
         show wpList _ _ _ _ _ ((W4.setCell ⟨G, P.toNat, none⟩ (.int .i64 A1)).setCell ⟨G, I.toNat, none⟩ (.int .i64 A0))
         generalize ((W4.setCell ⟨G, P.toNat, none⟩ (.int .i64 A1)).setCell ⟨G, I.toNat, none⟩ (.int .i64 A0)) = w6 at *
         clear hS5 hS4 hcP hfP hcI5 hfI5 hcI q4
         go_wp2_with fail
         exact ⟨⟨j + 1, v2, by omega, by go_num, by rw [HSEEN.out, HROW.out]; exact hS6⟩, by simp [intOf]; omega⟩
       ·as_aux_lemma =>
        refine wpOp_value (v := .pointer (some ⟨G, O.toNat, none⟩)) (w' := (wr.drew)) (by rw [List.getElem?_toArray]; rfl) wU (by first | (go_simp; done) | (go_simp; rfl) | (simp [execOp, Act.eval, Result.andThen]; done)) ?_
        refine ⟨hSd.b, ?_⟩
        go_frame
        refine wpAnyC_on [1, 9] kR (by simp) ?_
        simp only [List.forall_mem_cons, List.not_mem_nil, false_implies, implies_true, and_true]
        refine ⟨?_, ?_⟩
        ·as_aux_lemma =>
         refine wpOp_value (v := sv) (w' := (wr.drew)) (by rw [List.getElem?_toArray]; rfl) wU (by first | (go_simp; done) | (go_simp; rfl) | (simp [execOp, Act.eval, Result.andThen]; done)) ?_
         refine ⟨hSd.b, ?_⟩
         go_frame
         refine wpAnyC_on [9] kR (by simp) ?_
         simp only [List.forall_mem_cons, List.not_mem_nil, false_implies, implies_true, and_true]
         refine wpOp_value (v := .int .i64 AO) (w' := (wr.drew)) (by rw [List.getElem?_toArray]; rfl) wU (by first | (go_simp; done) | (go_simp; rfl) | (simp [execOp, Act.eval, Result.andThen]; done)) ?_
         refine ⟨hSd.b, ?_⟩
         go_frame
         refine wpAnyC_on [10] kR (by simp) ?_
         simp only [List.forall_mem_cons, List.not_mem_nil, false_implies, implies_true, and_true]
         refine wpOp_value (v := .slice (some ⟨(wr.drew).heap.size, 0, none⟩) 1 1) (w' := ((wr.drew).alloc (.cells #[.int .i64 AO] 3))) (by rw [List.getElem?_toArray]; rfl) wU (by first | (go_simp; done) | (go_simp; rfl) | (simp [execOp, Act.eval, Result.andThen]; done)) ?_
         refine ⟨(hSd.al _).b, ?_⟩
         go_frame
         refine wpAnyC_on [11] kR (by simp) ?_
         simp only [List.forall_mem_cons, List.not_mem_nil, false_implies, implies_true, and_true]
         refine wpOp_of_list (by rw [List.getElem?_toArray]; rfl) ?_
         ((with_reducible refine wpList_pushL (y := AO) 1 E_ints wU wU (hSd) wU cIntO ⟨rfl, rfl⟩ (by first | with_unfolding_all rfl | simp) wU (by first | omega | (simp; omega)) (by first | omega | (simp; omega)) ?_); intro v2 w2 hS2)
         refine ⟨hS2.b, ?_⟩
         go_frame
         refine wpAnyC_on [12] kR (by simp) ?_
         simp only [List.forall_mem_cons, List.not_mem_nil, false_implies, implies_true, and_true]
         refine wpOp_value (v := .pointer (some ⟨B, 0, none⟩)) (w' := w2) (by rw [List.getElem?_toArray]; rfl) wU (by first | (go_simp; done) | (go_simp; rfl) | (simp [execOp, Act.eval, Result.andThen]; done)) ?_
         refine ⟨hS2.b, ?_⟩
         go_frame
         refine wpAnyC_on [13] kR (by simp) ?_
         simp only [List.forall_mem_cons, List.not_mem_nil, false_implies, implies_true, and_true]
         refine wpOp_of_list (by rw [List.getElem?_toArray]; rfl) ?_
         refine wpList_stoAt (sto_slV v2 (isSl hS2 1 rfl) _ _) wU wU (hS2.cell 0 rfl 0 rfl) (hS2.frozen 0 rfl 0) ?_
         have hS3 := hS2.set 0 rfl 0 v2
         refine ⟨hS3.b, ?_⟩
         go_frame
         refine wpAnyC_rest [] [] rfl rfl kR kR kR hS3.b ?_
         unfold wpPure
         refine of_wpList_nil (P := Tryz.prog) (ops := #[]) ?_
         replace hS3 : SL w.heap.size w (w2.setCell ⟨B, 0, none⟩ v2) [pBlk B (.cells #[v2, .slice (some ⟨G, 0, none⟩) n cf] 63), pOwn cInt 1 3 v2 (SE ++ [AO]), pOwn cInt 1 3 (.slice (some ⟨G, 0, none⟩) n cf) row, pBlk w.heap.size (.cells #[.slice none 0 0, .slice none 0 0] 63)] := hS3
         show wpList _ _ _ _ _ (w2.setCell ⟨B, 0, none⟩ v2)
         obtain ⟨W3, hW3⟩ : ∃ W3, W3 = w2.setCell ⟨B, 0, none⟩ v2 := ⟨_, rfl⟩
         rw [← hW3] at hS3 ⊢
         clear hW3 hSd c0 c1 cO qA hwPO hwP1
         have q3 := (hS3.blk 0 rfl).1
         have kc : ∀ V : World, (Below w.heap.size w V ∧ V.heap[B]? = some (.cells #[v2, .slice (some ⟨G, 0, none⟩) n cf] 63)) → V.cell? ⟨B, 1, none⟩ = some (.slice (some ⟨G, 0, none⟩) n cf) := fun V h => by simp [World.cell?, h.2]
         clear hS2
         go_wp2_with fail
         refine wp_regionK (C := (fun V => Below w.heap.size w V ∧ V.heap[B]? = some (.cells #[v2, .slice (some ⟨G, 0, none⟩) n cf] 63))) [0, 1, 2, 3, 4, 5, 6, 7, 8, 9, 10, 12, 13, 14, 15, 16] [_, _, _, _, _, _, _, _, _, _, _, _, _, _, _, _] 6 (by simp only [List.map_cons, List.map_nil, List.getElem?_toArray]; rfl) rfl kR kR kR (⟨hS3.b.drew, q3⟩) ?_
         refine ⟨.pointer (some ⟨B, 1, none⟩), yieldsK_val wU (fun w' => by first | (go_simp; done) | (go_simp; rfl)), ?_⟩
         go_frame
         refine ⟨_, yieldsK_cellC F_sl (fun V h => kc V h) wU wU, ?_⟩
         go_frame
         refine ⟨.int .i64 I, yieldsK_val wU (fun w' => by first | (go_simp; done) | (go_simp; rfl)), ?_⟩
         go_frame
         refine ⟨.int .i64 P, yieldsK_val wU (fun w' => by first | (go_simp; done) | (go_simp; rfl)), ?_⟩
         go_frame
         refine ⟨.pointer (some ⟨B, 1, none⟩), yieldsK_val wU (fun w' => by first | (go_simp; done) | (go_simp; rfl)), ?_⟩
         go_frame
         refine ⟨_, yieldsK_cellC F_sl (fun V h => kc V h) wU wU, ?_⟩
         go_frame
         refine ⟨.int .i64 I, yieldsK_val wU (fun w' => by first | (go_simp; done) | (go_simp; rfl)), ?_⟩
         go_frame
         refine ⟨.pointer (some ⟨B, 1, none⟩), yieldsK_val wU (fun w' => by first | (go_simp; done) | (go_simp; rfl)), ?_⟩
         go_frame
         refine ⟨_, yieldsK_cellC F_sl (fun V h => kc V h) wU wU, ?_⟩
         go_frame
         refine ⟨.int .i64 I, yieldsK_val wU (fun w' => by first | (go_simp; done) | (go_simp; rfl)), ?_⟩
         go_frame
         refine ⟨.pointer (some ⟨G, I.toNat, none⟩), yieldsK_val wU (fun w' => by first | (go_simp; done) | (go_simp; rfl)), ?_⟩
         go_frame
         refine ⟨.pointer (some ⟨B, 1, none⟩), yieldsK_val wU (fun w' => by first | (go_simp; done) | (go_simp; rfl)), ?_⟩
         go_frame
         refine ⟨_, yieldsK_cellC F_sl (fun V h => kc V h) wU wU, ?_⟩
         go_frame
         refine ⟨.int .i64 I, yieldsK_val wU (fun w' => by first | (go_simp; done) | (go_simp; rfl)), ?_⟩
         go_frame
         refine ⟨.int .i64 P, yieldsK_val wU (fun w' => by first | (go_simp; done) | (go_simp; rfl)), ?_⟩
         go_frame
         refine ⟨.pointer (some ⟨G, P.toNat, none⟩), yieldsK_val wU (fun w' => by first | (go_simp; done) | (go_simp; rfl)), ?_⟩
         go_frame
         unfold wpPureK
         have hVd : ({ W3 with drawn := W3.drawn + 1 } : World) = W3.drew := rfl
         rw [hVd]
         clear hVd
         obtain ⟨W4, hW4⟩ : ∃ W4, W4 = W3.drew := ⟨_, rfl⟩
         have hS4 : SL w.heap.size w W4 [pBlk B (.cells #[v2, .slice (some ⟨G, 0, none⟩) n cf] 63), pOwn cInt 1 3 v2 (SE ++ [AO]), pOwn cInt 1 3 (.slice (some ⟨G, 0, none⟩) n cf) row, pBlk w.heap.size (.cells #[.slice none 0 0, .slice none 0 0] 63)] := by rw [hW4]; exact hS3.drew
         rw [← hW4]
         clear hW4 hS3 q3 kc
         have q4 := (hS4.blk 0 rfl).1
         obtain ⟨g0, eg0, -, hcI, -, -⟩ := hS4.setOwn cInt1 2 rfl I hI0 hI2 0
         cases eg0
         obtain ⟨g1, eg1, -, hcP, hfP, hS5⟩ := hS4.setOwn cInt1 2 rfl P hP0 hP2 A1
         cases eg1
         obtain ⟨g2, eg2, -, hcI5, hfI5, hS6⟩ := hS5.setOwn cInt1 2 rfl I hI0 (by rw [List.length_set]; exact hI2) A0
         cases eg2
         rw [HA1.out] at hcI
         rw [HA0.out] at hcP
         rw [HI5.out] at hcI5
         replace hS6 : SL w.heap.size w ((W4.setCell ⟨G, P.toNat, none⟩ (.int .i64 A1)).setCell ⟨G, I.toNat, none⟩ (.int .i64 A0)) [pBlk B (.cells #[v2, .slice (some ⟨G, 0, none⟩) n cf] 63), pOwn cInt 1 3 v2 (SE ++ [AO]), pOwn cInt 1 3 (.slice (some ⟨G, 0, none⟩) n cf) ((row.set P.toNat A1).set I.toNat A0), pBlk w.heap.size (.cells #[.slice none 0 0, .slice none 0 0] 63)] := hS6
         refine wpAnyC_on [11, 17] kR (by simp) ?_
         simp only [List.forall_mem_cons, List.not_mem_nil, false_implies, implies_true, and_true]
         refine ⟨?_, ?_⟩
         ·as_aux_lemma =>
          refine wpOp_value (v := .int .i64 A1) (w' := W4) (by rw [List.getElem?_toArray]; rfl) wU (by first | (go_simp; done) | (go_simp; rfl) | (simp [execOp, Act.eval, Result.andThen]; done)) ?_
          refine ⟨⟨hS4.b, q4⟩, ?_⟩
          go_frame
          refine wpAnyC_on [17] kR (by simp) ?_
          simp only [List.forall_mem_cons, List.not_mem_nil, false_implies, implies_true, and_true]
          refine wpOp_value (v := .int .i64 A0) (w' := W4) (by rw [List.getElem?_toArray]; rfl) wU (by first | (go_simp; done) | (go_simp; rfl) | (simp [execOp, Act.eval, Result.andThen]; done)) ?_
          refine ⟨⟨hS4.b, q4⟩, ?_⟩
          go_frame
          refine wpAnyC_on [18] kR (by simp) ?_
          simp only [List.forall_mem_cons, List.not_mem_nil, false_implies, implies_true, and_true]
          refine wpOp_value (v := .pointer (some ⟨G, P.toNat, none⟩)) (w' := W4) (by rw [List.getElem?_toArray]; rfl) wU (by first | (go_simp; done) | (go_simp; rfl) | (simp [execOp, Act.eval, Result.andThen]; done)) ?_
          refine ⟨⟨hS4.b, q4⟩, ?_⟩
          go_frame
          refine wpAnyC_on [19] kR (by simp) ?_
          simp only [List.forall_mem_cons, List.not_mem_nil, false_implies, implies_true, and_true]
          refine wpOp_of_list (by rw [List.getElem?_toArray]; rfl) ?_
          refine wpList_stoAt (sto_int A1 _ _) wU wU hcP hfP ?_
          refine ⟨⟨hS5.b, (hS5.blk 0 rfl).1⟩, ?_⟩
          go_frame
          refine wpAnyC_on [20] kR (by simp) ?_
          simp only [List.forall_mem_cons, List.not_mem_nil, false_implies, implies_true, and_true]
          refine wpOp_value (v := .pointer (some ⟨G, I.toNat, none⟩)) (w' := (W4.setCell ⟨G, P.toNat, none⟩ (.int .i64 A1))) (by rw [List.getElem?_toArray]; rfl) wU (by first | (go_simp; done) | (go_simp; rfl) | (simp [execOp, Act.eval, Result.andThen]; done)) ?_
          refine ⟨⟨hS5.b, (hS5.blk 0 rfl).1⟩, ?_⟩
          go_frame
          refine wpAnyC_on [21] kR (by simp) ?_
          simp only [List.forall_mem_cons, List.not_mem_nil, false_implies, implies_true, and_true]
          refine wpOp_of_list (by rw [List.getElem?_toArray]; rfl) ?_
          refine wpList_stoAt (sto_int A0 _ _) wU wU hcI5 hfI5 ?_
          refine ⟨⟨hS6.b, (hS6.blk 0 rfl).1⟩, ?_⟩
          go_frame
          refine wpAnyC_rest [] [] rfl rfl kR kR kR ⟨hS6.b, (hS6.blk 0 rfl).1⟩ ?_
          unfold wpPure
          refine of_wpList_nil (P := Tryz.prog) (ops := #[]) ?_
          show wpList _ _ _ _ _ ((W4.setCell ⟨G, P.toNat, none⟩ (.int .i64 A1)).setCell ⟨G, I.toNat, none⟩ (.int .i64 A0))
          generalize ((W4.setCell ⟨G, P.toNat, none⟩ (.int .i64 A1)).setCell ⟨G, I.toNat, none⟩ (.int .i64 A0)) = w6 at *
          clear hS5 hS4 hcP hfP hcI5 hfI5 hcI q4
          go_wp2_with fail
          exact ⟨⟨j + 1, v2, by omega, by go_num, by rw [HSEEN.out, HROW.out]; exact hS6⟩, by simp [intOf]; omega⟩
         ·as_aux_lemma =>
          refine wpOp_value (v := .int .i64 A0) (w' := W4) (by rw [List.getElem?_toArray]; rfl) wU (by first | (go_simp; done) | (go_simp; rfl) | (simp [execOp, Act.eval, Result.andThen]; done)) ?_
          refine ⟨⟨hS4.b, q4⟩, ?_⟩
          go_frame
          refine wpAnyC_on [11] kR (by simp) ?_
          simp only [List.forall_mem_cons, List.not_mem_nil, false_implies, implies_true, and_true]
          refine wpOp_value (v := .int .i64 A1) (w' := W4) (by rw [List.getElem?_toArray]; rfl) wU (by first | (go_simp; done) | (go_simp; rfl) | (simp [execOp, Act.eval, Result.andThen]; done)) ?_
          refine ⟨⟨hS4.b, q4⟩, ?_⟩
          go_frame
          refine wpAnyC_on [18] kR (by simp) ?_
          simp only [List.forall_mem_cons, List.not_mem_nil, false_implies, implies_true, and_true]
          refine wpOp_value (v := .pointer (some ⟨G, P.toNat, none⟩)) (w' := W4) (by rw [List.getElem?_toArray]; rfl) wU (by first | (go_simp; done) | (go_simp; rfl) | (simp [execOp, Act.eval, Result.andThen]; done)) ?_
          refine ⟨⟨hS4.b, q4⟩, ?_⟩
          go_frame
          refine wpAnyC_on [19] kR (by simp) ?_
          simp only [List.forall_mem_cons, List.not_mem_nil, false_implies, implies_true, and_true]
          refine wpOp_of_list (by rw [List.getElem?_toArray]; rfl) ?_
          refine wpList_stoAt (sto_int A1 _ _) wU wU hcP hfP ?_
          refine ⟨⟨hS5.b, (hS5.blk 0 rfl).1⟩, ?_⟩
          go_frame
          refine wpAnyC_on [20] kR (by simp) ?_
          simp only [List.forall_mem_cons, List.not_mem_nil, false_implies, implies_true, and_true]
          refine wpOp_value (v := .pointer (some ⟨G, I.toNat, none⟩)) (w' := (W4.setCell ⟨G, P.toNat, none⟩ (.int .i64 A1))) (by rw [List.getElem?_toArray]; rfl) wU (by first | (go_simp; done) | (go_simp; rfl) | (simp [execOp, Act.eval, Result.andThen]; done)) ?_
          refine ⟨⟨hS5.b, (hS5.blk 0 rfl).1⟩, ?_⟩
          go_frame
          refine wpAnyC_on [21] kR (by simp) ?_
          simp only [List.forall_mem_cons, List.not_mem_nil, false_implies, implies_true, and_true]
          refine wpOp_of_list (by rw [List.getElem?_toArray]; rfl) ?_
          refine wpList_stoAt (sto_int A0 _ _) wU wU hcI5 hfI5 ?_
          refine ⟨⟨hS6.b, (hS6.blk 0 rfl).1⟩, ?_⟩
          go_frame
          refine wpAnyC_rest [] [] rfl rfl kR kR kR ⟨hS6.b, (hS6.blk 0 rfl).1⟩ ?_
          unfold wpPure
          refine of_wpList_nil (P := Tryz.prog) (ops := #[]) ?_
          show wpList _ _ _ _ _ ((W4.setCell ⟨G, P.toNat, none⟩ (.int .i64 A1)).setCell ⟨G, I.toNat, none⟩ (.int .i64 A0))
          generalize ((W4.setCell ⟨G, P.toNat, none⟩ (.int .i64 A1)).setCell ⟨G, I.toNat, none⟩ (.int .i64 A0)) = w6 at *
          clear hS5 hS4 hcP hfP hcI5 hfI5 hcI q4
          go_wp2_with fail
          exact ⟨⟨j + 1, v2, by omega, by go_num, by rw [HSEEN.out, HROW.out]; exact hS6⟩, by simp [intOf]; omega⟩
        ·as_aux_lemma =>
         refine wpOp_value (v := .int .i64 AO) (w' := (wr.drew)) (by rw [List.getElem?_toArray]; rfl) wU (by first | (go_simp; done) | (go_simp; rfl) | (simp [execOp, Act.eval, Result.andThen]; done)) ?_
         refine ⟨hSd.b, ?_⟩
         go_frame
         refine wpAnyC_on [1, 10] kR (by simp) ?_
         simp only [List.forall_mem_cons, List.not_mem_nil, false_implies, implies_true, and_true]
         refine ⟨?_, ?_⟩
         ·as_aux_lemma =>
          refine wpOp_value (v := sv) (w' := (wr.drew)) (by rw [List.getElem?_toArray]; rfl) wU (by first | (go_simp; done) | (go_simp; rfl) | (simp [execOp, Act.eval, Result.andThen]; done)) ?_
          refine ⟨hSd.b, ?_⟩
          go_frame
          refine wpAnyC_on [10] kR (by simp) ?_
          simp only [List.forall_mem_cons, List.not_mem_nil, false_implies, implies_true, and_true]
          refine wpOp_value (v := .slice (some ⟨(wr.drew).heap.size, 0, none⟩) 1 1) (w' := ((wr.drew).alloc (.cells #[.int .i64 AO] 3))) (by rw [List.getElem?_toArray]; rfl) wU (by first | (go_simp; done) | (go_simp; rfl) | (simp [execOp, Act.eval, Result.andThen]; done)) ?_
          refine ⟨(hSd.al _).b, ?_⟩
          go_frame
          refine wpAnyC_on [11] kR (by simp) ?_
          simp only [List.forall_mem_cons, List.not_mem_nil, false_implies, implies_true, and_true]
          refine wpOp_of_list (by rw [List.getElem?_toArray]; rfl) ?_
          ((with_reducible refine wpList_pushL (y := AO) 1 E_ints wU wU (hSd) wU cIntO ⟨rfl, rfl⟩ (by first | with_unfolding_all rfl | simp) wU (by first | omega | (simp; omega)) (by first | omega | (simp; omega)) ?_); intro v2 w2 hS2)
          refine ⟨hS2.b, ?_⟩
          go_frame
          refine wpAnyC_on [12] kR (by simp) ?_
          simp only [List.forall_mem_cons, List.not_mem_nil, false_implies, implies_true, and_true]
          refine wpOp_value (v := .pointer (some ⟨B, 0, none⟩)) (w' := w2) (by rw [List.getElem?_toArray]; rfl) wU (by first | (go_simp; done) | (go_simp; rfl) | (simp [execOp, Act.eval, Result.andThen]; done)) ?_
          refine ⟨hS2.b, ?_⟩
          go_frame
          refine wpAnyC_on [13] kR (by simp) ?_
          simp only [List.forall_mem_cons, List.not_mem_nil, false_implies, implies_true, and_true]
          refine wpOp_of_list (by rw [List.getElem?_toArray]; rfl) ?_
          refine wpList_stoAt (sto_slV v2 (isSl hS2 1 rfl) _ _) wU wU (hS2.cell 0 rfl 0 rfl) (hS2.frozen 0 rfl 0) ?_
          have hS3 := hS2.set 0 rfl 0 v2
          refine ⟨hS3.b, ?_⟩
          go_frame
          refine wpAnyC_rest [] [] rfl rfl kR kR kR hS3.b ?_
          unfold wpPure
          refine of_wpList_nil (P := Tryz.prog) (ops := #[]) ?_
          replace hS3 : SL w.heap.size w (w2.setCell ⟨B, 0, none⟩ v2) [pBlk B (.cells #[v2, .slice (some ⟨G, 0, none⟩) n cf] 63), pOwn cInt 1 3 v2 (SE ++ [AO]), pOwn cInt 1 3 (.slice (some ⟨G, 0, none⟩) n cf) row, pBlk w.heap.size (.cells #[.slice none 0 0, .slice none 0 0] 63)] := hS3
          show wpList _ _ _ _ _ (w2.setCell ⟨B, 0, none⟩ v2)
          obtain ⟨W3, hW3⟩ : ∃ W3, W3 = w2.setCell ⟨B, 0, none⟩ v2 := ⟨_, rfl⟩
          rw [← hW3] at hS3 ⊢
          clear hW3 hSd c0 c1 cO qA hwPO hwP1
          have q3 := (hS3.blk 0 rfl).1
          have kc : ∀ V : World, (Below w.heap.size w V ∧ V.heap[B]? = some (.cells #[v2, .slice (some ⟨G, 0, none⟩) n cf] 63)) → V.cell? ⟨B, 1, none⟩ = some (.slice (some ⟨G, 0, none⟩) n cf) := fun V h => by simp [World.cell?, h.2]
          clear hS2
          go_wp2_with fail
          refine wp_regionK (C := (fun V => Below w.heap.size w V ∧ V.heap[B]? = some (.cells #[v2, .slice (some ⟨G, 0, none⟩) n cf] 63))) [0, 1, 2, 3, 4, 5, 6, 7, 8, 9, 10, 12, 13, 14, 15, 16] [_, _, _, _, _, _, _, _, _, _, _, _, _, _, _, _] 6 (by simp only [List.map_cons, List.map_nil, List.getElem?_toArray]; rfl) rfl kR kR kR (⟨hS3.b.drew, q3⟩) ?_
          refine ⟨.pointer (some ⟨B, 1, none⟩), yieldsK_val wU (fun w' => by first | (go_simp; done) | (go_simp; rfl)), ?_⟩
          go_frame
          refine ⟨_, yieldsK_cellC F_sl (fun V h => kc V h) wU wU, ?_⟩
          go_frame
          refine ⟨.int .i64 I, yieldsK_val wU (fun w' => by first | (go_simp; done) | (go_simp; rfl)), ?_⟩
          go_frame
          refine ⟨.int .i64 P, yieldsK_val wU (fun w' => by first | (go_simp; done) | (go_simp; rfl)), ?_⟩
          go_frame
          refine ⟨.pointer (some ⟨B, 1, none⟩), yieldsK_val wU (fun w' => by first | (go_simp; done) | (go_simp; rfl)), ?_⟩
          go_frame
          refine ⟨_, yieldsK_cellC F_sl (fun V h => kc V h) wU wU, ?_⟩
          go_frame
          refine ⟨.int .i64 I, yieldsK_val wU (fun w' => by first | (go_simp; done) | (go_simp; rfl)), ?_⟩
          go_frame
          refine ⟨.pointer (some ⟨B, 1, none⟩), yieldsK_val wU (fun w' => by first | (go_simp; done) | (go_simp; rfl)), ?_⟩
          go_frame
          refine ⟨_, yieldsK_cellC F_sl (fun V h => kc V h) wU wU, ?_⟩
          go_frame
          refine ⟨.int .i64 I, yieldsK_val wU (fun w' => by first | (go_simp; done) | (go_simp; rfl)), ?_⟩
          go_frame
          refine ⟨.pointer (some ⟨G, I.toNat, none⟩), yieldsK_val wU (fun w' => by first | (go_simp; done) | (go_simp; rfl)), ?_⟩
          go_frame
          refine ⟨.pointer (some ⟨B, 1, none⟩), yieldsK_val wU (fun w' => by first | (go_simp; done) | (go_simp; rfl)), ?_⟩
          go_frame
          refine ⟨_, yieldsK_cellC F_sl (fun V h => kc V h) wU wU, ?_⟩
          go_frame
          refine ⟨.int .i64 I, yieldsK_val wU (fun w' => by first | (go_simp; done) | (go_simp; rfl)), ?_⟩
          go_frame
          refine ⟨.int .i64 P, yieldsK_val wU (fun w' => by first | (go_simp; done) | (go_simp; rfl)), ?_⟩
          go_frame
          refine ⟨.pointer (some ⟨G, P.toNat, none⟩), yieldsK_val wU (fun w' => by first | (go_simp; done) | (go_simp; rfl)), ?_⟩
          go_frame
          unfold wpPureK
          have hVd : ({ W3 with drawn := W3.drawn + 1 } : World) = W3.drew := rfl
          rw [hVd]
          clear hVd
          obtain ⟨W4, hW4⟩ : ∃ W4, W4 = W3.drew := ⟨_, rfl⟩
          have hS4 : SL w.heap.size w W4 [pBlk B (.cells #[v2, .slice (some ⟨G, 0, none⟩) n cf] 63), pOwn cInt 1 3 v2 (SE ++ [AO]), pOwn cInt 1 3 (.slice (some ⟨G, 0, none⟩) n cf) row, pBlk w.heap.size (.cells #[.slice none 0 0, .slice none 0 0] 63)] := by rw [hW4]; exact hS3.drew
          rw [← hW4]
          clear hW4 hS3 q3 kc
          have q4 := (hS4.blk 0 rfl).1
          obtain ⟨g0, eg0, -, hcI, -, -⟩ := hS4.setOwn cInt1 2 rfl I hI0 hI2 0
          cases eg0
          obtain ⟨g1, eg1, -, hcP, hfP, hS5⟩ := hS4.setOwn cInt1 2 rfl P hP0 hP2 A1
          cases eg1
          obtain ⟨g2, eg2, -, hcI5, hfI5, hS6⟩ := hS5.setOwn cInt1 2 rfl I hI0 (by rw [List.length_set]; exact hI2) A0
          cases eg2
          rw [HA1.out] at hcI
          rw [HA0.out] at hcP
          rw [HI5.out] at hcI5
          replace hS6 : SL w.heap.size w ((W4.setCell ⟨G, P.toNat, none⟩ (.int .i64 A1)).setCell ⟨G, I.toNat, none⟩ (.int .i64 A0)) [pBlk B (.cells #[v2, .slice (some ⟨G, 0, none⟩) n cf] 63), pOwn cInt 1 3 v2 (SE ++ [AO]), pOwn cInt 1 3 (.slice (some ⟨G, 0, none⟩) n cf) ((row.set P.toNat A1).set I.toNat A0), pBlk w.heap.size (.cells #[.slice none 0 0, .slice none 0 0] 63)] := hS6
          refine wpAnyC_on [11, 17] kR (by simp) ?_
          simp only [List.forall_mem_cons, List.not_mem_nil, false_implies, implies_true, and_true]
          refine ⟨?_, ?_⟩
          ·as_aux_lemma =>
           refine wpOp_value (v := .int .i64 A1) (w' := W4) (by rw [List.getElem?_toArray]; rfl) wU (by first | (go_simp; done) | (go_simp; rfl) | (simp [execOp, Act.eval, Result.andThen]; done)) ?_
           refine ⟨⟨hS4.b, q4⟩, ?_⟩
           go_frame
           refine wpAnyC_on [17] kR (by simp) ?_
           simp only [List.forall_mem_cons, List.not_mem_nil, false_implies, implies_true, and_true]
           refine wpOp_value (v := .int .i64 A0) (w' := W4) (by rw [List.getElem?_toArray]; rfl) wU (by first | (go_simp; done) | (go_simp; rfl) | (simp [execOp, Act.eval, Result.andThen]; done)) ?_
           refine ⟨⟨hS4.b, q4⟩, ?_⟩
           go_frame
           refine wpAnyC_on [18] kR (by simp) ?_
           simp only [List.forall_mem_cons, List.not_mem_nil, false_implies, implies_true, and_true]
           refine wpOp_value (v := .pointer (some ⟨G, P.toNat, none⟩)) (w' := W4) (by rw [List.getElem?_toArray]; rfl) wU (by first | (go_simp; done) | (go_simp; rfl) | (simp [execOp, Act.eval, Result.andThen]; done)) ?_
           refine ⟨⟨hS4.b, q4⟩, ?_⟩
           go_frame
           refine wpAnyC_on [19] kR (by simp) ?_
           simp only [List.forall_mem_cons, List.not_mem_nil, false_implies, implies_true, and_true]
           refine wpOp_of_list (by rw [List.getElem?_toArray]; rfl) ?_
           refine wpList_stoAt (sto_int A1 _ _) wU wU hcP hfP ?_
           refine ⟨⟨hS5.b, (hS5.blk 0 rfl).1⟩, ?_⟩
           go_frame
           refine wpAnyC_on [20] kR (by simp) ?_
           simp only [List.forall_mem_cons, List.not_mem_nil, false_implies, implies_true, and_true]
           refine wpOp_value (v := .pointer (some ⟨G, I.toNat, none⟩)) (w' := (W4.setCell ⟨G, P.toNat, none⟩ (.int .i64 A1))) (by rw [List.getElem?_toArray]; rfl) wU (by first | (go_simp; done) | (go_simp; rfl) | (simp [execOp, Act.eval, Result.andThen]; done)) ?_
           refine ⟨⟨hS5.b, (hS5.blk 0 rfl).1⟩, ?_⟩
           go_frame
           refine wpAnyC_on [21] kR (by simp) ?_
           simp only [List.forall_mem_cons, List.not_mem_nil, false_implies, implies_true, and_true]
           refine wpOp_of_list (by rw [List.getElem?_toArray]; rfl) ?_
           refine wpList_stoAt (sto_int A0 _ _) wU wU hcI5 hfI5 ?_
           refine ⟨⟨hS6.b, (hS6.blk 0 rfl).1⟩, ?_⟩
           go_frame
           refine wpAnyC_rest [] [] rfl rfl kR kR kR ⟨hS6.b, (hS6.blk 0 rfl).1⟩ ?_
           unfold wpPure
           refine of_wpList_nil (P := Tryz.prog) (ops := #[]) ?_
           show wpList _ _ _ _ _ ((W4.setCell ⟨G, P.toNat, none⟩ (.int .i64 A1)).setCell ⟨G, I.toNat, none⟩ (.int .i64 A0))
           generalize ((W4.setCell ⟨G, P.toNat, none⟩ (.int .i64 A1)).setCell ⟨G, I.toNat, none⟩ (.int .i64 A0)) = w6 at *
           clear hS5 hS4 hcP hfP hcI5 hfI5 hcI q4
           go_wp2_with fail
           exact ⟨⟨j + 1, v2, by omega, by go_num, by rw [HSEEN.out, HROW.out]; exact hS6⟩, by simp [intOf]; omega⟩
          ·as_aux_lemma =>
           refine wpOp_value (v := .int .i64 A0) (w' := W4) (by rw [List.getElem?_toArray]; rfl) wU (by first | (go_simp; done) | (go_simp; rfl) | (simp [execOp, Act.eval, Result.andThen]; done)) ?_
           refine ⟨⟨hS4.b, q4⟩, ?_⟩
           go_frame
           refine wpAnyC_on [11] kR (by simp) ?_
           simp only [List.forall_mem_cons, List.not_mem_nil, false_implies, implies_true, and_true]
           refine wpOp_value (v := .int .i64 A1) (w' := W4) (by rw [List.getElem?_toArray]; rfl) wU (by first | (go_simp; done) | (go_simp; rfl) | (simp [execOp, Act.eval, Result.andThen]; done)) ?_
           refine ⟨⟨hS4.b, q4⟩, ?_⟩
           go_frame
           refine wpAnyC_on [18] kR (by simp) ?_
           simp only [List.forall_mem_cons, List.not_mem_nil, false_implies, implies_true, and_true]
           refine wpOp_value (v := .pointer (some ⟨G, P.toNat, none⟩)) (w' := W4) (by rw [List.getElem?_toArray]; rfl) wU (by first | (go_simp; done) | (go_simp; rfl) | (simp [execOp, Act.eval, Result.andThen]; done)) ?_
           refine ⟨⟨hS4.b, q4⟩, ?_⟩
           go_frame
           refine wpAnyC_on [19] kR (by simp) ?_
           simp only [List.forall_mem_cons, List.not_mem_nil, false_implies, implies_true, and_true]
           refine wpOp_of_list (by rw [List.getElem?_toArray]; rfl) ?_
           refine wpList_stoAt (sto_int A1 _ _) wU wU hcP hfP ?_
           refine ⟨⟨hS5.b, (hS5.blk 0 rfl).1⟩, ?_⟩
           go_frame
           refine wpAnyC_on [20] kR (by simp) ?_
           simp only [List.forall_mem_cons, List.not_mem_nil, false_implies, implies_true, and_true]
           refine wpOp_value (v := .pointer (some ⟨G, I.toNat, none⟩)) (w' := (W4.setCell ⟨G, P.toNat, none⟩ (.int .i64 A1))) (by rw [List.getElem?_toArray]; rfl) wU (by first | (go_simp; done) | (go_simp; rfl) | (simp [execOp, Act.eval, Result.andThen]; done)) ?_
           refine ⟨⟨hS5.b, (hS5.blk 0 rfl).1⟩, ?_⟩
           go_frame
           refine wpAnyC_on [21] kR (by simp) ?_
           simp only [List.forall_mem_cons, List.not_mem_nil, false_implies, implies_true, and_true]
           refine wpOp_of_list (by rw [List.getElem?_toArray]; rfl) ?_
           refine wpList_stoAt (sto_int A0 _ _) wU wU hcI5 hfI5 ?_
           refine ⟨⟨hS6.b, (hS6.blk 0 rfl).1⟩, ?_⟩
           go_frame
           refine wpAnyC_rest [] [] rfl rfl kR kR kR ⟨hS6.b, (hS6.blk 0 rfl).1⟩ ?_
           unfold wpPure
           refine of_wpList_nil (P := Tryz.prog) (ops := #[]) ?_
           show wpList _ _ _ _ _ ((W4.setCell ⟨G, P.toNat, none⟩ (.int .i64 A1)).setCell ⟨G, I.toNat, none⟩ (.int .i64 A0))
           generalize ((W4.setCell ⟨G, P.toNat, none⟩ (.int .i64 A1)).setCell ⟨G, I.toNat, none⟩ (.int .i64 A0)) = w6 at *
           clear hS5 hS4 hcP hfP hcI5 hfI5 hcI q4
           go_wp2_with fail
           exact ⟨⟨j + 1, v2, by omega, by go_num, by rw [HSEEN.out, HROW.out]; exact hS6⟩, by simp [intOf]; omega⟩
         ·as_aux_lemma =>
          refine wpOp_value (v := .slice (some ⟨(wr.drew).heap.size, 0, none⟩) 1 1) (w' := ((wr.drew).alloc (.cells #[.int .i64 AO] 3))) (by rw [List.getElem?_toArray]; rfl) wU (by first | (go_simp; done) | (go_simp; rfl) | (simp [execOp, Act.eval, Result.andThen]; done)) ?_
          refine ⟨(hSd.al _).b, ?_⟩
          go_frame
          refine wpAnyC_on [1] kR (by simp) ?_
          simp only [List.forall_mem_cons, List.not_mem_nil, false_implies, implies_true, and_true]
          refine wpOp_of_list (by rw [List.getElem?_toArray]; rfl) ?_
          refine wpList_ldB F_sl wU wU qA wU ?_
          refine ⟨(hSd.al _).b, ?_⟩
          go_frame
          refine wpAnyC_on [11] kR (by simp) ?_
          simp only [List.forall_mem_cons, List.not_mem_nil, false_implies, implies_true, and_true]
          refine wpOp_of_list (by rw [List.getElem?_toArray]; rfl) ?_
          ((with_reducible refine wpList_pushL (y := AO) 1 E_ints wU wU (hSd) wU cIntO ⟨rfl, rfl⟩ (by first | with_unfolding_all rfl | simp) wU (by first | omega | (simp; omega)) (by first | omega | (simp; omega)) ?_); intro v2 w2 hS2)
          refine ⟨hS2.b, ?_⟩
          go_frame
          refine wpAnyC_on [12] kR (by simp) ?_
          simp only [List.forall_mem_cons, List.not_mem_nil, false_implies, implies_true, and_true]
          refine wpOp_value (v := .pointer (some ⟨B, 0, none⟩)) (w' := w2) (by rw [List.getElem?_toArray]; rfl) wU (by first | (go_simp; done) | (go_simp; rfl) | (simp [execOp, Act.eval, Result.andThen]; done)) ?_
          refine ⟨hS2.b, ?_⟩
          go_frame
          refine wpAnyC_on [13] kR (by simp) ?_
          simp only [List.forall_mem_cons, List.not_mem_nil, false_implies, implies_true, and_true]
          refine wpOp_of_list (by rw [List.getElem?_toArray]; rfl) ?_
          refine wpList_stoAt (sto_slV v2 (isSl hS2 1 rfl) _ _) wU wU (hS2.cell 0 rfl 0 rfl) (hS2.frozen 0 rfl 0) ?_
          have hS3 := hS2.set 0 rfl 0 v2
          refine ⟨hS3.b, ?_⟩
          go_frame
          refine wpAnyC_rest [] [] rfl rfl kR kR kR hS3.b ?_
          unfold wpPure
          refine of_wpList_nil (P := Tryz.prog) (ops := #[]) ?_
          replace hS3 : SL w.heap.size w (w2.setCell ⟨B, 0, none⟩ v2) [pBlk B (.cells #[v2, .slice (some ⟨G, 0, none⟩) n cf] 63), pOwn cInt 1 3 v2 (SE ++ [AO]), pOwn cInt 1 3 (.slice (some ⟨G, 0, none⟩) n cf) row, pBlk w.heap.size (.cells #[.slice none 0 0, .slice none 0 0] 63)] := hS3
          show wpList _ _ _ _ _ (w2.setCell ⟨B, 0, none⟩ v2)
          obtain ⟨W3, hW3⟩ : ∃ W3, W3 = w2.setCell ⟨B, 0, none⟩ v2 := ⟨_, rfl⟩
          rw [← hW3] at hS3 ⊢
          clear hW3 hSd c0 c1 cO qA hwPO hwP1
          have q3 := (hS3.blk 0 rfl).1
          have kc : ∀ V : World, (Below w.heap.size w V ∧ V.heap[B]? = some (.cells #[v2, .slice (some ⟨G, 0, none⟩) n cf] 63)) → V.cell? ⟨B, 1, none⟩ = some (.slice (some ⟨G, 0, none⟩) n cf) := fun V h => by simp [World.cell?, h.2]
          clear hS2
          go_wp2_with fail
          refine wp_regionK (C := (fun V => Below w.heap.size w V ∧ V.heap[B]? = some (.cells #[v2, .slice (some ⟨G, 0, none⟩) n cf] 63))) [0, 1, 2, 3, 4, 5, 6, 7, 8, 9, 10, 12, 13, 14, 15, 16] [_, _, _, _, _, _, _, _, _, _, _, _, _, _, _, _] 6 (by simp only [List.map_cons, List.map_nil, List.getElem?_toArray]; rfl) rfl kR kR kR (⟨hS3.b.drew, q3⟩) ?_
          refine ⟨.pointer (some ⟨B, 1, none⟩), yieldsK_val wU (fun w' => by first | (go_simp; done) | (go_simp; rfl)), ?_⟩
          go_frame
          refine ⟨_, yieldsK_cellC F_sl (fun V h => kc V h) wU wU, ?_⟩
          go_frame
          refine ⟨.int .i64 I, yieldsK_val wU (fun w' => by first | (go_simp; done) | (go_simp; rfl)), ?_⟩
          go_frame
          refine ⟨.int .i64 P, yieldsK_val wU (fun w' => by first | (go_simp; done) | (go_simp; rfl)), ?_⟩
          go_frame
          refine ⟨.pointer (some ⟨B, 1, none⟩), yieldsK_val wU (fun w' => by first | (go_simp; done) | (go_simp; rfl)), ?_⟩
          go_frame
          refine ⟨_, yieldsK_cellC F_sl (fun V h => kc V h) wU wU, ?_⟩
          go_frame
          refine ⟨.int .i64 I, yieldsK_val wU (fun w' => by first | (go_simp; done) | (go_simp; rfl)), ?_⟩
          go_frame
          refine ⟨.pointer (some ⟨B, 1, none⟩), yieldsK_val wU (fun w' => by first | (go_simp; done) | (go_simp; rfl)), ?_⟩
          go_frame
          refine ⟨_, yieldsK_cellC F_sl (fun V h => kc V h) wU wU, ?_⟩
          go_frame
          refine ⟨.int .i64 I, yieldsK_val wU (fun w' => by first | (go_simp; done) | (go_simp; rfl)), ?_⟩
          go_frame
          refine ⟨.pointer (some ⟨G, I.toNat, none⟩), yieldsK_val wU (fun w' => by first | (go_simp; done) | (go_simp; rfl)), ?_⟩
          go_frame
          refine ⟨.pointer (some ⟨B, 1, none⟩), yieldsK_val wU (fun w' => by first | (go_simp; done) | (go_simp; rfl)), ?_⟩
          go_frame
          refine ⟨_, yieldsK_cellC F_sl (fun V h => kc V h) wU wU, ?_⟩
          go_frame
          refine ⟨.int .i64 I, yieldsK_val wU (fun w' => by first | (go_simp; done) | (go_simp; rfl)), ?_⟩
          go_frame
          refine ⟨.int .i64 P, yieldsK_val wU (fun w' => by first | (go_simp; done) | (go_simp; rfl)), ?_⟩
          go_frame
          refine ⟨.pointer (some ⟨G, P.toNat, none⟩), yieldsK_val wU (fun w' => by first | (go_simp; done) | (go_simp; rfl)), ?_⟩
          go_frame
          unfold wpPureK
          have hVd : ({ W3 with drawn := W3.drawn + 1 } : World) = W3.drew := rfl
          rw [hVd]
          clear hVd
          obtain ⟨W4, hW4⟩ : ∃ W4, W4 = W3.drew := ⟨_, rfl⟩
          have hS4 : SL w.heap.size w W4 [pBlk B (.cells #[v2, .slice (some ⟨G, 0, none⟩) n cf] 63), pOwn cInt 1 3 v2 (SE ++ [AO]), pOwn cInt 1 3 (.slice (some ⟨G, 0, none⟩) n cf) row, pBlk w.heap.size (.cells #[.slice none 0 0, .slice none 0 0] 63)] := by rw [hW4]; exact hS3.drew
          rw [← hW4]
          clear hW4 hS3 q3 kc
          have q4 := (hS4.blk 0 rfl).1
          obtain ⟨g0, eg0, -, hcI, -, -⟩ := hS4.setOwn cInt1 2 rfl I hI0 hI2 0
          cases eg0
          obtain ⟨g1, eg1, -, hcP, hfP, hS5⟩ := hS4.setOwn cInt1 2 rfl P hP0 hP2 A1
          cases eg1
          obtain ⟨g2, eg2, -, hcI5, hfI5, hS6⟩ := hS5.setOwn cInt1 2 rfl I hI0 (by rw [List.length_set]; exact hI2) A0
          cases eg2
          rw [HA1.out] at hcI
          rw [HA0.out] at hcP
          rw [HI5.out] at hcI5
          replace hS6 : SL w.heap.size w ((W4.setCell ⟨G, P.toNat, none⟩ (.int .i64 A1)).setCell ⟨G, I.toNat, none⟩ (.int .i64 A0)) [pBlk B (.cells #[v2, .slice (some ⟨G, 0, none⟩) n cf] 63), pOwn cInt 1 3 v2 (SE ++ [AO]), pOwn cInt 1 3 (.slice (some ⟨G, 0, none⟩) n cf) ((row.set P.toNat A1).set I.toNat A0), pBlk w.heap.size (.cells #[.slice none 0 0, .slice none 0 0] 63)] := hS6
          refine wpAnyC_on [11, 17] kR (by simp) ?_
          simp only [List.forall_mem_cons, List.not_mem_nil, false_implies, implies_true, and_true]
          refine ⟨?_, ?_⟩
          ·as_aux_lemma =>
           refine wpOp_value (v := .int .i64 A1) (w' := W4) (by rw [List.getElem?_toArray]; rfl) wU (by first | (go_simp; done) | (go_simp; rfl) | (simp [execOp, Act.eval, Result.andThen]; done)) ?_
           refine ⟨⟨hS4.b, q4⟩, ?_⟩
           go_frame
           refine wpAnyC_on [17] kR (by simp) ?_
           simp only [List.forall_mem_cons, List.not_mem_nil, false_implies, implies_true, and_true]
           refine wpOp_value (v := .int .i64 A0) (w' := W4) (by rw [List.getElem?_toArray]; rfl) wU (by first | (go_simp; done) | (go_simp; rfl) | (simp [execOp, Act.eval, Result.andThen]; done)) ?_
           refine ⟨⟨hS4.b, q4⟩, ?_⟩
           go_frame
           refine wpAnyC_on [18] kR (by simp) ?_
           simp only [List.forall_mem_cons, List.not_mem_nil, false_implies, implies_true, and_true]
           refine wpOp_value (v := .pointer (some ⟨G, P.toNat, none⟩)) (w' := W4) (by rw [List.getElem?_toArray]; rfl) wU (by first | (go_simp; done) | (go_simp; rfl) | (simp [execOp, Act.eval, Result.andThen]; done)) ?_
           refine ⟨⟨hS4.b, q4⟩, ?_⟩
           go_frame
           refine wpAnyC_on [19] kR (by simp) ?_
           simp only [List.forall_mem_cons, List.not_mem_nil, false_implies, implies_true, and_true]
           refine wpOp_of_list (by rw [List.getElem?_toArray]; rfl) ?_
           refine wpList_stoAt (sto_int A1 _ _) wU wU hcP hfP ?_
           refine ⟨⟨hS5.b, (hS5.blk 0 rfl).1⟩, ?_⟩
           go_frame
           refine wpAnyC_on [20] kR (by simp) ?_
           simp only [List.forall_mem_cons, List.not_mem_nil, false_implies, implies_true, and_true]
           refine wpOp_value (v := .pointer (some ⟨G, I.toNat, none⟩)) (w' := (W4.setCell ⟨G, P.toNat, none⟩ (.int .i64 A1))) (by rw [List.getElem?_toArray]; rfl) wU (by first | (go_simp; done) | (go_simp; rfl) | (simp [execOp, Act.eval, Result.andThen]; done)) ?_
           refine ⟨⟨hS5.b, (hS5.blk 0 rfl).1⟩, ?_⟩
           go_frame
           refine wpAnyC_on [21] kR (by simp) ?_
           simp only [List.forall_mem_cons, List.not_mem_nil, false_implies, implies_true, and_true]
           refine wpOp_of_list (by rw [List.getElem?_toArray]; rfl) ?_
           refine wpList_stoAt (sto_int A0 _ _) wU wU hcI5 hfI5 ?_
           refine ⟨⟨hS6.b, (hS6.blk 0 rfl).1⟩, ?_⟩
           go_frame
           refine wpAnyC_rest [] [] rfl rfl kR kR kR ⟨hS6.b, (hS6.blk 0 rfl).1⟩ ?_
           unfold wpPure
           refine of_wpList_nil (P := Tryz.prog) (ops := #[]) ?_
           show wpList _ _ _ _ _ ((W4.setCell ⟨G, P.toNat, none⟩ (.int .i64 A1)).setCell ⟨G, I.toNat, none⟩ (.int .i64 A0))
           generalize ((W4.setCell ⟨G, P.toNat, none⟩ (.int .i64 A1)).setCell ⟨G, I.toNat, none⟩ (.int .i64 A0)) = w6 at *
           clear hS5 hS4 hcP hfP hcI5 hfI5 hcI q4
           go_wp2_with fail
           exact ⟨⟨j + 1, v2, by omega, by go_num, by rw [HSEEN.out, HROW.out]; exact hS6⟩, by simp [intOf]; omega⟩
          ·as_aux_lemma =>
           refine wpOp_value (v := .int .i64 A0) (w' := W4) (by rw [List.getElem?_toArray]; rfl) wU (by first | (go_simp; done) | (go_simp; rfl) | (simp [execOp, Act.eval, Result.andThen]; done)) ?_
           refine ⟨⟨hS4.b, q4⟩, ?_⟩
           go_frame
           refine wpAnyC_on [11] kR (by simp) ?_
           simp only [List.forall_mem_cons, List.not_mem_nil, false_implies, implies_true, and_true]
           refine wpOp_value (v := .int .i64 A1) (w' := W4) (by rw [List.getElem?_toArray]; rfl) wU (by first | (go_simp; done) | (go_simp; rfl) | (simp [execOp, Act.eval, Result.andThen]; done)) ?_
           refine ⟨⟨hS4.b, q4⟩, ?_⟩
           go_frame
           refine wpAnyC_on [18] kR (by simp) ?_
           simp only [List.forall_mem_cons, List.not_mem_nil, false_implies, implies_true, and_true]
           refine wpOp_value (v := .pointer (some ⟨G, P.toNat, none⟩)) (w' := W4) (by rw [List.getElem?_toArray]; rfl) wU (by first | (go_simp; done) | (go_simp; rfl) | (simp [execOp, Act.eval, Result.andThen]; done)) ?_
           refine ⟨⟨hS4.b, q4⟩, ?_⟩
           go_frame
           refine wpAnyC_on [19] kR (by simp) ?_
           simp only [List.forall_mem_cons, List.not_mem_nil, false_implies, implies_true, and_true]
           refine wpOp_of_list (by rw [List.getElem?_toArray]; rfl) ?_
           refine wpList_stoAt (sto_int A1 _ _) wU wU hcP hfP ?_
           refine ⟨⟨hS5.b, (hS5.blk 0 rfl).1⟩, ?_⟩
           go_frame
           refine wpAnyC_on [20] kR (by simp) ?_
           simp only [List.forall_mem_cons, List.not_mem_nil, false_implies, implies_true, and_true]
           refine wpOp_value (v := .pointer (some ⟨G, I.toNat, none⟩)) (w' := (W4.setCell ⟨G, P.toNat, none⟩ (.int .i64 A1))) (by rw [List.getElem?_toArray]; rfl) wU (by first | (go_simp; done) | (go_simp; rfl) | (simp [execOp, Act.eval, Result.andThen]; done)) ?_
           refine ⟨⟨hS5.b, (hS5.blk 0 rfl).1⟩, ?_⟩
           go_frame
           refine wpAnyC_on [21] kR (by simp) ?_
           simp only [List.forall_mem_cons, List.not_mem_nil, false_implies, implies_true, and_true]
           refine wpOp_of_list (by rw [List.getElem?_toArray]; rfl) ?_
           refine wpList_stoAt (sto_int A0 _ _) wU wU hcI5 hfI5 ?_
           refine ⟨⟨hS6.b, (hS6.blk 0 rfl).1⟩, ?_⟩
           go_frame
           refine wpAnyC_rest [] [] rfl rfl kR kR kR ⟨hS6.b, (hS6.blk 0 rfl).1⟩ ?_
           unfold wpPure
           refine of_wpList_nil (P := Tryz.prog) (ops := #[]) ?_
           show wpList _ _ _ _ _ ((W4.setCell ⟨G, P.toNat, none⟩ (.int .i64 A1)).setCell ⟨G, I.toNat, none⟩ (.int .i64 A0))
           generalize ((W4.setCell ⟨G, P.toNat, none⟩ (.int .i64 A1)).setCell ⟨G, I.toNat, none⟩ (.int .i64 A0)) = w6 at *
           clear hS5 hS4 hcP hfP hcI5 hfI5 hcI q4
           go_wp2_with fail
           exact ⟨⟨j + 1, v2, by omega, by go_num, by rw [HSEEN.out, HROW.out]; exact hS6⟩, by simp [intOf]; omega⟩
    ·have hjj : j = l.length := by omega
     rw [hjj, List.take_length] at hSr
     have hjn : ¬ ((j : Int) < (l.length : Int)) := by omega
     have hsn := (hSr.slice 1 rfl)
     obtain ⟨a1, c1, hsv, hR1⟩ := hsn
     subst hsv
     have hR2 := hSr.rd 2 rfl
     have q0 := (hSr.blk 0 rfl).1
     have hSL : (seenGo (idL n) l).length = l.length := seenGo_len _ _
     clear hjj hlt hj
     go_wp2_with (first | (with_reducible refine wpList_ldS (n := 2) (us := #[.slice a1 (seenGo (idL n) l).length c1, .slice (some ⟨G, 0, none⟩) n cf]) A_sch kR wU wU (by assumption) wU wU ?_) | ((with_reducible refine wpList_stoR (us := #[.slice a1 (seenGo (idL n) l).length c1, .slice (some ⟨G, 0, none⟩) n cf]) 3 wU wU (hSr) wU kR wU wU ?_); intro w3 hS3))
     refine bodyPost_ret (results_cell rfl rfl A_sch kR (hS3.blk 3 rfl).1) rfl ⟨_, rfl, ⟨a1, c1, some ⟨G, 0, none⟩, cf, by rw [row5_len, idL_len]; rfl, hS3.rd 1 rfl, ?_⟩, hS3.b⟩
     exact hS3.rd 2 rfl
end Go.Proofs.YtglpfpdomnllkaaGreatDoor
