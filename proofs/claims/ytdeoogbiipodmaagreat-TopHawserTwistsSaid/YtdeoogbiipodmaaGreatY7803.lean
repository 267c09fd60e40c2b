/- Contracts and plain facts that the claim uses (BsH BsI HtA LwZ BsJ TwR TwI TwS TwP). Conditions: as each one states. -/
import Derived.Test.YtdeoogbiipodmaaGreatProg
import Derived.WalkKit
import Derived.WalkSpells
import Derived.Maps.AppendAt
import Derived.Deep.Quiet
import Derived.Maps.Own
import Derived.Maps.OwnSet
import Derived.Maps.Views
import Derived.WalkLawsBesides
import Derived.Laws.EntriesVeiled
import Derived.Deep.QuietTactic
import Derived.BigQuiet
import Derived.Deep.RegionHeld3
import Derived.Deep.AppendLies
import Derived.Deep.RegionHeldLaw
import Derived.Deep.RegionLaw
import Derived.RangeFuncNested
import Derived.RangeFuncBound
import Derived.RangeFuncCalls
import Derived.RangeFuncLeaves
import Derived.RangeFuncFrom
import Derived.Shelf.Abstract
import Derived.Shelf.RegionOpen
import Derived.OwnWalkIn
import Derived.TacticsInMore
import Derived.LoopNIn
import Derived.LoopIn
import Derived.Shelf.Strings.Trim
import Derived.Shelf.Strings.SlTrimAscii
import Derived.Shelf.Strings.Repeat
import Derived.Shelf.Strings.OnBuilder
import Derived.Shelf.Strconv.Itoa1
import Derived.Shelf.Strconv.Itoa3
import Derived.Shelf.LaysM
import Derived.Ground.Names2Prog
import Derived.Lib.OthersKept
import Derived.StillTail
import Derived.Laws.Tables
import Derived.IntWalk
import Derived.Laws.CopyOwn
import Derived.BigRegion
import Derived.ChangeAlike
import Derived.Shelf.Bits.Mul64
import Derived.Lib.ItoaLen
import Derived.Lib.ItoaMem
import Derived.Sort.LoopGhostIn
import Derived.Maps.RangeWalk
import Derived.Maps.Ext
import Derived.Deep.LoopGhost
import Derived.Laws.IdiomStrings
import Derived.Sort.QuietThIn
import Derived.Lib.Split
import Derived.Lib.AtoiAll
import Derived.Lib.AppendIntMem
import Derived.Lib.SmallJoins
import Derived.LaidSub
import Derived.Lib.LaidTab
import Derived.Lib.AtoiErrMem
import Derived.Stop.LaidErr
import Derived.ReadAgain
import Derived.ChangeSlices
import Derived.OpenShut
import Derived.ProofKit
import Derived.Deep.DeepHandedRow
import Derived.Deep.SlicePairs
import Derived.Test.YtdeoogbiipodmaaGreatRows
import Derived.Test.YtdeoogbiipodmaaGreatChecked
import Derived.Lib.SliceRun
import Derived.Shelf.Spec.SlicesInsertGrow
import Derived.Test.YtdeoogbiipodmaaGreatXz01
import Derived.Test.YtdeoogbiipodmaaGreatXz02
import Derived.Test.YtdeoogbiipodmaaGreatXz03
import Derived.Test.YtdeoogbiipodmaaGreatXz04
import Derived.Test.YtdeoogbiipodmaaGreatXz05
import Derived.Test.YtdeoogbiipodmaaGreatXz06
import Derived.Test.YtdeoogbiipodmaaGreatXz07
import Derived.Test.YtdeoogbiipodmaaGreatXz08
import Derived.Test.YtdeoogbiipodmaaGreatXz09
import Derived.Test.YtdeoogbiipodmaaGreatXz10
import Derived.Test.YtdeoogbiipodmaaGreatY7801
import Derived.Test.YtdeoogbiipodmaaGreatY7802
set_option linter.all false

namespace Go.Proofs.YtdeoogbiipodmaaGreat
open Go.RowKit
set_option maxHeartbeats 8000000
set_option maxRecDepth 100000
theorem ReverseI_any {B : Nat} {w0 w : World} {G n cp : Nat} {row0 : List Int} (hS : SL B w0 w [pOwn cInt 1 3 (.slice (some ⟨G, 0, none⟩) n cp) row0]) (hn : row0.length = n) (hn2 : n ≤ 1000) :
  Calls Tryz.prog 77 #[.slice (some ⟨G, 0, none⟩) n cp] w fun r w' => (∃ v, r = .returned v) ∧ SL B w0 w' [pOwn cInt 1 3 (.slice (some ⟨G, 0, none⟩) n cp) row0.reverse] := by
 have hcap := (hS.rd 0 rfl).le
 have hmx := (hS.rd 0 rfl).max
 rw [hn] at hcap
 obtain ⟨M1, hM1⟩ : ∃ M1 : Int, M1 = (n : Int) - 1 := ⟨_, rfl⟩
 have hw1 : IntKind.i64.wrap ((n : Int) - 1) = M1 := by rw [hM1]; exact IntWalk.i64_in _ (by omega)
 have h0 := revI_zero hn
 have HN := hid hn; have HM := hid hM1
 clear hn hM1
 go_enter Tryz.func77, Tryz.ntmps77
 go_wp2_with fail
 go_loopw [2, 3] (fun iv jv wr => ∃ (k : Nat) (R : List Int) (I J : Int), iv = .int .i64 I ∧ jv = .int .i64 J ∧ I = k ∧ J = M1 - k ∧ k ≤ n ∧ RevI row0 n k R ∧ SL B w0 wr [pOwn cInt 1 3 (.slice (some ⟨G, 0, none⟩) n cp) R]) (fun iv jv _ => (n + 1 - (intOf iv).toNat))
 case atStart => exact ⟨0, row0, 0, M1, rfl, rfl, rfl, by omega, by omega, h0, hS⟩
 case round =>
  clear hS h0 hw1
  obtain ⟨k, row, I, J, rfl, rfl, hI, hJ, hkn, hrev, hSr⟩ := hrel
  have hM := HM.out
  by_cases hlt : I < J
  ·have hk : k < n - 1 - k := by omega
   have hrl : row.length = n := hrev.1
   have hstp := revI_step hrev hk
   have hI0 : 0 ≤ I := by omega
   have hJ0 : 0 ≤ J := by omega
   have hI1 : I < (n : Int) := by omega
   have hJ1 : J < (n : Int) := by omega
   have hI2 : I < (row.length : Int) := by omega
   have hJ2 : J < (row.length : Int) := by omega
   obtain ⟨A0, hA0⟩ : ∃ A, A = atD 0 row I := ⟨_, rfl⟩
   obtain ⟨A1, hA1⟩ : ∃ A, A = atD 0 row J := ⟨_, rfl⟩
   have HA0 : Hid (row[(I).toNat]?.map cInt = some (.int .i64 A0)) := hid (by rw [hA0]; exact get_mapI hI0 hI2)
   have HA1 : Hid (row[(J).toNat]?.map cInt = some (.int .i64 A1)) := hid (by rw [hA1]; exact get_mapI hJ0 hJ2)
   have HI5 : Hid ((row.set (I).toNat A1)[(J).toNat]?.map cInt = some (.int .i64 A1)) := hid (by rw [List.getElem?_set_ne (by omega)]; rw [hA1]; exact get_mapI hJ0 hJ2)
   have HSTP : Hid (RevI row0 n (k + 1) ((row.set I.toNat A1).set J.toNat A0)) := hid (by
    rw [show I.toNat = k by omega, show J.toNat = n - 1 - k by omega, hA0, hA1, hI, show J = ((n - 1 - k : Nat) : Int) by omega]
    exact hstp)
   obtain ⟨Ia, hIa⟩ : ∃ Ia : Int, Ia = I + 1 := ⟨_, rfl⟩
   obtain ⟨Ja, hJa⟩ : ∃ Ja : Int, Ja = J - 1 := ⟨_, rfl⟩
   have hw2 : IntKind.i64.wrap (I + 1) = Ia := by rw [hIa]; exact IntWalk.i64_in _ (by omega)
   have hw3 : IntKind.i64.wrap (J - 1) = Ja := by rw [hJa]; exact IntWalk.i64_in _ (by omega)
   have HI1 : Hid (Ia = ((k + 1 : Nat) : Int)) := hid (by omega)
   have HJ1 : Hid (Ja = M1 - ((k + 1 : Nat) : Int)) := hid (by omega)
   have HK1 : Hid (k + 1 ≤ n) := hid (by omega)
   have HMS : Hid (n + 1 - Ia.toNat < n + 1 - I.toNat) := hid (by omega)
   have dlt : decide (I < J) = true := decide_eq_true hlt
   clear hA0 hA1 hI hJ hM hrl hstp hrev hIa hJa hkn hk hlt
   go_wp2_with fail
   refine wp_regionK (C := (fun V => Below B w0 V)) [0, 1, 2, 3, 4, 5, 6, 8, 9, 10] [_, _, _, _, _, _, _, _, _, _] 6 (by simp only [List.map_cons, List.map_nil, List.getElem?_toArray]; rfl) rfl kR kR kR (hSr.b.drew) ?_
   refine ⟨.slice (some ⟨G, 0, none⟩) n cp, yieldsK_val wU (fun w' => by first | (go_simp; done) | (go_simp; rfl)), ?_⟩
   go_frame
   refine ⟨.int .i64 I, yieldsK_val wU (fun w' => by first | (go_simp; done) | (go_simp; rfl)), ?_⟩
   go_frame
   refine ⟨.slice (some ⟨G, 0, none⟩) n cp, yieldsK_val wU (fun w' => by first | (go_simp; done) | (go_simp; rfl)), ?_⟩
   go_frame
   refine ⟨.int .i64 J, yieldsK_val wU (fun w' => by first | (go_simp; done) | (go_simp; rfl)), ?_⟩
   go_frame
   refine ⟨.slice (some ⟨G, 0, none⟩) n cp, yieldsK_val wU (fun w' => by first | (go_simp; done) | (go_simp; rfl)), ?_⟩
   go_frame
   refine ⟨.int .i64 J, yieldsK_val wU (fun w' => by first | (go_simp; done) | (go_simp; rfl)), ?_⟩
   go_frame
   refine ⟨.pointer (some ⟨G, (J).toNat, none⟩), yieldsK_val wU (fun w' => by first | (go_simp; done) | (go_simp; rfl)), ?_⟩
   go_frame
   refine ⟨.slice (some ⟨G, 0, none⟩) n cp, yieldsK_val wU (fun w' => by first | (go_simp; done) | (go_simp; rfl)), ?_⟩
   go_frame
   refine ⟨.int .i64 I, yieldsK_val wU (fun w' => by first | (go_simp; done) | (go_simp; rfl)), ?_⟩
   go_frame
   refine ⟨.pointer (some ⟨G, (I).toNat, none⟩), yieldsK_val wU (fun w' => by first | (go_simp; done) | (go_simp; rfl)), ?_⟩
   go_frame
   unfold wpPureK
   have hVd : ({ wr with drawn := wr.drawn + 1 } : World) = wr.drew := rfl
   rw [hVd]
   clear hVd
   obtain ⟨W4, hW4⟩ : ∃ W4, W4 = wr.drew := ⟨_, rfl⟩
   have hS4 : SL B w0 W4 [pOwn cInt 1 3 (.slice (some ⟨G, 0, none⟩) n cp) row] := by rw [hW4]; exact hSr.drew
   rw [← hW4]
   clear hW4 hSr
   obtain ⟨g0, eg0, -, hcI, -, -⟩ := hS4.setOwn cInt1 0 rfl (J) hJ0 hJ2 0
   cases eg0
   obtain ⟨g1, eg1, -, hcP, hfP, hS5⟩ := hS4.setOwn cInt1 0 rfl (I) hI0 hI2 A1
   cases eg1
   obtain ⟨g2, eg2, -, hcI5, hfI5, hS6⟩ := hS5.setOwn cInt1 0 rfl (J) hJ0 (by rw [List.length_set]; exact hJ2) A0
   cases eg2
   rw [HA1.out] at hcI
   rw [HA0.out] at hcP
   rw [HI5.out] at hcI5
   replace hS6 : SL B w0 ((W4.setCell ⟨G, (I).toNat, none⟩ (.int .i64 A1)).setCell ⟨G, (J).toNat, none⟩ (.int .i64 A0)) [pOwn cInt 1 3 (.slice (some ⟨G, 0, none⟩) n cp) ((row.set (I).toNat A1).set (J).toNat A0)] := hS6
   refine wpAnyC_on [7, 11] kR (by simp) ?_
   simp only [List.forall_mem_cons, List.not_mem_nil, false_implies, implies_true, and_true]
   refine ⟨?_, ?_⟩
   ·as_aux_lemma =>
    refine wpOp_value (v := .int .i64 A1) (w' := W4) (by rw [List.getElem?_toArray]; rfl) wU (by first | (go_simp; done) | (go_simp; rfl) | (simp [execOp, Act.eval, Result.andThen]; done)) ?_
    refine ⟨hS4.b, ?_⟩
    go_frame
    refine wpAnyC_on [11] kR (by simp) ?_
    simp only [List.forall_mem_cons, List.not_mem_nil, false_implies, implies_true, and_true]
    refine wpOp_value (v := .int .i64 A0) (w' := W4) (by rw [List.getElem?_toArray]; rfl) wU (by first | (go_simp; done) | (go_simp; rfl) | (simp [execOp, Act.eval, Result.andThen]; done)) ?_
    refine ⟨hS4.b, ?_⟩
    go_frame
    refine wpAnyC_on [12] kR (by simp) ?_
    simp only [List.forall_mem_cons, List.not_mem_nil, false_implies, implies_true, and_true]
    refine wpOp_value (v := .pointer (some ⟨G, (I).toNat, none⟩)) (w' := W4) (by rw [List.getElem?_toArray]; rfl) wU (by first | (go_simp; done) | (go_simp; rfl) | (simp [execOp, Act.eval, Result.andThen]; done)) ?_
    refine ⟨hS4.b, ?_⟩
    go_frame
    refine wpAnyC_on [13] kR (by simp) ?_
    simp only [List.forall_mem_cons, List.not_mem_nil, false_implies, implies_true, and_true]
    refine wpOp_of_list (by rw [List.getElem?_toArray]; rfl) ?_
    refine wpList_stoAt (sto_int A1 _ _) wU wU hcP hfP ?_
    refine ⟨hS5.b, ?_⟩
    go_frame
    refine wpAnyC_on [14] kR (by simp) ?_
    simp only [List.forall_mem_cons, List.not_mem_nil, false_implies, implies_true, and_true]
    refine wpOp_value (v := .pointer (some ⟨G, (J).toNat, none⟩)) (w' := (W4.setCell ⟨G, (I).toNat, none⟩ (.int .i64 A1))) (by rw [List.getElem?_toArray]; rfl) wU (by first | (go_simp; done) | (go_simp; rfl) | (simp [execOp, Act.eval, Result.andThen]; done)) ?_
    refine ⟨hS5.b, ?_⟩
    go_frame
    refine wpAnyC_on [15] kR (by simp) ?_
    simp only [List.forall_mem_cons, List.not_mem_nil, false_implies, implies_true, and_true]
    refine wpOp_of_list (by rw [List.getElem?_toArray]; rfl) ?_
    refine wpList_stoAt (sto_int A0 _ _) wU wU hcI5 hfI5 ?_
    refine ⟨hS6.b, ?_⟩
    go_frame
    refine wpAnyC_rest [] [] rfl rfl kR kR kR hS6.b ?_
    unfold wpPure
    refine of_wpList_nil (P := Tryz.prog) (ops := #[]) ?_
    show wpList _ _ _ _ _ ((W4.setCell ⟨G, (I).toNat, none⟩ (.int .i64 A1)).setCell ⟨G, (J).toNat, none⟩ (.int .i64 A0))
    generalize ((W4.setCell ⟨G, (I).toNat, none⟩ (.int .i64 A1)).setCell ⟨G, (J).toNat, none⟩ (.int .i64 A0)) = w6 at *
    clear hS5 hS4 hcP hfP hcI5 hfI5 hcI
    go_wp2_with fail
    exact ⟨⟨k + 1, _, Ia, Ja, rfl, rfl, HI1.out, HJ1.out, HK1.out, HSTP.out, hS6⟩, by simp only [intOf]; exact HMS.out⟩
   ·as_aux_lemma =>
    refine wpOp_value (v := .int .i64 A0) (w' := W4) (by rw [List.getElem?_toArray]; rfl) wU (by first | (go_simp; done) | (go_simp; rfl) | (simp [execOp, Act.eval, Result.andThen]; done)) ?_
    refine ⟨hS4.b, ?_⟩
    go_frame
    refine wpAnyC_on [7] kR (by simp) ?_
    simp only [List.forall_mem_cons, List.not_mem_nil, false_implies, implies_true, and_true]
    refine wpOp_value (v := .int .i64 A1) (w' := W4) (by rw [List.getElem?_toArray]; rfl) wU (by first | (go_simp; done) | (go_simp; rfl) | (simp [execOp, Act.eval, Result.andThen]; done)) ?_
    refine ⟨hS4.b, ?_⟩
    go_frame
    refine wpAnyC_on [12] kR (by simp) ?_
    simp only [List.forall_mem_cons, List.not_mem_nil, false_implies, implies_true, and_true]
    refine wpOp_value (v := .pointer (some ⟨G, (I).toNat, none⟩)) (w' := W4) (by rw [List.getElem?_toArray]; rfl) wU (by first | (go_simp; done) | (go_simp; rfl) | (simp [execOp, Act.eval, Result.andThen]; done)) ?_
    refine ⟨hS4.b, ?_⟩
    go_frame
    refine wpAnyC_on [13] kR (by simp) ?_
    simp only [List.forall_mem_cons, List.not_mem_nil, false_implies, implies_true, and_true]
    refine wpOp_of_list (by rw [List.getElem?_toArray]; rfl) ?_
    refine wpList_stoAt (sto_int A1 _ _) wU wU hcP hfP ?_
    refine ⟨hS5.b, ?_⟩
    go_frame
    refine wpAnyC_on [14] kR (by simp) ?_
    simp only [List.forall_mem_cons, List.not_mem_nil, false_implies, implies_true, and_true]
    refine wpOp_value (v := .pointer (some ⟨G, (J).toNat, none⟩)) (w' := (W4.setCell ⟨G, (I).toNat, none⟩ (.int .i64 A1))) (by rw [List.getElem?_toArray]; rfl) wU (by first | (go_simp; done) | (go_simp; rfl) | (simp [execOp, Act.eval, Result.andThen]; done)) ?_
    refine ⟨hS5.b, ?_⟩
    go_frame
    refine wpAnyC_on [15] kR (by simp) ?_
    simp only [List.forall_mem_cons, List.not_mem_nil, false_implies, implies_true, and_true]
    refine wpOp_of_list (by rw [List.getElem?_toArray]; rfl) ?_
    refine wpList_stoAt (sto_int A0 _ _) wU wU hcI5 hfI5 ?_
    refine ⟨hS6.b, ?_⟩
    go_frame
    refine wpAnyC_rest [] [] rfl rfl kR kR kR hS6.b ?_
    unfold wpPure
    refine of_wpList_nil (P := Tryz.prog) (ops := #[]) ?_
    show wpList _ _ _ _ _ ((W4.setCell ⟨G, (I).toNat, none⟩ (.int .i64 A1)).setCell ⟨G, (J).toNat, none⟩ (.int .i64 A0))
    generalize ((W4.setCell ⟨G, (I).toNat, none⟩ (.int .i64 A1)).setCell ⟨G, (J).toNat, none⟩ (.int .i64 A0)) = w6 at *
    clear hS5 hS4 hcP hfP hcI5 hfI5 hcI
    go_wp2_with fail
    exact ⟨⟨k + 1, _, Ia, Ja, rfl, rfl, HI1.out, HJ1.out, HK1.out, HSTP.out, hS6⟩, by simp only [intOf]; exact HMS.out⟩
  ·have hend := revI_end HN.out hrev (by omega) hkn
   have dlt : decide (I < J) = false := decide_eq_false hlt
   rw [hend] at hSr
   clear hI hJ hM hrev hlt hend
   go_wp2_with fail
   go_end0
   exact ⟨⟨_, rfl⟩, hSr⟩
theorem equalI_any (a a2 : Option Addr) (cap cap2 n : Nat) (l m : List Int) (w : World) (hS : Ints w a cap l) (hM : Ints w a2 cap2 m) (hl : l.length = n) (hm : m.length = n) (hn : n ≤ 1000) :
  Calls Tryz.prog 46 #[.slice a n cap, .slice a2 n cap2] w fun r w' => r = .returned (.bool (decide (l = m))) ∧ Below w.heap.size w w' := by
 have hcap := hS.le
 have hmx := hS.max
 have hcap2 := hM.le
 have hmx2 := hM.max
 obtain ⟨E, hE⟩ : ∃ E, E = decide (l = m) := ⟨_, rfl⟩
 rw [← hE]
 have HT : Hid ((∀ j : Nat, j < n → atD 0 l j = atD 0 m j) → E = true) := hid fun h => by
  rw [hE]
  refine decide_eq_true (ext_atD (by omega) fun j j0 j1 => ?_)
  have := h j.toNat (by omega)
  rw [show ((j.toNat : Nat) : Int) = j by omega] at this
  exact this
 have HF : Hid (∀ j : Nat, j < n → atD 0 l j ≠ atD 0 m j → E = false) := hid fun j hj h => by
  rw [hE]
  exact decide_eq_false fun e => h (by rw [e])
 have HL := hid hl; have HM := hid hm
 have dn : ((n : Int) != (n : Int)) = false := by simp
 clear hE hl hm
 go_enter Tryz.func46, Tryz.ntmps46
 go_wp2_with fail
 clear dn
 go_loopw [13, 5] (fun iv _ wr => ∃ k : Nat, iv = .int .i64 k ∧ k ≤ n ∧ (∀ j : Nat, j < k → atD 0 l j = atD 0 m j) ∧ Below w.heap.size w wr) (fun iv _ _ => n - (intOf iv).toNat)
 case atStart => exact ⟨0, rfl, by omega, fun j h => by omega, Below.refl _ _⟩
 case round =>
  obtain ⟨k, rfl, hk, hall, hbr⟩ := hrel
  by_cases hlt : k < n
  ·obtain ⟨X, hX⟩ : ∃ X, X = atD 0 l k := ⟨_, rfl⟩
   obtain ⟨Y, hY⟩ : ∃ Y, Y = atD 0 m k := ⟨_, rfl⟩
   have hk1 : (k : Int) < (l.length : Int) := by have := HL.out; omega
   have hk2 : (k : Int) < (m.length : Int) := by have := HM.out; omega
   have hSr := hS.below hbr
   have hMr := hM.below hbr
   have HX := hid hX; have HY := hid hY
   by_cases e : X = Y
   ·have dXY : (X != Y) = false := by simp [e]
    have HALL : Hid (∀ j : Nat, j < k + 1 → atD 0 l j = atD 0 m j) := hid fun j h => by
     by_cases e2 : j = k
     ·rw [e2, ← hX, ← hY, e]
     ·exact hall j (by omega)
    clear hX hY hall e
    go_wp2_with fail
    refine wp_region_q kR kR ?_
    repeat (first | (((with_reducible refine wpB_idx2 0 E_ints F_int cInt1 wU (HL.out) wU (hSr) oD oD (fun _ => wU) (fun _ => ?_)); (try simp only [Act.put, pA, pB, pC]); (try simp only [cInt])); rw [← HX.out]) | (((with_reducible refine wpB_idx2 0 E_ints F_int cInt1 wU (HM.out) wU (hMr) oD oD (fun _ => wU) (fun _ => ?_)); (try simp only [Act.put, pA, pB, pC]); (try simp only [cInt])); rw [← HY.out]) | (((refine wpQ_oneG ?_ wU (fun w' => ?_) ?_); rotate_left; (go_simp; rfl); (try simp only [Act.put, pA, pB, pC])); rw [dXY]) | ((refine wpQ_oneG ?_ wU (fun w' => ?_) ?_); rotate_left; (go_simp; rfl); (try simp only [Act.put, pA, pB, pC])) |  ((with_reducible refine wpB_load (by first | exact F_int | fail) wU wU (by assumption) wU ?_); (try simp only [Act.put, pA, pB, pC])) | ((with_reducible refine wpB_loadS (n := 2) (us := #[_, _]) (by fail) kR wU wU (by assumption) wU wU ?_); (try simp only [Act.put, pA, pB, pC])) | ((with_reducible refine wpB_loadS (n := 4) (us := #[_, _, _, _]) (by fail) kR wU wU (by assumption) wU wU ?_); (try simp only [Act.put, pA, pB, pC])) | ((refine wpQ_oneG ?_ wU (fun w' => ?_) ?_); rotate_left; (go_simp; rfl); (try simp only [Act.put, pA, pB, pC])))
    refine wpQuiet_nil ?_
    intro w1 hb1
    go_wp2_with fail
    exact ⟨⟨k + 1, by go_num, by omega, HALL.out, bnext hbr hb1⟩, by simp [intOf]; omega⟩
   ·have dXY : (X != Y) = true := by simp [e]
    have HE : Hid (E = false) := hid (HF.out k hlt (by rw [← hX, ← hY]; exact e))
    clear hX hY hall e
    go_wp2_with fail
    refine wp_region_q kR kR ?_
    repeat (first | (((with_reducible refine wpB_idx2 0 E_ints F_int cInt1 wU (HL.out) wU (hSr) oD oD (fun _ => wU) (fun _ => ?_)); (try simp only [Act.put, pA, pB, pC]); (try simp only [cInt])); rw [← HX.out]) | (((with_reducible refine wpB_idx2 0 E_ints F_int cInt1 wU (HM.out) wU (hMr) oD oD (fun _ => wU) (fun _ => ?_)); (try simp only [Act.put, pA, pB, pC]); (try simp only [cInt])); rw [← HY.out]) | (((refine wpQ_oneG ?_ wU (fun w' => ?_) ?_); rotate_left; (go_simp; rfl); (try simp only [Act.put, pA, pB, pC])); rw [dXY]) | ((refine wpQ_oneG ?_ wU (fun w' => ?_) ?_); rotate_left; (go_simp; rfl); (try simp only [Act.put, pA, pB, pC])) |  ((with_reducible refine wpB_load (by first | exact F_int | fail) wU wU (by assumption) wU ?_); (try simp only [Act.put, pA, pB, pC])) | ((with_reducible refine wpB_loadS (n := 2) (us := #[_, _]) (by fail) kR wU wU (by assumption) wU wU ?_); (try simp only [Act.put, pA, pB, pC])) | ((with_reducible refine wpB_loadS (n := 4) (us := #[_, _, _, _]) (by fail) kR wU wU (by assumption) wU wU ?_); (try simp only [Act.put, pA, pB, pC])) | ((refine wpQ_oneG ?_ wU (fun w' => ?_) ?_); rotate_left; (go_simp; rfl); (try simp only [Act.put, pA, pB, pC])))
    refine wpQuiet_nil ?_
    intro w1 hb1
    go_wp2_with fail
    go_ret
    exact ⟨by rw [HE.out]; rfl, bnext hbr hb1⟩
  ·have HE : Hid (E = true) := hid (HT.out fun j hj => hall j (by omega))
   have hkn : ¬ ((k : Int) < (n : Int)) := by omega
   clear hall hlt hk
   go_wp2_with fail
   go_ret
   exact ⟨by rw [HE.out]; rfl, hbr⟩
theorem reverse0_any (a : Option Addr) (cp : Nat) (w : World) : Calls Tryz.prog 77 #[.slice a 0 cp] w fun r w' => (∃ v, r = .returned v) ∧ w = w' := by
 go_enter Tryz.func77, Tryz.ntmps77
 go_wp2_with fail
 go_loopw [2, 3] (fun iv jv wr => iv = .int .i64 0 ∧ jv = .int .i64 (-1) ∧ wr = w) (fun _ _ _ => 0)
 case atStart => exact ⟨rfl, rfl, rfl⟩
 case round =>
  obtain ⟨rfl, rfl, rfl⟩ := hrel
  go_wp2_with fail
  go_end0
  exact ⟨⟨_, rfl⟩, rfl⟩
theorem rowsEq {X Y : List (List Int)} (h : X.length = Y.length) (k : ∀ j, j < X.length → nth X j = nth Y j) : X = Y := by
 refine List.ext_getElem h fun i h1 h2 => ?_
 have := k i h1
 simpa [nth, atD, h1, h2] using this
theorem eqFunc_any (n m m2 : Nat) (a a2 : Option Addr) (c c2 : Nat) (H H2 : List SlH) (X Y : List (List Int)) (w : World) (hR : Reps cSl 1 w a c H) (hR2 : Reps cSl 1 w a2 c2 H2) (hr : RowsR w n H X) (hr2 : RowsR w n H2 Y) (hX : X.length = m) (hY : Y.length = m2)
  (hXn : ∀ x ∈ X, x.length = n) (hYn : ∀ x ∈ Y, x.length = n) (hn : n ≤ 1000) :
  Calls Tryz.prog 100 #[.slice a m c, .slice a2 m2 c2, .func (.func 46) #[] #[]] w fun r w' => r = .returned (.bool (decide (X = Y))) ∧ Below w.heap.size w w' := by
 have hcap := hR.le
 have hmx := hR.max
 have hcap2 := hR2.le
 have hmx2 := hR2.max
 rw [hr.1, hX] at hcap
 rw [hr2.1, hY] at hcap2
 by_cases hm : m = m2
 ·subst hm
  obtain ⟨E, hE⟩ : ∃ E, E = decide (X = Y) := ⟨_, rfl⟩
  rw [← hE]
  have HT : Hid ((∀ j : Nat, j < m → nth X j = nth Y j) → E = true) := hid fun h => by
   rw [hE]
   exact decide_eq_true (rowsEq (by omega) (by rw [hX]; exact h))
  have HF : Hid (∀ j : Nat, j < m → nth X j ≠ nth Y j → E = false) := hid fun j hj h => by
   rw [hE]
   exact decide_eq_false fun e => h (by rw [e])
  have HC : Hid (∀ j : Nat, j < m → ∃ b d b2 d2, atD ((none, 0, 0) : SlH) H (j : Int) = (b, n, d) ∧ atD ((none, 0, 0) : SlH) H2 (j : Int) = (b2, n, d2) ∧ ∀ wr, Below w.heap.size w wr → Calls Tryz.prog 46 #[.slice b n d, .slice b2 n d2] wr fun r w' => r = .returned (.bool (decide (nth X j = nth Y j))) ∧ Below wr.heap.size wr w') := hid fun j hj => by
   obtain ⟨b, d, e, r⟩ := hr.2 j (by omega)
   obtain ⟨b2, d2, e2, r2⟩ := hr2.2 j (by omega)
   refine ⟨b, d, b2, d2, e, e2, fun wr hb => equalI_any b b2 d d2 n _ _ wr (r.below hb) (r2.below hb) ?_ ?_ hn⟩
   ·exact hXn _ (List.mem_of_getElem? (nth_some (by omega)))
   ·exact hYn _ (List.mem_of_getElem? (nth_some (by omega)))
  have HL : Hid (H.length = m) := hid (by rw [hr.1, hX]); have HL2 : Hid (H2.length = m) := hid (by rw [hr2.1, hY])
  have dn : ((m : Int) != (m : Int)) = false := by simp
  clear hE hX hY hr hr2 hXn hYn
  go_enter Tryz.func100, Tryz.ntmps100
  go_wp2_with fail
  clear dn
  go_loopw [17, 7, 8, 9] (fun iv _ _ _ wr => ∃ k : Nat, iv = .int .i64 k ∧ k ≤ m ∧ (∀ j : Nat, j < k → nth X j = nth Y j) ∧ Below w.heap.size w wr) (fun iv _ _ _ _ => m - (intOf iv).toNat)
  case atStart => exact ⟨0, rfl, by omega, fun j h => by omega, Below.refl _ _⟩
  case round =>
   obtain ⟨k, rfl, hk, hall, hbr⟩ := hrel
   by_cases hlt : k < m
   ·obtain ⟨b, d, b2, d2, e1, e2, hc⟩ := HC.out k hlt
    have hk1 : (k : Int) < (H.length : Int) := by have := HL.out; omega
    have hk2 : (k : Int) < (H2.length : Int) := by have := HL2.out; omega
    have hSr := hR.below hbr
    have hMr := hR2.below hbr
    have HE1 := hid e1; have HE2 := hid e2
    have HALL : Hid (nth X k = nth Y k → ∀ j : Nat, j < k + 1 → nth X j = nth Y j) := hid fun e j h => by
     by_cases e2 : j = k
     ·rw [e2, e]
     ·exact hall j (by omega)
    have HFK := hid (HF.out k hlt)
    have HK := hid (hc wr hbr)
    obtain ⟨D, hD⟩ : ∃ D, D = decide (nth X k = nth Y k) := ⟨_, rfl⟩
    rw [← hD] at HK
    have HD := hid hD
    clear hall e1 e2 hc hD
    go_wp2_with (first | ((with_reducible refine wpList_idxN _ ((none, 0, 0) : SlH) E_sls F_sl cSl1 wU wU (hSr) (HL.out) oD oD (fun _ => wU) (fun _ => ?_)); rw [HE1.out]) | ((with_reducible refine wpList_idxN _ ((none, 0, 0) : SlH) E_sls F_sl cSl1 wU wU (hMr) (HL2.out) oD oD (fun _ => wU) (fun _ => ?_)); rw [HE2.out]))
    refine HK.out.mono ?_
    rintro e w1 ⟨rfl, b1⟩
    cases D with
    | true =>
     have HA := hid (HALL.out (of_decide_eq_true HD.out.symm))
     go_wp2_with fail
     exact ⟨⟨k + 1, by go_num, by omega, HA.out, bnext hbr b1⟩, by simp [intOf]; omega⟩
    | false =>
     have HE := hid (HFK.out (of_decide_eq_false HD.out.symm))
     go_wp2_with fail
     go_ret
     exact ⟨by rw [HE.out]; rfl, bnext hbr b1⟩
   ·have HE : Hid (E = true) := hid (HT.out fun j hj => hall j (by omega))
    have hkn : ¬ ((k : Int) < (m : Int)) := by omega
    clear hall hlt hk
    go_wp2_with fail
    go_ret
    exact ⟨by rw [HE.out]; rfl, hbr⟩
 ·have dn : ((m : Int) != (m2 : Int)) = true := by simp; omega
  have hE : decide (X = Y) = false := decide_eq_false fun e => hm (by rw [← hX, ← hY, e])
  rw [hE]
  clear hr hr2 hX hY hXn hYn hE
  go_enter Tryz.func100, Tryz.ntmps100
  go_wp2_with fail
  go_ret
  exact ⟨rfl, Below.refl _ _⟩
end Go.Proofs.YtdeoogbiipodmaaGreat

namespace Go.Proofs.YtdeoogbiipodmaaGreat
open Go.RowKit
set_option maxHeartbeats 8000000
set_option maxRecDepth 100000
theorem formW_len {n : Nat} {l : List Int} (h : WordOk n l) : ∀ x ∈ (formW n l).2, x.length = n := fun x hx => by
 have h1 := (nfY_ok h).1.vs (word_vs h)
 have h2 : x ∈ nfY n l := (List.mem_filter.1 hx).1
 exact (h1 x h2).2
theorem same_any (n : Nat) (v1 v2 : Value) (f g : Int × List (List Int)) (w : World) (h1 : FormR w n v1 f) (h2 : FormR w n v2 g) (hf : ∀ x ∈ f.2, x.length = n) (hg : ∀ x ∈ g.2, x.length = n) (hn : n ≤ 1000) :
  Calls Tryz.prog 80 #[v1, v2] w fun r w' => r = .returned (.bool (decide (f = g))) ∧ Below w.heap.size w w' := by
 obtain ⟨a, c, H, rfl, hR, hr⟩ := h1
 obtain ⟨a2, c2, H2, rfl, hR2, hr2⟩ := h2
 obtain ⟨fh, X⟩ := f
 obtain ⟨gh, Y⟩ := g
 dsimp only at hr hr2 hf hg ⊢
 have HQ : Hid (∀ W, Below w.heap.size w W → Calls Tryz.prog 100 #[.slice a X.length c, .slice a2 Y.length c2, .func (.func 46) #[] #[]] W fun r w' => r = .returned (.bool (decide (X = Y))) ∧ Below W.heap.size W w') :=
  hid fun W hb => eqFunc_any n _ _ a a2 c c2 H H2 X Y W (hR.below hb) (hR2.below hb) (hr.below hb) (hr2.below hb) rfl rfl hf hg hn
 have hb : Below w.heap.size w ((w.alloc (.cells #[.int .i64 fh, .slice a X.length c] 33)).alloc (.cells #[.int .i64 gh, .slice a2 Y.length c2] 33)) := bal (bal (Below.refl _ _) _) _
 have hS := ((SL.nil w).box (.cells #[.int .i64 fh, .slice a X.length c] 33)).box (.cells #[.int .i64 gh, .slice a2 Y.length c2] 33)
 simp only [World.size_alloc] at hS
 obtain ⟨W, hW⟩ : ∃ W, W = ((w.alloc (.cells #[.int .i64 fh, .slice a X.length c] 33)).alloc (.cells #[.int .i64 gh, .slice a2 Y.length c2] 33)) := ⟨_, rfl⟩
 rw [← hW] at hb hS
 have cA := hS.cell 1 rfl 0 rfl
 have cB := hS.cell 1 rfl 1 rfl
 have cC := hS.cell 0 rfl 0 rfl
 have cD := hS.cell 0 rfl 1 rfl
 have HK := hid (HQ.out W hb)
 by_cases e : fh = gh
 ·subst e
  have e2 : decide ((fh, X) = (fh, Y)) = decide (X = Y) := by simp
  rw [e2]
  have de : ((fh : Int) == fh) = true := by simp
  clear e2 hR hR2 hr hr2 hf hg hS HQ
  go_enter Tryz.func80, Tryz.ntmps80
  go_wp2_with fail
  simp only [← hW]
  clear hW
  go_wp2_with fail
  refine HK.out.mono ?_
  rintro r w1 ⟨rfl, b1⟩
  go_wp2_with fail
  go_ret
  exact ⟨rfl, bnext hb b1⟩
 ·have e2 : decide ((fh, X) = (gh, Y)) = false := decide_eq_false fun h => e (by cases h; rfl)
  rw [e2]
  have de : ((fh : Int) == gh) = false := by simp [e]
  clear e2 hR hR2 hr hr2 hf hg hS HQ e HK
  go_enter Tryz.func80, Tryz.ntmps80
  go_wp2_with fail
  simp only [← hW]
  clear hW
  go_wp2_with fail
  go_ret
  exact ⟨rfl, hb⟩
theorem equal_any (n : Nat) (a a2 : Option Addr) (c c2 : Nat) (l m : List Int) (w : World) (hS : Ints w a c l) (hM : Ints w a2 c2 m) (hl : wordE (n : Int) l = 0) (hm : wordE (n : Int) m = 0) :
  Calls Tryz.prog 37 #[.int .i64 n, .slice a l.length c, .slice a2 m.length c2] w fun r w' => r = .returned (.bool (decide (formW n l = formW n m))) ∧ Below w.heap.size w w' := by
 obtain ⟨hn1, hn2, hl2, _⟩ := wordE_fits hl
 obtain ⟨_, _, hm2, _⟩ := wordE_fits hm
 have HN := hid (fun W (h : Ints W a c l) => normal_all n l.length a c l W h (word_okE hl) rfl (by omega) (by omega) (by omega))
 have HN2 := hid (fun W (h : Ints W a2 c2 m) => normal_all n m.length a2 c2 m W h (word_okE hm) rfl (by omega) (by omega) (by omega))
 have HS := hid (fun v1 v2 W (h1 : FormR W n v1 (formW n l)) (h2 : FormR W n v2 (formW n m)) => same_any n v1 v2 _ _ W h1 h2 (formW_len (word_okE hl)) (formW_len (word_okE hm)) (by omega))
 obtain ⟨f, hf⟩ : ∃ f, f = formW n l := ⟨_, rfl⟩
 obtain ⟨g, hg⟩ : ∃ g, g = formW n m := ⟨_, rfl⟩
 rw [← hf] at HN HS ⊢
 rw [← hg] at HN2 HS ⊢
 have hcap := hS.le
 have hcap2 := hM.le
 clear hf hg hl hm
 go_enter Tryz.func37, Tryz.ntmps37
 go_wp2_with fail
 refine (HN.out w hS).mono ?_
 rintro e w1 ⟨v1, rfl, r1, b1⟩
 go_wp2_with fail
 refine (HN2.out w1 (hM.below b1)).mono ?_
 rintro e w2 ⟨v2, rfl, r2, b2⟩
 go_wp2_with fail
 refine (HS.out v1 v2 w2 (r1.below b2) r2).mono ?_
 rintro e w3 ⟨rfl, b3⟩
 have t := bnext (bnext b1 b2) b3
 clear b1 b2 b3 r1 r2
 go_wp2_with fail
 go_ret
 exact ⟨rfl, t⟩
theorem checkBoth_any (n : Nat) (a a2 : Option Addr) (c c2 : Nat) (l m : List Int) (w : World) (hS : Ints w a c l) (hM : Ints w a2 c2 m) (hl : wordE (n : Int) l = 0) (hm : wordE (n : Int) m = 0) :
  Calls Tryz.prog 35 #[.int .i64 n, .slice a l.length c, .slice a2 m.length c2] w fun r w' => r = .returned (.int .i64 0) ∧ Below w.heap.size w w' := by
 obtain ⟨hn1, hn2, hl2, _⟩ := wordE_fits hl
 obtain ⟨_, _, hm2, _⟩ := wordE_fits hm
 have CW := fun w (hS : Ints w a c l) => CheckWord_any n a c l w hS (by omega)
 have CW2 := fun w (hS : Ints w a2 c2 m) => CheckWord_any n a2 c2 m w hS (by omega)
 rw [hl] at CW
 rw [hm] at CW2
 have HW := hid CW; have HW2 := hid CW2
 clear CW CW2 hl hm
 go_enter Tryz.func35, Tryz.ntmps35
 go_wp2_with fail
 refine (HW.out w hS).mono ?_
 rintro e w1 ⟨rfl, b1⟩
 go_wp2_with fail
 refine (HW2.out w1 (hM.below b1)).mono ?_
 rintro e w2 ⟨rfl, b2⟩
 have t := bnext b1 b2
 clear b1 b2
 go_wp2_with (go_at_call 38; refine (bfirst_any _ _ [_, _] _ (reps_newN cIntS [_, _] 2 rfl (by decide) _ _ (by simp) rfl)).mono ?_; rintro e w' ⟨rfl, rfl⟩)
 go_ret
 exact ⟨rfl, bal t _⟩
theorem Equal_any (n : Nat) (a a2 : Option Addr) (c c2 : Nat) (l m : List Int) (w : World) (hS : Ints w a c l) (hM : Ints w a2 c2 m) (hl : wordE (n : Int) l = 0) (hm : wordE (n : Int) m = 0) :
  Calls Tryz.prog 11 #[.int .i64 n, .slice a l.length c, .slice a2 m.length c2] w fun r w' => r = .returned (.tuple #[.bool (decide (formW n l = formW n m)), .int .i64 0]) ∧ Below w.heap.size w w' := by
 have HC := hid (fun W (h : Ints W a c l) (h2 : Ints W a2 c2 m) => checkBoth_any n a a2 c c2 l m W h h2 hl hm)
 have HE := hid (fun W (h : Ints W a c l) (h2 : Ints W a2 c2 m) => equal_any n a a2 c c2 l m W h h2 hl hm)
 obtain ⟨E, hE⟩ : ∃ E, E = decide (formW n l = formW n m) := ⟨_, rfl⟩
 rw [← hE] at HE ⊢
 clear hE hl hm
 go_enter Tryz.func11, Tryz.ntmps11
 go_wp2_with fail
 refine (HC.out w hS hM).mono ?_
 rintro e w1 ⟨rfl, b1⟩
 go_wp2_with fail
 refine (HE.out w1 (hS.below b1) (hM.below b1)).mono ?_
 rintro e w2 ⟨rfl, b2⟩
 have t := bnext b1 b2
 clear b1 b2
 go_wp2_with fail
 go_ret2
 exact ⟨rfl, t⟩
end Go.Proofs.YtdeoogbiipodmaaGreat

namespace Go.Proofs.YtdeoogbiipodmaaGreat
open Go.RowKit
set_option maxHeartbeats 8000000
set_option maxRecDepth 100000
theorem load_chk {m : MacV} {l : List Int} (hm : macE m = 0) : (if 4 * m.gears < (l.length : Int) then (5 : Int) else loadGo m [] l) = loadE m l := by
 have e : loadE m l = (if 4 * m.gears < (l.length : Int) then (5 : Int) else loadGo m [] l) := by
  unfold loadE
  rw [if_neg (by simp [hm])]
 exact e.symm
theorem tfits_ok (m : MacV) (ad al : Option Addr) (cap cl : Nat) (l : List Int) (g c : Int) (w : World) (hR : Ints w ad cap m.sw) (hL : Ints w al cl l) (h : Fits m l g c) :
  Calls Tryz.prog 4 #[mV m ad cap, .slice al l.length cl, .int .i64 g, .int .i64 c] w fun r w' => r = .returned (.bool true) ∧ Below w.heap.size w w' := by
 obtain ⟨hs, hg, hc, he⟩ := h
 have hS0 := ((SL.nil w).box (.cells (mC m ad cap) 24)).box (.cells (mC m ad cap) 45)
 simp only [World.size_alloc] at hS0
 have CSh := fun w => rShort_any m ad cap al cl l.length w
 have CM := fun w h => rCheckMachine_any m ad cap w h
 have hlc := hL.le
 rw [show (decide (m.sw.length ≤ 19) && decide (l.length ≤ 67)) = true by simp [hs]] at CSh
 have hlk := loadE_zero he
 rw [hlk.mac] at CM
 have CL := fun w h => rCheckLoad_any m ad cap al cl l w h hlk.ok.lo hlk.ok.hi
 rw [load_chk hlk.mac, he] at CL
 have HSh := hid CSh; have HM := hid CM; have HL := hid CL
 have dg : decide (m.gears ≤ g) = true := decide_eq_true hg
 have dc : decide ((l.length : Int) ≤ c) = true := decide_eq_true hc
 clear CSh CM CL he hs hg hc hlk
 go_enter Tryz.func4, Tryz.ntmps4
 go_wp2_with (first | (with_reducible refine wpList_ldB (by first | exact F_int | fail) wU wU (by assumption) wU ?_) | (with_reducible refine wpList_ldS (n := 4) (us := mC m ad cap) A_rmach kR wU wU (by assumption) wU wU ?_))
 refine (HSh.out _).mono ?_
 rintro e w1 ⟨rfl, b1⟩
 have hS1 := hS0.mono b1
 have q1_rm := (hS1.blk 0 rfl).1
 have q1_m := (hS1.blk 1 rfl).1
 clear hS0
 go_wp2_with (first | (with_reducible refine wpList_ldB (by first | exact F_int | fail) wU wU (by assumption) wU ?_) | (with_reducible refine wpList_ldS (n := 4) (us := mC m ad cap) A_rmach kR wU wU (by assumption) wU wU ?_))
 refine (HM.out _ (hR.below hS1.b)).mono ?_
 rintro e w2 ⟨rfl, b2⟩
 have hS2 := hS1.mono b2
 have q2_rm := (hS2.blk 0 rfl).1
 have q2_m := (hS2.blk 1 rfl).1
 clear hS1 q1_rm q1_m
 go_wp2_with (first | (with_reducible refine wpList_ldB (by first | exact F_int | fail) wU wU (by assumption) wU ?_) | (with_reducible refine wpList_ldS (n := 4) (us := mC m ad cap) A_rmach kR wU wU (by assumption) wU wU ?_))
 refine (HL.out _ (hL.below hS2.b)).mono ?_
 rintro e w3 ⟨rfl, b3⟩
 have hS3 := hS2.mono b3
 have q3_rm := (hS3.blk 0 rfl).1
 have q3_m := (hS3.blk 1 rfl).1
 clear hS2 q2_rm q2_m
 go_wp2_with (with_reducible refine wpList_ldB (by first | exact F_int | fail) wU wU (by assumption) wU ?_)
 go_ret
 exact ⟨rfl, hS3.b⟩
theorem tfits_no (m : MacV) (ad al : Option Addr) (cap cl : Nat) (l : List Int) (g c : Int) (w : World) (hR : Ints w ad cap m.sw) (hL : Ints w al cl l) (h : ¬ Fits m l g c) :
  Calls Tryz.prog 4 #[mV m ad cap, .slice al l.length cl, .int .i64 g, .int .i64 c] w fun r w' => r = .returned (.bool false) ∧ Below w.heap.size w w' := by
 have hS0 := ((SL.nil w).box (.cells (mC m ad cap) 24)).box (.cells (mC m ad cap) 45)
 simp only [World.size_alloc] at hS0
 have CSh := fun w => rShort_any m ad cap al cl l.length w
 have CM := fun w h => rCheckMachine_any m ad cap w h
 have hlc := hL.le
 by_cases hs : m.sw.length ≤ 19 ∧ l.length ≤ 67
 ·rw [show (decide (m.sw.length ≤ 19) && decide (l.length ≤ 67)) = true by simp [hs]] at CSh
  have HSh := hid CSh
  clear CSh
  by_cases hg : m.gears ≤ g
  ·have dg : decide (m.gears ≤ g) = true := decide_eq_true hg
   by_cases hc : (l.length : Int) ≤ c
   ·have dc : decide ((l.length : Int) ≤ c) = true := decide_eq_true hc
    by_cases hm : macE m = 0
    ·have hok := (macE_zero hm).1
     have CL := fun w h => rCheckLoad_any m ad cap al cl l w h hok.lo hok.hi
     rw [load_chk hm] at CL
     have he : loadE m l ≠ 0 := fun e => h ⟨hs, hg, hc, e⟩
     obtain ⟨E, hE⟩ : ∃ E, E = loadE m l := ⟨_, rfl⟩
     rw [← hE] at CL he
     rw [hm] at CM
     have hne : (E == 0) = false := by simpa using he
     have HM := hid CM; have HL := hid CL
     clear CM CL hE he h hs hg hc hm hok
     go_enter Tryz.func4, Tryz.ntmps4
     go_wp2_with (first | (with_reducible refine wpList_ldB (by first | exact F_int | fail) wU wU (by assumption) wU ?_) | (with_reducible refine wpList_ldS (n := 4) (us := mC m ad cap) A_rmach kR wU wU (by assumption) wU wU ?_))
     refine (HSh.out _).mono ?_
     rintro e w1 ⟨rfl, b1⟩
     have hS1 := hS0.mono b1
     have q1_rm := (hS1.blk 0 rfl).1
     have q1_m := (hS1.blk 1 rfl).1
     clear hS0
     go_wp2_with (first | (with_reducible refine wpList_ldB (by first | exact F_int | fail) wU wU (by assumption) wU ?_) | (with_reducible refine wpList_ldS (n := 4) (us := mC m ad cap) A_rmach kR wU wU (by assumption) wU wU ?_))
     refine (HM.out _ (hR.below hS1.b)).mono ?_
     rintro e w2 ⟨rfl, b2⟩
     have hS2 := hS1.mono b2
     have q2_rm := (hS2.blk 0 rfl).1
     have q2_m := (hS2.blk 1 rfl).1
     clear hS1 q1_rm q1_m
     go_wp2_with (first | (with_reducible refine wpList_ldB (by first | exact F_int | fail) wU wU (by assumption) wU ?_) | (with_reducible refine wpList_ldS (n := 4) (us := mC m ad cap) A_rmach kR wU wU (by assumption) wU wU ?_))
     refine (HL.out _ (hL.below hS2.b)).mono ?_
     rintro e w3 ⟨rfl, b3⟩
     have hS3 := hS2.mono b3
     have q3_rm := (hS3.blk 0 rfl).1
     have q3_m := (hS3.blk 1 rfl).1
     clear hS2 q2_rm q2_m
     go_wp2_with (with_reducible refine wpList_ldB (by first | exact F_int | fail) wU wU (by assumption) wU ?_)
     go_ret
     exact ⟨rfl, hS3.b⟩
    ·obtain ⟨E, hE⟩ : ∃ E, E = macE m := ⟨_, rfl⟩
     rw [← hE] at CM hm
     have hne : (E == 0) = false := by simpa using hm
     have HM := hid CM
     clear CM hE hm h hs hg hc
     go_enter Tryz.func4, Tryz.ntmps4
     go_wp2_with (first | (with_reducible refine wpList_ldB (by first | exact F_int | fail) wU wU (by assumption) wU ?_) | (with_reducible refine wpList_ldS (n := 4) (us := mC m ad cap) A_rmach kR wU wU (by assumption) wU wU ?_))
     refine (HSh.out _).mono ?_
     rintro e w1 ⟨rfl, b1⟩
     have hS1 := hS0.mono b1
     have q1_rm := (hS1.blk 0 rfl).1
     have q1_m := (hS1.blk 1 rfl).1
     clear hS0
     go_wp2_with (first | (with_reducible refine wpList_ldB (by first | exact F_int | fail) wU wU (by assumption) wU ?_) | (with_reducible refine wpList_ldS (n := 4) (us := mC m ad cap) A_rmach kR wU wU (by assumption) wU wU ?_))
     refine (HM.out _ (hR.below hS1.b)).mono ?_
     rintro e w2 ⟨rfl, b2⟩
     have hS2 := hS1.mono b2
     have q2_rm := (hS2.blk 0 rfl).1
     have q2_m := (hS2.blk 1 rfl).1
     clear hS1 q1_rm q1_m
     go_wp2_with (with_reducible refine wpList_ldB (by first | exact F_int | fail) wU wU (by assumption) wU ?_)
     go_ret
     exact ⟨rfl, hS2.b⟩
   ·have dc : decide ((l.length : Int) ≤ c) = false := decide_eq_false hc
    clear CM h hs hg hc
    go_enter Tryz.func4, Tryz.ntmps4
    go_wp2_with (first | (with_reducible refine wpList_ldB (by first | exact F_int | fail) wU wU (by assumption) wU ?_) | (with_reducible refine wpList_ldS (n := 4) (us := mC m ad cap) A_rmach kR wU wU (by assumption) wU wU ?_))
    refine (HSh.out _).mono ?_
    rintro e w1 ⟨rfl, b1⟩
    have hS1 := hS0.mono b1
    have q1_rm := (hS1.blk 0 rfl).1
    have q1_m := (hS1.blk 1 rfl).1
    clear hS0
    go_wp2_with (with_reducible refine wpList_ldB (by first | exact F_int | fail) wU wU (by assumption) wU ?_)
    go_ret
    exact ⟨rfl, hS1.b⟩
  ·have dg : decide (m.gears ≤ g) = false := decide_eq_false hg
   clear CM h hs hg
   go_enter Tryz.func4, Tryz.ntmps4
   go_wp2_with (first | (with_reducible refine wpList_ldB (by first | exact F_int | fail) wU wU (by assumption) wU ?_) | (with_reducible refine wpList_ldS (n := 4) (us := mC m ad cap) A_rmach kR wU wU (by assumption) wU wU ?_))
   refine (HSh.out _).mono ?_
   rintro e w1 ⟨rfl, b1⟩
   have hS1 := hS0.mono b1
   have q1_rm := (hS1.blk 0 rfl).1
   have q1_m := (hS1.blk 1 rfl).1
   clear hS0
   go_wp2_with (with_reducible refine wpList_ldB (by first | exact F_int | fail) wU wU (by assumption) wU ?_)
   go_ret
   exact ⟨rfl, hS1.b⟩
 ·rw [show (decide (m.sw.length ≤ 19) && decide (l.length ≤ 67)) = false by
   rcases Nat.lt_or_ge 19 m.sw.length with h1 | h1
   ·rw [decide_eq_false (by omega)]; rfl
   ·rw [decide_eq_true h1, decide_eq_false (by omega)]; rfl] at CSh
  have HSh := hid CSh
  clear CSh CM h hs
  go_enter Tryz.func4, Tryz.ntmps4
  go_wp2_with (first | (with_reducible refine wpList_ldB (by first | exact F_int | fail) wU wU (by assumption) wU ?_) | (with_reducible refine wpList_ldS (n := 4) (us := mC m ad cap) A_rmach kR wU wU (by assumption) wU wU ?_))
  refine (HSh.out _).mono ?_
  rintro e w1 ⟨rfl, b1⟩
  have hS1 := hS0.mono b1
  have q1_rm := (hS1.blk 0 rfl).1
  have q1_m := (hS1.blk 1 rfl).1
  clear hS0
  go_wp2_with (with_reducible refine wpList_ldB (by first | exact F_int | fail) wU wU (by assumption) wU ?_)
  go_ret
  exact ⟨rfl, hS1.b⟩
end Go.Proofs.YtdeoogbiipodmaaGreat

namespace Go.Proofs.YtdeoogbiipodmaaGreat
open Go.ChangeShapes Go.WideShapes Go.ChangeAt Go.RowKit
set_option maxRecDepth 100000
theorem ownP : ownKnob Tryz.prog.godebug = none := by kernel_rfl
noncomputable def bareWorld (os : Os) : World := World.holding Tryz.prog os ⟨#[], #[], []⟩
theorem g1 : (laidOutB Tryz.prog) = true := by kernel_rfl
theorem g2 : (mapsRowed Tryz.prog) = true := by kernel_rfl
theorem g6 : ((Tryz.prog.stops == [])) = true := by kernel_rfl
theorem g8 : ((Tryz.prog.stopKnobs == [])) = true := by kernel_rfl
theorem g24 : (Tryz.prog.stopsHeard) = true := by kernel_rfl
theorem g25 : (Tryz.prog.mayEnter) = true := by kernel_rfl
end Go.Proofs.YtdeoogbiipodmaaGreat

namespace Go.Proofs.YtdeoogbiipodmaaGreat
open Go.RowKit
set_option maxHeartbeats 8000000
set_option maxRecDepth 100000
theorem negW_len (l : List Int) : (negW l).length = l.length := by unfold negW; rw [List.length_map]
theorem inverse_any (a : Option Addr) (c : Nat) (l : List Int) (w : World) (hS : Ints w a c l) (hl : l.length ≤ 1000) (hr : ∀ x ∈ l, -1000 ≤ x ∧ x ≤ 1000) :
  Calls Tryz.prog 31 #[.slice a l.length c] w fun r w' => ∃ v, r = .returned v ∧ OwnI w.heap.size w' v (invW l) ∧ Below w.heap.size w w' := by
 have HM := hid (bmapneg_any a c l w hS hl hr)
 obtain ⟨L, hL⟩ : ∃ L, L = negW l := ⟨_, rfl⟩
 have hLl : L.length = l.length := by rw [hL, negW_len]
 have hI : invW l = L.reverse := by rw [hL]; rfl
 rw [← hL] at HM
 rw [hI]
 obtain ⟨n, hn⟩ : ∃ n, n = l.length := ⟨_, rfl⟩
 rw [← hn] at HM hLl hl ⊢
 clear hL hI hr hS hn
 go_enter Tryz.func31, Tryz.ntmps31
 go_wp2_with fail
 refine HM.out.mono ?_
 rintro e w1 ⟨v1, rfl, ho, b1⟩
 have hS1 := SL.ofOwn ho b1
 obtain ⟨a1, c1, hv1, -⟩ := hS1.slice (c := cInt) 0 rfl
 rw [hLl] at hv1
 subst hv1
 clear ho b1
 by_cases h0 : n = 0
 ·subst h0
  go_wp2_with fail
  refine (reverse0_any a1 c1 w1).mono ?_
  rintro e w2 ⟨⟨v2, rfl⟩, rfl⟩
  go_wp2_with fail
  go_ret
  have e : L = [] := List.length_eq_zero_iff.1 hLl
  subst e
  exact ⟨_, rfl, hS1.own 0 rfl, hS1.b⟩
 ·rw [← hLl] at hS1
  obtain ⟨G, hG, -⟩ := hS1.setOwn cInt1 0 rfl 0 (by omega) (by omega) 0
  subst hG
  rw [hLl] at hS1
  have HR := hid (ReverseI_any hS1 hLl hl)
  clear hS1
  go_wp2_with fail
  refine HR.out.mono ?_
  rintro e w2 ⟨⟨v2, rfl⟩, hS2⟩
  go_wp2_with fail
  go_ret
  exact ⟨_, rfl, hS2.own 0 rfl, hS2.b⟩
theorem own_take {B n cp k : Nat} {e : TypeId} {w : World} {G : Nat} {l : List Int} (h : Own cInt 1 B e w (.slice (some ⟨G, 0, none⟩) n cp) l) (hn : l.length = n) (hk : k ≤ n) : Own cInt 1 B e w (.slice (some ⟨G, 0, none⟩) k cp) (l.take k) := by
 subst hn
 obtain ⟨h1, h2, h3⟩ := h
 have hl : (l.take k).length = k := by rw [List.length_take]; omega
 have e1 : ∀ L : List Int, (L.flatMap fun x => (cInt x).cells.toList) = L.map cInt := fun L => by
  induction L with
  | nil => rfl
  | cons x L ih => rw [List.flatMap_cons, ih]; rfl
 rw [e1] at h2 h3
 refine ⟨h1, ?_, ?_⟩
 ·rw [e1, List.length_map]; omega
 ·rw [e1]
  rcases h3 with ⟨h3, _⟩ | ⟨g, cap, cur, hv, hB, hg, q1, q2, q3, q4⟩
  ·cases h3
  ·injection hv with v1 v2 v3
   subst v3
   refine .inr ⟨g, cp, cur, ?_, hB, hg, by omega, q2, q3, ?_⟩
   ·rw [v1, hl]
   ·rw [hl, List.map_take, ← q4, List.take_take]
    congr 1
    omega
theorem SL.takeI {B n cp k G : Nat} {e : TypeId} {w0 w : World} {L : List Pc} {l : List Int} (h : SL B w0 w L) (i : Nat) (hi : L[i]? = some (pOwn cInt 1 e (.slice (some ⟨G, 0, none⟩) n cp) l)) (hn : l.length = n) (hk : k ≤ n) : SL B w0 w (L.set i (pOwn cInt 1 e (.slice (some ⟨G, 0, none⟩) k cp) (l.take k))) :=
 h.weaken i hi _ fun b hb => ⟨own_take hb.1 hn hk, hb.2⟩
end Go.Proofs.YtdeoogbiipodmaaGreat

namespace Go.Proofs.YtdeoogbiipodmaaGreat
open Go.RowKit
set_option maxHeartbeats 8000000
set_option maxRecDepth 100000
theorem flatI (L : List Int) : (L.flatMap fun x => (cInt x).cells.toList) = L.map cInt := by
 induction L with
 | nil => rfl
 | cons x L ih => rw [List.flatMap_cons, ih]; rfl
theorem SL.raw {B n cp G : Nat} {e : TypeId} {w0 w : World} {L : List Pc} {l : List Int} (h : SL B w0 w L) (i : Nat) (hi : L[i]? = some (pOwn cInt 1 e (.slice (some ⟨G, 0, none⟩) n cp) l)) :
  ∃ cur : List Value, cur.length = cp ∧ cur.take n = l.map cInt ∧ l.length = n ∧ n ≤ cp ∧ cp ≤ maxLen ∧ SL B w0 w (L.set i (pBlk G (.cells cur.toArray e (0, 0)))) := by
 obtain ⟨h1, h2, h3⟩ := h.own i hi
 rw [flatI] at h2 h3
 rcases h3 with ⟨h3, _⟩ | ⟨g, cap, cur, hv, hB, hg, q1, q2, q3, q4⟩
 ·cases h3
 ·injection hv with v1 v2 v3
  injection v1 with v1
  injection v1 with v1
  subst v1 v2 v3
  refine ⟨cur.toList, by simpa using q3, by rw [← q4, Nat.mul_one], rfl, q1, q2, h.weaken i hi _ fun b hb => ⟨hb.2.symm, by simpa using hg⟩⟩
theorem SL.back {B n cp G : Nat} {e : TypeId} {w0 w : World} {L : List Pc} {X : List Value} (l : List Int) (h : SL B w0 w L) (i : Nat) (hi : L[i]? = some (pBlk G (.cells X.toArray e (0, 0)))) (h1 : X.length = cp) (h2 : X.take n = l.map cInt) (h3 : l.length = n) (h4 : n ≤ cp) (h5 : cp ≤ maxLen) :
  SL B w0 w (L.set i (pOwn cInt 1 e (.slice (some ⟨G, 0, none⟩) n cp) l)) := by
 refine h.weaken i hi _ fun b hb => ⟨⟨cIntS, ?_, ?_⟩, hb.1.symm⟩
 ·rw [flatI]; simp
 ·rw [flatI, h3]
  exact .inr ⟨G, cp, X.toArray, rfl, Nat.zero_le _, hb.2, h4, h5, by simpa using h1, by simpa using h2⟩
section
variable {ops : Array Oper} {rest : List Oper} {a : Act} {Q : Exit → Act → World → Prop} {d : Option Tmp} {ty : TypeId} {p : String} {x y : Operand} {af : Array Edge} {g B : Nat} {w0 w : World} {L : List Pc} {dp sp : Option Addr} {dLen dCap sLen sCap : Nat}
theorem wpList_copyX {cur : List Value} (i off : Nat) (cs : List Value) (hd : a.eval x = .slice dp dLen dCap) (hs : a.eval y = .slice sp sLen sCap) (hS : SL B w0 w L) (hi : L[i]? = some (pBlk g (.cells cur.toArray 3 (0, 0)))) (hn : cs.length = Nat.min sLen dLen)
  (hpos : 0 < cs.length → dp = some ⟨g, off, none⟩ ∧ ∃ ad, sp = some ad ∧ ∀ j v, cs[j]? = some v → w.cell? (ad.add j) = some v) (hfit : off + cs.length ≤ cur.length) (h1 : ∀ v ∈ cs, v.oneCell' = true)
  (hK : ∀ w', SL B w0 w' (L.set i (pBlk g (.cells (splice cur off cs).toArray 3 (0, 0)))) → wpList Tryz.prog ops Q rest (a.put d (.int .i64 cs.length)) w') :
  wpList Tryz.prog ops Q (⟨d, .call { callee := .builtin .copy, args := #[x, y], argTypes := #[22, 22] }, ty, p, af, none⟩ :: rest) a w := by
 by_cases h0 : cs.length = 0
 ·obtain rfl : cs = [] := List.eq_nil_of_length_eq_zero h0
  refine wpList_copy_nothing rfl x y 22 22 rfl 3 Tryz.underlying22 kR dp sp dLen dCap sLen sCap hd hs (by simpa using hn.symm) ?_
  refine hK w ?_
  have e : splice cur off [] = cur := by simp [splice]
  rw [e]
  have hL : L.set i (pBlk g (.cells cur.toArray 3 (0, 0))) = L := by
   apply List.ext_getElem?
   intro k
   by_cases hk : i = k
   ·subst hk
    rw [List.getElem?_set_self (List.getElem?_eq_some_iff.1 hi).1, hi]
   ·rw [List.getElem?_set_ne hk]
  rw [hL]
  exact hS
 ·obtain ⟨rfl, ad, rfl, hsrc⟩ := hpos (by omega)
  refine wpList_copy_own rfl x y 22 22 rfl 3 Tryz.underlying22 kR g off dLen dCap ad sLen sCap hd hs cur.toArray 3 (hS.blk i hi).1 cs hn hsrc (by simpa using hfit) h1 ?_
  exact hK _ (hS.setRow i hi _)
theorem wpList_clearX {cur : List Value} {n c : Nat} {ad : Option Addr} (i off : Nat) (hx : a.eval x = .slice ad n c) (hS : SL B w0 w L) (hi : L[i]? = some (pBlk g (.cells cur.toArray 3 (0, 0))))
  (hpos : 0 < n → ad = some ⟨g, off, none⟩) (hfit : off + n ≤ cur.length)
  (hK : ∀ w', SL B w0 w' (L.set i (pBlk g (.cells (splice cur off (List.replicate n (Value.int .i64 0))).toArray 3 (0, 0)))) → wpList Tryz.prog ops Q rest (a.put d (.tuple #[])) w') :
  wpList Tryz.prog ops Q (⟨d, .call { callee := .builtin .clear, args := #[x], argTypes := #[22] }, ty, p, af, none⟩ :: rest) a w := by
 by_cases h0 : n = 0
 ·subst h0
  have hrun : (Builtin.clear_ #[22] ty #[.slice ad 0 c]).run Tryz.prog w = .ok (.tuple #[]) w := by
   cases ad <;> simp [Builtin.clear_, run_underlying Tryz.underlying22]
  refine wpList_plain rfl fun K hK' => ?_
  unfold Oper.wp
  simp [execOp, resolve, invoke, builtin, hx, hrun, Result.andThen]
  refine hK' _ _ (hK w ?_)
  have e : splice cur off (List.replicate 0 (Value.int .i64 0)) = cur := by simp [splice]
  rw [e]
  have hL : L.set i (pBlk g (.cells cur.toArray 3 (0, 0))) = L := by
   apply List.ext_getElem?
   intro k
   by_cases hk : i = k
   ·subst hk
    rw [List.getElem?_set_self (List.getElem?_eq_some_iff.1 hi).1, hi]
   ·rw [List.getElem?_set_ne hk]
  rw [hL]
  exact hS
 ·obtain rfl := hpos (by omega)
  have hb := (hS.blk i hi).1
  have hst := run_storeCells_at Tryz.prog g off 3 (List.replicate n (Value.int .i64 0)) 0 cur.toArray w hb (by simpa using hfit) (fun v hv => by rw [List.eq_of_mem_replicate hv]; rfl)
  have hzc : (Builtin.zeroCells (Value.int .i64 0).cells n).toList = List.replicate n (Value.int .i64 0) := by
   simp [Builtin.zeroCells, Value.cells]
   apply List.ext_getElem
   ·simp
   ·intro i h1 h2
    simp [Nat.mod_one]
  have hz : (zeroValue 3).run Tryz.prog w = .ok (Value.int .i64 0) w := Tryz.zeroValue3 w
  obtain ⟨m, rfl⟩ : ∃ m, n = m + 1 := ⟨n - 1, by omega⟩
  have hrun : (Builtin.clear_ #[22] ty #[.slice (some ⟨g, off, none⟩) (m + 1) c]).run Tryz.prog w = .ok (.tuple #[]) (w.setRow g (splice cur off (List.replicate (m + 1) (Value.int .i64 0))).toArray) := by
   simp only [Nat.add_zero] at hst
   simp [Builtin.clear_, run_underlying Tryz.underlying22, hz, hzc, hst, splice]
  refine wpList_plain rfl fun K hK' => ?_
  unfold Oper.wp
  simp [execOp, resolve, invoke, builtin, hx, hrun, Result.andThen]
  exact hK' _ _ (hK _ (hS.setRow i hi _))
end
theorem cutA {G n cp i j : Nat} (hij : i ≤ j) (hj : j ≤ cp) (hi : i < cp) {D C : Nat} (hD : D = j - i) (hC : C = cp - i) : ∀ V, (Instr.sliceAt 22 (.slice (some ⟨G, 0, none⟩) n cp) (some (.int .i64 i)) (some (.int .i64 j)) none).run Tryz.prog V = .ok (.slice (some ⟨G, i, none⟩) D C) V := fun V => by
 subst hD hC
 obtain ⟨inf, hinf, _, hs, _⟩ := info_parts E_ints.inf
 have e3 : ¬ cp = i := by omega
 simp [Instr.sliceAt, run_underlying E_ints.und, Instr.slice, Instr.sliceBounds, Instr.sliceBound, asIntOf, sizeOf, typeInfo, hinf, hs, Addr.add, hij, hj, e3]
 intro h; rw [h]
theorem cutL {G n cp i : Nat} (hij : i ≤ n) (hj : n ≤ cp) (hi : i < cp) {D C : Nat} (hD : D = n - i) (hC : C = cp - i) : ∀ V, (Instr.sliceAt 22 (.slice (some ⟨G, 0, none⟩) n cp) (some (.int .i64 i)) none none).run Tryz.prog V = .ok (.slice (some ⟨G, i, none⟩) D C) V := fun V => by
 subst hD hC
 obtain ⟨inf, hinf, _, hs, _⟩ := info_parts E_ints.inf
 have e3 : ¬ cp = i := by omega
 simp [Instr.sliceAt, run_underlying E_ints.und, Instr.slice, Instr.sliceBounds, Instr.sliceBound, asIntOf, sizeOf, typeInfo, hinf, hs, Addr.add, hij, e3]
 intro h; rw [h]
theorem cutE {G n cp i : Nat} (hij : i ≤ n) (hj : n ≤ cp) {D C : Nat} (hD : D = n - i) (hC : C = cp - i) : ∃ ad, (0 < C → ad = some ⟨G, i, none⟩) ∧ ∀ V, (Instr.sliceAt 22 (.slice (some ⟨G, 0, none⟩) n cp) (some (.int .i64 i)) none none).run Tryz.prog V = .ok (.slice ad D C) V := by
 by_cases h : i < cp
 ·exact ⟨_, fun _ => rfl, cutL hij hj h hD hC⟩
 ·refine ⟨some ⟨G, 0, none⟩, fun h2 => by omega, fun V => ?_⟩
  subst hD hC
  obtain ⟨inf, hinf, _, hs, _⟩ := info_parts E_ints.inf
  have e3 : cp = i := by omega
  have e4 : n = i := by omega
  simp [Instr.sliceAt, run_underlying E_ints.und, Instr.slice, Instr.sliceBounds, Instr.sliceBound, asIntOf, sizeOf, typeInfo, hinf, hs, Addr.add, e3, e4]
theorem cutH {G n cp j : Nat} (hj : j ≤ cp) : ∀ V, (Instr.sliceAt 22 (.slice (some ⟨G, 0, none⟩) n cp) none (some (.int .i64 j)) none).run Tryz.prog V = .ok (.slice (some ⟨G, 0, none⟩) j cp) V := fun V => by
 obtain ⟨inf, hinf, _, hs, _⟩ := info_parts E_ints.inf
 simp [Instr.sliceAt, run_underlying E_ints.und, Instr.slice, Instr.sliceBounds, Instr.sliceBound, asIntOf, sizeOf, typeInfo, hinf, hs, Addr.add, hj]
theorem cellsI {B n cp : Nat} {a : Option Addr} {w0 w : World} {L : List Pc} {l : List Int} {e : TypeId} (h : SL B w0 w L) (i : Nat) (hi : L[i]? = some (pOwn cInt 1 e (.slice a n cp) l)) (h0 : 0 < l.length) : ∃ ad, a = some ad ∧ ∀ j v, (l.map cInt)[j]? = some v → w.cell? (ad.add j) = some v := by
 have hR := h.rd i hi
 obtain ⟨b, o, rfl, _⟩ := hR.cells (by decide) 0 0 h0
 refine ⟨⟨b, o, none⟩, rfl, fun j v hv => ?_⟩
 have hj : j < l.length := by have := (List.getElem?_eq_some_iff.1 hv).1; simpa using this
 obtain ⟨b', o', e', hc'⟩ := hR.cells (by decide) 0 j hj
 cases e'
 rw [Addr.add_z]
 have := hc' 0 v (by simpa [cInt, Value.cells, hj] using hv)
 simpa using this
end Go.Proofs.YtdeoogbiipodmaaGreat

namespace Go.Proofs.YtdeoogbiipodmaaGreat
open Go.RowKit Go.Shelf
set_option maxHeartbeats 8000000
set_option maxRecDepth 100000
def lays221_ren : Go.Shelf.Ren := ⟨fun | 21 => 115 | 27 => 116 | 28 => 117 | 35 => 120 | 39 => 77 | n => n, fun | 22 => 22 | 3 => 3 | 4 => 4 | 0 => 0 | n => n, fun | n => n⟩
theorem lays221 : Go.Proofs.Lays2.n21 Tryz.prog lays221_ren := {
 mixed := by kernel_rfl
 f21 := Tryz.func115.trans (congrArg some kR)
 f27 := Tryz.func116.trans (congrArg some kR)
 f28 := Tryz.func117.trans (congrArg some kR)
 f35 := Tryz.func120.trans (congrArg some kR)
 f39 := Tryz.func77.trans (congrArg some kR)
 t0 := Tryz.underlying0
 a0 := Tryz.isAgg0
 z0 := Tryz.sizeOf0
 v0 := Tryz.zeroValue0
 t3 := Tryz.underlying3
 a3 := Tryz.isAgg3
 z3 := Tryz.sizeOf3
 v3 := Tryz.zeroValue3
 t4 := Tryz.underlying4
 a4 := Tryz.isAgg4
 z4 := Tryz.sizeOf4
 v4 := Tryz.zeroValue4
 t22 := Tryz.underlying22
 a22 := Tryz.isAgg22
 z22 := Tryz.sizeOf22
 v22 := Tryz.zeroValue22
 i3 := by kernel_rfl }
/-- cells that are stored one after another, as one row. -/
theorem setCells_row {g : Nat} {e : TypeId} : ∀ (vs : List Value) (o : Nat) (cur : List Value) (w : World), w.heap[g]? = some (.cells cur.toArray e (0, 0)) → o + vs.length ≤ cur.length → w.setCells g o vs = w.setRow g (splice cur o vs).toArray
 | [], o, cur, w, h, _ => by
   have e1 : splice cur o [] = cur := by simp [splice]
   rw [e1, setRow_self w g _ _ _ h]
   rfl
 | v :: r, o, cur, w, h, hl => by
   have hl' : o + (r.length + 1) ≤ cur.length := by simpa using hl
   have e1 : w.setCell ⟨g, o, none⟩ v = w.setRow g (cur.set o v).toArray := by
     rw [setCell_eq_setRow w g o cur.toArray e (0, 0) v h]
     congr 1
     simp
   have h2 : (w.setRow g (cur.set o v).toArray).heap[g]? = some (.cells (cur.set o v).toArray e (0, 0)) := setRow_heap w g _ _ _ _ h
   rw [World.setCells, e1, setCells_row r (o + 1) (cur.set o v) _ h2 (by simp; omega), setRow_setRow]
   congr 2
   have e3 := list_seg_step cur o v r hl'
   unfold splice
   rw [← List.append_assoc, e3]
   simp
theorem take_ins {cur : List Value} {l m : List Int} {i n M : Nat} (h : cur.take n = l.map cInt) (hl : l.length = n) (hm : m.length = M) (hi : i ≤ n) (hc : n + M ≤ cur.length) :
  (splice (splice cur (i + M) ((l.drop i).map cInt)) i (m.map cInt)).take (n + M) = (l.take i ++ (m ++ l.drop i)).map cInt := by
 have e1 : (cur.take i) = (l.take i).map cInt := by
  have : cur.take i = (cur.take n).take i := by rw [List.take_take]; congr 1; omega
  rw [this, h, List.map_take]
 have lc : (cur.take i).length = i := by simp; omega
 have ld : ((l.drop i).map cInt).length = n - i := by simp [hl]
 have lm : (m.map cInt).length = M := by simp [hm]
 have s1 : (splice cur (i + M) ((l.drop i).map cInt)).take i = cur.take i := by
  unfold splice
  rw [List.take_append_of_le_length (by simp; omega), List.take_take]
  congr 1
  omega
 have s2 : (splice cur (i + M) ((l.drop i).map cInt)).drop (i + M) = (l.drop i).map cInt ++ cur.drop (i + M + ((l.drop i).map cInt).length) := by
  unfold splice
  exact List.drop_left' (by simp; omega)
 rw [splice, lm, s1, s2, e1, ← List.append_assoc, ← List.append_assoc]
 rw [List.take_left' (by simp; omega)]
 simp
theorem ins_shift {B : Nat} {w0 w : World} {G n cp i V M mc : Nat} {l m : List Int} (hS : SL B w0 w [pOwn cInt 1 3 (.slice (some ⟨G, 0, none⟩) n cp) l, pOwn cInt 1 3 (.slice (some ⟨V, 0, none⟩) M mc) m]) (hl : l.length = n) (hm : m.length = M) (hM : 0 < M) (hi : i < n) (hr : n + M ≤ cp) :
  Calls Tryz.prog 115 #[.slice (some ⟨G, 0, none⟩) n cp, .int .i64 i, .slice (some ⟨V, 0, none⟩) M mc] w fun r w' => ∃ v, r = .returned v ∧ SL B w0 w' [pOwn cInt 1 3 v (l.take i ++ (m ++ l.drop i))] := by
 obtain ⟨cur, k1, k2, -, k4, k5, hS1⟩ := hS.raw 0 rfl
 simp only [List.set_cons_zero] at hS1
 obtain ⟨cv, j1, j2, -, j4, j5, hS2⟩ := hS1.raw 1 rfl
 simp only [List.set_cons_succ, List.set_cons_zero] at hS2
 have hne : V ≠ G := hS2.apart 1 0 (by decide) rfl rfl (fun b h => h.1) (fun b h => h.1)
 have bG := (hS2.blk 0 rfl).1
 have bV := (hS2.blk 1 rfl).1
 have hcs : ∀ j v, (l.map cInt)[j]? = some v → w.cell? ⟨G, 0 + j, none⟩ = some v := fun j v hv => by
  rw [Nat.zero_add, ← k2, List.getElem?_take] at *
  split at hv
  ·simp [World.cell?, bG, hv]
  ·cases hv
 have hvs : ∀ j v, (m.map cInt)[j]? = some v → w.cell? ⟨V, 0 + j, none⟩ = some v := fun j v hv => by
  rw [Nat.zero_add, ← j2, List.getElem?_take] at *
  split at hv
  ·simp [World.cell?, bV, hv]
  ·cases hv
 have one : ∀ (L : List Int), ∀ v ∈ L.map cInt, v.oneCell' = true := fun L v hv => by obtain ⟨z, _, rfl⟩ := List.mem_map.1 hv; rfl
 have h := Any2.slices_Insert_int_shift lays221 G 0 n cp i V 0 M mc (l.map cInt) (m.map cInt) w hi hM hr (by unfold maxLen at k5; omega) hne (by simp [hl]) (by simp [hm]) hcs (fun j hj => by rw [Nat.zero_add, World.cell?]; simp only [bG]; simp; omega) (fun j hj => by simp [World.frozen?, bG]) hvs (one l) (one m)
  3 3 cv.length cur.length (by simp [World.shape?, bV]) (by simp [World.shape?, bG]) (by omega) (by simp [World.frozen?, bV]) (by simp [World.frozen?, bV])
 refine h.mono ?_
 rintro r w' ⟨rfl, rfl⟩
 have hS3 := hS2.drew
 rw [Nat.zero_add, Nat.zero_add, ← List.map_drop]
 have ld : ((l.drop i).map cInt).length = n - i := by simp [hl]
 have lm : (m.map cInt).length = M := by simp [hm]
 have r1 := setCells_row ((l.drop i).map cInt) (i + M) cur w.drew (hS3.blk 0 rfl).1 (by omega)
 rw [r1]
 have hS4 := hS3.setRow 0 rfl (splice cur (i + M) ((l.drop i).map cInt)).toArray
 simp only [List.set_cons_zero] at hS4
 have r2 := setCells_row (m.map cInt) i _ _ (hS4.blk 0 rfl).1 (by rw [length_splice _ _ _ (by omega)]; omega)
 rw [r2]
 have hS5 := hS4.setRow 0 rfl (splice (splice cur (i + M) ((l.drop i).map cInt)) i (m.map cInt)).toArray
 simp only [List.set_cons_zero] at hS5
 exact ⟨_, rfl, (hS5.back _ 0 rfl (by rw [length_splice _ _ _ (by rw [length_splice _ _ _ (by omega)]; omega), length_splice _ _ _ (by omega), k1]) (take_ins k2 hl hm (by omega) (by omega)) (by simp; omega) hr k5).one 0 rfl⟩
theorem ins_grow {B : Nat} {w0 w : World} {G n cp i V M mc : Nat} {l m : List Int} (hS : SL B w0 w [pOwn cInt 1 3 (.slice (some ⟨G, 0, none⟩) n cp) l, pOwn cInt 1 3 (.slice (some ⟨V, 0, none⟩) M mc) m]) (hl : l.length = n) (hm : m.length = M) (hM : 0 < M) (hi : i < n) (hr : cp < n + M) (hb : n + M ≤ 1000) :
  Calls Tryz.prog 115 #[.slice (some ⟨G, 0, none⟩) n cp, .int .i64 i, .slice (some ⟨V, 0, none⟩) M mc] w fun r w' => ∃ v, r = .returned v ∧ SL B w0 w' [pOwn cInt 1 3 v (l.take i ++ (m ++ l.drop i))] := by
 obtain ⟨cur, k1, k2, -, k4, k5, hS1⟩ := hS.raw 0 rfl
 simp only [List.set_cons_zero] at hS1
 obtain ⟨cv, j1, j2, -, j4, j5, hS2⟩ := hS1.raw 1 rfl
 simp only [List.set_cons_succ, List.set_cons_zero] at hS2
 have bG := (hS2.blk 0 rfl).1
 have bV := (hS2.blk 1 rfl).1
 have hcs : ∀ j v, (l.map cInt)[j]? = some v → w.cell? ⟨G, 0 + j, none⟩ = some v := fun j v hv => by
  rw [Nat.zero_add, ← k2, List.getElem?_take] at *
  split at hv
  ·simp [World.cell?, bG, hv]
  ·cases hv
 have hvs : ∀ j v, (m.map cInt)[j]? = some v → w.cell? ⟨V, 0 + j, none⟩ = some v := fun j v hv => by
  rw [Nat.zero_add, ← j2, List.getElem?_take] at *
  split at hv
  ·simp [World.cell?, bV, hv]
  ·cases hv
 have one : ∀ (L : List Int), ∀ v ∈ L.map cInt, v.oneCell' = true := fun L v hv => by obtain ⟨z, _, rfl⟩ := List.mem_map.1 hv; rfl
 have h := Any2.slices_Insert_int_grow lays221 G 0 n cp i V 0 M mc (l.map cInt) (m.map cInt) w hi hM k4 hr (by omega) (by simp [hl]) (by simp [hm]) hcs hvs (one l) (one m)
 obtain ⟨gc, hgc⟩ : ∃ gc, gc = grownCap w (n + M) cp 3 := ⟨_, rfl⟩
 have hg1 : n + M ≤ gc := by rw [hgc]; exact grownCap_ge w _ cp 3
 have hg2 : gc ≤ maxLen := by rw [hgc]; exact grownCap_le_maxLen w _ cp 3 (by unfold maxLen; omega)
 have h' : Calls Tryz.prog 115 #[.slice (some ⟨G, 0, none⟩) n cp, .int .i64 i, .slice (some ⟨V, 0, none⟩) M mc] w fun e w' => e = .returned (.slice (some ⟨w.heap.size, 0, none⟩) (n + M) gc) ∧
   w' = (((w.alloc (.cells (((l.map cInt).take i).toArray ++ Builtin.zeroCells (Value.int .i64 0).cells (n + M - i) ++ Builtin.zeroCells (Value.int .i64 0).cells (gc - (n + M))) 3)).drew.setCells w.heap.size i (m.map cInt)).drew).setCells w.heap.size (i + M) ((l.map cInt).drop i) := by
  rw [hgc]; exact h
 clear h
 refine h'.mono ?_
 rintro r w' ⟨rfl, rfl⟩
 obtain ⟨Z, hZ⟩ : ∃ Z : List Value, Z = (((l.map cInt).take i).toArray ++ Builtin.zeroCells (Value.int .i64 0).cells (n + M - i) ++ Builtin.zeroCells (Value.int .i64 0).cells (gc - (n + M))).toList := ⟨_, rfl⟩
 have hZa : ((l.map cInt).take i).toArray ++ Builtin.zeroCells (Value.int .i64 0).cells (n + M - i) ++ Builtin.zeroCells (Value.int .i64 0).cells (gc - (n + M)) = Z.toArray := by rw [hZ]
 have z1 : Z.length = gc := by rw [hZ]; simp [Builtin.zeroCells, Value.cells]; omega
 have z2 : Z.take i = (l.map cInt).take i := by
  rw [hZ]
  simp only [Array.toList_append, List.append_assoc]
  exact List.take_left' (by simp; omega)
 rw [hZa]
 have hS3 := (hS2.box (.cells Z.toArray 3)).drew
 obtain ⟨H, hH⟩ : ∃ H, H = w.heap.size := ⟨_, rfl⟩
 rw [← hH] at hS3 ⊢
 rw [← List.map_drop]
 have ld : ((l.drop i).map cInt).length = n - i := by simp [hl]
 have lm : (m.map cInt).length = M := by simp [hm]
 have r1 := setCells_row (m.map cInt) i Z _ (hS3.blk 0 rfl).1 (by omega)
 rw [r1]
 have hS4 := (hS3.setRow 0 rfl (splice Z i (m.map cInt)).toArray).drew
 simp only [List.set_cons_zero] at hS4
 have r2 := setCells_row ((l.drop i).map cInt) (i + M) _ _ (hS4.blk 0 rfl).1 (by rw [length_splice _ _ _ (by omega)]; omega)
 rw [r2]
 have hS5 := hS4.setRow 0 rfl (splice (splice Z i (m.map cInt)) (i + M) ((l.drop i).map cInt)).toArray
 simp only [List.set_cons_zero] at hS5
 refine ⟨_, rfl, (hS5.back (l.take i ++ (m ++ l.drop i)) 0 rfl (by rw [length_splice _ _ _ (by rw [length_splice _ _ _ (by omega)]; omega), length_splice _ _ _ (by omega), z1]) ?_ (by simp; omega) hg1 hg2).one 0 rfl⟩
 have e1 : (splice Z i (m.map cInt)).take (i + M) = (l.take i).map cInt ++ m.map cInt := by
  unfold splice
  rw [← List.append_assoc, z2, ← List.map_take]
  exact List.take_left' (by simp; omega)
 unfold splice at e1 ⊢
 rw [e1, ← List.append_assoc, List.take_left' (by simp; omega)]
 simp
theorem ins_end {B : Nat} {w0 w : World} {G n cp M mc : Nat} {am : Option Addr} {l m : List Int} (hS : SL B w0 w [pOwn cInt 1 3 (.slice (some ⟨G, 0, none⟩) n cp) l, pOwn cInt 1 3 (.slice am M mc) m]) (hl : l.length = n) (hm : m.length = M) (hM : 0 < M) (hb : n + M ≤ 1000) :
  Calls Tryz.prog 115 #[.slice (some ⟨G, 0, none⟩) n cp, .int .i64 n, .slice am M mc] w fun r w' => ∃ v, r = .returned v ∧ SL B w0 w' [pOwn cInt 1 3 v (l ++ m)] := by
 have k4 : n ≤ cp := by obtain ⟨_, _, _, _, h, _⟩ := hS.raw 0 rfl; exact h
 obtain ⟨ad, -, q1⟩ := cutE (G := G) (n := n) (cp := cp) (i := n) (Nat.le_refl _) k4 (D := 0) (C := cp - n) (by omega) rfl
 have HM := hid hm; have HL := hid hl
 have hl2 : l.length ≤ 1000 := by omega
 have hm2 : l.length + m.length ≤ 1000 := by omega
 have d1 : ((M : Int) == 0) = false := beq_eq_false_iff_ne.2 (by omega)
 have d2 : ¬ M = 0 := by omega
 clear hl hm
 go_enter Tryz.func115, Tryz.ntmps115
 go_wp2_with (((with_reducible refine wpList_appL 0 E_ints wU wU (hS) wU (hS.rd 1 rfl) (HM.out.symm) cIntO (by first | omega | (simp; omega)) (by first | omega | (simp; omega)) ?_); intro v5 w5 hS5); simp only [List.set_cons_zero] at hS5)
 go_ret
 exact ⟨_, rfl, hS5.one 0 rfl⟩
/-- slices.Insert of one letter or more. -/
theorem ins_any {B : Nat} {w0 w : World} {G n cp i V M mc : Nat} {l m : List Int} (hS : SL B w0 w [pOwn cInt 1 3 (.slice (some ⟨G, 0, none⟩) n cp) l, pOwn cInt 1 3 (.slice (some ⟨V, 0, none⟩) M mc) m]) (hl : l.length = n) (hm : m.length = M) (hM : 0 < M) (hi : i ≤ n) (hb : n + M ≤ 1000) :
  Calls Tryz.prog 115 #[.slice (some ⟨G, 0, none⟩) n cp, .int .i64 i, .slice (some ⟨V, 0, none⟩) M mc] w fun r w' => ∃ v, r = .returned v ∧ SL B w0 w' [pOwn cInt 1 3 v (l.take i ++ (m ++ l.drop i))] := by
 by_cases h : i < n
 ·by_cases h2 : n + M ≤ cp
  ·exact ins_shift hS hl hm hM h h2
  ·exact ins_grow hS hl hm hM h (by omega) hb
 ·obtain rfl : i = n := by omega
  have e1 : l.take i = l := List.take_of_length_le (by omega)
  have e2 : l.drop i = [] := List.drop_eq_nil_of_le (by omega)
  rw [e1, e2, List.append_nil]
  exact ins_end hS hl hm hM hb
theorem replI_any {B : Nat} {w0 w : World} {G n cp i V M mc : Nat} {l m : List Int} (hS : SL B w0 w [pOwn cInt 1 3 (.slice (some ⟨G, 0, none⟩) n cp) l, pOwn cInt 1 3 (.slice (some ⟨V, 0, none⟩) M mc) m]) (hl : l.length = n) (hm : m.length = M) (hM : 0 < M) (hi : i ≤ n) (hb : n + M ≤ 1000) :
  Calls Tryz.prog 102 #[.slice (some ⟨G, 0, none⟩) n cp, .int .i64 i, .int .i64 i, .slice (some ⟨V, 0, none⟩) M mc] w fun r w' => ∃ v, r = .returned v ∧ SL B w0 w' [pOwn cInt 1 3 v (l.take i ++ (m ++ l.drop i))] := by
 have k4 : n ≤ cp := by obtain ⟨_, _, _, _, h, _⟩ := hS.raw 0 rfl; exact h
 have HI := hid (ins_any hS hl hm hM hi hb)
 obtain ⟨ad, q1⟩ : ∃ ad, ∀ V, (Instr.sliceAt 22 (.slice (some ⟨G, 0, none⟩) n cp) (some (.int .i64 i)) (some (.int .i64 i)) none).run Tryz.prog V = .ok (.slice ad 0 (cp - i)) V := by
  by_cases h : i < cp
  ·exact ⟨_, cutA (G := G) (n := n) (cp := cp) (i := i) (j := i) (Nat.le_refl _) (by omega) h (by omega) rfl⟩
  ·obtain rfl : i = cp := by omega
   refine ⟨some ⟨G, 0, none⟩, fun V => ?_⟩
   obtain ⟨inf, hinf, _, hs, _⟩ := info_parts E_ints.inf
   simp [Instr.sliceAt, run_underlying E_ints.und, Instr.slice, Instr.sliceBounds, Instr.sliceBound, asIntOf, sizeOf, typeInfo, hinf, hs]
 clear hS hl hm
 go_enter Tryz.func102, Tryz.ntmps102
 go_wp2_with fail
 refine HI.out.mono ?_
 rintro e w1 ⟨v1, rfl, hS1⟩
 go_wp2_with fail
 go_ret
 exact ⟨_, rfl, hS1⟩
end Go.Proofs.YtdeoogbiipodmaaGreat

namespace Go.Proofs.YtdeoogbiipodmaaGreat
open Go.RowKit
set_option maxHeartbeats 8000000
set_option maxRecDepth 100000
theorem repl_mid {B : Nat} {w0 w : World} {G n cp i j M mc : Nat} {am : Option Addr} {l m : List Int} (hS : SL B w0 w [pOwn cInt 1 3 (.slice (some ⟨G, 0, none⟩) n cp) l, pOwn cInt 1 3 (.slice am M mc) m]) (hl : l.length = n) (hm : m.length = M) (hn : n ≤ 1000) (hij : i < j) (him : i + M ≤ j) (hj : j < n) :
  Calls Tryz.prog 102 #[.slice (some ⟨G, 0, none⟩) n cp, .int .i64 i, .int .i64 j, .slice am M mc] w fun r w' => ∃ c, r = .returned (.slice (some ⟨G, 0, none⟩) (l.take i ++ (m ++ l.drop j)).length c) ∧ SL B w0 w' [pOwn cInt 1 3 (.slice (some ⟨G, 0, none⟩) (l.take i ++ (m ++ l.drop j)).length c) (l.take i ++ (m ++ l.drop j))] := by
 obtain ⟨cur, k1, k2, -, k4, k5, hS1⟩ := hS.raw 0 rfl
 simp only [List.set_cons_zero] at hS1
 obtain ⟨D, hD⟩ : ∃ D, D = n - j := ⟨_, rfl⟩
 obtain ⟨IM, hIM⟩ : ∃ IM, IM = i + M := ⟨_, rfl⟩
 obtain ⟨T, hT⟩ : ∃ T, T = IM + D := ⟨_, rfl⟩
 obtain ⟨x1, hx1⟩ : ∃ x, x = j - i := ⟨_, rfl⟩
 obtain ⟨c1, hc1⟩ : ∃ x, x = cp - i := ⟨_, rfl⟩
 obtain ⟨c2, hc2⟩ : ∃ x, x = cp - j := ⟨_, rfl⟩
 obtain ⟨c3, hc3⟩ : ∃ x, x = cp - IM := ⟨_, rfl⟩
 obtain ⟨x3, hx3⟩ : ∃ x, x = T - IM := ⟨_, rfl⟩
 obtain ⟨x2, hx2⟩ : ∃ x, x = T - i := ⟨_, rfl⟩
 obtain ⟨x4, hx4⟩ : ∃ x, x = n - T := ⟨_, rfl⟩
 obtain ⟨c4, hc4⟩ : ∃ x, x = cp - T := ⟨_, rfl⟩
 have q1 := cutA (G := G) (n := n) (cp := cp) (i := i) (j := j) (by omega) (by omega) (by omega) hx1 hc1
 have q2 := cutH (G := G) (n := n) (cp := cp) (j := i) (by omega)
 have q3 := cutL (G := G) (n := n) (cp := cp) (i := j) (by omega) (by omega) (by omega) hD hc2
 have q4 := cutH (G := G) (n := n) (cp := cp) (j := T) (by omega)
 have q5 := cutL (G := G) (n := T) (cp := cp) (i := i) (by omega) (by omega) (by omega) hx2 hc1
 have q6 := cutL (G := G) (n := T) (cp := cp) (i := IM) (by omega) (by omega) (by omega) hx3 hc3
 obtain ⟨ad, had, q7⟩ := cutE (G := G) (n := n) (cp := cp) (i := T) (by omega) (by omega) hx4 hc4
 have d1 : ((i : Int) == (j : Int)) = false := beq_eq_false_iff_ne.2 (by omega)
 have d2 : ((j : Int) == (n : Int)) = false := beq_eq_false_iff_ne.2 (by omega)
 have e1 : IntKind.i64.wrap ((i : Int) + (M : Int)) = (IM : Int) := by rw [IntWalk.i64_in _ (by omega)]; omega
 have e2 : IntKind.i64.wrap ((IM : Int) + (D : Int)) = (T : Int) := by rw [IntWalk.i64_in _ (by omega)]; omega
 have d3 : decide ((cp : Int) < (T : Int)) = false := decide_eq_false (by omega)
 have d5 : ¬ cp < T := by omega
 have d6 : T ≤ cp := by omega
 have d7 : IM ≤ j := by omega
 have d8 : decide (cp < T) = false := decide_eq_false (by omega)
 have d9 : decide (IM ≤ j) = true := decide_eq_true (by omega)
 have d4 : decide ((IM : Int) ≤ (j : Int)) = true := decide_eq_true (by omega)
 have hdl : (l.drop j).length = D := by rw [List.length_drop]; omega
 have hres : (l.take i ++ (m ++ l.drop j)).length = T := by simp; omega
 obtain ⟨X1, hX1⟩ : ∃ X, X = m.map cInt := ⟨_, rfl⟩
 obtain ⟨X2, hX2⟩ : ∃ X, X = (l.drop j).map cInt := ⟨_, rfl⟩
 have l1 : X1.length = M := by rw [hX1, List.length_map, hm]
 have l2 : X2.length = D := by rw [hX2, List.length_map, hdl]
 have o1 : ∀ v ∈ X1, v.oneCell' = true := fun v hv => by rw [hX1] at hv; obtain ⟨z, _, rfl⟩ := List.mem_map.1 hv; rfl
 have o2 : ∀ v ∈ X2, v.oneCell' = true := fun v hv => by rw [hX2] at hv; obtain ⟨z, _, rfl⟩ := List.mem_map.1 hv; rfl
 obtain ⟨R, hR⟩ : ∃ R, R = l.take i ++ (m ++ l.drop j) := ⟨_, rfl⟩
 obtain ⟨Y1, hY1⟩ : ∃ Y, Y = splice cur i X1 := ⟨_, rfl⟩
 obtain ⟨Y2, hY2⟩ : ∃ Y, Y = splice Y1 IM X2 := ⟨_, rfl⟩
 obtain ⟨Y3, hY3⟩ : ∃ Y, Y = splice Y2 T (List.replicate x4 (Value.int .i64 0)) := ⟨_, rfl⟩
 have y1 : Y1.length = cp := by rw [hY1, length_splice _ _ _ (by omega), k1]
 have y2 : Y2.length = cp := by rw [hY2, length_splice _ _ _ (by omega), y1]
 have y3 : Y3.length = cp := by rw [hY3, length_splice _ _ _ (by simp; omega), y2]
 have hsrc2 : ∀ W : World, (W.heap[G]? = some (.cells Y1.toArray 3 (0, 0))) → ∀ t v, X2[t]? = some v → W.cell? ((⟨G, j, none⟩ : Addr).add t) = some v := fun W hW t v hv => by
  have ht : t < D := by rw [← l2]; exact (List.getElem?_eq_some_iff.1 hv).1
  rw [Addr.add_z, World.cell?]
  simp only [hW]
  have : Y1[j + t]? = some v := by
   have h1 : (cur.take n)[j + t]? = some v := by
    rw [k2, List.getElem?_map]
    rw [hX2, List.getElem?_map, List.getElem?_drop] at hv
    exact hv
   rw [List.getElem?_take, if_pos (by omega)] at h1
   rw [hY1]
   unfold splice
   rw [List.getElem?_append_right (by simp; omega), List.getElem?_append_right (by simp; omega), List.getElem?_drop]
   rw [← h1]
   congr 1
   simp
   omega
  simpa using this
 have hY : Y3.take T = R.map cInt := by
  have e1 : (cur.take i) = (l.take i).map cInt := by
   have : cur.take i = (cur.take n).take i := by rw [List.take_take]; congr 1; omega
   rw [this, k2, List.map_take]
  have lc : (cur.take i).length = i := by simp; omega
  have e2 : Y1.take IM = cur.take i ++ X1 := by
   rw [hY1]
   unfold splice
   rw [← List.append_assoc]
   exact List.take_left' (by rw [List.length_append, lc, l1]; omega)
  have e3 : Y2.take T = cur.take i ++ X1 ++ X2 := by
   rw [hY2]
   unfold splice
   rw [← List.append_assoc, e2]
   exact List.take_left' (by rw [List.length_append, List.length_append, lc, l1, l2]; omega)
  have e4 : Y3.take T = Y2.take T := by
   rw [hY3]
   unfold splice
   exact List.take_left' (by simp; omega)
  rw [e4, e3, e1, hX1, hX2, hR]
  simp
 have hRT : R.length = T := by rw [hR]; exact hres

 have HAP : Hid (∀ W, SL B w0 W [pBlk G (.cells cur.toArray 3 (0, 0)), pOwn cInt 1 3 (.slice am M mc) m] → 0 < X1.length → ∃ ad, am = some ad ∧ ∀ t v, X1[t]? = some v → W.cell? (ad.add t) = some v) := hid fun W h h0 => by
  have := cellsI h 1 rfl (by omega)
  rwa [← hX1] at this
 have HS2 := hid hsrc2; have HY := hid hY; have HRT := hid hRT; have HL1 := hid l1; have HL2 := hid l2; have HY1 := hid hY1; have HY2 := hid hY2; have HY3 := hid hY3; have H1 := hid y1; have H2 := hid y2; have H3 := hid y3; have HK := hid k1; have HX3 := hid (show x3 = D by omega)
 have hT4 : Hid (0 < x4 → 0 < c4) := hid (by omega)
 have hTf : Hid (T + x4 ≤ cp) := hid (by omega)
 have hTp : Hid (T ≤ cp) := hid (by omega)
 have hf1 : Hid (i + M ≤ cp) := hid (by omega)
 have hf2 : Hid (IM + D ≤ cp) := hid (by omega)
 have hmin1 : Hid (M = Nat.min M x2) := hid (by rw [show Nat.min M x2 = min M x2 from rfl]; omega)
 have hmin2 : Hid (D = Nat.min D x3) := hid (by rw [show Nat.min D x3 = min D x3 from rfl]; omega)
 rw [← hR, hRT]
 clear hD hIM hT hx1 hc1 hc2 hc3 hx3 hx2 hx4 hc4 hdl hres hX1 hX2 l1 l2 hR hY1 hY2 hY3 y1 y2 y3 hsrc2 hY hRT k1 k2 k4 hl hm hn hij him hj hS
 go_enter Tryz.func102, Tryz.ntmps102
 go_wp2_with fail
 refine wp_region_q kR kR ?_
 repeat (first | (((refine wpQ_oneG ?_ wU (fun w' => ?_) ?_); rotate_left; (go_simp; rfl); (try simp only [Act.put, pA, pB, pC])); first | rw [e1] | rw [e2] | skip) |  ((with_reducible refine wpB_load (by first | exact F_int | fail) wU wU (by assumption) wU ?_); (try simp only [Act.put, pA, pB, pC])) | ((with_reducible refine wpB_loadS (n := 2) (us := #[_, _]) (by fail) kR wU wU (by assumption) wU wU ?_); (try simp only [Act.put, pA, pB, pC])) | ((with_reducible refine wpB_loadS (n := 4) (us := #[_, _, _, _]) (by fail) kR wU wU (by assumption) wU wU ?_); (try simp only [Act.put, pA, pB, pC])) | ((refine wpQ_oneG ?_ wU (fun w' => ?_) ?_); rotate_left; (go_simp; rfl); (try simp only [Act.put, pA, pB, pC])))
 refine wpQuiet_nil ?_
 intro wA hbA
 have hSA := hS1.mono hbA
 clear hS1 hbA
 go_wp2_with ((with_reducible refine wpList_copyX 0 i X1 wU wU hSA wU (by rw [HL1.out]; exact hmin1.out) (fun h0 => ⟨rfl, HAP.out _ hSA h0⟩) (by rw [HL1.out, HK.out]; exact hf1.out) o1 ?_); intro wB hSB; rw [HL1.out])
 simp only [List.set_cons_zero] at hSB
 rw [← HY1.out] at hSB
 clear hSA
 refine wp_region_qt 9 kR kR ?_
 simp only [List.take_succ_cons, List.take_zero, List.drop_succ_cons, List.drop_zero]
 repeat (first | (((refine wpQ_oneG ?_ wU (fun w' => ?_) ?_); rotate_left; (go_simp; rfl); (try simp only [Act.put, pA, pB, pC])); first | rw [e1] | skip) |  ((with_reducible refine wpB_load (by first | exact F_int | fail) wU wU (by assumption) wU ?_); (try simp only [Act.put, pA, pB, pC])) | ((with_reducible refine wpB_loadS (n := 2) (us := #[_, _]) (by fail) kR wU wU (by assumption) wU wU ?_); (try simp only [Act.put, pA, pB, pC])) | ((with_reducible refine wpB_loadS (n := 4) (us := #[_, _, _, _]) (by fail) kR wU wU (by assumption) wU wU ?_); (try simp only [Act.put, pA, pB, pC])) | ((refine wpQ_oneG ?_ wU (fun w' => ?_) ?_); rotate_left; (go_simp; rfl); (try simp only [Act.put, pA, pB, pC])))
 refine wpQuiet_nil ?_
 intro wC hbC
 have hSC := hSB.mono hbC
 clear hSB hbC
 go_wp2_with (first | ((with_reducible refine wpList_copyX 0 IM X2 wU wU hSC wU (by rw [HL2.out]; exact hmin2.out) (fun h0 => ⟨rfl, _, rfl, HS2.out _ (hSC.blk 0 rfl).1⟩) (by rw [HL2.out, H1.out]; exact hf2.out) o2 ?_); intro wD hSD; simp only [List.set_cons_zero] at hSD; rw [← HY2.out] at hSD; rw [HL2.out]) | ((with_reducible refine wpList_clearX 0 T wU hSD wU (fun h0 => had (hT4.out h0)) (by rw [H2.out]; exact hTf.out) ?_); intro wE hSE; simp only [List.set_cons_zero] at hSE; rw [← HY3.out] at hSE))
 go_ret
 exact ⟨cp, rfl, (SL.back R hSE 0 rfl H3.out HY.out HRT.out hTp.out k5).one 0 rfl⟩
theorem app_nil {G i cp : Nat} (hi : i ≤ cp) : ∀ W ty, (Builtin.append_ #[22, 22] ty #[.slice (some ⟨G, 0, none⟩) i cp, .slice none 0 0]).run Tryz.prog W = .ok (.slice (some ⟨G, 0, none⟩) i cp) W := fun W ty => by
 obtain ⟨inf, hinf, _, hs, _⟩ := info_parts E_ints.inf
 simp [Builtin.append_, run_underlying E_ints.und, sizeOf, typeInfo, hinf, hs, Builtin.lenOf, Builtin.firstCells, storeCells, hi]
theorem repl_cut {B : Nat} {w0 w : World} {G n cp i : Nat} {l : List Int} (hS : SL B w0 w [pOwn cInt 1 3 (.slice (some ⟨G, 0, none⟩) n cp) l]) (hl : l.length = n) (hn : n ≤ 1000) (hij : i < n) :
  Calls Tryz.prog 102 #[.slice (some ⟨G, 0, none⟩) n cp, .int .i64 i, .int .i64 n, .slice none 0 0] w fun r w' => r = .returned (.slice (some ⟨G, 0, none⟩) i cp) ∧ SL B w0 w' [pOwn cInt 1 3 (.slice (some ⟨G, 0, none⟩) i cp) (l.take i)] := by
 obtain ⟨cur, k1, k2, -, k4, k5, hS1⟩ := hS.raw 0 rfl
 simp only [List.set_cons_zero] at hS1
 obtain ⟨D, hD⟩ : ∃ D, D = n - i := ⟨_, rfl⟩
 obtain ⟨c1, hc1⟩ : ∃ x, x = cp - i := ⟨_, rfl⟩
 have q1 := cutA (G := G) (n := n) (cp := cp) (i := i) (j := n) (by omega) (by omega) (by omega) hD hc1
 have q2 := cutH (G := G) (n := n) (cp := cp) (j := i) (by omega)
 have q3 := cutL (G := G) (n := n) (cp := cp) (i := i) (by omega) (by omega) (by omega) hD hc1
 have d1 : ((i : Int) == (n : Int)) = false := beq_eq_false_iff_ne.2 (by omega)
 have d3 : decide ((i : Int) < (n : Int)) = true := decide_eq_true (by omega)
 have d4 : decide (i < n) = true := decide_eq_true hij
 have happ := app_nil (G := G) (i := i) (cp := cp) (by omega)
 obtain ⟨Y, hY⟩ : ∃ Y, Y = splice cur i (List.replicate D (Value.int .i64 0)) := ⟨_, rfl⟩
 have y1 : Y.length = cp := by rw [hY, length_splice _ _ _ (by simp; omega), k1]
 have y2 : Y.take i = (l.take i).map cInt := by
  have e : cur.take i = (cur.take n).take i := by rw [List.take_take]; congr 1; omega
  have lc : (cur.take i).length = i := by simp; omega
  rw [hY]
  unfold splice
  rw [List.take_left' lc, e, k2, List.map_take]
 have y3 : (l.take i).length = i := by simp; omega
 have HY := hid hY; have H1 := hid y1; have H2 := hid y2; have H3 := hid y3; have HK := hid k1
 have hf : Hid (i + D ≤ cp) := hid (by omega)
 have hic : i ≤ cp := by omega
 clear hD hc1 hY y1 y2 y3 k1 k2 k4 hl hn hS
 go_enter Tryz.func102, Tryz.ntmps102
 go_wp2_with (first | (at_builtin; refine Lib.wpList_append_run _ rfl _ _ _ _ rfl _ _ rfl rfl _ _ (happ _ _) ?_) | ((with_reducible refine wpList_clearX 0 i wU hS1 wU (fun h0 => rfl) (by rw [HK.out]; exact hf.out) ?_); intro wE hSE; simp only [List.set_cons_zero] at hSE; rw [← HY.out] at hSE))
 go_ret
 exact ⟨rfl, (SL.back (l.take _) hSE 0 rfl H1.out H2.out H3.out hic k5).one 0 rfl⟩
theorem repl_end {B : Nat} {w0 w : World} {G n cp i M mc : Nat} {am : Option Addr} {l m : List Int} (hS : SL B w0 w [pOwn cInt 1 3 (.slice (some ⟨G, 0, none⟩) n cp) l, pOwn cInt 1 3 (.slice am M mc) m]) (hl : l.length = n) (hm : m.length = M) (hn : n ≤ 1000) (hij : i < n) (him : i + M = n) :
  Calls Tryz.prog 102 #[.slice (some ⟨G, 0, none⟩) n cp, .int .i64 i, .int .i64 n, .slice am M mc] w fun r w' => ∃ v, r = .returned v ∧ SL B w0 w' [pOwn cInt 1 3 v (l.take i ++ m)] := by
 have k4 : n ≤ cp := by obtain ⟨_, _, _, _, h, _⟩ := hS.raw 0 rfl; exact h
 obtain ⟨D, hD⟩ : ∃ D, D = n - i := ⟨_, rfl⟩
 obtain ⟨c1, hc1⟩ : ∃ x, x = cp - i := ⟨_, rfl⟩
 have q1 := cutA (G := G) (n := n) (cp := cp) (i := i) (j := n) (by omega) (by omega) (by omega) hD hc1
 have q2 := cutH (G := G) (n := n) (cp := cp) (j := i) (by omega)
 have d1 : ((i : Int) == (n : Int)) = false := beq_eq_false_iff_ne.2 (by omega)
 have hS1 := hS.takeI 0 rfl hl (Nat.le_of_lt hij)
 simp only [List.set_cons_zero] at hS1
 have hRes : (l.take i ++ m).length = n := by simp; omega
 have htl : (l.take i).length ≤ 1000 := by simp; omega
 have hml : m.length ≤ 1000 := by omega
 obtain ⟨T, hT⟩ : ∃ T, T = l.take i := ⟨_, rfl⟩
 rw [← hT] at hRes htl hS1 ⊢
 obtain ⟨R, hR⟩ : ∃ R, R = T ++ m := ⟨_, rfl⟩
 rw [← hR] at hRes ⊢
 have HR := hid hR; have HRes := hid hRes; have HM := hid hm
 have dz : decide (R.length < n) = false := by rw [hRes]; simp
 have dn : ¬ R.length < n := by omega
 clear hS hl hm hn him hD hc1 hT hR hRes
 go_enter Tryz.func102, Tryz.ntmps102
 go_wp2_with (((with_reducible refine wpList_appL 0 E_ints wU wU (hS1) wU (hS1.rd 1 rfl) (HM.out.symm) cIntO (by first | omega | (simp; omega)) (by first | omega | (simp; omega)) ?_); intro v5 w5 hS5); simp only [List.set_cons_zero] at hS5; rw [← HR.out] at hS5; obtain ⟨a5, c5, hv5, -⟩ := hS5.slice (c := cInt) 0 rfl; rw [HRes.out] at hv5; subst hv5)
 go_ret
 exact ⟨_, rfl, hS5.one 0 rfl⟩
/-- slices.Replace of letters by no letter, or by as many. -/
theorem repl_any {B : Nat} {w0 w : World} {G n cp i j M mc : Nat} {am : Option Addr} {l m : List Int} (hS : SL B w0 w [pOwn cInt 1 3 (.slice (some ⟨G, 0, none⟩) n cp) l, pOwn cInt 1 3 (.slice am M mc) m]) (hl : l.length = n) (hm : m.length = M) (hn : n ≤ 1000) (hij : i < j) (hj : j ≤ n) (hM : i + M = j ∨ (M = 0 ∧ am = none ∧ mc = 0)) :
  Calls Tryz.prog 102 #[.slice (some ⟨G, 0, none⟩) n cp, .int .i64 i, .int .i64 j, .slice am M mc] w fun r w' => ∃ v, r = .returned v ∧ SL B w0 w' [pOwn cInt 1 3 v (l.take i ++ (m ++ l.drop j))] := by
 by_cases h : j < n
 ·refine (repl_mid hS hl hm hn hij (by omega) h).mono ?_
  rintro r w' ⟨c, rfl, h2⟩
  exact ⟨_, rfl, h2⟩
 ·obtain rfl : j = n := by omega
  have e : l.drop j = [] := List.drop_eq_nil_of_le (by omega)
  rw [e, List.append_nil]
  rcases hM with hM | ⟨rfl, rfl, rfl⟩
  ·exact repl_end hS hl hm hn hij hM
  ·obtain rfl : m = [] := List.eq_nil_of_length_eq_zero hm
   rw [List.append_nil]
   refine (repl_cut (hS.one 0 rfl) hl hn hij).mono ?_
   rintro r w' ⟨rfl, h2⟩
   exact ⟨_, rfl, h2⟩
end Go.Proofs.YtdeoogbiipodmaaGreat

namespace Go.Proofs.YtdeoogbiipodmaaGreat
set_option maxRecDepth 100000
/-- a move: 0 insert, 1 cancel, 2 swap, 3 turn; where; the letter. -/
structure MvV where
 k : Nat
 at_ : Nat
 x : Int
deriving DecidableEq, Inhabited
def turnB (x y z : Int) : Bool := decide (absI x = absI z) && (decide (absI (absI x - absI y) = 1) && (decide (sgnI x = sgnI y) || decide (sgnI y = sgnI z)))
def turnL (x y z : Int) : List Int := if sgnI x = sgnI y then [sgnI z * absI y, x, y] else [y, z, sgnI x * absI y]
/-- a word after a move that can be made. -/
def mvW (w : List Int) (m : MvV) : List Int :=
 if m.k = 0 then w.take m.at_ ++ [m.x, -m.x] ++ w.drop m.at_
 else if m.k = 1 then w.take m.at_ ++ w.drop (m.at_ + 2)
 else if m.k = 2 then w.take m.at_ ++ [atD 0 w (m.at_ + 1 : Nat), atD 0 w m.at_] ++ w.drop (m.at_ + 2)
 else w.take m.at_ ++ turnL (atD 0 w m.at_) (atD 0 w (m.at_ + 1 : Nat)) (atD 0 w (m.at_ + 2 : Nat)) ++ w.drop (m.at_ + 3)
/-- whether a move can be made. -/
def mvOk (n : Int) (w : List Int) (m : MvV) : Bool :=
 if m.k = 0 then decide (m.x ≠ 0 ∧ -n < m.x ∧ m.x < n) && decide (m.at_ ≤ w.length)
 else if m.k = 1 then decide (m.x = 0) && (decide (m.at_ + 2 ≤ w.length) && decide (atD 0 w m.at_ = -atD 0 w (m.at_ + 1 : Nat)))
 else if m.k = 2 then decide (m.x = 0) && (decide (m.at_ + 2 ≤ w.length) && decide (2 ≤ absI (absI (atD 0 w m.at_) - absI (atD 0 w (m.at_ + 1 : Nat)))))
 else decide (m.k = 3) && (decide (m.x = 0) && (decide (m.at_ + 3 ≤ w.length) && turnB (atD 0 w m.at_) (atD 0 w (m.at_ + 1 : Nat)) (atD 0 w (m.at_ + 2 : Nat))))
/-- the begin of a handle that ends at a place, sought from a place down. -/
def hbeg (w : List Int) (e : Nat) : Nat → Option Nat
 | 0 => none
 | b + 1 =>
  let x := atD 0 w b
  let y := atD 0 w e
  if x = -y then some b else if absI x = absI y ∨ absI x = absI y - 1 then none else hbeg w e b
/-- the first handle that ends from a place on, ahead of a length. -/
def hgo (w : List Int) : Nat → Nat → Option (Nat × Nat)
 | 0, _ => none
 | r + 1, e => match hbeg w e e with
   | some b => some (b, e)
   | none => hgo w r (e + 1)
def handL (w : List Int) (len : Nat) : Option (Nat × Nat) := hgo w len 0
/-- carry: the word and the moves, with a bound on its rounds. -/
def carL (x : Int) : Nat → Nat → List Int → List MvV → Option (List Int × List MvV)
 | 0, _, _, _ => none
 | f + 1, a, w, ms =>
  let y := atD 0 w (a + 1 : Nat)
  if y = -x then some (mvW w ⟨1, a, 0⟩, ms ++ [⟨1, a, 0⟩])
  else if 2 ≤ absI (absI x - absI y) then carL x f (a + 1) (mvW w ⟨2, a, 0⟩) (ms ++ [⟨2, a, 0⟩])
  else carL x f (a + 3) (mvW (mvW w ⟨0, a + 2, -x⟩) ⟨3, a, 0⟩) (ms ++ [⟨0, a + 2, -x⟩, ⟨3, a, 0⟩])
def insL (a : List Int) (n : Nat) : List Int → Nat → List Int → List MvV → List Int × List MvV
 | [], _, w, ms => (w, ms)
 | x :: r, i, w, ms => insL a n r (i + 1) (mvW w ⟨0, a.length + i, -x⟩) (ms ++ [⟨0, a.length + i, -x⟩])
def proL : Nat → Nat → List Int → List MvV → Option (List Int × List MvV)
 | 0, _, _, _ => none
 | f + 1, len, w, ms => if w.length < len then none else match handL w len with
   | none => some (w, ms)
   | some (b, e) => match carL (atD 0 w b) 64 b w ms with
     | none => none
     | some (w2, ms2) => if len + w2.length < w.length then none else proL f (len + w2.length - w.length) w2 ms2
def provL (a b : List Int) : Option (List Int × List MvV) :=
 let p := insL a a.length b.reverse 0 a []
 proL 200 (a.length + b.length) p.1 p.2
/-- a word that the walk bears: not empty, not long, its letters those of n strands. -/
def goodB (n : Int) (l : List Int) : Bool := decide (0 < l.length) && (decide (l.length ≤ 200) && l.all fun y => decide (y ≠ 0 ∧ -n < y ∧ y < n))
def allB (n : Int) : List Int → List MvV → Bool
 | _, [] => true
 | w, m :: r => mvOk n w m && (goodB n (mvW w m) && allB n (mvW w m) r)
/-- the moves that are still to be made can be made. -/
def Good (n : Int) (w : List Int) (ms ms2 : List MvV) : Prop := ∃ r, ms2 = ms ++ r ∧ allB n w r = true
theorem Good.step {n : Int} {w : List Int} {ms ms2 : List MvV} {m : MvV} (h : Good n w ms ms2) (hp : ∃ r, ms2 = (ms ++ [m]) ++ r) : mvOk n w m = true ∧ goodB n (mvW w m) = true ∧ Good n (mvW w m) (ms ++ [m]) ms2 := by
 obtain ⟨r, rfl, ha⟩ := h
 obtain ⟨r2, hr2⟩ := hp
 rw [List.append_assoc] at hr2
 have hr3 := List.append_cancel_left hr2
 subst hr3
 rw [List.singleton_append, allB] at ha
 simp only [Bool.and_eq_true] at ha
 exact ⟨ha.1, ha.2.1, r2, by rw [List.append_assoc], ha.2.2⟩
theorem carL_pre (x : Int) : ∀ (f a : Nat) (w : List Int) (ms : List MvV) (q : List Int × List MvV), carL x f a w ms = some q → ∃ r, q.2 = ms ++ r
 | 0, _, _, _, _, h => by cases h
 | f + 1, a, w, ms, q, h => by
   unfold carL at h
   simp only at h
   split at h
   · cases h; exact ⟨_, rfl⟩
   · split at h
     · obtain ⟨r, hr⟩ := carL_pre x f _ _ _ q h
       exact ⟨_, by rw [hr, List.append_assoc]⟩
     · obtain ⟨r, hr⟩ := carL_pre x f _ _ _ q h
       exact ⟨_, by rw [hr, List.append_assoc]⟩
theorem proL_pre : ∀ (f len : Nat) (w : List Int) (ms : List MvV) (q : List Int × List MvV), proL f len w ms = some q → ∃ r, q.2 = ms ++ r
 | 0, _, _, _, _, h => by cases h
 | f + 1, len, w, ms, q, h => by
   unfold proL at h
   split at h
   · cases h
   · split at h
     · cases h; exact ⟨[], by simp⟩
     · split at h
       · cases h
       · rename_i w2 ms2 hc
         split at h
         · cases h
         · obtain ⟨r1, h1⟩ := carL_pre _ _ _ _ _ _ hc
           obtain ⟨r2, h2⟩ := proL_pre f _ _ _ q h
           exact ⟨r1 ++ r2, by rw [h2, show ms2 = ms ++ r1 from h1, List.append_assoc]⟩
end Go.Proofs.YtdeoogbiipodmaaGreat
