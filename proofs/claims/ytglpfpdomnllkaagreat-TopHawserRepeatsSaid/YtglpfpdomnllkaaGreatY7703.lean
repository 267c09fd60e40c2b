/- Contracts and plain facts that the claim uses (BsH BsI LwZ OpM BsJ BsK BsL BrC HrA Hr1). Conditions: as each one states. -/
import Derived.Test.YtglpfpdomnllkaaGreatProg
import Derived.WalkKit
import Derived.WalkSpells
import Derived.Maps.AppendAt
import Derived.Deep.Quiet
import Derived.Maps.Own
import Derived.Maps.OwnSet
import Derived.Maps.Views
import Derived.WalkLawsBesides
import Derived.Laws.EntriesVeiled
import Derived.Deep.QuietTactic
import Derived.BigQuiet
import Derived.Deep.RegionHeld3
import Derived.Deep.AppendLies
import Derived.Deep.RegionHeldLaw
import Derived.Deep.RegionLaw
import Derived.RangeFuncNested
import Derived.RangeFuncBound
import Derived.RangeFuncCalls
import Derived.RangeFuncLeaves
import Derived.RangeFuncFrom
import Derived.Shelf.Abstract
import Derived.Shelf.RegionOpen
import Derived.OwnWalkIn
import Derived.TacticsInMore
import Derived.LoopNIn
import Derived.LoopIn
import Derived.Shelf.Strings.Trim
import Derived.Shelf.Strings.SlTrimAscii
import Derived.Shelf.Strings.Repeat
import Derived.Shelf.Strings.OnBuilder
import Derived.Shelf.Strconv.Itoa1
import Derived.Shelf.Strconv.Itoa3
import Derived.Shelf.LaysM
import Derived.Ground.Names2Prog
import Derived.Lib.OthersKept
import Derived.StillTail
import Derived.Laws.Tables
import Derived.IntWalk
import Derived.Laws.CopyOwn
import Derived.BigRegion
import Derived.ChangeAlike
import Derived.Shelf.Bits.Mul64
import Derived.Lib.ItoaLen
import Derived.Lib.ItoaMem
import Derived.Sort.LoopGhostIn
import Derived.Maps.RangeWalk
import Derived.Maps.Ext
import Derived.Deep.LoopGhost
import Derived.Laws.IdiomStrings
import Derived.Sort.QuietThIn
import Derived.Lib.Split
import Derived.Lib.AtoiAll
import Derived.Lib.AppendIntMem
import Derived.Lib.SmallJoins
import Derived.LaidSub
import Derived.Lib.LaidTab
import Derived.Lib.AtoiErrMem
import Derived.Stop.LaidErr
import Derived.ReadAgain
import Derived.ChangeSlices
import Derived.OpenShut
import Derived.ProofKit
import Derived.Deep.DeepHandedRow
import Derived.Deep.SlicePairs
import Derived.Test.YtglpfpdomnllkaaGreatRows
import Derived.Test.YtglpfpdomnllkaaGreatChecked
import Derived.Lib.AppendZeros
import Derived.Test.YtglpfpdomnllkaaGreatXz01
import Derived.Test.YtglpfpdomnllkaaGreatXz02
import Derived.Test.YtglpfpdomnllkaaGreatXz03
import Derived.Test.YtglpfpdomnllkaaGreatXz04
import Derived.Test.YtglpfpdomnllkaaGreatXz05
import Derived.Test.YtglpfpdomnllkaaGreatXz06
import Derived.Test.YtglpfpdomnllkaaGreatXz07
import Derived.Test.YtglpfpdomnllkaaGreatXz08
import Derived.Test.YtglpfpdomnllkaaGreatXz09
import Derived.Test.YtglpfpdomnllkaaGreatXz10
import Derived.Test.YtglpfpdomnllkaaGreatXz11
import Derived.Test.YtglpfpdomnllkaaGreatXz12
import Derived.Test.YtglpfpdomnllkaaGreatY7701
import Derived.Test.YtglpfpdomnllkaaGreatY7702
set_option linter.all false

namespace Go.Proofs.YtglpfpdomnllkaaGreat
open Go.RowKit
set_option maxHeartbeats 8000000
set_option maxRecDepth 100000
theorem ReverseI_any {B : Nat} {w0 w : World} {G n cp : Nat} {row0 : List Int} (hS : SL B w0 w [pOwn cInt 1 3 (.slice (some ⟨G, 0, none⟩) n cp) row0]) (hn : row0.length = n) (hn2 : n ≤ 1000) :
  Calls Tryz.prog 126 #[.slice (some ⟨G, 0, none⟩) n cp] w fun r w' => (∃ v, r = .returned v) ∧ SL B w0 w' [pOwn cInt 1 3 (.slice (some ⟨G, 0, none⟩) n cp) row0.reverse] := by
 have hcap := (hS.rd 0 rfl).le
 have hmx := (hS.rd 0 rfl).max
 rw [hn] at hcap
 obtain ⟨M1, hM1⟩ : ∃ M1 : Int, M1 = (n : Int) - 1 := ⟨_, rfl⟩
 have hw1 : IntKind.i64.wrap ((n : Int) - 1) = M1 := by rw [hM1]; exact IntWalk.i64_in _ (by omega)
 have h0 := revI_zero hn
 have HN := hid hn; have HM := hid hM1
 clear hn hM1
 go_enter Tryz.func126, Tryz.ntmps126
 go_wp2_with fail
 go_loopw [2, 3] (fun iv jv wr => ∃ (k : Nat) (R : List Int) (I J : Int), iv = .int .i64 I ∧ jv = .int .i64 J ∧ I = k ∧ J = M1 - k ∧ k ≤ n ∧ RevI row0 n k R ∧ SL B w0 wr [pOwn cInt 1 3 (.slice (some ⟨G, 0, none⟩) n cp) R]) (fun iv jv _ => (n + 1 - (intOf iv).toNat))
 case atStart => exact ⟨0, row0, 0, M1, rfl, rfl, rfl, by omega, by omega, h0, hS⟩
 case round =>
  clear hS h0 hw1
  obtain ⟨k, row, I, J, rfl, rfl, hI, hJ, hkn, hrev, hSr⟩ := hrel
  have hM := HM.out
  by_cases hlt : I < J
  ·have hk : k < n - 1 - k := by omega
   have hrl : row.length = n := hrev.1
   have hstp := revI_step hrev hk
   have hI0 : 0 ≤ I := by omega
   have hJ0 : 0 ≤ J := by omega
   have hI1 : I < (n : Int) := by omega
   have hJ1 : J < (n : Int) := by omega
   have hI2 : I < (row.length : Int) := by omega
   have hJ2 : J < (row.length : Int) := by omega
   obtain ⟨A0, hA0⟩ : ∃ A, A = atD 0 row I := ⟨_, rfl⟩
   obtain ⟨A1, hA1⟩ : ∃ A, A = atD 0 row J := ⟨_, rfl⟩
   have HA0 : Hid (row[(I).toNat]?.map cInt = some (.int .i64 A0)) := hid (by rw [hA0]; exact get_mapI hI0 hI2)
   have HA1 : Hid (row[(J).toNat]?.map cInt = some (.int .i64 A1)) := hid (by rw [hA1]; exact get_mapI hJ0 hJ2)
   have HI5 : Hid ((row.set (I).toNat A1)[(J).toNat]?.map cInt = some (.int .i64 A1)) := hid (by rw [List.getElem?_set_ne (by omega)]; rw [hA1]; exact get_mapI hJ0 hJ2)
   have HSTP : Hid (RevI row0 n (k + 1) ((row.set I.toNat A1).set J.toNat A0)) := hid (by
    rw [show I.toNat = k by omega, show J.toNat = n - 1 - k by omega, hA0, hA1, hI, show J = ((n - 1 - k : Nat) : Int) by omega]
    exact hstp)
   obtain ⟨Ia, hIa⟩ : ∃ Ia : Int, Ia = I + 1 := ⟨_, rfl⟩
   obtain ⟨Ja, hJa⟩ : ∃ Ja : Int, Ja = J - 1 := ⟨_, rfl⟩
   have hw2 : IntKind.i64.wrap (I + 1) = Ia := by rw [hIa]; exact IntWalk.i64_in _ (by omega)
   have hw3 : IntKind.i64.wrap (J - 1) = Ja := by rw [hJa]; exact IntWalk.i64_in _ (by omega)
   have HI1 : Hid (Ia = ((k + 1 : Nat) : Int)) := hid (by omega)
   have HJ1 : Hid (Ja = M1 - ((k + 1 : Nat) : Int)) := hid (by omega)
   have HK1 : Hid (k + 1 ≤ n) := hid (by omega)
   have HMS : Hid (n + 1 - Ia.toNat < n + 1 - I.toNat) := hid (by omega)
   have dlt : decide (I < J) = true := decide_eq_true hlt
   clear hA0 hA1 hI hJ hM hrl hstp hrev hIa hJa hkn hk hlt
   go_wp2_with fail
   refine wp_regionK (C := (fun V => Below B w0 V)) [0, 1, 2, 3, 4, 5, 6, 8, 9, 10] [_, _, _, _, _, _, _, _, _, _] 6 (by simp only [List.map_cons, List.map_nil, List.getElem?_toArray]; rfl) rfl kR kR kR (hSr.b.drew) ?_
   refine ⟨.slice (some ⟨G, 0, none⟩) n cp, yieldsK_val wU (fun w' => by first | (go_simp; done) | (go_simp; rfl)), ?_⟩
   go_frame
   refine ⟨.int .i64 I, yieldsK_val wU (fun w' => by first | (go_simp; done) | (go_simp; rfl)), ?_⟩
   go_frame
   refine ⟨.slice (some ⟨G, 0, none⟩) n cp, yieldsK_val wU (fun w' => by first | (go_simp; done) | (go_simp; rfl)), ?_⟩
   go_frame
   refine ⟨.int .i64 J, yieldsK_val wU (fun w' => by first | (go_simp; done) | (go_simp; rfl)), ?_⟩
   go_frame
   refine ⟨.slice (some ⟨G, 0, none⟩) n cp, yieldsK_val wU (fun w' => by first | (go_simp; done) | (go_simp; rfl)), ?_⟩
   go_frame
   refine ⟨.int .i64 J, yieldsK_val wU (fun w' => by first | (go_simp; done) | (go_simp; rfl)), ?_⟩
   go_frame
   refine ⟨.pointer (some ⟨G, (J).toNat, none⟩), yieldsK_val wU (fun w' => by first | (go_simp; done) | (go_simp; rfl)), ?_⟩
   go_frame
   refine ⟨.slice (some ⟨G, 0, none⟩) n cp, yieldsK_val wU (fun w' => by first | (go_simp; done) | (go_simp; rfl)), ?_⟩
   go_frame
   refine ⟨.int .i64 I, yieldsK_val wU (fun w' => by first | (go_simp; done) | (go_simp; rfl)), ?_⟩
   go_frame
   refine ⟨.pointer (some ⟨G, (I).toNat, none⟩), yieldsK_val wU (fun w' => by first | (go_simp; done) | (go_simp; rfl)), ?_⟩
   go_frame
   unfold wpPureK
   have hVd : ({ wr with drawn := wr.drawn + 1 } : World) = wr.drew := rfl
   rw [hVd]
   clear hVd
   obtain ⟨W4, hW4⟩ : ∃ W4, W4 = wr.drew := ⟨_, rfl⟩
   have hS4 : SL B w0 W4 [pOwn cInt 1 3 (.slice (some ⟨G, 0, none⟩) n cp) row] := by rw [hW4]; exact hSr.drew
   rw [← hW4]
   clear hW4 hSr
   obtain ⟨g0, eg0, -, hcI, -, -⟩ := hS4.setOwn cInt1 0 rfl (J) hJ0 hJ2 0
   cases eg0
   obtain ⟨g1, eg1, -, hcP, hfP, hS5⟩ := hS4.setOwn cInt1 0 rfl (I) hI0 hI2 A1
   cases eg1
   obtain ⟨g2, eg2, -, hcI5, hfI5, hS6⟩ := hS5.setOwn cInt1 0 rfl (J) hJ0 (by rw [List.length_set]; exact hJ2) A0
   cases eg2
   rw [HA1.out] at hcI
   rw [HA0.out] at hcP
   rw [HI5.out] at hcI5
   replace hS6 : SL B w0 ((W4.setCell ⟨G, (I).toNat, none⟩ (.int .i64 A1)).setCell ⟨G, (J).toNat, none⟩ (.int .i64 A0)) [pOwn cInt 1 3 (.slice (some ⟨G, 0, none⟩) n cp) ((row.set (I).toNat A1).set (J).toNat A0)] := hS6
   refine wpAnyC_on [7, 11] kR (by simp) ?_
   simp only [List.forall_mem_cons, List.not_mem_nil, false_implies, implies_true, and_true]
   refine ⟨?_, ?_⟩
   ·as_aux_lemma =>
    refine wpOp_value (v := .int .i64 A1) (w' := W4) (by rw [List.getElem?_toArray]; rfl) wU (by first | (go_simp; done) | (go_simp; rfl) | (simp [execOp, Act.eval, Result.andThen]; done)) ?_
    refine ⟨hS4.b, ?_⟩
    go_frame
    refine wpAnyC_on [11] kR (by simp) ?_
    simp only [List.forall_mem_cons, List.not_mem_nil, false_implies, implies_true, and_true]
    refine wpOp_value (v := .int .i64 A0) (w' := W4) (by rw [List.getElem?_toArray]; rfl) wU (by first | (go_simp; done) | (go_simp; rfl) | (simp [execOp, Act.eval, Result.andThen]; done)) ?_
    refine ⟨hS4.b, ?_⟩
    go_frame
    refine wpAnyC_on [12] kR (by simp) ?_
    simp only [List.forall_mem_cons, List.not_mem_nil, false_implies, implies_true, and_true]
    refine wpOp_value (v := .pointer (some ⟨G, (I).toNat, none⟩)) (w' := W4) (by rw [List.getElem?_toArray]; rfl) wU (by first | (go_simp; done) | (go_simp; rfl) | (simp [execOp, Act.eval, Result.andThen]; done)) ?_
    refine ⟨hS4.b, ?_⟩
    go_frame
    refine wpAnyC_on [13] kR (by simp) ?_
    simp only [List.forall_mem_cons, List.not_mem_nil, false_implies, implies_true, and_true]
    refine wpOp_of_list (by rw [List.getElem?_toArray]; rfl) ?_
    refine wpList_stoAt (sto_int A1 _ _) wU wU hcP hfP ?_
    refine ⟨hS5.b, ?_⟩
    go_frame
    refine wpAnyC_on [14] kR (by simp) ?_
    simp only [List.forall_mem_cons, List.not_mem_nil, false_implies, implies_true, and_true]
    refine wpOp_value (v := .pointer (some ⟨G, (J).toNat, none⟩)) (w' := (W4.setCell ⟨G, (I).toNat, none⟩ (.int .i64 A1))) (by rw [List.getElem?_toArray]; rfl) wU (by first | (go_simp; done) | (go_simp; rfl) | (simp [execOp, Act.eval, Result.andThen]; done)) ?_
    refine ⟨hS5.b, ?_⟩
    go_frame
    refine wpAnyC_on [15] kR (by simp) ?_
    simp only [List.forall_mem_cons, List.not_mem_nil, false_implies, implies_true, and_true]
    refine wpOp_of_list (by rw [List.getElem?_toArray]; rfl) ?_
    refine wpList_stoAt (sto_int A0 _ _) wU wU hcI5 hfI5 ?_
    refine ⟨hS6.b, ?_⟩
    go_frame
    refine wpAnyC_rest [] [] rfl rfl kR kR kR hS6.b ?_
    unfold wpPure
    refine of_wpList_nil (P := Tryz.prog) (ops := #[]) ?_
    show wpList _ _ _ _ _ ((W4.setCell ⟨G, (I).toNat, none⟩ (.int .i64 A1)).setCell ⟨G, (J).toNat, none⟩ (.int .i64 A0))
    generalize ((W4.setCell ⟨G, (I).toNat, none⟩ (.int .i64 A1)).setCell ⟨G, (J).toNat, none⟩ (.int .i64 A0)) = w6 at *
    clear hS5 hS4 hcP hfP hcI5 hfI5 hcI
    go_wp2_with fail
    exact ⟨⟨k + 1, _, Ia, Ja, rfl, rfl, HI1.out, HJ1.out, HK1.out, HSTP.out, hS6⟩, by simp only [intOf]; exact HMS.out⟩
   ·as_aux_lemma =>
    refine wpOp_value (v := .int .i64 A0) (w' := W4) (by rw [List.getElem?_toArray]; rfl) wU (by first | (go_simp; done) | (go_simp; rfl) | (simp [execOp, Act.eval, Result.andThen]; done)) ?_
    refine ⟨hS4.b, ?_⟩
    go_frame
    refine wpAnyC_on [7] kR (by simp) ?_
    simp only [List.forall_mem_cons, List.not_mem_nil, false_implies, implies_true, and_true]
    refine wpOp_value (v := .int .i64 A1) (w' := W4) (by rw [List.getElem?_toArray]; rfl) wU (by first | (go_simp; done) | (go_simp; rfl) | (simp [execOp, Act.eval, Result.andThen]; done)) ?_
    refine ⟨hS4.b, ?_⟩
    go_frame
    refine wpAnyC_on [12] kR (by simp) ?_
    simp only [List.forall_mem_cons, List.not_mem_nil, false_implies, implies_true, and_true]
    refine wpOp_value (v := .pointer (some ⟨G, (I).toNat, none⟩)) (w' := W4) (by rw [List.getElem?_toArray]; rfl) wU (by first | (go_simp; done) | (go_simp; rfl) | (simp [execOp, Act.eval, Result.andThen]; done)) ?_
    refine ⟨hS4.b, ?_⟩
    go_frame
    refine wpAnyC_on [13] kR (by simp) ?_
    simp only [List.forall_mem_cons, List.not_mem_nil, false_implies, implies_true, and_true]
    refine wpOp_of_list (by rw [List.getElem?_toArray]; rfl) ?_
    refine wpList_stoAt (sto_int A1 _ _) wU wU hcP hfP ?_
    refine ⟨hS5.b, ?_⟩
    go_frame
    refine wpAnyC_on [14] kR (by simp) ?_
    simp only [List.forall_mem_cons, List.not_mem_nil, false_implies, implies_true, and_true]
    refine wpOp_value (v := .pointer (some ⟨G, (J).toNat, none⟩)) (w' := (W4.setCell ⟨G, (I).toNat, none⟩ (.int .i64 A1))) (by rw [List.getElem?_toArray]; rfl) wU (by first | (go_simp; done) | (go_simp; rfl) | (simp [execOp, Act.eval, Result.andThen]; done)) ?_
    refine ⟨hS5.b, ?_⟩
    go_frame
    refine wpAnyC_on [15] kR (by simp) ?_
    simp only [List.forall_mem_cons, List.not_mem_nil, false_implies, implies_true, and_true]
    refine wpOp_of_list (by rw [List.getElem?_toArray]; rfl) ?_
    refine wpList_stoAt (sto_int A0 _ _) wU wU hcI5 hfI5 ?_
    refine ⟨hS6.b, ?_⟩
    go_frame
    refine wpAnyC_rest [] [] rfl rfl kR kR kR hS6.b ?_
    unfold wpPure
    refine of_wpList_nil (P := Tryz.prog) (ops := #[]) ?_
    show wpList _ _ _ _ _ ((W4.setCell ⟨G, (I).toNat, none⟩ (.int .i64 A1)).setCell ⟨G, (J).toNat, none⟩ (.int .i64 A0))
    generalize ((W4.setCell ⟨G, (I).toNat, none⟩ (.int .i64 A1)).setCell ⟨G, (J).toNat, none⟩ (.int .i64 A0)) = w6 at *
    clear hS5 hS4 hcP hfP hcI5 hfI5 hcI
    go_wp2_with fail
    exact ⟨⟨k + 1, _, Ia, Ja, rfl, rfl, HI1.out, HJ1.out, HK1.out, HSTP.out, hS6⟩, by simp only [intOf]; exact HMS.out⟩
  ·have hend := revI_end HN.out hrev (by omega) hkn
   have dlt : decide (I < J) = false := decide_eq_false hlt
   rw [hend] at hSr
   clear hI hJ hM hrev hlt hend
   go_wp2_with fail
   go_end0
   exact ⟨⟨_, rfl⟩, hSr⟩
theorem equalI_any (a a2 : Option Addr) (cap cap2 n : Nat) (l m : List Int) (w : World) (hS : Ints w a cap l) (hM : Ints w a2 cap2 m) (hl : l.length = n) (hm : m.length = n) (hn : n ≤ 1000) :
  Calls Tryz.prog 98 #[.slice a n cap, .slice a2 n cap2] w fun r w' => r = .returned (.bool (decide (l = m))) ∧ Below w.heap.size w w' := by
 have hcap := hS.le
 have hmx := hS.max
 have hcap2 := hM.le
 have hmx2 := hM.max
 obtain ⟨E, hE⟩ : ∃ E, E = decide (l = m) := ⟨_, rfl⟩
 rw [← hE]
 have HT : Hid ((∀ j : Nat, j < n → atD 0 l j = atD 0 m j) → E = true) := hid fun h => by
  rw [hE]
  refine decide_eq_true (ext_atD (by omega) fun j j0 j1 => ?_)
  have := h j.toNat (by omega)
  rw [show ((j.toNat : Nat) : Int) = j by omega] at this
  exact this
 have HF : Hid (∀ j : Nat, j < n → atD 0 l j ≠ atD 0 m j → E = false) := hid fun j hj h => by
  rw [hE]
  exact decide_eq_false fun e => h (by rw [e])
 have HL := hid hl; have HM := hid hm
 have dn : ((n : Int) != (n : Int)) = false := by simp
 clear hE hl hm
 go_enter Tryz.func98, Tryz.ntmps98
 go_wp2_with fail
 clear dn
 go_loopw [13, 5] (fun iv _ wr => ∃ k : Nat, iv = .int .i64 k ∧ k ≤ n ∧ (∀ j : Nat, j < k → atD 0 l j = atD 0 m j) ∧ Below w.heap.size w wr) (fun iv _ _ => n - (intOf iv).toNat)
 case atStart => exact ⟨0, rfl, by omega, fun j h => by omega, Below.refl _ _⟩
 case round =>
  obtain ⟨k, rfl, hk, hall, hbr⟩ := hrel
  by_cases hlt : k < n
  ·obtain ⟨X, hX⟩ : ∃ X, X = atD 0 l k := ⟨_, rfl⟩
   obtain ⟨Y, hY⟩ : ∃ Y, Y = atD 0 m k := ⟨_, rfl⟩
   have hk1 : (k : Int) < (l.length : Int) := by have := HL.out; omega
   have hk2 : (k : Int) < (m.length : Int) := by have := HM.out; omega
   have hSr := hS.below hbr
   have hMr := hM.below hbr
   have HX := hid hX; have HY := hid hY
   by_cases e : X = Y
   ·have dXY : (X != Y) = false := by simp [e]
    have HALL : Hid (∀ j : Nat, j < k + 1 → atD 0 l j = atD 0 m j) := hid fun j h => by
     by_cases e2 : j = k
     ·rw [e2, ← hX, ← hY, e]
     ·exact hall j (by omega)
    clear hX hY hall e
    go_wp2_with fail
    refine wp_region_q kR kR ?_
    repeat (first | (((with_reducible refine wpB_idx2 0 E_ints F_int cInt1 wU (HL.out) wU (hSr) oD oD (fun _ => wU) (fun _ => ?_)); (try simp only [Act.put, pA, pB, pC]); (try simp only [cInt])); rw [← HX.out]) | (((with_reducible refine wpB_idx2 0 E_ints F_int cInt1 wU (HM.out) wU (hMr) oD oD (fun _ => wU) (fun _ => ?_)); (try simp only [Act.put, pA, pB, pC]); (try simp only [cInt])); rw [← HY.out]) | (((refine wpQ_oneG ?_ wU (fun w' => ?_) ?_); rotate_left; (go_simp; rfl); (try simp only [Act.put, pA, pB, pC])); rw [dXY]) | ((refine wpQ_oneG ?_ wU (fun w' => ?_) ?_); rotate_left; (go_simp; rfl); (try simp only [Act.put, pA, pB, pC])) |  ((with_reducible refine wpB_load (by first | exact F_int | fail) wU wU (by assumption) wU ?_); (try simp only [Act.put, pA, pB, pC])) | ((with_reducible refine wpB_loadS (n := 2) (us := #[_, _]) (by fail) kR wU wU (by assumption) wU wU ?_); (try simp only [Act.put, pA, pB, pC])) | ((with_reducible refine wpB_loadS (n := 4) (us := #[_, _, _, _]) (by fail) kR wU wU (by assumption) wU wU ?_); (try simp only [Act.put, pA, pB, pC])) | ((refine wpQ_oneG ?_ wU (fun w' => ?_) ?_); rotate_left; (go_simp; rfl); (try simp only [Act.put, pA, pB, pC])))
    refine wpQuiet_nil ?_
    intro w1 hb1
    go_wp2_with fail
    exact ⟨⟨k + 1, by go_num, by omega, HALL.out, bnext hbr hb1⟩, by simp [intOf]; omega⟩
   ·have dXY : (X != Y) = true := by simp [e]
    have HE : Hid (E = false) := hid (HF.out k hlt (by rw [← hX, ← hY]; exact e))
    clear hX hY hall e
    go_wp2_with fail
    refine wp_region_q kR kR ?_
    repeat (first | (((with_reducible refine wpB_idx2 0 E_ints F_int cInt1 wU (HL.out) wU (hSr) oD oD (fun _ => wU) (fun _ => ?_)); (try simp only [Act.put, pA, pB, pC]); (try simp only [cInt])); rw [← HX.out]) | (((with_reducible refine wpB_idx2 0 E_ints F_int cInt1 wU (HM.out) wU (hMr) oD oD (fun _ => wU) (fun _ => ?_)); (try simp only [Act.put, pA, pB, pC]); (try simp only [cInt])); rw [← HY.out]) | (((refine wpQ_oneG ?_ wU (fun w' => ?_) ?_); rotate_left; (go_simp; rfl); (try simp only [Act.put, pA, pB, pC])); rw [dXY]) | ((refine wpQ_oneG ?_ wU (fun w' => ?_) ?_); rotate_left; (go_simp; rfl); (try simp only [Act.put, pA, pB, pC])) |  ((with_reducible refine wpB_load (by first | exact F_int | fail) wU wU (by assumption) wU ?_); (try simp only [Act.put, pA, pB, pC])) | ((with_reducible refine wpB_loadS (n := 2) (us := #[_, _]) (by fail) kR wU wU (by assumption) wU wU ?_); (try simp only [Act.put, pA, pB, pC])) | ((with_reducible refine wpB_loadS (n := 4) (us := #[_, _, _, _]) (by fail) kR wU wU (by assumption) wU wU ?_); (try simp only [Act.put, pA, pB, pC])) | ((refine wpQ_oneG ?_ wU (fun w' => ?_) ?_); rotate_left; (go_simp; rfl); (try simp only [Act.put, pA, pB, pC])))
    refine wpQuiet_nil ?_
    intro w1 hb1
    go_wp2_with fail
    go_ret
    exact ⟨by rw [HE.out]; rfl, bnext hbr hb1⟩
  ·have HE : Hid (E = true) := hid (HT.out fun j hj => hall j (by omega))
   have hkn : ¬ ((k : Int) < (n : Int)) := by omega
   clear hall hlt hk
   go_wp2_with fail
   go_ret
   exact ⟨by rw [HE.out]; rfl, hbr⟩
theorem reverse0_any (a : Option Addr) (cp : Nat) (w : World) : Calls Tryz.prog 126 #[.slice a 0 cp] w fun r w' => (∃ v, r = .returned v) ∧ w = w' := by
 go_enter Tryz.func126, Tryz.ntmps126
 go_wp2_with fail
 go_loopw [2, 3] (fun iv jv wr => iv = .int .i64 0 ∧ jv = .int .i64 (-1) ∧ wr = w) (fun _ _ _ => 0)
 case atStart => exact ⟨rfl, rfl, rfl⟩
 case round =>
  obtain ⟨rfl, rfl, rfl⟩ := hrel
  go_wp2_with fail
  go_end0
  exact ⟨⟨_, rfl⟩, rfl⟩
theorem rowsEq {X Y : List (List Int)} (h : X.length = Y.length) (k : ∀ j, j < X.length → nth X j = nth Y j) : X = Y := by
 refine List.ext_getElem h fun i h1 h2 => ?_
 have := k i h1
 simpa [nth, atD, h1, h2] using this
theorem eqFunc_any (n m m2 : Nat) (a a2 : Option Addr) (c c2 : Nat) (H H2 : List SlH) (X Y : List (List Int)) (w : World) (hR : Reps cSl 1 w a c H) (hR2 : Reps cSl 1 w a2 c2 H2) (hr : RowsR w n H X) (hr2 : RowsR w n H2 Y) (hX : X.length = m) (hY : Y.length = m2)
  (hXn : ∀ x ∈ X, x.length = n) (hYn : ∀ x ∈ Y, x.length = n) (hn : n ≤ 1000) :
  Calls Tryz.prog 167 #[.slice a m c, .slice a2 m2 c2, .func (.func 98) #[] #[]] w fun r w' => r = .returned (.bool (decide (X = Y))) ∧ Below w.heap.size w w' := by
 have hcap := hR.le
 have hmx := hR.max
 have hcap2 := hR2.le
 have hmx2 := hR2.max
 rw [hr.1, hX] at hcap
 rw [hr2.1, hY] at hcap2
 by_cases hm : m = m2
 ·subst hm
  obtain ⟨E, hE⟩ : ∃ E, E = decide (X = Y) := ⟨_, rfl⟩
  rw [← hE]
  have HT : Hid ((∀ j : Nat, j < m → nth X j = nth Y j) → E = true) := hid fun h => by
   rw [hE]
   exact decide_eq_true (rowsEq (by omega) (by rw [hX]; exact h))
  have HF : Hid (∀ j : Nat, j < m → nth X j ≠ nth Y j → E = false) := hid fun j hj h => by
   rw [hE]
   exact decide_eq_false fun e => h (by rw [e])
  have HC : Hid (∀ j : Nat, j < m → ∃ b d b2 d2, atD ((none, 0, 0) : SlH) H (j : Int) = (b, n, d) ∧ atD ((none, 0, 0) : SlH) H2 (j : Int) = (b2, n, d2) ∧ ∀ wr, Below w.heap.size w wr → Calls Tryz.prog 98 #[.slice b n d, .slice b2 n d2] wr fun r w' => r = .returned (.bool (decide (nth X j = nth Y j))) ∧ Below wr.heap.size wr w') := hid fun j hj => by
   obtain ⟨b, d, e, r⟩ := hr.2 j (by omega)
   obtain ⟨b2, d2, e2, r2⟩ := hr2.2 j (by omega)
   refine ⟨b, d, b2, d2, e, e2, fun wr hb => equalI_any b b2 d d2 n _ _ wr (r.below hb) (r2.below hb) ?_ ?_ hn⟩
   ·exact hXn _ (List.mem_of_getElem? (nth_some (by omega)))
   ·exact hYn _ (List.mem_of_getElem? (nth_some (by omega)))
  have HL : Hid (H.length = m) := hid (by rw [hr.1, hX]); have HL2 : Hid (H2.length = m) := hid (by rw [hr2.1, hY])
  have dn : ((m : Int) != (m : Int)) = false := by simp
  clear hE hX hY hr hr2 hXn hYn
  go_enter Tryz.func167, Tryz.ntmps167
  go_wp2_with fail
  clear dn
  go_loopw [17, 7, 8, 9] (fun iv _ _ _ wr => ∃ k : Nat, iv = .int .i64 k ∧ k ≤ m ∧ (∀ j : Nat, j < k → nth X j = nth Y j) ∧ Below w.heap.size w wr) (fun iv _ _ _ _ => m - (intOf iv).toNat)
  case atStart => exact ⟨0, rfl, by omega, fun j h => by omega, Below.refl _ _⟩
  case round =>
   obtain ⟨k, rfl, hk, hall, hbr⟩ := hrel
   by_cases hlt : k < m
   ·obtain ⟨b, d, b2, d2, e1, e2, hc⟩ := HC.out k hlt
    have hk1 : (k : Int) < (H.length : Int) := by have := HL.out; omega
    have hk2 : (k : Int) < (H2.length : Int) := by have := HL2.out; omega
    have hSr := hR.below hbr
    have hMr := hR2.below hbr
    have HE1 := hid e1; have HE2 := hid e2
    have HALL : Hid (nth X k = nth Y k → ∀ j : Nat, j < k + 1 → nth X j = nth Y j) := hid fun e j h => by
     by_cases e2 : j = k
     ·rw [e2, e]
     ·exact hall j (by omega)
    have HFK := hid (HF.out k hlt)
    have HK := hid (hc wr hbr)
    obtain ⟨D, hD⟩ : ∃ D, D = decide (nth X k = nth Y k) := ⟨_, rfl⟩
    rw [← hD] at HK
    have HD := hid hD
    clear hall e1 e2 hc hD
    go_wp2_with (first | ((with_reducible refine wpList_idxN _ ((none, 0, 0) : SlH) E_sls F_sl cSl1 wU wU (hSr) (HL.out) oD oD (fun _ => wU) (fun _ => ?_)); rw [HE1.out]) | ((with_reducible refine wpList_idxN _ ((none, 0, 0) : SlH) E_sls F_sl cSl1 wU wU (hMr) (HL2.out) oD oD (fun _ => wU) (fun _ => ?_)); rw [HE2.out]))
    refine HK.out.mono ?_
    rintro e w1 ⟨rfl, b1⟩
    cases D with
    | true =>
     have HA := hid (HALL.out (of_decide_eq_true HD.out.symm))
     go_wp2_with fail
     exact ⟨⟨k + 1, by go_num, by omega, HA.out, bnext hbr b1⟩, by simp [intOf]; omega⟩
    | false =>
     have HE := hid (HFK.out (of_decide_eq_false HD.out.symm))
     go_wp2_with fail
     go_ret
     exact ⟨by rw [HE.out]; rfl, bnext hbr b1⟩
   ·have HE : Hid (E = true) := hid (HT.out fun j hj => hall j (by omega))
    have hkn : ¬ ((k : Int) < (m : Int)) := by omega
    clear hall hlt hk
    go_wp2_with fail
    go_ret
    exact ⟨by rw [HE.out]; rfl, hbr⟩
 ·have dn : ((m : Int) != (m2 : Int)) = true := by simp; omega
  have hE : decide (X = Y) = false := decide_eq_false fun e => hm (by rw [← hX, ← hY, e])
  rw [hE]
  clear hr hr2 hX hY hXn hYn hE
  go_enter Tryz.func167, Tryz.ntmps167
  go_wp2_with fail
  go_ret
  exact ⟨rfl, Below.refl _ _⟩
end Go.Proofs.YtglpfpdomnllkaaGreat

namespace Go.Proofs.YtglpfpdomnllkaaGreat
open Go.RowKit
set_option maxHeartbeats 8000000
set_option maxRecDepth 100000
theorem formW_len {n : Nat} {l : List Int} (h : WordOk n l) : ∀ x ∈ (formW n l).2, x.length = n := fun x hx => by
 have h1 := (nfY_ok h).1.vs (word_vs h)
 have h2 : x ∈ nfY n l := (List.mem_filter.1 hx).1
 exact (h1 x h2).2
theorem same_any (n : Nat) (v1 v2 : Value) (f g : Int × List (List Int)) (w : World) (h1 : FormR w n v1 f) (h2 : FormR w n v2 g) (hf : ∀ x ∈ f.2, x.length = n) (hg : ∀ x ∈ g.2, x.length = n) (hn : n ≤ 1000) :
  Calls Tryz.prog 128 #[v1, v2] w fun r w' => r = .returned (.bool (decide (f = g))) ∧ Below w.heap.size w w' := by
 obtain ⟨a, c, H, rfl, hR, hr⟩ := h1
 obtain ⟨a2, c2, H2, rfl, hR2, hr2⟩ := h2
 obtain ⟨fh, X⟩ := f
 obtain ⟨gh, Y⟩ := g
 dsimp only at hr hr2 hf hg ⊢
 have HQ : Hid (∀ W, Below w.heap.size w W → Calls Tryz.prog 167 #[.slice a X.length c, .slice a2 Y.length c2, .func (.func 98) #[] #[]] W fun r w' => r = .returned (.bool (decide (X = Y))) ∧ Below W.heap.size W w') :=
  hid fun W hb => eqFunc_any n _ _ a a2 c c2 H H2 X Y W (hR.below hb) (hR2.below hb) (hr.below hb) (hr2.below hb) rfl rfl hf hg hn
 have hb : Below w.heap.size w ((w.alloc (.cells #[.int .i64 fh, .slice a X.length c] 69)).alloc (.cells #[.int .i64 gh, .slice a2 Y.length c2] 69)) := bal (bal (Below.refl _ _) _) _
 have hS := ((SL.nil w).box (.cells #[.int .i64 fh, .slice a X.length c] 69)).box (.cells #[.int .i64 gh, .slice a2 Y.length c2] 69)
 simp only [World.size_alloc] at hS
 obtain ⟨W, hW⟩ : ∃ W, W = ((w.alloc (.cells #[.int .i64 fh, .slice a X.length c] 69)).alloc (.cells #[.int .i64 gh, .slice a2 Y.length c2] 69)) := ⟨_, rfl⟩
 rw [← hW] at hb hS
 have cA := hS.cell 1 rfl 0 rfl
 have cB := hS.cell 1 rfl 1 rfl
 have cC := hS.cell 0 rfl 0 rfl
 have cD := hS.cell 0 rfl 1 rfl
 have HK := hid (HQ.out W hb)
 by_cases e : fh = gh
 ·subst e
  have e2 : decide ((fh, X) = (fh, Y)) = decide (X = Y) := by simp
  rw [e2]
  have de : ((fh : Int) == fh) = true := by simp
  clear e2 hR hR2 hr hr2 hf hg hS HQ
  go_enter Tryz.func128, Tryz.ntmps128
  go_wp2_with fail
  simp only [← hW]
  clear hW
  go_wp2_with fail
  refine HK.out.mono ?_
  rintro r w1 ⟨rfl, b1⟩
  go_wp2_with fail
  go_ret
  exact ⟨rfl, bnext hb b1⟩
 ·have e2 : decide ((fh, X) = (gh, Y)) = false := decide_eq_false fun h => e (by cases h; rfl)
  rw [e2]
  have de : ((fh : Int) == gh) = false := by simp [e]
  clear e2 hR hR2 hr hr2 hf hg hS HQ e HK
  go_enter Tryz.func128, Tryz.ntmps128
  go_wp2_with fail
  simp only [← hW]
  clear hW
  go_wp2_with fail
  go_ret
  exact ⟨rfl, hb⟩
theorem equal_any (n : Nat) (a a2 : Option Addr) (c c2 : Nat) (l m : List Int) (w : World) (hS : Ints w a c l) (hM : Ints w a2 c2 m) (hl : wordE (n : Int) l = 0) (hm : wordE (n : Int) m = 0) :
  Calls Tryz.prog 84 #[.int .i64 n, .slice a l.length c, .slice a2 m.length c2] w fun r w' => r = .returned (.bool (decide (formW n l = formW n m))) ∧ Below w.heap.size w w' := by
 obtain ⟨hn1, hn2, hl2, _⟩ := wordE_fits hl
 obtain ⟨_, _, hm2, _⟩ := wordE_fits hm
 have HN := hid (fun W (h : Ints W a c l) => normal_all n l.length a c l W h (word_okE hl) rfl (by omega) (by omega) (by omega))
 have HN2 := hid (fun W (h : Ints W a2 c2 m) => normal_all n m.length a2 c2 m W h (word_okE hm) rfl (by omega) (by omega) (by omega))
 have HS := hid (fun v1 v2 W (h1 : FormR W n v1 (formW n l)) (h2 : FormR W n v2 (formW n m)) => same_any n v1 v2 _ _ W h1 h2 (formW_len (word_okE hl)) (formW_len (word_okE hm)) (by omega))
 obtain ⟨f, hf⟩ : ∃ f, f = formW n l := ⟨_, rfl⟩
 obtain ⟨g, hg⟩ : ∃ g, g = formW n m := ⟨_, rfl⟩
 rw [← hf] at HN HS ⊢
 rw [← hg] at HN2 HS ⊢
 have hcap := hS.le
 have hcap2 := hM.le
 clear hf hg hl hm
 go_enter Tryz.func84, Tryz.ntmps84
 go_wp2_with fail
 refine (HN.out w hS).mono ?_
 rintro e w1 ⟨v1, rfl, r1, b1⟩
 go_wp2_with fail
 refine (HN2.out w1 (hM.below b1)).mono ?_
 rintro e w2 ⟨v2, rfl, r2, b2⟩
 go_wp2_with fail
 refine (HS.out v1 v2 w2 (r1.below b2) r2).mono ?_
 rintro e w3 ⟨rfl, b3⟩
 have t := bnext (bnext b1 b2) b3
 clear b1 b2 b3 r1 r2
 go_wp2_with fail
 go_ret
 exact ⟨rfl, t⟩
theorem checkBoth_any (n : Nat) (a a2 : Option Addr) (c c2 : Nat) (l m : List Int) (w : World) (hS : Ints w a c l) (hM : Ints w a2 c2 m) (hl : wordE (n : Int) l = 0) (hm : wordE (n : Int) m = 0) :
  Calls Tryz.prog 79 #[.int .i64 n, .slice a l.length c, .slice a2 m.length c2] w fun r w' => r = .returned (.int .i64 0) ∧ Below w.heap.size w w' := by
 obtain ⟨hn1, hn2, hl2, _⟩ := wordE_fits hl
 obtain ⟨_, _, hm2, _⟩ := wordE_fits hm
 have CW := fun w (hS : Ints w a c l) => CheckWord_any n a c l w hS (by omega)
 have CW2 := fun w (hS : Ints w a2 c2 m) => CheckWord_any n a2 c2 m w hS (by omega)
 rw [hl] at CW
 rw [hm] at CW2
 have HW := hid CW; have HW2 := hid CW2
 clear CW CW2 hl hm
 go_enter Tryz.func79, Tryz.ntmps79
 go_wp2_with fail
 refine (HW.out w hS).mono ?_
 rintro e w1 ⟨rfl, b1⟩
 go_wp2_with fail
 refine (HW2.out w1 (hM.below b1)).mono ?_
 rintro e w2 ⟨rfl, b2⟩
 have t := bnext b1 b2
 clear b1 b2
 go_wp2_with (go_at_call 90; refine (bfirst_any _ _ [_, _] _ (reps_newN cIntS [_, _] 2 rfl (by decide) _ _ (by simp) rfl)).mono ?_; rintro e w' ⟨rfl, rfl⟩)
 go_ret
 exact ⟨rfl, bal t _⟩
theorem Equal_any (n : Nat) (a a2 : Option Addr) (c c2 : Nat) (l m : List Int) (w : World) (hS : Ints w a c l) (hM : Ints w a2 c2 m) (hl : wordE (n : Int) l = 0) (hm : wordE (n : Int) m = 0) :
  Calls Tryz.prog 37 #[.int .i64 n, .slice a l.length c, .slice a2 m.length c2] w fun r w' => r = .returned (.tuple #[.bool (decide (formW n l = formW n m)), .int .i64 0]) ∧ Below w.heap.size w w' := by
 have HC := hid (fun W (h : Ints W a c l) (h2 : Ints W a2 c2 m) => checkBoth_any n a a2 c c2 l m W h h2 hl hm)
 have HE := hid (fun W (h : Ints W a c l) (h2 : Ints W a2 c2 m) => equal_any n a a2 c c2 l m W h h2 hl hm)
 obtain ⟨E, hE⟩ : ∃ E, E = decide (formW n l = formW n m) := ⟨_, rfl⟩
 rw [← hE] at HE ⊢
 clear hE hl hm
 go_enter Tryz.func37, Tryz.ntmps37
 go_wp2_with fail
 refine (HC.out w hS hM).mono ?_
 rintro e w1 ⟨rfl, b1⟩
 go_wp2_with fail
 refine (HE.out w1 (hS.below b1) (hM.below b1)).mono ?_
 rintro e w2 ⟨rfl, b2⟩
 have t := bnext b1 b2
 clear b1 b2
 go_wp2_with fail
 go_ret2
 exact ⟨rfl, t⟩
end Go.Proofs.YtglpfpdomnllkaaGreat

namespace Go.Proofs.YtglpfpdomnllkaaGreat
open Go.ChangeShapes Go.WideShapes Go.ChangeAt Go.RowKit
set_option maxRecDepth 100000
theorem ownP : ownKnob Tryz.prog.godebug = none := by kernel_rfl
noncomputable def bareWorld (os : Os) : World := World.holding Tryz.prog os ⟨#[], #[], []⟩
theorem g1 : (laidOutB Tryz.prog) = true := by kernel_rfl
theorem g2 : (mapsRowed Tryz.prog) = true := by kernel_rfl
theorem g6 : ((Tryz.prog.stops == [])) = true := by kernel_rfl
theorem g8 : ((Tryz.prog.stopKnobs == [])) = true := by kernel_rfl
theorem g24 : (Tryz.prog.stopsHeard) = true := by kernel_rfl
theorem g25 : (Tryz.prog.mayEnter) = true := by kernel_rfl
end Go.Proofs.YtglpfpdomnllkaaGreat

namespace Go.Proofs.YtglpfpdomnllkaaGreat
open Go.RowKit Go.ChangeShapes Go.WideShapes Go.ChangeAt Go.Joins Go.Deep
set_option maxRecDepth 100000
section
variable {H : Type} {enc : TypeId × Value → H} {W : World}
theorem open_machA {r : Reach} {b0 : Nat} {v : Value} {d : DataW H} {ps : List MemPlace} (hval : Value.okWide Tryz.prog W r b0 24 v) (h : DataW.Trod enc Tryz.prog W 0 (fun _ => true) true 24 v d ps) :
  ∃ (m : MacV) (ad : Option Addr) (cap : Nat), v = mV m ad cap ∧ Ints W ad cap m.sw ∧ InI m.gears ∧ InI m.turn ∧ ∀ x ∈ m.sw, InI x := by
 obtain ⟨v0, v1, v2, v3, y0, y1, y2, y3, n, rfl, _, _, k0, k1, k2, k3⟩ := open_agg4 Tryz.underlying24 kR rfl hval h
 obtain ⟨b, e0, _⟩ := DataW.trod_bool Tryz.underlying4 k0
 obtain ⟨x, e1, _, w1⟩ := DataW.trod_int Tryz.underlying3 k1
 obtain ⟨y, e2, _, w2⟩ := DataW.trod_int Tryz.underlying3 k2
 cases e0; cases e1; cases e2
 rcases open_ints Tryz.underlying22 Tryz.underlying3 cellsInt k3 with ⟨hcs, _⟩ | ⟨a, len', cap', zs, hcs, _, hl, hm, hz, _, hcell, hwz⟩
 ·cases hcs
  exact ⟨⟨b, x, y, []⟩, none, 0, rfl, ints_nil W, inI_wf w1, inI_wf w2, fun x hx => by cases hx⟩
 ·cases hcs
  simp only [if_true] at hz
  have hlen : (zs.take len').length = len' := by simp; omega
  refine ⟨⟨b, x, y, zs.take len'⟩, some a, cap', ?_, ints_of_cells hl hm (by omega) hcell, inI_wf w1, inI_wf w2, fun x hx => ?_⟩
  ·show _ = Value.agg #[_, _, _, .slice _ (zs.take len').length _]
   rw [hlen]
  ·exact inI_wf (hwz x (List.mem_of_mem_take hx))
end
end Go.Proofs.YtglpfpdomnllkaaGreat

namespace Go.Proofs.YtglpfpdomnllkaaGreat
open Go.RowKit
set_option maxHeartbeats 8000000
set_option maxRecDepth 100000
theorem negW_len (l : List Int) : (negW l).length = l.length := by unfold negW; rw [List.length_map]
theorem inverse_any (a : Option Addr) (c : Nat) (l : List Int) (w : World) (hS : Ints w a c l) (hl : l.length ≤ 1000) (hr : ∀ x ∈ l, -1000 ≤ x ∧ x ≤ 1000) :
  Calls Tryz.prog 82 #[.slice a l.length c] w fun r w' => ∃ v, r = .returned v ∧ OwnI w.heap.size w' v (invW l) ∧ Below w.heap.size w w' := by
 have HM := hid (bmapneg_any a c l w hS hl hr)
 obtain ⟨L, hL⟩ : ∃ L, L = negW l := ⟨_, rfl⟩
 have hLl : L.length = l.length := by rw [hL, negW_len]
 have hI : invW l = L.reverse := by rw [hL]; rfl
 rw [← hL] at HM
 rw [hI]
 obtain ⟨n, hn⟩ : ∃ n, n = l.length := ⟨_, rfl⟩
 rw [← hn] at HM hLl hl ⊢
 clear hL hI hr hS hn
 go_enter Tryz.func82, Tryz.ntmps82
 go_wp2_with fail
 refine HM.out.mono ?_
 rintro e w1 ⟨v1, rfl, ho, b1⟩
 have hS1 := SL.ofOwn ho b1
 obtain ⟨a1, c1, hv1, -⟩ := hS1.slice (c := cInt) 0 rfl
 rw [hLl] at hv1
 subst hv1
 clear ho b1
 by_cases h0 : n = 0
 ·subst h0
  go_wp2_with fail
  refine (reverse0_any a1 c1 w1).mono ?_
  rintro e w2 ⟨⟨v2, rfl⟩, rfl⟩
  go_wp2_with fail
  go_ret
  have e : L = [] := List.length_eq_zero_iff.1 hLl
  subst e
  exact ⟨_, rfl, hS1.own 0 rfl, hS1.b⟩
 ·rw [← hLl] at hS1
  obtain ⟨G, hG, -⟩ := hS1.setOwn cInt1 0 rfl 0 (by omega) (by omega) 0
  subst hG
  rw [hLl] at hS1
  have HR := hid (ReverseI_any hS1 hLl hl)
  clear hS1
  go_wp2_with fail
  refine HR.out.mono ?_
  rintro e w2 ⟨⟨v2, rfl⟩, hS2⟩
  go_wp2_with fail
  go_ret
  exact ⟨_, rfl, hS2.own 0 rfl, hS2.b⟩
theorem Inverse_any (n : Nat) (a : Option Addr) (cap : Nat) (l : List Int) (w : World) (hS : Ints w a cap l) (h : wordE (n : Int) l = 0) :
  Calls Tryz.prog 35 #[.int .i64 n, .slice a l.length cap] w fun r w' => ∃ v, r = .returned (.tuple #[v, .int .i64 0]) ∧ OwnI w.heap.size w' v (invW l) ∧ Below w.heap.size w w' := by
 obtain ⟨hn1, hn2, hl, _⟩ := wordE_fits h
 have CW := fun w (hS : Ints w a cap l) => CheckWord_any n a cap l w hS (by omega)
 rw [h] at CW
 have HW := hid CW
 have HP := hid (fun w (hS : Ints w a cap l) => inverse_any a cap l w hS (by omega) (word_small h))
 have hS0 := SL.nil w
 clear CW h
 go_enter Tryz.func35, Tryz.ntmps35
 go_wp2_with fail
 refine (HW.out _ hS).mono ?_
 rintro e w1 ⟨rfl, b1⟩
 have hS1 := hS0.mono b1
 clear hS0
 go_wp2_with fail
 refine (HP.out _ (hS.below b1)).mono ?_
 rintro e w2 ⟨v2, rfl, ho2, b2⟩
 have hS2 := hS1.call (SL.ofOwn ho2 b2)
 rw [List.append_nil] at hS2
 clear hS1 ho2
 go_wp2_with fail
 go_ret2
 exact ⟨v2, rfl, hS2.own 0 rfl, hS2.b⟩
end Go.Proofs.YtglpfpdomnllkaaGreat

namespace Go.Proofs.YtglpfpdomnllkaaGreat
open Go.RowKit
set_option maxHeartbeats 8000000
set_option maxRecDepth 100000
theorem cut_nil : ∀ V, (Instr.sliceAt 22 (.slice none 0 0) none (some (.int .i64 0)) none).run Tryz.prog V = .ok (.slice none 0 0) V := fun V => by
 obtain ⟨inf, hinf, _, hs, _⟩ := info_parts E_ints.inf
 have hb := run_bounds (P := Tryz.prog) (w := V) (n := 0) (cap := 0) (lo := none) (hi := some (.int .i64 0)) (i := 0) (j := 0) (.inr ⟨rfl, rfl⟩) (.inl rfl) (by omega) (by omega)
 simp [Instr.sliceAt, run_underlying E_ints.und, Instr.slice, hb, sizeOf, typeInfo, hinf, hs]
theorem cut_zero (a : Option Addr) (n cp : Nat) (h : n ≤ cp) (h0 : 0 < cp) : ∃ a', (∀ G, a = some ⟨G, 0, none⟩ → a' = a) ∧ ∀ V, (Instr.sliceAt 22 (.slice a n cp) none (some (.int .i64 0)) none).run Tryz.prog V = .ok (.slice a' 0 cp) V := by
 refine ⟨a.map fun x => x.add 0, fun G hG => by subst hG; rfl, fun V => ?_⟩
 obtain ⟨inf, hinf, _, hs, _⟩ := info_parts E_ints.inf
 have hb := run_bounds (P := Tryz.prog) (w := V) (n := n) (cap := cp) (lo := none) (hi := some (.int .i64 0)) (i := 0) (j := 0) (.inr ⟨rfl, rfl⟩) (.inl rfl) (by omega) (by omega)
 simp [Instr.sliceAt, run_underlying E_ints.und, Instr.slice, hb, sizeOf, typeInfo, hinf, hs]
 intro h
 omega
theorem grow_any (n : Nat) (w : World) (hn : n ≤ 1000) :
  Calls Tryz.prog 125 #[.slice none 0 0, .int .i64 n] w fun r w' => ∃ v, r = .returned v ∧ OwnI w.heap.size w' v [] ∧ Below w.heap.size w w' := by
 by_cases h0 : n = 0
 ·subst h0
  go_enter Tryz.func125, Tryz.ntmps125
  go_wp2_with fail
  go_ret
  exact ⟨_, rfl, own_nil cIntS, Below.refl _ _⟩
 ·obtain ⟨inf, hi, hz0, hz1, hz2⟩ := info_parts E_ints.inf
  have happ := Lib.run_append_nil_zeros (P := Tryz.prog) w 22 3 22 3 inf (.int .i64 0) .i64 .i64 E_ints.und Tryz.underlying3 hi hz0 n (by omega) (by omega) (by omega) (by rw [hz2]; omega)
  generalize hcap : grownCap w n 0 3 = cap2 at happ
  have hcapge : n ≤ cap2 := by rw [← hcap]; exact grownCap_ge w _ 0 3
  have hcaple : cap2 ≤ maxLen := by rw [← hcap]; exact grownCap_le_maxLen w _ 0 3 (by unfold maxLen; omega)
  generalize hZ : (Builtin.zeroCells (Value.int .i64 0).cells n ++ Builtin.zeroCells (Value.int .i64 0).cells (cap2 - n)) = Z at happ
  have hZs : Z.size = cap2 := by rw [← hZ]; simp [size_zeroCells, Value.cells]; omega
  have hw1 : IntKind.i64.wrap (n : Int) = n := IntWalk.i64_in _ (by omega)
  have hw2 : IntKind.i64.wrap ((n : Int) - 0) = n := by rw [Int.sub_zero]; exact hw1
  have hcn := cut_nil
  obtain ⟨a', ha, hcz⟩ := cut_zero (some ⟨w.heap.size, 0, none⟩) n cap2 hcapge (by omega)
  have ha' := ha _ rfl
  subst ha'
  have hn0 : ¬ ((n : Int) ≤ 0) := by omega
  have hres : OwnI w.heap.size (w.drew.alloc (.cells Z 3)) (.slice (some ⟨w.heap.size, 0, none⟩) 0 cap2) [] := by
   refine ⟨cIntS, rfl, .inr ⟨w.heap.size, cap2, Z, rfl, Nat.le_refl _, ?_, by simp, hcaple, by rw [hZs]; omega, by simp⟩⟩
   exact heap_alloc_new w.drew _
  have hbl : Below w.heap.size w (w.drew.alloc (.cells Z 3)) := bal (Below.refl _ _).drew _
  clear hcap hZ ha
  go_enter Tryz.func125, Tryz.ntmps125
  go_wp2_with (at_builtin; refine Lib.wpList_append_run _ rfl _ _ _ _ rfl _ _ rfl rfl _ _ happ ?_)
  go_ret
  exact ⟨_, rfl, hres, hbl⟩
theorem concat_any (m : Nat) (a : Option Addr) (c : Nat) (H : List SlH) (X : List (List Int)) (w : World) (hR : Reps cSl 1 w a c H) (hH : H.length = m) (hX : X.length = m) (hm : m ≤ 1000)
  (hrow : ∀ k : Nat, k < m → ∃ b d, atD ((none, 0, 0) : SlH) H (k : Int) = (b, (nth X k).length, d) ∧ Ints w b d (nth X k)) (hs : X.flatten.length ≤ 1000) :
  Calls Tryz.prog 81 #[.slice a m c] w fun r w' => ∃ v, r = .returned v ∧ OwnI w.heap.size w' v X.flatten ∧ Below w.heap.size w w' := by
 have hcap := hR.le
 have hmx := hR.max
 rw [hH] at hcap
 obtain ⟨F, hF⟩ : ∃ F : Nat → List Int, ∀ k, F k = (X.take k).flatten := ⟨_, fun _ => rfl⟩
 have hF0 : F 0 = [] := by rw [hF]; rfl
 have hFm : F m = X.flatten := by rw [hF, ← hX, List.take_length]
 have hFs : ∀ k, k < m → F (k + 1) = F k ++ nth X k := fun k hk => by rw [hF, hF, nth_take (by omega), List.flatten_append]; simp
 have hFl : ∀ k, k ≤ m → (F k).length ≤ 1000 := fun k hk => by
  have : X.flatten = F k ++ (X.drop k).flatten := by rw [hF, ← List.flatten_append, List.take_append_drop]
  have h2 : X.flatten.length = (F k).length + (X.drop k).flatten.length := by rw [this, List.length_append]
  omega
 rw [← hFm]
 have HFS := hid hFs; have HFL := hid hFl; have HRW := hid hrow; have HH := hid hH; have HF0 := hid hF0
 clear hF hF0 hFm hFs hFl hrow hs hX hH
 go_enter Tryz.func81, Tryz.ntmps81
 go_wp2_with fail
 go_loopw [11, 5, 3] (fun iv _ sv wr => ∃ k : Nat, iv = .int .i64 k ∧ sv = .int .i64 ((F k).length : Nat) ∧ k ≤ m ∧ Below w.heap.size w wr) (fun iv _ _ _ => m - (intOf iv).toNat)
 case atStart => exact ⟨0, rfl, by rw [HF0.out]; rfl, by omega, Below.refl _ _⟩
 case round =>
  obtain ⟨k, rfl, rfl, hk, hbr⟩ := hrel
  by_cases hlt : k < m
  ·obtain ⟨b, d, e1, h1⟩ := HRW.out k hlt
   have hRr := hR.below hbr
   have hkH : (k : Int) < (H.length : Int) := by have := HH.out; omega
   have h2 := HFL.out (k + 1) (by omega)
   have h3 := HFS.out k hlt
   rw [h3, List.length_append] at h2
   have hFk : (F (k + 1)).length = (F k).length + (nth X k).length := by rw [h3, List.length_append]
   obtain ⟨N, hN⟩ : ∃ N, N = (nth X k).length := ⟨_, rfl⟩
   obtain ⟨K, hK⟩ : ∃ K, K = (F k).length := ⟨_, rfl⟩
   rw [← hN] at h2 hFk e1
   rw [← hK] at h2 hFk ⊢
   have hw1 : IntKind.i64.wrap ((K : Int) + (N : Int)) = ((K + N : Nat) : Int) := by rw [IntWalk.i64_in _ (by omega)]; omega
   have dn : decide (((K + N : Nat) : Int) < 0) = false := decide_eq_false (by omega)
   have HE1 := hid e1; have HFK := hid hFk
   clear e1 h1 h3 hN hK hFk
   go_wp2_with ((with_reducible refine wpList_idxN _ ((none, 0, 0) : SlH) E_sls F_sl cSl1 wU wU (hRr) (HH.out) oD oD (fun _ => wU) (fun _ => ?_)); rw [HE1.out])
   exact ⟨⟨k + 1, by go_num, by rw [HFK.out]; go_num, by omega, hbr⟩, by simp [intOf]; omega⟩
  ·have hkk : k = m := by omega
   subst hkk
   have hFk := HFL.out k (Nat.le_refl _)
   have hkn : ¬ ((k : Int) < (k : Int)) := by omega
   obtain ⟨K, hK⟩ : ∃ K, K = (F k).length := ⟨_, rfl⟩
   rw [← hK] at hFk ⊢
   clear hlt hk hK
   go_wp2_with fail
   refine (grow_any K _ hFk).mono ?_
   rintro e w1 ⟨v1, rfl, ho, b1⟩
   have hS0 := (SL.of_below hbr)
   have hS1 : SL w.heap.size w w1 [pOwn cInt 1 3 v1 (F 0)] := by rw [HF0.out]; exact hS0.call (SL.ofOwn ho b1)
   clear ho b1 hbr hS0
   go_wp2_with fail
   go_loopw [27, 8, 6] (fun iv _ ov wr => ∃ j : Nat, iv = .int .i64 j ∧ j ≤ k ∧ SL w.heap.size w wr [pOwn cInt 1 3 ov (F j)]) (fun iv _ _ _ => k - (intOf iv).toNat)
   case atStart => exact ⟨0, rfl, by omega, hS1⟩
   case round =>
    clear hS1 hkn
    obtain ⟨j, rfl, hj, hSr⟩ := hrel
    by_cases hlt : j < k
    ·obtain ⟨b, d, e1, h1⟩ := HRW.out j hlt
     have hRr := hR.below hSr.b
     have hkH : (j : Int) < (H.length : Int) := by have := HH.out; omega
     have h2 := HFL.out (j + 1) (by omega)
     have h3 := HFS.out j hlt
     rw [h3, List.length_append] at h2
     have HE1 := hid e1; have HFK := hid h3
     have h1r := h1.below hSr.b
     obtain ⟨N, hN⟩ : ∃ N, N = nth X j := ⟨_, rfl⟩
     rw [← hN] at h1r h2 HE1 HFK
     have hN2 : N.length ≤ 1000 := by omega
     have hF2 : (F j).length ≤ 1000 := by omega
     clear e1 h1 h3 hN
     go_wp2_with (first | ((with_reducible refine wpList_idxN _ ((none, 0, 0) : SlH) E_sls F_sl cSl1 wU wU (hRr) (HH.out) oD oD (fun _ => wU) (fun _ => ?_)); rw [HE1.out]) | ((with_reducible refine wpList_appL 0 E_ints wU wU (hSr) wU (h1r) (rfl) cIntO (by first | omega | (simp; omega)) (by first | omega | (simp; omega)) ?_); intro v3 w3 hS3))
     exact ⟨⟨j + 1, by go_num, by omega, by rw [HFK.out]; exact hS3⟩, by simp [intOf]; omega⟩
    ·have hjk : j = k := by omega
     subst hjk
     have hjn : ¬ ((j : Int) < (j : Int)) := by omega
     clear hlt hj
     go_wp2_with fail
     go_ret
     exact ⟨_, rfl, hSr.own 0 rfl, hSr.b⟩
end Go.Proofs.YtglpfpdomnllkaaGreat

namespace Go.Proofs.YtglpfpdomnllkaaGreat
open Go.RowKit
set_option maxHeartbeats 8000000
set_option maxRecDepth 100000
theorem limited_any (a : Option Addr) (n c : Nat) (w : World) (h : n ≤ 200) : Calls Tryz.prog 80 #[.slice a n c] w fun r w' => r = .returned (.tuple #[.slice a n c, .int .i64 0]) ∧ w = w' := by
 have dn : decide (200 < (n : Int)) = false := decide_eq_false (by omega)
 go_enter Tryz.func80, Tryz.ntmps80
 go_wp2_with fail
 go_ret2
 exact ⟨rfl, rfl⟩
theorem bConcat_any (n : Nat) (a a2 : Option Addr) (c c2 : Nat) (l m : List Int) (w : World) (hS : Ints w a c l) (hM : Ints w a2 c2 m) (hl : wordE (n : Int) l = 0) (hm : wordE (n : Int) m = 0) (hlm : l.length + m.length ≤ 200) :
  Calls Tryz.prog 33 #[.int .i64 n, .slice a l.length c, .slice a2 m.length c2] w fun r w' => ∃ v, r = .returned (.tuple #[v, .int .i64 0]) ∧ OwnI w.heap.size w' v (l ++ m) ∧ Below w.heap.size w w' := by
 have HC := hid (fun W (h : Ints W a c l) (h2 : Ints W a2 c2 m) => checkBoth_any n a a2 c c2 l m W h h2 hl hm)
 have HK : Hid (∀ W b, Reps cSl 1 W b 2 [(a, l.length, c), (a2, m.length, c2)] → Ints W a c l → Ints W a2 c2 m → Calls Tryz.prog 81 #[.slice b 2 2] W fun r w' => ∃ v, r = .returned v ∧ OwnI W.heap.size w' v (l ++ m) ∧ Below W.heap.size W w') := hid fun W b hR h1 h2 => by
  have := concat_any 2 b 2 [(a, l.length, c), (a2, m.length, c2)] [l, m] W hR rfl rfl (by decide) (fun k hk => by
   rcases k with _ | _ | k
   ·exact ⟨a, c, rfl, h1⟩
   ·exact ⟨a2, c2, rfl, h2⟩
   ·omega) (by simp; omega)
  simpa using this
 have hlen : (l ++ m).length ≤ 200 := by rw [List.length_append]; exact hlm
 obtain ⟨J, hJ⟩ : ∃ J, J = l ++ m := ⟨_, rfl⟩
 rw [← hJ] at HK hlen ⊢
 have hcap := hS.le
 have hcap2 := hM.le
 clear hl hm hlm hJ
 go_enter Tryz.func33, Tryz.ntmps33
 go_wp2_with fail
 refine (HC.out w hS hM).mono ?_
 rintro e w1 ⟨rfl, b1⟩
 go_wp2_with fail
 have b2 := bal (Below.refl w1.heap.size w1) (.cells #[.slice a l.length c, .slice a2 m.length c2] 22)
 have hR2 : Reps cSl 1 (w1.alloc (.cells #[.slice a l.length c, .slice a2 m.length c2] 22)) (some ⟨w1.heap.size, 0, none⟩) 2 [(a, l.length, c), (a2, m.length, c2)] := reps_newN (w := w1) cSlS [(a, l.length, c), (a2, m.length, c2)] 2 rfl (by decide) #[.slice a l.length c, .slice a2 m.length c2] (0, 0) rfl rfl
 refine (HK.out _ _ hR2 (hS.below (bnext b1 b2)) (hM.below (bnext b1 b2))).mono ?_
 rintro e w3 ⟨v3, rfl, ho, b3⟩
 have hS0 := SL.of_below (bnext b1 b2)
 have hS3 := hS0.call (SL.ofOwn ho b3)
 obtain ⟨a3, c3, hv3, -⟩ := hS3.slice (c := cInt) 0 rfl
 subst hv3
 clear ho b3 b2 b1 hS0 hR2
 go_wp2_with fail
 refine (limited_any a3 J.length c3 w3 hlen).mono ?_
 rintro e w4 ⟨rfl, rfl⟩
 go_wp2_with fail
 go_ret2
 exact ⟨_, rfl, hS3.own 0 rfl, hS3.b⟩
end Go.Proofs.YtglpfpdomnllkaaGreat

namespace Go.Proofs.YtglpfpdomnllkaaGreat
open Go.RowKit
set_option maxHeartbeats 4000000
set_option maxRecDepth 100000
theorem bPower_any (n : Int) (a : Option Addr) (cap c : Nat) (l : List Int) (w : World) (hS : Ints w a cap l) (h : wordE n l = 0) (h0 : 0 < l.length) (hc0 : 0 < c) (hc : c ≤ 200) (hlc : l.length * c ≤ 200) :
  Calls Tryz.prog 34 #[.int .i64 n, .slice a l.length cap, .int .i64 c] w fun r w' => ∃ v, r = .returned (.tuple #[v, .int .i64 0]) ∧ OwnI w.heap.size w' v (cyc l (l.length * c)) ∧ Below w.heap.size w w' := by
 have hl := (wordE_fits h).2.2.1
 have CW := fun w (hS : Ints w a cap l) => CheckWord_any n a cap l w hS (by omega)
 rw [h] at CW
 have HW := hid CW
 have HP := hid (fun w (hS : Ints w a cap l) => Repeat_any a cap c l w hS h0 (by omega) hc0 (by omega))
 have hcl : (cyc l (l.length * c)).length ≤ 200 := by rw [cyc_len]; exact hlc
 have HCL := hid hcl
 have hS0 := SL.nil w
 have d0 : ((l.length : Int) == 0) = false := beq_eq_false_iff_ne.2 (by omega)
 have d1 : decide (200 < (c : Int)) = false := decide_eq_false (by omega)
 have d2 : decide ((c : Int) < -200) = false := decide_eq_false (by omega)
 have d3 : decide ((c : Int) < 0) = false := decide_eq_false (by omega)
 clear CW h h0 hc0 hc hlc hcl
 go_enter Tryz.func34, Tryz.ntmps34
 go_wp2_with fail
 refine (HW.out _ hS).mono ?_
 rintro e w1 ⟨rfl, b1⟩
 have hS1 := hS0.mono b1
 clear hS0
 go_wp2_with fail
 refine (HP.out _ (hS.below b1)).mono ?_
 rintro e w2 ⟨v2, rfl, ho2, b2⟩
 obtain ⟨a2, c2, rfl, _, _, _⟩ := ho2.reps
 have hS2 := hS1.call (SL.ofOwn ho2 b2)
 rw [List.append_nil] at hS2
 clear hS1 ho2
 go_wp2_with fail
 refine (blimited_any a2 c2 _ _ HCL.out).mono ?_
 rintro e w3 ⟨rfl, rfl⟩
 go_wp2_with fail
 go_ret2
 exact ⟨_, rfl, hS2.own 0 rfl, hS2.b⟩
end Go.Proofs.YtglpfpdomnllkaaGreat

namespace Go.Proofs.YtglpfpdomnllkaaGreat
open Go.RowKit
set_option maxHeartbeats 8000000
set_option maxRecDepth 100000
theorem bPower_nil (n : Int) (a : Option Addr) (cap c : Nat) (w : World) (hS : Ints w a cap []) (h : wordE n [] = 0) :
  Calls Tryz.prog 34 #[.int .i64 n, .slice a 0 cap, .int .i64 c] w fun r w' => ∃ v, r = .returned (.tuple #[v, .int .i64 0]) ∧ OwnI w.heap.size w' v [] ∧ Below w.heap.size w w' := by
 have CW := fun w (hS : Ints w a cap []) => CheckWord_any n a cap [] w hS (by decide)
 rw [h] at CW
 have HW := hid CW
 have hS0 := SL.nil w
 clear CW h
 go_enter Tryz.func34, Tryz.ntmps34
 go_wp2_with fail
 refine (HW.out _ hS).mono ?_
 rintro e w1 ⟨rfl, b1⟩
 go_wp2_with fail
 go_ret2
 exact ⟨_, rfl, own_nil cIntS, b1⟩
theorem bPower2_any (n : Int) (a : Option Addr) (cap : Nat) (l : List Int) (w : World) (hS : Ints w a cap l) (h : wordE n l = 0) (hl : l.length ≤ 100) :
  Calls Tryz.prog 34 #[.int .i64 n, .slice a l.length cap, .int .i64 2] w fun r w' => ∃ v, r = .returned (.tuple #[v, .int .i64 0]) ∧ OwnI w.heap.size w' v (l ++ l) ∧ Below w.heap.size w w' := by
 rcases Nat.eq_zero_or_pos l.length with h0 | h0
 ·obtain rfl := List.eq_nil_of_length_eq_zero h0
  exact bPower_nil n a cap 2 w hS h
 ·have h3 := bPower_any n a cap 2 l w hS h h0 (by decide) (by decide) (by omega)
  rw [cyc_two] at h3
  exact h3
theorem wrdE_ok4 {m : MacV} {l : List Int} (hz : loadE m l = 0) (hr : m.ring = false) (hl : l.length ≤ 4) {n : Nat} (h1 : n ≤ 48) (hm : meetsM m l n = false) : wrdE m l n = 0 ∧ (wrdL m l n).length ≤ l.length * n := by
 have hw := wvM_few (loadE_zero hz) n
 have h4 : l.length * n ≤ 4 * 48 := Nat.mul_le_mul hl h1
 have hq : (wrdL m l n).length ≤ l.length * n := hw
 refine ⟨?_, hq⟩
 unfold wrdE
 rw [weaveE_ok hz hr (by omega) (Int.natCast_nonneg n) (by omega) hm, if_neg (by decide), if_neg (by omega)]
theorem invW_len (w : List Int) : (invW w).length = w.length := by simp [invW]
theorem invW_rng {k : Nat} {w : List Int} (h : LetRng k w) : LetRng k (invW w) := fun x hx => by
 unfold invW at hx
 obtain ⟨y, hy, rfl⟩ := List.mem_map.1 (List.mem_reverse.1 hx)
 rw [absI_neg]
 exact h y hy
/-- what is asked of the word of a whole round. -/
structure Rnd (m : MacV) (ad al : Option Addr) (cap cl : Nat) (l : List Int) (P : Nat) (O I : List Int) : Prop where
 one : ∀ w, Ints w ad cap m.sw → Ints w al cl l → Calls Tryz.prog 13 #[mV m ad cap, .slice al l.length cl, .int .i64 P] w fun r w' => ∃ v, r = .returned (.tuple #[v, .int .i64 0]) ∧ OwnI w.heap.size w' v (O) ∧ Below w.heap.size w w'
 two : ∀ w, Ints w ad cap m.sw → Ints w al cl l → Calls Tryz.prog 13 #[mV m ad cap, .slice al l.length cl, .int .i64 ((P + P : Nat) : Int)] w fun r w' => ∃ v, r = .returned (.tuple #[v, .int .i64 0]) ∧ OwnI w.heap.size w' v (O ++ O) ∧ Below w.heap.size w w'
 pow : ∀ (a : Option Addr) (c : Nat) w, Ints w a c O → Calls Tryz.prog 34 #[.int .i64 l.length, .slice a O.length c, .int .i64 2] w fun r w' => ∃ v, r = .returned (.tuple #[v, .int .i64 0]) ∧ OwnI w.heap.size w' v (O ++ O) ∧ Below w.heap.size w w'
 perm : ∀ (a : Option Addr) (c : Nat) w, Ints w a c O → Calls Tryz.prog 24 #[.int .i64 l.length, .slice a O.length c] w fun r w' => ∃ v, r = .returned (.tuple #[v, .int .i64 0]) ∧ OwnI w.heap.size w' v (idL l.length) ∧ Below w.heap.size w w'
 inv : ∀ (a : Option Addr) (c : Nat) w, Ints w a c O → Calls Tryz.prog 35 #[.int .i64 l.length, .slice a O.length c] w fun r w' => ∃ v, r = .returned (.tuple #[v, .int .i64 0]) ∧ OwnI w.heap.size w' v (I) ∧ Below w.heap.size w w'
 same : O.length ≤ 40 → ∀ (a b : Option Addr) (c d : Nat) w, Ints w a c (O ++ I ++ O) → Ints w b d O → Calls Tryz.prog 37 #[.int .i64 l.length, .slice a (O ++ I ++ O).length c, .slice b O.length d] w fun r w' => r = .returned (.tuple #[.bool true, .int .i64 0]) ∧ Below w.heap.size w w'
 oLe : O.length ≤ 96
 iLe : I.length ≤ 96
theorem rnd_ok (m : MacV) (ad al : Option Addr) (cap cl : Nat) (l : List Int) (hI : InI m.gears) (hz : loadE m l = 0) (hr : m.ring = false) (hl0 : 0 < l.length) (hl : l.length ≤ 4) (P : Nat) (hP : P ≤ 24) (hb : atL m l P = l) (hm2 : meetsM m l ((P + P : Nat) : Int) = false) :
  ∃ O I, Rnd m ad al cap cl l P O I := by
 have hlk := loadE_zero hz
 have KL : ∀ (a : Option Addr) (c : Nat) (q : List Int), ChkL m ad cap a c q := fun a c q => CheckLoad_any m ad cap a c q fun w h => CheckMachine_any m ad cap w h hI
 have hm1 : meetsM m l (P : Int) = false := by have := meets_later hlk (a := 0) (b := P) hm2 (by omega); rwa [atL_zero] at this
 obtain ⟨e1, q1⟩ := wrdE_ok4 hz hr hl (n := P) (by omega) hm1
 obtain ⟨e2, -⟩ := wrdE_ok4 hz hr hl (n := P + P) (by omega) hm2
 have q3 : l.length * P ≤ 4 * 24 := Nat.mul_le_mul hl hP
 have hR : LetRng l.length (wrdL m l P) := wrd_rng hr hlk hm1
 have hE : wordE ((l.length : Nat) : Int) (wrdL m l P) = 0 := wordE_fit (by omega) (by omega) (by omega) hR
 have hw2 := word_round hr hlk hm2 hb
 have hp := perm_round hr hlk hm1 hb
 refine ⟨wrdL m l P, invW (wrdL m l P), ?_, ?_, ?_, ?_, ?_, ?_, by omega, by rw [invW_len]; omega⟩
 ·intro w h h2
  have h3 := mWord_any m ad cap al cl l P w h h2 (KL _ _ _)
  rw [e1, if_pos rfl] at h3
  exact h3
 ·intro w h h2
  have h3 := mWord_any m ad cap al cl l ((P + P : Nat) : Int) w h h2 (KL _ _ _)
  rw [e2, if_pos rfl, hw2] at h3
  exact h3
 ·intro a c w h
  exact bPower2_any _ a c _ w h hE (by omega)
 ·intro a c w h
  have h3 := bPerm_any l.length a c _ w h hE
  rw [hp] at h3
  exact h3
 ·intro a c w h
  exact Inverse_any l.length a c _ w h hE
 ·intro h40 a b c d w h h2
  have h3 := Equal_any l.length a b c d _ _ w h h2 (wordE_fit (by omega) (by omega) (by simp only [List.length_append, invW_len]; omega) (fun x hx => by
   rcases List.mem_append.1 hx with hx | hx
   ·rcases List.mem_append.1 hx with hx | hx
    ·exact hR x hx
    ·exact invW_rng hR x hx
   ·exact hR x hx)) hE
  rw [decide_eq_true (form_again (wordOk_rng hR))] at h3
  exact h3
end Go.Proofs.YtglpfpdomnllkaaGreat

namespace Go.Proofs.YtglpfpdomnllkaaGreat
open Go.RowKit
set_option maxHeartbeats 8000000
set_option maxRecDepth 100000
theorem hr_main (m : MacV) (ad al : Option Addr) (cap cl : Nat) (l : List Int) (x y : Int) (w : World) (hR : Ints w ad cap m.sw) (hL : Ints w al cl l) (hI : InI m.gears) (hx0 : ¬ x < 0) (hy0 : ¬ y < 0) (hy1 : ¬ 24 < y) (hM : Made m l x) (hg4 : m.gears ≤ 4) (hl4 : l.length ≤ 4) (hme0 : meetsM m l (x + y) = false) :
  Calls Tryz.prog 5 #[mV m ad cap, .slice al l.length cl, .agg #[.int .i64 x, .int .i64 y]] w fun r w' => r = .returned (.bool true) ∧ Below w.heap.size w w' := by
 obtain ⟨A, rfl⟩ : ∃ A : Nat, x = A := ⟨x.toNat, by have := hM.2.2.2.1; omega⟩
 obtain ⟨B, rfl⟩ : ∃ B : Nat, y = B := ⟨y.toNat, by omega⟩
 obtain ⟨N, hN⟩ : ∃ N : Nat, N = A + B := ⟨_, rfl⟩
 have hAB : IntKind.i64.wrap ((A : Int) + (B : Int)) = (N : Int) := by rw [show (A : Int) + (B : Int) = (N : Int) by omega]; exact IntWalk.i64_in _ (by have := hM.2.2.2.2.1; omega)
 have hme : meetsM m l (N : Int) = false := by rw [show (N : Int) = (A : Int) + (B : Int) by omega]; exact hme0
 have hMA := hM
 obtain ⟨hf, h0, hr, -, n1, hm1⟩ := hM
 have hA : A ≤ 24 := by omega
 have hB : B ≤ 24 := by omega
 have he := hf.2.2.2
 have hlk := loadE_zero he
 have hlo := hlk.ok.lo
 have hhi := hlk.ok.hi
 have KL : ∀ (a : Option Addr) (c : Nat) (q : List Int), ChkL m ad cap a c q := fun a c q => CheckLoad_any m ad cap a c q fun w h => CheckMachine_any m ad cap w h hI
 have hmB : meetsM m (atL m l A) (B : Int) = false := meets_later hlk hme (by omega)
 have eA := wrdE_ok4 he hr hl4 (n := A) (by omega) hm1
 have eB := wrdE_ok4 (atL_load hlk A) hr (by rw [atL_len]; omega) (n := B) (by omega) hmB
 have eN := wrdE_ok4 he hr hl4 (n := N) (by omega) hme
 have qA : l.length * A ≤ 4 * 24 := Nat.mul_le_mul hl4 hA
 have qB : l.length * B ≤ 4 * 24 := Nat.mul_le_mul hl4 hB
 have hqb := eB.2
 rw [atL_len] at hqb
 have rA : LetRng l.length (wrdL m l A) := wrd_rng hr hlk hm1
 have rB : LetRng l.length (wrdL m (atL m l A) B) := by have := wrd_rng hr (loadE_zero (atL_load hlk A)) hmB; rwa [atL_len] at this
 have wA : wordE ((l.length : Nat) : Int) (wrdL m l A) = 0 := wordE_fit (by omega) (by omega) (by omega) rA
 have wB : wordE ((l.length : Nat) : Int) (wrdL m (atL m l A) B) = 0 := wordE_fit (by omega) (by omega) (by omega) rB
 have htwo : wrdL m l (N : Int) = wrdL m l A ++ wrdL m (atL m l A) B := by rw [hN] at hme ⊢; exact wrd_two hr hlk hme
 have CMA := fun w (h : Ints w ad cap m.sw) (h2 : Ints w al cl l) => made_ok m ad al cap cl l A w h h2 hf h0 hr (by omega) (by omega) hm1
 have CME := fun w h h2 => rMeets_any m ad cap al cl l N w h h2 hlo hhi hlk.rng (by omega) hlk.nodup
 rw [hme] at CME
 have CM2 := fun (P : Nat) w h h2 => rMeets_any m ad cap al cl l ((P + P : Nat) : Int) w h h2 hlo hhi hlk.rng (by omega) hlk.nodup
 have hst : ∀ k : Nat, k ≤ 100 → stepsE m l k = 0 := fun k hk => by unfold stepsE; rw [if_neg (by simp [he]), if_neg (by omega)]
 have CST : ∀ k : Nat, k ≤ 100 → ∀ w, Ints w ad cap m.sw → Ints w al cl l → Calls Tryz.prog 31 #[mV m ad cap, .slice al l.length cl, .int .i64 k] w fun r w' => ∃ v, r = .returned (.tuple #[v, .int .i64 0]) ∧ OwnI w.heap.size w' v (atL m l k) ∧ Below w.heap.size w w' := by
  intro k hk w h h2; have h3 := mSteps_any m ad cap al cl l k w h h2 (KL _ _ _); rw [hst k hk, if_pos rfl] at h3; exact h3
 have CWA : ∀ w, Ints w ad cap m.sw → Ints w al cl l → Calls Tryz.prog 13 #[mV m ad cap, .slice al l.length cl, .int .i64 A] w fun r w' => ∃ v, r = .returned (.tuple #[v, .int .i64 0]) ∧ OwnI w.heap.size w' v (wrdL m l A) ∧ Below w.heap.size w w' := by
  intro w h h2; have h3 := mWord_any m ad cap al cl l A w h h2 (KL _ _ _); rw [eA.1, if_pos rfl] at h3; exact h3
 have CWB : ∀ (a : Option Addr) (c : Nat) w, Ints w ad cap m.sw → Ints w a c (atL m l A) → Calls Tryz.prog 13 #[mV m ad cap, .slice a (atL m l A).length c, .int .i64 B] w fun r w' => ∃ v, r = .returned (.tuple #[v, .int .i64 0]) ∧ OwnI w.heap.size w' v (wrdL m (atL m l A) B) ∧ Below w.heap.size w w' := by
  intro a c w h h2; have h3 := mWord_any m ad cap a c (atL m l A) B w h h2 (KL _ _ _); rw [eB.1, if_pos rfl] at h3; exact h3
 have CWN : ∀ w, Ints w ad cap m.sw → Ints w al cl l → Calls Tryz.prog 13 #[mV m ad cap, .slice al l.length cl, .int .i64 N] w fun r w' => ∃ v, r = .returned (.tuple #[v, .int .i64 0]) ∧ OwnI w.heap.size w' v (wrdL m l N) ∧ Below w.heap.size w w' := by
  intro w h h2; have h3 := mWord_any m ad cap al cl l N w h h2 (KL _ _ _); rw [eN.1, if_pos rfl] at h3; exact h3
 have CCC := fun (a b : Option Addr) (c d : Nat) w (h : Ints w a c (wrdL m l A)) (h2 : Ints w b d (wrdL m (atL m l A) B)) => bConcat_any l.length a b c d _ _ w h h2 wA wB (by omega)
 rw [← htwo] at CCC
 have hwn : (wrdL m l N).length ≤ 200 := by rw [htwo, List.length_append]; omega
 have CSI := fun (k : Nat) (a : Option Addr) (c : Nat) w (h : Ints w a c (atL m l k)) (h2 : Ints w al cl l) => SameInts_any a al c cl (atL m l k) l w h h2 (by rw [atL_len]; omega)
 have CRN := fun (P : Nat) (hP : P ≤ 24) (hb : atL m l P = l) hm2 => rnd_ok m ad al cap cl l hI he hr h0 hl4 P hP hb hm2
 have CID := fun w => rIdentity_any l.length w (by omega)
 have HMA := hid CMA; have HME := hid CME; have HM2 := hid CM2; have HST := hid CST; have HWA := hid CWA; have HWB := hid CWB; have HWN := hid CWN; have HCC := hid CCC; have HSI := hid CSI; have HRN := hid CRN; have HID := hid CID
 have dA0 : decide ((A : Int) < 0) = false := decide_eq_false (by omega)
 have dB0 : decide ((B : Int) < 0) = false := decide_eq_false (by omega)
 have dA1 : decide (24 < (A : Int)) = false := decide_eq_false (by omega)
 have dB1 : decide (24 < (B : Int)) = false := decide_eq_false (by omega)
 have dG : decide (4 < m.gears) = false := decide_eq_false (by omega)
 have dL : decide (4 < (l.length : Int)) = false := decide_eq_false (by omega)
 have HW0 : Hid ((idL l.length).length = l.length) := hid (idL_len _)
 clear CMA CME CM2 CST CWA CWB CWN CCC CSI CRN CID hst htwo wA wB rA rB eA eB eN qA qB hqb hmB hme hme0 hm1 KL hlk he hf hr n1 hMA hI hN hB hg4 hlo hhi hx0 hy0 hy1
 have hS0 := ((SL.nil w).box (.cells (mC m ad cap) 24)).box (.cells #[.int .i64 (A : Int), .int .i64 (B : Int)] 60)
 simp only [World.size_alloc] at hS0
 have HHW := hid hawserWeaves_any
 have hlc := hL.le
 have hlm := hL.max
 go_enter Tryz.func5, Tryz.ntmps5
 go_wp2_with (first | (with_reducible refine wpList_ldS (n := 4) (us := mC m ad cap) A_mach kR wU wU (by assumption) wU wU ?_) | (with_reducible refine wpList_ldB (by first | exact F_int | fail) wU wU (by assumption) wU ?_))
 refine (HMA.out _ (hR.below hS0.b) (hL.below hS0.b)).mono ?_
 rintro e w1 ⟨rfl, b1⟩
 have hS1 := hS0.mono b1
 have qn := (hS1.blk 0 rfl).1
 have qm := (hS1.blk 1 rfl).1
 have t1 := hS1.b
 clear hS0 hS1 b1
 go_wp2_with (first | (with_reducible refine wpList_ldS (n := 4) (us := mC m ad cap) A_mach kR wU wU (by assumption) wU wU ?_) | (with_reducible refine wpList_ldB (by first | exact F_int | fail) wU wU (by assumption) wU ?_))
 refine (HME.out _ (hR.below t1) (hL.below t1)).mono ?_
 rintro e w2 ⟨rfl, b2⟩
 replace qm := (b2.block _ (Array.getElem?_eq_some_iff.1 qm).1).trans qm
 replace qn := (b2.block _ (Array.getElem?_eq_some_iff.1 qn).1).trans qn
 have t2 := bnext t1 b2
 clear t1 b2
 go_wp2_with (first | (with_reducible refine wpList_ldS (n := 4) (us := mC m ad cap) A_mach kR wU wU (by assumption) wU wU ?_) | (with_reducible refine wpList_ldB (by first | exact F_int | fail) wU wU (by assumption) wU ?_))
 refine (HST.out A (by omega) _ (hR.below t2) (hL.below t2)).mono ?_
 rintro e w3 ⟨v3, rfl, ho3, b3⟩
 obtain ⟨aM, cM, rfl, hM, _, _⟩ := ho3.reps
 clear ho3
 replace qm := (b3.block _ (Array.getElem?_eq_some_iff.1 qm).1).trans qm
 replace qn := (b3.block _ (Array.getElem?_eq_some_iff.1 qn).1).trans qn
 have t3 := bnext t2 b3
 clear t2 b3
 go_wp2_with (first | (with_reducible refine wpList_ldS (n := 4) (us := mC m ad cap) A_mach kR wU wU (by assumption) wU wU ?_) | (with_reducible refine wpList_ldB (by first | exact F_int | fail) wU wU (by assumption) wU ?_))
 refine (HWA.out _ (hR.below t3) (hL.below t3)).mono ?_
 rintro e w4 ⟨v4, rfl, ho4, b4⟩
 obtain ⟨aU, cU, rfl, hU, _, _⟩ := ho4.reps
 clear ho4
 replace qm := (b4.block _ (Array.getElem?_eq_some_iff.1 qm).1).trans qm
 replace qn := (b4.block _ (Array.getElem?_eq_some_iff.1 qn).1).trans qn
 replace hM := hM.below b4
 have t4 := bnext t3 b4
 clear t3 b4
 go_wp2_with (first | (with_reducible refine wpList_ldS (n := 4) (us := mC m ad cap) A_mach kR wU wU (by assumption) wU wU ?_) | (with_reducible refine wpList_ldB (by first | exact F_int | fail) wU wU (by assumption) wU ?_))
 refine (HWB.out aM cM _ (hR.below t4) hM).mono ?_
 rintro e w5 ⟨v5, rfl, ho5, b5⟩
 obtain ⟨aV, cV, rfl, hV, _, _⟩ := ho5.reps
 clear ho5
 replace qm := (b5.block _ (Array.getElem?_eq_some_iff.1 qm).1).trans qm
 replace qn := (b5.block _ (Array.getElem?_eq_some_iff.1 qn).1).trans qn
 replace hM := hM.below b5
 replace hU := hU.below b5
 have t5 := bnext t4 b5
 clear t4 b5
 clear hM
 go_wp2_with (first | (with_reducible refine wpList_ldS (n := 4) (us := mC m ad cap) A_mach kR wU wU (by assumption) wU wU ?_) | (with_reducible refine wpList_ldB (by first | exact F_int | fail) wU wU (by assumption) wU ?_))
 refine (HWN.out _ (hR.below t5) (hL.below t5)).mono ?_
 rintro e w6 ⟨v6, rfl, ho6, b6⟩
 obtain ⟨aW, cW, rfl, hW, _, _⟩ := ho6.reps
 clear ho6
 replace qm := (b6.block _ (Array.getElem?_eq_some_iff.1 qm).1).trans qm
 replace qn := (b6.block _ (Array.getElem?_eq_some_iff.1 qn).1).trans qn
 replace hU := hU.below b6
 replace hV := hV.below b6
 have t6 := bnext t5 b6
 clear t5 b6
 go_wp2_with fail
 refine (HCC.out aU aV cU cV _ hU hV).mono ?_
 rintro e w7 ⟨v7, rfl, ho7, b7⟩
 obtain ⟨aC, cC, rfl, hC, _, _⟩ := ho7.reps
 clear ho7
 replace qm := (b7.block _ (Array.getElem?_eq_some_iff.1 qm).1).trans qm
 replace qn := (b7.block _ (Array.getElem?_eq_some_iff.1 qn).1).trans qn
 replace hU := hU.below b7
 replace hV := hV.below b7
 replace hW := hW.below b7
 have t7 := bnext t6 b7
 clear t6 b7
 clear hU hV
 go_wp2_with fail
 refine (amSame aC aW cC cW _ (wrdL m l N) _ hC hW rfl (by omega)).mono ?_
 rintro e w8 ⟨rfl, b8⟩
 replace qm := (b8.block _ (Array.getElem?_eq_some_iff.1 qm).1).trans qm
 replace qn := (b8.block _ (Array.getElem?_eq_some_iff.1 qn).1).trans qn
 replace hW := hW.below b8
 replace hC := hC.below b8
 have t8 := bnext t7 b8
 clear t7 b8
 clear hC hW
 clear HMA HME HWA HWB HWN HCC dA0 dA1 dB0 dB1 dG dL hAB hwn qn
 obtain ⟨wz, hwz⟩ : ∃ wz, wz = w8 := ⟨_, rfl⟩
 rw [← hwz] at t8 qm ⊢
 clear hwz
 have tz := t8
 clear t8
 go_wp2_with fail
 go_loopw [19, 18] (fun iv pv wr => ∃ i p : Nat, 1 ≤ i ∧ i ≤ 25 ∧ iv = .int .i64 i ∧ pv = .int .i64 p ∧ p ≤ 24 ∧ (p = 0 ∨ atL m l p = l) ∧ Below wz.heap.size wz wr) (fun iv _ _ => 25 - (intOf iv).toNat)
 case atStart => exact ⟨1, 0, by omega, by omega, rfl, rfl, by omega, .inl rfl, Below.refl _ _⟩
 case round =>
  obtain ⟨i, p, hi1, hi2, rfl, rfl, hp, hpb, hbr⟩ := hrel
  have tr := bnext tz hbr
  have qr := (hbr.block _ (Array.getElem?_eq_some_iff.1 qm).1).trans qm
  obtain ⟨wy, hwy⟩ : ∃ wy, wy = wr := ⟨_, rfl⟩
  rw [← hwy] at tr qr hbr
  rw [← hwy]
  clear hwy
  rcases Nat.eq_zero_or_pos p with h00 | hpp
  ·subst h00
   by_cases h24 : i ≤ 24
   ·have d1 : decide ((i : Int) ≤ 24) = true := decide_eq_true (by omega)
    clear hpb
    go_wp2_with (with_reducible refine wpList_ldS (n := 4) (us := mC m ad cap) A_mach kR wU wU (by assumption) wU wU ?_)
    refine (HST.out i (by omega) _ (hR.below tr) (hL.below tr)).mono ?_
    rintro e w31 ⟨v31, rfl, ho31, b31⟩
    obtain ⟨aN, cN, rfl, hN, _, _⟩ := ho31.reps
    clear ho31
    have tr2 := bnext tr b31
    have hbr2 := bnext hbr b31
    go_wp2_with fail
    refine (HSI.out i aN cN _ hN (hL.below tr2)).mono ?_
    rintro e w32 ⟨rfl, b32⟩
    have hbr3 := bnext hbr2 b32
    by_cases hsm : atL m l i = l
    ·have d2 : decide (atL m l i = l) = true := decide_eq_true hsm
     have HSM := hid hsm
     clear hsm hN
     go_wp2_with fail
     exact ⟨⟨i + 1, i, by omega, by omega, by go_num, rfl, by omega, .inr HSM.out, hbr3⟩, by simp [intOf]; omega⟩
    ·have d2 : decide (atL m l i = l) = false := decide_eq_false hsm
     clear hsm hN
     go_wp2_with fail
     exact ⟨⟨i + 1, 0, by omega, by omega, by go_num, rfl, by omega, .inl rfl, hbr3⟩, by simp [intOf]; omega⟩
   ·have d1 : decide ((i : Int) ≤ 24) = false := decide_eq_false (by omega)
    clear hpb h24
    go_wp2_with (with_reducible refine wpList_ldS (n := 4) (us := mC m ad cap) A_mach kR wU wU (by assumption) wU wU ?_)
    refine (HHW.out _).mono ?_
    rintro e w31 ⟨rfl, b31⟩
    go_wp2_with fail
    go_ret
    exact ⟨rfl, bnext tr b31⟩
  ·have hback : atL m l p = l := hpb.resolve_left (by omega)
   have HBK := hid hback
   have dp : ((p : Int) == 0) = false := beq_eq_false_iff_ne.2 (by omega)
   have hwp : IntKind.i64.wrap (2 * (p : Int)) = ((p + p : Nat) : Int) := by rw [IntWalk.i64_in _ (by omega)]; omega
   have C2 := fun w h h2 => HM2.out p w h h2
   obtain ⟨pp, hpp2⟩ : ∃ pp : Int, pp = ((p + p : Nat) : Int) := ⟨_, rfl⟩
   rw [← hpp2] at C2 hwp
   have HPP := hid hpp2
   clear hpb hback hpp2
   cases hm2 : meetsM m l pp with
   | true =>
    rw [hm2] at C2
    have HC2 := hid C2
    clear C2 hm2
    by_cases h24 : i ≤ 24
    ·have d1 : decide ((i : Int) ≤ 24) = true := decide_eq_true (by omega)
     clear h24
     go_wp2_with (with_reducible refine wpList_ldS (n := 4) (us := mC m ad cap) A_mach kR wU wU (by assumption) wU wU ?_)
     refine (HC2.out _ (hR.below tr) (hL.below tr)).mono ?_
     rintro e w31 ⟨rfl, b31⟩
     go_wp2_with fail
     refine (HHW.out _).mono ?_
     rintro e w32 ⟨rfl, b32⟩
     go_wp2_with fail
     go_ret
     exact ⟨rfl, bnext tr (bnext b31 b32)⟩
    ·have d1 : decide ((i : Int) ≤ 24) = false := decide_eq_false (by omega)
     clear h24
     go_wp2_with (with_reducible refine wpList_ldS (n := 4) (us := mC m ad cap) A_mach kR wU wU (by assumption) wU wU ?_)
     refine (HC2.out _ (hR.below tr) (hL.below tr)).mono ?_
     rintro e w31 ⟨rfl, b31⟩
     go_wp2_with fail
     refine (HHW.out _).mono ?_
     rintro e w32 ⟨rfl, b32⟩
     go_wp2_with fail
     go_ret
     exact ⟨rfl, bnext tr (bnext b31 b32)⟩
   | false =>
    rw [hm2] at C2
    have HC2 := hid C2
    obtain ⟨O, I, hRND⟩ := HRN.out p hp HBK.out (by rw [← HPP.out]; exact hm2)
    have CO := hRND.one; have CT := hRND.two; have CP := hRND.pow; have CQ := hRND.perm; have CI := hRND.inv; have CE := hRND.same
    have ho96 := hRND.oLe
    have hi96 := hRND.iLe
    rw [← HPP.out] at CT
    have hoo : (O ++ O).length ≤ 192 := by rw [List.length_append]; omega
    obtain ⟨OO, hOO⟩ : ∃ OO, OO = O ++ O := ⟨_, rfl⟩
    obtain ⟨J, hJJ⟩ : ∃ J, J = idL l.length := ⟨_, rfl⟩
    rw [← hOO] at CT CP hoo
    rw [← hJJ] at CQ
    have hjl : J.length ≤ 4 := by rw [hJJ, HW0.out]; exact hl4
    have CJ := HID.out
    rw [← hJJ] at CJ
    clear hOO hJJ
    have HJ := hid CJ
    have HO := hid CO; have HT := hid CT; have HP := hid CP; have HQ := hid CQ; have HI := hid CI; have HE := hid CE
    clear C2 hm2 hRND CO CT CP CQ CI CE CJ HRN HM2 HST HSI HID HW0
    by_cases h24 : i ≤ 24
    ·have d1 : decide ((i : Int) ≤ 24) = true := decide_eq_true (by omega)
     clear h24
     as_aux_lemma =>
      obtain ⟨w30, hw30⟩ : ∃ w30, w30 = wy := ⟨_, rfl⟩
      rw [← hw30] at tr qr
      rw [← hw30]
      have t30 := tr
      have qm := qr
      clear hw30 hbr tr qr tz
      go_wp2_with (with_reducible refine wpList_ldS (n := 4) (us := mC m ad cap) A_mach kR wU wU (by assumption) wU wU ?_)
      refine (HC2.out _ (hR.below t30) (hL.below t30)).mono ?_
      rintro e w31 ⟨rfl, b31⟩
      replace qm := (b31.block _ (Array.getElem?_eq_some_iff.1 qm).1).trans qm
      have t31 := bnext t30 b31
      clear t30 b31
      go_wp2_with (with_reducible refine wpList_ldS (n := 4) (us := mC m ad cap) A_mach kR wU wU (by assumption) wU wU ?_)
      refine (HO.out _ (hR.below t31) (hL.below t31)).mono ?_
      rintro e w32 ⟨v32, rfl, ho32, b32⟩
      obtain ⟨aO, cO, rfl, hO, _, _⟩ := ho32.reps
      clear ho32
      replace qm := (b32.block _ (Array.getElem?_eq_some_iff.1 qm).1).trans qm
      have t32 := bnext t31 b32
      clear t31 b32
      go_wp2_with (with_reducible refine wpList_ldS (n := 4) (us := mC m ad cap) A_mach kR wU wU (by assumption) wU wU ?_)
      refine (HT.out _ (hR.below t32) (hL.below t32)).mono ?_
      rintro e w33 ⟨v33, rfl, ho33, b33⟩
      obtain ⟨aT, cT, rfl, hT, _, _⟩ := ho33.reps
      clear ho33
      replace qm := (b33.block _ (Array.getElem?_eq_some_iff.1 qm).1).trans qm
      replace hO := hO.below b33
      have t33 := bnext t32 b33
      clear t32 b33
      go_wp2_with (with_reducible refine wpList_ldS (n := 4) (us := mC m ad cap) A_mach kR wU wU (by assumption) wU wU ?_)
      refine (HP.out aO cO _ hO).mono ?_
      rintro e w34 ⟨v34, rfl, ho34, b34⟩
      obtain ⟨aP, cP, rfl, hP, _, _⟩ := ho34.reps
      clear ho34
      replace qm := (b34.block _ (Array.getElem?_eq_some_iff.1 qm).1).trans qm
      replace hO := hO.below b34
      replace hT := hT.below b34
      have t34 := bnext t33 b34
      clear t33 b34
      go_wp2_with fail
      refine (HQ.out aO cO _ hO).mono ?_
      rintro e w35 ⟨v35, rfl, ho35, b35⟩
      obtain ⟨aQ, cQ, rfl, hQ, _, _⟩ := ho35.reps
      clear ho35
      replace qm := (b35.block _ (Array.getElem?_eq_some_iff.1 qm).1).trans qm
      replace hO := hO.below b35
      replace hT := hT.below b35
      replace hP := hP.below b35
      have t35 := bnext t34 b35
      clear t34 b35
      go_wp2_with fail
      refine (HI.out aO cO _ hO).mono ?_
      rintro e w36 ⟨v36, rfl, ho36, b36⟩
      obtain ⟨aI, cI, rfl, hI, _, _⟩ := ho36.reps
      clear ho36
      replace qm := (b36.block _ (Array.getElem?_eq_some_iff.1 qm).1).trans qm
      replace hO := hO.below b36
      replace hT := hT.below b36
      replace hP := hP.below b36
      replace hQ := hQ.below b36
      have t36 := bnext t35 b36
      clear t35 b36
      go_wp2_with fail
      refine (amSame aP aT cP cT _ OO _ hP hT rfl (by omega)).mono ?_
      rintro e w37 ⟨rfl, b37⟩
      replace qm := (b37.block _ (Array.getElem?_eq_some_iff.1 qm).1).trans qm
      replace hO := hO.below b37
      replace hT := hT.below b37
      replace hP := hP.below b37
      replace hQ := hQ.below b37
      replace hI := hI.below b37
      have t37 := bnext t36 b37
      clear t36 b37
      clear hP hT
      go_wp2_with fail
      refine (HJ.out _).mono ?_
      rintro e w38 ⟨v38, rfl, ho38, b38⟩
      obtain ⟨aJ, cJ, rfl, hJ, _, _⟩ := ho38.reps
      clear ho38
      replace qm := (b38.block _ (Array.getElem?_eq_some_iff.1 qm).1).trans qm
      replace hO := hO.below b38
      replace hQ := hQ.below b38
      replace hI := hI.below b38
      have t38 := bnext t37 b38
      clear t37 b38
      go_wp2_with fail
      refine (amSame aQ aJ cQ cJ _ J _ hQ hJ rfl (by omega)).mono ?_
      rintro e w39 ⟨rfl, b39⟩
      replace qm := (b39.block _ (Array.getElem?_eq_some_iff.1 qm).1).trans qm
      replace hO := hO.below b39
      replace hQ := hQ.below b39
      replace hI := hI.below b39
      replace hJ := hJ.below b39
      have t39 := bnext t38 b39
      clear t38 b39
      clear hQ hJ
      by_cases h40 : O.length ≤ 40
      ·have d4 : decide (40 < (O.length : Int)) = false := decide_eq_false (by omega)
       have CE := HE.out h40
       have HE2 := hid CE
       clear CE HE h40
       have hZ := SL.nil w39
       have hB1 := hZ.call (SL.ofOwn (own_newN (e := 3) (w := w39) cIntS [] 0 rfl (by decide) #[] rfl (Nat.le_refl _) rfl) (bal (Below.refl _ _) _))
       rw [List.append_nil] at hB1
       go_wp2_with (first | ((with_reducible refine wpList_appL 0 E_ints wU wU (hB1) wU ((hO.below hB1.b)) (rfl) cIntO (by first | omega | (simp; omega)) (by first | omega | (simp; omega)) ?_); intro vA wA hA1) | ((with_reducible refine wpList_appL 0 E_ints wU wU (hA1) wU ((hI.below hA1.b)) (rfl) cIntO (by first | omega | (simp; omega)) (by first | omega | (simp; omega)) ?_); intro vB wB hA2) | ((with_reducible refine wpList_appL 0 E_ints wU wU (hA2) wU ((hO.below hA2.b)) (rfl) cIntO (by first | omega | (simp; omega)) (by first | omega | (simp; omega)) ?_); intro vC wC hA3))
       simp only [List.set_cons_zero, List.nil_append] at hA3
       obtain ⟨aD, cD, rfl, _⟩ := hA3.slice 0 rfl
       refine (HE2.out aD aO cD cO _ (hA3.rd 0 rfl) (hO.below hA3.b)).mono ?_
       rintro e w50 ⟨rfl, b50⟩
       go_wp2_with fail
       refine (HHW.out _).mono ?_
       rintro e w51 ⟨rfl, b51⟩
       go_wp2_with fail
       go_ret
       exact ⟨rfl, bnext t39 (bnext hA3.b (bnext b50 b51))⟩
      ·have d4 : decide (40 < (O.length : Int)) = true := decide_eq_true (by omega)
       clear h40
       go_wp2_with fail
       refine (HHW.out _).mono ?_
       rintro e w51 ⟨rfl, b51⟩
       go_wp2_with fail
       go_ret
       exact ⟨rfl, bnext t39 b51⟩
    ·have d1 : decide ((i : Int) ≤ 24) = false := decide_eq_false (by omega)
     clear h24
     as_aux_lemma =>
      obtain ⟨w30, hw30⟩ : ∃ w30, w30 = wy := ⟨_, rfl⟩
      rw [← hw30] at tr qr
      rw [← hw30]
      have t30 := tr
      have qm := qr
      clear hw30 hbr tr qr tz
      go_wp2_with (with_reducible refine wpList_ldS (n := 4) (us := mC m ad cap) A_mach kR wU wU (by assumption) wU wU ?_)
      refine (HC2.out _ (hR.below t30) (hL.below t30)).mono ?_
      rintro e w31 ⟨rfl, b31⟩
      replace qm := (b31.block _ (Array.getElem?_eq_some_iff.1 qm).1).trans qm
      have t31 := bnext t30 b31
      clear t30 b31
      go_wp2_with (with_reducible refine wpList_ldS (n := 4) (us := mC m ad cap) A_mach kR wU wU (by assumption) wU wU ?_)
      refine (HO.out _ (hR.below t31) (hL.below t31)).mono ?_
      rintro e w32 ⟨v32, rfl, ho32, b32⟩
      obtain ⟨aO, cO, rfl, hO, _, _⟩ := ho32.reps
      clear ho32
      replace qm := (b32.block _ (Array.getElem?_eq_some_iff.1 qm).1).trans qm
      have t32 := bnext t31 b32
      clear t31 b32
      go_wp2_with (with_reducible refine wpList_ldS (n := 4) (us := mC m ad cap) A_mach kR wU wU (by assumption) wU wU ?_)
      refine (HT.out _ (hR.below t32) (hL.below t32)).mono ?_
      rintro e w33 ⟨v33, rfl, ho33, b33⟩
      obtain ⟨aT, cT, rfl, hT, _, _⟩ := ho33.reps
      clear ho33
      replace qm := (b33.block _ (Array.getElem?_eq_some_iff.1 qm).1).trans qm
      replace hO := hO.below b33
      have t33 := bnext t32 b33
      clear t32 b33
      go_wp2_with (with_reducible refine wpList_ldS (n := 4) (us := mC m ad cap) A_mach kR wU wU (by assumption) wU wU ?_)
      refine (HP.out aO cO _ hO).mono ?_
      rintro e w34 ⟨v34, rfl, ho34, b34⟩
      obtain ⟨aP, cP, rfl, hP, _, _⟩ := ho34.reps
      clear ho34
      replace qm := (b34.block _ (Array.getElem?_eq_some_iff.1 qm).1).trans qm
      replace hO := hO.below b34
      replace hT := hT.below b34
      have t34 := bnext t33 b34
      clear t33 b34
      go_wp2_with fail
      refine (HQ.out aO cO _ hO).mono ?_
      rintro e w35 ⟨v35, rfl, ho35, b35⟩
      obtain ⟨aQ, cQ, rfl, hQ, _, _⟩ := ho35.reps
      clear ho35
      replace qm := (b35.block _ (Array.getElem?_eq_some_iff.1 qm).1).trans qm
      replace hO := hO.below b35
      replace hT := hT.below b35
      replace hP := hP.below b35
      have t35 := bnext t34 b35
      clear t34 b35
      go_wp2_with fail
      refine (HI.out aO cO _ hO).mono ?_
      rintro e w36 ⟨v36, rfl, ho36, b36⟩
      obtain ⟨aI, cI, rfl, hI, _, _⟩ := ho36.reps
      clear ho36
      replace qm := (b36.block _ (Array.getElem?_eq_some_iff.1 qm).1).trans qm
      replace hO := hO.below b36
      replace hT := hT.below b36
      replace hP := hP.below b36
      replace hQ := hQ.below b36
      have t36 := bnext t35 b36
      clear t35 b36
      go_wp2_with fail
      refine (amSame aP aT cP cT _ OO _ hP hT rfl (by omega)).mono ?_
      rintro e w37 ⟨rfl, b37⟩
      replace qm := (b37.block _ (Array.getElem?_eq_some_iff.1 qm).1).trans qm
      replace hO := hO.below b37
      replace hT := hT.below b37
      replace hP := hP.below b37
      replace hQ := hQ.below b37
      replace hI := hI.below b37
      have t37 := bnext t36 b37
      clear t36 b37
      clear hP hT
      go_wp2_with fail
      refine (HJ.out _).mono ?_
      rintro e w38 ⟨v38, rfl, ho38, b38⟩
      obtain ⟨aJ, cJ, rfl, hJ, _, _⟩ := ho38.reps
      clear ho38
      replace qm := (b38.block _ (Array.getElem?_eq_some_iff.1 qm).1).trans qm
      replace hO := hO.below b38
      replace hQ := hQ.below b38
      replace hI := hI.below b38
      have t38 := bnext t37 b38
      clear t37 b38
      go_wp2_with fail
      refine (amSame aQ aJ cQ cJ _ J _ hQ hJ rfl (by omega)).mono ?_
      rintro e w39 ⟨rfl, b39⟩
      replace qm := (b39.block _ (Array.getElem?_eq_some_iff.1 qm).1).trans qm
      replace hO := hO.below b39
      replace hQ := hQ.below b39
      replace hI := hI.below b39
      replace hJ := hJ.below b39
      have t39 := bnext t38 b39
      clear t38 b39
      clear hQ hJ
      by_cases h40 : O.length ≤ 40
      ·have d4 : decide (40 < (O.length : Int)) = false := decide_eq_false (by omega)
       have CE := HE.out h40
       have HE2 := hid CE
       clear CE HE h40
       have hZ := SL.nil w39
       have hB1 := hZ.call (SL.ofOwn (own_newN (e := 3) (w := w39) cIntS [] 0 rfl (by decide) #[] rfl (Nat.le_refl _) rfl) (bal (Below.refl _ _) _))
       rw [List.append_nil] at hB1
       go_wp2_with (first | ((with_reducible refine wpList_appL 0 E_ints wU wU (hB1) wU ((hO.below hB1.b)) (rfl) cIntO (by first | omega | (simp; omega)) (by first | omega | (simp; omega)) ?_); intro vA wA hA1) | ((with_reducible refine wpList_appL 0 E_ints wU wU (hA1) wU ((hI.below hA1.b)) (rfl) cIntO (by first | omega | (simp; omega)) (by first | omega | (simp; omega)) ?_); intro vB wB hA2) | ((with_reducible refine wpList_appL 0 E_ints wU wU (hA2) wU ((hO.below hA2.b)) (rfl) cIntO (by first | omega | (simp; omega)) (by first | omega | (simp; omega)) ?_); intro vC wC hA3))
       simp only [List.set_cons_zero, List.nil_append] at hA3
       obtain ⟨aD, cD, rfl, _⟩ := hA3.slice 0 rfl
       refine (HE2.out aD aO cD cO _ (hA3.rd 0 rfl) (hO.below hA3.b)).mono ?_
       rintro e w50 ⟨rfl, b50⟩
       go_wp2_with fail
       refine (HHW.out _).mono ?_
       rintro e w51 ⟨rfl, b51⟩
       go_wp2_with fail
       go_ret
       exact ⟨rfl, bnext t39 (bnext hA3.b (bnext b50 b51))⟩
      ·have d4 : decide (40 < (O.length : Int)) = true := decide_eq_true (by omega)
       clear h40
       go_wp2_with fail
       refine (HHW.out _).mono ?_
       rintro e w51 ⟨rfl, b51⟩
       go_wp2_with fail
       go_ret
       exact ⟨rfl, bnext t39 b51⟩
end Go.Proofs.YtglpfpdomnllkaaGreat
