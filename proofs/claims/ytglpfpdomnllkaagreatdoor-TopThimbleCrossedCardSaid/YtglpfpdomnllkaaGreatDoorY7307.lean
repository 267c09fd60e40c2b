/- Contracts and plain facts that the claim uses (RwA PwA PwB PwD PwC NfV BsD BsF BsG LkA BsH PwI AwA TcA Tc0 PwJ). Conditions: as each one states. -/
import Derived.RangeFuncNested
import Derived.RangeFuncBound
import Derived.RangeFuncCalls
import Derived.RangeFuncLeaves
import Derived.RangeFuncFrom
import Derived.Shelf.Abstract
import Derived.Shelf.RegionOpen
import Derived.WalkKit
import Derived.OwnWalkIn
import Derived.TacticsInMore
import Derived.LoopNIn
import Derived.LoopIn
import Derived.Test.YtglpfpdomnllkaaGreatDoorProg
import Derived.WalkSpells
import Derived.Maps.AppendAt
import Derived.Deep.Quiet
import Derived.Maps.Own
import Derived.Maps.OwnSet
import Derived.Maps.Views
import Derived.WalkLawsBesides
import Derived.Laws.EntriesVeiled
import Derived.Deep.QuietTactic
import Derived.BigQuiet
import Derived.StillTail
import Derived.Laws.Tables
import Derived.Deep.RegionHeld3
import Derived.Shelf.Strings.Trim
import Derived.Shelf.Strings.SlTrimAscii
import Derived.Shelf.Strings.Repeat
import Derived.Shelf.Strings.OnBuilder
import Derived.Shelf.Strconv.Itoa1
import Derived.Shelf.Strconv.Itoa3
import Derived.Shelf.LaysM
import Derived.Ground.Names2Prog
import Derived.Lib.OthersKept
import Derived.Deep.AppendLies
import Derived.Deep.RegionHeldLaw
import Derived.Deep.RegionLaw
import Derived.IntWalk
import Derived.Laws.CopyOwn
import Derived.BigRegion
import Derived.ChangeAlike
import Derived.Shelf.Bits.Mul64
import Derived.Lib.ItoaLen
import Derived.Lib.ItoaMem
import Derived.Sort.LoopGhostIn
import Derived.Maps.RangeWalk
import Derived.Sort.QuietThIn
import Derived.Maps.Ext
import Derived.Deep.LoopGhost
import Derived.Lib.Split
import Derived.Lib.AtoiAll
import Derived.Lib.AppendIntMem
import Derived.Lib.SmallJoins
import Derived.LaidSub
import Derived.Lib.LaidTab
import Derived.Lib.AtoiErrMem
import Derived.Stop.LaidErr
import Derived.ReadAgain
import Derived.ChangeSlices
import Derived.OpenShut
import Derived.ProofKit
import Derived.Deep.DeepHandedRow
import Derived.Deep.SlicePairs
import Derived.Laws.IdiomStrings
import Derived.Test.YtglpfpdomnllkaaGreatDoorXd01
import Derived.Test.YtglpfpdomnllkaaGreatDoorXd02
import Derived.Test.YtglpfpdomnllkaaGreatDoorXd03
import Derived.Test.YtglpfpdomnllkaaGreatDoorXd04
import Derived.Test.YtglpfpdomnllkaaGreatDoorY7301
import Derived.Test.YtglpfpdomnllkaaGreatDoorY7302
import Derived.Test.YtglpfpdomnllkaaGreatDoorY7303
import Derived.Test.YtglpfpdomnllkaaGreatDoorY7304
import Derived.Test.YtglpfpdomnllkaaGreatDoorY7305
import Derived.Test.YtglpfpdomnllkaaGreatDoorY7306
set_option linter.all false

namespace Go.Proofs.YtglpfpdomnllkaaGreatDoor
open Go.RowKit Go.Shelf
attribute [local go_sem] Oper.semAt_some
set_option maxHeartbeats 8000000
set_option maxRecDepth 100000
/-- a list that is filled from the front. -/
def fillZ (L : List Int) (k : Nat) : List Int := L.take k ++ List.replicate (L.length - k) 0
theorem fillZ_zero (L : List Int) : fillZ L 0 = List.replicate L.length 0 := by simp [fillZ]
theorem fillZ_full (L : List Int) : fillZ L L.length = L := by simp [fillZ]
theorem fillZ_len {L : List Int} {k : Nat} (h : k ≤ L.length) : (fillZ L k).length = L.length := by simp [fillZ]; omega
theorem fillZ_set {L : List Int} {k : Nat} (h : k < L.length) : (fillZ L k).set k (atD 0 L k) = fillZ L (k + 1) := by
 have e : L.length - k = (L.length - (k + 1)) + 1 := by omega
 have e2 : atD 0 L k = L[k] := by simp [atD, h]
 have e3 : (L.take k).length = k := by rw [List.length_take]; omega
 unfold fillZ
 rw [e, List.replicate_succ, List.set_append_right _ _ (by omega), List.take_succ_eq_append_getElem h, e2, e3, Nat.sub_self, List.set_cons_zero, List.append_assoc]
 rfl
def rowAt (S F : List Int) (r : Nat) : List Int := S.map (atD 0 (powP F r))
theorem rowAt_len (S F : List Int) (r : Nat) : (rowAt S F r).length = S.length := by simp [rowAt]
def rwV (x : Nat × SlH) : Array Value := #[.int .i64 x.1, cSl x.2]
def rwP (S F : List Int) (x : Nat × SlH) : List Pc := [pOwn cInt 1 3 (cSl x.2) (rowAt S F x.1)]
def rwS (n : Nat) (xs : List (Nat × SlH)) : Prop := xs.map (·.1) = List.range n
abbrev rwR (bs bn n : Nat) (a a2 : Option Addr) (c c2 : Nat) (S F : List Int) : List Pc := [pBlk bs (.cells #[.slice a S.length c, .slice a2 F.length c2] 63), pBlk bn (.cells #[.int .i64 n] 3)]
theorem rows_pcs (mm bs bn n : Nat) (a a2 : Option Addr) (c c2 : Nat) (S F : List Int) (hp : IsP F) (hs : ∀ x ∈ S, 0 ≤ x ∧ x < F.length) (hFl : F.length ≤ 1000) (hSl : S.length ≤ 1000) (hn : n ≤ 1000000) (hm : 1 ≤ mm) (w0 : World) (RS : Ints w0 a c S) (RF : Ints w0 a2 c2 F) :
  SeqPcs Fence.wide mm Tryz.prog 93 #[.pointer (some ⟨bs, 0, none⟩), .pointer (some ⟨bn, 0, none⟩)] rwV (rwP S F) (rwS n) n (rwR bs bn n a a2 c c2 S F) w0.heap.size w0 := fun σ l Inv pcs Rest W s0 hY h0 hS0 => by
 have HP := hid hp
 have HS := hid hs
 have HY := hid hY
 have hSa : SL w0.heap.size w0 W (pBlk bs (.cells #[.slice a S.length c, .slice a2 F.length c2] 63) :: pBlk bn (.cells #[.int .i64 n] 3) :: (Rest ++ pcs s0)) := by
  have h := SL.comm hS0
  exact h
 have hpl : ∀ r, (powP F r).length = F.length := fun r => powP_len F r
 have hp0 : powP F 0 = idL F.length := powP_zero F.length F rfl
 have hps : ∀ r, powP F (r + 1) = F.map (atD 0 (powP F r)) := fun r => powP_succ' hp r
 have HPL := hid hpl; have HP0 := hid hp0; have HPS := hid hps
 have cm1 := RF.le
 have cm2 := RS.le
 clear hp hs hY hS0 hpl hp0 hps
 refine callsIn_of_wp Tryz.func93 rfl trivial ?_ rfl
 simp only [Tryz.ntmps93, List.size_toArray, List.length_cons, List.length_nil, Nat.reduceAdd, Nat.reduceSub, Array.replicate_succ, Array.replicate_zero, List.push_toArray, List.append_toArray, List.nil_append, List.cons_append]
 apply wpIn_seq_k
 intro K1 hK1
 refine wpIn_wide.2 ?_
 have qs := (hSa.blk 0 rfl).1
 go_wp2_with (first | ((with_reducible refine wpList_makeL (c := cInt) (F.length) (0) E_ints cInt1 wU wU (by omega) (by omega) (hSa) ?_); intro ad1 w1 hS1) | (with_reducible refine wpList_ldB F_sl wU wU (by assumption) wU ?_) | (with_reducible refine wpList_ldB (by first | exact F_int | exact F_u64s) wU wU (by assumption) wU ?_))
 have e0 : List.replicate F.length (0 : Int) = fillZ (powP F 0) 0 := by rw [fillZ_zero, HPL.out]
 rw [e0] at hS1
 clear e0 qs hSa
 apply wpIn_seq_k
 intro K2 hK2
 refine wpIn_wide.2 ?_
 go_wp2_with fail
 go_loopw [19] (fun iv wr => ∃ k : Nat, k ≤ F.length ∧ iv = .int .i64 k ∧ SL w0.heap.size w0 wr (pOwn cInt 1 3 (.slice ad1 F.length F.length) (fillZ (powP F 0) k) :: pBlk bs (.cells #[.slice a S.length c, .slice a2 F.length c2] 63) :: pBlk bn (.cells #[.int .i64 n] 3) :: (Rest ++ pcs s0))) (fun iv _ => F.length - (intOf iv).toNat)
 case atStart => exact ⟨0, by omega, rfl, hS1⟩
 case round =>
  clear hS1
  obtain ⟨k, hk, rfl, hSr⟩ := hrel
  by_cases hlt : k < F.length
  ·have hfl : (fillZ (powP F 0) k).length = F.length := by rw [fillZ_len (by rw [HPL.out]; omega), HPL.out]
   have hset : (fillZ (powP F 0) k).set k (k : Int) = fillZ (powP F 0) (k + 1) := by
    have h := fillZ_set (L := powP F 0) (k := k) (by rw [HPL.out]; exact hlt)
    rw [HP0.out, idL_at (by omega) (by omega)] at h
    rw [HP0.out]
    exact h
   obtain ⟨A, hA⟩ : ∃ A, A = fillZ (powP F 0) k := ⟨_, rfl⟩
   rw [← hA] at hSr hfl hset
   have HFL := hid hfl; have HSET := hid hset
   have hkA : (k : Int) < (A.length : Int) := by omega
   clear hA hfl hset
   go_wp2_with ((with_reducible refine wpList_storeL (u := (k : Int)) 0 E_ints cInt1 (sto_int) wU wU (hSr) wU (by first | omega | (simp; done) | (simp; omega)) (by first | omega | (simp; done) | (simp; omega)) (fun _ => wU) (fun _ => wU) ?_); intro _ w2 hS2)
   have hS3 := hS2
   simp only [List.set_cons_zero, Int.toNat_natCast] at hS3
   rw [HSET.out] at hS3
   exact ⟨⟨k + 1, by omega, by go_num, hS3⟩, by simp [intOf]; omega⟩
  ·have hkk : k = F.length := by omega
   have e1 : fillZ (powP F 0) k = powP F 0 := by rw [hkk, ← HPL.out 0, fillZ_full]
   rw [e1] at hSr
   have hkn : ¬ ((k : Int) < (F.length : Int)) := by omega
   clear e1 hkk hlt hk
   go_wp2_with fail
   have cn := hSr.cell 2 rfl 0 rfl
   have HH0 := hid h0
   clear hkn h0
   gi_wp2
   clear cn
   gi_loopw [28, 4] (fun iv av wr => ∃ (r : Nat) (pre : List (Nat × SlH)) (s : σ), r ≤ n ∧ iv = .int .i64 r ∧ pre.map (·.1) = List.range r ∧ Inv pre s ∧ SL w0.heap.size w0 wr (pOwn cInt 1 3 av (powP F r) :: pBlk bs (.cells #[.slice a S.length c, .slice a2 F.length c2] 63) :: pBlk bn (.cells #[.int .i64 n] 3) :: (Rest ++ pcs s))) (fun iv _ _ => n - (intOf iv).toNat)
   case atStart => exact ⟨0, [], s0, by omega, rfl, rfl, HH0.out, hSr⟩
   case round =>
    clear hSr HH0
    obtain ⟨r, pre, s, hr, rfl, hpre, hInv, hSq⟩ := hrel
    have hlen : pre.length = r := by have := congrArg List.length hpre; simpa using this
    obtain ⟨A, Ac, rfl, -⟩ := hSq.slice 0 rfl
    have hpl := HPL.out r
    have HPRE := hid hpre; have HLEN := hid hlen; have HINV := hid hInv
    clear hpre hlen hInv
    by_cases hlt : r < n
    ·obtain ⟨PF, hPF⟩ : ∃ PF, PF = powP F r := ⟨_, rfl⟩
     rw [← hPF] at hSq hpl
     rw [← hPF]
     have HPF := hid hPF; have HPFL := hid hpl
     have cs := hSq.cell 1 rfl 0 rfl
     clear hPF hpl
     gi_wp2
     have hS3 := hSq.nilS (α := Int) (e := 3) cIntS
     clear cs hSq
     refine wpIn_wide.2 ?_
     go_loopw [34, 7] (fun iv sv wt => ∃ k : Nat, k ≤ S.length ∧ iv = .int .i64 k ∧ SL w0.heap.size w0 wt (pOwn cInt 1 3 sv ((rowAt S F r).take k) :: pOwn cInt 1 3 (.slice A PF.length Ac) PF :: pBlk bs (.cells #[.slice a S.length c, .slice a2 F.length c2] 63) :: pBlk bn (.cells #[.int .i64 n] 3) :: (Rest ++ pcs s))) (fun iv _ _ => S.length - (intOf iv).toNat)
     case atStart => exact ⟨0, by omega, rfl, by rw [List.take_zero]; exact hS3⟩
     case round =>
      clear hS3
      obtain ⟨q, hq, rfl, hSt⟩ := hrel
      by_cases hqt : q < S.length
      ·have hRS := RS.below hSt.b
       have hAt := hSt.rd 1 rfl
       have hmem := HS.out _ (atD_mem hqt)
       have hnx : (rowAt S F r).take (q + 1) = (rowAt S F r).take q ++ [atD 0 PF (atD 0 S q)] := by
        rw [List.take_succ_eq_append_getElem (by rw [rowAt_len]; exact hqt)]
        congr 2
        simp only [rowAt, List.getElem_map]
        rw [HPF.out]
        simp [atD, hqt]
       have htl : ((rowAt S F r).take q).length = q := by rw [List.length_take, rowAt_len]; omega
       obtain ⟨T, hT⟩ : ∃ T, T = (rowAt S F r).take q := ⟨_, rfl⟩
       obtain ⟨px, hpx⟩ : ∃ px, px = atD 0 S q := ⟨_, rfl⟩
       rw [← hpx] at hmem hnx
       rw [← hT] at hSt hnx htl
       have HPX := hid hpx; have HNX := hid hnx
       obtain ⟨hm0, hm1⟩ := hmem
       have hmP : px < (PF.length : Int) := by rw [HPFL.out]; exact hm1
       have htl2 : T.length ≤ 1000 := by omega
       obtain ⟨Tn, hTn⟩ : ∃ Tn : Nat, Tn = T.length := ⟨_, rfl⟩
       clear hpx hnx hT htl hTn Tn
       obtain ⟨sa, sc, rfl, -⟩ := hSt.slice 0 rfl
       go_wp2_with (first | ((with_reducible refine wpList_idx _ 0 E_ints F_int cInt1 wU wU (hRS) oD oD (fun _ => wU) (fun _ => ?_)); rw [← HPX.out]) | (with_reducible refine wpList_idxN _ 0 E_ints F_int cInt1 wU wU (hAt) (rfl) oD oD (fun _ => wU) (fun _ => ?_)) | ((with_reducible refine wpList_pushL (y := (atD 0 PF px)) 0 E_ints wU wU (hSt) wU cIntO ⟨rfl, rfl⟩ (by first | with_unfolding_all rfl | simp) wU (by first | omega | (simp; omega)) (by first | omega | (simp; omega)) ?_); intro v5 w5 hS5))
       have hS6 := hS5
       simp only [List.set_cons_zero] at hS6
       rw [← HNX.out] at hS6
       exact ⟨⟨q + 1, by omega, by go_num, hS6⟩, by simp [intOf]; omega⟩
      ·have hqq : q = S.length := by omega
       have e1 : (rowAt S F r).take q = rowAt S F r := by rw [hqq, ← rowAt_len S F r, List.take_length]
       rw [e1] at hSt
       have hqn : ¬ ((q : Int) < (S.length : Int)) := by omega
       clear e1 hqq hqt hq
       obtain ⟨sa, sc, rfl, -⟩ := hSt.slice 0 rfl
       rw [rowAt_len]
       have hSy : SL w0.heap.size w0 wr (pcs s ++ (rwP S F (r, (sa, S.length, sc)) ++ ([pOwn cInt 1 3 (.slice A PF.length Ac) PF, pBlk bs (.cells #[.slice a S.length c, .slice a2 F.length c2] 63), pBlk bn (.cells #[.int .i64 n] 3)] ++ Rest))) := by
        rw [rowAt_len] at hSt
        exact SL.comm (K := rwP S F (r, (sa, S.length, sc)) ++ ([pOwn cInt 1 3 (.slice A PF.length Ac) PF, pBlk bs (.cells #[.slice a S.length c, .slice a2 F.length c2] 63), pBlk bn (.cells #[.int .i64 n] 3)] ++ Rest)) (L := pcs s) hSt
       obtain ⟨fn, tmps, assign, body, hy, hR⟩ := HY.out pre (r, (sa, S.length, sc)) s [pOwn cInt 1 3 (.slice A PF.length Ac) PF, pBlk bs (.cells #[.slice a S.length c, .slice a2 F.length c2] 63), pBlk bn (.cells #[.int .i64 n] 3)] wr HINV.out hSy (by rw [HLEN.out]; exact hlt)
       unfold rwV at hy
       dsimp only at hy
       clear hSt hSy
       go_wp2_with fail
       gi_wp2
       refine hR.mono ?_
       rintro e W3 ⟨rfl, s', hI3, hS3⟩
       clear hR hy
       have HI3 := hid hI3
       clear hI3
       gi_wp2_with (refine wpListW' rfl ?_)
       go_wp2_with fail
       gi_wp2_with (refine wpListW' rfl ?_)
       have hS4 : SL w0.heap.size w0 W3 (pOwn cInt 1 3 (.slice A PF.length Ac) PF :: pBlk bs (.cells #[.slice a S.length c, .slice a2 F.length c2] 63) :: pBlk bn (.cells #[.int .i64 n] 3) :: (Rest ++ pcs s')) := SL.comm (K := pcs s') (L := pOwn cInt 1 3 (.slice A PF.length Ac) PF :: pBlk bs (.cells #[.slice a S.length c, .slice a2 F.length c2] 63) :: pBlk bn (.cells #[.int .i64 n] 3) :: Rest) hS3
       clear hS3
       have hpf : PF.length ≤ 1000 := by rw [HPFL.out]; exact hFl
       go_wp2_with ((with_reducible refine wpList_makeL (c := cInt) (PF.length) (0) E_ints cInt1 wU wU (by omega) (by omega) (hS4) ?_); intro ad3 w5 hS5)
       have e0 : List.replicate PF.length (0 : Int) = fillZ (powP F (r + 1)) 0 := by rw [fillZ_zero, HPL.out, HPFL.out]
       rw [e0] at hS5
       have cs5 := hS5.cell 2 rfl 1 rfl
       clear e0 hS4
       gi_wp2
       clear cs5
       refine wpIn_wide.2 ?_
       go_loopw [57] (fun iv wt => ∃ k : Nat, k ≤ F.length ∧ iv = .int .i64 k ∧ SL w0.heap.size w0 wt (pOwn cInt 1 3 (.slice ad3 PF.length PF.length) (fillZ (powP F (r + 1)) k) :: pOwn cInt 1 3 (.slice A PF.length Ac) PF :: pBlk bs (.cells #[.slice a S.length c, .slice a2 F.length c2] 63) :: pBlk bn (.cells #[.int .i64 n] 3) :: (Rest ++ pcs s'))) (fun iv _ => F.length - (intOf iv).toNat)
       case atStart => exact ⟨0, by omega, rfl, hS5⟩
       case round =>
        clear hS5
        obtain ⟨j, hj, rfl, hSt⟩ := hrel
        by_cases hjt : j < F.length
        ·have hRF := RF.below hSt.b
         have hAt := hSt.rd 1 rfl
         have hrg := HP.out.rng (j : Int) (by omega) (by omega)
         have hfl : (fillZ (powP F (r + 1)) j).length = PF.length := by rw [fillZ_len (by rw [HPL.out]; omega), HPL.out, HPFL.out]
         have hset : (fillZ (powP F (r + 1)) j).set j (atD 0 PF (atD 0 F j)) = fillZ (powP F (r + 1)) (j + 1) := by
          have h := fillZ_set (L := powP F (r + 1)) (k := j) (by rw [HPL.out]; exact hjt)
          have e2 : atD 0 (powP F (r + 1)) (j : Int) = atD 0 PF (atD 0 F j) := by
           rw [HPS.out, atD_mapF (by omega) (by omega), HPF.out]
          rw [e2] at h
          exact h
         obtain ⟨B, hB⟩ : ∃ B, B = fillZ (powP F (r + 1)) j := ⟨_, rfl⟩
         obtain ⟨px, hpx⟩ : ∃ px, px = atD 0 F j := ⟨_, rfl⟩
         rw [← hB] at hSt hfl hset
         rw [← hpx] at hset hrg
         have HFL := hid hfl; have HSET := hid hset; have HPX := hid hpx
         obtain ⟨hm0, hm1⟩ := hrg
         have hmP : px < (PF.length : Int) := by rw [HPFL.out]; exact hm1
         have hkB : (j : Int) < (B.length : Int) := by rw [hfl, HPFL.out]; omega
         clear hB hfl hset hpx
         go_wp2_with (first | ((with_reducible refine wpList_idx _ 0 E_ints F_int cInt1 wU wU (hRF) oD oD (fun _ => wU) (fun _ => ?_)); rw [← HPX.out]) | (with_reducible refine wpList_idxN _ 0 E_ints F_int cInt1 wU wU (hAt) (rfl) oD oD (fun _ => wU) (fun _ => ?_)) | ((with_reducible refine wpList_storeL (u := (atD 0 PF px)) 0 E_ints cInt1 (sto_int) wU wU (hSt) wU (by first | omega | (simp; done) | (simp; omega)) (by first | omega | (simp; done) | (simp; omega)) (fun _ => wU) (fun _ => wU) ?_); intro _ w7 hS7))
         have hS8 := hS7
         simp only [List.set_cons_zero, Int.toNat_natCast] at hS8
         rw [HSET.out] at hS8
         exact ⟨⟨j + 1, by omega, by go_num, hS8⟩, by simp [intOf]; omega⟩
        ·have hjj : j = F.length := by omega
         have e1 : fillZ (powP F (r + 1)) j = powP F (r + 1) := by rw [hjj, ← HPL.out (r + 1), fillZ_full]
         rw [e1] at hSt
         have hjn : ¬ ((j : Int) < (F.length : Int)) := by omega
         have hSu : SL w0.heap.size w0 wr (pOwn cInt 1 3 (.slice ad3 PF.length PF.length) (powP F (r + 1)) :: pBlk bs (.cells #[.slice a S.length c, .slice a2 F.length c2] 63) :: pBlk bn (.cells #[.int .i64 n] 3) :: (Rest ++ pcs s')) :=
          hSt.pickA (K := [pOwn cInt 1 3 (.slice ad3 PF.length PF.length) (powP F (r + 1)), pOwn cInt 1 3 (.slice A PF.length Ac) PF, pBlk bs (.cells #[.slice a S.length c, .slice a2 F.length c2] 63), pBlk bn (.cells #[.int .i64 n] 3)]) [0, 2, 3] (by decide) (by simp) [_, _, _] rfl
         clear e1 hjj hjt hj hSt
         go_wp2_with fail
         gi_wp2
         exact ⟨⟨r + 1, pre ++ [(r, (sa, S.length, sc))], s', by omega, by go_num, by rw [List.map_append, HPRE.out, List.range_succ]; rfl, HI3.out, hSu⟩, by simp [intOf]; omega⟩
    ·have hrr : r = n := by omega
     subst hrr
     clear hlt
     have hfin := SL.comm (K := pBlk bs (.cells #[.slice a S.length c, .slice a2 F.length c2] 63) :: pBlk bn (.cells #[.int .i64 r] 3) :: Rest) (L := pcs s) (SL.tail hSq)
     clear hSq hpl
     gi_wp2
     go_end0
     exact ⟨⟨_, rfl⟩, by first | exact ⟨pre, s, HPRE.out, HINV.out, hfin⟩ | exact ⟨pre, HPRE.out, s, HINV.out, hfin⟩⟩
theorem rows_any (a a2 : Option Addr) (c c2 s f : Nat) (n : Int) (w : World) :
  Calls Tryz.prog 55 #[.agg #[.slice a s c, .slice a2 f c2], .int .i64 n] w fun r w' =>
   r = .returned (.func (.func 93) #[] #[.pointer (some ⟨w.heap.size, 0, none⟩), .pointer (some ⟨w.heap.size + 1, 0, none⟩)]) ∧ w' = (w.alloc (.cells #[.slice a s c, .slice a2 f c2] 63)).alloc (.cells #[.int .i64 n] 3) := by
 go_enter Tryz.func55, Tryz.ntmps55
 go_wp2
 go_ret
 exact ⟨rfl, rfl⟩
end Go.Proofs.YtglpfpdomnllkaaGreatDoor

namespace Go.Proofs.YtglpfpdomnllkaaGreatDoor
open Go.RowKit Go.Shelf
attribute [local go_sem] Oper.semAt_some
set_option maxHeartbeats 8000000
set_option maxRecDepth 100000
theorem psSto (v : Value) (hv : ∃ a n c, v = .slice a n c) (w : World) (p : Addr) (h1 : (w.cell? p).isSome = true) (h2 : w.frozen? p = false) : (Instr.storeAt 25 (.pointer (some p)) v).run Tryz.prog w = .ok () (w.setCell p v) := by
 obtain ⟨a, n, c, rfl⟩ := hv
 obtain ⟨u, hu⟩ := Option.isSome_iff_exists.1 h1
 simp [go_sem, hu, h2]
abbrev StS := Value × List (SlH × List Int)
def outP (Ho : Nat) (s : StS) : List Pc := pBlk Ho (.cells #[s.1] 25) :: pOwn cSl 1 22 s.1 (s.2.map Prod.fst) :: s.2.map inP
/-- what a caller holds when a list of lists has been made. -/
theorem out_end {B : Nat} {w0 W : World} {Ho D : Nat} {s : StS} {R0 : List Pc} {x y : Pc} (hR : R0 = [x, y]) (h : SL B w0 W (pMark D :: (outP Ho s ++ R0))) : SL B w0 W ((pOwn cSl 1 22 s.1 (s.2.map Prod.fst) :: s.2.map inP) ++ [D].map pMark) := by
 subst hR
 have h1 : SL B w0 W (([pMark D, pBlk Ho (.cells #[s.1] 25), pOwn cSl 1 22 s.1 (s.2.map Prod.fst)] ++ s.2.map inP) ++ [x, y]) := h
 have h2 := SL.comm h1
 have h3 := SL.pickA (K := [x, y, pMark D, pBlk Ho (.cells #[s.1] 25), pOwn cSl 1 22 s.1 (s.2.map Prod.fst)]) (M := s.2.map inP) h2 [2, 4] (by decide) (by simp) [_, _] rfl
 exact SL.comm (K := [pMark D]) (L := pOwn cSl 1 22 s.1 (s.2.map Prod.fst) :: s.2.map inP) h3
theorem psStrands_any (rows : Nat) (a a2 : Option Addr) (c c2 : Nat) (S F : List Int) (w : World) (hp : IsP F) (hs : ∀ x ∈ S, 0 ≤ x ∧ x < F.length) (hFl : F.length ≤ 1000) (hSl : S.length ≤ 1000) (hr : rows ≤ 1000) (RS : Ints w a c S) (RF : Ints w a2 c2 F) :
  Calls Tryz.prog 27 #[.agg #[.slice a S.length c, .slice a2 F.length c2], .int .i64 rows] w fun r w' => ∃ (v : Value) (qs : List (SlH × List Int)), r = .returned v ∧ qs.map Prod.snd = (List.range rows).map (rowAt S F) ∧ SL w.heap.size w w' (pOwn cSl 1 22 v (qs.map Prod.fst) :: qs.map inP) := by
 refine callsIn_wide.1 (callsIn_of_wp_marks (n := 9) (F := Fence.wide) Tryz.func27 rfl trivial ?_ rfl)
 simp only [Tryz.ntmps27, List.size_toArray, List.length_cons, List.length_nil, Nat.reduceAdd, Nat.reduceSub, Array.replicate_succ, Array.replicate_zero, List.push_toArray, List.append_toArray, List.nil_append, List.cons_append]
 refine wpIn_wide.2 ?_
 go_wp2_with fail
 refine (rows_any a a2 c c2 S.length F.length rows _).mono ?_
 rintro e w4 ⟨rfl, rfl⟩
 have hS0 := (((((SL.nil w).nilS (α := SlH) (e := 22) cSlS).box (.cells #[.slice a S.length c, .slice a2 F.length c2] 63)).box (.cells #[.slice none 0 0] 25)).box (.cells #[.slice a S.length c, .slice a2 F.length c2] 63)).box (.cells #[.int .i64 rows] 3)
 simp only [World.size_alloc] at hS0
 go_wp2_with fail
 obtain ⟨Ho, hHo⟩ : ∃ Ho, Ho = w.heap.size + 1 := ⟨_, rfl⟩
 obtain ⟨bs, hbs⟩ : ∃ bs, bs = w.heap.size + 1 + 1 := ⟨_, rfl⟩
 obtain ⟨bn, hbn⟩ : ∃ bn, bn = w.heap.size + 1 + 1 + 1 := ⟨_, rfl⟩
 rw [← hbn, ← hbs, ← hHo] at hS0
 rw [← hbn, ← hbs, ← hHo]
 have hS1 : SL w.heap.size w _ (outP Ho (.slice none 0 0, []) ++ rwR bs bn rows a a2 c c2 S F) := hS0.pick [2, 4, 1, 0] (by decide) _ rfl
 generalize ((((w.alloc (.cells #[.slice a S.length c, .slice a2 F.length c2] 63)).alloc (.cells #[.slice none 0 0] 25)).alloc (.cells #[.slice a S.length c, .slice a2 F.length c2] 63)).alloc (.cells #[.int .i64 rows] 3)) = w4 at *
 clear hS0 hHo hbs hbn
 refine (wpIn_wide (n := 9)).1 ?_
 refine rangeFunc_pcs rfl (by decide) (gf := 93) (lb := #[.pointer (some ⟨bs, 0, none⟩), .pointer (some ⟨bn, 0, none⟩)]) rfl trivial (enters_of Tryz.func93 kR rfl)
  (rows_pcs 8 bs bn rows a a2 c c2 S F hp hs hFl hSl (by omega) (by decide) w RS RF) (fun _ => rfl)
  (fun pre (s : StS) => s.2.map Prod.snd = pre.map (fun x => rowAt S F x.1)) (outP Ho) (.slice none 0 0, []) rfl hS1 ?round ?done
 case round =>
  intro l pre x s R W hInv hS hlen
  obtain ⟨ov, qs⟩ := s
  have HINV := hid hInv
  clear hS1 hInv hp hs
  have hqk : (qs.map Prod.fst).length ≤ 1000 := by
   have := congrArg List.length HINV.out
   simp at this
   simp
   omega
  obtain ⟨x1, x2, x3, x4⟩ := x
  dsimp only [rwV]
  gi_wp2
  refine ⟨outP Ho (ov, qs) ++ rwP S F (x1, x2, x3, x4), by rw [List.append_assoc]; exact hS, ?_⟩
  intro R2 W2 hS2
  have hS3 : SL w.heap.size w W2 (pBlk Ho (.cells #[ov] 25) :: pOwn cSl 1 22 ov (qs.map Prod.fst) :: ((qs.map inP ++ rwP S F (x1, x2, x3, x4)) ++ R2)) := hS2
  have q := (hS3.blk 0 rfl).1
  clear hS hS2
  apply wpIn_block
  refine wpIn_regionR rfl ?_
  go_wp2_with (first | (with_reducible refine wpList_ldB F_sls wU wU (by assumption) wU ?_) | ((with_reducible refine wpList_pushL (y := ((x2, x3, x4) : SlH)) 1 E_sls wU wU (hS3) wU cSlO ⟨rfl, rfl⟩ (by first | with_unfolding_all rfl | simp) wU (by first | omega | (simp; omega)) (by first | omega | (simp; omega)) ?_); intro v5 w5 hS5) | refine wpList_stoAt (psSto v5 (isSl hS5 1 rfl) _ _) wU wU (hS5.cell 0 rfl 0 rfl) (hS5.frozen 0 rfl 0) ?_)
  refine ⟨v5, qs ++ [((x2, x3, x4), rowAt S F x1)], by rw [List.map_append, HINV.out]; rfl, ?_⟩
  have h := hS5.set 0 rfl 0 v5
  unfold outP
  simp only [List.map_append]
  exact h
 case done =>
  intro D xs s W hD hxs hInv hs
  obtain ⟨ov, qs⟩ := s
  have hys : qs.map Prod.snd = (List.range rows).map (rowAt S F) := by
   have hxs : xs.map (·.1) = List.range rows := hxs
   rw [← hxs, List.map_map]; exact hInv
  have HYS := hid hys
  have hc := hs.cell 1 rfl 0 rfl
  have hfin := out_end rfl hs
  clear hs hInv hxs hys hS1
  dsimp only
  go_wp2_with fail
  refine SL.leave' (L := pOwn cSl 1 22 ov (qs.map Prod.fst) :: qs.map inP) (Ds := [D]) hfin fun W hW => ⟨ov, ?_, by first | exact ⟨ov, qs, rfl, HYS.out, hW⟩ | exact ⟨ov, rfl, qs, HYS.out, hW⟩⟩
  simp [results, Tryz.f27, go_sem]
end Go.Proofs.YtglpfpdomnllkaaGreatDoor

namespace Go.Proofs.YtglpfpdomnllkaaGreatDoor
open Go.RowKit Go.Shelf
attribute [local go_sem] Oper.semAt_some
set_option maxHeartbeats 8000000
set_option maxRecDepth 100000
def ptP (Ho Hc : Nat) (cv : Value) (s : StS) : List Pc := pBlk Ho (.cells #[s.1] 25) :: pOwn cSl 1 22 s.1 (s.2.map Prod.fst) :: pBlk Hc (.cells #[cv] 22) :: s.2.map inP
theorem pt_end {B : Nat} {w0 W : World} {Ho Hc D : Nat} {cv : Value} {s : StS} {R0 : List Pc} {x y : Pc} (hR : R0 = [x, y]) (h : SL B w0 W (pMark D :: (ptP Ho Hc cv s ++ R0))) : SL B w0 W ((pOwn cSl 1 22 s.1 (s.2.map Prod.fst) :: s.2.map inP) ++ [D].map pMark) := by
 subst hR
 have h1 : SL B w0 W (([pMark D, pBlk Ho (.cells #[s.1] 25), pOwn cSl 1 22 s.1 (s.2.map Prod.fst), pBlk Hc (.cells #[cv] 22)] ++ s.2.map inP) ++ [x, y]) := h
 have h2 := SL.comm h1
 have h3 := SL.pickA (K := [x, y, pMark D, pBlk Ho (.cells #[s.1] 25), pOwn cSl 1 22 s.1 (s.2.map Prod.fst), pBlk Hc (.cells #[cv] 22)]) (M := s.2.map inP) h2 [2, 4] (by decide) (by simp) [_, _] rfl
 exact SL.comm (K := [pMark D]) (L := pOwn cSl 1 22 s.1 (s.2.map Prod.fst) :: s.2.map inP) h3
/-- a row of a picture. -/
def paintAt (S F C : List Int) (r : Nat) : List Int := (rowAt S F r).map (atD 0 C)
theorem paintAt_len (S F C : List Int) (r : Nat) : (paintAt S F C r).length = S.length := by unfold paintAt; rw [List.length_map, rowAt_len]
theorem rowAt_rng {S F : List Int} (hp : IsP F) (hs : ∀ x ∈ S, 0 ≤ x ∧ x < F.length) (r : Nat) : ∀ x ∈ rowAt S F r, 0 ≤ x ∧ x < F.length := fun x hx => by
 obtain ⟨y, hy, rfl⟩ := List.mem_map.1 hx
 obtain ⟨h0, h1⟩ := hs y hy
 rw [powP_at h0 h1]
 exact itP_rng hp h0 h1 r
theorem paint_any (rows : Nat) (a a2 a3 : Option Addr) (c c2 c3 : Nat) (S F C : List Int) (w : World) (hp : IsP F) (hs : ∀ x ∈ S, 0 ≤ x ∧ x < F.length) (hFl : F.length ≤ 1000) (hSl : S.length ≤ 1000) (hr : rows ≤ 1000000) (hCl : C.length = F.length) (RS : Ints w a c S) (RF : Ints w a2 c2 F) (RC : Ints w a3 c3 C) :
  Calls Tryz.prog 38 #[.agg #[.slice a S.length c, .slice a2 F.length c2], .slice a3 C.length c3, .int .i64 rows] w fun r w' => ∃ (v : Value) (qs : List (SlH × List Int)), r = .returned v ∧ qs.map Prod.snd = (List.range rows).map (paintAt S F C) ∧ SL w.heap.size w w' (pOwn cSl 1 22 v (qs.map Prod.fst) :: qs.map inP) := by
 refine callsIn_wide.1 (callsIn_of_wp_marks (n := 9) (F := Fence.wide) Tryz.func38 rfl trivial ?_ rfl)
 simp only [Tryz.ntmps38, List.size_toArray, List.length_cons, List.length_nil, Nat.reduceAdd, Nat.reduceSub, Array.replicate_succ, Array.replicate_zero, List.push_toArray, List.append_toArray, List.nil_append, List.cons_append]
 refine wpIn_wide.2 ?_
 have cmC := RC.le
 have cmX := RC.max
 have HCL := hid hCl
 have hCb : C.length ≤ 1000 := by omega
 clear hCl
 go_wp2_with fail
 refine (rows_any a a2 c c2 S.length F.length rows _).mono ?_
 rintro e w4 ⟨rfl, rfl⟩
 have hS0 := ((((((SL.nil w).nilS (α := SlH) (e := 22) cSlS).box (.cells #[.slice a S.length c, .slice a2 F.length c2] 63)).box (.cells #[.slice a3 C.length c3] 22)).box (.cells #[.slice none 0 0] 25)).box (.cells #[.slice a S.length c, .slice a2 F.length c2] 63)).box (.cells #[.int .i64 rows] 3)
 simp only [World.size_alloc] at hS0
 go_wp2_with fail
 obtain ⟨Hc, hHc⟩ : ∃ Hc, Hc = w.heap.size + 1 := ⟨_, rfl⟩
 obtain ⟨Ho, hHo⟩ : ∃ Ho, Ho = w.heap.size + 1 + 1 := ⟨_, rfl⟩
 obtain ⟨bs, hbs⟩ : ∃ bs, bs = w.heap.size + 1 + 1 + 1 := ⟨_, rfl⟩
 obtain ⟨bn, hbn⟩ : ∃ bn, bn = w.heap.size + 1 + 1 + 1 + 1 := ⟨_, rfl⟩
 rw [← hbn, ← hbs, ← hHo, ← hHc] at hS0
 rw [← hbn, ← hbs, ← hHo, ← hHc]
 have hS1 : SL w.heap.size w _ (ptP Ho Hc (.slice a3 C.length c3) (.slice none 0 0, []) ++ rwR bs bn rows a a2 c c2 S F) := hS0.pick [2, 5, 3, 1, 0] (by decide) _ rfl
 generalize (((((w.alloc (.cells #[.slice a S.length c, .slice a2 F.length c2] 63)).alloc (.cells #[.slice a3 C.length c3] 22)).alloc (.cells #[.slice none 0 0] 25)).alloc (.cells #[.slice a S.length c, .slice a2 F.length c2] 63)).alloc (.cells #[.int .i64 rows] 3)) = w4 at *
 clear hS0 hHo hbs hbn hHc
 have HRR := hid (fun r => rowAt_rng hp hs r)
 refine (wpIn_wide (n := 9)).1 ?_
 refine rangeFunc_pcs rfl (by decide) (gf := 93) (lb := #[.pointer (some ⟨bs, 0, none⟩), .pointer (some ⟨bn, 0, none⟩)]) rfl trivial (enters_of Tryz.func93 kR rfl)
  (rows_pcs 8 bs bn rows a a2 c c2 S F hp hs hFl hSl (by omega) (by decide) w RS RF) (fun _ => rfl)
  (fun pre (s : StS) => s.2.map Prod.snd = pre.map (fun x => paintAt S F C x.1)) (ptP Ho Hc (.slice a3 C.length c3)) (.slice none 0 0, []) rfl hS1 ?round ?done
 case round =>
  intro l pre x s R W hInv hS hlen
  obtain ⟨ov, qs⟩ := s
  have HINV := hid hInv
  clear hS1 hInv hp hs
  have hqk : (qs.map Prod.fst).length ≤ 1000000 := by
   have := congrArg List.length HINV.out
   simp at this
   simp
   omega
  obtain ⟨x1, x2, x3, x4⟩ := x
  dsimp only [rwV]
  gi_wp2
  have hS0 : SL w.heap.size w W ((rwP S F (x1, x2, x3, x4) ++ ptP Ho Hc (.slice a3 C.length c3) (ov, qs)) ++ R) := by
   rw [List.append_assoc]
   exact hS.perm (List.perm_append_comm_assoc _ _ _)
  refine ⟨_, hS0, ?_⟩
  intro R2 W2 hS2
  have hrr := HRR.out x1
  have hrl := rowAt_len S F x1
  have hpl := paintAt_len S F C x1
  have hpa : ∀ k : Nat, k < S.length → (paintAt S F C x1).take (k + 1) = (paintAt S F C x1).take k ++ [atD 0 C (atD 0 (rowAt S F x1) k)] := fun k hk => by
   rw [List.take_succ_eq_append_getElem (by rw [hpl]; exact hk)]
   congr 2
   simp only [paintAt, List.getElem_map]
   congr 1
   simp [atD, hrl, hk]
  have hS3 : SL w.heap.size w W2 (pOwn cInt 1 3 (.slice x2 x3 x4) (rowAt S F x1) :: pBlk Ho (.cells #[ov] 25) :: pOwn cSl 1 22 ov (qs.map Prod.fst) :: pBlk Hc (.cells #[.slice a3 C.length c3] 22) :: (qs.map inP ++ R2)) := hS2
  obtain ⟨RW, hRW⟩ : ∃ RW, RW = rowAt S F x1 := ⟨_, rfl⟩
  obtain ⟨PW, hPW⟩ : ∃ PW, PW = paintAt S F C x1 := ⟨_, rfl⟩
  rw [← hRW] at hS3 hrr hrl
  rw [← hPW] at hpl
  simp only [← hRW, ← hPW] at hpa
  have HPW := hid hPW
  obtain ⟨a9, c9, e9, -⟩ := hS3.slice 0 rfl
  simp only [Value.slice.injEq] at e9
  obtain ⟨rfl, e9, rfl⟩ := e9
  subst e9
  have HRL := hid hrl; have HPL := hid hpl; have HPA := hid hpa; have HRW := hid hrr
  have hS4 := hS3.nilS (α := Int) (e := 3) cIntS
  have hRl : RW.length ≤ 1000 := by omega
  clear hS hS0 hS2 hS3 hRW hPW hrr hrl hpl hpa
  gi_wp2
  gi_loopw [20, 10] (fun iv rv wt => ∃ k : Nat, k ≤ RW.length ∧ iv = .int .i64 k ∧ SL w.heap.size w wt (pOwn cInt 1 3 rv (PW.take k) :: pOwn cInt 1 3 (.slice x2 RW.length x4) RW :: pBlk Ho (.cells #[ov] 25) :: pOwn cSl 1 22 ov (qs.map Prod.fst) :: pBlk Hc (.cells #[.slice a3 C.length c3] 22) :: (qs.map inP ++ R2))) (fun iv _ _ => RW.length - (intOf iv).toNat)
  case atStart => exact ⟨0, by omega, rfl, by rw [List.take_zero]; exact hS4⟩
  case round =>
   clear hS4
   obtain ⟨k, hk, rfl, hSr⟩ := hrel
   by_cases hlt : k < RW.length
   ·have hX := hSr.rd 1 rfl
    have hCr := RC.below hSr.b
    have qc := (hSr.blk 4 rfl).1
    have hv := HRW.out _ (atD_mem hlt)
    have hnx := HPA.out k (by rw [← HRL.out]; exact hlt)
    have htl : (PW.take k).length ≤ 1000 := by rw [List.length_take, HPL.out]; omega
    obtain ⟨y, hy⟩ : ∃ y, y = atD 0 RW (k : Int) := ⟨_, rfl⟩
    obtain ⟨PT, hPT⟩ : ∃ PT, PT = PW.take k := ⟨_, rfl⟩
    rw [← hy] at hv hnx
    rw [← hPT] at hSr hnx htl
    have HY := hid hy; have HNX := hid hnx
    obtain ⟨hv0, hv1⟩ := hv
    have hyC : y < (C.length : Int) := by rw [HCL.out]; exact hv1
    obtain ⟨ra, rc, rfl, -⟩ := hSr.slice 0 rfl
    clear hy hnx hPT
    gi_wp2_with (refine wpListR' rfl ?_)
    go_wp2_with fail
    gi_wp2_with (refine wpListR' rfl ?_)
    go_wp2_with ((with_reducible refine wpList_idx _ 0 E_ints F_int cInt1 wU wU (hX) oD oD (fun _ => wU) (fun _ => ?_)); rw [← HY.out])
    gi_wp2_with (refine wpListR' rfl ?_)
    go_wp2_with (first | (with_reducible refine wpList_ldB (by first | exact F_sl | exact F_sls) wU wU (by assumption) wU ?_) | (with_reducible refine wpList_idx _ 0 E_ints F_int cInt1 wU wU (hCr) oD oD (fun _ => wU) (fun _ => ?_)) | ((with_reducible refine wpList_pushL (y := (atD 0 C y)) 0 E_ints wU wU (hSr) wU cIntO ⟨rfl, rfl⟩ (by first | with_unfolding_all rfl | simp) wU (by first | omega | (simp; omega)) (by first | omega | (simp; omega)) ?_); intro v5 w5 hS5))
    have hS6 := hS5
    simp only [List.set_cons_zero] at hS6
    rw [← HNX.out] at hS6
    gi_wp2
    exact ⟨⟨k + 1, by omega, by go_num, hS6⟩, by simp [intOf]; omega⟩
   ·have hkk : k = RW.length := by omega
    have e1 : PW.take k = PW := by rw [hkk, HRL.out, ← HPL.out, List.take_length]
    rw [e1] at hSr
    have hkn : ¬ ((k : Int) < (RW.length : Int)) := by omega
    have q := (hSr.blk 2 rfl).1
    obtain ⟨ra, rc, rfl, -⟩ := hSr.slice 0 rfl
    clear e1 hkk hlt hk
    gi_wp2_with (refine wpListR' rfl ?_)
    go_wp2_with fail
    gi_wp2_with (refine wpListR' rfl ?_)
    go_wp2_with (first | (with_reducible refine wpList_ldB (by first | exact F_sl | exact F_sls) wU wU (by assumption) wU ?_) | ((with_reducible refine wpList_pushL (y := ((ra, PW.length, rc) : SlH)) 3 E_sls wU wU (hSr) wU cSlO ⟨rfl, rfl⟩ (by first | with_unfolding_all rfl | simp) wU (by first | omega | (simp; omega)) (by first | omega | (simp; omega)) ?_); intro v5 w5 hS5) | refine wpList_stoAt (psSto v5 (isSl hS5 3 rfl) _ _) wU wU (hS5.cell 2 rfl 0 rfl) (hS5.frozen 2 rfl 0) ?_)
    refine ⟨v5, qs ++ [((ra, PW.length, rc), PW)], by rw [List.map_append, HINV.out, ← HPW.out]; rfl, ?_⟩
    have h := hS5.set 2 rfl 0 v5
    have h2 := SL.pickA (K := [_, _, _, _, _]) (M := qs.map inP ++ R2) h [2, 3, 4, 0] (by decide) (by simp) [_, _, _, _] rfl
    refine h2.perm ?_
    unfold ptP
    simp only [List.map_append, List.cons_append, List.nil_append, List.append_assoc, List.map_cons, List.map_nil]
    exact List.Perm.cons _ (List.Perm.cons _ (List.Perm.cons _ List.perm_middle.symm))
 case done =>
  intro D xs s W hD hxs hInv hs
  obtain ⟨ov, qs⟩ := s
  have hys : qs.map Prod.snd = (List.range rows).map (paintAt S F C) := by
   have hxs : xs.map (·.1) = List.range rows := hxs
   rw [← hxs, List.map_map]; exact hInv
  have HYS := hid hys
  have hc := hs.cell 1 rfl 0 rfl
  have hfin := pt_end rfl hs
  clear hs hInv hxs hys hS1
  dsimp only
  go_wp2_with fail
  refine SL.leave' (L := pOwn cSl 1 22 ov (qs.map Prod.fst) :: qs.map inP) (Ds := [D]) hfin fun W hW => ⟨ov, ?_, by first | exact ⟨ov, qs, rfl, HYS.out, hW⟩ | exact ⟨ov, rfl, qs, HYS.out, hW⟩⟩
  simp [results, Tryz.f38, go_sem]
end Go.Proofs.YtglpfpdomnllkaaGreatDoor

namespace Go.Proofs.YtglpfpdomnllkaaGreatDoor
open Go.RowKit
set_option maxHeartbeats 8000000
set_option maxRecDepth 100000
theorem pcommon_any (x y : Nat) (w : World) (hx : 0 < x) (hx2 : x ≤ 1048576) (hy : 0 < y) (hy2 : y ≤ 1048576) :
  Calls Tryz.prog 73 #[.int .i64 x, .int .i64 y] w fun r w' => r = .returned (.int .i64 (lcmF x y : Nat)) ∧ Below w.heap.size w w' := by
 obtain ⟨L, hLL⟩ : ∃ L, L = lcmF x y := ⟨_, rfl⟩
 rw [← hLL]
 have HLL := hid hLL
 clear hLL
 go_enter Tryz.func73, Tryz.ntmps73
 go_wp2_with fail
 go_loopw [5, 6] (fun p q wr => ∃ a b : Int, p = .int .i64 a ∧ q = .int .i64 b ∧ 0 ≤ a ∧ a ≤ 1048576 ∧ 0 ≤ b ∧ b ≤ 1048576 ∧ Int.gcd a b = Int.gcd x y ∧ Below w.heap.size w wr) (fun _ q _ => (intOf q).toNat)
 case atStart => exact ⟨x, y, rfl, rfl, by omega, by omega, by omega, by omega, rfl, Below.refl _ _⟩
 case round =>
  obtain ⟨a, b, rfl, rfl, ha, ha2, hb, hb2, hg, hbr⟩ := hrel
  have HG := hid hg; clear hg
  by_cases hlt : 0 < b
  ·have hm0 := Int.emod_nonneg a (by omega : b ≠ 0)
   have hm1 := Int.emod_lt_of_pos a hlt
   have hne : ¬ b = 0 := by omega
   have hwr : IntKind.i64.wrap (a.tmod b) = a % b := by rw [Int.tmod_eq_emod_of_nonneg ha]; exact IntWalk.i64_in _ (by omega)
   go_wp2_with fail
   refine wp_region_quiet_lit kR kR ?_
   repeat (first | fail | quiet_step (fail))
   refine wpQuiet_nil ?_
   intro w2 hb2
   replace hb2 := below_drewN hb2
   clear hwr
   go_wp2_with fail
   rw [Int.tmod_eq_emod_of_nonneg (b := b) ha]
   refine ⟨⟨b, a % b, rfl, rfl, by omega, by omega, by omega, by omega, ?_, bnext hbr hb2⟩, by simp [intOf]; omega⟩
   rw [← HG.out, gcd_step ha hb]
  ·have : b = 0 := by omega
   subst this
   obtain ⟨G, hG⟩ : ∃ G, G = Nat.gcd x y := ⟨_, rfl⟩
   have hg1 : Int.gcd (x : Int) (y : Int) = G := by rw [hG]; simp [Int.gcd]
   have hfin : a = (G : Int) := by
    have h2 := HG.out
    rw [hg1, Int.gcd_zero] at h2
    omega
   have hGp : 0 < G := by rw [hG]; exact Nat.gcd_pos_of_pos_left _ hx
   have hL : L = x / G * y := by rw [HLL.out, hG]; rfl
   obtain ⟨Q, hQ⟩ : ∃ Q, Q = x / G := ⟨_, rfl⟩
   have hq1 : Q ≤ x := by rw [hQ]; exact Nat.div_le_self _ _
   have hqq : (x : Int).tdiv (G : Int) = (Q : Int) := by rw [hQ]; exact (Int.ofNat_tdiv x G).symm
   rw [← hQ] at hL
   have hq2 : Q * y ≤ 1048576 * 1048576 := Nat.mul_le_mul (by omega) hy2
   have hqw : IntKind.i64.wrap ((x : Int).tdiv (G : Int)) = (Q : Int) := by
    rw [hqq]
    exact IntWalk.i64_in _ (by omega)
   have hmw : IntKind.i64.wrap ((Q : Int) * (y : Int)) = (L : Int) := by
    rw [← Int.natCast_mul, ← hL]
    exact IntWalk.i64_in _ (by omega)
   have hGn : ¬ (G : Int) = 0 := by omega
   have hqd : (x : Int) / (G : Int) = (Q : Int) := by rw [hQ]; simp
   have hend : wrap64 (wrap64 ((x : Int) / (G : Int)) * (y : Int)) = (L : Int) := by
    rw [hqd, IntWalk.wrap64_in (Q : Int) (by omega), ← Int.natCast_mul, ← hL]
    exact IntWalk.wrap64_in _ (by omega)
   have HEND := hid hend
   subst hfin
   clear HG hL hg1 hG hq1 hq2 hQ hqq hqw hmw hqd hend
   go_wp2_with fail
   go_ret
   exact ⟨by first | (rw [← HEND.out]; rfl) | (show Ending.returned (.int .i64 (wrap64 (wrap64 ((x : Int) / (G : Int)) * (y : Int)))) = _; rw [HEND.out]), hbr⟩
theorem pcycle_any (a a2 : Option Addr) (c c2 s : Nat) (F : List Int) (p : Int) (w : World) (hp : IsP F) (hFl : F.length ≤ 1000) (h0 : 0 ≤ p) (h1 : p < F.length) (RF : Ints w a2 c2 F) :
  Calls Tryz.prog 74 #[.agg #[.slice a s c, .slice a2 F.length c2], .int .i64 p] w fun r w' => r = .returned (.int .i64 (ordN F p : Nat)) ∧ Below w.heap.size w w' := by
 have hd := ordN_ok hp h0 h1
 obtain ⟨d, hdd⟩ : ∃ d, d = ordN F p := ⟨_, rfl⟩
 rw [← hdd] at hd ⊢
 have hle := hd.le
 have hpos := hd.pos
 have hS0 := (SL.nil w).box (.cells #[.slice a s c, .slice a2 F.length c2] 63)
 have q := (hS0.blk 0 rfl).1
 have hF := RF.below hS0.b
 have hb := hS0.b
 have cm := RF.le
 have HD := hid hd
 have HR := hid (fun k => itP_rng hp h0 h1 k)
 have e1 : itP F p 1 = atD 0 F p := rfl
 have HE1 := hid e1
 clear hdd hd hp e1 hS0
 go_enter Tryz.func74, Tryz.ntmps74
 go_wp2_with (first | (with_reducible refine wpList_ldB F_sl wU wU (by assumption) wU ?_) | ((with_reducible refine wpList_idx _ 0 E_ints F_int cInt1 wU wU (hF) oD oD (fun _ => wU) (fun _ => ?_)); rw [← HE1.out]))
 go_loop [6, 5] (fun av nv => ∃ j : Nat, j + 1 ≤ d ∧ av = .int .i64 (itP F p (j + 1)) ∧ nv = .int .i64 ((j + 1 : Nat) : Int)) (fun _ nv => d - (intOf nv).toNat)
 case atStart => exact ⟨0, by omega, rfl, rfl⟩
 case round =>
  obtain ⟨j, hj, rfl, rfl⟩ := hrel
  obtain ⟨hr0, hr1⟩ := HR.out (j + 1)
  by_cases hlast : j + 1 = d
  ·have hbk : itP F p (j + 1) = p := by rw [hlast]; exact HD.out.back
   have HBK := hid hbk
   have HLS := hid hlast
   have db : (itP F p (j + 1) != p) = false := by rw [hbk]; simp
   have hdj : (d : Int) = (j : Int) + 1 := by omega
   have HDJ := hid hdj
   clear hbk hlast hdj
   go_wp2_with fail
   go_ret
   exact ⟨by rw [HDJ.out]; rfl, hb⟩
  ·have hne := HD.out.min (j + 1) (by omega) (by omega)
   have db : (itP F p (j + 1) != p) = true := by simpa using hne
   have hnx : itP F p (j + 1 + 1) = atD 0 F (itP F p (j + 1)) := rfl
   obtain ⟨x, hx⟩ : ∃ x, x = itP F p (j + 1) := ⟨_, rfl⟩
   rw [← hx] at hr0 hr1 db hnx
   rw [← hx]
   have HNX := hid hnx
   clear hne hnx hx
   go_wp2_with (first | (with_reducible refine wpList_ldB F_sl wU wU (by assumption) wU ?_) | ((with_reducible refine wpList_idx _ 0 E_ints F_int cInt1 wU wU (hF) oD oD (fun _ => wU) (fun _ => ?_)); rw [← HNX.out]))
   exact ⟨⟨j + 1, by omega, rfl, by go_num⟩, by simp [intOf]; omega⟩
end Go.Proofs.YtglpfpdomnllkaaGreatDoor

namespace Go.Proofs.YtglpfpdomnllkaaGreatDoor
open Go.RowKit
set_option maxHeartbeats 8000000
set_option maxRecDepth 100000
/-- what open returns is a scheme whose places are in range. -/
theorem sch_ok {n : Nat} {l : List Int} (h : SchOk (n : Int) l) : IsP (row5 (idL n) l) ∧ (row5 (idL n) l).length = n ∧ (∀ x ∈ seenL n l, 0 ≤ x ∧ x < (row5 (idL n) l).length) ∧ (seenL n l).length = l.length := by
 have hr : LetRng n l := by have := h.rng; simpa using this
 have hv := row5_VP hr
 refine ⟨hv.1, hv.2, fun x hx => ?_, by unfold seenL; rw [seenGo_len]⟩
 rw [hv.2]
 exact seen_rng l (idL n) (idL_VP n) hr x hx
theorem Seen_any (n rows : Nat) (ad : Option Addr) (cap : Nat) (l : List Int) (w : World) (hL : Ints w ad cap l) (h : SchOk (n : Int) l) (hr1 : 1 ≤ rows) (hr2 : rows ≤ 24) :
  Calls Tryz.prog 7 #[.int .i64 n, .slice ad l.length cap, .int .i64 rows] w fun r w' => ∃ (v : Value) (qs : List (SlH × List Int)), r = .returned (.tuple #[v, .int .i64 0]) ∧ qs.map Prod.snd = (List.range rows).map (rowAt (seenL n l) (row5 (idL n) l)) ∧ SL w.heap.size w w' (pOwn cSl 1 22 v (qs.map Prod.fst) :: qs.map inP) := by
 obtain ⟨hp, hfl, hs, hsl⟩ := sch_ok h
 have hn12 := h.hi
 have hn2 := h.lo
 have hl24 := h.le
 have HC := hid (fun w hS => pCheckScheme n ad cap l w hS h)
 have HO := hid (fun w hS => open_any n ad cap l w hS (by omega) (by omega) (by omega) (by have := h.rng; simpa using this))
 have HT := hid (fun a a2 c c2 w RS RF => psStrands_any rows a a2 c c2 (seenL n l) (row5 (idL n) l) w hp hs (by omega) (by omega) (by omega) RS RF)
 obtain ⟨S, hS⟩ : ∃ S, S = seenL n l := ⟨_, rfl⟩
 obtain ⟨F, hF⟩ : ∃ F, F = row5 (idL n) l := ⟨_, rfl⟩
 rw [← hS, ← hF] at HO HT ⊢
 clear hS hF h hp hs hfl hsl
 go_enter Tryz.func7, Tryz.ntmps7
 go_wp2_with fail
 refine (HC.out _ hL).mono ?_
 rintro e w1 ⟨rfl, b1⟩
 go_wp2_with ((go_at_call 25; refine (prows_ok _ _ (by omega) (by omega)).mono ?_; rintro e w' ⟨rfl, rfl⟩))
 go_wp2_with ((go_at_call 23; refine (pfirst_any _ _ [_, _] _ (reps_newN cIntS [_, _] 2 rfl (by decide) _ _ (by simp) rfl)).mono ?_; rintro e w' ⟨rfl, rfl⟩))
 have b2 := bal b1 (.cells #[.int .i64 0, .int .i64 0] 26)
 refine (HO.out _ (hL.below b2)).mono ?_
 rintro e w3 ⟨v3, rfl, ⟨a, c, a2, c2, rfl, RS, RF⟩, b3⟩
 go_wp2_with fail
 refine (HT.out a a2 c c2 _ RS RF).mono ?_
 rintro e w4 ⟨v, qs, rfl, hqs, hS4⟩
 have HQ := hid hqs
 have hS0 := (SL.nil w).mono (bnext b2 b3)
 have hS5 := hS0.call hS4
 rw [List.append_nil] at hS5
 clear hqs hS4 hS0
 go_wp2_with fail
 go_ret2
 exact ⟨v, qs, rfl, HQ.out, hS5⟩
end Go.Proofs.YtglpfpdomnllkaaGreatDoor

namespace Go.Proofs.YtglpfpdomnllkaaGreatDoor
set_option maxRecDepth 100000
abbrev nth (X : List (List Int)) (k : Nat) : List Int := atD [] X (k : Int)
theorem nth_some {X : List (List Int)} {k : Nat} (h : k < X.length) : X[k]? = some (nth X k) := by simp [nth, atD, h]
theorem nth_eq {X : List (List Int)} {k : Nat} {a : List Int} (h : X[k]? = some a) : nth X k = a := by
 have hk : k < X.length := by
  rcases Nat.lt_or_ge k X.length with h1 | h1
  ·exact h1
  ·rw [List.getElem?_eq_none h1] at h; cases h
 rw [nth_some hk] at h
 exact Option.some.inj h
/-- the pairs ahead of k are settled. -/
def Settled (n : Nat) (X : List (List Int)) (k : Nat) : Prop := ∀ j, j < k → j + 1 < X.length → PairOk (garN n).toGar (nth X j) (nth X (j + 1))
section
variable {n : Nat} {X : List (List Int)} {k i : Nat}
theorem Settled.le {q q' : Nat} (hs : Settled n X q) (h : q' ≤ q) : Settled n X q' := fun j hj hl => hs j (by omega) hl
theorem Settled.next (hs : Settled n X k) (h : folP n (nth X k) (nth X (k + 1)) = none) : Settled n X (k + 1) := fun j hj hl => by
 by_cases e : j = k
 ·rw [e]; exact fol_none h
 ·exact hs j (by omega) hl
theorem Settled.all (hs : Settled n X k) (h : X.length ≤ k + 1) : NoPull (garN n).toGar X := noPull_of fun j a b h1 h2 => by
 have hl : j + 1 < X.length := by
  rcases Nat.lt_or_ge (j + 1) X.length with h3 | h3
  ·exact h3
  ·rw [List.getElem?_eq_none h3] at h2; cases h2
 have := hs j (by omega) hl
 rwa [nth_eq h1, nth_eq h2] at this
end
end Go.Proofs.YtglpfpdomnllkaaGreatDoor

namespace Go.Proofs.YtglpfpdomnllkaaGreatDoor
open Go.RowKit
set_option maxHeartbeats 8000000
set_option maxRecDepth 100000
section
variable {B : Nat} {w0 w : World}
/-- a row of an owned list of lists. -/
theorem fx_row {pre : List Pc} {H : List SlH} {X : List (List Int)} {n : Nat} (h : SL B w0 w (pre ++ (mxQ H X).map inP)) (hH : H.length = X.length) (hX : ∀ r ∈ X, r.length = n) {k : Nat} (hk : k < X.length) :
  ∃ a c, atD ((none, 0, 0) : SlH) H (k : Int) = (a, n, c) ∧ Ints w a c (nth X k) := by
 have haH : k < H.length := by omega
 have eH : atD ((none, 0, 0) : SlH) H (k : Int) = H[k] := by simp [atD, haH]
 have eM : nth X k = X[k] := by simp [nth, atD, hk]
 have hi : (pre ++ (mxQ H X).map inP)[pre.length + k]? = some (pOwn cInt 1 3 (cSl H[k]) X[k]) := by
  rw [List.getElem?_append_right (by omega), Nat.add_sub_cancel_left, List.getElem?_map]
  unfold mxQ
  rw [List.getElem?_eq_getElem (by rw [List.length_zip]; omega), List.getElem_zip]
  rfl
 obtain ⟨ad, c, e1, hR⟩ := h.slice _ hi
 have hrl : (X[k]).length = n := hX _ (List.getElem_mem _)
 have e2 : H[k] = (ad, n, c) := by
  generalize H[k] = q at e1 ⊢
  obtain ⟨x1, x2, x3⟩ := q
  simp only [cSl, Value.slice.injEq] at e1
  obtain ⟨rfl, rfl, rfl⟩ := e1
  rw [hrl]
 exact ⟨ad, c, by rw [eH, e2], by rw [eM]; exact hR⟩
end
end Go.Proofs.YtglpfpdomnllkaaGreatDoor

namespace Go.Proofs.YtglpfpdomnllkaaGreatDoor
open Go.RowKit
set_option maxHeartbeats 8000000
set_option maxRecDepth 100000
/-- the handles lead to rows of n places. -/
def RowsR (w : World) (n : Nat) (H : List SlH) (X : List (List Int)) : Prop := H.length = X.length ∧ ∀ k : Nat, k < X.length → ∃ a c, atD ((none, 0, 0) : SlH) H (k : Int) = (a, n, c) ∧ Ints w a c (nth X k)
theorem RowsR.below {w w' : World} {n : Nat} {H : List SlH} {X : List (List Int)} (h : RowsR w n H X) (hb : Below w.heap.size w w') : RowsR w' n H X := ⟨h.1, fun k hk => by obtain ⟨a, c, e, r⟩ := h.2 k hk; exact ⟨a, c, e, r.below hb⟩⟩
theorem SL.rowsR {B : Nat} {w0 w : World} {pre : List Pc} {H : List SlH} {X : List (List Int)} {n : Nat} (h : SL B w0 w (pre ++ (mxQ H X).map inP)) (hH : H.length = X.length) (hX : ∀ r ∈ X, r.length = n) : RowsR w n H X := ⟨hH, fun k hk => fx_row h hH hX hk⟩
end Go.Proofs.YtglpfpdomnllkaaGreatDoor

namespace Go.Proofs.YtglpfpdomnllkaaGreatDoor
open Go.RowKit
set_option maxHeartbeats 8000000
set_option maxRecDepth 100000
/-- a value that is a normal form. -/
def FormR (w : World) (n : Nat) (v : Value) (f : Int × List (List Int)) : Prop := ∃ a c H, v = .agg #[.int .i64 f.1, .slice a f.2.length c] ∧ Reps cSl 1 w a c H ∧ RowsR w n H f.2
theorem FormR.below {w w' : World} {n : Nat} {v : Value} {f : Int × List (List Int)} (h : FormR w n v f) (hb : Below w.heap.size w w') : FormR w' n v f := by
 obtain ⟨a, c, H, e, r, q⟩ := h
 exact ⟨a, c, H, e, r.below hb, q.below hb⟩
end Go.Proofs.YtglpfpdomnllkaaGreatDoor

namespace Go.Proofs.YtglpfpdomnllkaaGreatDoor
open Go.RowKit Go.Shelf
attribute [local go_sem] Oper.semAt_some
set_option maxHeartbeats 8000000
set_option maxRecDepth 100000
section
variable {P : Program} {ops : Array Oper} {rest : List Oper} {a : Act} {Qa : Act → Prop} {C : World → Prop} {bytes : Nat} {t e : TypeId} {z : Value} {cap n g : Nat} {k : Int}
end
theorem zip_back : ∀ (qs : List (SlH × List Int)), (qs.map Prod.fst).zip (qs.map Prod.snd) = qs
 | [] => rfl
 | (a, b) :: r => by simp [zip_back r]
end Go.Proofs.YtglpfpdomnllkaaGreatDoor

namespace Go.Proofs.YtglpfpdomnllkaaGreatDoor
open Go.RowKit
set_option maxHeartbeats 8000000
set_option maxRecDepth 100000
theorem equalI_any (a a2 : Option Addr) (cap cap2 n : Nat) (l m : List Int) (w : World) (hS : Ints w a cap l) (hM : Ints w a2 cap2 m) (hl : l.length = n) (hm : m.length = n) (hn : n ≤ 1000) :
  Calls Tryz.prog 40 #[.slice a n cap, .slice a2 n cap2] w fun r w' => r = .returned (.bool (decide (l = m))) ∧ Below w.heap.size w w' := by
 have hcap := hS.le
 have hmx := hS.max
 have hcap2 := hM.le
 have hmx2 := hM.max
 obtain ⟨E, hE⟩ : ∃ E, E = decide (l = m) := ⟨_, rfl⟩
 rw [← hE]
 have HT : Hid ((∀ j : Nat, j < n → atD 0 l j = atD 0 m j) → E = true) := hid fun h => by
  rw [hE]
  refine decide_eq_true (ext_atD (by omega) fun j j0 j1 => ?_)
  have := h j.toNat (by omega)
  rw [show ((j.toNat : Nat) : Int) = j by omega] at this
  exact this
 have HF : Hid (∀ j : Nat, j < n → atD 0 l j ≠ atD 0 m j → E = false) := hid fun j hj h => by
  rw [hE]
  exact decide_eq_false fun e => h (by rw [e])
 have HL := hid hl; have HM := hid hm
 have dn : ((n : Int) != (n : Int)) = false := by simp
 clear hE hl hm
 go_enter Tryz.func40, Tryz.ntmps40
 go_wp2_with fail
 clear dn
 go_loopw [13, 5] (fun iv _ wr => ∃ k : Nat, iv = .int .i64 k ∧ k ≤ n ∧ (∀ j : Nat, j < k → atD 0 l j = atD 0 m j) ∧ Below w.heap.size w wr) (fun iv _ _ => n - (intOf iv).toNat)
 case atStart => exact ⟨0, rfl, by omega, fun j h => by omega, Below.refl _ _⟩
 case round =>
  obtain ⟨k, rfl, hk, hall, hbr⟩ := hrel
  by_cases hlt : k < n
  ·obtain ⟨X, hX⟩ : ∃ X, X = atD 0 l k := ⟨_, rfl⟩
   obtain ⟨Y, hY⟩ : ∃ Y, Y = atD 0 m k := ⟨_, rfl⟩
   have hk1 : (k : Int) < (l.length : Int) := by have := HL.out; omega
   have hk2 : (k : Int) < (m.length : Int) := by have := HM.out; omega
   have hSr := hS.below hbr
   have hMr := hM.below hbr
   have HX := hid hX; have HY := hid hY
   by_cases e : X = Y
   ·have dXY : (X != Y) = false := by simp [e]
    have HALL : Hid (∀ j : Nat, j < k + 1 → atD 0 l j = atD 0 m j) := hid fun j h => by
     by_cases e2 : j = k
     ·rw [e2, ← hX, ← hY, e]
     ·exact hall j (by omega)
    clear hX hY hall e
    go_wp2_with fail
    refine wp_region_q kR kR ?_
    repeat (first | (((with_reducible refine wpB_idx2 0 E_ints F_int cInt1 wU (HL.out) wU (hSr) oD oD (fun _ => wU) (fun _ => ?_)); (try simp only [Act.put, pA, pB, pC]); (try simp only [cInt])); rw [← HX.out]) | (((with_reducible refine wpB_idx2 0 E_ints F_int cInt1 wU (HM.out) wU (hMr) oD oD (fun _ => wU) (fun _ => ?_)); (try simp only [Act.put, pA, pB, pC]); (try simp only [cInt])); rw [← HY.out]) | (((refine wpQ_oneG ?_ wU (fun w' => ?_) ?_); rotate_left; (go_simp; rfl); (try simp only [Act.put, pA, pB, pC])); rw [dXY]) | ((refine wpQ_oneG ?_ wU (fun w' => ?_) ?_); rotate_left; (go_simp; rfl); (try simp only [Act.put, pA, pB, pC])) |  ((with_reducible refine wpB_load (by first | exact F_int | exact F_u64s) wU wU (by assumption) wU ?_); (try simp only [Act.put, pA, pB, pC])) | ((with_reducible refine wpB_loadS (n := 2) (us := #[_, _]) A_int kR wU wU (by assumption) wU wU ?_); (try simp only [Act.put, pA, pB, pC])) | ((with_reducible refine wpB_loadS (n := 4) (us := #[_, _, _, _]) A_frac kR wU wU (by assumption) wU wU ?_); (try simp only [Act.put, pA, pB, pC])) | ((refine wpQ_oneG ?_ wU (fun w' => ?_) ?_); rotate_left; (go_simp; rfl); (try simp only [Act.put, pA, pB, pC])))
    refine wpQuiet_nil ?_
    intro w1 hb1
    go_wp2_with fail
    exact ⟨⟨k + 1, by go_num, by omega, HALL.out, bnext hbr hb1⟩, by simp [intOf]; omega⟩
   ·have dXY : (X != Y) = true := by simp [e]
    have HE : Hid (E = false) := hid (HF.out k hlt (by rw [← hX, ← hY]; exact e))
    clear hX hY hall e
    go_wp2_with fail
    refine wp_region_q kR kR ?_
    repeat (first | (((with_reducible refine wpB_idx2 0 E_ints F_int cInt1 wU (HL.out) wU (hSr) oD oD (fun _ => wU) (fun _ => ?_)); (try simp only [Act.put, pA, pB, pC]); (try simp only [cInt])); rw [← HX.out]) | (((with_reducible refine wpB_idx2 0 E_ints F_int cInt1 wU (HM.out) wU (hMr) oD oD (fun _ => wU) (fun _ => ?_)); (try simp only [Act.put, pA, pB, pC]); (try simp only [cInt])); rw [← HY.out]) | (((refine wpQ_oneG ?_ wU (fun w' => ?_) ?_); rotate_left; (go_simp; rfl); (try simp only [Act.put, pA, pB, pC])); rw [dXY]) | ((refine wpQ_oneG ?_ wU (fun w' => ?_) ?_); rotate_left; (go_simp; rfl); (try simp only [Act.put, pA, pB, pC])) |  ((with_reducible refine wpB_load (by first | exact F_int | exact F_u64s) wU wU (by assumption) wU ?_); (try simp only [Act.put, pA, pB, pC])) | ((with_reducible refine wpB_loadS (n := 2) (us := #[_, _]) A_int kR wU wU (by assumption) wU wU ?_); (try simp only [Act.put, pA, pB, pC])) | ((with_reducible refine wpB_loadS (n := 4) (us := #[_, _, _, _]) A_frac kR wU wU (by assumption) wU wU ?_); (try simp only [Act.put, pA, pB, pC])) | ((refine wpQ_oneG ?_ wU (fun w' => ?_) ?_); rotate_left; (go_simp; rfl); (try simp only [Act.put, pA, pB, pC])))
    refine wpQuiet_nil ?_
    intro w1 hb1
    go_wp2_with fail
    go_ret
    exact ⟨by rw [HE.out]; rfl, bnext hbr hb1⟩
  ·have HE : Hid (E = true) := hid (HT.out fun j hj => hall j (by omega))
   have hkn : ¬ ((k : Int) < (n : Int)) := by omega
   clear hall hlt hk
   go_wp2_with fail
   go_ret
   exact ⟨by rw [HE.out]; rfl, hbr⟩
theorem rowsEq {X Y : List (List Int)} (h : X.length = Y.length) (k : ∀ j, j < X.length → nth X j = nth Y j) : X = Y := by
 refine List.ext_getElem h fun i h1 h2 => ?_
 have := k i h1
 simpa [nth, atD, h1, h2] using this
theorem eqFunc_any (n m m2 : Nat) (a a2 : Option Addr) (c c2 : Nat) (H H2 : List SlH) (X Y : List (List Int)) (w : World) (hR : Reps cSl 1 w a c H) (hR2 : Reps cSl 1 w a2 c2 H2) (hr : RowsR w n H X) (hr2 : RowsR w n H2 Y) (hX : X.length = m) (hY : Y.length = m2)
  (hXn : ∀ x ∈ X, x.length = n) (hYn : ∀ x ∈ Y, x.length = n) (hn : n ≤ 1000) :
  Calls Tryz.prog 76 #[.slice a m c, .slice a2 m2 c2, .func (.func 40) #[] #[]] w fun r w' => r = .returned (.bool (decide (X = Y))) ∧ Below w.heap.size w w' := by
 have hcap := hR.le
 have hmx := hR.max
 have hcap2 := hR2.le
 have hmx2 := hR2.max
 rw [hr.1, hX] at hcap
 rw [hr2.1, hY] at hcap2
 by_cases hm : m = m2
 ·subst hm
  obtain ⟨E, hE⟩ : ∃ E, E = decide (X = Y) := ⟨_, rfl⟩
  rw [← hE]
  have HT : Hid ((∀ j : Nat, j < m → nth X j = nth Y j) → E = true) := hid fun h => by
   rw [hE]
   exact decide_eq_true (rowsEq (by omega) (by rw [hX]; exact h))
  have HF : Hid (∀ j : Nat, j < m → nth X j ≠ nth Y j → E = false) := hid fun j hj h => by
   rw [hE]
   exact decide_eq_false fun e => h (by rw [e])
  have HC : Hid (∀ j : Nat, j < m → ∃ b d b2 d2, atD ((none, 0, 0) : SlH) H (j : Int) = (b, n, d) ∧ atD ((none, 0, 0) : SlH) H2 (j : Int) = (b2, n, d2) ∧ ∀ wr, Below w.heap.size w wr → Calls Tryz.prog 40 #[.slice b n d, .slice b2 n d2] wr fun r w' => r = .returned (.bool (decide (nth X j = nth Y j))) ∧ Below wr.heap.size wr w') := hid fun j hj => by
   obtain ⟨b, d, e, r⟩ := hr.2 j (by omega)
   obtain ⟨b2, d2, e2, r2⟩ := hr2.2 j (by omega)
   refine ⟨b, d, b2, d2, e, e2, fun wr hb => equalI_any b b2 d d2 n _ _ wr (r.below hb) (r2.below hb) ?_ ?_ hn⟩
   ·exact hXn _ (List.mem_of_getElem? (nth_some (by omega)))
   ·exact hYn _ (List.mem_of_getElem? (nth_some (by omega)))
  have HL : Hid (H.length = m) := hid (by rw [hr.1, hX]); have HL2 : Hid (H2.length = m) := hid (by rw [hr2.1, hY])
  have dn : ((m : Int) != (m : Int)) = false := by simp
  clear hE hX hY hr hr2 hXn hYn
  go_enter Tryz.func76, Tryz.ntmps76
  go_wp2_with fail
  clear dn
  go_loopw [17, 7, 8, 9] (fun iv _ _ _ wr => ∃ k : Nat, iv = .int .i64 k ∧ k ≤ m ∧ (∀ j : Nat, j < k → nth X j = nth Y j) ∧ Below w.heap.size w wr) (fun iv _ _ _ _ => m - (intOf iv).toNat)
  case atStart => exact ⟨0, rfl, by omega, fun j h => by omega, Below.refl _ _⟩
  case round =>
   obtain ⟨k, rfl, hk, hall, hbr⟩ := hrel
   by_cases hlt : k < m
   ·obtain ⟨b, d, b2, d2, e1, e2, hc⟩ := HC.out k hlt
    have hk1 : (k : Int) < (H.length : Int) := by have := HL.out; omega
    have hk2 : (k : Int) < (H2.length : Int) := by have := HL2.out; omega
    have hSr := hR.below hbr
    have hMr := hR2.below hbr
    have HE1 := hid e1; have HE2 := hid e2
    have HALL : Hid (nth X k = nth Y k → ∀ j : Nat, j < k + 1 → nth X j = nth Y j) := hid fun e j h => by
     by_cases e2 : j = k
     ·rw [e2, e]
     ·exact hall j (by omega)
    have HFK := hid (HF.out k hlt)
    have HK := hid (hc wr hbr)
    obtain ⟨D, hD⟩ : ∃ D, D = decide (nth X k = nth Y k) := ⟨_, rfl⟩
    rw [← hD] at HK
    have HD := hid hD
    clear hall e1 e2 hc hD
    go_wp2_with (first | ((with_reducible refine wpList_idxN _ ((none, 0, 0) : SlH) E_sls F_sl cSl1 wU wU (hSr) (HL.out) oD oD (fun _ => wU) (fun _ => ?_)); rw [HE1.out]) | ((with_reducible refine wpList_idxN _ ((none, 0, 0) : SlH) E_sls F_sl cSl1 wU wU (hMr) (HL2.out) oD oD (fun _ => wU) (fun _ => ?_)); rw [HE2.out]))
    refine HK.out.mono ?_
    rintro e w1 ⟨rfl, b1⟩
    cases D with
    | true =>
     have HA := hid (HALL.out (of_decide_eq_true HD.out.symm))
     go_wp2_with fail
     exact ⟨⟨k + 1, by go_num, by omega, HA.out, bnext hbr b1⟩, by simp [intOf]; omega⟩
    | false =>
     have HE := hid (HFK.out (of_decide_eq_false HD.out.symm))
     go_wp2_with fail
     go_ret
     exact ⟨by rw [HE.out]; rfl, bnext hbr b1⟩
   ·have HE : Hid (E = true) := hid (HT.out fun j hj => hall j (by omega))
    have hkn : ¬ ((k : Int) < (m : Int)) := by omega
    clear hall hlt hk
    go_wp2_with fail
    go_ret
    exact ⟨by rw [HE.out]; rfl, hbr⟩
 ·have dn : ((m : Int) != (m2 : Int)) = true := by simp; omega
  have hE : decide (X = Y) = false := decide_eq_false fun e => hm (by rw [← hX, ← hY, e])
  rw [hE]
  clear hr hr2 hX hY hXn hYn hE
  go_enter Tryz.func76, Tryz.ntmps76
  go_wp2_with fail
  go_ret
  exact ⟨rfl, Below.refl _ _⟩
end Go.Proofs.YtglpfpdomnllkaaGreatDoor

namespace Go.Proofs.YtglpfpdomnllkaaGreatDoor
open Go.RowKit
set_option maxHeartbeats 8000000
set_option maxRecDepth 100000
theorem period_81 {p : List Int} (hp : IsP p) (h : p.length ≤ 12) : periodN p ≤ 81 := by
 have h1 := perGo_le ((cycK p p.length).map List.length) 1 0 (by decide)
 have h2 := cycK_sum hp (Nat.le_refl _)
 have h3 : (periodN p) ^ 3 ≤ 3 ^ 12 := Nat.le_trans h1 (Nat.pow_le_pow_right (by decide) (by omega))
 apply Classical.byContradiction
 intro h4
 have h5 : 82 ^ 3 ≤ (periodN p) ^ 3 := Nat.pow_le_pow_left (by omega) 3
 have h6 : (82 : Nat) ^ 3 ≤ 3 ^ 12 := Nat.le_trans h5 h3
 exact absurd h6 (by decide)
theorem perG_le {F S : List Int} (hp : IsP F) (hs : ∀ x ∈ S, 0 ≤ x ∧ x < F.length) (h : F.length ≤ 12) : 0 < perG F S ∧ perG F S ≤ 81 :=
 ⟨perG_pos hp hs, Nat.le_trans (Nat.le_of_dvd (period_pos hp) (perG_dvd hp hs)) (period_81 hp h)⟩
theorem psPeriod_any (a a2 : Option Addr) (c c2 : Nat) (S F : List Int) (w : World) (hp : IsP F) (hs : ∀ x ∈ S, 0 ≤ x ∧ x < F.length) (hn : F.length ≤ 12) (RS : Ints w a c S) (RF : Ints w a2 c2 F) :
  Calls Tryz.prog 36 #[.agg #[.slice a S.length c, .slice a2 F.length c2]] w fun r w' => r = .returned (.int .i64 (perG F S : Nat)) ∧ Below w.heap.size w w' := by
 have cm := RF.le
 have cm2 := RS.le
 have cm3 := RS.max
 have HCY := hid (fun (x : Int) (h0 : 0 ≤ x) (h1 : x < F.length) w RF => pcycle_any a a2 c c2 S.length F x w hp (by omega) h0 h1 RF)
 have HST : Hid (∀ k : Nat, k < S.length → (0 ≤ atD 0 S k ∧ atD 0 S k < F.length) ∧ ∀ w, Calls Tryz.prog 73 #[.int .i64 (perG F (S.take k) : Nat), .int .i64 (ordN F (atD 0 S k) : Nat)] w fun r w' => r = .returned (.int .i64 (perG F (S.take (k + 1)) : Nat)) ∧ Below w.heap.size w w') := hid fun k hk => by
  have hm := hs _ (atD_mem hk)
  have ho := ordN_ok hp hm.1 hm.2
  have hb := perG_le hp (S := S.take k) (fun x hx => hs x (List.mem_of_mem_take hx)) hn
  have e : S.take (k + 1) = S.take k ++ [atD 0 S k] := by rw [List.take_succ_eq_append_getElem hk]; simp [atD, hk]
  refine ⟨hm, fun w => ?_⟩
  rw [e, perG_snoc]
  exact pcommon_any _ _ w hb.1 (by omega) ho.pos (by have := ho.le; omega)
 have hC0 := (SL.nil w).box (.cells #[.slice a S.length c, .slice a2 F.length c2] 63)
 obtain ⟨R, hR⟩ : ∃ R, R = perG F S := ⟨_, rfl⟩
 rw [← hR]
 have HR := hid hR
 clear hp hs hR
 go_enter Tryz.func36, Tryz.ntmps36
 go_wp2_with (with_reducible refine wpList_ldB F_sl wU wU (hC0.blk 0 rfl).1 wU ?_)
 go_loopw [9, 3] (fun iv ov wr => ∃ k : Nat, k ≤ S.length ∧ iv = .int .i64 k ∧ ov = .int .i64 (perG F (S.take k) : Nat) ∧ SL w.heap.size w wr [pBlk w.heap.size (.cells #[.slice a S.length c, .slice a2 F.length c2] 63)]) (fun iv _ _ => S.length - (intOf iv).toNat)
 case atStart => exact ⟨0, by omega, rfl, rfl, hC0⟩
 case round =>
  clear hC0
  obtain ⟨k, hk, rfl, rfl, hCr⟩ := hrel
  by_cases hlt : k < S.length
  ·have q := (hCr.blk 0 rfl).1
   have hFr := RF.below hCr.b
   have hSr := RS.below hCr.b
   obtain ⟨⟨h0, h1⟩, CO⟩ := HST.out k hlt
   obtain ⟨x, hx⟩ : ∃ x, x = atD 0 S k := ⟨_, rfl⟩
   rw [← hx] at h0 h1 CO
   have CY := HCY.out x h0 h1
   obtain ⟨od, hod⟩ : ∃ od, od = ordN F x := ⟨_, rfl⟩
   rw [← hod] at CY CO
   obtain ⟨p0, hp0⟩ : ∃ p0, p0 = perG F (S.take k) := ⟨_, rfl⟩
   rw [← hp0] at CO ⊢
   have HY := hid CY; have HC := hid CO; have HX := hid hx
   clear hod CY CO hx hp0
   go_wp2_with (first | ((with_reducible refine wpList_idx _ 0 E_ints F_int cInt1 wU wU (hSr) oD oD (fun _ => wU) (fun _ => ?_)); rw [← HX.out]) | (with_reducible refine wpList_ldS (n := 2) (us := #[.slice a S.length c, .slice a2 F.length c2]) A_sch kR wU wU (by assumption) wU wU ?_))
   refine (HY.out _ hFr).mono ?_
   rintro e w3 ⟨rfl, b3⟩
   have hC3 := hCr.mono b3
   go_wp2_with fail
   refine (HC.out _).mono ?_
   rintro e w4 ⟨rfl, b4⟩
   have hC4 := hC3.mono b4
   go_wp2_with fail
   exact ⟨⟨k + 1, by omega, by go_num, rfl, hC4⟩, by simp [intOf]; omega⟩
  ·have hkk : k = S.length := by omega
   have e1 : perG F (S.take k) = R := by rw [hkk, List.take_length, HR.out]
   rw [e1]
   have hkn : ¬ ((k : Int) < (S.length : Int)) := by omega
   have hb := hCr.b
   clear hkk e1 hlt hk hCr
   go_wp2_with fail
   go_ret
   exact ⟨rfl, hb⟩
theorem psPeriodX_any (n : Nat) (ad : Option Addr) (cap : Nat) (l : List Int) (w : World) (hL : Ints w ad cap l) (h : SchOk (n : Int) l) :
  Calls Tryz.prog 13 #[.int .i64 n, .slice ad l.length cap] w fun r w' => r = .returned (.tuple #[.int .i64 (perG (row5 (idL n) l) (seenL n l) : Nat), .int .i64 0]) ∧ Below w.heap.size w w' := by
 obtain ⟨hp, hfl, hs, hsl⟩ := sch_ok h
 have hn12 := h.hi
 have hn2 := h.lo
 have hl24 := h.le
 have HC := hid (fun w hS => pCheckScheme n ad cap l w hS h)
 have HO := hid (fun w hS => open_any n ad cap l w hS (by omega) (by omega) (by omega) (by have := h.rng; simpa using this))
 have HT := hid (fun a a2 c c2 w RS RF => psPeriod_any a a2 c c2 (seenL n l) (row5 (idL n) l) w hp hs (by omega) RS RF)
 obtain ⟨S, hS⟩ : ∃ S, S = seenL n l := ⟨_, rfl⟩
 obtain ⟨F, hF⟩ : ∃ F, F = row5 (idL n) l := ⟨_, rfl⟩
 rw [← hS, ← hF] at HO HT ⊢
 clear hS hF h hp hs hfl hsl
 go_enter Tryz.func13, Tryz.ntmps13
 go_wp2_with fail
 refine (HC.out _ hL).mono ?_
 rintro e w1 ⟨rfl, b1⟩
 go_wp2_with fail
 refine (HO.out _ (hL.below b1)).mono ?_
 rintro e w3 ⟨v3, rfl, ⟨a, c, a2, c2, rfl, RS, RF⟩, b3⟩
 go_wp2_with fail
 refine (HT.out a a2 c c2 _ RS RF).mono ?_
 rintro e w4 ⟨rfl, b4⟩
 go_wp2_with fail
 go_ret2
 exact ⟨rfl, bnext b1 (bnext b3 b4)⟩
end Go.Proofs.YtglpfpdomnllkaaGreatDoor

namespace Go.Proofs.YtglpfpdomnllkaaGreatDoor
open Go.RowKit
set_option maxRecDepth 100000
deriving instance DecidableEq for PassV
def pO : ByteArray := ⟨#[111]⟩
def awP : List PassV := [⟨1, 2, pO⟩, ⟨3, 2, pO⟩]
theorem aw9 : wordErr 3 awP = 0 := by decide +kernel
theorem aw9b : wordL 3 awP = [1, -2] := by decide +kernel
theorem aw13 : rptE 3 awP = 0 := by decide +kernel
theorem aw13b : rptB 3 awP = ⟨#[51]⟩ := by decide +kernel
theorem aw13c : periodN (endsP 3 awP) < 100 := by decide +kernel
/-- a slice and the error 0 came back. -/
def RetOk {α : Type} (c : α → Value) (sz : Nat) (W : World) (L : List α) (n : Nat) (r : Ending) (w' : World) : Prop :=
 ∃ a cap, r = .returned (.tuple #[.slice a n cap, .int .i64 0]) ∧ Reps c sz w' a cap L ∧ Below W.heap.size W w'
theorem RetOk.ofLE {W w' : World} {L L' : List Int} {e : Int} {r : Ending} (n : Nat) (h : RetLE W L e r w') (e1 : L = L') (e2 : e = 0) (e3 : L'.length = n) : RetOk cInt 1 W L' n r w' := by
 subst e1 e2 e3
 obtain ⟨a, cap, h1, h2, _, h4⟩ := h
 exact ⟨a, cap, h1, h2, h4⟩
theorem awWord (a : Option Addr) (cap : Nat) (w : World) (h : PassesR w a cap awP) : Calls Tryz.prog 21 #[.int .i64 3, .slice a 2 cap] w fun r w' => RetOk cInt 1 w [1, -2] 2 r w' :=
 (Word_any 3 a cap awP w h (by decide) (by decide)).mono fun _ _ h => .ofLE _ h aw9b aw9 rfl
theorem awRepeat (a : Option Addr) (cap : Nat) (w : World) (h : PassesR w a cap awP) : Calls Tryz.prog 12 #[.int .i64 3, .slice a 2 cap] w fun r w' => r = .returned (.tuple #[.string ⟨#[51]⟩, .int .i64 0]) ∧ Below w.heap.size w w' := by
 have := Repeat_passes 3 a cap awP w h (by decide) (by decide) (fun _ _ => itoaOk_small w _ (by omega) (by have := aw13c; omega))
 rw [aw13, aw13b] at this
 exact this
end Go.Proofs.YtglpfpdomnllkaaGreatDoor

namespace Go.Proofs.YtglpfpdomnllkaaGreatDoor
open Go.RowKit
set_option maxHeartbeats 2000000
set_option maxRecDepth 100000

end Go.Proofs.YtglpfpdomnllkaaGreatDoor

namespace Go.Proofs.YtglpfpdomnllkaaGreatDoor
open Go.RowKit
set_option maxHeartbeats 8000000
set_option maxRecDepth 100000
theorem tc1 : senE 3 2 = 0 := by decide +kernel
theorem tc1b : senL 3 2 = awP := by decide +kernel
theorem tcSennit (w : World) : Calls Tryz.prog 20 #[.int .i64 3, .int .i64 2] w fun r w' => RetOk cPass 3 w awP 2 r w' := by
 refine (Sennit_any 3 2 w).mono ?_
 rintro e w' ⟨a, cap, rfl, hr, _, hb⟩
 rw [tc1b] at hr ⊢
 rw [tc1]
 exact ⟨a, cap, rfl, hr, hb⟩
theorem tcSch : SchOk ((3 : Nat) : Int) [1, -2] := scheme_zero (by decide)
def f120 : List Int := [1, 2, 0]
theorem f120_isP : IsP f120 := by
 refine ⟨fun x h0 h1 => ?_, fun x y a b c d e => ?_⟩
 ·have h1 : x < 3 := h1
  rcases (by omega : x = 0 ∨ x = 1 ∨ x = 2) with rfl | rfl | rfl <;> decide
 ·have h1 : x < 3 := b
  have h2 : y < 3 := d
  rcases (by omega : x = 0 ∨ x = 1 ∨ x = 2) with rfl | rfl | rfl <;> rcases (by omega : y = 0 ∨ y = 1 ∨ y = 2) with rfl | rfl | rfl <;> first | rfl | exact absurd e (by decide)
theorem o120 (k : Int) (h0 : 0 ≤ k) (h1 : k < 3) : ordN f120 k = 3 := by
 refine ord_uniq (ordN_ok f120_isP h0 h1) ?_
 rcases (by omega : k = 0 ∨ k = 1 ∨ k = 2) with rfl | rfl | rfl
 ·exact ⟨by decide, by decide, by decide, fun j a b => by rcases (by omega : j = 1 ∨ j = 2) with rfl | rfl <;> decide⟩
 ·exact ⟨by decide, by decide, by decide, fun j a b => by rcases (by omega : j = 1 ∨ j = 2) with rfl | rfl <;> decide⟩
 ·exact ⟨by decide, by decide, by decide, fun j a b => by rcases (by omega : j = 1 ∨ j = 2) with rfl | rfl <;> decide⟩
theorem tcs1 : seenL 3 [1, -2] = [0, 2] := by decide
theorem tcs2 : row5 (idL 3) [1, -2] = f120 := by decide
theorem tcs3 : perG f120 [0, 2] = 3 := by
 unfold perG
 simp only [List.map_cons, List.map_nil]
 rw [o120 0 (by decide) (by decide), o120 2 (by decide) (by decide)]
 rfl
theorem tcs4 : rowAt [0, 2] f120 0 = [0, 2] := by
 unfold rowAt
 rw [powP_zero 3 f120 rfl]
 decide
theorem tcSeen (w : World) (ad : Option Addr) (cap : Nat) (hL : Ints w ad cap [1, -2]) : Calls Tryz.prog 7 #[.int .i64 3, .slice ad 2 cap, .int .i64 1] w fun r w' => ∃ a c xa xc, r = .returned (.tuple #[.slice a 1 c, .int .i64 0]) ∧ Reps cSl 1 w' a c [(xa, 2, xc)] ∧ Ints w' xa xc [0, 2] ∧ Below w.heap.size w w' := by
 have h3 := Seen_any 3 1 ad cap [1, -2] w hL tcSch (by decide) (by decide)
 rw [tcs1, tcs2] at h3
 refine h3.mono ?_
 rintro r w' ⟨v, qs, rfl, hq, hS⟩
 have e1 : (List.range 1).map (rowAt [0, 2] f120) = [[0, 2]] := by
  show [rowAt [0, 2] f120 0] = _
  rw [tcs4]
 rw [e1] at hq
 rcases qs with _ | ⟨⟨h, l⟩, _ | ⟨y, qs⟩⟩
 ·cases hq
 ·simp only [List.map_cons, List.map_nil, List.cons.injEq, and_true] at hq
  subst hq
  obtain ⟨a, c, rfl, hR⟩ := hS.slice 0 rfl
  obtain ⟨xa, xc, e2, hX⟩ := hS.slice 1 rfl
  obtain ⟨h1, h2, h3⟩ := h
  simp only [cSl, Value.slice.injEq] at e2
  obtain ⟨rfl, rfl, rfl⟩ := e2
  exact ⟨a, c, _, _, rfl, hR, hX, hS.b⟩
 ·simp at hq
theorem tcPeriod (w : World) (ad : Option Addr) (cap : Nat) (hL : Ints w ad cap [1, -2]) : Calls Tryz.prog 13 #[.int .i64 3, .slice ad 2 cap] w fun r w' => r = .returned (.tuple #[.int .i64 3, .int .i64 0]) ∧ Below w.heap.size w w' := by
 have h3 := psPeriodX_any 3 ad cap [1, -2] w hL tcSch
 rw [tcs1, tcs2, tcs3] at h3
 exact h3
theorem thimbleSennit_any (w : World) : Calls Tryz.prog 6 #[] w fun r w' => r = .returned (.bool true) ∧ Below w.heap.size w w' := by
 go_enter Tryz.func6, Tryz.ntmps6
 go_wp2_with fail
 refine (tcSennit _).mono ?_
 rintro e w1 ⟨aS, cS, rfl, hS, b1⟩
 go_wp2_with fail
 refine (awWord aS cS _ hS).mono ?_
 rintro e w2 ⟨aW, cW, rfl, hW, b2⟩
 have hS2 := hS.below b2
 have t2 := bnext b1 b2
 clear hS b1 b2
 go_wp2_with fail
 refine (tcSeen _ aW cW hW).mono ?_
 rintro e w3 ⟨aP, cP, xa, xc, rfl, hP, hX, b3⟩
 have hS3 := hS2.below b3
 have hW3 := hW.below b3
 have t3 := bnext t2 b3
 clear hS2 hW b3 t2
 go_wp2_with fail
 refine (tcPeriod _ aW cW hW3).mono ?_
 rintro e w4 ⟨rfl, b4⟩
 have hS4 := hS3.below b4
 have hP4 := hP.below b4
 have hX4 := hX.below b4
 have t4 := bnext t3 b4
 clear hS3 hP hX hW3 b4 t3
 go_wp2_with fail
 refine (awRepeat aS cS _ hS4).mono ?_
 rintro e w5 ⟨rfl, b5⟩
 have hP5 := hP4.below b5
 have hX5 := hX4.below b5
 have t5 := bnext t4 b5
 clear hS4 hP4 hX4 b5 t4
 have z0 : atD ((none, 0, 0) : SlH) [(xa, 2, xc)] (0 : Nat) = (xa, 2, xc) := rfl
 go_wp2_with ((first | (with_reducible refine wpList_idxG ((none, 0, 0) : SlH) E_sls F_sl cSl1 wU wU (hP5) (rfl) oD oD (fun _ => wU) wU (fun _ => wU) (fun _ => ?_)) | (with_reducible refine wpList_idxN _ ((none, 0, 0) : SlH) E_sls F_sl cSl1 wU wU (hP5) (rfl) oD oD (fun _ => wU) (fun _ => ?_))))
 refine (amSame xa _ xc 2 2 [0, 2] _ (hX5.below (bal (Below.refl _ _) _)) (reps_of_own (own_newN cIntS [0, 2] 2 rfl (by decide) _ rfl (Nat.le_refl _) rfl) rfl) rfl (by decide)).mono ?_
 rintro e w6 ⟨rfl, b6⟩
 replace b6 := bnext (bal (Below.refl _ _) _) b6
 go_wp2_with fail
 go_ret
 exact ⟨rfl, bnext t5 b6⟩
end Go.Proofs.YtglpfpdomnllkaaGreatDoor

namespace Go.Proofs.YtglpfpdomnllkaaGreatDoor
open Go.RowKit
set_option maxHeartbeats 8000000
set_option maxRecDepth 100000
theorem tc_out1 (n : Int) (al ac : Option Addr) (cl cc : Nat) (l C : List Int) (w : World) (hL : Ints w al cl l) (hC : Ints w ac cc C) (c1 : n < 2) :
  Calls Tryz.prog 3 #[.int .i64 n, .slice al l.length cl, .slice ac C.length cc] w fun r w' => r = .returned (.bool true) ∧ Below w.heap.size w w' := by
 have d1 : decide (n < 2) = true := decide_eq_true c1
 have HTS := hid thimbleSennit_any
 have hlc := hL.le
 have hlm := hL.max
 have hcc := hC.le
 have hcm := hC.max
 clear c1
 go_enter Tryz.func3, Tryz.ntmps3
 go_wp2_with fail
 refine (HTS.out _).mono ?_
 rintro e w1 ⟨rfl, b1⟩
 replace hL := hL.below b1
 replace hC := hC.below b1
 have t1 := b1
 clear b1
 go_wp2_with fail
 go_ret
 exact ⟨rfl, t1⟩
theorem tc_out2 (n : Int) (al ac : Option Addr) (cl cc : Nat) (l C : List Int) (w : World) (hL : Ints w al cl l) (hC : Ints w ac cc C) (c1 : ¬ n < 2) (c2 : 6 < n) :
  Calls Tryz.prog 3 #[.int .i64 n, .slice al l.length cl, .slice ac C.length cc] w fun r w' => r = .returned (.bool true) ∧ Below w.heap.size w w' := by
 have d1 : decide (n < 2) = false := decide_eq_false c1
 have d2 : decide (6 < n) = true := decide_eq_true c2
 have HTS := hid thimbleSennit_any
 have hlc := hL.le
 have hlm := hL.max
 have hcc := hC.le
 have hcm := hC.max
 clear c1 c2
 go_enter Tryz.func3, Tryz.ntmps3
 go_wp2_with fail
 refine (HTS.out _).mono ?_
 rintro e w1 ⟨rfl, b1⟩
 replace hL := hL.below b1
 replace hC := hC.below b1
 have t1 := b1
 clear b1
 go_wp2_with fail
 go_ret
 exact ⟨rfl, t1⟩
theorem tc_out3 (n : Int) (al ac : Option Addr) (cl cc : Nat) (l C : List Int) (w : World) (hL : Ints w al cl l) (hC : Ints w ac cc C) (c1 : ¬ n < 2) (c2 : ¬ 6 < n) (c3 : 10 < (l.length : Int)) :
  Calls Tryz.prog 3 #[.int .i64 n, .slice al l.length cl, .slice ac C.length cc] w fun r w' => r = .returned (.bool true) ∧ Below w.heap.size w w' := by
 have d1 : decide (n < 2) = false := decide_eq_false c1
 have d2 : decide (6 < n) = false := decide_eq_false c2
 have d3 : decide (10 < (l.length : Int)) = true := decide_eq_true c3
 have HTS := hid thimbleSennit_any
 have hlc := hL.le
 have hlm := hL.max
 have hcc := hC.le
 have hcm := hC.max
 clear c1 c2 c3
 go_enter Tryz.func3, Tryz.ntmps3
 go_wp2_with fail
 refine (HTS.out _).mono ?_
 rintro e w1 ⟨rfl, b1⟩
 replace hL := hL.below b1
 replace hC := hC.below b1
 have t1 := b1
 clear b1
 go_wp2_with fail
 go_ret
 exact ⟨rfl, t1⟩
theorem tc_out4 (n : Int) (al ac : Option Addr) (cl cc : Nat) (l C : List Int) (w : World) (hL : Ints w al cl l) (hC : Ints w ac cc C) (c1 : ¬ n < 2) (c2 : ¬ 6 < n) (c3 : ¬ 10 < (l.length : Int)) (c4 : schemeE n l ≠ 0) :
  Calls Tryz.prog 3 #[.int .i64 n, .slice al l.length cl, .slice ac C.length cc] w fun r w' => r = .returned (.bool true) ∧ Below w.heap.size w w' := by
 have d1 : decide (n < 2) = false := decide_eq_false c1
 have d2 : decide (6 < n) = false := decide_eq_false c2
 have d3 : decide (10 < (l.length : Int)) = false := decide_eq_false c3
 have CSC := fun w h => rCheckScheme_any n al cl l w h
 obtain ⟨E4, hE4⟩ : ∃ E, E = schemeE n l := ⟨_, rfl⟩
 rw [← hE4] at CSC c4
 have hne4 : (E4 == 0) = false := by simpa using c4
 have hne4' : (E4 != 0) = true := by simpa using c4
 have HSC := hid CSC
 clear CSC hE4
 have HTS := hid thimbleSennit_any
 have hlc := hL.le
 have hlm := hL.max
 have hcc := hC.le
 have hcm := hC.max
 clear c1 c2 c3 c4
 go_enter Tryz.func3, Tryz.ntmps3
 go_wp2_with fail
 refine (HSC.out _ hL).mono ?_
 rintro e w1 ⟨rfl, b1⟩
 replace hL := hL.below b1
 replace hC := hC.below b1
 have t1 := b1
 clear b1
 go_wp2_with fail
 refine (HTS.out _).mono ?_
 rintro e w2 ⟨rfl, b2⟩
 replace hL := hL.below b2
 replace hC := hC.below b2
 have t2 := bnext t1 b2
 clear t1 b2
 go_wp2_with fail
 go_ret
 exact ⟨rfl, t2⟩
theorem tc_out5 (n : Int) (al ac : Option Addr) (cl cc : Nat) (l C : List Int) (w : World) (hL : Ints w al cl l) (hC : Ints w ac cc C) (c1 : ¬ n < 2) (c2 : ¬ 6 < n) (c3 : ¬ 10 < (l.length : Int)) (c4 : schemeE n l = 0) (c5 : 30 < (C.length : Int)) :
  Calls Tryz.prog 3 #[.int .i64 n, .slice al l.length cl, .slice ac C.length cc] w fun r w' => r = .returned (.bool true) ∧ Below w.heap.size w w' := by
 have d1 : decide (n < 2) = false := decide_eq_false c1
 have d2 : decide (6 < n) = false := decide_eq_false c2
 have d3 : decide (10 < (l.length : Int)) = false := decide_eq_false c3
 have CSC := fun w h => rCheckScheme_any n al cl l w h
 rw [c4] at CSC
 have HSC := hid CSC
 clear CSC
 have d5 : decide (30 < (C.length : Int)) = true := decide_eq_true c5
 have HTS := hid thimbleSennit_any
 have hlc := hL.le
 have hlm := hL.max
 have hcc := hC.le
 have hcm := hC.max
 clear c1 c2 c3 c4 c5
 go_enter Tryz.func3, Tryz.ntmps3
 go_wp2_with fail
 refine (HSC.out _ hL).mono ?_
 rintro e w1 ⟨rfl, b1⟩
 replace hL := hL.below b1
 replace hC := hC.below b1
 have t1 := b1
 clear b1
 go_wp2_with fail
 refine (HTS.out _).mono ?_
 rintro e w2 ⟨rfl, b2⟩
 replace hL := hL.below b2
 replace hC := hC.below b2
 have t2 := bnext t1 b2
 clear t1 b2
 go_wp2_with fail
 go_ret
 exact ⟨rfl, t2⟩
theorem tc_out6 (n : Int) (al ac : Option Addr) (cl cc : Nat) (l C : List Int) (w : World) (hL : Ints w al cl l) (hC : Ints w ac cc C) (c1 : ¬ n < 2) (c2 : ¬ 6 < n) (c3 : ¬ 10 < (l.length : Int)) (c4 : schemeE n l = 0) (c5 : ¬ 30 < (C.length : Int)) (c6 : placeE n C ≠ 0) :
  Calls Tryz.prog 3 #[.int .i64 n, .slice al l.length cl, .slice ac C.length cc] w fun r w' => r = .returned (.bool true) ∧ Below w.heap.size w w' := by
 have d1 : decide (n < 2) = false := decide_eq_false c1
 have d2 : decide (6 < n) = false := decide_eq_false c2
 have d3 : decide (10 < (l.length : Int)) = false := decide_eq_false c3
 have CSC := fun w h => rCheckScheme_any n al cl l w h
 rw [c4] at CSC
 have HSC := hid CSC
 clear CSC
 have d5 : decide (30 < (C.length : Int)) = false := decide_eq_false c5
 have CPL := fun w h => rCheckPlacing_any n ac cc C w h
 obtain ⟨E6, hE6⟩ : ∃ E, E = placeE n C := ⟨_, rfl⟩
 rw [← hE6] at CPL c6
 have hne6 : (E6 == 0) = false := by simpa using c6
 have hne6' : (E6 != 0) = true := by simpa using c6
 have HPL := hid CPL
 clear CPL hE6
 have HTS := hid thimbleSennit_any
 have hlc := hL.le
 have hlm := hL.max
 have hcc := hC.le
 have hcm := hC.max
 clear c1 c2 c3 c4 c5 c6
 go_enter Tryz.func3, Tryz.ntmps3
 go_wp2_with fail
 refine (HSC.out _ hL).mono ?_
 rintro e w1 ⟨rfl, b1⟩
 replace hL := hL.below b1
 replace hC := hC.below b1
 have t1 := b1
 clear b1
 go_wp2_with fail
 refine (HPL.out _ hC).mono ?_
 rintro e w2 ⟨rfl, b2⟩
 replace hL := hL.below b2
 replace hC := hC.below b2
 have t2 := bnext t1 b2
 clear t1 b2
 go_wp2_with fail
 refine (HTS.out _).mono ?_
 rintro e w3 ⟨rfl, b3⟩
 replace hL := hL.below b3
 replace hC := hC.below b3
 have t3 := bnext t2 b3
 clear t2 b3
 go_wp2_with fail
 go_ret
 exact ⟨rfl, t3⟩
end Go.Proofs.YtglpfpdomnllkaaGreatDoor

namespace Go.Proofs.YtglpfpdomnllkaaGreatDoor
open Go.RowKit
set_option maxHeartbeats 8000000
set_option maxRecDepth 100000
theorem cutS (a : Option Addr) (n cp i j : Nat) (lo hi : Option Value) (hlo : lo = some (.int .i64 i) ∨ lo = none ∧ i = 0) (hhi : hi = some (.int .i64 j)) (hij : i ≤ j) (hj : j ≤ n) (hn : n ≤ cp) :
  ∃ a', ∀ V, (Instr.sliceAt 25 (.slice a n cp) lo hi none).run Tryz.prog V = .ok (.slice a' (j - i) (cp - i)) V ∧ ∀ H : List SlH, H.length = n → Reps cSl 1 V a cp H → Reps cSl 1 V a' (cp - i) ((H.take j).drop i) := by
 refine ⟨if cp = i then a else a.map (·.add (i * 1)), fun V => ?_⟩
 obtain ⟨inf, hinf, _, hs, _⟩ := info_parts E_sls.inf
 have hrun : (Instr.sliceAt 25 (.slice a n cp) lo hi none).run Tryz.prog V = .ok (.slice (if cp = i then a else a.map (·.add (i * 1))) (j - i) (cp - i)) V := by
  have hb := run_bounds (P := Tryz.prog) (w := V) (n := n) (cap := cp) (lo := lo) (hi := hi) (i := i) (j := j) hlo (.inl hhi) hij (by omega)
  simp [Instr.sliceAt, run_underlying E_sls.und, Instr.slice, hb, sizeOf, typeInfo, hinf, hs]
 refine ⟨hrun, fun H hH hR => ?_⟩
 subst hH
 obtain ⟨a', h1, h2, _⟩ := run_cut (P := Tryz.prog) E_sls hR lo hi i j hlo (.inl hhi) hij hj
 rw [hrun] at h1
 have e : (if cp = i then a else a.map (·.add (i * 1))) = a' := by injection h1 with e1; injection e1
 rw [e]
 exact h2
/-- the rows from some row on are the first ones. -/
def sameRows (pic : Nat → List Int) (all h : Nat) : Prop := ∀ i, i < all → pic i = pic (i + h)
theorem rows_cut (pic : Nat → List Int) (all h : Nat) (hh : h ≤ all) : (((List.range (2 * all)).map pic).take (h + all)).drop h = (List.range all).map fun i => pic (i + h) := by
 apply List.ext_getElem
 ·simp; omega
 ·intro i h1 h2
  simp at h1 h2
  simp
  congr 1
  omega
theorem rows_head (pic : Nat → List Int) (all : Nat) : (((List.range (2 * all)).map pic).take all).drop 0 = (List.range all).map pic := by
 apply List.ext_getElem
 ·simp; omega
 ·intro i h1 h2
  simp
theorem rows_same (pic : Nat → List Int) (all h : Nat) : (List.range all).map pic = ((List.range all).map fun i => pic (i + h)) ↔ sameRows pic all h := by
 constructor
 ·intro e i hi
  have h1 := congrArg (fun l => l[i]?) e
  simpa [hi] using h1
 ·intro e
  exact List.map_congr_left fun i hi => e i (List.mem_range.1 hi)
/-- what Repeat answers. -/
def RepOk (pic : Nat → List Int) (all k : Nat) : Prop := 1 ≤ k ∧ k ≤ all ∧ (k < all → sameRows pic all k) ∧ ∀ r, 0 < r → r < k → ¬ sameRows pic all r
theorem pequal_any (n m m2 : Nat) (a a2 : Option Addr) (c c2 : Nat) (H H2 : List SlH) (X Y : List (List Int)) (w : World) (hR : Reps cSl 1 w a c H) (hR2 : Reps cSl 1 w a2 c2 H2) (hr : RowsR w n H X) (hr2 : RowsR w n H2 Y) (hX : X.length = m) (hY : Y.length = m2)
  (hXn : ∀ x ∈ X, x.length = n) (hYn : ∀ x ∈ Y, x.length = n) (hn : n ≤ 1000) :
  Calls Tryz.prog 39 #[.slice a m c, .slice a2 m2 c2, .func (.func 40) #[] #[]] w fun r w' => r = .returned (.bool (decide (X = Y))) ∧ Below w.heap.size w w' := by
 have HE := hid (eqFunc_any n m m2 a a2 c c2 H H2 X Y w hR hR2 hr hr2 hX hY hXn hYn hn)
 obtain ⟨E, hE⟩ : ∃ E, E = decide (X = Y) := ⟨_, rfl⟩
 rw [← hE] at HE ⊢
 clear hE hR hR2 hr hr2 hX hY hXn hYn
 go_enter Tryz.func39, Tryz.ntmps39
 go_wp2_with fail
 refine HE.out.mono ?_
 rintro e w1 ⟨rfl, b1⟩
 go_wp2_with fail
 go_ret
 exact ⟨rfl, b1⟩
theorem rowsR_cut {w : World} {n i j : Nat} {H : List SlH} {X : List (List Int)} (h : RowsR w n H X) (hij : i ≤ j) (hj : j ≤ X.length) : RowsR w n ((H.take j).drop i) ((X.take j).drop i) := by
 obtain ⟨h1, h2⟩ := h
 refine ⟨by simp [h1], fun k hk => ?_⟩
 simp at hk
 obtain ⟨a, c, e, r⟩ := h2 (i + k) (by omega)
 refine ⟨a, c, ?_, ?_⟩
 ·rw [← e]
  simp only [atD, Int.toNat_natCast, List.getD_eq_getElem?_getD, List.getElem?_drop, List.getElem?_take]
  rw [if_pos (by omega)]
 ·have e2 : nth ((X.take j).drop i) k = nth X (i + k) := by
   simp only [nth, atD, Int.toNat_natCast, List.getD_eq_getElem?_getD, List.getElem?_drop, List.getElem?_take]
   rw [if_pos (by omega)]
  rw [e2]
  exact r
theorem psRepeat_any (n : Nat) (ad a3 : Option Addr) (cap c3 : Nat) (l C : List Int) (w : World) (hL : Ints w ad cap l) (hC : Ints w a3 c3 C) (h : SchOk (n : Int) l) (h2 : PlcOk (n : Int) C) :
  Calls Tryz.prog 14 #[.int .i64 n, .slice ad l.length cap, .slice a3 C.length c3] w fun r w' => (∃ k : Nat, r = .returned (.tuple #[.int .i64 k, .int .i64 0]) ∧ RepOk (paintAt (seenL n l) (row5 (idL n) l) C) (perG (row5 (idL n) l) (seenL n l)) k) ∧ Below w.heap.size w w' := by
 obtain ⟨hp, hfl, hs, hsl⟩ := sch_ok h
 have hn12 := h.hi
 have hn2 := h.lo
 have hl24 := h.le
 have hcl : C.length = n := by have := h2.len; omega
 have hpg := perG_le hp hs (by omega)
 have HC := hid (fun w hS hC => pCheckPlaced n ad a3 cap c3 l C w hS hC h h2)
 have HO := hid (fun w hS => open_any n ad cap l w hS (by omega) (by omega) (by omega) (by have := h.rng; simpa using this))
 have HT := hid (fun a a2 c c2 w RS RF => psPeriod_any a a2 c c2 (seenL n l) (row5 (idL n) l) w hp hs (by omega) RS RF)
 have HP := hid (fun rows a a2 c c2 w (hr : rows ≤ 1000000) RS RF RC => paint_any rows a a2 a3 c c2 c3 (seenL n l) (row5 (idL n) l) C w hp hs (by omega) (by omega) hr (by omega) RS RF RC)
 have hpl : ∀ r, (paintAt (seenL n l) (row5 (idL n) l) C r).length = l.length := fun r => by rw [paintAt_len, hsl]
 obtain ⟨S, hS⟩ : ∃ S, S = seenL n l := ⟨_, rfl⟩
 obtain ⟨F, hF⟩ : ∃ F, F = row5 (idL n) l := ⟨_, rfl⟩
 rw [← hS, ← hF] at HO HT HP hpg hpl ⊢
 obtain ⟨all, hall⟩ : ∃ all, all = perG F S := ⟨_, rfl⟩
 rw [← hall] at HT hpg ⊢
 obtain ⟨pic, hpic⟩ : ∃ pic, pic = paintAt S F C := ⟨_, rfl⟩
 rw [← hpic] at HP hpl ⊢
 obtain ⟨hp1, hp81⟩ := hpg
 have HPL := hid hpl
 clear hS hF h h2 hp hs hfl hsl hcl hall hpic hpl
 go_enter Tryz.func14, Tryz.ntmps14
 go_wp2_with fail
 refine (HC.out _ hL hC).mono ?_
 rintro e w1 ⟨rfl, b1⟩
 go_wp2_with fail
 refine (HO.out _ (hL.below b1)).mono ?_
 rintro e w3 ⟨v3, rfl, ⟨a, c, a2, c2, rfl, RS, RF⟩, b3⟩
 have t3 := bnext b1 b3
 have q3 := heap_alloc_new w3 (.cells #[.slice a S.length c, .slice a2 F.length c2] 63)
 have b4 := bal (Below.refl w3.heap.size w3) (.cells #[.slice a S.length c, .slice a2 F.length c2] 63)
 clear b1 b3
 go_wp2_with (with_reducible refine wpList_ldS (n := 2) (us := #[.slice a S.length c, .slice a2 F.length c2]) A_sch kR wU wU (by assumption) wU wU ?_)
 refine (HT.out a a2 c c2 _ (RS.below b4) (RF.below b4)).mono ?_
 rintro e w5 ⟨rfl, b5⟩
 have q5 := (b5.block _ (Array.getElem?_eq_some_iff.1 q3).1).trans q3
 have t5 := bnext t3 (bnext b4 b5)
 have RS5 := RS.below (bnext b4 b5)
 have RF5 := RF.below (bnext b4 b5)
 have RC5 := hC.below t5
 have hw2 : IntKind.i64.wrap (2 * (all : Int)) = ((2 * all : Nat) : Int) := by rw [IntWalk.i64_in _ (by omega)]; omega
 clear q3 b4 b5 t3 RS RF
 go_wp2_with (with_reducible refine wpList_ldS (n := 2) (us := #[.slice a S.length c, .slice a2 F.length c2]) A_sch kR wU wU (by assumption) wU wU ?_)
 refine (HP.out (2 * all) a a2 c c2 _ (by omega) RS5 RF5 RC5).mono ?_
 rintro e w6 ⟨v6, qs, rfl, hqs, hS6⟩
 have t6 := bnext t5 hS6.b
 have hH : (qs.map Prod.fst).length = (qs.map Prod.snd).length := by simp
 have hX : ∀ r ∈ qs.map Prod.snd, r.length = l.length := fun r hr => by
  rw [hqs] at hr
  obtain ⟨i, _, rfl⟩ := List.mem_map.1 hr
  exact HPL.out i
 have hmq : mxQ (qs.map Prod.fst) (qs.map Prod.snd) = qs := zip_back qs
 have hRR : RowsR w6 l.length (qs.map Prod.fst) (qs.map Prod.snd) := SL.rowsR (pre := [_]) (by rw [hmq]; exact hS6) hH hX
 obtain ⟨ar, cr, hv6, hRr⟩ := hS6.slice 0 rfl
 have hql : (qs.map Prod.fst).length = 2 * all := by rw [hH, hqs]; simp
 rw [hql] at hv6
 subst hv6
 have hrc := hRr.le
 rw [hql] at hrc
 rw [hqs] at hRR hX
 obtain ⟨H, hHH⟩ : ∃ H, H = qs.map Prod.fst := ⟨_, rfl⟩
 rw [← hHH] at hRR hRr hql
 clear hS6 hqs hmq hH hHH t5 RS5 RF5 RC5 q5 hw2
 have HQL := hid hql
 clear hql
 go_wp2_with fail
 go_loopw [12] (fun iv wr => ∃ h : Nat, 1 ≤ h ∧ h ≤ all ∧ iv = .int .i64 h ∧ (Hid (∀ r, 0 < r → r < h → ¬ sameRows pic all r)) ∧ Below w6.heap.size w6 wr) (fun iv _ => all - (intOf iv).toNat)
 case atStart => exact ⟨1, by omega, hp1, rfl, hid fun r a b => by omega, Below.refl _ _⟩
 case round =>
  obtain ⟨h, h1, h2, rfl, hno, hbr⟩ := hrel
  have tr := bnext t6 hbr
  by_cases hlt : h < all
  ·obtain ⟨aA, hA⟩ := cutS ar (2 * all) cr 0 all none (some (.int .i64 all)) (.inr ⟨rfl, rfl⟩) rfl (by omega) (by omega) hrc
   obtain ⟨aB, hB⟩ := cutS ar (2 * all) cr h (h + all) (some (.int .i64 h)) (some (.int .i64 ((h + all : Nat) : Int))) (.inl rfl) rfl (by omega) (by omega) hrc
   have hRa : RowsR wr l.length H ((List.range (2 * all)).map pic) := hRR.below hbr
   have hA1 := fun V (hb : Below wr.heap.size wr V) => (hA V).2 H HQL.out ((hRr.below hbr).below hb)
   have hB1 := fun V (hb : Below wr.heap.size wr V) => (hB V).2 H HQL.out ((hRr.below hbr).below hb)
   have hRA := rowsR_cut (i := 0) (j := all) hRa (by omega) (by simp; omega)
   have hRB := rowsR_cut (i := h) (j := h + all) hRa (by omega) (by simp; omega)
   rw [rows_head] at hRA
   rw [rows_cut pic all h h2] at hRB
   obtain ⟨cA, hcAe⟩ : ∃ c, c = cr - 0 := ⟨_, rfl⟩
   obtain ⟨cB, hcBe⟩ : ∃ c, c = cr - h := ⟨_, rfl⟩
   rw [← hcAe] at hA1
   rw [← hcBe] at hB1
   have hcA : ∀ V, (Instr.sliceAt 25 (.slice ar (2 * all) cr) none (some (.int .i64 all)) none).run Tryz.prog V = .ok (.slice aA all cA) V := fun V => by rw [hcAe]; exact (hA V).1
   have hcB : ∀ V, (Instr.sliceAt 25 (.slice ar (2 * all) cr) (some (.int .i64 h)) (some (.int .i64 ((h + all : Nat) : Int))) none).run Tryz.prog V = .ok (.slice aB all cB) V := fun V => by
    have := (hB V).1
    rw [hcBe]
    rwa [show h + all - h = all by omega] at this
   have CE : ∀ V, Below wr.heap.size wr V → Calls Tryz.prog 39 #[.slice aA all cA, .slice aB all cB, .func (.func 40) #[] #[]] V fun r w' => r = .returned (.bool (decide ((List.range all).map pic = (List.range all).map fun i => pic (i + h)))) ∧ Below V.heap.size V w' := fun V hb =>
    pequal_any l.length all all aA aB cA cB _ _ _ _ V (hA1 V hb) (hB1 V hb) (hRA.below hb) (hRB.below hb) (by simp) (by simp) (fun x hx => by
     obtain ⟨i, _, rfl⟩ := List.mem_map.1 hx; exact HPL.out i) (fun x hx => by
     obtain ⟨i, _, rfl⟩ := List.mem_map.1 hx; exact HPL.out _) (by omega)
   have hwh : IntKind.i64.wrap ((h : Int) + (all : Int)) = ((h + all : Nat) : Int) := by rw [IntWalk.i64_in _ (by omega)]; omega
   obtain ⟨E, hE⟩ : ∃ E, E = decide ((List.range all).map pic = (List.range all).map fun i => pic (i + h)) := ⟨_, rfl⟩
   have HE2 : Hid (E = true ↔ sameRows pic all h) := hid (by rw [hE, decide_eq_true_iff]; exact rows_same pic all h)
   rw [← hE] at CE
   have HCE := hid CE
   obtain ⟨ha, hha⟩ : ∃ ha : Int, ha = ((h + all : Nat) : Int) := ⟨_, rfl⟩
   rw [← hha] at hwh hcB
   clear hA hB hRa hA1 hB1 hRA hRB CE hha hE hcAe hcBe
   go_wp2_with fail
   refine wp_region_q kR kR ?_
   repeat (first | ((refine wpQ_inG (.slice aA all cA) wU (fun w' hw' => ?_) ?_); (focus (simp [execOp, Act.eval, hcA, Result.andThen]; done)); (try simp only [Act.put, pA, pB, pC])) | ((refine wpQ_inG (.slice aB all cB) wU (fun w' hw' => ?_) ?_); (focus (simp [execOp, Act.eval, hcB, Result.andThen]; done)); (try simp only [Act.put, pA, pB, pC])) | (((refine wpQ_oneG ?_ wU (fun w' => ?_) ?_); rotate_left; (go_simp; rfl); (try simp only [Act.put, pA, pB, pC])); rw [hwh]) | ((refine wpB_call (.bool E) wU (fun w' => ?_) (fun w' hw' => HCE.out w' hw') ?_); (focus (go_simp; done)); (try simp only [Act.put, pA, pB, pC])) |  ((with_reducible refine wpB_load (by first | exact F_int | exact F_u64s) wU wU (by assumption) wU ?_); (try simp only [Act.put, pA, pB, pC])) | ((with_reducible refine wpB_loadS (n := 2) (us := #[_, _]) A_int kR wU wU (by assumption) wU wU ?_); (try simp only [Act.put, pA, pB, pC])) | ((with_reducible refine wpB_loadS (n := 4) (us := #[_, _, _, _]) A_frac kR wU wU (by assumption) wU wU ?_); (try simp only [Act.put, pA, pB, pC])) | ((refine wpQ_oneG ?_ wU (fun w' => ?_) ?_); rotate_left; (go_simp; rfl); (try simp only [Act.put, pA, pB, pC])))
   refine wpQuiet_nil ?_
   intro wy hby
   have ty := bnext tr hby
   rcases E with _ | _
   ·clear hcA hcB hwh HCE
    go_wp2_with fail
    exact ⟨⟨h + 1, by omega, by omega, by go_num, hid fun r r0 r1 => by
     rcases (by omega : r < h ∨ r = h) with h3 | rfl
     ·exact hno.out r r0 h3
     ·intro h4; exact absurd (HE2.out.2 h4) (by decide), bnext hbr hby⟩, by simp [intOf]; omega⟩
   ·clear hcA hcB hwh HCE
    go_wp2_with fail
    go_ret2
    exact ⟨⟨h, rfl, h1, h2, fun _ => HE2.out.1 (by first | rfl | trivial), hno.out⟩, ty⟩
  ·have hkk : h = all := by omega
   subst hkk
   clear hlt
   go_wp2_with fail
   go_ret2
   exact ⟨⟨h, rfl, h1, h2, fun a => absurd a (by omega), hno.out⟩, tr⟩
end Go.Proofs.YtglpfpdomnllkaaGreatDoor
