/- Contracts and plain facts that the claim uses (QsE). Conditions: as each one states. -/
import Derived.Shelf.Strings.Trim
import Derived.Shelf.Strings.SlTrimAscii
import Derived.Shelf.Strings.Repeat
import Derived.Shelf.Strings.OnBuilder
import Derived.Shelf.Strconv.Itoa1
import Derived.Shelf.Strconv.Itoa3
import Derived.Shelf.LaysM
import Derived.Ground.Names2Prog
import Derived.Test.YtoebgfgihfjnnaaGreatDoorProg
import Derived.WalkKit
import Derived.WalkSpells
import Derived.Maps.AppendAt
import Derived.Deep.Quiet
import Derived.Maps.Own
import Derived.Maps.OwnSet
import Derived.Maps.Views
import Derived.WalkLawsBesides
import Derived.Laws.EntriesVeiled
import Derived.Deep.QuietTactic
import Derived.BigQuiet
import Derived.Lib.OthersKept
import Derived.Deep.RegionHeld3
import Derived.Deep.AppendLies
import Derived.Deep.RegionHeldLaw
import Derived.Deep.RegionLaw
import Derived.Lib.ItoaLen
import Derived.Lib.ItoaMem
import Derived.RangeFuncNested
import Derived.RangeFuncBound
import Derived.RangeFuncCalls
import Derived.RangeFuncLeaves
import Derived.RangeFuncFrom
import Derived.Shelf.Abstract
import Derived.Shelf.RegionOpen
import Derived.OwnWalkIn
import Derived.TacticsInMore
import Derived.LoopNIn
import Derived.LoopIn
import Derived.Deep.LoopGhost
import Derived.Laws.CopyOwn
import Derived.IntWalk
import Derived.Sort.LoopGhostIn
import Derived.StillTail
import Derived.Laws.Tables
import Derived.BigRegion
import Derived.ChangeAlike
import Derived.Shelf.Bits.Mul64
import Derived.Maps.RangeWalk
import Derived.Lib.Split
import Derived.Lib.AtoiAll
import Derived.Shelf.Strconv.ErrVarAll
import Derived.Shelf.Strconv.AtoiAll
import Derived.Shelf.Strings.Cut
import Derived.Shelf.Strings.Split
import Derived.Shelf.Strings.SplitShaped
import Derived.Lib.AppendIntMem
import Derived.Lib.SmallJoins
import Derived.LaidSub
import Derived.Lib.LaidTab
import Derived.Lib.AtoiErrMem
import Derived.Maps.Ext
import Derived.Stop.LaidErr
import Derived.ReadAgain
import Derived.ChangeSlices
import Derived.OpenShut
import Derived.ProofKit
import Derived.Deep.DeepHandedRow
import Derived.Deep.SlicePairs
import Derived.Test.YtoebgfgihfjnnaaGreatDoorXz01
import Derived.Test.YtoebgfgihfjnnaaGreatDoorXz02
import Derived.Test.YtoebgfgihfjnnaaGreatDoorXz03
import Derived.Test.YtoebgfgihfjnnaaGreatDoorXz04
import Derived.Test.YtoebgfgihfjnnaaGreatDoorXz05
import Derived.Test.YtoebgfgihfjnnaaGreatDoorXz06
import Derived.Test.YtoebgfgihfjnnaaGreatDoorXz07
import Derived.Test.YtoebgfgihfjnnaaGreatDoorXz08
import Derived.Test.YtoebgfgihfjnnaaGreatDoorXz09
import Derived.Test.YtoebgfgihfjnnaaGreatDoorXz10
import Derived.Test.YtoebgfgihfjnnaaGreatDoorXz11
import Derived.Test.YtoebgfgihfjnnaaGreatDoorXz12
import Derived.Test.YtoebgfgihfjnnaaGreatDoorY4501
import Derived.Test.YtoebgfgihfjnnaaGreatDoorY4502
import Derived.Test.YtoebgfgihfjnnaaGreatDoorY4503
import Derived.Test.YtoebgfgihfjnnaaGreatDoorY4504
set_option linter.all false

namespace Go.Proofs.YtoebgfgihfjnnaaGreatDoor
open Go.RowKit
set_option maxHeartbeats 16000000
set_option maxRecDepth 100000
theorem rParse4_any (S : List UInt8) (w : World) (hz : S.length ≤ 1048576) :
  Calls Tryz.prog 34 #[.string (bT S)] w fun r w' => RetMac w (parseMB S).1 (parseMB S).2 r w' := by
 have hsz := bT_size S
 have hS := (SL.nil w).box (.cells #[.bool false, .int .i64 0, .int .i64 0, .slice none 0 0] 25)
 by_cases h1 : 4096 < S.length
 ·have hP : parseMB S = (noM, 26) := by unfold parseMB; rw [if_pos h1]
  rw [hP]
  obtain ⟨s, hs⟩ : ∃ s, s = bT S := ⟨_, rfl⟩
  rw [← hs] at hsz ⊢
  have hb : 4096 < s.size := by omega
  clear hP hs hsz
  go_enter Tryz.func34, Tryz.ntmps34
  go_wp2_with ((with_reducible refine wpList_stoR (us := #[.bool false, .int .i64 0, .int .i64 0, .slice none 0 0]) 0 wU wU (hS) wU kR wU wU ?_); intro w1 hS1)
  exact bodyPost_ret (results_cellSlot rfl rfl rfl A_rmach kR (hS1.blk 0 rfl).1) rfl (RetMac.none (S := hS1.tail) rfl)
 have hP : parseMB S = parseGo (spl 32 S) := by unfold parseMB; rw [if_neg h1]
 rw [hP]
 have hLn := splR_len 32 S []
 have hLs := spl_sum 32 S []
 have CS := fun w => rSplit4_any 32 S w hz
 rw [show ((32 : UInt8).toNat : Int) = 32 from rfl] at CS
 obtain ⟨L, hL⟩ : ∃ L, L = spl 32 S := ⟨_, rfl⟩
 rw [show splR 32 [] S = L from hL.symm] at hLn hLs
 rw [← hL] at CS ⊢
 obtain ⟨s, hs⟩ : ∃ s, s = bT S := ⟨_, rfl⟩
 rw [← hs] at CS hsz ⊢
 have hsz2 : s.size ≤ 4096 := by omega
 have hsz3 : ¬ 4096 < s.size := by omega
 have hLn2 : L.length ≤ 4097 := by omega
 have HCS := hid CS; have HLS := hid hLs
 have hml : (L.map bT).length = L.length := by simp
 have h1 : S.length ≤ 4096 := by omega
 clear CS hLs hL hs hsz hP
 by_cases h4 : L.length = 4
 ·obtain ⟨k, g, t, w4, rfl⟩ := four_of h4
  obtain ⟨LB, hLB⟩ : ∃ LB, LB = [k, g, t, w4].map bT := ⟨_, rfl⟩
  have a0 : atD ByteArray.empty LB 0 = bT k := by rw [hLB]; rfl
  have a1 : atD ByteArray.empty LB 1 = bT g := by rw [hLB]; rfl
  have a2 : atD ByteArray.empty LB 2 = bT t := by rw [hLB]; rfl
  have a3 : atD ByteArray.empty LB 3 = bT w4 := by rw [hLB]; rfl
  have hLBl : LB.length = 4 := by rw [hLB]; rfl
  have hwl := HLS.out w4 (by simp)
  have hgl := HLS.out g (by simp)
  have hS96 : S.length ≤ 4096 := by omega
  simp only [List.length_nil, Nat.zero_add] at hwl hgl
  have hCS := HCS.out
  rw [← hLB] at hCS
  have HCS2 := hid hCS
  have e1 : ((bT k).toList == [114, 111, 119]) = decide (k = rowT) := eqT2 k rowT
  have e2 : ((bT k).toList == [114, 105, 110, 103]) = decide (k = ringT) := eqT2 k ringT
  have e3 := eqT2 t [43]
  have e4 := eqT2 t [45]
  obtain ⟨K, hK⟩ : ∃ K, K = bT k := ⟨_, rfl⟩
  obtain ⟨T, hT⟩ : ∃ T, T = bT t := ⟨_, rfl⟩
  rw [← hK] at a0 e1 e2
  rw [← hT] at a2 e3 e4
  have A0 := hid a0; have A1 := hid a1; have A2 := hid a2; have A3 := hid a3; have HLL := hid hLBl
  clear a0 a1 a2 a3 hLBl hCS HCS h4 hml HLS hLn2 hLn
  by_cases hk1 : k = rowT
  ·rw [decide_eq_true hk1] at e1
   have hk2 : k ≠ ringT := by rw [hk1]; decide
   rw [decide_eq_false hk2] at e2
   have hk := hk1
   clear hk1 hk2
   by_cases ht3 : t = [43]
   ·rw [decide_eq_true ht3] at e3
    have ht4 : t ≠ [45] := by rw [ht3]; decide
    rw [decide_eq_false ht4] at e4
    have ht := ht3
    clear ht3 ht4
    have hpg : parseGo [k, g, t, w4] = (match intL g, placesL w4 with
      | some n, some l => if macE ⟨false, n, 1, l⟩ ≠ 0 then (noM, macE ⟨false, n, 1, l⟩) else (⟨false, n, 1, l⟩, 0)
      | _, _ => (noM, 25)) := by
     rw [hk, ht]; rfl
    rw [hpg]
    have CI := fun w => rinteger4_any g w (by omega)
    have e5 : ((bT w4).toList == [110, 111, 110, 101]) = decide (w4 = noneT) := eqT2 w4 noneT
    have CC := fun w => rSplit4_any 44 w4 w (by omega)
    rw [show ((44 : UInt8).toNat : Int) = 44 from rfl] at CC
    obtain ⟨G, hG⟩ : ∃ G, G = bT g := ⟨_, rfl⟩
    obtain ⟨X, hX⟩ : ∃ X, X = bT w4 := ⟨_, rfl⟩
    rw [← hG] at A1 CI
    rw [← hX] at A3 e5 CC
    have HCI := hid CI; have HCC := hid CC
    clear CI CC hG hX hpg hLB hK hT hk ht
    cases hi : intL g with
    | none =>
     have hres : (match (none : Option Nat), placesL w4 with | some n, some l => if macE ⟨false, n, 1, l⟩ ≠ 0 then (noM, macE ⟨false, n, 1, l⟩) else (⟨false, n, 1, l⟩, 0) | _, _ => (noM, 25)) = ((noM, 25) : MacV × Int) := by cases placesL w4 <;> rfl
     rw [hres]
     have hI := HCI.out
     rw [hi] at hI
     have HI := hid hI
     clear hI hi hres e5
     go_enter Tryz.func34, Tryz.ntmps34
     go_wp2_with fail
     refine (HCS2.out _).mono ?_
     rintro e w1 ⟨v1, rfl, ho1, b1⟩
     have hS1 := hS.call (SL.ofOwn ho1 b1)
     simp only [List.cons_append, List.nil_append] at hS1
     clear ho1 b1
     obtain ⟨aw, cw, rfl, _⟩ := hS1.slice 0 rfl
     rw [HLL.out] at hS1 ⊢
     have hW1 := hS1.rd 0 rfl
     have hS2 := hS1.box (.cells #[.bool false, .int .i64 0, .int .i64 1, .slice none 0 0] 25)
     have hW2 := hS2.rd 1 rfl
     go_wp2_with (first | ((first | (with_reducible refine wpList_idxG ByteArray.empty E_strs F_str cStr1 wU wU (hW1) (HLL.out) oD oD (fun _ => wU) wU (fun _ => wU) (fun _ => ?_)) | (with_reducible refine wpList_idxN _ ByteArray.empty E_strs F_str cStr1 wU wU (hW1) (HLL.out) oD oD (fun _ => wU) (fun _ => ?_))); first | rw [A0.out] | rw [A1.out] | rw [A2.out] | rw [A3.out]) | ((first | (with_reducible refine wpList_idxG ByteArray.empty E_strs F_str cStr1 wU wU (hW2) (HLL.out) oD oD (fun _ => wU) wU (fun _ => wU) (fun _ => ?_)) | (with_reducible refine wpList_idxN _ ByteArray.empty E_strs F_str cStr1 wU wU (hW2) (HLL.out) oD oD (fun _ => wU) (fun _ => ?_))); first | rw [A0.out] | rw [A1.out] | rw [A2.out] | rw [A3.out]))
     refine (HI.out _).mono ?_
     rintro e w' ⟨n, rfl, hnn, rfl⟩
     clear hnn
     go_wp2_with (first | ((with_reducible refine wpList_stoFi 0 wU wU hS2 rfl rfl ?_); intro w5 hS4; have hS4 : SL w.heap.size w w5 [pBlk w1.heap.size (.cells #[.bool false, .int .i64 n, .int .i64 1, .slice none 0 0] 25), pOwn cStr 1 9 (.slice aw 4 cw) LB, pBlk w.heap.size (.cells #[.bool false, .int .i64 0, .int .i64 0, .slice none 0 0] 25)] := hS4; have hW4 := hS4.rd 1 rfl; have q4 := (hS4.blk 0 rfl).1; clear hS2) | ((with_reducible refine wpList_stoR (us := #[.bool false, .int .i64 0, .int .i64 0, .slice none 0 0]) 2 wU wU (hS4) wU kR wU wU ?_); intro w6 hS6))
     exact bodyPost_ret (results_cellSlot rfl rfl rfl A_rmach kR (hS6.blk 2 rfl).1) rfl (RetMac.none (S := hS6.empty) rfl)
    | some ng =>
     have hb9 := (intL_canon hi).2.2.2.2.2
     have hI := HCI.out
     rw [hi] at hI
     have HI := hid hI
     clear hI hi
     by_cases hn : w4 = noneT
     ·have hpl : placesL w4 = some [] := by unfold placesL; rw [if_pos hn]
      rw [decide_eq_true hn] at e5
      rw [hpl]
      clear hpl hn
      simp only []
      have CK := fun w h => rCheckMachine_any ⟨false, (ng : Int), 1, []⟩ none 0 w h
      obtain ⟨E, hE⟩ : ∃ E, E = macE ⟨false, (ng : Int), 1, []⟩ := ⟨_, rfl⟩
      rw [← hE] at CK ⊢
      have HK := hid CK
      clear CK hE hb9
      by_cases he : E = 0
      ·subst he
       rw [if_neg (by decide)]
       go_enter Tryz.func34, Tryz.ntmps34
       go_wp2_with fail
       refine (HCS2.out _).mono ?_
       rintro e w1 ⟨v1, rfl, ho1, b1⟩
       have hS1 := hS.call (SL.ofOwn ho1 b1)
       simp only [List.cons_append, List.nil_append] at hS1
       clear ho1 b1
       obtain ⟨aw, cw, rfl, _⟩ := hS1.slice 0 rfl
       rw [HLL.out] at hS1 ⊢
       have hW1 := hS1.rd 0 rfl
       have hS2 := hS1.box (.cells #[.bool false, .int .i64 0, .int .i64 1, .slice none 0 0] 25)
       have hW2 := hS2.rd 1 rfl
       go_wp2_with (first | ((first | (with_reducible refine wpList_idxG ByteArray.empty E_strs F_str cStr1 wU wU (hW1) (HLL.out) oD oD (fun _ => wU) wU (fun _ => wU) (fun _ => ?_)) | (with_reducible refine wpList_idxN _ ByteArray.empty E_strs F_str cStr1 wU wU (hW1) (HLL.out) oD oD (fun _ => wU) (fun _ => ?_))); first | rw [A0.out] | rw [A1.out] | rw [A2.out] | rw [A3.out]) | ((first | (with_reducible refine wpList_idxG ByteArray.empty E_strs F_str cStr1 wU wU (hW2) (HLL.out) oD oD (fun _ => wU) wU (fun _ => wU) (fun _ => ?_)) | (with_reducible refine wpList_idxN _ ByteArray.empty E_strs F_str cStr1 wU wU (hW2) (HLL.out) oD oD (fun _ => wU) (fun _ => ?_))); first | rw [A0.out] | rw [A1.out] | rw [A2.out] | rw [A3.out]))
       refine (HI.out _).mono ?_
       rintro e w' ⟨n, rfl, hnn, rfl⟩
       have hn2 := hnn ng rfl
       subst hn2
       clear hnn
       go_wp2_with (first | ((with_reducible refine wpList_stoFi 0 wU wU hS2 rfl rfl ?_); intro w5 hS4; have hS4 : SL w.heap.size w w5 [pBlk w1.heap.size (.cells #[.bool false, .int .i64 ng, .int .i64 1, .slice none 0 0] 25), pOwn cStr 1 9 (.slice aw 4 cw) LB, pBlk w.heap.size (.cells #[.bool false, .int .i64 0, .int .i64 0, .slice none 0 0] 25)] := hS4; have hW4 := hS4.rd 1 rfl; have q4 := (hS4.blk 0 rfl).1; clear hS2) | ((first | (with_reducible refine wpList_idxG ByteArray.empty E_strs F_str cStr1 wU wU (hW4) (HLL.out) oD oD (fun _ => wU) wU (fun _ => wU) (fun _ => ?_)) | (with_reducible refine wpList_idxN _ ByteArray.empty E_strs F_str cStr1 wU wU (hW4) (HLL.out) oD oD (fun _ => wU) (fun _ => ?_))); first | rw [A0.out] | rw [A1.out] | rw [A2.out] | rw [A3.out]) | (with_reducible refine wpList_ldS (n := 4) (us := #[.bool false, .int .i64 ng, .int .i64 1, .slice none 0 0]) A_rmach kR wU wU (by assumption) wU wU ?_))
       refine (HK.out _ (ints_nil _)).mono ?_
       rintro e w7 ⟨rfl, b7⟩
       have hS7 := hS4.mono b7
       have q8 := (hS7.blk 0 rfl).1
       clear q4
       go_wp2_with (first | (with_reducible refine wpList_ldS (n := 4) (us := #[.bool false, .int .i64 ng, .int .i64 1, .slice none 0 0]) A_rmach kR wU wU (by assumption) wU wU ?_) | ((with_reducible refine wpList_stoR (us := #[.bool false, .int .i64 ng, .int .i64 1, .slice none 0 0]) 2 wU wU (hS7) wU kR wU wU ?_); intro w8 hS8))
       exact bodyPost_ret (results_cellSlot rfl rfl rfl A_rmach kR (hS8.blk 2 rfl).1) rfl ⟨none, 0, rfl, hS8.empty.nilS (α := Int) (c := cInt) (sz := 1) (e := 3) cIntS⟩
      ·rw [if_pos he]
       have hne : (E != 0) = true := by simpa using he
       go_enter Tryz.func34, Tryz.ntmps34
       go_wp2_with fail
       refine (HCS2.out _).mono ?_
       rintro e w1 ⟨v1, rfl, ho1, b1⟩
       have hS1 := hS.call (SL.ofOwn ho1 b1)
       simp only [List.cons_append, List.nil_append] at hS1
       clear ho1 b1
       obtain ⟨aw, cw, rfl, _⟩ := hS1.slice 0 rfl
       rw [HLL.out] at hS1 ⊢
       have hW1 := hS1.rd 0 rfl
       have hS2 := hS1.box (.cells #[.bool false, .int .i64 0, .int .i64 1, .slice none 0 0] 25)
       have hW2 := hS2.rd 1 rfl
       go_wp2_with (first | ((first | (with_reducible refine wpList_idxG ByteArray.empty E_strs F_str cStr1 wU wU (hW1) (HLL.out) oD oD (fun _ => wU) wU (fun _ => wU) (fun _ => ?_)) | (with_reducible refine wpList_idxN _ ByteArray.empty E_strs F_str cStr1 wU wU (hW1) (HLL.out) oD oD (fun _ => wU) (fun _ => ?_))); first | rw [A0.out] | rw [A1.out] | rw [A2.out] | rw [A3.out]) | ((first | (with_reducible refine wpList_idxG ByteArray.empty E_strs F_str cStr1 wU wU (hW2) (HLL.out) oD oD (fun _ => wU) wU (fun _ => wU) (fun _ => ?_)) | (with_reducible refine wpList_idxN _ ByteArray.empty E_strs F_str cStr1 wU wU (hW2) (HLL.out) oD oD (fun _ => wU) (fun _ => ?_))); first | rw [A0.out] | rw [A1.out] | rw [A2.out] | rw [A3.out]))
       refine (HI.out _).mono ?_
       rintro e w' ⟨n, rfl, hnn, rfl⟩
       have hn2 := hnn ng rfl
       subst hn2
       clear hnn
       go_wp2_with (first | ((with_reducible refine wpList_stoFi 0 wU wU hS2 rfl rfl ?_); intro w5 hS4; have hS4 : SL w.heap.size w w5 [pBlk w1.heap.size (.cells #[.bool false, .int .i64 ng, .int .i64 1, .slice none 0 0] 25), pOwn cStr 1 9 (.slice aw 4 cw) LB, pBlk w.heap.size (.cells #[.bool false, .int .i64 0, .int .i64 0, .slice none 0 0] 25)] := hS4; have hW4 := hS4.rd 1 rfl; have q4 := (hS4.blk 0 rfl).1; clear hS2) | ((first | (with_reducible refine wpList_idxG ByteArray.empty E_strs F_str cStr1 wU wU (hW4) (HLL.out) oD oD (fun _ => wU) wU (fun _ => wU) (fun _ => ?_)) | (with_reducible refine wpList_idxN _ ByteArray.empty E_strs F_str cStr1 wU wU (hW4) (HLL.out) oD oD (fun _ => wU) (fun _ => ?_))); first | rw [A0.out] | rw [A1.out] | rw [A2.out] | rw [A3.out]) | (with_reducible refine wpList_ldS (n := 4) (us := #[.bool false, .int .i64 ng, .int .i64 1, .slice none 0 0]) A_rmach kR wU wU (by assumption) wU wU ?_))
       refine (HK.out _ (ints_nil _)).mono ?_
       rintro e w7 ⟨rfl, b7⟩
       have hS7 := hS4.mono b7
       clear q4
       go_wp2_with ((with_reducible refine wpList_stoR (us := #[.bool false, .int .i64 0, .int .i64 0, .slice none 0 0]) 2 wU wU (hS7) wU kR wU wU ?_); intro w8 hS8)
       exact bodyPost_ret (results_cellSlot rfl rfl rfl A_rmach kR (hS8.blk 2 rfl).1) rfl (RetMac.none (S := hS8.empty) rfl)
     ·rw [decide_eq_false hn] at e5
      have hpl : placesL w4 = intsL (spl 44 w4) := by unfold placesL; rw [if_neg hn]
      rw [hpl]
      have hl2 := splR_len 44 w4 []
      have hs2 := spl_sum 44 w4 []
      have hC2 := HCC.out
      obtain ⟨L2, hL2⟩ : ∃ L2, L2 = spl 44 w4 := ⟨_, rfl⟩
      rw [show splR 44 [] w4 = L2 from hL2.symm] at hl2 hs2
      rw [← hL2] at hC2 ⊢
      have HC2 := hid hC2
      have hM2 : (L2.map bT).length = L2.length := by simp
      have HM2 := hid hM2
      have hl9 : L2.length ≤ 4097 := by omega
      have CX := fun (x : List UInt8) w (h : x ∈ L2) => rinteger4_any x w (by have := hs2 x h; simp only [List.length_nil, Nat.zero_add] at this; omega)
      have HCX := hid CX
      obtain ⟨R, hR⟩ : ∃ R : MacV × Int, R = (match (some ng : Option Nat), intsL L2 with | some n, some l => if macE ⟨false, n, 1, l⟩ ≠ 0 then (noM, macE ⟨false, n, 1, l⟩) else (⟨false, n, 1, l⟩, 0) | _, _ => (noM, 25)) := ⟨_, rfl⟩
      rw [← hR]
      have HR := hid hR
      clear hpl hn hL2 hC2 hM2 hl2 hs2 CX HCC hR
      go_enter Tryz.func34, Tryz.ntmps34
      go_wp2_with fail
      refine (HCS2.out _).mono ?_
      rintro e w1 ⟨v1, rfl, ho1, b1⟩
      have hS1 := hS.call (SL.ofOwn ho1 b1)
      simp only [List.cons_append, List.nil_append] at hS1
      clear ho1 b1
      obtain ⟨aw, cw, rfl, _⟩ := hS1.slice 0 rfl
      rw [HLL.out] at hS1 ⊢
      have hW1 := hS1.rd 0 rfl
      have hS2 := hS1.box (.cells #[.bool false, .int .i64 0, .int .i64 1, .slice none 0 0] 25)
      have hW2 := hS2.rd 1 rfl
      go_wp2_with (first | ((first | (with_reducible refine wpList_idxG ByteArray.empty E_strs F_str cStr1 wU wU (hW1) (HLL.out) oD oD (fun _ => wU) wU (fun _ => wU) (fun _ => ?_)) | (with_reducible refine wpList_idxN _ ByteArray.empty E_strs F_str cStr1 wU wU (hW1) (HLL.out) oD oD (fun _ => wU) (fun _ => ?_))); first | rw [A0.out] | rw [A1.out] | rw [A2.out] | rw [A3.out]) | ((first | (with_reducible refine wpList_idxG ByteArray.empty E_strs F_str cStr1 wU wU (hW2) (HLL.out) oD oD (fun _ => wU) wU (fun _ => wU) (fun _ => ?_)) | (with_reducible refine wpList_idxN _ ByteArray.empty E_strs F_str cStr1 wU wU (hW2) (HLL.out) oD oD (fun _ => wU) (fun _ => ?_))); first | rw [A0.out] | rw [A1.out] | rw [A2.out] | rw [A3.out]))
      refine (HI.out _).mono ?_
      rintro e w' ⟨n, rfl, hnn, rfl⟩
      have hn2 := hnn ng rfl
      subst hn2
      clear hnn
      go_wp2_with (first | ((with_reducible refine wpList_stoFi 0 wU wU hS2 rfl rfl ?_); intro w5 hS4; have hS4 : SL w.heap.size w w5 [pBlk w1.heap.size (.cells #[.bool false, .int .i64 ng, .int .i64 1, .slice none 0 0] 25), pOwn cStr 1 9 (.slice aw 4 cw) LB, pBlk w.heap.size (.cells #[.bool false, .int .i64 0, .int .i64 0, .slice none 0 0] 25)] := hS4; have hW4 := hS4.rd 1 rfl; have q4 := (hS4.blk 0 rfl).1; clear hS2) | ((first | (with_reducible refine wpList_idxG ByteArray.empty E_strs F_str cStr1 wU wU (hW4) (HLL.out) oD oD (fun _ => wU) wU (fun _ => wU) (fun _ => ?_)) | (with_reducible refine wpList_idxN _ ByteArray.empty E_strs F_str cStr1 wU wU (hW4) (HLL.out) oD oD (fun _ => wU) (fun _ => ?_))); first | rw [A0.out] | rw [A1.out] | rw [A2.out] | rw [A3.out]))
      refine (HC2.out _).mono ?_
      rintro e w6 ⟨v6, rfl, ho6, b6⟩
      have hS6 := hS4.call (SL.ofOwn ho6 b6)
      simp only [List.cons_append, List.nil_append] at hS6
      clear ho6 b6
      obtain ⟨a3, c3, rfl, _⟩ := hS6.slice 0 rfl
      rw [HM2.out] at hS6 ⊢
      obtain ⟨b5, hb5⟩ : ∃ b5, b5 = w1.heap.size := ⟨_, rfl⟩
      have hS7 := (hS6.nilS (α := Int) (c := cInt) (sz := 1) (e := 3) cIntS).pick [2, 0, 4, 1] (by decide) [pBlk b5 (.cells #[.bool false, .int .i64 ng, .int .i64 1, .slice none 0 0] 25), pOwn cInt 1 3 (.slice none 0 0) [], pBlk w.heap.size (.cells #[.bool false, .int .i64 0, .int .i64 0, .slice none 0 0] 25), pOwn cStr 1 9 (.slice a3 L2.length c3) (L2.map bT)] (by rw [hb5]; rfl)
      rw [← hb5]
      clear hb5 hS6 hS4 hW4 q4 hW1 hW2 hS1 HCS2 HI HC2
      go_wp2_with fail
      go_loopw [8, 9, 10] (fun iv nv fv wr => ∃ (k : Nat) (vals : List Int) (sv : Value), k ≤ L2.length ∧ iv = .int .i64 k ∧ vals.length = k ∧ intsL (L2.take k) = some vals ∧ SL w.heap.size w wr [pBlk b5 (.cells #[.bool false, .int .i64 ng, .int .i64 1, sv] 25), pOwn cInt 1 3 sv vals, pBlk w.heap.size (.cells #[.bool false, .int .i64 0, .int .i64 0, .slice none 0 0] 25), pOwn cStr 1 9 (.slice a3 L2.length c3) (L2.map bT)]) (fun iv _ _ _ => L2.length - (intOf iv).toNat)
      case atStart => exact ⟨0, [], .slice none 0 0, by omega, rfl, rfl, rfl, hS7⟩
      case round =>
       clear hS7
       obtain ⟨k, vals, sv, hk, rfl, hvl, hvs, hSr⟩ := hrel
       have HVL := hid hvl; have HVS := hid hvs
       clear hvl hvs
       obtain ⟨av, cv, rfl, hvR⟩ := hSr.slice 1 rfl
       by_cases hlt : k < L2.length
       ·have hat := atD_mapT L2 k hlt
        have hmem : atD [] L2 k ∈ L2 := by simp [atD, hlt]
        have htk : L2.take (k + 1) = L2.take k ++ [atD [] L2 k] := by rw [List.take_succ_eq_append_getElem hlt]; simp [atD, hlt]
        have CX := fun w => HCX.out (atD [] L2 k) w hmem
        have hno : intL (atD [] L2 k) = none → intsL L2 = none := fun h => by
         have h1 := intsL_isSome L2
         cases h2 : intsL L2 with
         | none => rfl
         | some v =>
          rw [h2] at h1
          have h3 := List.all_eq_true.1 h1.symm _ hmem
          unfold okT at h3
          rw [h] at h3
          cases h3
        obtain ⟨x, hx⟩ : ∃ x, x = atD [] L2 k := ⟨_, rfl⟩
        rw [← hx] at hat htk CX hno
        obtain ⟨xb, hxb⟩ : ∃ xb, xb = bT x := ⟨_, rfl⟩
        rw [← hxb] at hat CX
        have HAT := hid hat; have HTK := hid htk
        clear hat hmem htk hx hxb hvR
        have hVr := hSr.rd 3 rfl
        have hv9 : vals.length ≤ 4097 := by rw [HVL.out]; omega
        cases hix : intL x with
        | none =>
         rw [hix] at CX
         have hR2 : R = (noM, 25) := by rw [HR.out, hno hix]
         have HX := hid CX; have HR2 := hid hR2
         clear CX hix hno hR2
         go_wp2_with ((with_reducible refine wpList_idxN _ ByteArray.empty E_strs F_str cStr1 wU wU (hVr) (HM2.out) oD oD (fun _ => wU) (fun _ => ?_)); rw [HAT.out])
         refine (HX.out _).mono ?_
         rintro e w8 ⟨nx, rfl, -, rfl⟩
         go_wp2_with ((with_reducible refine wpList_stoR (us := #[.bool false, .int .i64 0, .int .i64 0, .slice none 0 0]) 2 wU wU (hSr) wU kR wU wU ?_); intro w9 hS9)
         exact bodyPost_ret (results_cellSlot rfl rfl rfl A_rmach kR (hS9.blk 2 rfl).1) rfl (by rw [HR2.out]; exact RetMac.none (S := hS9.empty) rfl)
        | some nx =>
         rw [hix] at CX
         have HX := hid CX; have HIX := hid hix
         clear CX hix hno
         go_wp2_with ((with_reducible refine wpList_idxN _ ByteArray.empty E_strs F_str cStr1 wU wU (hVr) (HM2.out) oD oD (fun _ => wU) (fun _ => ?_)); rw [HAT.out])
         refine (HX.out _).mono ?_
         rintro e w8 ⟨ny, rfl, hny, rfl⟩
         have hny2 := hny nx rfl
         subst hny2
         clear hny
         have q5 := (hSr.blk 0 rfl).1
         go_wp2_with (first | (with_reducible refine wpList_ldB F_sliceM wU wU q5 wU ?_) | (((with_reducible refine wpList_pushL (y := (nx : Int)) 1 E_ints wU wU (hSr) wU cIntO ⟨rfl, rfl⟩ (by first | with_unfolding_all rfl | simp) wU (by first | omega | (simp; omega)) (by first | omega | (simp; omega)) ?_); intro v9 w9 hS9); obtain ⟨a9, c9, rfl, _⟩ := hS9.slice 1 rfl) | ((with_reducible refine wpList_stoF 0 wU wU hS9 rfl rfl ?_); intro w10 hS10))
         have eL : (vals ++ [(nx : Int)]).length = vals.length + 1 := by simp
         have hS11 := hS10
         simp only [eL] at hS11
         refine ⟨⟨k + 1, vals ++ [(nx : Int)], .slice a9 (vals.length + 1) c9, by omega, by go_num, by rw [eL, HVL.out], by rw [HTK.out]; exact intsL_snoc HVS.out HIX.out, hS11⟩, by simp [intOf]; omega⟩
       ·have hkk : k = L2.length := by omega
        have htl : L2.take k = L2 := List.take_of_length_le (by omega)
        have hvs := HVS.out
        rw [htl] at hvs
        have hR2 : R = (if macE ⟨false, (ng : Int), 1, vals⟩ ≠ 0 then (noM, macE ⟨false, (ng : Int), 1, vals⟩) else (⟨false, (ng : Int), 1, vals⟩, 0)) := by rw [HR.out, hvs]
        have CK := fun w h => rCheckMachine_any ⟨false, (ng : Int), 1, vals⟩ av cv w h
        obtain ⟨E, hE⟩ : ∃ E, E = macE ⟨false, (ng : Int), 1, vals⟩ := ⟨_, rfl⟩
        rw [← hE] at CK hR2
        have HK := hid CK
        have q7 := (hSr.blk 0 rfl).1
        clear CK hE hvs HVS htl hkk
        by_cases he : E = 0
        ·subst he
         rw [if_neg (by decide)] at hR2
         have HR2 := hid hR2
         clear hR2
         go_wp2_with (with_reducible refine wpList_ldS (n := 4) (us := #[.bool false, .int .i64 ng, .int .i64 1, .slice av vals.length cv]) A_rmach kR wU wU (by assumption) wU wU ?_)
         refine (HK.out _ hvR).mono ?_
         rintro e w8 ⟨rfl, b8⟩
         have hS8 := hSr.mono b8
         have q8 := (hS8.blk 0 rfl).1
         clear q7
         go_wp2_with (first | (with_reducible refine wpList_ldS (n := 4) (us := #[.bool false, .int .i64 ng, .int .i64 1, .slice av vals.length cv]) A_rmach kR wU wU (by assumption) wU wU ?_) | ((with_reducible refine wpList_stoR (us := #[.bool false, .int .i64 ng, .int .i64 1, .slice av vals.length cv]) 2 wU wU (hS8) wU kR wU wU ?_); intro w9 hS9))
         exact bodyPost_ret (results_cellSlot rfl rfl rfl A_rmach kR (hS9.blk 2 rfl).1) rfl (by rw [HR2.out]; exact ⟨av, cv, rfl, hS9.one 1 rfl⟩)
        ·rw [if_pos he] at hR2
         have HR2 := hid hR2
         clear hR2
         have hne : (E != 0) = true := by simpa using he
         go_wp2_with (with_reducible refine wpList_ldS (n := 4) (us := #[.bool false, .int .i64 ng, .int .i64 1, .slice av vals.length cv]) A_rmach kR wU wU (by assumption) wU wU ?_)
         refine (HK.out _ hvR).mono ?_
         rintro e w8 ⟨rfl, b8⟩
         have hS8 := hSr.mono b8
         clear q7
         go_wp2_with ((with_reducible refine wpList_stoR (us := #[.bool false, .int .i64 0, .int .i64 0, .slice none 0 0]) 2 wU wU (hS8) wU kR wU wU ?_); intro w9 hS9)
         exact bodyPost_ret (results_cellSlot rfl rfl rfl A_rmach kR (hS9.blk 2 rfl).1) rfl (by rw [HR2.out]; exact RetMac.none (S := hS9.empty) rfl)
   ·rw [decide_eq_false ht3] at e3
    by_cases ht4 : t = [45]
    ·rw [decide_eq_true ht4] at e4
     have ht := ht4
     clear ht3 ht4
     have hpg : parseGo [k, g, t, w4] = (match intL g, placesL w4 with
       | some n, some l => if macE ⟨false, n, (-1), l⟩ ≠ 0 then (noM, macE ⟨false, n, (-1), l⟩) else (⟨false, n, (-1), l⟩, 0)
       | _, _ => (noM, 25)) := by
      rw [hk, ht]; rfl
     rw [hpg]
     have CI := fun w => rinteger4_any g w (by omega)
     have e5 : ((bT w4).toList == [110, 111, 110, 101]) = decide (w4 = noneT) := eqT2 w4 noneT
     have CC := fun w => rSplit4_any 44 w4 w (by omega)
     rw [show ((44 : UInt8).toNat : Int) = 44 from rfl] at CC
     obtain ⟨G, hG⟩ : ∃ G, G = bT g := ⟨_, rfl⟩
     obtain ⟨X, hX⟩ : ∃ X, X = bT w4 := ⟨_, rfl⟩
     rw [← hG] at A1 CI
     rw [← hX] at A3 e5 CC
     have HCI := hid CI; have HCC := hid CC
     clear CI CC hG hX hpg hLB hK hT hk ht
     cases hi : intL g with
     | none =>
      have hres : (match (none : Option Nat), placesL w4 with | some n, some l => if macE ⟨false, n, (-1), l⟩ ≠ 0 then (noM, macE ⟨false, n, (-1), l⟩) else (⟨false, n, (-1), l⟩, 0) | _, _ => (noM, 25)) = ((noM, 25) : MacV × Int) := by cases placesL w4 <;> rfl
      rw [hres]
      have hI := HCI.out
      rw [hi] at hI
      have HI := hid hI
      clear hI hi hres e5
      go_enter Tryz.func34, Tryz.ntmps34
      go_wp2_with fail
      refine (HCS2.out _).mono ?_
      rintro e w1 ⟨v1, rfl, ho1, b1⟩
      have hS1 := hS.call (SL.ofOwn ho1 b1)
      simp only [List.cons_append, List.nil_append] at hS1
      clear ho1 b1
      obtain ⟨aw, cw, rfl, _⟩ := hS1.slice 0 rfl
      rw [HLL.out] at hS1 ⊢
      have hW1 := hS1.rd 0 rfl
      have hS2 := hS1.box (.cells #[.bool false, .int .i64 0, .int .i64 1, .slice none 0 0] 25)
      have hW2 := hS2.rd 1 rfl
      go_wp2_with (first | ((with_reducible refine wpList_stoFi 0 wU wU hS2 rfl rfl ?_); intro w3 hS3; have hS3 : SL w.heap.size w w3 [pBlk w1.heap.size (.cells #[.bool false, .int .i64 0, .int .i64 (-1), .slice none 0 0] 25), pOwn cStr 1 9 (.slice aw 4 cw) LB, pBlk w.heap.size (.cells #[.bool false, .int .i64 0, .int .i64 0, .slice none 0 0] 25)] := hS3; have hW3 := hS3.rd 1 rfl; clear hS2) | ((first | (with_reducible refine wpList_idxG ByteArray.empty E_strs F_str cStr1 wU wU (hW1) (HLL.out) oD oD (fun _ => wU) wU (fun _ => wU) (fun _ => ?_)) | (with_reducible refine wpList_idxN _ ByteArray.empty E_strs F_str cStr1 wU wU (hW1) (HLL.out) oD oD (fun _ => wU) (fun _ => ?_))); first | rw [A0.out] | rw [A1.out] | rw [A2.out] | rw [A3.out]) | ((first | (with_reducible refine wpList_idxG ByteArray.empty E_strs F_str cStr1 wU wU (hW2) (HLL.out) oD oD (fun _ => wU) wU (fun _ => wU) (fun _ => ?_)) | (with_reducible refine wpList_idxN _ ByteArray.empty E_strs F_str cStr1 wU wU (hW2) (HLL.out) oD oD (fun _ => wU) (fun _ => ?_))); first | rw [A0.out] | rw [A1.out] | rw [A2.out] | rw [A3.out]) | ((first | (with_reducible refine wpList_idxG ByteArray.empty E_strs F_str cStr1 wU wU (hW3) (HLL.out) oD oD (fun _ => wU) wU (fun _ => wU) (fun _ => ?_)) | (with_reducible refine wpList_idxN _ ByteArray.empty E_strs F_str cStr1 wU wU (hW3) (HLL.out) oD oD (fun _ => wU) (fun _ => ?_))); first | rw [A0.out] | rw [A1.out] | rw [A2.out] | rw [A3.out]))
      refine (HI.out _).mono ?_
      rintro e w' ⟨n, rfl, hnn, rfl⟩
      clear hnn
      go_wp2_with (first | ((with_reducible refine wpList_stoFi 0 wU wU hS3 rfl rfl ?_); intro w5 hS4; have hS4 : SL w.heap.size w w5 [pBlk w1.heap.size (.cells #[.bool false, .int .i64 n, .int .i64 (-1), .slice none 0 0] 25), pOwn cStr 1 9 (.slice aw 4 cw) LB, pBlk w.heap.size (.cells #[.bool false, .int .i64 0, .int .i64 0, .slice none 0 0] 25)] := hS4; have hW4 := hS4.rd 1 rfl; have q4 := (hS4.blk 0 rfl).1; clear hS3) | ((with_reducible refine wpList_stoR (us := #[.bool false, .int .i64 0, .int .i64 0, .slice none 0 0]) 2 wU wU (hS4) wU kR wU wU ?_); intro w6 hS6))
      exact bodyPost_ret (results_cellSlot rfl rfl rfl A_rmach kR (hS6.blk 2 rfl).1) rfl (RetMac.none (S := hS6.empty) rfl)
     | some ng =>
      have hb9 := (intL_canon hi).2.2.2.2.2
      have hI := HCI.out
      rw [hi] at hI
      have HI := hid hI
      clear hI hi
      by_cases hn : w4 = noneT
      ·have hpl : placesL w4 = some [] := by unfold placesL; rw [if_pos hn]
       rw [decide_eq_true hn] at e5
       rw [hpl]
       clear hpl hn
       simp only []
       have CK := fun w h => rCheckMachine_any ⟨false, (ng : Int), (-1), []⟩ none 0 w h
       obtain ⟨E, hE⟩ : ∃ E, E = macE ⟨false, (ng : Int), (-1), []⟩ := ⟨_, rfl⟩
       rw [← hE] at CK ⊢
       have HK := hid CK
       clear CK hE hb9
       by_cases he : E = 0
       ·subst he
        rw [if_neg (by decide)]
        go_enter Tryz.func34, Tryz.ntmps34
        go_wp2_with fail
        refine (HCS2.out _).mono ?_
        rintro e w1 ⟨v1, rfl, ho1, b1⟩
        have hS1 := hS.call (SL.ofOwn ho1 b1)
        simp only [List.cons_append, List.nil_append] at hS1
        clear ho1 b1
        obtain ⟨aw, cw, rfl, _⟩ := hS1.slice 0 rfl
        rw [HLL.out] at hS1 ⊢
        have hW1 := hS1.rd 0 rfl
        have hS2 := hS1.box (.cells #[.bool false, .int .i64 0, .int .i64 1, .slice none 0 0] 25)
        have hW2 := hS2.rd 1 rfl
        go_wp2_with (first | ((with_reducible refine wpList_stoFi 0 wU wU hS2 rfl rfl ?_); intro w3 hS3; have hS3 : SL w.heap.size w w3 [pBlk w1.heap.size (.cells #[.bool false, .int .i64 0, .int .i64 (-1), .slice none 0 0] 25), pOwn cStr 1 9 (.slice aw 4 cw) LB, pBlk w.heap.size (.cells #[.bool false, .int .i64 0, .int .i64 0, .slice none 0 0] 25)] := hS3; have hW3 := hS3.rd 1 rfl; clear hS2) | ((first | (with_reducible refine wpList_idxG ByteArray.empty E_strs F_str cStr1 wU wU (hW1) (HLL.out) oD oD (fun _ => wU) wU (fun _ => wU) (fun _ => ?_)) | (with_reducible refine wpList_idxN _ ByteArray.empty E_strs F_str cStr1 wU wU (hW1) (HLL.out) oD oD (fun _ => wU) (fun _ => ?_))); first | rw [A0.out] | rw [A1.out] | rw [A2.out] | rw [A3.out]) | ((first | (with_reducible refine wpList_idxG ByteArray.empty E_strs F_str cStr1 wU wU (hW2) (HLL.out) oD oD (fun _ => wU) wU (fun _ => wU) (fun _ => ?_)) | (with_reducible refine wpList_idxN _ ByteArray.empty E_strs F_str cStr1 wU wU (hW2) (HLL.out) oD oD (fun _ => wU) (fun _ => ?_))); first | rw [A0.out] | rw [A1.out] | rw [A2.out] | rw [A3.out]) | ((first | (with_reducible refine wpList_idxG ByteArray.empty E_strs F_str cStr1 wU wU (hW3) (HLL.out) oD oD (fun _ => wU) wU (fun _ => wU) (fun _ => ?_)) | (with_reducible refine wpList_idxN _ ByteArray.empty E_strs F_str cStr1 wU wU (hW3) (HLL.out) oD oD (fun _ => wU) (fun _ => ?_))); first | rw [A0.out] | rw [A1.out] | rw [A2.out] | rw [A3.out]))
        refine (HI.out _).mono ?_
        rintro e w' ⟨n, rfl, hnn, rfl⟩
        have hn2 := hnn ng rfl
        subst hn2
        clear hnn
        go_wp2_with (first | ((with_reducible refine wpList_stoFi 0 wU wU hS3 rfl rfl ?_); intro w5 hS4; have hS4 : SL w.heap.size w w5 [pBlk w1.heap.size (.cells #[.bool false, .int .i64 ng, .int .i64 (-1), .slice none 0 0] 25), pOwn cStr 1 9 (.slice aw 4 cw) LB, pBlk w.heap.size (.cells #[.bool false, .int .i64 0, .int .i64 0, .slice none 0 0] 25)] := hS4; have hW4 := hS4.rd 1 rfl; have q4 := (hS4.blk 0 rfl).1; clear hS3) | ((first | (with_reducible refine wpList_idxG ByteArray.empty E_strs F_str cStr1 wU wU (hW4) (HLL.out) oD oD (fun _ => wU) wU (fun _ => wU) (fun _ => ?_)) | (with_reducible refine wpList_idxN _ ByteArray.empty E_strs F_str cStr1 wU wU (hW4) (HLL.out) oD oD (fun _ => wU) (fun _ => ?_))); first | rw [A0.out] | rw [A1.out] | rw [A2.out] | rw [A3.out]) | (with_reducible refine wpList_ldS (n := 4) (us := #[.bool false, .int .i64 ng, .int .i64 (-1), .slice none 0 0]) A_rmach kR wU wU (by assumption) wU wU ?_))
        refine (HK.out _ (ints_nil _)).mono ?_
        rintro e w7 ⟨rfl, b7⟩
        have hS7 := hS4.mono b7
        have q8 := (hS7.blk 0 rfl).1
        clear q4
        go_wp2_with (first | (with_reducible refine wpList_ldS (n := 4) (us := #[.bool false, .int .i64 ng, .int .i64 (-1), .slice none 0 0]) A_rmach kR wU wU (by assumption) wU wU ?_) | ((with_reducible refine wpList_stoR (us := #[.bool false, .int .i64 ng, .int .i64 (-1), .slice none 0 0]) 2 wU wU (hS7) wU kR wU wU ?_); intro w8 hS8))
        exact bodyPost_ret (results_cellSlot rfl rfl rfl A_rmach kR (hS8.blk 2 rfl).1) rfl ⟨none, 0, rfl, hS8.empty.nilS (α := Int) (c := cInt) (sz := 1) (e := 3) cIntS⟩
       ·rw [if_pos he]
        have hne : (E != 0) = true := by simpa using he
        go_enter Tryz.func34, Tryz.ntmps34
        go_wp2_with fail
        refine (HCS2.out _).mono ?_
        rintro e w1 ⟨v1, rfl, ho1, b1⟩
        have hS1 := hS.call (SL.ofOwn ho1 b1)
        simp only [List.cons_append, List.nil_append] at hS1
        clear ho1 b1
        obtain ⟨aw, cw, rfl, _⟩ := hS1.slice 0 rfl
        rw [HLL.out] at hS1 ⊢
        have hW1 := hS1.rd 0 rfl
        have hS2 := hS1.box (.cells #[.bool false, .int .i64 0, .int .i64 1, .slice none 0 0] 25)
        have hW2 := hS2.rd 1 rfl
        go_wp2_with (first | ((with_reducible refine wpList_stoFi 0 wU wU hS2 rfl rfl ?_); intro w3 hS3; have hS3 : SL w.heap.size w w3 [pBlk w1.heap.size (.cells #[.bool false, .int .i64 0, .int .i64 (-1), .slice none 0 0] 25), pOwn cStr 1 9 (.slice aw 4 cw) LB, pBlk w.heap.size (.cells #[.bool false, .int .i64 0, .int .i64 0, .slice none 0 0] 25)] := hS3; have hW3 := hS3.rd 1 rfl; clear hS2) | ((first | (with_reducible refine wpList_idxG ByteArray.empty E_strs F_str cStr1 wU wU (hW1) (HLL.out) oD oD (fun _ => wU) wU (fun _ => wU) (fun _ => ?_)) | (with_reducible refine wpList_idxN _ ByteArray.empty E_strs F_str cStr1 wU wU (hW1) (HLL.out) oD oD (fun _ => wU) (fun _ => ?_))); first | rw [A0.out] | rw [A1.out] | rw [A2.out] | rw [A3.out]) | ((first | (with_reducible refine wpList_idxG ByteArray.empty E_strs F_str cStr1 wU wU (hW2) (HLL.out) oD oD (fun _ => wU) wU (fun _ => wU) (fun _ => ?_)) | (with_reducible refine wpList_idxN _ ByteArray.empty E_strs F_str cStr1 wU wU (hW2) (HLL.out) oD oD (fun _ => wU) (fun _ => ?_))); first | rw [A0.out] | rw [A1.out] | rw [A2.out] | rw [A3.out]) | ((first | (with_reducible refine wpList_idxG ByteArray.empty E_strs F_str cStr1 wU wU (hW3) (HLL.out) oD oD (fun _ => wU) wU (fun _ => wU) (fun _ => ?_)) | (with_reducible refine wpList_idxN _ ByteArray.empty E_strs F_str cStr1 wU wU (hW3) (HLL.out) oD oD (fun _ => wU) (fun _ => ?_))); first | rw [A0.out] | rw [A1.out] | rw [A2.out] | rw [A3.out]))
        refine (HI.out _).mono ?_
        rintro e w' ⟨n, rfl, hnn, rfl⟩
        have hn2 := hnn ng rfl
        subst hn2
        clear hnn
        go_wp2_with (first | ((with_reducible refine wpList_stoFi 0 wU wU hS3 rfl rfl ?_); intro w5 hS4; have hS4 : SL w.heap.size w w5 [pBlk w1.heap.size (.cells #[.bool false, .int .i64 ng, .int .i64 (-1), .slice none 0 0] 25), pOwn cStr 1 9 (.slice aw 4 cw) LB, pBlk w.heap.size (.cells #[.bool false, .int .i64 0, .int .i64 0, .slice none 0 0] 25)] := hS4; have hW4 := hS4.rd 1 rfl; have q4 := (hS4.blk 0 rfl).1; clear hS3) | ((first | (with_reducible refine wpList_idxG ByteArray.empty E_strs F_str cStr1 wU wU (hW4) (HLL.out) oD oD (fun _ => wU) wU (fun _ => wU) (fun _ => ?_)) | (with_reducible refine wpList_idxN _ ByteArray.empty E_strs F_str cStr1 wU wU (hW4) (HLL.out) oD oD (fun _ => wU) (fun _ => ?_))); first | rw [A0.out] | rw [A1.out] | rw [A2.out] | rw [A3.out]) | (with_reducible refine wpList_ldS (n := 4) (us := #[.bool false, .int .i64 ng, .int .i64 (-1), .slice none 0 0]) A_rmach kR wU wU (by assumption) wU wU ?_))
        refine (HK.out _ (ints_nil _)).mono ?_
        rintro e w7 ⟨rfl, b7⟩
        have hS7 := hS4.mono b7
        clear q4
        go_wp2_with ((with_reducible refine wpList_stoR (us := #[.bool false, .int .i64 0, .int .i64 0, .slice none 0 0]) 2 wU wU (hS7) wU kR wU wU ?_); intro w8 hS8)
        exact bodyPost_ret (results_cellSlot rfl rfl rfl A_rmach kR (hS8.blk 2 rfl).1) rfl (RetMac.none (S := hS8.empty) rfl)
      ·rw [decide_eq_false hn] at e5
       have hpl : placesL w4 = intsL (spl 44 w4) := by unfold placesL; rw [if_neg hn]
       rw [hpl]
       have hl2 := splR_len 44 w4 []
       have hs2 := spl_sum 44 w4 []
       have hC2 := HCC.out
       obtain ⟨L2, hL2⟩ : ∃ L2, L2 = spl 44 w4 := ⟨_, rfl⟩
       rw [show splR 44 [] w4 = L2 from hL2.symm] at hl2 hs2
       rw [← hL2] at hC2 ⊢
       have HC2 := hid hC2
       have hM2 : (L2.map bT).length = L2.length := by simp
       have HM2 := hid hM2
       have hl9 : L2.length ≤ 4097 := by omega
       have CX := fun (x : List UInt8) w (h : x ∈ L2) => rinteger4_any x w (by have := hs2 x h; simp only [List.length_nil, Nat.zero_add] at this; omega)
       have HCX := hid CX
       obtain ⟨R, hR⟩ : ∃ R : MacV × Int, R = (match (some ng : Option Nat), intsL L2 with | some n, some l => if macE ⟨false, n, (-1), l⟩ ≠ 0 then (noM, macE ⟨false, n, (-1), l⟩) else (⟨false, n, (-1), l⟩, 0) | _, _ => (noM, 25)) := ⟨_, rfl⟩
       rw [← hR]
       have HR := hid hR
       clear hpl hn hL2 hC2 hM2 hl2 hs2 CX HCC hR
       go_enter Tryz.func34, Tryz.ntmps34
       go_wp2_with fail
       refine (HCS2.out _).mono ?_
       rintro e w1 ⟨v1, rfl, ho1, b1⟩
       have hS1 := hS.call (SL.ofOwn ho1 b1)
       simp only [List.cons_append, List.nil_append] at hS1
       clear ho1 b1
       obtain ⟨aw, cw, rfl, _⟩ := hS1.slice 0 rfl
       rw [HLL.out] at hS1 ⊢
       have hW1 := hS1.rd 0 rfl
       have hS2 := hS1.box (.cells #[.bool false, .int .i64 0, .int .i64 1, .slice none 0 0] 25)
       have hW2 := hS2.rd 1 rfl
       go_wp2_with (first | ((with_reducible refine wpList_stoFi 0 wU wU hS2 rfl rfl ?_); intro w3 hS3; have hS3 : SL w.heap.size w w3 [pBlk w1.heap.size (.cells #[.bool false, .int .i64 0, .int .i64 (-1), .slice none 0 0] 25), pOwn cStr 1 9 (.slice aw 4 cw) LB, pBlk w.heap.size (.cells #[.bool false, .int .i64 0, .int .i64 0, .slice none 0 0] 25)] := hS3; have hW3 := hS3.rd 1 rfl; clear hS2) | ((first | (with_reducible refine wpList_idxG ByteArray.empty E_strs F_str cStr1 wU wU (hW1) (HLL.out) oD oD (fun _ => wU) wU (fun _ => wU) (fun _ => ?_)) | (with_reducible refine wpList_idxN _ ByteArray.empty E_strs F_str cStr1 wU wU (hW1) (HLL.out) oD oD (fun _ => wU) (fun _ => ?_))); first | rw [A0.out] | rw [A1.out] | rw [A2.out] | rw [A3.out]) | ((first | (with_reducible refine wpList_idxG ByteArray.empty E_strs F_str cStr1 wU wU (hW2) (HLL.out) oD oD (fun _ => wU) wU (fun _ => wU) (fun _ => ?_)) | (with_reducible refine wpList_idxN _ ByteArray.empty E_strs F_str cStr1 wU wU (hW2) (HLL.out) oD oD (fun _ => wU) (fun _ => ?_))); first | rw [A0.out] | rw [A1.out] | rw [A2.out] | rw [A3.out]) | ((first | (with_reducible refine wpList_idxG ByteArray.empty E_strs F_str cStr1 wU wU (hW3) (HLL.out) oD oD (fun _ => wU) wU (fun _ => wU) (fun _ => ?_)) | (with_reducible refine wpList_idxN _ ByteArray.empty E_strs F_str cStr1 wU wU (hW3) (HLL.out) oD oD (fun _ => wU) (fun _ => ?_))); first | rw [A0.out] | rw [A1.out] | rw [A2.out] | rw [A3.out]))
       refine (HI.out _).mono ?_
       rintro e w' ⟨n, rfl, hnn, rfl⟩
       have hn2 := hnn ng rfl
       subst hn2
       clear hnn
       go_wp2_with (first | ((with_reducible refine wpList_stoFi 0 wU wU hS3 rfl rfl ?_); intro w5 hS4; have hS4 : SL w.heap.size w w5 [pBlk w1.heap.size (.cells #[.bool false, .int .i64 ng, .int .i64 (-1), .slice none 0 0] 25), pOwn cStr 1 9 (.slice aw 4 cw) LB, pBlk w.heap.size (.cells #[.bool false, .int .i64 0, .int .i64 0, .slice none 0 0] 25)] := hS4; have hW4 := hS4.rd 1 rfl; have q4 := (hS4.blk 0 rfl).1; clear hS3) | ((first | (with_reducible refine wpList_idxG ByteArray.empty E_strs F_str cStr1 wU wU (hW4) (HLL.out) oD oD (fun _ => wU) wU (fun _ => wU) (fun _ => ?_)) | (with_reducible refine wpList_idxN _ ByteArray.empty E_strs F_str cStr1 wU wU (hW4) (HLL.out) oD oD (fun _ => wU) (fun _ => ?_))); first | rw [A0.out] | rw [A1.out] | rw [A2.out] | rw [A3.out]))
       refine (HC2.out _).mono ?_
       rintro e w6 ⟨v6, rfl, ho6, b6⟩
       have hS6 := hS4.call (SL.ofOwn ho6 b6)
       simp only [List.cons_append, List.nil_append] at hS6
       clear ho6 b6
       obtain ⟨a3, c3, rfl, _⟩ := hS6.slice 0 rfl
       rw [HM2.out] at hS6 ⊢
       obtain ⟨b5, hb5⟩ : ∃ b5, b5 = w1.heap.size := ⟨_, rfl⟩
       have hS7 := (hS6.nilS (α := Int) (c := cInt) (sz := 1) (e := 3) cIntS).pick [2, 0, 4, 1] (by decide) [pBlk b5 (.cells #[.bool false, .int .i64 ng, .int .i64 (-1), .slice none 0 0] 25), pOwn cInt 1 3 (.slice none 0 0) [], pBlk w.heap.size (.cells #[.bool false, .int .i64 0, .int .i64 0, .slice none 0 0] 25), pOwn cStr 1 9 (.slice a3 L2.length c3) (L2.map bT)] (by rw [hb5]; rfl)
       rw [← hb5]
       clear hb5 hS6 hS4 hW4 q4 hW1 hW2 hW3 hS1 HCS2 HI HC2
       go_wp2_with fail
       go_loopw [8, 9, 10] (fun iv nv fv wr => ∃ (k : Nat) (vals : List Int) (sv : Value), k ≤ L2.length ∧ iv = .int .i64 k ∧ vals.length = k ∧ intsL (L2.take k) = some vals ∧ SL w.heap.size w wr [pBlk b5 (.cells #[.bool false, .int .i64 ng, .int .i64 (-1), sv] 25), pOwn cInt 1 3 sv vals, pBlk w.heap.size (.cells #[.bool false, .int .i64 0, .int .i64 0, .slice none 0 0] 25), pOwn cStr 1 9 (.slice a3 L2.length c3) (L2.map bT)]) (fun iv _ _ _ => L2.length - (intOf iv).toNat)
       case atStart => exact ⟨0, [], .slice none 0 0, by omega, rfl, rfl, rfl, hS7⟩
       case round =>
        clear hS7
        obtain ⟨k, vals, sv, hk, rfl, hvl, hvs, hSr⟩ := hrel
        have HVL := hid hvl; have HVS := hid hvs
        clear hvl hvs
        obtain ⟨av, cv, rfl, hvR⟩ := hSr.slice 1 rfl
        by_cases hlt : k < L2.length
        ·have hat := atD_mapT L2 k hlt
         have hmem : atD [] L2 k ∈ L2 := by simp [atD, hlt]
         have htk : L2.take (k + 1) = L2.take k ++ [atD [] L2 k] := by rw [List.take_succ_eq_append_getElem hlt]; simp [atD, hlt]
         have CX := fun w => HCX.out (atD [] L2 k) w hmem
         have hno : intL (atD [] L2 k) = none → intsL L2 = none := fun h => by
          have h1 := intsL_isSome L2
          cases h2 : intsL L2 with
          | none => rfl
          | some v =>
           rw [h2] at h1
           have h3 := List.all_eq_true.1 h1.symm _ hmem
           unfold okT at h3
           rw [h] at h3
           cases h3
         obtain ⟨x, hx⟩ : ∃ x, x = atD [] L2 k := ⟨_, rfl⟩
         rw [← hx] at hat htk CX hno
         obtain ⟨xb, hxb⟩ : ∃ xb, xb = bT x := ⟨_, rfl⟩
         rw [← hxb] at hat CX
         have HAT := hid hat; have HTK := hid htk
         clear hat hmem htk hx hxb hvR
         have hVr := hSr.rd 3 rfl
         have hv9 : vals.length ≤ 4097 := by rw [HVL.out]; omega
         cases hix : intL x with
         | none =>
          rw [hix] at CX
          have hR2 : R = (noM, 25) := by rw [HR.out, hno hix]
          have HX := hid CX; have HR2 := hid hR2
          clear CX hix hno hR2
          go_wp2_with ((with_reducible refine wpList_idxN _ ByteArray.empty E_strs F_str cStr1 wU wU (hVr) (HM2.out) oD oD (fun _ => wU) (fun _ => ?_)); rw [HAT.out])
          refine (HX.out _).mono ?_
          rintro e w8 ⟨nx, rfl, -, rfl⟩
          go_wp2_with ((with_reducible refine wpList_stoR (us := #[.bool false, .int .i64 0, .int .i64 0, .slice none 0 0]) 2 wU wU (hSr) wU kR wU wU ?_); intro w9 hS9)
          exact bodyPost_ret (results_cellSlot rfl rfl rfl A_rmach kR (hS9.blk 2 rfl).1) rfl (by rw [HR2.out]; exact RetMac.none (S := hS9.empty) rfl)
         | some nx =>
          rw [hix] at CX
          have HX := hid CX; have HIX := hid hix
          clear CX hix hno
          go_wp2_with ((with_reducible refine wpList_idxN _ ByteArray.empty E_strs F_str cStr1 wU wU (hVr) (HM2.out) oD oD (fun _ => wU) (fun _ => ?_)); rw [HAT.out])
          refine (HX.out _).mono ?_
          rintro e w8 ⟨ny, rfl, hny, rfl⟩
          have hny2 := hny nx rfl
          subst hny2
          clear hny
          have q5 := (hSr.blk 0 rfl).1
          go_wp2_with (first | (with_reducible refine wpList_ldB F_sliceM wU wU q5 wU ?_) | (((with_reducible refine wpList_pushL (y := (nx : Int)) 1 E_ints wU wU (hSr) wU cIntO ⟨rfl, rfl⟩ (by first | with_unfolding_all rfl | simp) wU (by first | omega | (simp; omega)) (by first | omega | (simp; omega)) ?_); intro v9 w9 hS9); obtain ⟨a9, c9, rfl, _⟩ := hS9.slice 1 rfl) | ((with_reducible refine wpList_stoF 0 wU wU hS9 rfl rfl ?_); intro w10 hS10))
          have eL : (vals ++ [(nx : Int)]).length = vals.length + 1 := by simp
          have hS11 := hS10
          simp only [eL] at hS11
          refine ⟨⟨k + 1, vals ++ [(nx : Int)], .slice a9 (vals.length + 1) c9, by omega, by go_num, by rw [eL, HVL.out], by rw [HTK.out]; exact intsL_snoc HVS.out HIX.out, hS11⟩, by simp [intOf]; omega⟩
        ·have hkk : k = L2.length := by omega
         have htl : L2.take k = L2 := List.take_of_length_le (by omega)
         have hvs := HVS.out
         rw [htl] at hvs
         have hR2 : R = (if macE ⟨false, (ng : Int), (-1), vals⟩ ≠ 0 then (noM, macE ⟨false, (ng : Int), (-1), vals⟩) else (⟨false, (ng : Int), (-1), vals⟩, 0)) := by rw [HR.out, hvs]
         have CK := fun w h => rCheckMachine_any ⟨false, (ng : Int), (-1), vals⟩ av cv w h
         obtain ⟨E, hE⟩ : ∃ E, E = macE ⟨false, (ng : Int), (-1), vals⟩ := ⟨_, rfl⟩
         rw [← hE] at CK hR2
         have HK := hid CK
         have q7 := (hSr.blk 0 rfl).1
         clear CK hE hvs HVS htl hkk
         by_cases he : E = 0
         ·subst he
          rw [if_neg (by decide)] at hR2
          have HR2 := hid hR2
          clear hR2
          go_wp2_with (with_reducible refine wpList_ldS (n := 4) (us := #[.bool false, .int .i64 ng, .int .i64 (-1), .slice av vals.length cv]) A_rmach kR wU wU (by assumption) wU wU ?_)
          refine (HK.out _ hvR).mono ?_
          rintro e w8 ⟨rfl, b8⟩
          have hS8 := hSr.mono b8
          have q8 := (hS8.blk 0 rfl).1
          clear q7
          go_wp2_with (first | (with_reducible refine wpList_ldS (n := 4) (us := #[.bool false, .int .i64 ng, .int .i64 (-1), .slice av vals.length cv]) A_rmach kR wU wU (by assumption) wU wU ?_) | ((with_reducible refine wpList_stoR (us := #[.bool false, .int .i64 ng, .int .i64 (-1), .slice av vals.length cv]) 2 wU wU (hS8) wU kR wU wU ?_); intro w9 hS9))
          exact bodyPost_ret (results_cellSlot rfl rfl rfl A_rmach kR (hS9.blk 2 rfl).1) rfl (by rw [HR2.out]; exact ⟨av, cv, rfl, hS9.one 1 rfl⟩)
         ·rw [if_pos he] at hR2
          have HR2 := hid hR2
          clear hR2
          have hne : (E != 0) = true := by simpa using he
          go_wp2_with (with_reducible refine wpList_ldS (n := 4) (us := #[.bool false, .int .i64 ng, .int .i64 (-1), .slice av vals.length cv]) A_rmach kR wU wU (by assumption) wU wU ?_)
          refine (HK.out _ hvR).mono ?_
          rintro e w8 ⟨rfl, b8⟩
          have hS8 := hSr.mono b8
          clear q7
          go_wp2_with ((with_reducible refine wpList_stoR (us := #[.bool false, .int .i64 0, .int .i64 0, .slice none 0 0]) 2 wU wU (hS8) wU kR wU wU ?_); intro w9 hS9)
          exact bodyPost_ret (results_cellSlot rfl rfl rfl A_rmach kR (hS9.blk 2 rfl).1) rfl (by rw [HR2.out]; exact RetMac.none (S := hS9.empty) rfl)
    ·rw [decide_eq_false ht4] at e4
     have hg : parseGo [k, g, t, w4] = (noM, 25) := by show (if _ then _ else _) = _; rw [if_pos (.inr ⟨ht3, ht4⟩)]
     rw [hg]
     clear hg hLB hK hT hk ht3 ht4
     go_enter Tryz.func34, Tryz.ntmps34
     go_wp2_with fail
     refine (HCS2.out _).mono ?_
     rintro e w1 ⟨v1, rfl, ho1, b1⟩
     have hS1 := hS.call (SL.ofOwn ho1 b1)
     simp only [List.cons_append, List.nil_append] at hS1
     clear ho1 b1
     obtain ⟨aw, cw, rfl, _⟩ := hS1.slice 0 rfl
     rw [HLL.out] at hS1 ⊢
     have hW1 := hS1.rd 0 rfl
     go_wp2_with (first | ((first | (with_reducible refine wpList_idxG ByteArray.empty E_strs F_str cStr1 wU wU (hW1) (HLL.out) oD oD (fun _ => wU) wU (fun _ => wU) (fun _ => ?_)) | (with_reducible refine wpList_idxN _ ByteArray.empty E_strs F_str cStr1 wU wU (hW1) (HLL.out) oD oD (fun _ => wU) (fun _ => ?_))); first | rw [A0.out] | rw [A1.out] | rw [A2.out] | rw [A3.out]) | ((with_reducible refine wpList_stoR (us := #[.bool false, .int .i64 0, .int .i64 0, .slice none 0 0]) 1 wU wU (hS1) wU kR wU wU ?_); intro w2 hS2))
     exact bodyPost_ret (results_cellSlot rfl rfl rfl A_rmach kR (hS2.blk 1 rfl).1) rfl (RetMac.none (S := hS2.empty) rfl)
  ·rw [decide_eq_false hk1] at e1
   by_cases hk2 : k = ringT
   ·rw [decide_eq_true hk2] at e2
    have hk := hk2
    clear hk1 hk2
    by_cases ht3 : t = [43]
    ·rw [decide_eq_true ht3] at e3
     have ht4 : t ≠ [45] := by rw [ht3]; decide
     rw [decide_eq_false ht4] at e4
     have ht := ht3
     clear ht3 ht4
     have hpg : parseGo [k, g, t, w4] = (match intL g, placesL w4 with
       | some n, some l => if macE ⟨true, n, 1, l⟩ ≠ 0 then (noM, macE ⟨true, n, 1, l⟩) else (⟨true, n, 1, l⟩, 0)
       | _, _ => (noM, 25)) := by
      rw [hk, ht]; rfl
     rw [hpg]
     have CI := fun w => rinteger4_any g w (by omega)
     have e5 : ((bT w4).toList == [110, 111, 110, 101]) = decide (w4 = noneT) := eqT2 w4 noneT
     have CC := fun w => rSplit4_any 44 w4 w (by omega)
     rw [show ((44 : UInt8).toNat : Int) = 44 from rfl] at CC
     obtain ⟨G, hG⟩ : ∃ G, G = bT g := ⟨_, rfl⟩
     obtain ⟨X, hX⟩ : ∃ X, X = bT w4 := ⟨_, rfl⟩
     rw [← hG] at A1 CI
     rw [← hX] at A3 e5 CC
     have HCI := hid CI; have HCC := hid CC
     clear CI CC hG hX hpg hLB hK hT hk ht
     cases hi : intL g with
     | none =>
      have hres : (match (none : Option Nat), placesL w4 with | some n, some l => if macE ⟨true, n, 1, l⟩ ≠ 0 then (noM, macE ⟨true, n, 1, l⟩) else (⟨true, n, 1, l⟩, 0) | _, _ => (noM, 25)) = ((noM, 25) : MacV × Int) := by cases placesL w4 <;> rfl
      rw [hres]
      have hI := HCI.out
      rw [hi] at hI
      have HI := hid hI
      clear hI hi hres e5
      go_enter Tryz.func34, Tryz.ntmps34
      go_wp2_with fail
      refine (HCS2.out _).mono ?_
      rintro e w1 ⟨v1, rfl, ho1, b1⟩
      have hS1 := hS.call (SL.ofOwn ho1 b1)
      simp only [List.cons_append, List.nil_append] at hS1
      clear ho1 b1
      obtain ⟨aw, cw, rfl, _⟩ := hS1.slice 0 rfl
      rw [HLL.out] at hS1 ⊢
      have hW1 := hS1.rd 0 rfl
      have hS2 := hS1.box (.cells #[.bool true, .int .i64 0, .int .i64 1, .slice none 0 0] 25)
      have hW2 := hS2.rd 1 rfl
      go_wp2_with (first | ((first | (with_reducible refine wpList_idxG ByteArray.empty E_strs F_str cStr1 wU wU (hW1) (HLL.out) oD oD (fun _ => wU) wU (fun _ => wU) (fun _ => ?_)) | (with_reducible refine wpList_idxN _ ByteArray.empty E_strs F_str cStr1 wU wU (hW1) (HLL.out) oD oD (fun _ => wU) (fun _ => ?_))); first | rw [A0.out] | rw [A1.out] | rw [A2.out] | rw [A3.out]) | ((first | (with_reducible refine wpList_idxG ByteArray.empty E_strs F_str cStr1 wU wU (hW2) (HLL.out) oD oD (fun _ => wU) wU (fun _ => wU) (fun _ => ?_)) | (with_reducible refine wpList_idxN _ ByteArray.empty E_strs F_str cStr1 wU wU (hW2) (HLL.out) oD oD (fun _ => wU) (fun _ => ?_))); first | rw [A0.out] | rw [A1.out] | rw [A2.out] | rw [A3.out]))
      refine (HI.out _).mono ?_
      rintro e w' ⟨n, rfl, hnn, rfl⟩
      clear hnn
      go_wp2_with (first | ((with_reducible refine wpList_stoFi 0 wU wU hS2 rfl rfl ?_); intro w5 hS4; have hS4 : SL w.heap.size w w5 [pBlk w1.heap.size (.cells #[.bool true, .int .i64 n, .int .i64 1, .slice none 0 0] 25), pOwn cStr 1 9 (.slice aw 4 cw) LB, pBlk w.heap.size (.cells #[.bool false, .int .i64 0, .int .i64 0, .slice none 0 0] 25)] := hS4; have hW4 := hS4.rd 1 rfl; have q4 := (hS4.blk 0 rfl).1; clear hS2) | ((with_reducible refine wpList_stoR (us := #[.bool false, .int .i64 0, .int .i64 0, .slice none 0 0]) 2 wU wU (hS4) wU kR wU wU ?_); intro w6 hS6))
      exact bodyPost_ret (results_cellSlot rfl rfl rfl A_rmach kR (hS6.blk 2 rfl).1) rfl (RetMac.none (S := hS6.empty) rfl)
     | some ng =>
      have hb9 := (intL_canon hi).2.2.2.2.2
      have hI := HCI.out
      rw [hi] at hI
      have HI := hid hI
      clear hI hi
      by_cases hn : w4 = noneT
      ·have hpl : placesL w4 = some [] := by unfold placesL; rw [if_pos hn]
       rw [decide_eq_true hn] at e5
       rw [hpl]
       clear hpl hn
       simp only []
       have CK := fun w h => rCheckMachine_any ⟨true, (ng : Int), 1, []⟩ none 0 w h
       obtain ⟨E, hE⟩ : ∃ E, E = macE ⟨true, (ng : Int), 1, []⟩ := ⟨_, rfl⟩
       rw [← hE] at CK ⊢
       have HK := hid CK
       clear CK hE hb9
       by_cases he : E = 0
       ·subst he
        rw [if_neg (by decide)]
        go_enter Tryz.func34, Tryz.ntmps34
        go_wp2_with fail
        refine (HCS2.out _).mono ?_
        rintro e w1 ⟨v1, rfl, ho1, b1⟩
        have hS1 := hS.call (SL.ofOwn ho1 b1)
        simp only [List.cons_append, List.nil_append] at hS1
        clear ho1 b1
        obtain ⟨aw, cw, rfl, _⟩ := hS1.slice 0 rfl
        rw [HLL.out] at hS1 ⊢
        have hW1 := hS1.rd 0 rfl
        have hS2 := hS1.box (.cells #[.bool true, .int .i64 0, .int .i64 1, .slice none 0 0] 25)
        have hW2 := hS2.rd 1 rfl
        go_wp2_with (first | ((first | (with_reducible refine wpList_idxG ByteArray.empty E_strs F_str cStr1 wU wU (hW1) (HLL.out) oD oD (fun _ => wU) wU (fun _ => wU) (fun _ => ?_)) | (with_reducible refine wpList_idxN _ ByteArray.empty E_strs F_str cStr1 wU wU (hW1) (HLL.out) oD oD (fun _ => wU) (fun _ => ?_))); first | rw [A0.out] | rw [A1.out] | rw [A2.out] | rw [A3.out]) | ((first | (with_reducible refine wpList_idxG ByteArray.empty E_strs F_str cStr1 wU wU (hW2) (HLL.out) oD oD (fun _ => wU) wU (fun _ => wU) (fun _ => ?_)) | (with_reducible refine wpList_idxN _ ByteArray.empty E_strs F_str cStr1 wU wU (hW2) (HLL.out) oD oD (fun _ => wU) (fun _ => ?_))); first | rw [A0.out] | rw [A1.out] | rw [A2.out] | rw [A3.out]))
        refine (HI.out _).mono ?_
        rintro e w' ⟨n, rfl, hnn, rfl⟩
        have hn2 := hnn ng rfl
        subst hn2
        clear hnn
        go_wp2_with (first | ((with_reducible refine wpList_stoFi 0 wU wU hS2 rfl rfl ?_); intro w5 hS4; have hS4 : SL w.heap.size w w5 [pBlk w1.heap.size (.cells #[.bool true, .int .i64 ng, .int .i64 1, .slice none 0 0] 25), pOwn cStr 1 9 (.slice aw 4 cw) LB, pBlk w.heap.size (.cells #[.bool false, .int .i64 0, .int .i64 0, .slice none 0 0] 25)] := hS4; have hW4 := hS4.rd 1 rfl; have q4 := (hS4.blk 0 rfl).1; clear hS2) | ((first | (with_reducible refine wpList_idxG ByteArray.empty E_strs F_str cStr1 wU wU (hW4) (HLL.out) oD oD (fun _ => wU) wU (fun _ => wU) (fun _ => ?_)) | (with_reducible refine wpList_idxN _ ByteArray.empty E_strs F_str cStr1 wU wU (hW4) (HLL.out) oD oD (fun _ => wU) (fun _ => ?_))); first | rw [A0.out] | rw [A1.out] | rw [A2.out] | rw [A3.out]) | (with_reducible refine wpList_ldS (n := 4) (us := #[.bool true, .int .i64 ng, .int .i64 1, .slice none 0 0]) A_rmach kR wU wU (by assumption) wU wU ?_))
        refine (HK.out _ (ints_nil _)).mono ?_
        rintro e w7 ⟨rfl, b7⟩
        have hS7 := hS4.mono b7
        have q8 := (hS7.blk 0 rfl).1
        clear q4
        go_wp2_with (first | (with_reducible refine wpList_ldS (n := 4) (us := #[.bool true, .int .i64 ng, .int .i64 1, .slice none 0 0]) A_rmach kR wU wU (by assumption) wU wU ?_) | ((with_reducible refine wpList_stoR (us := #[.bool true, .int .i64 ng, .int .i64 1, .slice none 0 0]) 2 wU wU (hS7) wU kR wU wU ?_); intro w8 hS8))
        exact bodyPost_ret (results_cellSlot rfl rfl rfl A_rmach kR (hS8.blk 2 rfl).1) rfl ⟨none, 0, rfl, hS8.empty.nilS (α := Int) (c := cInt) (sz := 1) (e := 3) cIntS⟩
       ·rw [if_pos he]
        have hne : (E != 0) = true := by simpa using he
        go_enter Tryz.func34, Tryz.ntmps34
        go_wp2_with fail
        refine (HCS2.out _).mono ?_
        rintro e w1 ⟨v1, rfl, ho1, b1⟩
        have hS1 := hS.call (SL.ofOwn ho1 b1)
        simp only [List.cons_append, List.nil_append] at hS1
        clear ho1 b1
        obtain ⟨aw, cw, rfl, _⟩ := hS1.slice 0 rfl
        rw [HLL.out] at hS1 ⊢
        have hW1 := hS1.rd 0 rfl
        have hS2 := hS1.box (.cells #[.bool true, .int .i64 0, .int .i64 1, .slice none 0 0] 25)
        have hW2 := hS2.rd 1 rfl
        go_wp2_with (first | ((first | (with_reducible refine wpList_idxG ByteArray.empty E_strs F_str cStr1 wU wU (hW1) (HLL.out) oD oD (fun _ => wU) wU (fun _ => wU) (fun _ => ?_)) | (with_reducible refine wpList_idxN _ ByteArray.empty E_strs F_str cStr1 wU wU (hW1) (HLL.out) oD oD (fun _ => wU) (fun _ => ?_))); first | rw [A0.out] | rw [A1.out] | rw [A2.out] | rw [A3.out]) | ((first | (with_reducible refine wpList_idxG ByteArray.empty E_strs F_str cStr1 wU wU (hW2) (HLL.out) oD oD (fun _ => wU) wU (fun _ => wU) (fun _ => ?_)) | (with_reducible refine wpList_idxN _ ByteArray.empty E_strs F_str cStr1 wU wU (hW2) (HLL.out) oD oD (fun _ => wU) (fun _ => ?_))); first | rw [A0.out] | rw [A1.out] | rw [A2.out] | rw [A3.out]))
        refine (HI.out _).mono ?_
        rintro e w' ⟨n, rfl, hnn, rfl⟩
        have hn2 := hnn ng rfl
        subst hn2
        clear hnn
        go_wp2_with (first | ((with_reducible refine wpList_stoFi 0 wU wU hS2 rfl rfl ?_); intro w5 hS4; have hS4 : SL w.heap.size w w5 [pBlk w1.heap.size (.cells #[.bool true, .int .i64 ng, .int .i64 1, .slice none 0 0] 25), pOwn cStr 1 9 (.slice aw 4 cw) LB, pBlk w.heap.size (.cells #[.bool false, .int .i64 0, .int .i64 0, .slice none 0 0] 25)] := hS4; have hW4 := hS4.rd 1 rfl; have q4 := (hS4.blk 0 rfl).1; clear hS2) | ((first | (with_reducible refine wpList_idxG ByteArray.empty E_strs F_str cStr1 wU wU (hW4) (HLL.out) oD oD (fun _ => wU) wU (fun _ => wU) (fun _ => ?_)) | (with_reducible refine wpList_idxN _ ByteArray.empty E_strs F_str cStr1 wU wU (hW4) (HLL.out) oD oD (fun _ => wU) (fun _ => ?_))); first | rw [A0.out] | rw [A1.out] | rw [A2.out] | rw [A3.out]) | (with_reducible refine wpList_ldS (n := 4) (us := #[.bool true, .int .i64 ng, .int .i64 1, .slice none 0 0]) A_rmach kR wU wU (by assumption) wU wU ?_))
        refine (HK.out _ (ints_nil _)).mono ?_
        rintro e w7 ⟨rfl, b7⟩
        have hS7 := hS4.mono b7
        clear q4
        go_wp2_with ((with_reducible refine wpList_stoR (us := #[.bool false, .int .i64 0, .int .i64 0, .slice none 0 0]) 2 wU wU (hS7) wU kR wU wU ?_); intro w8 hS8)
        exact bodyPost_ret (results_cellSlot rfl rfl rfl A_rmach kR (hS8.blk 2 rfl).1) rfl (RetMac.none (S := hS8.empty) rfl)
      ·rw [decide_eq_false hn] at e5
       have hpl : placesL w4 = intsL (spl 44 w4) := by unfold placesL; rw [if_neg hn]
       rw [hpl]
       have hl2 := splR_len 44 w4 []
       have hs2 := spl_sum 44 w4 []
       have hC2 := HCC.out
       obtain ⟨L2, hL2⟩ : ∃ L2, L2 = spl 44 w4 := ⟨_, rfl⟩
       rw [show splR 44 [] w4 = L2 from hL2.symm] at hl2 hs2
       rw [← hL2] at hC2 ⊢
       have HC2 := hid hC2
       have hM2 : (L2.map bT).length = L2.length := by simp
       have HM2 := hid hM2
       have hl9 : L2.length ≤ 4097 := by omega
       have CX := fun (x : List UInt8) w (h : x ∈ L2) => rinteger4_any x w (by have := hs2 x h; simp only [List.length_nil, Nat.zero_add] at this; omega)
       have HCX := hid CX
       obtain ⟨R, hR⟩ : ∃ R : MacV × Int, R = (match (some ng : Option Nat), intsL L2 with | some n, some l => if macE ⟨true, n, 1, l⟩ ≠ 0 then (noM, macE ⟨true, n, 1, l⟩) else (⟨true, n, 1, l⟩, 0) | _, _ => (noM, 25)) := ⟨_, rfl⟩
       rw [← hR]
       have HR := hid hR
       clear hpl hn hL2 hC2 hM2 hl2 hs2 CX HCC hR
       go_enter Tryz.func34, Tryz.ntmps34
       go_wp2_with fail
       refine (HCS2.out _).mono ?_
       rintro e w1 ⟨v1, rfl, ho1, b1⟩
       have hS1 := hS.call (SL.ofOwn ho1 b1)
       simp only [List.cons_append, List.nil_append] at hS1
       clear ho1 b1
       obtain ⟨aw, cw, rfl, _⟩ := hS1.slice 0 rfl
       rw [HLL.out] at hS1 ⊢
       have hW1 := hS1.rd 0 rfl
       have hS2 := hS1.box (.cells #[.bool true, .int .i64 0, .int .i64 1, .slice none 0 0] 25)
       have hW2 := hS2.rd 1 rfl
       go_wp2_with (first | ((first | (with_reducible refine wpList_idxG ByteArray.empty E_strs F_str cStr1 wU wU (hW1) (HLL.out) oD oD (fun _ => wU) wU (fun _ => wU) (fun _ => ?_)) | (with_reducible refine wpList_idxN _ ByteArray.empty E_strs F_str cStr1 wU wU (hW1) (HLL.out) oD oD (fun _ => wU) (fun _ => ?_))); first | rw [A0.out] | rw [A1.out] | rw [A2.out] | rw [A3.out]) | ((first | (with_reducible refine wpList_idxG ByteArray.empty E_strs F_str cStr1 wU wU (hW2) (HLL.out) oD oD (fun _ => wU) wU (fun _ => wU) (fun _ => ?_)) | (with_reducible refine wpList_idxN _ ByteArray.empty E_strs F_str cStr1 wU wU (hW2) (HLL.out) oD oD (fun _ => wU) (fun _ => ?_))); first | rw [A0.out] | rw [A1.out] | rw [A2.out] | rw [A3.out]))
       refine (HI.out _).mono ?_
       rintro e w' ⟨n, rfl, hnn, rfl⟩
       have hn2 := hnn ng rfl
       subst hn2
       clear hnn
       go_wp2_with (first | ((with_reducible refine wpList_stoFi 0 wU wU hS2 rfl rfl ?_); intro w5 hS4; have hS4 : SL w.heap.size w w5 [pBlk w1.heap.size (.cells #[.bool true, .int .i64 ng, .int .i64 1, .slice none 0 0] 25), pOwn cStr 1 9 (.slice aw 4 cw) LB, pBlk w.heap.size (.cells #[.bool false, .int .i64 0, .int .i64 0, .slice none 0 0] 25)] := hS4; have hW4 := hS4.rd 1 rfl; have q4 := (hS4.blk 0 rfl).1; clear hS2) | ((first | (with_reducible refine wpList_idxG ByteArray.empty E_strs F_str cStr1 wU wU (hW4) (HLL.out) oD oD (fun _ => wU) wU (fun _ => wU) (fun _ => ?_)) | (with_reducible refine wpList_idxN _ ByteArray.empty E_strs F_str cStr1 wU wU (hW4) (HLL.out) oD oD (fun _ => wU) (fun _ => ?_))); first | rw [A0.out] | rw [A1.out] | rw [A2.out] | rw [A3.out]))
       refine (HC2.out _).mono ?_
       rintro e w6 ⟨v6, rfl, ho6, b6⟩
       have hS6 := hS4.call (SL.ofOwn ho6 b6)
       simp only [List.cons_append, List.nil_append] at hS6
       clear ho6 b6
       obtain ⟨a3, c3, rfl, _⟩ := hS6.slice 0 rfl
       rw [HM2.out] at hS6 ⊢
       obtain ⟨b5, hb5⟩ : ∃ b5, b5 = w1.heap.size := ⟨_, rfl⟩
       have hS7 := (hS6.nilS (α := Int) (c := cInt) (sz := 1) (e := 3) cIntS).pick [2, 0, 4, 1] (by decide) [pBlk b5 (.cells #[.bool true, .int .i64 ng, .int .i64 1, .slice none 0 0] 25), pOwn cInt 1 3 (.slice none 0 0) [], pBlk w.heap.size (.cells #[.bool false, .int .i64 0, .int .i64 0, .slice none 0 0] 25), pOwn cStr 1 9 (.slice a3 L2.length c3) (L2.map bT)] (by rw [hb5]; rfl)
       rw [← hb5]
       clear hb5 hS6 hS4 hW4 q4 hW1 hW2 hS1 HCS2 HI HC2
       go_wp2_with fail
       go_loopw [8, 9, 10] (fun iv nv fv wr => ∃ (k : Nat) (vals : List Int) (sv : Value), k ≤ L2.length ∧ iv = .int .i64 k ∧ vals.length = k ∧ intsL (L2.take k) = some vals ∧ SL w.heap.size w wr [pBlk b5 (.cells #[.bool true, .int .i64 ng, .int .i64 1, sv] 25), pOwn cInt 1 3 sv vals, pBlk w.heap.size (.cells #[.bool false, .int .i64 0, .int .i64 0, .slice none 0 0] 25), pOwn cStr 1 9 (.slice a3 L2.length c3) (L2.map bT)]) (fun iv _ _ _ => L2.length - (intOf iv).toNat)
       case atStart => exact ⟨0, [], .slice none 0 0, by omega, rfl, rfl, rfl, hS7⟩
       case round =>
        clear hS7
        obtain ⟨k, vals, sv, hk, rfl, hvl, hvs, hSr⟩ := hrel
        have HVL := hid hvl; have HVS := hid hvs
        clear hvl hvs
        obtain ⟨av, cv, rfl, hvR⟩ := hSr.slice 1 rfl
        by_cases hlt : k < L2.length
        ·have hat := atD_mapT L2 k hlt
         have hmem : atD [] L2 k ∈ L2 := by simp [atD, hlt]
         have htk : L2.take (k + 1) = L2.take k ++ [atD [] L2 k] := by rw [List.take_succ_eq_append_getElem hlt]; simp [atD, hlt]
         have CX := fun w => HCX.out (atD [] L2 k) w hmem
         have hno : intL (atD [] L2 k) = none → intsL L2 = none := fun h => by
          have h1 := intsL_isSome L2
          cases h2 : intsL L2 with
          | none => rfl
          | some v =>
           rw [h2] at h1
           have h3 := List.all_eq_true.1 h1.symm _ hmem
           unfold okT at h3
           rw [h] at h3
           cases h3
         obtain ⟨x, hx⟩ : ∃ x, x = atD [] L2 k := ⟨_, rfl⟩
         rw [← hx] at hat htk CX hno
         obtain ⟨xb, hxb⟩ : ∃ xb, xb = bT x := ⟨_, rfl⟩
         rw [← hxb] at hat CX
         have HAT := hid hat; have HTK := hid htk
         clear hat hmem htk hx hxb hvR
         have hVr := hSr.rd 3 rfl
         have hv9 : vals.length ≤ 4097 := by rw [HVL.out]; omega
         cases hix : intL x with
         | none =>
          rw [hix] at CX
          have hR2 : R = (noM, 25) := by rw [HR.out, hno hix]
          have HX := hid CX; have HR2 := hid hR2
          clear CX hix hno hR2
          go_wp2_with ((with_reducible refine wpList_idxN _ ByteArray.empty E_strs F_str cStr1 wU wU (hVr) (HM2.out) oD oD (fun _ => wU) (fun _ => ?_)); rw [HAT.out])
          refine (HX.out _).mono ?_
          rintro e w8 ⟨nx, rfl, -, rfl⟩
          go_wp2_with ((with_reducible refine wpList_stoR (us := #[.bool false, .int .i64 0, .int .i64 0, .slice none 0 0]) 2 wU wU (hSr) wU kR wU wU ?_); intro w9 hS9)
          exact bodyPost_ret (results_cellSlot rfl rfl rfl A_rmach kR (hS9.blk 2 rfl).1) rfl (by rw [HR2.out]; exact RetMac.none (S := hS9.empty) rfl)
         | some nx =>
          rw [hix] at CX
          have HX := hid CX; have HIX := hid hix
          clear CX hix hno
          go_wp2_with ((with_reducible refine wpList_idxN _ ByteArray.empty E_strs F_str cStr1 wU wU (hVr) (HM2.out) oD oD (fun _ => wU) (fun _ => ?_)); rw [HAT.out])
          refine (HX.out _).mono ?_
          rintro e w8 ⟨ny, rfl, hny, rfl⟩
          have hny2 := hny nx rfl
          subst hny2
          clear hny
          have q5 := (hSr.blk 0 rfl).1
          go_wp2_with (first | (with_reducible refine wpList_ldB F_sliceM wU wU q5 wU ?_) | (((with_reducible refine wpList_pushL (y := (nx : Int)) 1 E_ints wU wU (hSr) wU cIntO ⟨rfl, rfl⟩ (by first | with_unfolding_all rfl | simp) wU (by first | omega | (simp; omega)) (by first | omega | (simp; omega)) ?_); intro v9 w9 hS9); obtain ⟨a9, c9, rfl, _⟩ := hS9.slice 1 rfl) | ((with_reducible refine wpList_stoF 0 wU wU hS9 rfl rfl ?_); intro w10 hS10))
          have eL : (vals ++ [(nx : Int)]).length = vals.length + 1 := by simp
          have hS11 := hS10
          simp only [eL] at hS11
          refine ⟨⟨k + 1, vals ++ [(nx : Int)], .slice a9 (vals.length + 1) c9, by omega, by go_num, by rw [eL, HVL.out], by rw [HTK.out]; exact intsL_snoc HVS.out HIX.out, hS11⟩, by simp [intOf]; omega⟩
        ·have hkk : k = L2.length := by omega
         have htl : L2.take k = L2 := List.take_of_length_le (by omega)
         have hvs := HVS.out
         rw [htl] at hvs
         have hR2 : R = (if macE ⟨true, (ng : Int), 1, vals⟩ ≠ 0 then (noM, macE ⟨true, (ng : Int), 1, vals⟩) else (⟨true, (ng : Int), 1, vals⟩, 0)) := by rw [HR.out, hvs]
         have CK := fun w h => rCheckMachine_any ⟨true, (ng : Int), 1, vals⟩ av cv w h
         obtain ⟨E, hE⟩ : ∃ E, E = macE ⟨true, (ng : Int), 1, vals⟩ := ⟨_, rfl⟩
         rw [← hE] at CK hR2
         have HK := hid CK
         have q7 := (hSr.blk 0 rfl).1
         clear CK hE hvs HVS htl hkk
         by_cases he : E = 0
         ·subst he
          rw [if_neg (by decide)] at hR2
          have HR2 := hid hR2
          clear hR2
          go_wp2_with (with_reducible refine wpList_ldS (n := 4) (us := #[.bool true, .int .i64 ng, .int .i64 1, .slice av vals.length cv]) A_rmach kR wU wU (by assumption) wU wU ?_)
          refine (HK.out _ hvR).mono ?_
          rintro e w8 ⟨rfl, b8⟩
          have hS8 := hSr.mono b8
          have q8 := (hS8.blk 0 rfl).1
          clear q7
          go_wp2_with (first | (with_reducible refine wpList_ldS (n := 4) (us := #[.bool true, .int .i64 ng, .int .i64 1, .slice av vals.length cv]) A_rmach kR wU wU (by assumption) wU wU ?_) | ((with_reducible refine wpList_stoR (us := #[.bool true, .int .i64 ng, .int .i64 1, .slice av vals.length cv]) 2 wU wU (hS8) wU kR wU wU ?_); intro w9 hS9))
          exact bodyPost_ret (results_cellSlot rfl rfl rfl A_rmach kR (hS9.blk 2 rfl).1) rfl (by rw [HR2.out]; exact ⟨av, cv, rfl, hS9.one 1 rfl⟩)
         ·rw [if_pos he] at hR2
          have HR2 := hid hR2
          clear hR2
          have hne : (E != 0) = true := by simpa using he
          go_wp2_with (with_reducible refine wpList_ldS (n := 4) (us := #[.bool true, .int .i64 ng, .int .i64 1, .slice av vals.length cv]) A_rmach kR wU wU (by assumption) wU wU ?_)
          refine (HK.out _ hvR).mono ?_
          rintro e w8 ⟨rfl, b8⟩
          have hS8 := hSr.mono b8
          clear q7
          go_wp2_with ((with_reducible refine wpList_stoR (us := #[.bool false, .int .i64 0, .int .i64 0, .slice none 0 0]) 2 wU wU (hS8) wU kR wU wU ?_); intro w9 hS9)
          exact bodyPost_ret (results_cellSlot rfl rfl rfl A_rmach kR (hS9.blk 2 rfl).1) rfl (by rw [HR2.out]; exact RetMac.none (S := hS9.empty) rfl)
    ·rw [decide_eq_false ht3] at e3
     by_cases ht4 : t = [45]
     ·rw [decide_eq_true ht4] at e4
      have ht := ht4
      clear ht3 ht4
      have hpg : parseGo [k, g, t, w4] = (match intL g, placesL w4 with
        | some n, some l => if macE ⟨true, n, (-1), l⟩ ≠ 0 then (noM, macE ⟨true, n, (-1), l⟩) else (⟨true, n, (-1), l⟩, 0)
        | _, _ => (noM, 25)) := by
       rw [hk, ht]; rfl
      rw [hpg]
      have CI := fun w => rinteger4_any g w (by omega)
      have e5 : ((bT w4).toList == [110, 111, 110, 101]) = decide (w4 = noneT) := eqT2 w4 noneT
      have CC := fun w => rSplit4_any 44 w4 w (by omega)
      rw [show ((44 : UInt8).toNat : Int) = 44 from rfl] at CC
      obtain ⟨G, hG⟩ : ∃ G, G = bT g := ⟨_, rfl⟩
      obtain ⟨X, hX⟩ : ∃ X, X = bT w4 := ⟨_, rfl⟩
      rw [← hG] at A1 CI
      rw [← hX] at A3 e5 CC
      have HCI := hid CI; have HCC := hid CC
      clear CI CC hG hX hpg hLB hK hT hk ht
      cases hi : intL g with
      | none =>
       have hres : (match (none : Option Nat), placesL w4 with | some n, some l => if macE ⟨true, n, (-1), l⟩ ≠ 0 then (noM, macE ⟨true, n, (-1), l⟩) else (⟨true, n, (-1), l⟩, 0) | _, _ => (noM, 25)) = ((noM, 25) : MacV × Int) := by cases placesL w4 <;> rfl
       rw [hres]
       have hI := HCI.out
       rw [hi] at hI
       have HI := hid hI
       clear hI hi hres e5
       go_enter Tryz.func34, Tryz.ntmps34
       go_wp2_with fail
       refine (HCS2.out _).mono ?_
       rintro e w1 ⟨v1, rfl, ho1, b1⟩
       have hS1 := hS.call (SL.ofOwn ho1 b1)
       simp only [List.cons_append, List.nil_append] at hS1
       clear ho1 b1
       obtain ⟨aw, cw, rfl, _⟩ := hS1.slice 0 rfl
       rw [HLL.out] at hS1 ⊢
       have hW1 := hS1.rd 0 rfl
       have hS2 := hS1.box (.cells #[.bool true, .int .i64 0, .int .i64 1, .slice none 0 0] 25)
       have hW2 := hS2.rd 1 rfl
       go_wp2_with (first | ((with_reducible refine wpList_stoFi 0 wU wU hS2 rfl rfl ?_); intro w3 hS3; have hS3 : SL w.heap.size w w3 [pBlk w1.heap.size (.cells #[.bool true, .int .i64 0, .int .i64 (-1), .slice none 0 0] 25), pOwn cStr 1 9 (.slice aw 4 cw) LB, pBlk w.heap.size (.cells #[.bool false, .int .i64 0, .int .i64 0, .slice none 0 0] 25)] := hS3; have hW3 := hS3.rd 1 rfl; clear hS2) | ((first | (with_reducible refine wpList_idxG ByteArray.empty E_strs F_str cStr1 wU wU (hW1) (HLL.out) oD oD (fun _ => wU) wU (fun _ => wU) (fun _ => ?_)) | (with_reducible refine wpList_idxN _ ByteArray.empty E_strs F_str cStr1 wU wU (hW1) (HLL.out) oD oD (fun _ => wU) (fun _ => ?_))); first | rw [A0.out] | rw [A1.out] | rw [A2.out] | rw [A3.out]) | ((first | (with_reducible refine wpList_idxG ByteArray.empty E_strs F_str cStr1 wU wU (hW2) (HLL.out) oD oD (fun _ => wU) wU (fun _ => wU) (fun _ => ?_)) | (with_reducible refine wpList_idxN _ ByteArray.empty E_strs F_str cStr1 wU wU (hW2) (HLL.out) oD oD (fun _ => wU) (fun _ => ?_))); first | rw [A0.out] | rw [A1.out] | rw [A2.out] | rw [A3.out]) | ((first | (with_reducible refine wpList_idxG ByteArray.empty E_strs F_str cStr1 wU wU (hW3) (HLL.out) oD oD (fun _ => wU) wU (fun _ => wU) (fun _ => ?_)) | (with_reducible refine wpList_idxN _ ByteArray.empty E_strs F_str cStr1 wU wU (hW3) (HLL.out) oD oD (fun _ => wU) (fun _ => ?_))); first | rw [A0.out] | rw [A1.out] | rw [A2.out] | rw [A3.out]))
       refine (HI.out _).mono ?_
       rintro e w' ⟨n, rfl, hnn, rfl⟩
       clear hnn
       go_wp2_with (first | ((with_reducible refine wpList_stoFi 0 wU wU hS3 rfl rfl ?_); intro w5 hS4; have hS4 : SL w.heap.size w w5 [pBlk w1.heap.size (.cells #[.bool true, .int .i64 n, .int .i64 (-1), .slice none 0 0] 25), pOwn cStr 1 9 (.slice aw 4 cw) LB, pBlk w.heap.size (.cells #[.bool false, .int .i64 0, .int .i64 0, .slice none 0 0] 25)] := hS4; have hW4 := hS4.rd 1 rfl; have q4 := (hS4.blk 0 rfl).1; clear hS3) | ((with_reducible refine wpList_stoR (us := #[.bool false, .int .i64 0, .int .i64 0, .slice none 0 0]) 2 wU wU (hS4) wU kR wU wU ?_); intro w6 hS6))
       exact bodyPost_ret (results_cellSlot rfl rfl rfl A_rmach kR (hS6.blk 2 rfl).1) rfl (RetMac.none (S := hS6.empty) rfl)
      | some ng =>
       have hb9 := (intL_canon hi).2.2.2.2.2
       have hI := HCI.out
       rw [hi] at hI
       have HI := hid hI
       clear hI hi
       by_cases hn : w4 = noneT
       ·have hpl : placesL w4 = some [] := by unfold placesL; rw [if_pos hn]
        rw [decide_eq_true hn] at e5
        rw [hpl]
        clear hpl hn
        simp only []
        have CK := fun w h => rCheckMachine_any ⟨true, (ng : Int), (-1), []⟩ none 0 w h
        obtain ⟨E, hE⟩ : ∃ E, E = macE ⟨true, (ng : Int), (-1), []⟩ := ⟨_, rfl⟩
        rw [← hE] at CK ⊢
        have HK := hid CK
        clear CK hE hb9
        by_cases he : E = 0
        ·subst he
         rw [if_neg (by decide)]
         go_enter Tryz.func34, Tryz.ntmps34
         go_wp2_with fail
         refine (HCS2.out _).mono ?_
         rintro e w1 ⟨v1, rfl, ho1, b1⟩
         have hS1 := hS.call (SL.ofOwn ho1 b1)
         simp only [List.cons_append, List.nil_append] at hS1
         clear ho1 b1
         obtain ⟨aw, cw, rfl, _⟩ := hS1.slice 0 rfl
         rw [HLL.out] at hS1 ⊢
         have hW1 := hS1.rd 0 rfl
         have hS2 := hS1.box (.cells #[.bool true, .int .i64 0, .int .i64 1, .slice none 0 0] 25)
         have hW2 := hS2.rd 1 rfl
         go_wp2_with (first | ((with_reducible refine wpList_stoFi 0 wU wU hS2 rfl rfl ?_); intro w3 hS3; have hS3 : SL w.heap.size w w3 [pBlk w1.heap.size (.cells #[.bool true, .int .i64 0, .int .i64 (-1), .slice none 0 0] 25), pOwn cStr 1 9 (.slice aw 4 cw) LB, pBlk w.heap.size (.cells #[.bool false, .int .i64 0, .int .i64 0, .slice none 0 0] 25)] := hS3; have hW3 := hS3.rd 1 rfl; clear hS2) | ((first | (with_reducible refine wpList_idxG ByteArray.empty E_strs F_str cStr1 wU wU (hW1) (HLL.out) oD oD (fun _ => wU) wU (fun _ => wU) (fun _ => ?_)) | (with_reducible refine wpList_idxN _ ByteArray.empty E_strs F_str cStr1 wU wU (hW1) (HLL.out) oD oD (fun _ => wU) (fun _ => ?_))); first | rw [A0.out] | rw [A1.out] | rw [A2.out] | rw [A3.out]) | ((first | (with_reducible refine wpList_idxG ByteArray.empty E_strs F_str cStr1 wU wU (hW2) (HLL.out) oD oD (fun _ => wU) wU (fun _ => wU) (fun _ => ?_)) | (with_reducible refine wpList_idxN _ ByteArray.empty E_strs F_str cStr1 wU wU (hW2) (HLL.out) oD oD (fun _ => wU) (fun _ => ?_))); first | rw [A0.out] | rw [A1.out] | rw [A2.out] | rw [A3.out]) | ((first | (with_reducible refine wpList_idxG ByteArray.empty E_strs F_str cStr1 wU wU (hW3) (HLL.out) oD oD (fun _ => wU) wU (fun _ => wU) (fun _ => ?_)) | (with_reducible refine wpList_idxN _ ByteArray.empty E_strs F_str cStr1 wU wU (hW3) (HLL.out) oD oD (fun _ => wU) (fun _ => ?_))); first | rw [A0.out] | rw [A1.out] | rw [A2.out] | rw [A3.out]))
         refine (HI.out _).mono ?_
         rintro e w' ⟨n, rfl, hnn, rfl⟩
         have hn2 := hnn ng rfl
         subst hn2
         clear hnn
         go_wp2_with (first | ((with_reducible refine wpList_stoFi 0 wU wU hS3 rfl rfl ?_); intro w5 hS4; have hS4 : SL w.heap.size w w5 [pBlk w1.heap.size (.cells #[.bool true, .int .i64 ng, .int .i64 (-1), .slice none 0 0] 25), pOwn cStr 1 9 (.slice aw 4 cw) LB, pBlk w.heap.size (.cells #[.bool false, .int .i64 0, .int .i64 0, .slice none 0 0] 25)] := hS4; have hW4 := hS4.rd 1 rfl; have q4 := (hS4.blk 0 rfl).1; clear hS3) | ((first | (with_reducible refine wpList_idxG ByteArray.empty E_strs F_str cStr1 wU wU (hW4) (HLL.out) oD oD (fun _ => wU) wU (fun _ => wU) (fun _ => ?_)) | (with_reducible refine wpList_idxN _ ByteArray.empty E_strs F_str cStr1 wU wU (hW4) (HLL.out) oD oD (fun _ => wU) (fun _ => ?_))); first | rw [A0.out] | rw [A1.out] | rw [A2.out] | rw [A3.out]) | (with_reducible refine wpList_ldS (n := 4) (us := #[.bool true, .int .i64 ng, .int .i64 (-1), .slice none 0 0]) A_rmach kR wU wU (by assumption) wU wU ?_))
         refine (HK.out _ (ints_nil _)).mono ?_
         rintro e w7 ⟨rfl, b7⟩
         have hS7 := hS4.mono b7
         have q8 := (hS7.blk 0 rfl).1
         clear q4
         go_wp2_with (first | (with_reducible refine wpList_ldS (n := 4) (us := #[.bool true, .int .i64 ng, .int .i64 (-1), .slice none 0 0]) A_rmach kR wU wU (by assumption) wU wU ?_) | ((with_reducible refine wpList_stoR (us := #[.bool true, .int .i64 ng, .int .i64 (-1), .slice none 0 0]) 2 wU wU (hS7) wU kR wU wU ?_); intro w8 hS8))
         exact bodyPost_ret (results_cellSlot rfl rfl rfl A_rmach kR (hS8.blk 2 rfl).1) rfl ⟨none, 0, rfl, hS8.empty.nilS (α := Int) (c := cInt) (sz := 1) (e := 3) cIntS⟩
        ·rw [if_pos he]
         have hne : (E != 0) = true := by simpa using he
         go_enter Tryz.func34, Tryz.ntmps34
         go_wp2_with fail
         refine (HCS2.out _).mono ?_
         rintro e w1 ⟨v1, rfl, ho1, b1⟩
         have hS1 := hS.call (SL.ofOwn ho1 b1)
         simp only [List.cons_append, List.nil_append] at hS1
         clear ho1 b1
         obtain ⟨aw, cw, rfl, _⟩ := hS1.slice 0 rfl
         rw [HLL.out] at hS1 ⊢
         have hW1 := hS1.rd 0 rfl
         have hS2 := hS1.box (.cells #[.bool true, .int .i64 0, .int .i64 1, .slice none 0 0] 25)
         have hW2 := hS2.rd 1 rfl
         go_wp2_with (first | ((with_reducible refine wpList_stoFi 0 wU wU hS2 rfl rfl ?_); intro w3 hS3; have hS3 : SL w.heap.size w w3 [pBlk w1.heap.size (.cells #[.bool true, .int .i64 0, .int .i64 (-1), .slice none 0 0] 25), pOwn cStr 1 9 (.slice aw 4 cw) LB, pBlk w.heap.size (.cells #[.bool false, .int .i64 0, .int .i64 0, .slice none 0 0] 25)] := hS3; have hW3 := hS3.rd 1 rfl; clear hS2) | ((first | (with_reducible refine wpList_idxG ByteArray.empty E_strs F_str cStr1 wU wU (hW1) (HLL.out) oD oD (fun _ => wU) wU (fun _ => wU) (fun _ => ?_)) | (with_reducible refine wpList_idxN _ ByteArray.empty E_strs F_str cStr1 wU wU (hW1) (HLL.out) oD oD (fun _ => wU) (fun _ => ?_))); first | rw [A0.out] | rw [A1.out] | rw [A2.out] | rw [A3.out]) | ((first | (with_reducible refine wpList_idxG ByteArray.empty E_strs F_str cStr1 wU wU (hW2) (HLL.out) oD oD (fun _ => wU) wU (fun _ => wU) (fun _ => ?_)) | (with_reducible refine wpList_idxN _ ByteArray.empty E_strs F_str cStr1 wU wU (hW2) (HLL.out) oD oD (fun _ => wU) (fun _ => ?_))); first | rw [A0.out] | rw [A1.out] | rw [A2.out] | rw [A3.out]) | ((first | (with_reducible refine wpList_idxG ByteArray.empty E_strs F_str cStr1 wU wU (hW3) (HLL.out) oD oD (fun _ => wU) wU (fun _ => wU) (fun _ => ?_)) | (with_reducible refine wpList_idxN _ ByteArray.empty E_strs F_str cStr1 wU wU (hW3) (HLL.out) oD oD (fun _ => wU) (fun _ => ?_))); first | rw [A0.out] | rw [A1.out] | rw [A2.out] | rw [A3.out]))
         refine (HI.out _).mono ?_
         rintro e w' ⟨n, rfl, hnn, rfl⟩
         have hn2 := hnn ng rfl
         subst hn2
         clear hnn
         go_wp2_with (first | ((with_reducible refine wpList_stoFi 0 wU wU hS3 rfl rfl ?_); intro w5 hS4; have hS4 : SL w.heap.size w w5 [pBlk w1.heap.size (.cells #[.bool true, .int .i64 ng, .int .i64 (-1), .slice none 0 0] 25), pOwn cStr 1 9 (.slice aw 4 cw) LB, pBlk w.heap.size (.cells #[.bool false, .int .i64 0, .int .i64 0, .slice none 0 0] 25)] := hS4; have hW4 := hS4.rd 1 rfl; have q4 := (hS4.blk 0 rfl).1; clear hS3) | ((first | (with_reducible refine wpList_idxG ByteArray.empty E_strs F_str cStr1 wU wU (hW4) (HLL.out) oD oD (fun _ => wU) wU (fun _ => wU) (fun _ => ?_)) | (with_reducible refine wpList_idxN _ ByteArray.empty E_strs F_str cStr1 wU wU (hW4) (HLL.out) oD oD (fun _ => wU) (fun _ => ?_))); first | rw [A0.out] | rw [A1.out] | rw [A2.out] | rw [A3.out]) | (with_reducible refine wpList_ldS (n := 4) (us := #[.bool true, .int .i64 ng, .int .i64 (-1), .slice none 0 0]) A_rmach kR wU wU (by assumption) wU wU ?_))
         refine (HK.out _ (ints_nil _)).mono ?_
         rintro e w7 ⟨rfl, b7⟩
         have hS7 := hS4.mono b7
         clear q4
         go_wp2_with ((with_reducible refine wpList_stoR (us := #[.bool false, .int .i64 0, .int .i64 0, .slice none 0 0]) 2 wU wU (hS7) wU kR wU wU ?_); intro w8 hS8)
         exact bodyPost_ret (results_cellSlot rfl rfl rfl A_rmach kR (hS8.blk 2 rfl).1) rfl (RetMac.none (S := hS8.empty) rfl)
       ·rw [decide_eq_false hn] at e5
        have hpl : placesL w4 = intsL (spl 44 w4) := by unfold placesL; rw [if_neg hn]
        rw [hpl]
        have hl2 := splR_len 44 w4 []
        have hs2 := spl_sum 44 w4 []
        have hC2 := HCC.out
        obtain ⟨L2, hL2⟩ : ∃ L2, L2 = spl 44 w4 := ⟨_, rfl⟩
        rw [show splR 44 [] w4 = L2 from hL2.symm] at hl2 hs2
        rw [← hL2] at hC2 ⊢
        have HC2 := hid hC2
        have hM2 : (L2.map bT).length = L2.length := by simp
        have HM2 := hid hM2
        have hl9 : L2.length ≤ 4097 := by omega
        have CX := fun (x : List UInt8) w (h : x ∈ L2) => rinteger4_any x w (by have := hs2 x h; simp only [List.length_nil, Nat.zero_add] at this; omega)
        have HCX := hid CX
        obtain ⟨R, hR⟩ : ∃ R : MacV × Int, R = (match (some ng : Option Nat), intsL L2 with | some n, some l => if macE ⟨true, n, (-1), l⟩ ≠ 0 then (noM, macE ⟨true, n, (-1), l⟩) else (⟨true, n, (-1), l⟩, 0) | _, _ => (noM, 25)) := ⟨_, rfl⟩
        rw [← hR]
        have HR := hid hR
        clear hpl hn hL2 hC2 hM2 hl2 hs2 CX HCC hR
        go_enter Tryz.func34, Tryz.ntmps34
        go_wp2_with fail
        refine (HCS2.out _).mono ?_
        rintro e w1 ⟨v1, rfl, ho1, b1⟩
        have hS1 := hS.call (SL.ofOwn ho1 b1)
        simp only [List.cons_append, List.nil_append] at hS1
        clear ho1 b1
        obtain ⟨aw, cw, rfl, _⟩ := hS1.slice 0 rfl
        rw [HLL.out] at hS1 ⊢
        have hW1 := hS1.rd 0 rfl
        have hS2 := hS1.box (.cells #[.bool true, .int .i64 0, .int .i64 1, .slice none 0 0] 25)
        have hW2 := hS2.rd 1 rfl
        go_wp2_with (first | ((with_reducible refine wpList_stoFi 0 wU wU hS2 rfl rfl ?_); intro w3 hS3; have hS3 : SL w.heap.size w w3 [pBlk w1.heap.size (.cells #[.bool true, .int .i64 0, .int .i64 (-1), .slice none 0 0] 25), pOwn cStr 1 9 (.slice aw 4 cw) LB, pBlk w.heap.size (.cells #[.bool false, .int .i64 0, .int .i64 0, .slice none 0 0] 25)] := hS3; have hW3 := hS3.rd 1 rfl; clear hS2) | ((first | (with_reducible refine wpList_idxG ByteArray.empty E_strs F_str cStr1 wU wU (hW1) (HLL.out) oD oD (fun _ => wU) wU (fun _ => wU) (fun _ => ?_)) | (with_reducible refine wpList_idxN _ ByteArray.empty E_strs F_str cStr1 wU wU (hW1) (HLL.out) oD oD (fun _ => wU) (fun _ => ?_))); first | rw [A0.out] | rw [A1.out] | rw [A2.out] | rw [A3.out]) | ((first | (with_reducible refine wpList_idxG ByteArray.empty E_strs F_str cStr1 wU wU (hW2) (HLL.out) oD oD (fun _ => wU) wU (fun _ => wU) (fun _ => ?_)) | (with_reducible refine wpList_idxN _ ByteArray.empty E_strs F_str cStr1 wU wU (hW2) (HLL.out) oD oD (fun _ => wU) (fun _ => ?_))); first | rw [A0.out] | rw [A1.out] | rw [A2.out] | rw [A3.out]) | ((first | (with_reducible refine wpList_idxG ByteArray.empty E_strs F_str cStr1 wU wU (hW3) (HLL.out) oD oD (fun _ => wU) wU (fun _ => wU) (fun _ => ?_)) | (with_reducible refine wpList_idxN _ ByteArray.empty E_strs F_str cStr1 wU wU (hW3) (HLL.out) oD oD (fun _ => wU) (fun _ => ?_))); first | rw [A0.out] | rw [A1.out] | rw [A2.out] | rw [A3.out]))
        refine (HI.out _).mono ?_
        rintro e w' ⟨n, rfl, hnn, rfl⟩
        have hn2 := hnn ng rfl
        subst hn2
        clear hnn
        go_wp2_with (first | ((with_reducible refine wpList_stoFi 0 wU wU hS3 rfl rfl ?_); intro w5 hS4; have hS4 : SL w.heap.size w w5 [pBlk w1.heap.size (.cells #[.bool true, .int .i64 ng, .int .i64 (-1), .slice none 0 0] 25), pOwn cStr 1 9 (.slice aw 4 cw) LB, pBlk w.heap.size (.cells #[.bool false, .int .i64 0, .int .i64 0, .slice none 0 0] 25)] := hS4; have hW4 := hS4.rd 1 rfl; have q4 := (hS4.blk 0 rfl).1; clear hS3) | ((first | (with_reducible refine wpList_idxG ByteArray.empty E_strs F_str cStr1 wU wU (hW4) (HLL.out) oD oD (fun _ => wU) wU (fun _ => wU) (fun _ => ?_)) | (with_reducible refine wpList_idxN _ ByteArray.empty E_strs F_str cStr1 wU wU (hW4) (HLL.out) oD oD (fun _ => wU) (fun _ => ?_))); first | rw [A0.out] | rw [A1.out] | rw [A2.out] | rw [A3.out]))
        refine (HC2.out _).mono ?_
        rintro e w6 ⟨v6, rfl, ho6, b6⟩
        have hS6 := hS4.call (SL.ofOwn ho6 b6)
        simp only [List.cons_append, List.nil_append] at hS6
        clear ho6 b6
        obtain ⟨a3, c3, rfl, _⟩ := hS6.slice 0 rfl
        rw [HM2.out] at hS6 ⊢
        obtain ⟨b5, hb5⟩ : ∃ b5, b5 = w1.heap.size := ⟨_, rfl⟩
        have hS7 := (hS6.nilS (α := Int) (c := cInt) (sz := 1) (e := 3) cIntS).pick [2, 0, 4, 1] (by decide) [pBlk b5 (.cells #[.bool true, .int .i64 ng, .int .i64 (-1), .slice none 0 0] 25), pOwn cInt 1 3 (.slice none 0 0) [], pBlk w.heap.size (.cells #[.bool false, .int .i64 0, .int .i64 0, .slice none 0 0] 25), pOwn cStr 1 9 (.slice a3 L2.length c3) (L2.map bT)] (by rw [hb5]; rfl)
        rw [← hb5]
        clear hb5 hS6 hS4 hW4 q4 hW1 hW2 hW3 hS1 HCS2 HI HC2
        go_wp2_with fail
        go_loopw [8, 9, 10] (fun iv nv fv wr => ∃ (k : Nat) (vals : List Int) (sv : Value), k ≤ L2.length ∧ iv = .int .i64 k ∧ vals.length = k ∧ intsL (L2.take k) = some vals ∧ SL w.heap.size w wr [pBlk b5 (.cells #[.bool true, .int .i64 ng, .int .i64 (-1), sv] 25), pOwn cInt 1 3 sv vals, pBlk w.heap.size (.cells #[.bool false, .int .i64 0, .int .i64 0, .slice none 0 0] 25), pOwn cStr 1 9 (.slice a3 L2.length c3) (L2.map bT)]) (fun iv _ _ _ => L2.length - (intOf iv).toNat)
        case atStart => exact ⟨0, [], .slice none 0 0, by omega, rfl, rfl, rfl, hS7⟩
        case round =>
         clear hS7
         obtain ⟨k, vals, sv, hk, rfl, hvl, hvs, hSr⟩ := hrel
         have HVL := hid hvl; have HVS := hid hvs
         clear hvl hvs
         obtain ⟨av, cv, rfl, hvR⟩ := hSr.slice 1 rfl
         by_cases hlt : k < L2.length
         ·have hat := atD_mapT L2 k hlt
          have hmem : atD [] L2 k ∈ L2 := by simp [atD, hlt]
          have htk : L2.take (k + 1) = L2.take k ++ [atD [] L2 k] := by rw [List.take_succ_eq_append_getElem hlt]; simp [atD, hlt]
          have CX := fun w => HCX.out (atD [] L2 k) w hmem
          have hno : intL (atD [] L2 k) = none → intsL L2 = none := fun h => by
           have h1 := intsL_isSome L2
           cases h2 : intsL L2 with
           | none => rfl
           | some v =>
            rw [h2] at h1
            have h3 := List.all_eq_true.1 h1.symm _ hmem
            unfold okT at h3
            rw [h] at h3
            cases h3
          obtain ⟨x, hx⟩ : ∃ x, x = atD [] L2 k := ⟨_, rfl⟩
          rw [← hx] at hat htk CX hno
          obtain ⟨xb, hxb⟩ : ∃ xb, xb = bT x := ⟨_, rfl⟩
          rw [← hxb] at hat CX
          have HAT := hid hat; have HTK := hid htk
          clear hat hmem htk hx hxb hvR
          have hVr := hSr.rd 3 rfl
          have hv9 : vals.length ≤ 4097 := by rw [HVL.out]; omega
          cases hix : intL x with
          | none =>
           rw [hix] at CX
           have hR2 : R = (noM, 25) := by rw [HR.out, hno hix]
           have HX := hid CX; have HR2 := hid hR2
           clear CX hix hno hR2
           go_wp2_with ((with_reducible refine wpList_idxN _ ByteArray.empty E_strs F_str cStr1 wU wU (hVr) (HM2.out) oD oD (fun _ => wU) (fun _ => ?_)); rw [HAT.out])
           refine (HX.out _).mono ?_
           rintro e w8 ⟨nx, rfl, -, rfl⟩
           go_wp2_with ((with_reducible refine wpList_stoR (us := #[.bool false, .int .i64 0, .int .i64 0, .slice none 0 0]) 2 wU wU (hSr) wU kR wU wU ?_); intro w9 hS9)
           exact bodyPost_ret (results_cellSlot rfl rfl rfl A_rmach kR (hS9.blk 2 rfl).1) rfl (by rw [HR2.out]; exact RetMac.none (S := hS9.empty) rfl)
          | some nx =>
           rw [hix] at CX
           have HX := hid CX; have HIX := hid hix
           clear CX hix hno
           go_wp2_with ((with_reducible refine wpList_idxN _ ByteArray.empty E_strs F_str cStr1 wU wU (hVr) (HM2.out) oD oD (fun _ => wU) (fun _ => ?_)); rw [HAT.out])
           refine (HX.out _).mono ?_
           rintro e w8 ⟨ny, rfl, hny, rfl⟩
           have hny2 := hny nx rfl
           subst hny2
           clear hny
           have q5 := (hSr.blk 0 rfl).1
           go_wp2_with (first | (with_reducible refine wpList_ldB F_sliceM wU wU q5 wU ?_) | (((with_reducible refine wpList_pushL (y := (nx : Int)) 1 E_ints wU wU (hSr) wU cIntO ⟨rfl, rfl⟩ (by first | with_unfolding_all rfl | simp) wU (by first | omega | (simp; omega)) (by first | omega | (simp; omega)) ?_); intro v9 w9 hS9); obtain ⟨a9, c9, rfl, _⟩ := hS9.slice 1 rfl) | ((with_reducible refine wpList_stoF 0 wU wU hS9 rfl rfl ?_); intro w10 hS10))
           have eL : (vals ++ [(nx : Int)]).length = vals.length + 1 := by simp
           have hS11 := hS10
           simp only [eL] at hS11
           refine ⟨⟨k + 1, vals ++ [(nx : Int)], .slice a9 (vals.length + 1) c9, by omega, by go_num, by rw [eL, HVL.out], by rw [HTK.out]; exact intsL_snoc HVS.out HIX.out, hS11⟩, by simp [intOf]; omega⟩
         ·have hkk : k = L2.length := by omega
          have htl : L2.take k = L2 := List.take_of_length_le (by omega)
          have hvs := HVS.out
          rw [htl] at hvs
          have hR2 : R = (if macE ⟨true, (ng : Int), (-1), vals⟩ ≠ 0 then (noM, macE ⟨true, (ng : Int), (-1), vals⟩) else (⟨true, (ng : Int), (-1), vals⟩, 0)) := by rw [HR.out, hvs]
          have CK := fun w h => rCheckMachine_any ⟨true, (ng : Int), (-1), vals⟩ av cv w h
          obtain ⟨E, hE⟩ : ∃ E, E = macE ⟨true, (ng : Int), (-1), vals⟩ := ⟨_, rfl⟩
          rw [← hE] at CK hR2
          have HK := hid CK
          have q7 := (hSr.blk 0 rfl).1
          clear CK hE hvs HVS htl hkk
          by_cases he : E = 0
          ·subst he
           rw [if_neg (by decide)] at hR2
           have HR2 := hid hR2
           clear hR2
           go_wp2_with (with_reducible refine wpList_ldS (n := 4) (us := #[.bool true, .int .i64 ng, .int .i64 (-1), .slice av vals.length cv]) A_rmach kR wU wU (by assumption) wU wU ?_)
           refine (HK.out _ hvR).mono ?_
           rintro e w8 ⟨rfl, b8⟩
           have hS8 := hSr.mono b8
           have q8 := (hS8.blk 0 rfl).1
           clear q7
           go_wp2_with (first | (with_reducible refine wpList_ldS (n := 4) (us := #[.bool true, .int .i64 ng, .int .i64 (-1), .slice av vals.length cv]) A_rmach kR wU wU (by assumption) wU wU ?_) | ((with_reducible refine wpList_stoR (us := #[.bool true, .int .i64 ng, .int .i64 (-1), .slice av vals.length cv]) 2 wU wU (hS8) wU kR wU wU ?_); intro w9 hS9))
           exact bodyPost_ret (results_cellSlot rfl rfl rfl A_rmach kR (hS9.blk 2 rfl).1) rfl (by rw [HR2.out]; exact ⟨av, cv, rfl, hS9.one 1 rfl⟩)
          ·rw [if_pos he] at hR2
           have HR2 := hid hR2
           clear hR2
           have hne : (E != 0) = true := by simpa using he
           go_wp2_with (with_reducible refine wpList_ldS (n := 4) (us := #[.bool true, .int .i64 ng, .int .i64 (-1), .slice av vals.length cv]) A_rmach kR wU wU (by assumption) wU wU ?_)
           refine (HK.out _ hvR).mono ?_
           rintro e w8 ⟨rfl, b8⟩
           have hS8 := hSr.mono b8
           clear q7
           go_wp2_with ((with_reducible refine wpList_stoR (us := #[.bool false, .int .i64 0, .int .i64 0, .slice none 0 0]) 2 wU wU (hS8) wU kR wU wU ?_); intro w9 hS9)
           exact bodyPost_ret (results_cellSlot rfl rfl rfl A_rmach kR (hS9.blk 2 rfl).1) rfl (by rw [HR2.out]; exact RetMac.none (S := hS9.empty) rfl)
     ·rw [decide_eq_false ht4] at e4
      have hg : parseGo [k, g, t, w4] = (noM, 25) := by show (if _ then _ else _) = _; rw [if_pos (.inr ⟨ht3, ht4⟩)]
      rw [hg]
      clear hg hLB hK hT hk ht3 ht4
      go_enter Tryz.func34, Tryz.ntmps34
      go_wp2_with fail
      refine (HCS2.out _).mono ?_
      rintro e w1 ⟨v1, rfl, ho1, b1⟩
      have hS1 := hS.call (SL.ofOwn ho1 b1)
      simp only [List.cons_append, List.nil_append] at hS1
      clear ho1 b1
      obtain ⟨aw, cw, rfl, _⟩ := hS1.slice 0 rfl
      rw [HLL.out] at hS1 ⊢
      have hW1 := hS1.rd 0 rfl
      go_wp2_with (first | ((first | (with_reducible refine wpList_idxG ByteArray.empty E_strs F_str cStr1 wU wU (hW1) (HLL.out) oD oD (fun _ => wU) wU (fun _ => wU) (fun _ => ?_)) | (with_reducible refine wpList_idxN _ ByteArray.empty E_strs F_str cStr1 wU wU (hW1) (HLL.out) oD oD (fun _ => wU) (fun _ => ?_))); first | rw [A0.out] | rw [A1.out] | rw [A2.out] | rw [A3.out]) | ((with_reducible refine wpList_stoR (us := #[.bool false, .int .i64 0, .int .i64 0, .slice none 0 0]) 1 wU wU (hS1) wU kR wU wU ?_); intro w2 hS2))
      exact bodyPost_ret (results_cellSlot rfl rfl rfl A_rmach kR (hS2.blk 1 rfl).1) rfl (RetMac.none (S := hS2.empty) rfl)
   ·rw [decide_eq_false hk2] at e2
    have hg : parseGo [k, g, t, w4] = (noM, 25) := by show (if _ then _ else _) = _; rw [if_pos (.inl ⟨hk1, hk2⟩)]
    rw [hg]
    clear hg hLB hK hT hk1 hk2
    go_enter Tryz.func34, Tryz.ntmps34
    go_wp2_with fail
    refine (HCS2.out _).mono ?_
    rintro e w1 ⟨v1, rfl, ho1, b1⟩
    have hS1 := hS.call (SL.ofOwn ho1 b1)
    simp only [List.cons_append, List.nil_append] at hS1
    clear ho1 b1
    obtain ⟨aw, cw, rfl, _⟩ := hS1.slice 0 rfl
    rw [HLL.out] at hS1 ⊢
    have hW1 := hS1.rd 0 rfl
    go_wp2_with (first | ((first | (with_reducible refine wpList_idxG ByteArray.empty E_strs F_str cStr1 wU wU (hW1) (HLL.out) oD oD (fun _ => wU) wU (fun _ => wU) (fun _ => ?_)) | (with_reducible refine wpList_idxN _ ByteArray.empty E_strs F_str cStr1 wU wU (hW1) (HLL.out) oD oD (fun _ => wU) (fun _ => ?_))); first | rw [A0.out] | rw [A1.out] | rw [A2.out] | rw [A3.out]) | ((with_reducible refine wpList_stoR (us := #[.bool false, .int .i64 0, .int .i64 0, .slice none 0 0]) 1 wU wU (hS1) wU kR wU wU ?_); intro w2 hS2))
    exact bodyPost_ret (results_cellSlot rfl rfl rfl A_rmach kR (hS2.blk 1 rfl).1) rfl (RetMac.none (S := hS2.empty) rfl)
 ·have hg := parseGo_len h4
  rw [hg]
  have hd : ((L.length : Int) != 4) = true := by simp; omega
  have HML := hid hml
  clear hg h4 hml HLS hLn
  go_enter Tryz.func34, Tryz.ntmps34
  go_wp2_with fail
  refine (HCS.out _).mono ?_
  rintro e w1 ⟨v1, rfl, ho1, b1⟩
  have hS1 := hS.call (SL.ofOwn ho1 b1)
  simp only [List.cons_append, List.nil_append] at hS1
  clear ho1 b1
  obtain ⟨aw, cw, rfl, _⟩ := hS1.slice 0 rfl
  rw [HML.out] at hS1 ⊢
  go_wp2_with ((with_reducible refine wpList_stoR (us := #[.bool false, .int .i64 0, .int .i64 0, .slice none 0 0]) 1 wU wU (hS1) wU kR wU wU ?_); intro w2 hS2)
  exact bodyPost_ret (results_cellSlot rfl rfl rfl A_rmach kR (hS2.blk 1 rfl).1) rfl (RetMac.none (S := hS2.empty) rfl)
end Go.Proofs.YtoebgfgihfjnnaaGreatDoor
