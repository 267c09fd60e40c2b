/- Contracts and plain facts that the claim uses (MbK). Conditions: as each one states. -/
import Derived.Shelf.Strings.Trim
import Derived.Shelf.Strings.SlTrimAscii
import Derived.Shelf.Strings.Repeat
import Derived.Shelf.Strings.OnBuilder
import Derived.Shelf.Strconv.Itoa1
import Derived.Shelf.Strconv.Itoa3
import Derived.Shelf.LaysM
import Derived.Ground.Names2Prog
import Derived.Test.YtndmeaoidihikaaGreatDoorProg
import Derived.WalkKit
import Derived.WalkSpells
import Derived.Maps.AppendAt
import Derived.Deep.Quiet
import Derived.Maps.Own
import Derived.Maps.OwnSet
import Derived.Maps.Views
import Derived.WalkLawsBesides
import Derived.Laws.EntriesVeiled
import Derived.Deep.QuietTactic
import Derived.BigQuiet
import Derived.Lib.OthersKept
import Derived.Deep.RegionHeld3
import Derived.Deep.AppendLies
import Derived.Deep.RegionHeldLaw
import Derived.Deep.RegionLaw
import Derived.Lib.ItoaLen
import Derived.Lib.ItoaMem
import Derived.RangeFuncNested
import Derived.RangeFuncBound
import Derived.RangeFuncCalls
import Derived.RangeFuncLeaves
import Derived.RangeFuncFrom
import Derived.Shelf.Abstract
import Derived.Shelf.RegionOpen
import Derived.OwnWalkIn
import Derived.TacticsInMore
import Derived.LoopNIn
import Derived.LoopIn
import Derived.Deep.LoopGhost
import Derived.Laws.CopyOwn
import Derived.IntWalk
import Derived.Sort.LoopGhostIn
import Derived.StillTail
import Derived.Laws.Tables
import Derived.BigRegion
import Derived.ChangeAlike
import Derived.Shelf.Bits.Mul64
import Derived.Maps.RangeWalk
import Derived.Lib.Split
import Derived.Lib.AtoiAll
import Derived.Shelf.Strconv.ErrVarAll
import Derived.Shelf.Strconv.AtoiAll
import Derived.Shelf.Strings.Cut
import Derived.Shelf.Strings.Split
import Derived.Shelf.Strings.SplitShaped
import Derived.Lib.AppendIntMem
import Derived.Lib.SmallJoins
import Derived.LaidSub
import Derived.Lib.LaidTab
import Derived.Lib.AtoiErrMem
import Derived.Maps.Ext
import Derived.Stop.LaidErr
import Derived.ReadAgain
import Derived.ChangeSlices
import Derived.OpenShut
import Derived.ProofKit
import Derived.Deep.DeepHandedRow
import Derived.Deep.SlicePairs
import Derived.Test.YtndmeaoidihikaaGreatDoorXz01
import Derived.Test.YtndmeaoidihikaaGreatDoorXz02
import Derived.Test.YtndmeaoidihikaaGreatDoorXz03
import Derived.Test.YtndmeaoidihikaaGreatDoorXz04
import Derived.Test.YtndmeaoidihikaaGreatDoorXz05
import Derived.Test.YtndmeaoidihikaaGreatDoorXz06
import Derived.Test.YtndmeaoidihikaaGreatDoorXz07
import Derived.Test.YtndmeaoidihikaaGreatDoorXz08
import Derived.Test.YtndmeaoidihikaaGreatDoorXz09
import Derived.Test.YtndmeaoidihikaaGreatDoorXz10
set_option linter.all false

namespace Go.Proofs.YtndmeaoidihikaaGreatDoor
open Go.RowKit
set_option maxHeartbeats 8000000
set_option maxRecDepth 100000

theorem RetMac.none {W w' : World} {e : Int} {r : Ending} {S : SL W.heap.size W w' []} (h : r = .returned (.tuple #[.agg #[.bool false, .int .i64 0, .int .i64 0, .slice none 0 0], .int .i64 e])) : RetMac W noM e r w' :=
 ⟨.none, 0, h, (S.nilS (α := Int) (c := cInt) (sz := 1) (e := 3) cIntS)⟩

theorem splitS_any (S : List UInt8) (w : World) (hw : LibW w) (hz : S.length ≤ 1048576) :
  Calls Tryz.prog 80 #[.string (bT S), .string ⟨#[32]⟩] w fun e w' => ∃ a, e = .returned (.slice a (spl 32 S).length (spl 32 S).length) ∧ Strs w' a (spl 32 S).length ((spl 32 S).map bT) ∧ Below w.heap.size w w' ∧ (∀ b, a = some b → w.heap.size ≤ b.block) := by
 obtain ⟨m, hm⟩ := hw.max
 have hc := Tryz.strings_Split (bT S) ⟨#[32]⟩ m w (by rw [bT_size]; omega) hm (by decide)
 have hl : Lib.countB (bT S) ⟨#[32]⟩ + 1 = (spl 32 S).length := by
  have := Lib.splitB_all ⟨#[32]⟩ (by decide) 0 _ (bT S) rfl
  rw [splitB_spl, List.length_map] at this
  exact this.symm
 rw [splitB_spl, hl] at hc
 have hlen := splR_len 32 S []
 refine hc.mono ?_
 rintro e w' ⟨rfl, rfl⟩
 refine ⟨_, rfl, reps_newN cStrS ((spl 32 S).map bT) _ (by simp) (by unfold maxLen; unfold spl; omega) _ _ rfl ?_, bal (Below.refl _ _) _, fun b e => by cases e; exact Nat.le_refl _⟩
 simp only [List.map_map]
 rw [List.flatMap_map]
 generalize spl 32 S = L
 induction L with
 | nil => rfl
 | cons x r ih => rw [List.map_cons, List.flatMap_cons, ← ih]; rfl
section
variable {ops : Array Oper} {rest : List Oper} {a : Act} {Q : Exit → Act → World → Prop} {w0 w : World} {L : List Pc} {B : Nat} {ty : TypeId} {p : String} {af : Array Edge}
theorem wpList_stoFi {x y : Operand} {k o : Nat} {v : Int} {cs : Array Value} {T : TypeId} (i : Nat) {u : Value} (hx : a.eval x = .pointer (some ⟨k, o, none⟩)) (hy : a.eval y = .int .i64 v) (hS : SL B w0 w L) (hi : L[i]? = some (pBlk k (.cells cs T (0, 0)))) (ho : cs[o]? = some u)
  (hK : ∀ w', SL B w0 w' (L.set i (pBlk k (.cells (cs.setIfInBounds o (.int .i64 v)) T (0, 0)))) → wpList Tryz.prog ops Q rest (a.put none undef) w') :
  wpList Tryz.prog ops Q (⟨none, .store 3 x y, ty, p, af, none⟩ :: rest) a w := by
 have h1 := hS.cell i hi o ho
 have h2 := hS.frozen i hi o
 have h3 := hS.set i hi o (.int .i64 v)
 refine wpList_plain rfl fun K hK' => ?_
 have hs : (Instr.storeAt 3 (.pointer (some ⟨k, o, none⟩)) (.int .i64 v)).run Tryz.prog w = .ok () (w.setCell ⟨k, o, none⟩ (.int .i64 v)) := by
  simp [go_sem, h1, h2]
 unfold Oper.wp
 simp only [execOp, hx, hy]
 simp [hs, Result.andThen]
 exact hK' _ _ (hK _ h3)
end

theorem mParse_any (S : List UInt8) (w : World) (hw : LibW w) (hz : S.length ≤ 1048576) :
  Calls Tryz.prog 36 #[.string (bT S)] w fun r w' => RetMac w (parseMB S).1 (parseMB S).2 r w' := by
 have hsz := bT_size S
 have hS := (SL.nil w).box (.cells #[.bool false, .int .i64 0, .int .i64 0, .slice none 0 0] 24)
 by_cases h1 : 4096 < S.length
 ·have hP : parseMB S = (noM, 26) := by unfold parseMB; rw [if_pos h1]
  rw [hP]
  obtain ⟨s, hs⟩ : ∃ s, s = bT S := ⟨_, rfl⟩
  rw [← hs] at hsz ⊢
  have hb : 4096 < s.size := by omega
  clear hP hs hsz
  go_enter Tryz.func36, Tryz.ntmps36
  go_wp2_with ((with_reducible refine wpList_stoR (us := #[.bool false, .int .i64 0, .int .i64 0, .slice none 0 0]) 0 wU wU (hS) wU kR wU wU ?_); intro w1 hS1)
  exact bodyPost_ret (results_cellSlot rfl rfl rfl A_mach kR (hS1.blk 0 rfl).1) rfl (RetMac.none (S := hS1.tail) rfl)
 have hP : parseMB S = parseGo (spl 32 S) := by unfold parseMB; rw [if_neg h1]
 rw [hP]
 have hLn := splR_len 32 S []
 have hLs := spl_sum 32 S []
 have CS := fun w hw => splitS_any S w hw hz
 obtain ⟨L, hL⟩ : ∃ L, L = spl 32 S := ⟨_, rfl⟩
 rw [show splR 32 [] S = L from hL.symm] at hLn hLs
 rw [← hL] at CS ⊢
 obtain ⟨s, hs⟩ : ∃ s, s = bT S := ⟨_, rfl⟩
 rw [← hs] at CS hsz ⊢
 have hsz2 : s.size ≤ 4096 := by omega
 have hsz3 : ¬ 4096 < s.size := by omega
 have hLn2 : L.length ≤ 4097 := by omega
 have HCS := hid CS; have HLS := hid hLs
 have hml : (L.map bT).length = L.length := by simp
 have h1 : S.length ≤ 4096 := by omega
 clear CS hLs hL hs hsz hP
 by_cases h4 : L.length = 4
 ·obtain ⟨k, g, t, w4, rfl⟩ := four_of h4
  obtain ⟨LB, hLB⟩ : ∃ LB, LB = [k, g, t, w4].map bT := ⟨_, rfl⟩
  have a0 : atD ByteArray.empty LB 0 = bT k := by rw [hLB]; rfl
  have a1 : atD ByteArray.empty LB 1 = bT g := by rw [hLB]; rfl
  have a2 : atD ByteArray.empty LB 2 = bT t := by rw [hLB]; rfl
  have a3 : atD ByteArray.empty LB 3 = bT w4 := by rw [hLB]; rfl
  have hLBl : LB.length = 4 := by rw [hLB]; rfl
  have hwl := HLS.out w4 (by simp)
  have hgl := HLS.out g (by simp)
  have hS96 : S.length ≤ 4096 := by omega
  simp only [List.length_nil, Nat.zero_add] at hwl hgl
  have hCS := HCS.out
  rw [← hLB] at hCS
  have HCS2 := hid hCS
  have e1 : ((bT k).toList == [114, 111, 119]) = decide (k = rowT) := eqT2 k rowT
  have e2 : ((bT k).toList == [114, 105, 110, 103]) = decide (k = ringT) := eqT2 k ringT
  have e3 := eqT2 t [43]
  have e4 := eqT2 t [45]
  obtain ⟨K, hK⟩ : ∃ K, K = bT k := ⟨_, rfl⟩
  obtain ⟨T, hT⟩ : ∃ T, T = bT t := ⟨_, rfl⟩
  rw [← hK] at a0 e1 e2
  rw [← hT] at a2 e3 e4
  have A0 := hid a0; have A1 := hid a1; have A2 := hid a2; have A3 := hid a3; have HLL := hid hLBl
  clear a0 a1 a2 a3 hLBl hCS HCS h4 hml HLS hLn2 hLn
  by_cases hk1 : k = rowT
  ·rw [decide_eq_true hk1] at e1
   have hk2 : k ≠ ringT := by rw [hk1]; decide
   rw [decide_eq_false hk2] at e2
   have hk := hk1
   clear hk1 hk2
   by_cases ht3 : t = [43]
   ·rw [decide_eq_true ht3] at e3
    have ht4 : t ≠ [45] := by rw [ht3]; decide
    rw [decide_eq_false ht4] at e4
    have ht := ht3
    clear ht3 ht4
    have hpg : parseGo [k, g, t, w4] = (match intL g, placesL w4 with
      | some n, some l => if macE ⟨false, n, 1, l⟩ ≠ 0 then (noM, macE ⟨false, n, 1, l⟩) else (⟨false, n, 1, l⟩, 0)
      | _, _ => (noM, 25)) := by
     rw [hk, ht]; rfl
    rw [hpg]
    have CD := fun w hw => mdecimal_any g w hw (by omega)
    have e5 : ((bT w4).toList == [110, 111, 110, 101]) = decide (w4 = noneT) := eqT2 w4 noneT
    have CC := fun w hw => splitC_any w4 w hw (by omega)
    obtain ⟨G, hG⟩ : ∃ G, G = bT g := ⟨_, rfl⟩
    obtain ⟨X, hX⟩ : ∃ X, X = bT w4 := ⟨_, rfl⟩
    rw [← hG] at A1 CD
    rw [← hX] at A3 e5 CC
    have HCD := hid CD; have HCC := hid CC
    clear CD CC hG hX hpg hLB hK hT hk ht
    by_cases hn : w4 = noneT
    ·have hpl : placesL w4 = some [] := by unfold placesL; rw [if_pos hn]
     rw [decide_eq_true hn] at e5
     rw [hpl]
     clear hpl hn
     cases hi : intL g with
     | none =>
      have hD := HCD.out
      rw [hi] at hD
      have HD := hid hD
      clear hD hi
      go_enter Tryz.func36, Tryz.ntmps36
      go_wp2_with fail
      refine (HCS2.out _ (hw.below hS.b)).mono ?_
      rintro e w1 ⟨aw, rfl, hW, b1, hfr0⟩
      have hS1 := hS.mono b1
      have hw1 := hw.below hS1.b
      go_wp2_with ((with_reducible refine wpList_idxG ByteArray.empty E_strs F_str cStr1 wU wU (hW) (HLL.out) oD oD (fun _ => wU) wU (fun _ => wU) (fun _ => ?_)); first | rw [A0.out] | rw [A1.out] | rw [A2.out] | rw [A3.out])
      refine (HD.out _ hw1).mono ?_
      rintro e w2 ⟨n, rfl, hnn, b2⟩
      clear hnn
      have hS2 := hS1.mono b2
      have hW2 := hW.below b2
      have hSm := hS2.box (.cells #[.bool false, .int .i64 n, .int .i64 1, .slice none 0 0] 24)
      have hW3 := hW2.alloc (.cells #[.bool false, .int .i64 n, .int .i64 1, .slice none 0 0] 24)
      go_wp2_with (first | ((with_reducible refine wpList_idxG ByteArray.empty E_strs F_str cStr1 wU wU (hW2) (HLL.out) oD oD (fun _ => wU) wU (fun _ => wU) (fun _ => ?_)); first | rw [A0.out] | rw [A1.out] | rw [A2.out] | rw [A3.out]) | ((with_reducible refine wpList_idxG ByteArray.empty E_strs F_str cStr1 wU wU (hW3) (HLL.out) oD oD (fun _ => wU) wU (fun _ => wU) (fun _ => ?_)); first | rw [A0.out] | rw [A1.out] | rw [A2.out] | rw [A3.out]) | ((with_reducible refine wpList_stoR (us := #[.bool false, .int .i64 0, .int .i64 0, .slice none 0 0]) 1 wU wU (hSm) wU kR wU wU ?_); intro w5 hS5))
      exact bodyPost_ret (results_cellSlot rfl rfl rfl A_mach kR (hS5.blk 1 rfl).1) rfl (RetMac.none (S := hS5.empty) rfl)
     | some ng =>
      have hb9 := (intL_canon hi).2.2.2.2.2
      have hD := HCD.out
      rw [hi] at hD
      have HD := hid hD
      clear hD hi
      simp only []
      have CK := fun w h => CheckMachine_any ⟨false, (ng : Int), 1, []⟩ none 0 w h (by show InI (ng : Int); unfold InI; omega)
      obtain ⟨E, hE⟩ : ∃ E, E = macE ⟨false, (ng : Int), 1, []⟩ := ⟨_, rfl⟩
      rw [← hE] at CK ⊢
      have HK := hid CK
      clear CK hE hb9
      by_cases he : E = 0
      ·subst he
       rw [if_neg (by decide)]
       go_enter Tryz.func36, Tryz.ntmps36
       go_wp2_with fail
       refine (HCS2.out _ (hw.below hS.b)).mono ?_
       rintro e w1 ⟨aw, rfl, hW, b1, hfr0⟩
       have hS1 := hS.mono b1
       have hw1 := hw.below hS1.b
       go_wp2_with ((with_reducible refine wpList_idxG ByteArray.empty E_strs F_str cStr1 wU wU (hW) (HLL.out) oD oD (fun _ => wU) wU (fun _ => wU) (fun _ => ?_)); first | rw [A0.out] | rw [A1.out] | rw [A2.out] | rw [A3.out])
       refine (HD.out _ hw1).mono ?_
       rintro e w2 ⟨n, rfl, hnn, b2⟩
       have hn2 := hnn ng rfl
       subst hn2
       clear hnn
       have hS2 := hS1.mono b2
       have hW2 := hW.below b2
       have hSm := hS2.box (.cells #[.bool false, .int .i64 ng, .int .i64 1, .slice none 0 0] 24)
       have hW3 := hW2.alloc (.cells #[.bool false, .int .i64 ng, .int .i64 1, .slice none 0 0] 24)
       have q7 := (hSm.blk 0 rfl).1
       go_wp2_with (first | ((with_reducible refine wpList_idxG ByteArray.empty E_strs F_str cStr1 wU wU (hW2) (HLL.out) oD oD (fun _ => wU) wU (fun _ => wU) (fun _ => ?_)); first | rw [A0.out] | rw [A1.out] | rw [A2.out] | rw [A3.out]) | ((with_reducible refine wpList_idxG ByteArray.empty E_strs F_str cStr1 wU wU (hW3) (HLL.out) oD oD (fun _ => wU) wU (fun _ => wU) (fun _ => ?_)); first | rw [A0.out] | rw [A1.out] | rw [A2.out] | rw [A3.out]) | (with_reducible refine wpList_ldS (n := 4) (us := #[.bool false, .int .i64 ng, .int .i64 1, .slice none 0 0]) A_mach kR wU wU (by assumption) wU wU ?_))
       refine (HK.out _ (ints_nil _)).mono ?_
       rintro e w5 ⟨rfl, b5⟩
       have hS5 := hSm.mono b5
       have q8 := (hS5.blk 0 rfl).1
       clear q7
       go_wp2_with (first | (with_reducible refine wpList_ldS (n := 4) (us := #[.bool false, .int .i64 ng, .int .i64 1, .slice none 0 0]) A_mach kR wU wU (by assumption) wU wU ?_) | ((with_reducible refine wpList_stoR (us := #[.bool false, .int .i64 ng, .int .i64 1, .slice none 0 0]) 1 wU wU (hS5) wU kR wU wU ?_); intro w6 hS6))
       exact bodyPost_ret (results_cellSlot rfl rfl rfl A_mach kR (hS6.blk 1 rfl).1) rfl ⟨none, 0, rfl, hS6.empty.nilS (α := Int) (c := cInt) (sz := 1) (e := 3) cIntS⟩
      ·rw [if_pos he]
       have hne : (E != 0) = true := by simpa using he
       go_enter Tryz.func36, Tryz.ntmps36
       go_wp2_with fail
       refine (HCS2.out _ (hw.below hS.b)).mono ?_
       rintro e w1 ⟨aw, rfl, hW, b1, hfr0⟩
       have hS1 := hS.mono b1
       have hw1 := hw.below hS1.b
       go_wp2_with ((with_reducible refine wpList_idxG ByteArray.empty E_strs F_str cStr1 wU wU (hW) (HLL.out) oD oD (fun _ => wU) wU (fun _ => wU) (fun _ => ?_)); first | rw [A0.out] | rw [A1.out] | rw [A2.out] | rw [A3.out])
       refine (HD.out _ hw1).mono ?_
       rintro e w2 ⟨n, rfl, hnn, b2⟩
       have hn2 := hnn ng rfl
       subst hn2
       clear hnn
       have hS2 := hS1.mono b2
       have hW2 := hW.below b2
       have hSm := hS2.box (.cells #[.bool false, .int .i64 ng, .int .i64 1, .slice none 0 0] 24)
       have hW3 := hW2.alloc (.cells #[.bool false, .int .i64 ng, .int .i64 1, .slice none 0 0] 24)
       have q7 := (hSm.blk 0 rfl).1
       go_wp2_with (first | ((with_reducible refine wpList_idxG ByteArray.empty E_strs F_str cStr1 wU wU (hW2) (HLL.out) oD oD (fun _ => wU) wU (fun _ => wU) (fun _ => ?_)); first | rw [A0.out] | rw [A1.out] | rw [A2.out] | rw [A3.out]) | ((with_reducible refine wpList_idxG ByteArray.empty E_strs F_str cStr1 wU wU (hW3) (HLL.out) oD oD (fun _ => wU) wU (fun _ => wU) (fun _ => ?_)); first | rw [A0.out] | rw [A1.out] | rw [A2.out] | rw [A3.out]) | (with_reducible refine wpList_ldS (n := 4) (us := #[.bool false, .int .i64 ng, .int .i64 1, .slice none 0 0]) A_mach kR wU wU (by assumption) wU wU ?_))
       refine (HK.out _ (ints_nil _)).mono ?_
       rintro e w5 ⟨rfl, b5⟩
       have hS5 := hSm.mono b5
       clear q7
       go_wp2_with ((with_reducible refine wpList_stoR (us := #[.bool false, .int .i64 0, .int .i64 0, .slice none 0 0]) 1 wU wU (hS5) wU kR wU wU ?_); intro w6 hS6)
       exact bodyPost_ret (results_cellSlot rfl rfl rfl A_mach kR (hS6.blk 1 rfl).1) rfl (RetMac.none (S := hS6.empty) rfl)
    ·rw [decide_eq_false hn] at e5
     have hpl : placesL w4 = intsL (spl 44 w4) := by unfold placesL; rw [if_neg hn]
     rw [hpl]
     have hl2 := splR_len 44 w4 []
     have hs2 := spl_sum 44 w4 []
     have hC2 := HCC.out
     obtain ⟨L2, hL2⟩ : ∃ L2, L2 = spl 44 w4 := ⟨_, rfl⟩
     rw [show splR 44 [] w4 = L2 from hL2.symm] at hl2 hs2
     rw [← hL2] at hC2 ⊢
     have HC2 := hid hC2
     have hM2 : (L2.map bT).length = L2.length := by simp
     have HM2 := hid hM2
     have hl9 : L2.length ≤ 4097 := by omega
     have CX := fun (x : List UInt8) w (hw : LibW w) (h : x ∈ L2) => mdecimal_any x w hw (by have := hs2 x h; simp only [List.length_nil, Nat.zero_add] at this; omega)
     have HCX := hid CX
     clear hpl hn hL2 hC2 hM2 hl2 hs2 CX HCC
     cases hi : intL g with
     | none =>
      have hD := HCD.out
      rw [hi] at hD
      have HD := hid hD
      have hres : (match (none : Option Nat), intsL L2 with | some n, some l => if macE ⟨false, n, 1, l⟩ ≠ 0 then (noM, macE ⟨false, n, 1, l⟩) else (⟨false, n, 1, l⟩, 0) | _, _ => (noM, 25)) = ((noM, 25) : MacV × Int) := by cases intsL L2 <;> rfl
      rw [hres]
      clear hD hi hres
      go_enter Tryz.func36, Tryz.ntmps36
      go_wp2_with fail
      refine (HCS2.out _ (hw.below hS.b)).mono ?_
      rintro e w1 ⟨aw, rfl, hW, b1, hfr0⟩
      have hS1 := hS.mono b1
      have hw1 := hw.below hS1.b
      go_wp2_with ((with_reducible refine wpList_idxG ByteArray.empty E_strs F_str cStr1 wU wU (hW) (HLL.out) oD oD (fun _ => wU) wU (fun _ => wU) (fun _ => ?_)); first | rw [A0.out] | rw [A1.out] | rw [A2.out] | rw [A3.out])
      refine (HD.out _ hw1).mono ?_
      rintro e w2 ⟨n, rfl, hnn, b2⟩
      clear hnn
      have hS2 := hS1.mono b2
      have hW2 := hW.below b2
      have hSm := hS2.box (.cells #[.bool false, .int .i64 n, .int .i64 1, .slice none 0 0] 24)
      have hW3 := hW2.alloc (.cells #[.bool false, .int .i64 n, .int .i64 1, .slice none 0 0] 24)
      go_wp2_with (first | ((with_reducible refine wpList_idxG ByteArray.empty E_strs F_str cStr1 wU wU (hW2) (HLL.out) oD oD (fun _ => wU) wU (fun _ => wU) (fun _ => ?_)); first | rw [A0.out] | rw [A1.out] | rw [A2.out] | rw [A3.out]) | ((with_reducible refine wpList_idxG ByteArray.empty E_strs F_str cStr1 wU wU (hW3) (HLL.out) oD oD (fun _ => wU) wU (fun _ => wU) (fun _ => ?_)); first | rw [A0.out] | rw [A1.out] | rw [A2.out] | rw [A3.out]))
      refine (HC2.out _ (hw.below hSm.b)).mono ?_
      rintro e w3 ⟨a3, rfl, hV, b3, hfr⟩
      obtain ⟨b7, hb7⟩ : ∃ b7, b7 = w2.heap.size := ⟨_, rfl⟩
      have hS3 := ((hSm.newRd b3 hV (by decide) hfr).nilS (α := Int) (c := cInt) (sz := 1) (e := 3) cIntS).pick [2, 0, 3, 1] (by decide) [pBlk b7 (.cells #[.bool false, .int .i64 n, .int .i64 1, .slice none 0 0] 24), pOwn cInt 1 3 (.slice none 0 0) [], pBlk w.heap.size (.cells #[.bool false, .int .i64 0, .int .i64 0, .slice none 0 0] 24), pRd cStr 1 a3 L2.length (L2.map bT)] (by rw [hb7]; rfl)
      rw [← hb7]
      clear hb7 hSm hS1 hS2 hW hW2 hW3 hw1 HCS2 HD HC2
      go_wp2_with fail
      go_loopw [74, 6] (fun i okv wr => ∃ (k : Nat) (vals : List Int) (sv : Value), k ≤ L2.length ∧ i = .int .i64 k ∧ okv = .bool (false && (L2.take k).all okT) ∧ vals.length = k ∧ ((L2.take k).all okT = true → intsL (L2.take k) = some vals) ∧ SL w.heap.size w wr [pBlk b7 (.cells #[.bool false, .int .i64 n, .int .i64 1, sv] 24), pOwn cInt 1 3 sv vals, pBlk w.heap.size (.cells #[.bool false, .int .i64 0, .int .i64 0, .slice none 0 0] 24), pRd cStr 1 a3 L2.length (L2.map bT)]) (fun i _ _ => L2.length - (intOf i).toNat)
      case atStart => exact ⟨0, [], .slice none 0 0, by omega, rfl, rfl, rfl, fun _ => rfl, hS3⟩
      case round =>
       clear hS3
       obtain ⟨k, vals, sv, hk, rfl, rfl, hvl, hvs, hSr⟩ := hrel
       have HVL := hid hvl; have HVS := hid hvs
       clear hvl hvs
       by_cases hlt : k < L2.length
       ·have hat := atD_mapT L2 k hlt
        have hmem : atD [] L2 k ∈ L2 := by simp [atD, hlt]
        have htk : L2.take (k + 1) = L2.take k ++ [atD [] L2 k] := by rw [List.take_succ_eq_append_getElem hlt]; simp [atD, hlt]
        have CX := fun w hw => HCX.out (atD [] L2 k) w hw hmem
        obtain ⟨x, hx⟩ : ∃ x, x = atD [] L2 k := ⟨_, rfl⟩
        rw [← hx] at hat htk CX
        obtain ⟨xb, hxb⟩ : ∃ xb, xb = bT x := ⟨_, rfl⟩
        rw [← hxb] at hat CX
        have HAT := hid hat; have HTK := hid htk
        clear hat hmem htk hx hxb
        have hVr := hSr.rdR 3 rfl
        have hwr := hw.below hSr.b
        have hsl := hSr.slice 1 rfl
        obtain ⟨av, cv, rfl, _⟩ := hsl
        have hv9 : vals.length ≤ 4097 := by rw [HVL.out]; omega
        cases hix : intL x with
        | none =>
         rw [hix] at CX
         have HX := hid CX; have HIX := hid hix
         clear CX hix
         cases hbk : (false && (L2.take k).all okT)
         all_goals
          go_wp2_with ((with_reducible refine wpList_idxN _ ByteArray.empty E_strs F_str cStr1 wU wU (hVr) (HM2.out) oD oD (fun _ => wU) (fun _ => ?_)); rw [HAT.out])
          refine (HX.out _ hwr).mono ?_
          rintro e w5 ⟨nx, rfl, -, b5⟩
          have hS5 := hSr.mono b5
          have q5 := (hS5.blk 0 rfl).1
          go_wp2_with (first | (with_reducible refine wpList_ldB F_sliceM wU wU q5 wU ?_) | (((with_reducible refine wpList_pushL (y := nx) 1 E_ints wU wU (hS5) wU cIntO ⟨rfl, rfl⟩ (by first | with_unfolding_all rfl | simp) wU (by first | omega | (simp; omega)) (by first | omega | (simp; omega)) ?_); intro v6 w6 hS6); obtain ⟨a6, c6, rfl, _⟩ := hS6.slice 1 rfl) | ((with_reducible refine wpList_stoF 0 wU wU hS6 rfl rfl ?_); intro w7 hS7))
          have eL : (vals ++ [nx]).length = vals.length + 1 := by simp
          have hS8 := hS7
          simp only [eL] at hS8
          refine ⟨⟨k + 1, vals ++ [nx], .slice a6 (vals.length + 1) c6, by omega, by go_num, congrArg Value.bool (by rw [HTK.out, List.all_append]; simp [okT, HIX.out]), by rw [eL, HVL.out], fun h => ?_, hS8⟩, by simp [intOf]; omega⟩
          rw [HTK.out, List.all_append] at h
          simp [okT, HIX.out] at h
        | some nx =>
         rw [hix] at CX
         have HX := hid CX; have HIX := hid hix
         clear CX hix
         cases hbk : (false && (L2.take k).all okT)
         all_goals
          have HBK := hid hbk
          clear hbk
          go_wp2_with ((with_reducible refine wpList_idxN _ ByteArray.empty E_strs F_str cStr1 wU wU (hVr) (HM2.out) oD oD (fun _ => wU) (fun _ => ?_)); rw [HAT.out])
          refine (HX.out _ hwr).mono ?_
          rintro e w5 ⟨ny, rfl, hny, b5⟩
          have hny2 := hny nx rfl
          subst hny2
          clear hny
          have hS5 := hSr.mono b5
          have q5 := (hS5.blk 0 rfl).1
          go_wp2_with (first | (with_reducible refine wpList_ldB F_sliceM wU wU q5 wU ?_) | (((with_reducible refine wpList_pushL (y := (nx : Int)) 1 E_ints wU wU (hS5) wU cIntO ⟨rfl, rfl⟩ (by first | with_unfolding_all rfl | simp) wU (by first | omega | (simp; omega)) (by first | omega | (simp; omega)) ?_); intro v6 w6 hS6); obtain ⟨a6, c6, rfl, _⟩ := hS6.slice 1 rfl) | ((with_reducible refine wpList_stoF 0 wU wU hS6 rfl rfl ?_); intro w7 hS7))
          have eL : (vals ++ [(nx : Int)]).length = vals.length + 1 := by simp
          have hS8 := hS7
          simp only [eL] at hS8
          refine ⟨⟨k + 1, vals ++ [(nx : Int)], .slice a6 (vals.length + 1) c6, by omega, by go_num, congrArg Value.bool (by first | (have h0 := HBK.out; simp [HTK.out, List.all_append, okT, HIX.out] at h0 ⊢; done) | (have h0 := HBK.out; simp [HTK.out, List.all_append, okT, HIX.out] at h0 ⊢; simp [h0]; done) | (rw [← HBK.out]; simp [HTK.out, List.all_append, okT, HIX.out])), by rw [eL, HVL.out], fun h => ?_, hS8⟩, by simp [intOf]; omega⟩
          rw [HTK.out, List.all_append, Bool.and_eq_true] at h
          rw [HTK.out]
          exact intsL_snoc (HVS.out h.1) HIX.out
       ·have hkk : k = L2.length := by omega
        have htl : L2.take k = L2 := List.take_of_length_le (by omega)
        rw [htl]
        have hvs := HVS.out
        rw [htl] at hvs
        have his := intsL_isSome L2
        have hsl := hSr.slice 1 rfl
        obtain ⟨av, cv, rfl, hvR⟩ := hsl
        clear HVS htl hkk
        go_wp2_with ((with_reducible refine wpList_stoR (us := #[.bool false, .int .i64 0, .int .i64 0, .slice none 0 0]) 2 wU wU (hSr) wU kR wU wU ?_); intro w6 hS6)
        exact bodyPost_ret (results_cellSlot rfl rfl rfl A_mach kR (hS6.blk 2 rfl).1) rfl (RetMac.none (S := hS6.empty) rfl)
     | some ng =>
      have hb9 := (intL_canon hi).2.2.2.2.2
      have hD := HCD.out
      rw [hi] at hD
      have HD := hid hD
      obtain ⟨R, hR⟩ : ∃ R : MacV × Int, R = (match (some ng : Option Nat), intsL L2 with | some n, some l => if macE ⟨false, n, 1, l⟩ ≠ 0 then (noM, macE ⟨false, n, 1, l⟩) else (⟨false, n, 1, l⟩, 0) | _, _ => (noM, 25)) := ⟨_, rfl⟩
      rw [← hR]
      have HR := hid hR
      clear hD hi hR
      go_enter Tryz.func36, Tryz.ntmps36
      go_wp2_with fail
      refine (HCS2.out _ (hw.below hS.b)).mono ?_
      rintro e w1 ⟨aw, rfl, hW, b1, hfr0⟩
      have hS1 := hS.mono b1
      have hw1 := hw.below hS1.b
      go_wp2_with ((with_reducible refine wpList_idxG ByteArray.empty E_strs F_str cStr1 wU wU (hW) (HLL.out) oD oD (fun _ => wU) wU (fun _ => wU) (fun _ => ?_)); first | rw [A0.out] | rw [A1.out] | rw [A2.out] | rw [A3.out])
      refine (HD.out _ hw1).mono ?_
      rintro e w2 ⟨n, rfl, hnn, b2⟩
      have hn2 := hnn ng rfl
      subst hn2
      clear hnn
      have hS2 := hS1.mono b2
      have hW2 := hW.below b2
      have hSm := hS2.box (.cells #[.bool false, .int .i64 ng, .int .i64 1, .slice none 0 0] 24)
      have hW3 := hW2.alloc (.cells #[.bool false, .int .i64 ng, .int .i64 1, .slice none 0 0] 24)
      go_wp2_with (first | ((with_reducible refine wpList_idxG ByteArray.empty E_strs F_str cStr1 wU wU (hW2) (HLL.out) oD oD (fun _ => wU) wU (fun _ => wU) (fun _ => ?_)); first | rw [A0.out] | rw [A1.out] | rw [A2.out] | rw [A3.out]) | ((with_reducible refine wpList_idxG ByteArray.empty E_strs F_str cStr1 wU wU (hW3) (HLL.out) oD oD (fun _ => wU) wU (fun _ => wU) (fun _ => ?_)); first | rw [A0.out] | rw [A1.out] | rw [A2.out] | rw [A3.out]))
      refine (HC2.out _ (hw.below hSm.b)).mono ?_
      rintro e w3 ⟨a3, rfl, hV, b3, hfr⟩
      obtain ⟨b7, hb7⟩ : ∃ b7, b7 = w2.heap.size := ⟨_, rfl⟩
      have hS3 := ((hSm.newRd b3 hV (by decide) hfr).nilS (α := Int) (c := cInt) (sz := 1) (e := 3) cIntS).pick [2, 0, 3, 1] (by decide) [pBlk b7 (.cells #[.bool false, .int .i64 ng, .int .i64 1, .slice none 0 0] 24), pOwn cInt 1 3 (.slice none 0 0) [], pBlk w.heap.size (.cells #[.bool false, .int .i64 0, .int .i64 0, .slice none 0 0] 24), pRd cStr 1 a3 L2.length (L2.map bT)] (by rw [hb7]; rfl)
      rw [← hb7]
      clear hb7 hSm hS1 hS2 hW hW2 hW3 hw1 HCS2 HD HC2
      go_wp2_with fail
      go_loopw [74, 6] (fun i okv wr => ∃ (k : Nat) (vals : List Int) (sv : Value), k ≤ L2.length ∧ i = .int .i64 k ∧ okv = .bool (true && (L2.take k).all okT) ∧ vals.length = k ∧ ((L2.take k).all okT = true → intsL (L2.take k) = some vals) ∧ SL w.heap.size w wr [pBlk b7 (.cells #[.bool false, .int .i64 ng, .int .i64 1, sv] 24), pOwn cInt 1 3 sv vals, pBlk w.heap.size (.cells #[.bool false, .int .i64 0, .int .i64 0, .slice none 0 0] 24), pRd cStr 1 a3 L2.length (L2.map bT)]) (fun i _ _ => L2.length - (intOf i).toNat)
      case atStart => exact ⟨0, [], .slice none 0 0, by omega, rfl, rfl, rfl, fun _ => rfl, hS3⟩
      case round =>
       clear hS3
       obtain ⟨k, vals, sv, hk, rfl, rfl, hvl, hvs, hSr⟩ := hrel
       have HVL := hid hvl; have HVS := hid hvs
       clear hvl hvs
       by_cases hlt : k < L2.length
       ·have hat := atD_mapT L2 k hlt
        have hmem : atD [] L2 k ∈ L2 := by simp [atD, hlt]
        have htk : L2.take (k + 1) = L2.take k ++ [atD [] L2 k] := by rw [List.take_succ_eq_append_getElem hlt]; simp [atD, hlt]
        have CX := fun w hw => HCX.out (atD [] L2 k) w hw hmem
        obtain ⟨x, hx⟩ : ∃ x, x = atD [] L2 k := ⟨_, rfl⟩
        rw [← hx] at hat htk CX
        obtain ⟨xb, hxb⟩ : ∃ xb, xb = bT x := ⟨_, rfl⟩
        rw [← hxb] at hat CX
        have HAT := hid hat; have HTK := hid htk
        clear hat hmem htk hx hxb
        have hVr := hSr.rdR 3 rfl
        have hwr := hw.below hSr.b
        have hsl := hSr.slice 1 rfl
        obtain ⟨av, cv, rfl, _⟩ := hsl
        have hv9 : vals.length ≤ 4097 := by rw [HVL.out]; omega
        cases hix : intL x with
        | none =>
         rw [hix] at CX
         have HX := hid CX; have HIX := hid hix
         clear CX hix
         cases hbk : (true && (L2.take k).all okT)
         all_goals
          go_wp2_with ((with_reducible refine wpList_idxN _ ByteArray.empty E_strs F_str cStr1 wU wU (hVr) (HM2.out) oD oD (fun _ => wU) (fun _ => ?_)); rw [HAT.out])
          refine (HX.out _ hwr).mono ?_
          rintro e w5 ⟨nx, rfl, -, b5⟩
          have hS5 := hSr.mono b5
          have q5 := (hS5.blk 0 rfl).1
          go_wp2_with (first | (with_reducible refine wpList_ldB F_sliceM wU wU q5 wU ?_) | (((with_reducible refine wpList_pushL (y := nx) 1 E_ints wU wU (hS5) wU cIntO ⟨rfl, rfl⟩ (by first | with_unfolding_all rfl | simp) wU (by first | omega | (simp; omega)) (by first | omega | (simp; omega)) ?_); intro v6 w6 hS6); obtain ⟨a6, c6, rfl, _⟩ := hS6.slice 1 rfl) | ((with_reducible refine wpList_stoF 0 wU wU hS6 rfl rfl ?_); intro w7 hS7))
          have eL : (vals ++ [nx]).length = vals.length + 1 := by simp
          have hS8 := hS7
          simp only [eL] at hS8
          refine ⟨⟨k + 1, vals ++ [nx], .slice a6 (vals.length + 1) c6, by omega, by go_num, congrArg Value.bool (by rw [HTK.out, List.all_append]; simp [okT, HIX.out]), by rw [eL, HVL.out], fun h => ?_, hS8⟩, by simp [intOf]; omega⟩
          rw [HTK.out, List.all_append] at h
          simp [okT, HIX.out] at h
        | some nx =>
         rw [hix] at CX
         have HX := hid CX; have HIX := hid hix
         clear CX hix
         cases hbk : (true && (L2.take k).all okT)
         all_goals
          have HBK := hid hbk
          clear hbk
          go_wp2_with ((with_reducible refine wpList_idxN _ ByteArray.empty E_strs F_str cStr1 wU wU (hVr) (HM2.out) oD oD (fun _ => wU) (fun _ => ?_)); rw [HAT.out])
          refine (HX.out _ hwr).mono ?_
          rintro e w5 ⟨ny, rfl, hny, b5⟩
          have hny2 := hny nx rfl
          subst hny2
          clear hny
          have hS5 := hSr.mono b5
          have q5 := (hS5.blk 0 rfl).1
          go_wp2_with (first | (with_reducible refine wpList_ldB F_sliceM wU wU q5 wU ?_) | (((with_reducible refine wpList_pushL (y := (nx : Int)) 1 E_ints wU wU (hS5) wU cIntO ⟨rfl, rfl⟩ (by first | with_unfolding_all rfl | simp) wU (by first | omega | (simp; omega)) (by first | omega | (simp; omega)) ?_); intro v6 w6 hS6); obtain ⟨a6, c6, rfl, _⟩ := hS6.slice 1 rfl) | ((with_reducible refine wpList_stoF 0 wU wU hS6 rfl rfl ?_); intro w7 hS7))
          have eL : (vals ++ [(nx : Int)]).length = vals.length + 1 := by simp
          have hS8 := hS7
          simp only [eL] at hS8
          refine ⟨⟨k + 1, vals ++ [(nx : Int)], .slice a6 (vals.length + 1) c6, by omega, by go_num, congrArg Value.bool (by first | (have h0 := HBK.out; simp [HTK.out, List.all_append, okT, HIX.out] at h0 ⊢; done) | (have h0 := HBK.out; simp [HTK.out, List.all_append, okT, HIX.out] at h0 ⊢; simp [h0]; done) | (rw [← HBK.out]; simp [HTK.out, List.all_append, okT, HIX.out])), by rw [eL, HVL.out], fun h => ?_, hS8⟩, by simp [intOf]; omega⟩
          rw [HTK.out, List.all_append, Bool.and_eq_true] at h
          rw [HTK.out]
          exact intsL_snoc (HVS.out h.1) HIX.out
       ·have hkk : k = L2.length := by omega
        have htl : L2.take k = L2 := List.take_of_length_le (by omega)
        rw [htl]
        have hvs := HVS.out
        rw [htl] at hvs
        have his := intsL_isSome L2
        have hsl := hSr.slice 1 rfl
        obtain ⟨av, cv, rfl, hvR⟩ := hsl
        clear HVS htl hkk
        cases hall : L2.all okT
        ·have hin : intsL L2 = none := by
          rw [hall] at his
          cases h : intsL L2 with
          | none => rfl
          | some v => rw [h] at his; cases his
         have hR2 : R = (noM, 25) := by rw [HR.out, hin]
         have HR2 := hid hR2
         clear hin his hvs hR2
         go_wp2_with ((with_reducible refine wpList_stoR (us := #[.bool false, .int .i64 0, .int .i64 0, .slice none 0 0]) 2 wU wU (hSr) wU kR wU wU ?_); intro w6 hS6)
         exact bodyPost_ret (results_cellSlot rfl rfl rfl A_mach kR (hS6.blk 2 rfl).1) rfl (by rw [HR2.out]; exact RetMac.none (S := hS6.empty) rfl)
        ·have hR2 : R = (if macE ⟨false, (ng : Int), 1, vals⟩ ≠ 0 then (noM, macE ⟨false, (ng : Int), 1, vals⟩) else (⟨false, (ng : Int), 1, vals⟩, 0)) := by rw [HR.out, hvs hall]
         have CK := fun w h => CheckMachine_any ⟨false, (ng : Int), 1, vals⟩ av cv w h (by show InI (ng : Int); unfold InI; omega)
         obtain ⟨E, hE⟩ : ∃ E, E = macE ⟨false, (ng : Int), 1, vals⟩ := ⟨_, rfl⟩
         rw [← hE] at CK hR2
         have HK := hid CK
         have q7 := (hSr.blk 0 rfl).1
         clear CK hE his hvs
         by_cases he : E = 0
         ·subst he
          rw [if_neg (by decide)] at hR2
          have HR2 := hid hR2
          clear hR2
          go_wp2_with (with_reducible refine wpList_ldS (n := 4) (us := #[.bool false, .int .i64 ng, .int .i64 1, .slice av vals.length cv]) A_mach kR wU wU (by assumption) wU wU ?_)
          refine (HK.out _ hvR).mono ?_
          rintro e w5 ⟨rfl, b5⟩
          have hS5 := hSr.mono b5
          have q8 := (hS5.blk 0 rfl).1
          clear q7
          go_wp2_with (first | (with_reducible refine wpList_ldS (n := 4) (us := #[.bool false, .int .i64 ng, .int .i64 1, .slice av vals.length cv]) A_mach kR wU wU (by assumption) wU wU ?_) | ((with_reducible refine wpList_stoR (us := #[.bool false, .int .i64 ng, .int .i64 1, .slice av vals.length cv]) 2 wU wU (hS5) wU kR wU wU ?_); intro w6 hS6))
          exact bodyPost_ret (results_cellSlot rfl rfl rfl A_mach kR (hS6.blk 2 rfl).1) rfl (by rw [HR2.out]; exact ⟨av, cv, rfl, hS6.one 1 rfl⟩)
         ·rw [if_pos he] at hR2
          have HR2 := hid hR2
          clear hR2
          have hne : (E != 0) = true := by simpa using he
          go_wp2_with (with_reducible refine wpList_ldS (n := 4) (us := #[.bool false, .int .i64 ng, .int .i64 1, .slice av vals.length cv]) A_mach kR wU wU (by assumption) wU wU ?_)
          refine (HK.out _ hvR).mono ?_
          rintro e w5 ⟨rfl, b5⟩
          have hS5 := hSr.mono b5
          clear q7
          go_wp2_with ((with_reducible refine wpList_stoR (us := #[.bool false, .int .i64 0, .int .i64 0, .slice none 0 0]) 2 wU wU (hS5) wU kR wU wU ?_); intro w6 hS6)
          exact bodyPost_ret (results_cellSlot rfl rfl rfl A_mach kR (hS6.blk 2 rfl).1) rfl (by rw [HR2.out]; exact RetMac.none (S := hS6.empty) rfl)
   ·rw [decide_eq_false ht3] at e3
    by_cases ht4 : t = [45]
    ·rw [decide_eq_true ht4] at e4
     have ht := ht4
     clear ht3 ht4
     have hpg : parseGo [k, g, t, w4] = (match intL g, placesL w4 with
       | some n, some l => if macE ⟨false, n, (-1), l⟩ ≠ 0 then (noM, macE ⟨false, n, (-1), l⟩) else (⟨false, n, (-1), l⟩, 0)
       | _, _ => (noM, 25)) := by
      rw [hk, ht]; rfl
     rw [hpg]
     have CD := fun w hw => mdecimal_any g w hw (by omega)
     have e5 : ((bT w4).toList == [110, 111, 110, 101]) = decide (w4 = noneT) := eqT2 w4 noneT
     have CC := fun w hw => splitC_any w4 w hw (by omega)
     obtain ⟨G, hG⟩ : ∃ G, G = bT g := ⟨_, rfl⟩
     obtain ⟨X, hX⟩ : ∃ X, X = bT w4 := ⟨_, rfl⟩
     rw [← hG] at A1 CD
     rw [← hX] at A3 e5 CC
     have HCD := hid CD; have HCC := hid CC
     clear CD CC hG hX hpg hLB hK hT hk ht
     by_cases hn : w4 = noneT
     ·have hpl : placesL w4 = some [] := by unfold placesL; rw [if_pos hn]
      rw [decide_eq_true hn] at e5
      rw [hpl]
      clear hpl hn
      cases hi : intL g with
      | none =>
       have hD := HCD.out
       rw [hi] at hD
       have HD := hid hD
       clear hD hi
       go_enter Tryz.func36, Tryz.ntmps36
       go_wp2_with fail
       refine (HCS2.out _ (hw.below hS.b)).mono ?_
       rintro e w1 ⟨aw, rfl, hW, b1, hfr0⟩
       have hS1 := (hS.newRd b1 hW (by decide) hfr0).pick [1, 0] (by decide) [pBlk w.heap.size (.cells #[.bool false, .int .i64 0, .int .i64 0, .slice none 0 0] 24), pRd cStr 1 aw 4 LB] rfl
       have hw1 := hw.below hS1.b
       go_wp2_with ((with_reducible refine wpList_idxG ByteArray.empty E_strs F_str cStr1 wU wU (hW) (HLL.out) oD oD (fun _ => wU) wU (fun _ => wU) (fun _ => ?_)); first | rw [A0.out] | rw [A1.out] | rw [A2.out] | rw [A3.out])
       refine (HD.out _ hw1).mono ?_
       rintro e w2 ⟨n, rfl, hnn, b2⟩
       clear hnn
       have hS2 := hS1.mono b2
       have hW2 := hW.below b2
       have hSm := hS2.box (.cells #[.bool false, .int .i64 n, .int .i64 1, .slice none 0 0] 24)
       have hW3 := hW2.alloc (.cells #[.bool false, .int .i64 n, .int .i64 1, .slice none 0 0] 24)
       go_wp2_with (first | ((with_reducible refine wpList_stoFi 0 wU wU hSm rfl rfl ?_); intro w4 hSm2; have hSm2 : SL w.heap.size w w4 [pBlk w2.heap.size (.cells #[.bool false, .int .i64 n, .int .i64 (-1), .slice none 0 0] 24), pBlk w.heap.size (.cells #[.bool false, .int .i64 0, .int .i64 0, .slice none 0 0] 24), pRd cStr 1 aw 4 LB] := hSm2; have hW4 := hSm2.rdR 2 rfl; have q7 := (hSm2.blk 0 rfl).1; clear hSm) | ((with_reducible refine wpList_idxG ByteArray.empty E_strs F_str cStr1 wU wU (hW2) (HLL.out) oD oD (fun _ => wU) wU (fun _ => wU) (fun _ => ?_)); first | rw [A0.out] | rw [A1.out] | rw [A2.out] | rw [A3.out]) | ((with_reducible refine wpList_idxG ByteArray.empty E_strs F_str cStr1 wU wU (hW3) (HLL.out) oD oD (fun _ => wU) wU (fun _ => wU) (fun _ => ?_)); first | rw [A0.out] | rw [A1.out] | rw [A2.out] | rw [A3.out]) | ((with_reducible refine wpList_idxN _ ByteArray.empty E_strs F_str cStr1 wU wU (hW4) (HLL.out) oD oD (fun _ => wU) (fun _ => ?_)); first | rw [A0.out] | rw [A1.out] | rw [A2.out] | rw [A3.out]) | ((with_reducible refine wpList_stoR (us := #[.bool false, .int .i64 0, .int .i64 0, .slice none 0 0]) 1 wU wU (hSm2) wU kR wU wU ?_); intro w5 hS5))
       exact bodyPost_ret (results_cellSlot rfl rfl rfl A_mach kR (hS5.blk 1 rfl).1) rfl (RetMac.none (S := hS5.empty) rfl)
      | some ng =>
       have hb9 := (intL_canon hi).2.2.2.2.2
       have hD := HCD.out
       rw [hi] at hD
       have HD := hid hD
       clear hD hi
       simp only []
       have CK := fun w h => CheckMachine_any ⟨false, (ng : Int), (-1), []⟩ none 0 w h (by show InI (ng : Int); unfold InI; omega)
       obtain ⟨E, hE⟩ : ∃ E, E = macE ⟨false, (ng : Int), (-1), []⟩ := ⟨_, rfl⟩
       rw [← hE] at CK ⊢
       have HK := hid CK
       clear CK hE hb9
       by_cases he : E = 0
       ·subst he
        rw [if_neg (by decide)]
        go_enter Tryz.func36, Tryz.ntmps36
        go_wp2_with fail
        refine (HCS2.out _ (hw.below hS.b)).mono ?_
        rintro e w1 ⟨aw, rfl, hW, b1, hfr0⟩
        have hS1 := (hS.newRd b1 hW (by decide) hfr0).pick [1, 0] (by decide) [pBlk w.heap.size (.cells #[.bool false, .int .i64 0, .int .i64 0, .slice none 0 0] 24), pRd cStr 1 aw 4 LB] rfl
        have hw1 := hw.below hS1.b
        go_wp2_with ((with_reducible refine wpList_idxG ByteArray.empty E_strs F_str cStr1 wU wU (hW) (HLL.out) oD oD (fun _ => wU) wU (fun _ => wU) (fun _ => ?_)); first | rw [A0.out] | rw [A1.out] | rw [A2.out] | rw [A3.out])
        refine (HD.out _ hw1).mono ?_
        rintro e w2 ⟨n, rfl, hnn, b2⟩
        have hn2 := hnn ng rfl
        subst hn2
        clear hnn
        have hS2 := hS1.mono b2
        have hW2 := hW.below b2
        have hSm := hS2.box (.cells #[.bool false, .int .i64 ng, .int .i64 1, .slice none 0 0] 24)
        have hW3 := hW2.alloc (.cells #[.bool false, .int .i64 ng, .int .i64 1, .slice none 0 0] 24)
        go_wp2_with (first | ((with_reducible refine wpList_stoFi 0 wU wU hSm rfl rfl ?_); intro w4 hSm2; have hSm2 : SL w.heap.size w w4 [pBlk w2.heap.size (.cells #[.bool false, .int .i64 ng, .int .i64 (-1), .slice none 0 0] 24), pBlk w.heap.size (.cells #[.bool false, .int .i64 0, .int .i64 0, .slice none 0 0] 24), pRd cStr 1 aw 4 LB] := hSm2; have hW4 := hSm2.rdR 2 rfl; have q7 := (hSm2.blk 0 rfl).1; clear hSm) | ((with_reducible refine wpList_idxG ByteArray.empty E_strs F_str cStr1 wU wU (hW2) (HLL.out) oD oD (fun _ => wU) wU (fun _ => wU) (fun _ => ?_)); first | rw [A0.out] | rw [A1.out] | rw [A2.out] | rw [A3.out]) | ((with_reducible refine wpList_idxG ByteArray.empty E_strs F_str cStr1 wU wU (hW3) (HLL.out) oD oD (fun _ => wU) wU (fun _ => wU) (fun _ => ?_)); first | rw [A0.out] | rw [A1.out] | rw [A2.out] | rw [A3.out]) | ((with_reducible refine wpList_idxN _ ByteArray.empty E_strs F_str cStr1 wU wU (hW4) (HLL.out) oD oD (fun _ => wU) (fun _ => ?_)); first | rw [A0.out] | rw [A1.out] | rw [A2.out] | rw [A3.out]) | (with_reducible refine wpList_ldS (n := 4) (us := #[.bool false, .int .i64 ng, .int .i64 (-1), .slice none 0 0]) A_mach kR wU wU (by assumption) wU wU ?_))
        refine (HK.out _ (ints_nil _)).mono ?_
        rintro e w5 ⟨rfl, b5⟩
        have hS5 := hSm2.mono b5
        have q8 := (hS5.blk 0 rfl).1
        clear q7
        go_wp2_with (first | (with_reducible refine wpList_ldS (n := 4) (us := #[.bool false, .int .i64 ng, .int .i64 (-1), .slice none 0 0]) A_mach kR wU wU (by assumption) wU wU ?_) | ((with_reducible refine wpList_stoR (us := #[.bool false, .int .i64 ng, .int .i64 (-1), .slice none 0 0]) 1 wU wU (hS5) wU kR wU wU ?_); intro w6 hS6))
        exact bodyPost_ret (results_cellSlot rfl rfl rfl A_mach kR (hS6.blk 1 rfl).1) rfl ⟨none, 0, rfl, hS6.empty.nilS (α := Int) (c := cInt) (sz := 1) (e := 3) cIntS⟩
       ·rw [if_pos he]
        have hne : (E != 0) = true := by simpa using he
        go_enter Tryz.func36, Tryz.ntmps36
        go_wp2_with fail
        refine (HCS2.out _ (hw.below hS.b)).mono ?_
        rintro e w1 ⟨aw, rfl, hW, b1, hfr0⟩
        have hS1 := (hS.newRd b1 hW (by decide) hfr0).pick [1, 0] (by decide) [pBlk w.heap.size (.cells #[.bool false, .int .i64 0, .int .i64 0, .slice none 0 0] 24), pRd cStr 1 aw 4 LB] rfl
        have hw1 := hw.below hS1.b
        go_wp2_with ((with_reducible refine wpList_idxG ByteArray.empty E_strs F_str cStr1 wU wU (hW) (HLL.out) oD oD (fun _ => wU) wU (fun _ => wU) (fun _ => ?_)); first | rw [A0.out] | rw [A1.out] | rw [A2.out] | rw [A3.out])
        refine (HD.out _ hw1).mono ?_
        rintro e w2 ⟨n, rfl, hnn, b2⟩
        have hn2 := hnn ng rfl
        subst hn2
        clear hnn
        have hS2 := hS1.mono b2
        have hW2 := hW.below b2
        have hSm := hS2.box (.cells #[.bool false, .int .i64 ng, .int .i64 1, .slice none 0 0] 24)
        have hW3 := hW2.alloc (.cells #[.bool false, .int .i64 ng, .int .i64 1, .slice none 0 0] 24)
        go_wp2_with (first | ((with_reducible refine wpList_stoFi 0 wU wU hSm rfl rfl ?_); intro w4 hSm2; have hSm2 : SL w.heap.size w w4 [pBlk w2.heap.size (.cells #[.bool false, .int .i64 ng, .int .i64 (-1), .slice none 0 0] 24), pBlk w.heap.size (.cells #[.bool false, .int .i64 0, .int .i64 0, .slice none 0 0] 24), pRd cStr 1 aw 4 LB] := hSm2; have hW4 := hSm2.rdR 2 rfl; have q7 := (hSm2.blk 0 rfl).1; clear hSm) | ((with_reducible refine wpList_idxG ByteArray.empty E_strs F_str cStr1 wU wU (hW2) (HLL.out) oD oD (fun _ => wU) wU (fun _ => wU) (fun _ => ?_)); first | rw [A0.out] | rw [A1.out] | rw [A2.out] | rw [A3.out]) | ((with_reducible refine wpList_idxG ByteArray.empty E_strs F_str cStr1 wU wU (hW3) (HLL.out) oD oD (fun _ => wU) wU (fun _ => wU) (fun _ => ?_)); first | rw [A0.out] | rw [A1.out] | rw [A2.out] | rw [A3.out]) | ((with_reducible refine wpList_idxN _ ByteArray.empty E_strs F_str cStr1 wU wU (hW4) (HLL.out) oD oD (fun _ => wU) (fun _ => ?_)); first | rw [A0.out] | rw [A1.out] | rw [A2.out] | rw [A3.out]) | (with_reducible refine wpList_ldS (n := 4) (us := #[.bool false, .int .i64 ng, .int .i64 (-1), .slice none 0 0]) A_mach kR wU wU (by assumption) wU wU ?_))
        refine (HK.out _ (ints_nil _)).mono ?_
        rintro e w5 ⟨rfl, b5⟩
        have hS5 := hSm2.mono b5
        clear q7
        go_wp2_with ((with_reducible refine wpList_stoR (us := #[.bool false, .int .i64 0, .int .i64 0, .slice none 0 0]) 1 wU wU (hS5) wU kR wU wU ?_); intro w6 hS6)
        exact bodyPost_ret (results_cellSlot rfl rfl rfl A_mach kR (hS6.blk 1 rfl).1) rfl (RetMac.none (S := hS6.empty) rfl)
     ·rw [decide_eq_false hn] at e5
      have hpl : placesL w4 = intsL (spl 44 w4) := by unfold placesL; rw [if_neg hn]
      rw [hpl]
      have hl2 := splR_len 44 w4 []
      have hs2 := spl_sum 44 w4 []
      have hC2 := HCC.out
      obtain ⟨L2, hL2⟩ : ∃ L2, L2 = spl 44 w4 := ⟨_, rfl⟩
      rw [show splR 44 [] w4 = L2 from hL2.symm] at hl2 hs2
      rw [← hL2] at hC2 ⊢
      have HC2 := hid hC2
      have hM2 : (L2.map bT).length = L2.length := by simp
      have HM2 := hid hM2
      have hl9 : L2.length ≤ 4097 := by omega
      have CX := fun (x : List UInt8) w (hw : LibW w) (h : x ∈ L2) => mdecimal_any x w hw (by have := hs2 x h; simp only [List.length_nil, Nat.zero_add] at this; omega)
      have HCX := hid CX
      clear hpl hn hL2 hC2 hM2 hl2 hs2 CX HCC
      cases hi : intL g with
      | none =>
       have hD := HCD.out
       rw [hi] at hD
       have HD := hid hD
       have hres : (match (none : Option Nat), intsL L2 with | some n, some l => if macE ⟨false, n, (-1), l⟩ ≠ 0 then (noM, macE ⟨false, n, (-1), l⟩) else (⟨false, n, (-1), l⟩, 0) | _, _ => (noM, 25)) = ((noM, 25) : MacV × Int) := by cases intsL L2 <;> rfl
       rw [hres]
       clear hD hi hres
       go_enter Tryz.func36, Tryz.ntmps36
       go_wp2_with fail
       refine (HCS2.out _ (hw.below hS.b)).mono ?_
       rintro e w1 ⟨aw, rfl, hW, b1, hfr0⟩
       have hS1 := (hS.newRd b1 hW (by decide) hfr0).pick [1, 0] (by decide) [pBlk w.heap.size (.cells #[.bool false, .int .i64 0, .int .i64 0, .slice none 0 0] 24), pRd cStr 1 aw 4 LB] rfl
       have hw1 := hw.below hS1.b
       go_wp2_with ((with_reducible refine wpList_idxG ByteArray.empty E_strs F_str cStr1 wU wU (hW) (HLL.out) oD oD (fun _ => wU) wU (fun _ => wU) (fun _ => ?_)); first | rw [A0.out] | rw [A1.out] | rw [A2.out] | rw [A3.out])
       refine (HD.out _ hw1).mono ?_
       rintro e w2 ⟨n, rfl, hnn, b2⟩
       clear hnn
       have hS2 := hS1.mono b2
       have hW2 := hW.below b2
       have hSm := hS2.box (.cells #[.bool false, .int .i64 n, .int .i64 1, .slice none 0 0] 24)
       have hW3 := hW2.alloc (.cells #[.bool false, .int .i64 n, .int .i64 1, .slice none 0 0] 24)
       go_wp2_with (first | ((with_reducible refine wpList_stoFi 0 wU wU hSm rfl rfl ?_); intro w4 hSm2; have hSm2 : SL w.heap.size w w4 [pBlk w2.heap.size (.cells #[.bool false, .int .i64 n, .int .i64 (-1), .slice none 0 0] 24), pBlk w.heap.size (.cells #[.bool false, .int .i64 0, .int .i64 0, .slice none 0 0] 24), pRd cStr 1 aw 4 LB] := hSm2; have hW4 := hSm2.rdR 2 rfl; have q7 := (hSm2.blk 0 rfl).1; clear hSm) | ((with_reducible refine wpList_idxG ByteArray.empty E_strs F_str cStr1 wU wU (hW2) (HLL.out) oD oD (fun _ => wU) wU (fun _ => wU) (fun _ => ?_)); first | rw [A0.out] | rw [A1.out] | rw [A2.out] | rw [A3.out]) | ((with_reducible refine wpList_idxG ByteArray.empty E_strs F_str cStr1 wU wU (hW3) (HLL.out) oD oD (fun _ => wU) wU (fun _ => wU) (fun _ => ?_)); first | rw [A0.out] | rw [A1.out] | rw [A2.out] | rw [A3.out]) | ((with_reducible refine wpList_idxN _ ByteArray.empty E_strs F_str cStr1 wU wU (hW4) (HLL.out) oD oD (fun _ => wU) (fun _ => ?_)); first | rw [A0.out] | rw [A1.out] | rw [A2.out] | rw [A3.out]))
       refine (HC2.out _ (hw.below hSm2.b)).mono ?_
       rintro e w3 ⟨a3, rfl, hV, b3, hfr⟩
       obtain ⟨b7, hb7⟩ : ∃ b7, b7 = w2.heap.size := ⟨_, rfl⟩
       have hS3 := ((hSm2.newRd b3 hV (by decide) hfr).nilS (α := Int) (c := cInt) (sz := 1) (e := 3) cIntS).pick [2, 0, 3, 1] (by decide) [pBlk b7 (.cells #[.bool false, .int .i64 n, .int .i64 (-1), .slice none 0 0] 24), pOwn cInt 1 3 (.slice none 0 0) [], pBlk w.heap.size (.cells #[.bool false, .int .i64 0, .int .i64 0, .slice none 0 0] 24), pRd cStr 1 a3 L2.length (L2.map bT)] (by rw [hb7]; rfl)
       rw [← hb7]
       clear hb7 hSm2 hW4 q7 hS1 hS2 hW hW2 hW3 hw1 HCS2 HD HC2
       go_wp2_with fail
       go_loopw [74, 6] (fun i okv wr => ∃ (k : Nat) (vals : List Int) (sv : Value), k ≤ L2.length ∧ i = .int .i64 k ∧ okv = .bool (false && (L2.take k).all okT) ∧ vals.length = k ∧ ((L2.take k).all okT = true → intsL (L2.take k) = some vals) ∧ SL w.heap.size w wr [pBlk b7 (.cells #[.bool false, .int .i64 n, .int .i64 (-1), sv] 24), pOwn cInt 1 3 sv vals, pBlk w.heap.size (.cells #[.bool false, .int .i64 0, .int .i64 0, .slice none 0 0] 24), pRd cStr 1 a3 L2.length (L2.map bT)]) (fun i _ _ => L2.length - (intOf i).toNat)
       case atStart => exact ⟨0, [], .slice none 0 0, by omega, rfl, rfl, rfl, fun _ => rfl, hS3⟩
       case round =>
        clear hS3
        obtain ⟨k, vals, sv, hk, rfl, rfl, hvl, hvs, hSr⟩ := hrel
        have HVL := hid hvl; have HVS := hid hvs
        clear hvl hvs
        by_cases hlt : k < L2.length
        ·have hat := atD_mapT L2 k hlt
         have hmem : atD [] L2 k ∈ L2 := by simp [atD, hlt]
         have htk : L2.take (k + 1) = L2.take k ++ [atD [] L2 k] := by rw [List.take_succ_eq_append_getElem hlt]; simp [atD, hlt]
         have CX := fun w hw => HCX.out (atD [] L2 k) w hw hmem
         obtain ⟨x, hx⟩ : ∃ x, x = atD [] L2 k := ⟨_, rfl⟩
         rw [← hx] at hat htk CX
         obtain ⟨xb, hxb⟩ : ∃ xb, xb = bT x := ⟨_, rfl⟩
         rw [← hxb] at hat CX
         have HAT := hid hat; have HTK := hid htk
         clear hat hmem htk hx hxb
         have hVr := hSr.rdR 3 rfl
         have hwr := hw.below hSr.b
         have hsl := hSr.slice 1 rfl
         obtain ⟨av, cv, rfl, _⟩ := hsl
         have hv9 : vals.length ≤ 4097 := by rw [HVL.out]; omega
         cases hix : intL x with
         | none =>
          rw [hix] at CX
          have HX := hid CX; have HIX := hid hix
          clear CX hix
          cases hbk : (false && (L2.take k).all okT)
          all_goals
           go_wp2_with ((with_reducible refine wpList_idxN _ ByteArray.empty E_strs F_str cStr1 wU wU (hVr) (HM2.out) oD oD (fun _ => wU) (fun _ => ?_)); rw [HAT.out])
           refine (HX.out _ hwr).mono ?_
           rintro e w5 ⟨nx, rfl, -, b5⟩
           have hS5 := hSr.mono b5
           have q5 := (hS5.blk 0 rfl).1
           go_wp2_with (first | (with_reducible refine wpList_ldB F_sliceM wU wU q5 wU ?_) | (((with_reducible refine wpList_pushL (y := nx) 1 E_ints wU wU (hS5) wU cIntO ⟨rfl, rfl⟩ (by first | with_unfolding_all rfl | simp) wU (by first | omega | (simp; omega)) (by first | omega | (simp; omega)) ?_); intro v6 w6 hS6); obtain ⟨a6, c6, rfl, _⟩ := hS6.slice 1 rfl) | ((with_reducible refine wpList_stoF 0 wU wU hS6 rfl rfl ?_); intro w7 hS7))
           have eL : (vals ++ [nx]).length = vals.length + 1 := by simp
           have hS8 := hS7
           simp only [eL] at hS8
           refine ⟨⟨k + 1, vals ++ [nx], .slice a6 (vals.length + 1) c6, by omega, by go_num, congrArg Value.bool (by rw [HTK.out, List.all_append]; simp [okT, HIX.out]), by rw [eL, HVL.out], fun h => ?_, hS8⟩, by simp [intOf]; omega⟩
           rw [HTK.out, List.all_append] at h
           simp [okT, HIX.out] at h
         | some nx =>
          rw [hix] at CX
          have HX := hid CX; have HIX := hid hix
          clear CX hix
          cases hbk : (false && (L2.take k).all okT)
          all_goals
           have HBK := hid hbk
           clear hbk
           go_wp2_with ((with_reducible refine wpList_idxN _ ByteArray.empty E_strs F_str cStr1 wU wU (hVr) (HM2.out) oD oD (fun _ => wU) (fun _ => ?_)); rw [HAT.out])
           refine (HX.out _ hwr).mono ?_
           rintro e w5 ⟨ny, rfl, hny, b5⟩
           have hny2 := hny nx rfl
           subst hny2
           clear hny
           have hS5 := hSr.mono b5
           have q5 := (hS5.blk 0 rfl).1
           go_wp2_with (first | (with_reducible refine wpList_ldB F_sliceM wU wU q5 wU ?_) | (((with_reducible refine wpList_pushL (y := (nx : Int)) 1 E_ints wU wU (hS5) wU cIntO ⟨rfl, rfl⟩ (by first | with_unfolding_all rfl | simp) wU (by first | omega | (simp; omega)) (by first | omega | (simp; omega)) ?_); intro v6 w6 hS6); obtain ⟨a6, c6, rfl, _⟩ := hS6.slice 1 rfl) | ((with_reducible refine wpList_stoF 0 wU wU hS6 rfl rfl ?_); intro w7 hS7))
           have eL : (vals ++ [(nx : Int)]).length = vals.length + 1 := by simp
           have hS8 := hS7
           simp only [eL] at hS8
           refine ⟨⟨k + 1, vals ++ [(nx : Int)], .slice a6 (vals.length + 1) c6, by omega, by go_num, congrArg Value.bool (by first | (have h0 := HBK.out; simp [HTK.out, List.all_append, okT, HIX.out] at h0 ⊢; done) | (have h0 := HBK.out; simp [HTK.out, List.all_append, okT, HIX.out] at h0 ⊢; simp [h0]; done) | (rw [← HBK.out]; simp [HTK.out, List.all_append, okT, HIX.out])), by rw [eL, HVL.out], fun h => ?_, hS8⟩, by simp [intOf]; omega⟩
           rw [HTK.out, List.all_append, Bool.and_eq_true] at h
           rw [HTK.out]
           exact intsL_snoc (HVS.out h.1) HIX.out
        ·have hkk : k = L2.length := by omega
         have htl : L2.take k = L2 := List.take_of_length_le (by omega)
         rw [htl]
         have hvs := HVS.out
         rw [htl] at hvs
         have his := intsL_isSome L2
         have hsl := hSr.slice 1 rfl
         obtain ⟨av, cv, rfl, hvR⟩ := hsl
         clear HVS htl hkk
         go_wp2_with ((with_reducible refine wpList_stoR (us := #[.bool false, .int .i64 0, .int .i64 0, .slice none 0 0]) 2 wU wU (hSr) wU kR wU wU ?_); intro w6 hS6)
         exact bodyPost_ret (results_cellSlot rfl rfl rfl A_mach kR (hS6.blk 2 rfl).1) rfl (RetMac.none (S := hS6.empty) rfl)
      | some ng =>
       have hb9 := (intL_canon hi).2.2.2.2.2
       have hD := HCD.out
       rw [hi] at hD
       have HD := hid hD
       obtain ⟨R, hR⟩ : ∃ R : MacV × Int, R = (match (some ng : Option Nat), intsL L2 with | some n, some l => if macE ⟨false, n, (-1), l⟩ ≠ 0 then (noM, macE ⟨false, n, (-1), l⟩) else (⟨false, n, (-1), l⟩, 0) | _, _ => (noM, 25)) := ⟨_, rfl⟩
       rw [← hR]
       have HR := hid hR
       clear hD hi hR
       go_enter Tryz.func36, Tryz.ntmps36
       go_wp2_with fail
       refine (HCS2.out _ (hw.below hS.b)).mono ?_
       rintro e w1 ⟨aw, rfl, hW, b1, hfr0⟩
       have hS1 := (hS.newRd b1 hW (by decide) hfr0).pick [1, 0] (by decide) [pBlk w.heap.size (.cells #[.bool false, .int .i64 0, .int .i64 0, .slice none 0 0] 24), pRd cStr 1 aw 4 LB] rfl
       have hw1 := hw.below hS1.b
       go_wp2_with ((with_reducible refine wpList_idxG ByteArray.empty E_strs F_str cStr1 wU wU (hW) (HLL.out) oD oD (fun _ => wU) wU (fun _ => wU) (fun _ => ?_)); first | rw [A0.out] | rw [A1.out] | rw [A2.out] | rw [A3.out])
       refine (HD.out _ hw1).mono ?_
       rintro e w2 ⟨n, rfl, hnn, b2⟩
       have hn2 := hnn ng rfl
       subst hn2
       clear hnn
       have hS2 := hS1.mono b2
       have hW2 := hW.below b2
       have hSm := hS2.box (.cells #[.bool false, .int .i64 ng, .int .i64 1, .slice none 0 0] 24)
       have hW3 := hW2.alloc (.cells #[.bool false, .int .i64 ng, .int .i64 1, .slice none 0 0] 24)
       go_wp2_with (first | ((with_reducible refine wpList_stoFi 0 wU wU hSm rfl rfl ?_); intro w4 hSm2; have hSm2 : SL w.heap.size w w4 [pBlk w2.heap.size (.cells #[.bool false, .int .i64 ng, .int .i64 (-1), .slice none 0 0] 24), pBlk w.heap.size (.cells #[.bool false, .int .i64 0, .int .i64 0, .slice none 0 0] 24), pRd cStr 1 aw 4 LB] := hSm2; have hW4 := hSm2.rdR 2 rfl; have q7 := (hSm2.blk 0 rfl).1; clear hSm) | ((with_reducible refine wpList_idxG ByteArray.empty E_strs F_str cStr1 wU wU (hW2) (HLL.out) oD oD (fun _ => wU) wU (fun _ => wU) (fun _ => ?_)); first | rw [A0.out] | rw [A1.out] | rw [A2.out] | rw [A3.out]) | ((with_reducible refine wpList_idxG ByteArray.empty E_strs F_str cStr1 wU wU (hW3) (HLL.out) oD oD (fun _ => wU) wU (fun _ => wU) (fun _ => ?_)); first | rw [A0.out] | rw [A1.out] | rw [A2.out] | rw [A3.out]) | ((with_reducible refine wpList_idxN _ ByteArray.empty E_strs F_str cStr1 wU wU (hW4) (HLL.out) oD oD (fun _ => wU) (fun _ => ?_)); first | rw [A0.out] | rw [A1.out] | rw [A2.out] | rw [A3.out]))
       refine (HC2.out _ (hw.below hSm2.b)).mono ?_
       rintro e w3 ⟨a3, rfl, hV, b3, hfr⟩
       obtain ⟨b7, hb7⟩ : ∃ b7, b7 = w2.heap.size := ⟨_, rfl⟩
       have hS3 := ((hSm2.newRd b3 hV (by decide) hfr).nilS (α := Int) (c := cInt) (sz := 1) (e := 3) cIntS).pick [2, 0, 3, 1] (by decide) [pBlk b7 (.cells #[.bool false, .int .i64 ng, .int .i64 (-1), .slice none 0 0] 24), pOwn cInt 1 3 (.slice none 0 0) [], pBlk w.heap.size (.cells #[.bool false, .int .i64 0, .int .i64 0, .slice none 0 0] 24), pRd cStr 1 a3 L2.length (L2.map bT)] (by rw [hb7]; rfl)
       rw [← hb7]
       clear hb7 hSm2 hW4 q7 hS1 hS2 hW hW2 hW3 hw1 HCS2 HD HC2
       go_wp2_with fail
       go_loopw [74, 6] (fun i okv wr => ∃ (k : Nat) (vals : List Int) (sv : Value), k ≤ L2.length ∧ i = .int .i64 k ∧ okv = .bool (true && (L2.take k).all okT) ∧ vals.length = k ∧ ((L2.take k).all okT = true → intsL (L2.take k) = some vals) ∧ SL w.heap.size w wr [pBlk b7 (.cells #[.bool false, .int .i64 ng, .int .i64 (-1), sv] 24), pOwn cInt 1 3 sv vals, pBlk w.heap.size (.cells #[.bool false, .int .i64 0, .int .i64 0, .slice none 0 0] 24), pRd cStr 1 a3 L2.length (L2.map bT)]) (fun i _ _ => L2.length - (intOf i).toNat)
       case atStart => exact ⟨0, [], .slice none 0 0, by omega, rfl, rfl, rfl, fun _ => rfl, hS3⟩
       case round =>
        clear hS3
        obtain ⟨k, vals, sv, hk, rfl, rfl, hvl, hvs, hSr⟩ := hrel
        have HVL := hid hvl; have HVS := hid hvs
        clear hvl hvs
        by_cases hlt : k < L2.length
        ·have hat := atD_mapT L2 k hlt
         have hmem : atD [] L2 k ∈ L2 := by simp [atD, hlt]
         have htk : L2.take (k + 1) = L2.take k ++ [atD [] L2 k] := by rw [List.take_succ_eq_append_getElem hlt]; simp [atD, hlt]
         have CX := fun w hw => HCX.out (atD [] L2 k) w hw hmem
         obtain ⟨x, hx⟩ : ∃ x, x = atD [] L2 k := ⟨_, rfl⟩
         rw [← hx] at hat htk CX
         obtain ⟨xb, hxb⟩ : ∃ xb, xb = bT x := ⟨_, rfl⟩
         rw [← hxb] at hat CX
         have HAT := hid hat; have HTK := hid htk
         clear hat hmem htk hx hxb
         have hVr := hSr.rdR 3 rfl
         have hwr := hw.below hSr.b
         have hsl := hSr.slice 1 rfl
         obtain ⟨av, cv, rfl, _⟩ := hsl
         have hv9 : vals.length ≤ 4097 := by rw [HVL.out]; omega
         cases hix : intL x with
         | none =>
          rw [hix] at CX
          have HX := hid CX; have HIX := hid hix
          clear CX hix
          cases hbk : (true && (L2.take k).all okT)
          all_goals
           go_wp2_with ((with_reducible refine wpList_idxN _ ByteArray.empty E_strs F_str cStr1 wU wU (hVr) (HM2.out) oD oD (fun _ => wU) (fun _ => ?_)); rw [HAT.out])
           refine (HX.out _ hwr).mono ?_
           rintro e w5 ⟨nx, rfl, -, b5⟩
           have hS5 := hSr.mono b5
           have q5 := (hS5.blk 0 rfl).1
           go_wp2_with (first | (with_reducible refine wpList_ldB F_sliceM wU wU q5 wU ?_) | (((with_reducible refine wpList_pushL (y := nx) 1 E_ints wU wU (hS5) wU cIntO ⟨rfl, rfl⟩ (by first | with_unfolding_all rfl | simp) wU (by first | omega | (simp; omega)) (by first | omega | (simp; omega)) ?_); intro v6 w6 hS6); obtain ⟨a6, c6, rfl, _⟩ := hS6.slice 1 rfl) | ((with_reducible refine wpList_stoF 0 wU wU hS6 rfl rfl ?_); intro w7 hS7))
           have eL : (vals ++ [nx]).length = vals.length + 1 := by simp
           have hS8 := hS7
           simp only [eL] at hS8
           refine ⟨⟨k + 1, vals ++ [nx], .slice a6 (vals.length + 1) c6, by omega, by go_num, congrArg Value.bool (by rw [HTK.out, List.all_append]; simp [okT, HIX.out]), by rw [eL, HVL.out], fun h => ?_, hS8⟩, by simp [intOf]; omega⟩
           rw [HTK.out, List.all_append] at h
           simp [okT, HIX.out] at h
         | some nx =>
          rw [hix] at CX
          have HX := hid CX; have HIX := hid hix
          clear CX hix
          cases hbk : (true && (L2.take k).all okT)
          all_goals
           have HBK := hid hbk
           clear hbk
           go_wp2_with ((with_reducible refine wpList_idxN _ ByteArray.empty E_strs F_str cStr1 wU wU (hVr) (HM2.out) oD oD (fun _ => wU) (fun _ => ?_)); rw [HAT.out])
           refine (HX.out _ hwr).mono ?_
           rintro e w5 ⟨ny, rfl, hny, b5⟩
           have hny2 := hny nx rfl
           subst hny2
           clear hny
           have hS5 := hSr.mono b5
           have q5 := (hS5.blk 0 rfl).1
           go_wp2_with (first | (with_reducible refine wpList_ldB F_sliceM wU wU q5 wU ?_) | (((with_reducible refine wpList_pushL (y := (nx : Int)) 1 E_ints wU wU (hS5) wU cIntO ⟨rfl, rfl⟩ (by first | with_unfolding_all rfl | simp) wU (by first | omega | (simp; omega)) (by first | omega | (simp; omega)) ?_); intro v6 w6 hS6); obtain ⟨a6, c6, rfl, _⟩ := hS6.slice 1 rfl) | ((with_reducible refine wpList_stoF 0 wU wU hS6 rfl rfl ?_); intro w7 hS7))
           have eL : (vals ++ [(nx : Int)]).length = vals.length + 1 := by simp
           have hS8 := hS7
           simp only [eL] at hS8
           refine ⟨⟨k + 1, vals ++ [(nx : Int)], .slice a6 (vals.length + 1) c6, by omega, by go_num, congrArg Value.bool (by first | (have h0 := HBK.out; simp [HTK.out, List.all_append, okT, HIX.out] at h0 ⊢; done) | (have h0 := HBK.out; simp [HTK.out, List.all_append, okT, HIX.out] at h0 ⊢; simp [h0]; done) | (rw [← HBK.out]; simp [HTK.out, List.all_append, okT, HIX.out])), by rw [eL, HVL.out], fun h => ?_, hS8⟩, by simp [intOf]; omega⟩
           rw [HTK.out, List.all_append, Bool.and_eq_true] at h
           rw [HTK.out]
           exact intsL_snoc (HVS.out h.1) HIX.out
        ·have hkk : k = L2.length := by omega
         have htl : L2.take k = L2 := List.take_of_length_le (by omega)
         rw [htl]
         have hvs := HVS.out
         rw [htl] at hvs
         have his := intsL_isSome L2
         have hsl := hSr.slice 1 rfl
         obtain ⟨av, cv, rfl, hvR⟩ := hsl
         clear HVS htl hkk
         cases hall : L2.all okT
         ·have hin : intsL L2 = none := by
           rw [hall] at his
           cases h : intsL L2 with
           | none => rfl
           | some v => rw [h] at his; cases his
          have hR2 : R = (noM, 25) := by rw [HR.out, hin]
          have HR2 := hid hR2
          clear hin his hvs hR2
          go_wp2_with ((with_reducible refine wpList_stoR (us := #[.bool false, .int .i64 0, .int .i64 0, .slice none 0 0]) 2 wU wU (hSr) wU kR wU wU ?_); intro w6 hS6)
          exact bodyPost_ret (results_cellSlot rfl rfl rfl A_mach kR (hS6.blk 2 rfl).1) rfl (by rw [HR2.out]; exact RetMac.none (S := hS6.empty) rfl)
         ·have hR2 : R = (if macE ⟨false, (ng : Int), (-1), vals⟩ ≠ 0 then (noM, macE ⟨false, (ng : Int), (-1), vals⟩) else (⟨false, (ng : Int), (-1), vals⟩, 0)) := by rw [HR.out, hvs hall]
          have CK := fun w h => CheckMachine_any ⟨false, (ng : Int), (-1), vals⟩ av cv w h (by show InI (ng : Int); unfold InI; omega)
          obtain ⟨E, hE⟩ : ∃ E, E = macE ⟨false, (ng : Int), (-1), vals⟩ := ⟨_, rfl⟩
          rw [← hE] at CK hR2
          have HK := hid CK
          have q7 := (hSr.blk 0 rfl).1
          clear CK hE his hvs
          by_cases he : E = 0
          ·subst he
           rw [if_neg (by decide)] at hR2
           have HR2 := hid hR2
           clear hR2
           go_wp2_with (with_reducible refine wpList_ldS (n := 4) (us := #[.bool false, .int .i64 ng, .int .i64 (-1), .slice av vals.length cv]) A_mach kR wU wU (by assumption) wU wU ?_)
           refine (HK.out _ hvR).mono ?_
           rintro e w5 ⟨rfl, b5⟩
           have hS5 := hSr.mono b5
           have q8 := (hS5.blk 0 rfl).1
           clear q7
           go_wp2_with (first | (with_reducible refine wpList_ldS (n := 4) (us := #[.bool false, .int .i64 ng, .int .i64 (-1), .slice av vals.length cv]) A_mach kR wU wU (by assumption) wU wU ?_) | ((with_reducible refine wpList_stoR (us := #[.bool false, .int .i64 ng, .int .i64 (-1), .slice av vals.length cv]) 2 wU wU (hS5) wU kR wU wU ?_); intro w6 hS6))
           exact bodyPost_ret (results_cellSlot rfl rfl rfl A_mach kR (hS6.blk 2 rfl).1) rfl (by rw [HR2.out]; exact ⟨av, cv, rfl, hS6.one 1 rfl⟩)
          ·rw [if_pos he] at hR2
           have HR2 := hid hR2
           clear hR2
           have hne : (E != 0) = true := by simpa using he
           go_wp2_with (with_reducible refine wpList_ldS (n := 4) (us := #[.bool false, .int .i64 ng, .int .i64 (-1), .slice av vals.length cv]) A_mach kR wU wU (by assumption) wU wU ?_)
           refine (HK.out _ hvR).mono ?_
           rintro e w5 ⟨rfl, b5⟩
           have hS5 := hSr.mono b5
           clear q7
           go_wp2_with ((with_reducible refine wpList_stoR (us := #[.bool false, .int .i64 0, .int .i64 0, .slice none 0 0]) 2 wU wU (hS5) wU kR wU wU ?_); intro w6 hS6)
           exact bodyPost_ret (results_cellSlot rfl rfl rfl A_mach kR (hS6.blk 2 rfl).1) rfl (by rw [HR2.out]; exact RetMac.none (S := hS6.empty) rfl)
    ·rw [decide_eq_false ht4] at e4
     have hg : parseGo [k, g, t, w4] = (noM, 25) := by show (if _ then _ else _) = _; rw [if_pos (.inr ⟨ht3, ht4⟩)]
     rw [hg]
     clear hg hLB hK hT hk ht3 ht4
     go_enter Tryz.func36, Tryz.ntmps36
     go_wp2_with fail
     refine (HCS2.out _ (hw.below hS.b)).mono ?_
     rintro e w1 ⟨aw, rfl, hW, b1, hfr0⟩
     have hS1 := hS.mono b1
     go_wp2_with (first | ((with_reducible refine wpList_idxG ByteArray.empty E_strs F_str cStr1 wU wU (hW) (HLL.out) oD oD (fun _ => wU) wU (fun _ => wU) (fun _ => ?_)); first | rw [A0.out] | rw [A1.out] | rw [A2.out] | rw [A3.out]) | ((with_reducible refine wpList_stoR (us := #[.bool false, .int .i64 0, .int .i64 0, .slice none 0 0]) 0 wU wU (hS1) wU kR wU wU ?_); intro w2 hS2))
     exact bodyPost_ret (results_cellSlot rfl rfl rfl A_mach kR (hS2.blk 0 rfl).1) rfl (RetMac.none (S := hS2.empty) rfl)
  ·rw [decide_eq_false hk1] at e1
   by_cases hk2 : k = ringT
   ·rw [decide_eq_true hk2] at e2
    have hk := hk2
    clear hk1 hk2
    by_cases ht3 : t = [43]
    ·rw [decide_eq_true ht3] at e3
     have ht4 : t ≠ [45] := by rw [ht3]; decide
     rw [decide_eq_false ht4] at e4
     have ht := ht3
     clear ht3 ht4
     have hpg : parseGo [k, g, t, w4] = (match intL g, placesL w4 with
       | some n, some l => if macE ⟨true, n, 1, l⟩ ≠ 0 then (noM, macE ⟨true, n, 1, l⟩) else (⟨true, n, 1, l⟩, 0)
       | _, _ => (noM, 25)) := by
      rw [hk, ht]; rfl
     rw [hpg]
     have CD := fun w hw => mdecimal_any g w hw (by omega)
     have e5 : ((bT w4).toList == [110, 111, 110, 101]) = decide (w4 = noneT) := eqT2 w4 noneT
     have CC := fun w hw => splitC_any w4 w hw (by omega)
     obtain ⟨G, hG⟩ : ∃ G, G = bT g := ⟨_, rfl⟩
     obtain ⟨X, hX⟩ : ∃ X, X = bT w4 := ⟨_, rfl⟩
     rw [← hG] at A1 CD
     rw [← hX] at A3 e5 CC
     have HCD := hid CD; have HCC := hid CC
     clear CD CC hG hX hpg hLB hK hT hk ht
     by_cases hn : w4 = noneT
     ·have hpl : placesL w4 = some [] := by unfold placesL; rw [if_pos hn]
      rw [decide_eq_true hn] at e5
      rw [hpl]
      clear hpl hn
      cases hi : intL g with
      | none =>
       have hD := HCD.out
       rw [hi] at hD
       have HD := hid hD
       clear hD hi
       go_enter Tryz.func36, Tryz.ntmps36
       go_wp2_with fail
       refine (HCS2.out _ (hw.below hS.b)).mono ?_
       rintro e w1 ⟨aw, rfl, hW, b1, hfr0⟩
       have hS1 := hS.mono b1
       have hw1 := hw.below hS1.b
       go_wp2_with ((with_reducible refine wpList_idxG ByteArray.empty E_strs F_str cStr1 wU wU (hW) (HLL.out) oD oD (fun _ => wU) wU (fun _ => wU) (fun _ => ?_)); first | rw [A0.out] | rw [A1.out] | rw [A2.out] | rw [A3.out])
       refine (HD.out _ hw1).mono ?_
       rintro e w2 ⟨n, rfl, hnn, b2⟩
       clear hnn
       have hS2 := hS1.mono b2
       have hW2 := hW.below b2
       have hSm := hS2.box (.cells #[.bool true, .int .i64 n, .int .i64 1, .slice none 0 0] 24)
       have hW3 := hW2.alloc (.cells #[.bool true, .int .i64 n, .int .i64 1, .slice none 0 0] 24)
       go_wp2_with (first | ((with_reducible refine wpList_idxG ByteArray.empty E_strs F_str cStr1 wU wU (hW2) (HLL.out) oD oD (fun _ => wU) wU (fun _ => wU) (fun _ => ?_)); first | rw [A0.out] | rw [A1.out] | rw [A2.out] | rw [A3.out]) | ((with_reducible refine wpList_idxG ByteArray.empty E_strs F_str cStr1 wU wU (hW3) (HLL.out) oD oD (fun _ => wU) wU (fun _ => wU) (fun _ => ?_)); first | rw [A0.out] | rw [A1.out] | rw [A2.out] | rw [A3.out]) | ((with_reducible refine wpList_stoR (us := #[.bool false, .int .i64 0, .int .i64 0, .slice none 0 0]) 1 wU wU (hSm) wU kR wU wU ?_); intro w5 hS5))
       exact bodyPost_ret (results_cellSlot rfl rfl rfl A_mach kR (hS5.blk 1 rfl).1) rfl (RetMac.none (S := hS5.empty) rfl)
      | some ng =>
       have hb9 := (intL_canon hi).2.2.2.2.2
       have hD := HCD.out
       rw [hi] at hD
       have HD := hid hD
       clear hD hi
       simp only []
       have CK := fun w h => CheckMachine_any ⟨true, (ng : Int), 1, []⟩ none 0 w h (by show InI (ng : Int); unfold InI; omega)
       obtain ⟨E, hE⟩ : ∃ E, E = macE ⟨true, (ng : Int), 1, []⟩ := ⟨_, rfl⟩
       rw [← hE] at CK ⊢
       have HK := hid CK
       clear CK hE hb9
       by_cases he : E = 0
       ·subst he
        rw [if_neg (by decide)]
        go_enter Tryz.func36, Tryz.ntmps36
        go_wp2_with fail
        refine (HCS2.out _ (hw.below hS.b)).mono ?_
        rintro e w1 ⟨aw, rfl, hW, b1, hfr0⟩
        have hS1 := hS.mono b1
        have hw1 := hw.below hS1.b
        go_wp2_with ((with_reducible refine wpList_idxG ByteArray.empty E_strs F_str cStr1 wU wU (hW) (HLL.out) oD oD (fun _ => wU) wU (fun _ => wU) (fun _ => ?_)); first | rw [A0.out] | rw [A1.out] | rw [A2.out] | rw [A3.out])
        refine (HD.out _ hw1).mono ?_
        rintro e w2 ⟨n, rfl, hnn, b2⟩
        have hn2 := hnn ng rfl
        subst hn2
        clear hnn
        have hS2 := hS1.mono b2
        have hW2 := hW.below b2
        have hSm := hS2.box (.cells #[.bool true, .int .i64 ng, .int .i64 1, .slice none 0 0] 24)
        have hW3 := hW2.alloc (.cells #[.bool true, .int .i64 ng, .int .i64 1, .slice none 0 0] 24)
        have q7 := (hSm.blk 0 rfl).1
        go_wp2_with (first | ((with_reducible refine wpList_idxG ByteArray.empty E_strs F_str cStr1 wU wU (hW2) (HLL.out) oD oD (fun _ => wU) wU (fun _ => wU) (fun _ => ?_)); first | rw [A0.out] | rw [A1.out] | rw [A2.out] | rw [A3.out]) | ((with_reducible refine wpList_idxG ByteArray.empty E_strs F_str cStr1 wU wU (hW3) (HLL.out) oD oD (fun _ => wU) wU (fun _ => wU) (fun _ => ?_)); first | rw [A0.out] | rw [A1.out] | rw [A2.out] | rw [A3.out]) | (with_reducible refine wpList_ldS (n := 4) (us := #[.bool true, .int .i64 ng, .int .i64 1, .slice none 0 0]) A_mach kR wU wU (by assumption) wU wU ?_))
        refine (HK.out _ (ints_nil _)).mono ?_
        rintro e w5 ⟨rfl, b5⟩
        have hS5 := hSm.mono b5
        have q8 := (hS5.blk 0 rfl).1
        clear q7
        go_wp2_with (first | (with_reducible refine wpList_ldS (n := 4) (us := #[.bool true, .int .i64 ng, .int .i64 1, .slice none 0 0]) A_mach kR wU wU (by assumption) wU wU ?_) | ((with_reducible refine wpList_stoR (us := #[.bool true, .int .i64 ng, .int .i64 1, .slice none 0 0]) 1 wU wU (hS5) wU kR wU wU ?_); intro w6 hS6))
        exact bodyPost_ret (results_cellSlot rfl rfl rfl A_mach kR (hS6.blk 1 rfl).1) rfl ⟨none, 0, rfl, hS6.empty.nilS (α := Int) (c := cInt) (sz := 1) (e := 3) cIntS⟩
       ·rw [if_pos he]
        have hne : (E != 0) = true := by simpa using he
        go_enter Tryz.func36, Tryz.ntmps36
        go_wp2_with fail
        refine (HCS2.out _ (hw.below hS.b)).mono ?_
        rintro e w1 ⟨aw, rfl, hW, b1, hfr0⟩
        have hS1 := hS.mono b1
        have hw1 := hw.below hS1.b
        go_wp2_with ((with_reducible refine wpList_idxG ByteArray.empty E_strs F_str cStr1 wU wU (hW) (HLL.out) oD oD (fun _ => wU) wU (fun _ => wU) (fun _ => ?_)); first | rw [A0.out] | rw [A1.out] | rw [A2.out] | rw [A3.out])
        refine (HD.out _ hw1).mono ?_
        rintro e w2 ⟨n, rfl, hnn, b2⟩
        have hn2 := hnn ng rfl
        subst hn2
        clear hnn
        have hS2 := hS1.mono b2
        have hW2 := hW.below b2
        have hSm := hS2.box (.cells #[.bool true, .int .i64 ng, .int .i64 1, .slice none 0 0] 24)
        have hW3 := hW2.alloc (.cells #[.bool true, .int .i64 ng, .int .i64 1, .slice none 0 0] 24)
        have q7 := (hSm.blk 0 rfl).1
        go_wp2_with (first | ((with_reducible refine wpList_idxG ByteArray.empty E_strs F_str cStr1 wU wU (hW2) (HLL.out) oD oD (fun _ => wU) wU (fun _ => wU) (fun _ => ?_)); first | rw [A0.out] | rw [A1.out] | rw [A2.out] | rw [A3.out]) | ((with_reducible refine wpList_idxG ByteArray.empty E_strs F_str cStr1 wU wU (hW3) (HLL.out) oD oD (fun _ => wU) wU (fun _ => wU) (fun _ => ?_)); first | rw [A0.out] | rw [A1.out] | rw [A2.out] | rw [A3.out]) | (with_reducible refine wpList_ldS (n := 4) (us := #[.bool true, .int .i64 ng, .int .i64 1, .slice none 0 0]) A_mach kR wU wU (by assumption) wU wU ?_))
        refine (HK.out _ (ints_nil _)).mono ?_
        rintro e w5 ⟨rfl, b5⟩
        have hS5 := hSm.mono b5
        clear q7
        go_wp2_with ((with_reducible refine wpList_stoR (us := #[.bool false, .int .i64 0, .int .i64 0, .slice none 0 0]) 1 wU wU (hS5) wU kR wU wU ?_); intro w6 hS6)
        exact bodyPost_ret (results_cellSlot rfl rfl rfl A_mach kR (hS6.blk 1 rfl).1) rfl (RetMac.none (S := hS6.empty) rfl)
     ·rw [decide_eq_false hn] at e5
      have hpl : placesL w4 = intsL (spl 44 w4) := by unfold placesL; rw [if_neg hn]
      rw [hpl]
      have hl2 := splR_len 44 w4 []
      have hs2 := spl_sum 44 w4 []
      have hC2 := HCC.out
      obtain ⟨L2, hL2⟩ : ∃ L2, L2 = spl 44 w4 := ⟨_, rfl⟩
      rw [show splR 44 [] w4 = L2 from hL2.symm] at hl2 hs2
      rw [← hL2] at hC2 ⊢
      have HC2 := hid hC2
      have hM2 : (L2.map bT).length = L2.length := by simp
      have HM2 := hid hM2
      have hl9 : L2.length ≤ 4097 := by omega
      have CX := fun (x : List UInt8) w (hw : LibW w) (h : x ∈ L2) => mdecimal_any x w hw (by have := hs2 x h; simp only [List.length_nil, Nat.zero_add] at this; omega)
      have HCX := hid CX
      clear hpl hn hL2 hC2 hM2 hl2 hs2 CX HCC
      cases hi : intL g with
      | none =>
       have hD := HCD.out
       rw [hi] at hD
       have HD := hid hD
       have hres : (match (none : Option Nat), intsL L2 with | some n, some l => if macE ⟨true, n, 1, l⟩ ≠ 0 then (noM, macE ⟨true, n, 1, l⟩) else (⟨true, n, 1, l⟩, 0) | _, _ => (noM, 25)) = ((noM, 25) : MacV × Int) := by cases intsL L2 <;> rfl
       rw [hres]
       clear hD hi hres
       go_enter Tryz.func36, Tryz.ntmps36
       go_wp2_with fail
       refine (HCS2.out _ (hw.below hS.b)).mono ?_
       rintro e w1 ⟨aw, rfl, hW, b1, hfr0⟩
       have hS1 := hS.mono b1
       have hw1 := hw.below hS1.b
       go_wp2_with ((with_reducible refine wpList_idxG ByteArray.empty E_strs F_str cStr1 wU wU (hW) (HLL.out) oD oD (fun _ => wU) wU (fun _ => wU) (fun _ => ?_)); first | rw [A0.out] | rw [A1.out] | rw [A2.out] | rw [A3.out])
       refine (HD.out _ hw1).mono ?_
       rintro e w2 ⟨n, rfl, hnn, b2⟩
       clear hnn
       have hS2 := hS1.mono b2
       have hW2 := hW.below b2
       have hSm := hS2.box (.cells #[.bool true, .int .i64 n, .int .i64 1, .slice none 0 0] 24)
       have hW3 := hW2.alloc (.cells #[.bool true, .int .i64 n, .int .i64 1, .slice none 0 0] 24)
       go_wp2_with (first | ((with_reducible refine wpList_idxG ByteArray.empty E_strs F_str cStr1 wU wU (hW2) (HLL.out) oD oD (fun _ => wU) wU (fun _ => wU) (fun _ => ?_)); first | rw [A0.out] | rw [A1.out] | rw [A2.out] | rw [A3.out]) | ((with_reducible refine wpList_idxG ByteArray.empty E_strs F_str cStr1 wU wU (hW3) (HLL.out) oD oD (fun _ => wU) wU (fun _ => wU) (fun _ => ?_)); first | rw [A0.out] | rw [A1.out] | rw [A2.out] | rw [A3.out]))
       refine (HC2.out _ (hw.below hSm.b)).mono ?_
       rintro e w3 ⟨a3, rfl, hV, b3, hfr⟩
       obtain ⟨b7, hb7⟩ : ∃ b7, b7 = w2.heap.size := ⟨_, rfl⟩
       have hS3 := ((hSm.newRd b3 hV (by decide) hfr).nilS (α := Int) (c := cInt) (sz := 1) (e := 3) cIntS).pick [2, 0, 3, 1] (by decide) [pBlk b7 (.cells #[.bool true, .int .i64 n, .int .i64 1, .slice none 0 0] 24), pOwn cInt 1 3 (.slice none 0 0) [], pBlk w.heap.size (.cells #[.bool false, .int .i64 0, .int .i64 0, .slice none 0 0] 24), pRd cStr 1 a3 L2.length (L2.map bT)] (by rw [hb7]; rfl)
       rw [← hb7]
       clear hb7 hSm hS1 hS2 hW hW2 hW3 hw1 HCS2 HD HC2
       go_wp2_with fail
       go_loopw [74, 6] (fun i okv wr => ∃ (k : Nat) (vals : List Int) (sv : Value), k ≤ L2.length ∧ i = .int .i64 k ∧ okv = .bool (false && (L2.take k).all okT) ∧ vals.length = k ∧ ((L2.take k).all okT = true → intsL (L2.take k) = some vals) ∧ SL w.heap.size w wr [pBlk b7 (.cells #[.bool true, .int .i64 n, .int .i64 1, sv] 24), pOwn cInt 1 3 sv vals, pBlk w.heap.size (.cells #[.bool false, .int .i64 0, .int .i64 0, .slice none 0 0] 24), pRd cStr 1 a3 L2.length (L2.map bT)]) (fun i _ _ => L2.length - (intOf i).toNat)
       case atStart => exact ⟨0, [], .slice none 0 0, by omega, rfl, rfl, rfl, fun _ => rfl, hS3⟩
       case round =>
        clear hS3
        obtain ⟨k, vals, sv, hk, rfl, rfl, hvl, hvs, hSr⟩ := hrel
        have HVL := hid hvl; have HVS := hid hvs
        clear hvl hvs
        by_cases hlt : k < L2.length
        ·have hat := atD_mapT L2 k hlt
         have hmem : atD [] L2 k ∈ L2 := by simp [atD, hlt]
         have htk : L2.take (k + 1) = L2.take k ++ [atD [] L2 k] := by rw [List.take_succ_eq_append_getElem hlt]; simp [atD, hlt]
         have CX := fun w hw => HCX.out (atD [] L2 k) w hw hmem
         obtain ⟨x, hx⟩ : ∃ x, x = atD [] L2 k := ⟨_, rfl⟩
         rw [← hx] at hat htk CX
         obtain ⟨xb, hxb⟩ : ∃ xb, xb = bT x := ⟨_, rfl⟩
         rw [← hxb] at hat CX
         have HAT := hid hat; have HTK := hid htk
         clear hat hmem htk hx hxb
         have hVr := hSr.rdR 3 rfl
         have hwr := hw.below hSr.b
         have hsl := hSr.slice 1 rfl
         obtain ⟨av, cv, rfl, _⟩ := hsl
         have hv9 : vals.length ≤ 4097 := by rw [HVL.out]; omega
         cases hix : intL x with
         | none =>
          rw [hix] at CX
          have HX := hid CX; have HIX := hid hix
          clear CX hix
          cases hbk : (false && (L2.take k).all okT)
          all_goals
           go_wp2_with ((with_reducible refine wpList_idxN _ ByteArray.empty E_strs F_str cStr1 wU wU (hVr) (HM2.out) oD oD (fun _ => wU) (fun _ => ?_)); rw [HAT.out])
           refine (HX.out _ hwr).mono ?_
           rintro e w5 ⟨nx, rfl, -, b5⟩
           have hS5 := hSr.mono b5
           have q5 := (hS5.blk 0 rfl).1
           go_wp2_with (first | (with_reducible refine wpList_ldB F_sliceM wU wU q5 wU ?_) | (((with_reducible refine wpList_pushL (y := nx) 1 E_ints wU wU (hS5) wU cIntO ⟨rfl, rfl⟩ (by first | with_unfolding_all rfl | simp) wU (by first | omega | (simp; omega)) (by first | omega | (simp; omega)) ?_); intro v6 w6 hS6); obtain ⟨a6, c6, rfl, _⟩ := hS6.slice 1 rfl) | ((with_reducible refine wpList_stoF 0 wU wU hS6 rfl rfl ?_); intro w7 hS7))
           have eL : (vals ++ [nx]).length = vals.length + 1 := by simp
           have hS8 := hS7
           simp only [eL] at hS8
           refine ⟨⟨k + 1, vals ++ [nx], .slice a6 (vals.length + 1) c6, by omega, by go_num, congrArg Value.bool (by rw [HTK.out, List.all_append]; simp [okT, HIX.out]), by rw [eL, HVL.out], fun h => ?_, hS8⟩, by simp [intOf]; omega⟩
           rw [HTK.out, List.all_append] at h
           simp [okT, HIX.out] at h
         | some nx =>
          rw [hix] at CX
          have HX := hid CX; have HIX := hid hix
          clear CX hix
          cases hbk : (false && (L2.take k).all okT)
          all_goals
           have HBK := hid hbk
           clear hbk
           go_wp2_with ((with_reducible refine wpList_idxN _ ByteArray.empty E_strs F_str cStr1 wU wU (hVr) (HM2.out) oD oD (fun _ => wU) (fun _ => ?_)); rw [HAT.out])
           refine (HX.out _ hwr).mono ?_
           rintro e w5 ⟨ny, rfl, hny, b5⟩
           have hny2 := hny nx rfl
           subst hny2
           clear hny
           have hS5 := hSr.mono b5
           have q5 := (hS5.blk 0 rfl).1
           go_wp2_with (first | (with_reducible refine wpList_ldB F_sliceM wU wU q5 wU ?_) | (((with_reducible refine wpList_pushL (y := (nx : Int)) 1 E_ints wU wU (hS5) wU cIntO ⟨rfl, rfl⟩ (by first | with_unfolding_all rfl | simp) wU (by first | omega | (simp; omega)) (by first | omega | (simp; omega)) ?_); intro v6 w6 hS6); obtain ⟨a6, c6, rfl, _⟩ := hS6.slice 1 rfl) | ((with_reducible refine wpList_stoF 0 wU wU hS6 rfl rfl ?_); intro w7 hS7))
           have eL : (vals ++ [(nx : Int)]).length = vals.length + 1 := by simp
           have hS8 := hS7
           simp only [eL] at hS8
           refine ⟨⟨k + 1, vals ++ [(nx : Int)], .slice a6 (vals.length + 1) c6, by omega, by go_num, congrArg Value.bool (by first | (have h0 := HBK.out; simp [HTK.out, List.all_append, okT, HIX.out] at h0 ⊢; done) | (have h0 := HBK.out; simp [HTK.out, List.all_append, okT, HIX.out] at h0 ⊢; simp [h0]; done) | (rw [← HBK.out]; simp [HTK.out, List.all_append, okT, HIX.out])), by rw [eL, HVL.out], fun h => ?_, hS8⟩, by simp [intOf]; omega⟩
           rw [HTK.out, List.all_append, Bool.and_eq_true] at h
           rw [HTK.out]
           exact intsL_snoc (HVS.out h.1) HIX.out
        ·have hkk : k = L2.length := by omega
         have htl : L2.take k = L2 := List.take_of_length_le (by omega)
         rw [htl]
         have hvs := HVS.out
         rw [htl] at hvs
         have his := intsL_isSome L2
         have hsl := hSr.slice 1 rfl
         obtain ⟨av, cv, rfl, hvR⟩ := hsl
         clear HVS htl hkk
         go_wp2_with ((with_reducible refine wpList_stoR (us := #[.bool false, .int .i64 0, .int .i64 0, .slice none 0 0]) 2 wU wU (hSr) wU kR wU wU ?_); intro w6 hS6)
         exact bodyPost_ret (results_cellSlot rfl rfl rfl A_mach kR (hS6.blk 2 rfl).1) rfl (RetMac.none (S := hS6.empty) rfl)
      | some ng =>
       have hb9 := (intL_canon hi).2.2.2.2.2
       have hD := HCD.out
       rw [hi] at hD
       have HD := hid hD
       obtain ⟨R, hR⟩ : ∃ R : MacV × Int, R = (match (some ng : Option Nat), intsL L2 with | some n, some l => if macE ⟨true, n, 1, l⟩ ≠ 0 then (noM, macE ⟨true, n, 1, l⟩) else (⟨true, n, 1, l⟩, 0) | _, _ => (noM, 25)) := ⟨_, rfl⟩
       rw [← hR]
       have HR := hid hR
       clear hD hi hR
       go_enter Tryz.func36, Tryz.ntmps36
       go_wp2_with fail
       refine (HCS2.out _ (hw.below hS.b)).mono ?_
       rintro e w1 ⟨aw, rfl, hW, b1, hfr0⟩
       have hS1 := hS.mono b1
       have hw1 := hw.below hS1.b
       go_wp2_with ((with_reducible refine wpList_idxG ByteArray.empty E_strs F_str cStr1 wU wU (hW) (HLL.out) oD oD (fun _ => wU) wU (fun _ => wU) (fun _ => ?_)); first | rw [A0.out] | rw [A1.out] | rw [A2.out] | rw [A3.out])
       refine (HD.out _ hw1).mono ?_
       rintro e w2 ⟨n, rfl, hnn, b2⟩
       have hn2 := hnn ng rfl
       subst hn2
       clear hnn
       have hS2 := hS1.mono b2
       have hW2 := hW.below b2
       have hSm := hS2.box (.cells #[.bool true, .int .i64 ng, .int .i64 1, .slice none 0 0] 24)
       have hW3 := hW2.alloc (.cells #[.bool true, .int .i64 ng, .int .i64 1, .slice none 0 0] 24)
       go_wp2_with (first | ((with_reducible refine wpList_idxG ByteArray.empty E_strs F_str cStr1 wU wU (hW2) (HLL.out) oD oD (fun _ => wU) wU (fun _ => wU) (fun _ => ?_)); first | rw [A0.out] | rw [A1.out] | rw [A2.out] | rw [A3.out]) | ((with_reducible refine wpList_idxG ByteArray.empty E_strs F_str cStr1 wU wU (hW3) (HLL.out) oD oD (fun _ => wU) wU (fun _ => wU) (fun _ => ?_)); first | rw [A0.out] | rw [A1.out] | rw [A2.out] | rw [A3.out]))
       refine (HC2.out _ (hw.below hSm.b)).mono ?_
       rintro e w3 ⟨a3, rfl, hV, b3, hfr⟩
       obtain ⟨b7, hb7⟩ : ∃ b7, b7 = w2.heap.size := ⟨_, rfl⟩
       have hS3 := ((hSm.newRd b3 hV (by decide) hfr).nilS (α := Int) (c := cInt) (sz := 1) (e := 3) cIntS).pick [2, 0, 3, 1] (by decide) [pBlk b7 (.cells #[.bool true, .int .i64 ng, .int .i64 1, .slice none 0 0] 24), pOwn cInt 1 3 (.slice none 0 0) [], pBlk w.heap.size (.cells #[.bool false, .int .i64 0, .int .i64 0, .slice none 0 0] 24), pRd cStr 1 a3 L2.length (L2.map bT)] (by rw [hb7]; rfl)
       rw [← hb7]
       clear hb7 hSm hS1 hS2 hW hW2 hW3 hw1 HCS2 HD HC2
       go_wp2_with fail
       go_loopw [74, 6] (fun i okv wr => ∃ (k : Nat) (vals : List Int) (sv : Value), k ≤ L2.length ∧ i = .int .i64 k ∧ okv = .bool (true && (L2.take k).all okT) ∧ vals.length = k ∧ ((L2.take k).all okT = true → intsL (L2.take k) = some vals) ∧ SL w.heap.size w wr [pBlk b7 (.cells #[.bool true, .int .i64 ng, .int .i64 1, sv] 24), pOwn cInt 1 3 sv vals, pBlk w.heap.size (.cells #[.bool false, .int .i64 0, .int .i64 0, .slice none 0 0] 24), pRd cStr 1 a3 L2.length (L2.map bT)]) (fun i _ _ => L2.length - (intOf i).toNat)
       case atStart => exact ⟨0, [], .slice none 0 0, by omega, rfl, rfl, rfl, fun _ => rfl, hS3⟩
       case round =>
        clear hS3
        obtain ⟨k, vals, sv, hk, rfl, rfl, hvl, hvs, hSr⟩ := hrel
        have HVL := hid hvl; have HVS := hid hvs
        clear hvl hvs
        by_cases hlt : k < L2.length
        ·have hat := atD_mapT L2 k hlt
         have hmem : atD [] L2 k ∈ L2 := by simp [atD, hlt]
         have htk : L2.take (k + 1) = L2.take k ++ [atD [] L2 k] := by rw [List.take_succ_eq_append_getElem hlt]; simp [atD, hlt]
         have CX := fun w hw => HCX.out (atD [] L2 k) w hw hmem
         obtain ⟨x, hx⟩ : ∃ x, x = atD [] L2 k := ⟨_, rfl⟩
         rw [← hx] at hat htk CX
         obtain ⟨xb, hxb⟩ : ∃ xb, xb = bT x := ⟨_, rfl⟩
         rw [← hxb] at hat CX
         have HAT := hid hat; have HTK := hid htk
         clear hat hmem htk hx hxb
         have hVr := hSr.rdR 3 rfl
         have hwr := hw.below hSr.b
         have hsl := hSr.slice 1 rfl
         obtain ⟨av, cv, rfl, _⟩ := hsl
         have hv9 : vals.length ≤ 4097 := by rw [HVL.out]; omega
         cases hix : intL x with
         | none =>
          rw [hix] at CX
          have HX := hid CX; have HIX := hid hix
          clear CX hix
          cases hbk : (true && (L2.take k).all okT)
          all_goals
           go_wp2_with ((with_reducible refine wpList_idxN _ ByteArray.empty E_strs F_str cStr1 wU wU (hVr) (HM2.out) oD oD (fun _ => wU) (fun _ => ?_)); rw [HAT.out])
           refine (HX.out _ hwr).mono ?_
           rintro e w5 ⟨nx, rfl, -, b5⟩
           have hS5 := hSr.mono b5
           have q5 := (hS5.blk 0 rfl).1
           go_wp2_with (first | (with_reducible refine wpList_ldB F_sliceM wU wU q5 wU ?_) | (((with_reducible refine wpList_pushL (y := nx) 1 E_ints wU wU (hS5) wU cIntO ⟨rfl, rfl⟩ (by first | with_unfolding_all rfl | simp) wU (by first | omega | (simp; omega)) (by first | omega | (simp; omega)) ?_); intro v6 w6 hS6); obtain ⟨a6, c6, rfl, _⟩ := hS6.slice 1 rfl) | ((with_reducible refine wpList_stoF 0 wU wU hS6 rfl rfl ?_); intro w7 hS7))
           have eL : (vals ++ [nx]).length = vals.length + 1 := by simp
           have hS8 := hS7
           simp only [eL] at hS8
           refine ⟨⟨k + 1, vals ++ [nx], .slice a6 (vals.length + 1) c6, by omega, by go_num, congrArg Value.bool (by rw [HTK.out, List.all_append]; simp [okT, HIX.out]), by rw [eL, HVL.out], fun h => ?_, hS8⟩, by simp [intOf]; omega⟩
           rw [HTK.out, List.all_append] at h
           simp [okT, HIX.out] at h
         | some nx =>
          rw [hix] at CX
          have HX := hid CX; have HIX := hid hix
          clear CX hix
          cases hbk : (true && (L2.take k).all okT)
          all_goals
           have HBK := hid hbk
           clear hbk
           go_wp2_with ((with_reducible refine wpList_idxN _ ByteArray.empty E_strs F_str cStr1 wU wU (hVr) (HM2.out) oD oD (fun _ => wU) (fun _ => ?_)); rw [HAT.out])
           refine (HX.out _ hwr).mono ?_
           rintro e w5 ⟨ny, rfl, hny, b5⟩
           have hny2 := hny nx rfl
           subst hny2
           clear hny
           have hS5 := hSr.mono b5
           have q5 := (hS5.blk 0 rfl).1
           go_wp2_with (first | (with_reducible refine wpList_ldB F_sliceM wU wU q5 wU ?_) | (((with_reducible refine wpList_pushL (y := (nx : Int)) 1 E_ints wU wU (hS5) wU cIntO ⟨rfl, rfl⟩ (by first | with_unfolding_all rfl | simp) wU (by first | omega | (simp; omega)) (by first | omega | (simp; omega)) ?_); intro v6 w6 hS6); obtain ⟨a6, c6, rfl, _⟩ := hS6.slice 1 rfl) | ((with_reducible refine wpList_stoF 0 wU wU hS6 rfl rfl ?_); intro w7 hS7))
           have eL : (vals ++ [(nx : Int)]).length = vals.length + 1 := by simp
           have hS8 := hS7
           simp only [eL] at hS8
           refine ⟨⟨k + 1, vals ++ [(nx : Int)], .slice a6 (vals.length + 1) c6, by omega, by go_num, congrArg Value.bool (by first | (have h0 := HBK.out; simp [HTK.out, List.all_append, okT, HIX.out] at h0 ⊢; done) | (have h0 := HBK.out; simp [HTK.out, List.all_append, okT, HIX.out] at h0 ⊢; simp [h0]; done) | (rw [← HBK.out]; simp [HTK.out, List.all_append, okT, HIX.out])), by rw [eL, HVL.out], fun h => ?_, hS8⟩, by simp [intOf]; omega⟩
           rw [HTK.out, List.all_append, Bool.and_eq_true] at h
           rw [HTK.out]
           exact intsL_snoc (HVS.out h.1) HIX.out
        ·have hkk : k = L2.length := by omega
         have htl : L2.take k = L2 := List.take_of_length_le (by omega)
         rw [htl]
         have hvs := HVS.out
         rw [htl] at hvs
         have his := intsL_isSome L2
         have hsl := hSr.slice 1 rfl
         obtain ⟨av, cv, rfl, hvR⟩ := hsl
         clear HVS htl hkk
         cases hall : L2.all okT
         ·have hin : intsL L2 = none := by
           rw [hall] at his
           cases h : intsL L2 with
           | none => rfl
           | some v => rw [h] at his; cases his
          have hR2 : R = (noM, 25) := by rw [HR.out, hin]
          have HR2 := hid hR2
          clear hin his hvs hR2
          go_wp2_with ((with_reducible refine wpList_stoR (us := #[.bool false, .int .i64 0, .int .i64 0, .slice none 0 0]) 2 wU wU (hSr) wU kR wU wU ?_); intro w6 hS6)
          exact bodyPost_ret (results_cellSlot rfl rfl rfl A_mach kR (hS6.blk 2 rfl).1) rfl (by rw [HR2.out]; exact RetMac.none (S := hS6.empty) rfl)
         ·have hR2 : R = (if macE ⟨true, (ng : Int), 1, vals⟩ ≠ 0 then (noM, macE ⟨true, (ng : Int), 1, vals⟩) else (⟨true, (ng : Int), 1, vals⟩, 0)) := by rw [HR.out, hvs hall]
          have CK := fun w h => CheckMachine_any ⟨true, (ng : Int), 1, vals⟩ av cv w h (by show InI (ng : Int); unfold InI; omega)
          obtain ⟨E, hE⟩ : ∃ E, E = macE ⟨true, (ng : Int), 1, vals⟩ := ⟨_, rfl⟩
          rw [← hE] at CK hR2
          have HK := hid CK
          have q7 := (hSr.blk 0 rfl).1
          clear CK hE his hvs
          by_cases he : E = 0
          ·subst he
           rw [if_neg (by decide)] at hR2
           have HR2 := hid hR2
           clear hR2
           go_wp2_with (with_reducible refine wpList_ldS (n := 4) (us := #[.bool true, .int .i64 ng, .int .i64 1, .slice av vals.length cv]) A_mach kR wU wU (by assumption) wU wU ?_)
           refine (HK.out _ hvR).mono ?_
           rintro e w5 ⟨rfl, b5⟩
           have hS5 := hSr.mono b5
           have q8 := (hS5.blk 0 rfl).1
           clear q7
           go_wp2_with (first | (with_reducible refine wpList_ldS (n := 4) (us := #[.bool true, .int .i64 ng, .int .i64 1, .slice av vals.length cv]) A_mach kR wU wU (by assumption) wU wU ?_) | ((with_reducible refine wpList_stoR (us := #[.bool true, .int .i64 ng, .int .i64 1, .slice av vals.length cv]) 2 wU wU (hS5) wU kR wU wU ?_); intro w6 hS6))
           exact bodyPost_ret (results_cellSlot rfl rfl rfl A_mach kR (hS6.blk 2 rfl).1) rfl (by rw [HR2.out]; exact ⟨av, cv, rfl, hS6.one 1 rfl⟩)
          ·rw [if_pos he] at hR2
           have HR2 := hid hR2
           clear hR2
           have hne : (E != 0) = true := by simpa using he
           go_wp2_with (with_reducible refine wpList_ldS (n := 4) (us := #[.bool true, .int .i64 ng, .int .i64 1, .slice av vals.length cv]) A_mach kR wU wU (by assumption) wU wU ?_)
           refine (HK.out _ hvR).mono ?_
           rintro e w5 ⟨rfl, b5⟩
           have hS5 := hSr.mono b5
           clear q7
           go_wp2_with ((with_reducible refine wpList_stoR (us := #[.bool false, .int .i64 0, .int .i64 0, .slice none 0 0]) 2 wU wU (hS5) wU kR wU wU ?_); intro w6 hS6)
           exact bodyPost_ret (results_cellSlot rfl rfl rfl A_mach kR (hS6.blk 2 rfl).1) rfl (by rw [HR2.out]; exact RetMac.none (S := hS6.empty) rfl)
    ·rw [decide_eq_false ht3] at e3
     by_cases ht4 : t = [45]
     ·rw [decide_eq_true ht4] at e4
      have ht := ht4
      clear ht3 ht4
      have hpg : parseGo [k, g, t, w4] = (match intL g, placesL w4 with
        | some n, some l => if macE ⟨true, n, (-1), l⟩ ≠ 0 then (noM, macE ⟨true, n, (-1), l⟩) else (⟨true, n, (-1), l⟩, 0)
        | _, _ => (noM, 25)) := by
       rw [hk, ht]; rfl
      rw [hpg]
      have CD := fun w hw => mdecimal_any g w hw (by omega)
      have e5 : ((bT w4).toList == [110, 111, 110, 101]) = decide (w4 = noneT) := eqT2 w4 noneT
      have CC := fun w hw => splitC_any w4 w hw (by omega)
      obtain ⟨G, hG⟩ : ∃ G, G = bT g := ⟨_, rfl⟩
      obtain ⟨X, hX⟩ : ∃ X, X = bT w4 := ⟨_, rfl⟩
      rw [← hG] at A1 CD
      rw [← hX] at A3 e5 CC
      have HCD := hid CD; have HCC := hid CC
      clear CD CC hG hX hpg hLB hK hT hk ht
      by_cases hn : w4 = noneT
      ·have hpl : placesL w4 = some [] := by unfold placesL; rw [if_pos hn]
       rw [decide_eq_true hn] at e5
       rw [hpl]
       clear hpl hn
       cases hi : intL g with
       | none =>
        have hD := HCD.out
        rw [hi] at hD
        have HD := hid hD
        clear hD hi
        go_enter Tryz.func36, Tryz.ntmps36
        go_wp2_with fail
        refine (HCS2.out _ (hw.below hS.b)).mono ?_
        rintro e w1 ⟨aw, rfl, hW, b1, hfr0⟩
        have hS1 := (hS.newRd b1 hW (by decide) hfr0).pick [1, 0] (by decide) [pBlk w.heap.size (.cells #[.bool false, .int .i64 0, .int .i64 0, .slice none 0 0] 24), pRd cStr 1 aw 4 LB] rfl
        have hw1 := hw.below hS1.b
        go_wp2_with ((with_reducible refine wpList_idxG ByteArray.empty E_strs F_str cStr1 wU wU (hW) (HLL.out) oD oD (fun _ => wU) wU (fun _ => wU) (fun _ => ?_)); first | rw [A0.out] | rw [A1.out] | rw [A2.out] | rw [A3.out])
        refine (HD.out _ hw1).mono ?_
        rintro e w2 ⟨n, rfl, hnn, b2⟩
        clear hnn
        have hS2 := hS1.mono b2
        have hW2 := hW.below b2
        have hSm := hS2.box (.cells #[.bool true, .int .i64 n, .int .i64 1, .slice none 0 0] 24)
        have hW3 := hW2.alloc (.cells #[.bool true, .int .i64 n, .int .i64 1, .slice none 0 0] 24)
        go_wp2_with (first | ((with_reducible refine wpList_stoFi 0 wU wU hSm rfl rfl ?_); intro w4 hSm2; have hSm2 : SL w.heap.size w w4 [pBlk w2.heap.size (.cells #[.bool true, .int .i64 n, .int .i64 (-1), .slice none 0 0] 24), pBlk w.heap.size (.cells #[.bool false, .int .i64 0, .int .i64 0, .slice none 0 0] 24), pRd cStr 1 aw 4 LB] := hSm2; have hW4 := hSm2.rdR 2 rfl; have q7 := (hSm2.blk 0 rfl).1; clear hSm) | ((with_reducible refine wpList_idxG ByteArray.empty E_strs F_str cStr1 wU wU (hW2) (HLL.out) oD oD (fun _ => wU) wU (fun _ => wU) (fun _ => ?_)); first | rw [A0.out] | rw [A1.out] | rw [A2.out] | rw [A3.out]) | ((with_reducible refine wpList_idxG ByteArray.empty E_strs F_str cStr1 wU wU (hW3) (HLL.out) oD oD (fun _ => wU) wU (fun _ => wU) (fun _ => ?_)); first | rw [A0.out] | rw [A1.out] | rw [A2.out] | rw [A3.out]) | ((with_reducible refine wpList_idxN _ ByteArray.empty E_strs F_str cStr1 wU wU (hW4) (HLL.out) oD oD (fun _ => wU) (fun _ => ?_)); first | rw [A0.out] | rw [A1.out] | rw [A2.out] | rw [A3.out]) | ((with_reducible refine wpList_stoR (us := #[.bool false, .int .i64 0, .int .i64 0, .slice none 0 0]) 1 wU wU (hSm2) wU kR wU wU ?_); intro w5 hS5))
        exact bodyPost_ret (results_cellSlot rfl rfl rfl A_mach kR (hS5.blk 1 rfl).1) rfl (RetMac.none (S := hS5.empty) rfl)
       | some ng =>
        have hb9 := (intL_canon hi).2.2.2.2.2
        have hD := HCD.out
        rw [hi] at hD
        have HD := hid hD
        clear hD hi
        simp only []
        have CK := fun w h => CheckMachine_any ⟨true, (ng : Int), (-1), []⟩ none 0 w h (by show InI (ng : Int); unfold InI; omega)
        obtain ⟨E, hE⟩ : ∃ E, E = macE ⟨true, (ng : Int), (-1), []⟩ := ⟨_, rfl⟩
        rw [← hE] at CK ⊢
        have HK := hid CK
        clear CK hE hb9
        by_cases he : E = 0
        ·subst he
         rw [if_neg (by decide)]
         go_enter Tryz.func36, Tryz.ntmps36
         go_wp2_with fail
         refine (HCS2.out _ (hw.below hS.b)).mono ?_
         rintro e w1 ⟨aw, rfl, hW, b1, hfr0⟩
         have hS1 := (hS.newRd b1 hW (by decide) hfr0).pick [1, 0] (by decide) [pBlk w.heap.size (.cells #[.bool false, .int .i64 0, .int .i64 0, .slice none 0 0] 24), pRd cStr 1 aw 4 LB] rfl
         have hw1 := hw.below hS1.b
         go_wp2_with ((with_reducible refine wpList_idxG ByteArray.empty E_strs F_str cStr1 wU wU (hW) (HLL.out) oD oD (fun _ => wU) wU (fun _ => wU) (fun _ => ?_)); first | rw [A0.out] | rw [A1.out] | rw [A2.out] | rw [A3.out])
         refine (HD.out _ hw1).mono ?_
         rintro e w2 ⟨n, rfl, hnn, b2⟩
         have hn2 := hnn ng rfl
         subst hn2
         clear hnn
         have hS2 := hS1.mono b2
         have hW2 := hW.below b2
         have hSm := hS2.box (.cells #[.bool true, .int .i64 ng, .int .i64 1, .slice none 0 0] 24)
         have hW3 := hW2.alloc (.cells #[.bool true, .int .i64 ng, .int .i64 1, .slice none 0 0] 24)
         go_wp2_with (first | ((with_reducible refine wpList_stoFi 0 wU wU hSm rfl rfl ?_); intro w4 hSm2; have hSm2 : SL w.heap.size w w4 [pBlk w2.heap.size (.cells #[.bool true, .int .i64 ng, .int .i64 (-1), .slice none 0 0] 24), pBlk w.heap.size (.cells #[.bool false, .int .i64 0, .int .i64 0, .slice none 0 0] 24), pRd cStr 1 aw 4 LB] := hSm2; have hW4 := hSm2.rdR 2 rfl; have q7 := (hSm2.blk 0 rfl).1; clear hSm) | ((with_reducible refine wpList_idxG ByteArray.empty E_strs F_str cStr1 wU wU (hW2) (HLL.out) oD oD (fun _ => wU) wU (fun _ => wU) (fun _ => ?_)); first | rw [A0.out] | rw [A1.out] | rw [A2.out] | rw [A3.out]) | ((with_reducible refine wpList_idxG ByteArray.empty E_strs F_str cStr1 wU wU (hW3) (HLL.out) oD oD (fun _ => wU) wU (fun _ => wU) (fun _ => ?_)); first | rw [A0.out] | rw [A1.out] | rw [A2.out] | rw [A3.out]) | ((with_reducible refine wpList_idxN _ ByteArray.empty E_strs F_str cStr1 wU wU (hW4) (HLL.out) oD oD (fun _ => wU) (fun _ => ?_)); first | rw [A0.out] | rw [A1.out] | rw [A2.out] | rw [A3.out]) | (with_reducible refine wpList_ldS (n := 4) (us := #[.bool true, .int .i64 ng, .int .i64 (-1), .slice none 0 0]) A_mach kR wU wU (by assumption) wU wU ?_))
         refine (HK.out _ (ints_nil _)).mono ?_
         rintro e w5 ⟨rfl, b5⟩
         have hS5 := hSm2.mono b5
         have q8 := (hS5.blk 0 rfl).1
         clear q7
         go_wp2_with (first | (with_reducible refine wpList_ldS (n := 4) (us := #[.bool true, .int .i64 ng, .int .i64 (-1), .slice none 0 0]) A_mach kR wU wU (by assumption) wU wU ?_) | ((with_reducible refine wpList_stoR (us := #[.bool true, .int .i64 ng, .int .i64 (-1), .slice none 0 0]) 1 wU wU (hS5) wU kR wU wU ?_); intro w6 hS6))
         exact bodyPost_ret (results_cellSlot rfl rfl rfl A_mach kR (hS6.blk 1 rfl).1) rfl ⟨none, 0, rfl, hS6.empty.nilS (α := Int) (c := cInt) (sz := 1) (e := 3) cIntS⟩
        ·rw [if_pos he]
         have hne : (E != 0) = true := by simpa using he
         go_enter Tryz.func36, Tryz.ntmps36
         go_wp2_with fail
         refine (HCS2.out _ (hw.below hS.b)).mono ?_
         rintro e w1 ⟨aw, rfl, hW, b1, hfr0⟩
         have hS1 := (hS.newRd b1 hW (by decide) hfr0).pick [1, 0] (by decide) [pBlk w.heap.size (.cells #[.bool false, .int .i64 0, .int .i64 0, .slice none 0 0] 24), pRd cStr 1 aw 4 LB] rfl
         have hw1 := hw.below hS1.b
         go_wp2_with ((with_reducible refine wpList_idxG ByteArray.empty E_strs F_str cStr1 wU wU (hW) (HLL.out) oD oD (fun _ => wU) wU (fun _ => wU) (fun _ => ?_)); first | rw [A0.out] | rw [A1.out] | rw [A2.out] | rw [A3.out])
         refine (HD.out _ hw1).mono ?_
         rintro e w2 ⟨n, rfl, hnn, b2⟩
         have hn2 := hnn ng rfl
         subst hn2
         clear hnn
         have hS2 := hS1.mono b2
         have hW2 := hW.below b2
         have hSm := hS2.box (.cells #[.bool true, .int .i64 ng, .int .i64 1, .slice none 0 0] 24)
         have hW3 := hW2.alloc (.cells #[.bool true, .int .i64 ng, .int .i64 1, .slice none 0 0] 24)
         go_wp2_with (first | ((with_reducible refine wpList_stoFi 0 wU wU hSm rfl rfl ?_); intro w4 hSm2; have hSm2 : SL w.heap.size w w4 [pBlk w2.heap.size (.cells #[.bool true, .int .i64 ng, .int .i64 (-1), .slice none 0 0] 24), pBlk w.heap.size (.cells #[.bool false, .int .i64 0, .int .i64 0, .slice none 0 0] 24), pRd cStr 1 aw 4 LB] := hSm2; have hW4 := hSm2.rdR 2 rfl; have q7 := (hSm2.blk 0 rfl).1; clear hSm) | ((with_reducible refine wpList_idxG ByteArray.empty E_strs F_str cStr1 wU wU (hW2) (HLL.out) oD oD (fun _ => wU) wU (fun _ => wU) (fun _ => ?_)); first | rw [A0.out] | rw [A1.out] | rw [A2.out] | rw [A3.out]) | ((with_reducible refine wpList_idxG ByteArray.empty E_strs F_str cStr1 wU wU (hW3) (HLL.out) oD oD (fun _ => wU) wU (fun _ => wU) (fun _ => ?_)); first | rw [A0.out] | rw [A1.out] | rw [A2.out] | rw [A3.out]) | ((with_reducible refine wpList_idxN _ ByteArray.empty E_strs F_str cStr1 wU wU (hW4) (HLL.out) oD oD (fun _ => wU) (fun _ => ?_)); first | rw [A0.out] | rw [A1.out] | rw [A2.out] | rw [A3.out]) | (with_reducible refine wpList_ldS (n := 4) (us := #[.bool true, .int .i64 ng, .int .i64 (-1), .slice none 0 0]) A_mach kR wU wU (by assumption) wU wU ?_))
         refine (HK.out _ (ints_nil _)).mono ?_
         rintro e w5 ⟨rfl, b5⟩
         have hS5 := hSm2.mono b5
         clear q7
         go_wp2_with ((with_reducible refine wpList_stoR (us := #[.bool false, .int .i64 0, .int .i64 0, .slice none 0 0]) 1 wU wU (hS5) wU kR wU wU ?_); intro w6 hS6)
         exact bodyPost_ret (results_cellSlot rfl rfl rfl A_mach kR (hS6.blk 1 rfl).1) rfl (RetMac.none (S := hS6.empty) rfl)
      ·rw [decide_eq_false hn] at e5
       have hpl : placesL w4 = intsL (spl 44 w4) := by unfold placesL; rw [if_neg hn]
       rw [hpl]
       have hl2 := splR_len 44 w4 []
       have hs2 := spl_sum 44 w4 []
       have hC2 := HCC.out
       obtain ⟨L2, hL2⟩ : ∃ L2, L2 = spl 44 w4 := ⟨_, rfl⟩
       rw [show splR 44 [] w4 = L2 from hL2.symm] at hl2 hs2
       rw [← hL2] at hC2 ⊢
       have HC2 := hid hC2
       have hM2 : (L2.map bT).length = L2.length := by simp
       have HM2 := hid hM2
       have hl9 : L2.length ≤ 4097 := by omega
       have CX := fun (x : List UInt8) w (hw : LibW w) (h : x ∈ L2) => mdecimal_any x w hw (by have := hs2 x h; simp only [List.length_nil, Nat.zero_add] at this; omega)
       have HCX := hid CX
       clear hpl hn hL2 hC2 hM2 hl2 hs2 CX HCC
       cases hi : intL g with
       | none =>
        have hD := HCD.out
        rw [hi] at hD
        have HD := hid hD
        have hres : (match (none : Option Nat), intsL L2 with | some n, some l => if macE ⟨true, n, (-1), l⟩ ≠ 0 then (noM, macE ⟨true, n, (-1), l⟩) else (⟨true, n, (-1), l⟩, 0) | _, _ => (noM, 25)) = ((noM, 25) : MacV × Int) := by cases intsL L2 <;> rfl
        rw [hres]
        clear hD hi hres
        go_enter Tryz.func36, Tryz.ntmps36
        go_wp2_with fail
        refine (HCS2.out _ (hw.below hS.b)).mono ?_
        rintro e w1 ⟨aw, rfl, hW, b1, hfr0⟩
        have hS1 := (hS.newRd b1 hW (by decide) hfr0).pick [1, 0] (by decide) [pBlk w.heap.size (.cells #[.bool false, .int .i64 0, .int .i64 0, .slice none 0 0] 24), pRd cStr 1 aw 4 LB] rfl
        have hw1 := hw.below hS1.b
        go_wp2_with ((with_reducible refine wpList_idxG ByteArray.empty E_strs F_str cStr1 wU wU (hW) (HLL.out) oD oD (fun _ => wU) wU (fun _ => wU) (fun _ => ?_)); first | rw [A0.out] | rw [A1.out] | rw [A2.out] | rw [A3.out])
        refine (HD.out _ hw1).mono ?_
        rintro e w2 ⟨n, rfl, hnn, b2⟩
        clear hnn
        have hS2 := hS1.mono b2
        have hW2 := hW.below b2
        have hSm := hS2.box (.cells #[.bool true, .int .i64 n, .int .i64 1, .slice none 0 0] 24)
        have hW3 := hW2.alloc (.cells #[.bool true, .int .i64 n, .int .i64 1, .slice none 0 0] 24)
        go_wp2_with (first | ((with_reducible refine wpList_stoFi 0 wU wU hSm rfl rfl ?_); intro w4 hSm2; have hSm2 : SL w.heap.size w w4 [pBlk w2.heap.size (.cells #[.bool true, .int .i64 n, .int .i64 (-1), .slice none 0 0] 24), pBlk w.heap.size (.cells #[.bool false, .int .i64 0, .int .i64 0, .slice none 0 0] 24), pRd cStr 1 aw 4 LB] := hSm2; have hW4 := hSm2.rdR 2 rfl; have q7 := (hSm2.blk 0 rfl).1; clear hSm) | ((with_reducible refine wpList_idxG ByteArray.empty E_strs F_str cStr1 wU wU (hW2) (HLL.out) oD oD (fun _ => wU) wU (fun _ => wU) (fun _ => ?_)); first | rw [A0.out] | rw [A1.out] | rw [A2.out] | rw [A3.out]) | ((with_reducible refine wpList_idxG ByteArray.empty E_strs F_str cStr1 wU wU (hW3) (HLL.out) oD oD (fun _ => wU) wU (fun _ => wU) (fun _ => ?_)); first | rw [A0.out] | rw [A1.out] | rw [A2.out] | rw [A3.out]) | ((with_reducible refine wpList_idxN _ ByteArray.empty E_strs F_str cStr1 wU wU (hW4) (HLL.out) oD oD (fun _ => wU) (fun _ => ?_)); first | rw [A0.out] | rw [A1.out] | rw [A2.out] | rw [A3.out]))
        refine (HC2.out _ (hw.below hSm2.b)).mono ?_
        rintro e w3 ⟨a3, rfl, hV, b3, hfr⟩
        obtain ⟨b7, hb7⟩ : ∃ b7, b7 = w2.heap.size := ⟨_, rfl⟩
        have hS3 := ((hSm2.newRd b3 hV (by decide) hfr).nilS (α := Int) (c := cInt) (sz := 1) (e := 3) cIntS).pick [2, 0, 3, 1] (by decide) [pBlk b7 (.cells #[.bool true, .int .i64 n, .int .i64 (-1), .slice none 0 0] 24), pOwn cInt 1 3 (.slice none 0 0) [], pBlk w.heap.size (.cells #[.bool false, .int .i64 0, .int .i64 0, .slice none 0 0] 24), pRd cStr 1 a3 L2.length (L2.map bT)] (by rw [hb7]; rfl)
        rw [← hb7]
        clear hb7 hSm2 hW4 q7 hS1 hS2 hW hW2 hW3 hw1 HCS2 HD HC2
        go_wp2_with fail
        go_loopw [74, 6] (fun i okv wr => ∃ (k : Nat) (vals : List Int) (sv : Value), k ≤ L2.length ∧ i = .int .i64 k ∧ okv = .bool (false && (L2.take k).all okT) ∧ vals.length = k ∧ ((L2.take k).all okT = true → intsL (L2.take k) = some vals) ∧ SL w.heap.size w wr [pBlk b7 (.cells #[.bool true, .int .i64 n, .int .i64 (-1), sv] 24), pOwn cInt 1 3 sv vals, pBlk w.heap.size (.cells #[.bool false, .int .i64 0, .int .i64 0, .slice none 0 0] 24), pRd cStr 1 a3 L2.length (L2.map bT)]) (fun i _ _ => L2.length - (intOf i).toNat)
        case atStart => exact ⟨0, [], .slice none 0 0, by omega, rfl, rfl, rfl, fun _ => rfl, hS3⟩
        case round =>
         clear hS3
         obtain ⟨k, vals, sv, hk, rfl, rfl, hvl, hvs, hSr⟩ := hrel
         have HVL := hid hvl; have HVS := hid hvs
         clear hvl hvs
         by_cases hlt : k < L2.length
         ·have hat := atD_mapT L2 k hlt
          have hmem : atD [] L2 k ∈ L2 := by simp [atD, hlt]
          have htk : L2.take (k + 1) = L2.take k ++ [atD [] L2 k] := by rw [List.take_succ_eq_append_getElem hlt]; simp [atD, hlt]
          have CX := fun w hw => HCX.out (atD [] L2 k) w hw hmem
          obtain ⟨x, hx⟩ : ∃ x, x = atD [] L2 k := ⟨_, rfl⟩
          rw [← hx] at hat htk CX
          obtain ⟨xb, hxb⟩ : ∃ xb, xb = bT x := ⟨_, rfl⟩
          rw [← hxb] at hat CX
          have HAT := hid hat; have HTK := hid htk
          clear hat hmem htk hx hxb
          have hVr := hSr.rdR 3 rfl
          have hwr := hw.below hSr.b
          have hsl := hSr.slice 1 rfl
          obtain ⟨av, cv, rfl, _⟩ := hsl
          have hv9 : vals.length ≤ 4097 := by rw [HVL.out]; omega
          cases hix : intL x with
          | none =>
           rw [hix] at CX
           have HX := hid CX; have HIX := hid hix
           clear CX hix
           cases hbk : (false && (L2.take k).all okT)
           all_goals
            go_wp2_with ((with_reducible refine wpList_idxN _ ByteArray.empty E_strs F_str cStr1 wU wU (hVr) (HM2.out) oD oD (fun _ => wU) (fun _ => ?_)); rw [HAT.out])
            refine (HX.out _ hwr).mono ?_
            rintro e w5 ⟨nx, rfl, -, b5⟩
            have hS5 := hSr.mono b5
            have q5 := (hS5.blk 0 rfl).1
            go_wp2_with (first | (with_reducible refine wpList_ldB F_sliceM wU wU q5 wU ?_) | (((with_reducible refine wpList_pushL (y := nx) 1 E_ints wU wU (hS5) wU cIntO ⟨rfl, rfl⟩ (by first | with_unfolding_all rfl | simp) wU (by first | omega | (simp; omega)) (by first | omega | (simp; omega)) ?_); intro v6 w6 hS6); obtain ⟨a6, c6, rfl, _⟩ := hS6.slice 1 rfl) | ((with_reducible refine wpList_stoF 0 wU wU hS6 rfl rfl ?_); intro w7 hS7))
            have eL : (vals ++ [nx]).length = vals.length + 1 := by simp
            have hS8 := hS7
            simp only [eL] at hS8
            refine ⟨⟨k + 1, vals ++ [nx], .slice a6 (vals.length + 1) c6, by omega, by go_num, congrArg Value.bool (by rw [HTK.out, List.all_append]; simp [okT, HIX.out]), by rw [eL, HVL.out], fun h => ?_, hS8⟩, by simp [intOf]; omega⟩
            rw [HTK.out, List.all_append] at h
            simp [okT, HIX.out] at h
          | some nx =>
           rw [hix] at CX
           have HX := hid CX; have HIX := hid hix
           clear CX hix
           cases hbk : (false && (L2.take k).all okT)
           all_goals
            have HBK := hid hbk
            clear hbk
            go_wp2_with ((with_reducible refine wpList_idxN _ ByteArray.empty E_strs F_str cStr1 wU wU (hVr) (HM2.out) oD oD (fun _ => wU) (fun _ => ?_)); rw [HAT.out])
            refine (HX.out _ hwr).mono ?_
            rintro e w5 ⟨ny, rfl, hny, b5⟩
            have hny2 := hny nx rfl
            subst hny2
            clear hny
            have hS5 := hSr.mono b5
            have q5 := (hS5.blk 0 rfl).1
            go_wp2_with (first | (with_reducible refine wpList_ldB F_sliceM wU wU q5 wU ?_) | (((with_reducible refine wpList_pushL (y := (nx : Int)) 1 E_ints wU wU (hS5) wU cIntO ⟨rfl, rfl⟩ (by first | with_unfolding_all rfl | simp) wU (by first | omega | (simp; omega)) (by first | omega | (simp; omega)) ?_); intro v6 w6 hS6); obtain ⟨a6, c6, rfl, _⟩ := hS6.slice 1 rfl) | ((with_reducible refine wpList_stoF 0 wU wU hS6 rfl rfl ?_); intro w7 hS7))
            have eL : (vals ++ [(nx : Int)]).length = vals.length + 1 := by simp
            have hS8 := hS7
            simp only [eL] at hS8
            refine ⟨⟨k + 1, vals ++ [(nx : Int)], .slice a6 (vals.length + 1) c6, by omega, by go_num, congrArg Value.bool (by first | (have h0 := HBK.out; simp [HTK.out, List.all_append, okT, HIX.out] at h0 ⊢; done) | (have h0 := HBK.out; simp [HTK.out, List.all_append, okT, HIX.out] at h0 ⊢; simp [h0]; done) | (rw [← HBK.out]; simp [HTK.out, List.all_append, okT, HIX.out])), by rw [eL, HVL.out], fun h => ?_, hS8⟩, by simp [intOf]; omega⟩
            rw [HTK.out, List.all_append, Bool.and_eq_true] at h
            rw [HTK.out]
            exact intsL_snoc (HVS.out h.1) HIX.out
         ·have hkk : k = L2.length := by omega
          have htl : L2.take k = L2 := List.take_of_length_le (by omega)
          rw [htl]
          have hvs := HVS.out
          rw [htl] at hvs
          have his := intsL_isSome L2
          have hsl := hSr.slice 1 rfl
          obtain ⟨av, cv, rfl, hvR⟩ := hsl
          clear HVS htl hkk
          go_wp2_with ((with_reducible refine wpList_stoR (us := #[.bool false, .int .i64 0, .int .i64 0, .slice none 0 0]) 2 wU wU (hSr) wU kR wU wU ?_); intro w6 hS6)
          exact bodyPost_ret (results_cellSlot rfl rfl rfl A_mach kR (hS6.blk 2 rfl).1) rfl (RetMac.none (S := hS6.empty) rfl)
       | some ng =>
        have hb9 := (intL_canon hi).2.2.2.2.2
        have hD := HCD.out
        rw [hi] at hD
        have HD := hid hD
        obtain ⟨R, hR⟩ : ∃ R : MacV × Int, R = (match (some ng : Option Nat), intsL L2 with | some n, some l => if macE ⟨true, n, (-1), l⟩ ≠ 0 then (noM, macE ⟨true, n, (-1), l⟩) else (⟨true, n, (-1), l⟩, 0) | _, _ => (noM, 25)) := ⟨_, rfl⟩
        rw [← hR]
        have HR := hid hR
        clear hD hi hR
        go_enter Tryz.func36, Tryz.ntmps36
        go_wp2_with fail
        refine (HCS2.out _ (hw.below hS.b)).mono ?_
        rintro e w1 ⟨aw, rfl, hW, b1, hfr0⟩
        have hS1 := (hS.newRd b1 hW (by decide) hfr0).pick [1, 0] (by decide) [pBlk w.heap.size (.cells #[.bool false, .int .i64 0, .int .i64 0, .slice none 0 0] 24), pRd cStr 1 aw 4 LB] rfl
        have hw1 := hw.below hS1.b
        go_wp2_with ((with_reducible refine wpList_idxG ByteArray.empty E_strs F_str cStr1 wU wU (hW) (HLL.out) oD oD (fun _ => wU) wU (fun _ => wU) (fun _ => ?_)); first | rw [A0.out] | rw [A1.out] | rw [A2.out] | rw [A3.out])
        refine (HD.out _ hw1).mono ?_
        rintro e w2 ⟨n, rfl, hnn, b2⟩
        have hn2 := hnn ng rfl
        subst hn2
        clear hnn
        have hS2 := hS1.mono b2
        have hW2 := hW.below b2
        have hSm := hS2.box (.cells #[.bool true, .int .i64 ng, .int .i64 1, .slice none 0 0] 24)
        have hW3 := hW2.alloc (.cells #[.bool true, .int .i64 ng, .int .i64 1, .slice none 0 0] 24)
        go_wp2_with (first | ((with_reducible refine wpList_stoFi 0 wU wU hSm rfl rfl ?_); intro w4 hSm2; have hSm2 : SL w.heap.size w w4 [pBlk w2.heap.size (.cells #[.bool true, .int .i64 ng, .int .i64 (-1), .slice none 0 0] 24), pBlk w.heap.size (.cells #[.bool false, .int .i64 0, .int .i64 0, .slice none 0 0] 24), pRd cStr 1 aw 4 LB] := hSm2; have hW4 := hSm2.rdR 2 rfl; have q7 := (hSm2.blk 0 rfl).1; clear hSm) | ((with_reducible refine wpList_idxG ByteArray.empty E_strs F_str cStr1 wU wU (hW2) (HLL.out) oD oD (fun _ => wU) wU (fun _ => wU) (fun _ => ?_)); first | rw [A0.out] | rw [A1.out] | rw [A2.out] | rw [A3.out]) | ((with_reducible refine wpList_idxG ByteArray.empty E_strs F_str cStr1 wU wU (hW3) (HLL.out) oD oD (fun _ => wU) wU (fun _ => wU) (fun _ => ?_)); first | rw [A0.out] | rw [A1.out] | rw [A2.out] | rw [A3.out]) | ((with_reducible refine wpList_idxN _ ByteArray.empty E_strs F_str cStr1 wU wU (hW4) (HLL.out) oD oD (fun _ => wU) (fun _ => ?_)); first | rw [A0.out] | rw [A1.out] | rw [A2.out] | rw [A3.out]))
        refine (HC2.out _ (hw.below hSm2.b)).mono ?_
        rintro e w3 ⟨a3, rfl, hV, b3, hfr⟩
        obtain ⟨b7, hb7⟩ : ∃ b7, b7 = w2.heap.size := ⟨_, rfl⟩
        have hS3 := ((hSm2.newRd b3 hV (by decide) hfr).nilS (α := Int) (c := cInt) (sz := 1) (e := 3) cIntS).pick [2, 0, 3, 1] (by decide) [pBlk b7 (.cells #[.bool true, .int .i64 ng, .int .i64 (-1), .slice none 0 0] 24), pOwn cInt 1 3 (.slice none 0 0) [], pBlk w.heap.size (.cells #[.bool false, .int .i64 0, .int .i64 0, .slice none 0 0] 24), pRd cStr 1 a3 L2.length (L2.map bT)] (by rw [hb7]; rfl)
        rw [← hb7]
        clear hb7 hSm2 hW4 q7 hS1 hS2 hW hW2 hW3 hw1 HCS2 HD HC2
        go_wp2_with fail
        go_loopw [74, 6] (fun i okv wr => ∃ (k : Nat) (vals : List Int) (sv : Value), k ≤ L2.length ∧ i = .int .i64 k ∧ okv = .bool (true && (L2.take k).all okT) ∧ vals.length = k ∧ ((L2.take k).all okT = true → intsL (L2.take k) = some vals) ∧ SL w.heap.size w wr [pBlk b7 (.cells #[.bool true, .int .i64 ng, .int .i64 (-1), sv] 24), pOwn cInt 1 3 sv vals, pBlk w.heap.size (.cells #[.bool false, .int .i64 0, .int .i64 0, .slice none 0 0] 24), pRd cStr 1 a3 L2.length (L2.map bT)]) (fun i _ _ => L2.length - (intOf i).toNat)
        case atStart => exact ⟨0, [], .slice none 0 0, by omega, rfl, rfl, rfl, fun _ => rfl, hS3⟩
        case round =>
         clear hS3
         obtain ⟨k, vals, sv, hk, rfl, rfl, hvl, hvs, hSr⟩ := hrel
         have HVL := hid hvl; have HVS := hid hvs
         clear hvl hvs
         by_cases hlt : k < L2.length
         ·have hat := atD_mapT L2 k hlt
          have hmem : atD [] L2 k ∈ L2 := by simp [atD, hlt]
          have htk : L2.take (k + 1) = L2.take k ++ [atD [] L2 k] := by rw [List.take_succ_eq_append_getElem hlt]; simp [atD, hlt]
          have CX := fun w hw => HCX.out (atD [] L2 k) w hw hmem
          obtain ⟨x, hx⟩ : ∃ x, x = atD [] L2 k := ⟨_, rfl⟩
          rw [← hx] at hat htk CX
          obtain ⟨xb, hxb⟩ : ∃ xb, xb = bT x := ⟨_, rfl⟩
          rw [← hxb] at hat CX
          have HAT := hid hat; have HTK := hid htk
          clear hat hmem htk hx hxb
          have hVr := hSr.rdR 3 rfl
          have hwr := hw.below hSr.b
          have hsl := hSr.slice 1 rfl
          obtain ⟨av, cv, rfl, _⟩ := hsl
          have hv9 : vals.length ≤ 4097 := by rw [HVL.out]; omega
          cases hix : intL x with
          | none =>
           rw [hix] at CX
           have HX := hid CX; have HIX := hid hix
           clear CX hix
           cases hbk : (true && (L2.take k).all okT)
           all_goals
            go_wp2_with ((with_reducible refine wpList_idxN _ ByteArray.empty E_strs F_str cStr1 wU wU (hVr) (HM2.out) oD oD (fun _ => wU) (fun _ => ?_)); rw [HAT.out])
            refine (HX.out _ hwr).mono ?_
            rintro e w5 ⟨nx, rfl, -, b5⟩
            have hS5 := hSr.mono b5
            have q5 := (hS5.blk 0 rfl).1
            go_wp2_with (first | (with_reducible refine wpList_ldB F_sliceM wU wU q5 wU ?_) | (((with_reducible refine wpList_pushL (y := nx) 1 E_ints wU wU (hS5) wU cIntO ⟨rfl, rfl⟩ (by first | with_unfolding_all rfl | simp) wU (by first | omega | (simp; omega)) (by first | omega | (simp; omega)) ?_); intro v6 w6 hS6); obtain ⟨a6, c6, rfl, _⟩ := hS6.slice 1 rfl) | ((with_reducible refine wpList_stoF 0 wU wU hS6 rfl rfl ?_); intro w7 hS7))
            have eL : (vals ++ [nx]).length = vals.length + 1 := by simp
            have hS8 := hS7
            simp only [eL] at hS8
            refine ⟨⟨k + 1, vals ++ [nx], .slice a6 (vals.length + 1) c6, by omega, by go_num, congrArg Value.bool (by rw [HTK.out, List.all_append]; simp [okT, HIX.out]), by rw [eL, HVL.out], fun h => ?_, hS8⟩, by simp [intOf]; omega⟩
            rw [HTK.out, List.all_append] at h
            simp [okT, HIX.out] at h
          | some nx =>
           rw [hix] at CX
           have HX := hid CX; have HIX := hid hix
           clear CX hix
           cases hbk : (true && (L2.take k).all okT)
           all_goals
            have HBK := hid hbk
            clear hbk
            go_wp2_with ((with_reducible refine wpList_idxN _ ByteArray.empty E_strs F_str cStr1 wU wU (hVr) (HM2.out) oD oD (fun _ => wU) (fun _ => ?_)); rw [HAT.out])
            refine (HX.out _ hwr).mono ?_
            rintro e w5 ⟨ny, rfl, hny, b5⟩
            have hny2 := hny nx rfl
            subst hny2
            clear hny
            have hS5 := hSr.mono b5
            have q5 := (hS5.blk 0 rfl).1
            go_wp2_with (first | (with_reducible refine wpList_ldB F_sliceM wU wU q5 wU ?_) | (((with_reducible refine wpList_pushL (y := (nx : Int)) 1 E_ints wU wU (hS5) wU cIntO ⟨rfl, rfl⟩ (by first | with_unfolding_all rfl | simp) wU (by first | omega | (simp; omega)) (by first | omega | (simp; omega)) ?_); intro v6 w6 hS6); obtain ⟨a6, c6, rfl, _⟩ := hS6.slice 1 rfl) | ((with_reducible refine wpList_stoF 0 wU wU hS6 rfl rfl ?_); intro w7 hS7))
            have eL : (vals ++ [(nx : Int)]).length = vals.length + 1 := by simp
            have hS8 := hS7
            simp only [eL] at hS8
            refine ⟨⟨k + 1, vals ++ [(nx : Int)], .slice a6 (vals.length + 1) c6, by omega, by go_num, congrArg Value.bool (by first | (have h0 := HBK.out; simp [HTK.out, List.all_append, okT, HIX.out] at h0 ⊢; done) | (have h0 := HBK.out; simp [HTK.out, List.all_append, okT, HIX.out] at h0 ⊢; simp [h0]; done) | (rw [← HBK.out]; simp [HTK.out, List.all_append, okT, HIX.out])), by rw [eL, HVL.out], fun h => ?_, hS8⟩, by simp [intOf]; omega⟩
            rw [HTK.out, List.all_append, Bool.and_eq_true] at h
            rw [HTK.out]
            exact intsL_snoc (HVS.out h.1) HIX.out
         ·have hkk : k = L2.length := by omega
          have htl : L2.take k = L2 := List.take_of_length_le (by omega)
          rw [htl]
          have hvs := HVS.out
          rw [htl] at hvs
          have his := intsL_isSome L2
          have hsl := hSr.slice 1 rfl
          obtain ⟨av, cv, rfl, hvR⟩ := hsl
          clear HVS htl hkk
          cases hall : L2.all okT
          ·have hin : intsL L2 = none := by
            rw [hall] at his
            cases h : intsL L2 with
            | none => rfl
            | some v => rw [h] at his; cases his
           have hR2 : R = (noM, 25) := by rw [HR.out, hin]
           have HR2 := hid hR2
           clear hin his hvs hR2
           go_wp2_with ((with_reducible refine wpList_stoR (us := #[.bool false, .int .i64 0, .int .i64 0, .slice none 0 0]) 2 wU wU (hSr) wU kR wU wU ?_); intro w6 hS6)
           exact bodyPost_ret (results_cellSlot rfl rfl rfl A_mach kR (hS6.blk 2 rfl).1) rfl (by rw [HR2.out]; exact RetMac.none (S := hS6.empty) rfl)
          ·have hR2 : R = (if macE ⟨true, (ng : Int), (-1), vals⟩ ≠ 0 then (noM, macE ⟨true, (ng : Int), (-1), vals⟩) else (⟨true, (ng : Int), (-1), vals⟩, 0)) := by rw [HR.out, hvs hall]
           have CK := fun w h => CheckMachine_any ⟨true, (ng : Int), (-1), vals⟩ av cv w h (by show InI (ng : Int); unfold InI; omega)
           obtain ⟨E, hE⟩ : ∃ E, E = macE ⟨true, (ng : Int), (-1), vals⟩ := ⟨_, rfl⟩
           rw [← hE] at CK hR2
           have HK := hid CK
           have q7 := (hSr.blk 0 rfl).1
           clear CK hE his hvs
           by_cases he : E = 0
           ·subst he
            rw [if_neg (by decide)] at hR2
            have HR2 := hid hR2
            clear hR2
            go_wp2_with (with_reducible refine wpList_ldS (n := 4) (us := #[.bool true, .int .i64 ng, .int .i64 (-1), .slice av vals.length cv]) A_mach kR wU wU (by assumption) wU wU ?_)
            refine (HK.out _ hvR).mono ?_
            rintro e w5 ⟨rfl, b5⟩
            have hS5 := hSr.mono b5
            have q8 := (hS5.blk 0 rfl).1
            clear q7
            go_wp2_with (first | (with_reducible refine wpList_ldS (n := 4) (us := #[.bool true, .int .i64 ng, .int .i64 (-1), .slice av vals.length cv]) A_mach kR wU wU (by assumption) wU wU ?_) | ((with_reducible refine wpList_stoR (us := #[.bool true, .int .i64 ng, .int .i64 (-1), .slice av vals.length cv]) 2 wU wU (hS5) wU kR wU wU ?_); intro w6 hS6))
            exact bodyPost_ret (results_cellSlot rfl rfl rfl A_mach kR (hS6.blk 2 rfl).1) rfl (by rw [HR2.out]; exact ⟨av, cv, rfl, hS6.one 1 rfl⟩)
           ·rw [if_pos he] at hR2
            have HR2 := hid hR2
            clear hR2
            have hne : (E != 0) = true := by simpa using he
            go_wp2_with (with_reducible refine wpList_ldS (n := 4) (us := #[.bool true, .int .i64 ng, .int .i64 (-1), .slice av vals.length cv]) A_mach kR wU wU (by assumption) wU wU ?_)
            refine (HK.out _ hvR).mono ?_
            rintro e w5 ⟨rfl, b5⟩
            have hS5 := hSr.mono b5
            clear q7
            go_wp2_with ((with_reducible refine wpList_stoR (us := #[.bool false, .int .i64 0, .int .i64 0, .slice none 0 0]) 2 wU wU (hS5) wU kR wU wU ?_); intro w6 hS6)
            exact bodyPost_ret (results_cellSlot rfl rfl rfl A_mach kR (hS6.blk 2 rfl).1) rfl (by rw [HR2.out]; exact RetMac.none (S := hS6.empty) rfl)
     ·rw [decide_eq_false ht4] at e4
      have hg : parseGo [k, g, t, w4] = (noM, 25) := by show (if _ then _ else _) = _; rw [if_pos (.inr ⟨ht3, ht4⟩)]
      rw [hg]
      clear hg hLB hK hT hk ht3 ht4
      go_enter Tryz.func36, Tryz.ntmps36
      go_wp2_with fail
      refine (HCS2.out _ (hw.below hS.b)).mono ?_
      rintro e w1 ⟨aw, rfl, hW, b1, hfr0⟩
      have hS1 := hS.mono b1
      go_wp2_with (first | ((with_reducible refine wpList_idxG ByteArray.empty E_strs F_str cStr1 wU wU (hW) (HLL.out) oD oD (fun _ => wU) wU (fun _ => wU) (fun _ => ?_)); first | rw [A0.out] | rw [A1.out] | rw [A2.out] | rw [A3.out]) | ((with_reducible refine wpList_stoR (us := #[.bool false, .int .i64 0, .int .i64 0, .slice none 0 0]) 0 wU wU (hS1) wU kR wU wU ?_); intro w2 hS2))
      exact bodyPost_ret (results_cellSlot rfl rfl rfl A_mach kR (hS2.blk 0 rfl).1) rfl (RetMac.none (S := hS2.empty) rfl)
   ·rw [decide_eq_false hk2] at e2
    have hg : parseGo [k, g, t, w4] = (noM, 25) := by show (if _ then _ else _) = _; rw [if_pos (.inl ⟨hk1, hk2⟩)]
    rw [hg]
    clear hg hLB hK hT hk1 hk2 e3 e4
    go_enter Tryz.func36, Tryz.ntmps36
    go_wp2_with fail
    refine (HCS2.out _ (hw.below hS.b)).mono ?_
    rintro e w1 ⟨aw, rfl, hW, b1, hfr0⟩
    have hS1 := hS.mono b1
    go_wp2_with (first | ((with_reducible refine wpList_idxG ByteArray.empty E_strs F_str cStr1 wU wU (hW) (HLL.out) oD oD (fun _ => wU) wU (fun _ => wU) (fun _ => ?_)); rw [A0.out]) | ((with_reducible refine wpList_stoR (us := #[.bool false, .int .i64 0, .int .i64 0, .slice none 0 0]) 0 wU wU (hS1) wU kR wU wU ?_); intro w2 hS2))
    exact bodyPost_ret (results_cellSlot rfl rfl rfl A_mach kR (hS2.blk 0 rfl).1) rfl (RetMac.none (S := hS2.tail) rfl)
 ·rw [parseGo_len h4]
  have hne : ((L.length : Int) != 4) = true := by simp; omega
  clear h4 hml HLS
  go_enter Tryz.func36, Tryz.ntmps36
  go_wp2_with fail
  refine (HCS.out _ (hw.below hS.b)).mono ?_
  rintro e w1 ⟨aw, rfl, hW, b1, hfr0⟩
  have hS1 := hS.mono b1
  go_wp2_with ((with_reducible refine wpList_stoR (us := #[.bool false, .int .i64 0, .int .i64 0, .slice none 0 0]) 0 wU wU (hS1) wU kR wU wU ?_); intro w2 hS2)
  exact bodyPost_ret (results_cellSlot rfl rfl rfl A_mach kR (hS2.blk 0 rfl).1) rfl (RetMac.none (S := hS2.tail) rfl)
end Go.Proofs.YtndmeaoidihikaaGreatDoor
