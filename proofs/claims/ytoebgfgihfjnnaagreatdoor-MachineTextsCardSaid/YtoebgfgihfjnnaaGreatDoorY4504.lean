/- Contracts and plain facts that the claim uses (QsD QsB). Conditions: as each one states. -/
import Derived.Shelf.Strings.Trim
import Derived.Shelf.Strings.SlTrimAscii
import Derived.Shelf.Strings.Repeat
import Derived.Shelf.Strings.OnBuilder
import Derived.Shelf.Strconv.Itoa1
import Derived.Shelf.Strconv.Itoa3
import Derived.Shelf.LaysM
import Derived.Ground.Names2Prog
import Derived.Test.YtoebgfgihfjnnaaGreatDoorProg
import Derived.WalkKit
import Derived.WalkSpells
import Derived.Maps.AppendAt
import Derived.Deep.Quiet
import Derived.Maps.Own
import Derived.Maps.OwnSet
import Derived.Maps.Views
import Derived.WalkLawsBesides
import Derived.Laws.EntriesVeiled
import Derived.Deep.QuietTactic
import Derived.BigQuiet
import Derived.Lib.OthersKept
import Derived.Deep.RegionHeld3
import Derived.Deep.AppendLies
import Derived.Deep.RegionHeldLaw
import Derived.Deep.RegionLaw
import Derived.Lib.ItoaLen
import Derived.Lib.ItoaMem
import Derived.RangeFuncNested
import Derived.RangeFuncBound
import Derived.RangeFuncCalls
import Derived.RangeFuncLeaves
import Derived.RangeFuncFrom
import Derived.Shelf.Abstract
import Derived.Shelf.RegionOpen
import Derived.OwnWalkIn
import Derived.TacticsInMore
import Derived.LoopNIn
import Derived.LoopIn
import Derived.Deep.LoopGhost
import Derived.Laws.CopyOwn
import Derived.IntWalk
import Derived.Sort.LoopGhostIn
import Derived.StillTail
import Derived.Laws.Tables
import Derived.BigRegion
import Derived.ChangeAlike
import Derived.Shelf.Bits.Mul64
import Derived.Maps.RangeWalk
import Derived.Lib.Split
import Derived.Lib.AtoiAll
import Derived.Shelf.Strconv.ErrVarAll
import Derived.Shelf.Strconv.AtoiAll
import Derived.Shelf.Strings.Cut
import Derived.Shelf.Strings.Split
import Derived.Shelf.Strings.SplitShaped
import Derived.Lib.AppendIntMem
import Derived.Lib.SmallJoins
import Derived.LaidSub
import Derived.Lib.LaidTab
import Derived.Lib.AtoiErrMem
import Derived.Maps.Ext
import Derived.Stop.LaidErr
import Derived.ReadAgain
import Derived.ChangeSlices
import Derived.OpenShut
import Derived.ProofKit
import Derived.Deep.DeepHandedRow
import Derived.Deep.SlicePairs
import Derived.Test.YtoebgfgihfjnnaaGreatDoorXz01
import Derived.Test.YtoebgfgihfjnnaaGreatDoorXz02
import Derived.Test.YtoebgfgihfjnnaaGreatDoorXz03
import Derived.Test.YtoebgfgihfjnnaaGreatDoorXz04
import Derived.Test.YtoebgfgihfjnnaaGreatDoorXz05
import Derived.Test.YtoebgfgihfjnnaaGreatDoorXz06
import Derived.Test.YtoebgfgihfjnnaaGreatDoorXz07
import Derived.Test.YtoebgfgihfjnnaaGreatDoorXz08
import Derived.Test.YtoebgfgihfjnnaaGreatDoorXz09
import Derived.Test.YtoebgfgihfjnnaaGreatDoorXz10
import Derived.Test.YtoebgfgihfjnnaaGreatDoorXz11
import Derived.Test.YtoebgfgihfjnnaaGreatDoorXz12
import Derived.Test.YtoebgfgihfjnnaaGreatDoorY4501
import Derived.Test.YtoebgfgihfjnnaaGreatDoorY4503
set_option linter.all false

namespace Go.Proofs.YtoebgfgihfjnnaaGreatDoor
open Go.RowKit
set_option maxHeartbeats 4000000
set_option maxRecDepth 100000

theorem join_snocC (c : UInt8) (x : List UInt8) : ∀ (ls : List (List UInt8)), ls ≠ [] → Lib.join (ls ++ [x]) [c] = Lib.join ls [c] ++ c :: x
 | [], h => absurd rfl h
 | y :: r, _ => by
   rw [List.cons_append, Lib.join_cons, Lib.join_cons]
   unfold Lib.joinTail
   rw [List.map_append, List.flatten_append]
   simp
def headT (m : MacV) : List UInt8 := (if m.ring then ringT else rowT) ++ 32 :: (itoaD m.gears ++ 32 :: ((if m.turn < 0 then [45] else [43]) ++ [32]))
theorem printT_head (m : MacV) : printT m = headT m ++ swT m.sw := by
 unfold printT headT
 simp [Lib.join_cons, Lib.joinTail]
theorem print_bT (m : MacV) : printMB m = bT (printT m) := by rw [← printMB_T]; unfold bT; simp
theorem itoaB_D (n : Int) : itoaB n = bT (itoaD n) := by unfold itoaD bT; simp
/-- the switches that are printed so far. -/
def swK (l : List Int) (k : Nat) : List UInt8 := Lib.join ((l.take k).map itoaD) [44]
theorem swK_zero (l : List Int) : swK l 0 = [] := by unfold swK; rw [List.take_zero, List.map_nil, Lib.join_nil]
theorem swK_step {l : List Int} {k : Nat} (h : k < l.length) : swK l (k + 1) = swK l k ++ (if 0 < k then [44] else []) ++ itoaD (atD 0 l k) := by
 unfold swK
 rw [List.take_succ_eq_append_getElem h, List.map_append, List.map_cons, List.map_nil]
 have e : l[k] = atD 0 l k := by simp [atD, h]
 rw [e]
 by_cases h0 : 0 < k
 ·rw [if_pos h0, join_snocC _ _ _ (fun e => by
   rw [List.map_eq_nil_iff, List.take_eq_nil_iff] at e
   rcases e with e | e
   ·omega
   ·subst e; simp at h)]; simp
 ·have : k = 0 := by omega
  subst this
  rw [if_neg h0]; simp [Lib.join_cons, Lib.join_nil, Lib.joinTail]
theorem swK_len {l : List Int} (h : ∀ x ∈ l, 0 ≤ x ∧ x < 100) : ∀ {k : Nat}, k ≤ l.length → (swK l k).length ≤ 10 * k
 | 0, _ => by rw [swK_zero]; simp
 | k + 1, hk => by
   have ih := swK_len h (k := k) (by omega)
   have hx := h (atD 0 l k) (by simp [atD, show k < l.length by omega])
   rw [swK_step (by omega), List.length_append, List.length_append]
   obtain ⟨n, hn⟩ : ∃ n : Nat, atD 0 l k = n := ⟨(atD 0 l k).toNat, by omega⟩
   have := (itoaB_len (p := n) (by omega)).1
   have e : (itoaD (atD 0 l k)).length = (itoaB (n : Int)).size := by rw [hn]; rfl
   rw [e]
   split <;> simp <;> omega
theorem rPrint_ringP (g : Int) (sw : List Int) (ad : Option Addr) (cap : Nat) (w : World) (hR : Ints w ad cap sw) (g0 : 0 ≤ g) (g1 : g ≤ 16) (hsw : ∀ x ∈ sw, 0 ≤ x ∧ x < 100) (hl : sw.length ≤ 16) :
  Calls Tryz.prog 33 #[.agg #[.bool true, .int .i64 g, .int .i64 1, .slice ad sw.length cap]] w fun r w' => r = .returned (.string (printMB (⟨true, g, 1, sw⟩ : MacV))) ∧ Below w.heap.size w w' := by
 have hcap := hR.le
 have hmx := hR.max
 obtain ⟨G, rfl⟩ : ∃ G : Nat, g = G := ⟨g.toNat, by omega⟩
 have hS := (SL.nil w).box (.cells #[.bool true, .int .i64 (G : Int), .int .i64 1, .slice ad sw.length cap] 25)
 have CD := fun w => rdecimal4_any G w (by omega)
 have CX := fun (x : Int) w (h : x ∈ sw) => (show Calls Tryz.prog 88 #[.int .i64 x] w fun r w' => r = .returned (.string (itoaB x)) ∧ Below w.heap.size w w' by
  obtain ⟨n, rfl⟩ : ∃ n : Nat, x = n := ⟨x.toNat, by have := hsw x h; omega⟩
  exact rdecimal4_any n w (by have := hsw _ h; omega))
 have hgs := (itoaB_len (p := G) (by omega)).1
 have hxs : ∀ x ∈ sw, (itoaB x).size ≤ 9 := fun x h => by
  obtain ⟨n, rfl⟩ : ∃ n : Nat, x = n := ⟨x.toNat, by have := hsw x h; omega⟩
  exact (itoaB_len (p := n) (by have := hsw _ h; omega)).1
 have hP : printMB (⟨true, (G : Int), 1, sw⟩ : MacV) = bT (headT ⟨true, (G : Int), 1, sw⟩ ++ swT sw) := by rw [print_bT, printT_head]
 have hH : (⟨#[114, 105, 110, 103, 32]⟩ : ByteArray) ++ itoaB (G : Int) ++ ⟨#[32, 43, 32]⟩ = bT (headT ⟨true, (G : Int), 1, sw⟩) := by
  rw [itoaB_D, show (⟨#[114, 105, 110, 103, 32]⟩ : ByteArray) = bT [114, 105, 110, 103, 32] from rfl, show (⟨#[32, 43, 32]⟩ : ByteArray) = bT [32, 43, 32] from rfl, bT_app, bT_app]
  simp [headT, ringT, rowT]
 have hsl := fun k (h : k ≤ sw.length) => swK_len hsw h
 obtain ⟨GT, hGT⟩ : ∃ GT, GT = itoaB (G : Int) := ⟨_, rfl⟩
 rw [← hGT] at CD hgs hH
 have hbt : (bT (headT (⟨true, (G : Int), 1, sw⟩ : MacV))).size ≤ 64 := by rw [← hH]; simp [ByteArray.size_append]; (try omega); (try exact Nat.le_trans (Nat.add_le_add_right (Nat.add_le_add_left hgs _) _) (by decide))
 obtain ⟨HT, hHT⟩ : ∃ HT, HT = headT (⟨true, (G : Int), 1, sw⟩ : MacV) := ⟨_, rfl⟩
 rw [← hHT] at hP hH hbt
 rw [bT_size] at hbt
 have k1 : (⟨#[114, 105, 110, 103, 32]⟩ : ByteArray).size = 5 := rfl
 have hHD := hid CD; have HX := hid CX; have HP := hid hP; have HH := hid hH; have HSL := hid hsl; have HXS := hid hxs
 have m1 : ¬ 9223372036854775807 < 5 + GT.size := by omega
 have m2 : ¬ 9223372036854775807 < 5 + GT.size + 3 := by omega
 clear CD CX hP hH hGT hHT hsl hsw hxs k1
 go_enter Tryz.func33, Tryz.ntmps33
 go_wp2_with fail
 refine (hHD.out _).mono ?_
 rintro e w1 ⟨rfl, b1⟩
 have hS1 := hS.mono b1
 have q1 := (hS1.blk 0 rfl).1
 go_wp2_with (with_reducible refine wpList_ldB (by first | exact F_boolM | exact F_int | exact F_sliceM) wU wU q1 wU ?_)
 clear q1
 go_loopw [3, 4] (fun sv iv wr => ∃ k : Nat, k ≤ sw.length ∧ iv = .int .i64 k ∧ sv = .string (bT (HT ++ swK sw k)) ∧ SL w.heap.size w wr [pBlk w.heap.size (.cells #[.bool true, .int .i64 (G : Int), .int .i64 1, .slice ad sw.length cap] 25)]) (fun _ iv _ => sw.length - (intOf iv).toNat)
 case atStart => exact ⟨0, by omega, rfl, by rw [swK_zero, List.append_nil, ← HH.out], hS1⟩
 case round =>
  clear hS1
  obtain ⟨k, hk, rfl, rfl, hSr⟩ := hrel
  have hRr := hR.below hSr.b
  have q2 := (hSr.blk 0 rfl).1
  have hz := HSL.out k hk
  have hbz := bT_size (HT ++ swK sw k)
  rw [List.length_append] at hbz
  obtain ⟨B, hB⟩ : ∃ B, B = bT (HT ++ swK sw k) := ⟨_, rfl⟩
  rw [← hB] at hbz ⊢
  have hB9 : B.size ≤ 1000 := by omega
  by_cases hlt : k < sw.length
  ·have hmem := atD_mem hlt
   have hst := swK_step hlt
   have hx9 := HXS.out _ hmem
   have CX := fun w => HX.out _ w hmem
   obtain ⟨x, hx⟩ : ∃ x, x = atD 0 sw k := ⟨_, rfl⟩
   rw [← hx] at hst hx9 CX
   have hIx := itoaB_D x
   obtain ⟨XT, hXT⟩ : ∃ XT, XT = itoaB x := ⟨_, rfl⟩
   rw [← hXT] at hx9 CX hIx
   have HXX := hid hx; have HCX := hid CX
   by_cases h0 : 0 < k
   ·rw [if_pos h0] at hst
    have hfin : B ++ ⟨#[44]⟩ ++ XT = bT (HT ++ swK sw (k + 1)) := by
     rw [hB, hIx, show (⟨#[44]⟩ : ByteArray) = bT [44] from rfl, bT_app, bT_app, hst]; simp
    have HF := hid hfin
    have n1 : ¬ 9223372036854775807 < B.size + 1 := by omega
    have n2 : ¬ 9223372036854775807 < B.size + 1 + XT.size := by omega
    have h0i : (0 : Int) < k := by omega
    clear hst hfin hIx hXT hx CX hmem hB hbz hz
    go_wp2_with (first | (with_reducible refine wpList_ldB (by first | exact F_boolM | exact F_int | exact F_sliceM) wU wU q2 wU ?_) | ((with_reducible refine wpList_idx _ 0 E_ints F_int cInt1 wU wU (hRr) oD oD (fun _ => wU) (fun _ => ?_)); rw [← HXX.out]))
    refine (HCX.out _).mono ?_
    rintro e w3 ⟨rfl, b3⟩
    have hS3 := hSr.mono b3
    go_wp2_with fail
    exact ⟨⟨k + 1, by omega, by go_num, by rw [← HF.out], hS3⟩, by simp [intOf]; omega⟩
   ·rw [if_neg h0] at hst
    have hfin : B ++ XT = bT (HT ++ swK sw (k + 1)) := by
     rw [hB, hIx, bT_app, hst]; simp
    have HF := hid hfin
    have n2 : ¬ 9223372036854775807 < B.size + XT.size := by omega
    have h0i : ¬ (0 : Int) < k := by omega
    clear hst hfin hIx hXT hx CX hmem hB hbz hz
    go_wp2_with (first | (with_reducible refine wpList_ldB (by first | exact F_boolM | exact F_int | exact F_sliceM) wU wU q2 wU ?_) | ((with_reducible refine wpList_idx _ 0 E_ints F_int cInt1 wU wU (hRr) oD oD (fun _ => wU) (fun _ => ?_)); rw [← HXX.out]))
    refine (HCX.out _).mono ?_
    rintro e w3 ⟨rfl, b3⟩
    have hS3 := hSr.mono b3
    go_wp2_with fail
    exact ⟨⟨k + 1, by omega, by go_num, by rw [← HF.out], hS3⟩, by simp [intOf]; omega⟩
  ·have hkk : k = sw.length := by omega
   by_cases h0 : sw = []
   ·have hfin : B ++ ⟨#[110, 111, 110, 101]⟩ = bT (HT ++ swT sw) := by
     rw [hB, show (⟨#[110, 111, 110, 101]⟩ : ByteArray) = bT [110, 111, 110, 101] from rfl, bT_app]
     subst h0
     have : k = 0 := by simpa using hkk
     subst this
     rw [swK_zero]; simp [swT, noneT]
    have HF := hid hfin
    have n1 : ¬ 9223372036854775807 < B.size + 4 := by omega
    have hz0 : ((sw.length : Int) == 0) = true := by rw [h0]; rfl
    clear hfin hB hbz hz hkk h0
    go_wp2_with (with_reducible refine wpList_ldB (by first | exact F_boolM | exact F_int | exact F_sliceM) wU wU q2 wU ?_)
    go_ret
    exact ⟨by rw [HP.out, ← HF.out]; rfl, hSr.b⟩
   ·have hfin : B = bT (HT ++ swT sw) := by
     rw [hB]; unfold swK swT; rw [if_neg h0, hkk, List.take_length]
    have HF := hid hfin
    have hz0 : ((sw.length : Int) == 0) = false := by
     have := List.length_pos_iff.2 h0
     rw [beq_eq_false_iff_ne]; omega
    clear hfin hB hbz hz hkk h0
    go_wp2_with (with_reducible refine wpList_ldB (by first | exact F_boolM | exact F_int | exact F_sliceM) wU wU q2 wU ?_)
    go_ret
    exact ⟨by rw [HP.out, ← HF.out]; rfl, hSr.b⟩
theorem rPrint_ringM (g : Int) (sw : List Int) (ad : Option Addr) (cap : Nat) (w : World) (hR : Ints w ad cap sw) (g0 : 0 ≤ g) (g1 : g ≤ 16) (hsw : ∀ x ∈ sw, 0 ≤ x ∧ x < 100) (hl : sw.length ≤ 16) :
  Calls Tryz.prog 33 #[.agg #[.bool true, .int .i64 g, .int .i64 (-1), .slice ad sw.length cap]] w fun r w' => r = .returned (.string (printMB (⟨true, g, -1, sw⟩ : MacV))) ∧ Below w.heap.size w w' := by
 have hcap := hR.le
 have hmx := hR.max
 obtain ⟨G, rfl⟩ : ∃ G : Nat, g = G := ⟨g.toNat, by omega⟩
 have hS := (SL.nil w).box (.cells #[.bool true, .int .i64 (G : Int), .int .i64 (-1), .slice ad sw.length cap] 25)
 have CD := fun w => rdecimal4_any G w (by omega)
 have CX := fun (x : Int) w (h : x ∈ sw) => (show Calls Tryz.prog 88 #[.int .i64 x] w fun r w' => r = .returned (.string (itoaB x)) ∧ Below w.heap.size w w' by
  obtain ⟨n, rfl⟩ : ∃ n : Nat, x = n := ⟨x.toNat, by have := hsw x h; omega⟩
  exact rdecimal4_any n w (by have := hsw _ h; omega))
 have hgs := (itoaB_len (p := G) (by omega)).1
 have hxs : ∀ x ∈ sw, (itoaB x).size ≤ 9 := fun x h => by
  obtain ⟨n, rfl⟩ : ∃ n : Nat, x = n := ⟨x.toNat, by have := hsw x h; omega⟩
  exact (itoaB_len (p := n) (by have := hsw _ h; omega)).1
 have hP : printMB (⟨true, (G : Int), -1, sw⟩ : MacV) = bT (headT ⟨true, (G : Int), -1, sw⟩ ++ swT sw) := by rw [print_bT, printT_head]
 have hH : (⟨#[114, 105, 110, 103, 32]⟩ : ByteArray) ++ itoaB (G : Int) ++ ⟨#[32, 45, 32]⟩ = bT (headT ⟨true, (G : Int), -1, sw⟩) := by
  rw [itoaB_D, show (⟨#[114, 105, 110, 103, 32]⟩ : ByteArray) = bT [114, 105, 110, 103, 32] from rfl, show (⟨#[32, 45, 32]⟩ : ByteArray) = bT [32, 45, 32] from rfl, bT_app, bT_app]
  simp [headT, ringT, rowT]
 have hsl := fun k (h : k ≤ sw.length) => swK_len hsw h
 obtain ⟨GT, hGT⟩ : ∃ GT, GT = itoaB (G : Int) := ⟨_, rfl⟩
 rw [← hGT] at CD hgs hH
 have hbt : (bT (headT (⟨true, (G : Int), -1, sw⟩ : MacV))).size ≤ 64 := by rw [← hH]; simp [ByteArray.size_append]; (try omega); (try exact Nat.le_trans (Nat.add_le_add_right (Nat.add_le_add_left hgs _) _) (by decide))
 obtain ⟨HT, hHT⟩ : ∃ HT, HT = headT (⟨true, (G : Int), -1, sw⟩ : MacV) := ⟨_, rfl⟩
 rw [← hHT] at hP hH hbt
 rw [bT_size] at hbt
 have k1 : (⟨#[114, 105, 110, 103, 32]⟩ : ByteArray).size = 5 := rfl
 have hHD := hid CD; have HX := hid CX; have HP := hid hP; have HH := hid hH; have HSL := hid hsl; have HXS := hid hxs
 have m1 : ¬ 9223372036854775807 < 5 + GT.size := by omega
 have m2 : ¬ 9223372036854775807 < 5 + GT.size + 3 := by omega
 clear CD CX hP hH hGT hHT hsl hsw hxs k1
 go_enter Tryz.func33, Tryz.ntmps33
 go_wp2_with fail
 refine (hHD.out _).mono ?_
 rintro e w1 ⟨rfl, b1⟩
 have hS1 := hS.mono b1
 have q1 := (hS1.blk 0 rfl).1
 go_wp2_with (with_reducible refine wpList_ldB (by first | exact F_boolM | exact F_int | exact F_sliceM) wU wU q1 wU ?_)
 clear q1
 go_loopw [3, 4] (fun sv iv wr => ∃ k : Nat, k ≤ sw.length ∧ iv = .int .i64 k ∧ sv = .string (bT (HT ++ swK sw k)) ∧ SL w.heap.size w wr [pBlk w.heap.size (.cells #[.bool true, .int .i64 (G : Int), .int .i64 (-1), .slice ad sw.length cap] 25)]) (fun _ iv _ => sw.length - (intOf iv).toNat)
 case atStart => exact ⟨0, by omega, rfl, by rw [swK_zero, List.append_nil, ← HH.out], hS1⟩
 case round =>
  clear hS1
  obtain ⟨k, hk, rfl, rfl, hSr⟩ := hrel
  have hRr := hR.below hSr.b
  have q2 := (hSr.blk 0 rfl).1
  have hz := HSL.out k hk
  have hbz := bT_size (HT ++ swK sw k)
  rw [List.length_append] at hbz
  obtain ⟨B, hB⟩ : ∃ B, B = bT (HT ++ swK sw k) := ⟨_, rfl⟩
  rw [← hB] at hbz ⊢
  have hB9 : B.size ≤ 1000 := by omega
  by_cases hlt : k < sw.length
  ·have hmem := atD_mem hlt
   have hst := swK_step hlt
   have hx9 := HXS.out _ hmem
   have CX := fun w => HX.out _ w hmem
   obtain ⟨x, hx⟩ : ∃ x, x = atD 0 sw k := ⟨_, rfl⟩
   rw [← hx] at hst hx9 CX
   have hIx := itoaB_D x
   obtain ⟨XT, hXT⟩ : ∃ XT, XT = itoaB x := ⟨_, rfl⟩
   rw [← hXT] at hx9 CX hIx
   have HXX := hid hx; have HCX := hid CX
   by_cases h0 : 0 < k
   ·rw [if_pos h0] at hst
    have hfin : B ++ ⟨#[44]⟩ ++ XT = bT (HT ++ swK sw (k + 1)) := by
     rw [hB, hIx, show (⟨#[44]⟩ : ByteArray) = bT [44] from rfl, bT_app, bT_app, hst]; simp
    have HF := hid hfin
    have n1 : ¬ 9223372036854775807 < B.size + 1 := by omega
    have n2 : ¬ 9223372036854775807 < B.size + 1 + XT.size := by omega
    have h0i : (0 : Int) < k := by omega
    clear hst hfin hIx hXT hx CX hmem hB hbz hz
    go_wp2_with (first | (with_reducible refine wpList_ldB (by first | exact F_boolM | exact F_int | exact F_sliceM) wU wU q2 wU ?_) | ((with_reducible refine wpList_idx _ 0 E_ints F_int cInt1 wU wU (hRr) oD oD (fun _ => wU) (fun _ => ?_)); rw [← HXX.out]))
    refine (HCX.out _).mono ?_
    rintro e w3 ⟨rfl, b3⟩
    have hS3 := hSr.mono b3
    go_wp2_with fail
    exact ⟨⟨k + 1, by omega, by go_num, by rw [← HF.out], hS3⟩, by simp [intOf]; omega⟩
   ·rw [if_neg h0] at hst
    have hfin : B ++ XT = bT (HT ++ swK sw (k + 1)) := by
     rw [hB, hIx, bT_app, hst]; simp
    have HF := hid hfin
    have n2 : ¬ 9223372036854775807 < B.size + XT.size := by omega
    have h0i : ¬ (0 : Int) < k := by omega
    clear hst hfin hIx hXT hx CX hmem hB hbz hz
    go_wp2_with (first | (with_reducible refine wpList_ldB (by first | exact F_boolM | exact F_int | exact F_sliceM) wU wU q2 wU ?_) | ((with_reducible refine wpList_idx _ 0 E_ints F_int cInt1 wU wU (hRr) oD oD (fun _ => wU) (fun _ => ?_)); rw [← HXX.out]))
    refine (HCX.out _).mono ?_
    rintro e w3 ⟨rfl, b3⟩
    have hS3 := hSr.mono b3
    go_wp2_with fail
    exact ⟨⟨k + 1, by omega, by go_num, by rw [← HF.out], hS3⟩, by simp [intOf]; omega⟩
  ·have hkk : k = sw.length := by omega
   by_cases h0 : sw = []
   ·have hfin : B ++ ⟨#[110, 111, 110, 101]⟩ = bT (HT ++ swT sw) := by
     rw [hB, show (⟨#[110, 111, 110, 101]⟩ : ByteArray) = bT [110, 111, 110, 101] from rfl, bT_app]
     subst h0
     have : k = 0 := by simpa using hkk
     subst this
     rw [swK_zero]; simp [swT, noneT]
    have HF := hid hfin
    have n1 : ¬ 9223372036854775807 < B.size + 4 := by omega
    have hz0 : ((sw.length : Int) == 0) = true := by rw [h0]; rfl
    clear hfin hB hbz hz hkk h0
    go_wp2_with (with_reducible refine wpList_ldB (by first | exact F_boolM | exact F_int | exact F_sliceM) wU wU q2 wU ?_)
    go_ret
    exact ⟨by rw [HP.out, ← HF.out]; rfl, hSr.b⟩
   ·have hfin : B = bT (HT ++ swT sw) := by
     rw [hB]; unfold swK swT; rw [if_neg h0, hkk, List.take_length]
    have HF := hid hfin
    have hz0 : ((sw.length : Int) == 0) = false := by
     have := List.length_pos_iff.2 h0
     rw [beq_eq_false_iff_ne]; omega
    clear hfin hB hbz hz hkk h0
    go_wp2_with (with_reducible refine wpList_ldB (by first | exact F_boolM | exact F_int | exact F_sliceM) wU wU q2 wU ?_)
    go_ret
    exact ⟨by rw [HP.out, ← HF.out]; rfl, hSr.b⟩
theorem rPrint_rowP (g : Int) (sw : List Int) (ad : Option Addr) (cap : Nat) (w : World) (hR : Ints w ad cap sw) (g0 : 0 ≤ g) (g1 : g ≤ 16) (hsw : ∀ x ∈ sw, 0 ≤ x ∧ x < 100) (hl : sw.length ≤ 16) :
  Calls Tryz.prog 33 #[.agg #[.bool false, .int .i64 g, .int .i64 1, .slice ad sw.length cap]] w fun r w' => r = .returned (.string (printMB (⟨false, g, 1, sw⟩ : MacV))) ∧ Below w.heap.size w w' := by
 have hcap := hR.le
 have hmx := hR.max
 obtain ⟨G, rfl⟩ : ∃ G : Nat, g = G := ⟨g.toNat, by omega⟩
 have hS := (SL.nil w).box (.cells #[.bool false, .int .i64 (G : Int), .int .i64 1, .slice ad sw.length cap] 25)
 have CD := fun w => rdecimal4_any G w (by omega)
 have CX := fun (x : Int) w (h : x ∈ sw) => (show Calls Tryz.prog 88 #[.int .i64 x] w fun r w' => r = .returned (.string (itoaB x)) ∧ Below w.heap.size w w' by
  obtain ⟨n, rfl⟩ : ∃ n : Nat, x = n := ⟨x.toNat, by have := hsw x h; omega⟩
  exact rdecimal4_any n w (by have := hsw _ h; omega))
 have hgs := (itoaB_len (p := G) (by omega)).1
 have hxs : ∀ x ∈ sw, (itoaB x).size ≤ 9 := fun x h => by
  obtain ⟨n, rfl⟩ : ∃ n : Nat, x = n := ⟨x.toNat, by have := hsw x h; omega⟩
  exact (itoaB_len (p := n) (by have := hsw _ h; omega)).1
 have hP : printMB (⟨false, (G : Int), 1, sw⟩ : MacV) = bT (headT ⟨false, (G : Int), 1, sw⟩ ++ swT sw) := by rw [print_bT, printT_head]
 have hH : (⟨#[114, 111, 119, 32]⟩ : ByteArray) ++ itoaB (G : Int) ++ ⟨#[32, 43, 32]⟩ = bT (headT ⟨false, (G : Int), 1, sw⟩) := by
  rw [itoaB_D, show (⟨#[114, 111, 119, 32]⟩ : ByteArray) = bT [114, 111, 119, 32] from rfl, show (⟨#[32, 43, 32]⟩ : ByteArray) = bT [32, 43, 32] from rfl, bT_app, bT_app]
  simp [headT, ringT, rowT]
 have hsl := fun k (h : k ≤ sw.length) => swK_len hsw h
 obtain ⟨GT, hGT⟩ : ∃ GT, GT = itoaB (G : Int) := ⟨_, rfl⟩
 rw [← hGT] at CD hgs hH
 have hbt : (bT (headT (⟨false, (G : Int), 1, sw⟩ : MacV))).size ≤ 64 := by rw [← hH]; simp [ByteArray.size_append]; (try omega); (try exact Nat.le_trans (Nat.add_le_add_right (Nat.add_le_add_left hgs _) _) (by decide))
 obtain ⟨HT, hHT⟩ : ∃ HT, HT = headT (⟨false, (G : Int), 1, sw⟩ : MacV) := ⟨_, rfl⟩
 rw [← hHT] at hP hH hbt
 rw [bT_size] at hbt
 have k1 : (⟨#[114, 111, 119, 32]⟩ : ByteArray).size = 4 := rfl
 have hHD := hid CD; have HX := hid CX; have HP := hid hP; have HH := hid hH; have HSL := hid hsl; have HXS := hid hxs
 have m1 : ¬ 9223372036854775807 < 4 + GT.size := by omega
 have m2 : ¬ 9223372036854775807 < 4 + GT.size + 3 := by omega
 clear CD CX hP hH hGT hHT hsl hsw hxs k1
 go_enter Tryz.func33, Tryz.ntmps33
 go_wp2_with fail
 refine (hHD.out _).mono ?_
 rintro e w1 ⟨rfl, b1⟩
 have hS1 := hS.mono b1
 have q1 := (hS1.blk 0 rfl).1
 go_wp2_with (with_reducible refine wpList_ldB (by first | exact F_boolM | exact F_int | exact F_sliceM) wU wU q1 wU ?_)
 clear q1
 go_loopw [3, 4] (fun sv iv wr => ∃ k : Nat, k ≤ sw.length ∧ iv = .int .i64 k ∧ sv = .string (bT (HT ++ swK sw k)) ∧ SL w.heap.size w wr [pBlk w.heap.size (.cells #[.bool false, .int .i64 (G : Int), .int .i64 1, .slice ad sw.length cap] 25)]) (fun _ iv _ => sw.length - (intOf iv).toNat)
 case atStart => exact ⟨0, by omega, rfl, by rw [swK_zero, List.append_nil, ← HH.out], hS1⟩
 case round =>
  clear hS1
  obtain ⟨k, hk, rfl, rfl, hSr⟩ := hrel
  have hRr := hR.below hSr.b
  have q2 := (hSr.blk 0 rfl).1
  have hz := HSL.out k hk
  have hbz := bT_size (HT ++ swK sw k)
  rw [List.length_append] at hbz
  obtain ⟨B, hB⟩ : ∃ B, B = bT (HT ++ swK sw k) := ⟨_, rfl⟩
  rw [← hB] at hbz ⊢
  have hB9 : B.size ≤ 1000 := by omega
  by_cases hlt : k < sw.length
  ·have hmem := atD_mem hlt
   have hst := swK_step hlt
   have hx9 := HXS.out _ hmem
   have CX := fun w => HX.out _ w hmem
   obtain ⟨x, hx⟩ : ∃ x, x = atD 0 sw k := ⟨_, rfl⟩
   rw [← hx] at hst hx9 CX
   have hIx := itoaB_D x
   obtain ⟨XT, hXT⟩ : ∃ XT, XT = itoaB x := ⟨_, rfl⟩
   rw [← hXT] at hx9 CX hIx
   have HXX := hid hx; have HCX := hid CX
   by_cases h0 : 0 < k
   ·rw [if_pos h0] at hst
    have hfin : B ++ ⟨#[44]⟩ ++ XT = bT (HT ++ swK sw (k + 1)) := by
     rw [hB, hIx, show (⟨#[44]⟩ : ByteArray) = bT [44] from rfl, bT_app, bT_app, hst]; simp
    have HF := hid hfin
    have n1 : ¬ 9223372036854775807 < B.size + 1 := by omega
    have n2 : ¬ 9223372036854775807 < B.size + 1 + XT.size := by omega
    have h0i : (0 : Int) < k := by omega
    clear hst hfin hIx hXT hx CX hmem hB hbz hz
    go_wp2_with (first | (with_reducible refine wpList_ldB (by first | exact F_boolM | exact F_int | exact F_sliceM) wU wU q2 wU ?_) | ((with_reducible refine wpList_idx _ 0 E_ints F_int cInt1 wU wU (hRr) oD oD (fun _ => wU) (fun _ => ?_)); rw [← HXX.out]))
    refine (HCX.out _).mono ?_
    rintro e w3 ⟨rfl, b3⟩
    have hS3 := hSr.mono b3
    go_wp2_with fail
    exact ⟨⟨k + 1, by omega, by go_num, by rw [← HF.out], hS3⟩, by simp [intOf]; omega⟩
   ·rw [if_neg h0] at hst
    have hfin : B ++ XT = bT (HT ++ swK sw (k + 1)) := by
     rw [hB, hIx, bT_app, hst]; simp
    have HF := hid hfin
    have n2 : ¬ 9223372036854775807 < B.size + XT.size := by omega
    have h0i : ¬ (0 : Int) < k := by omega
    clear hst hfin hIx hXT hx CX hmem hB hbz hz
    go_wp2_with (first | (with_reducible refine wpList_ldB (by first | exact F_boolM | exact F_int | exact F_sliceM) wU wU q2 wU ?_) | ((with_reducible refine wpList_idx _ 0 E_ints F_int cInt1 wU wU (hRr) oD oD (fun _ => wU) (fun _ => ?_)); rw [← HXX.out]))
    refine (HCX.out _).mono ?_
    rintro e w3 ⟨rfl, b3⟩
    have hS3 := hSr.mono b3
    go_wp2_with fail
    exact ⟨⟨k + 1, by omega, by go_num, by rw [← HF.out], hS3⟩, by simp [intOf]; omega⟩
  ·have hkk : k = sw.length := by omega
   by_cases h0 : sw = []
   ·have hfin : B ++ ⟨#[110, 111, 110, 101]⟩ = bT (HT ++ swT sw) := by
     rw [hB, show (⟨#[110, 111, 110, 101]⟩ : ByteArray) = bT [110, 111, 110, 101] from rfl, bT_app]
     subst h0
     have : k = 0 := by simpa using hkk
     subst this
     rw [swK_zero]; simp [swT, noneT]
    have HF := hid hfin
    have n1 : ¬ 9223372036854775807 < B.size + 4 := by omega
    have hz0 : ((sw.length : Int) == 0) = true := by rw [h0]; rfl
    clear hfin hB hbz hz hkk h0
    go_wp2_with (with_reducible refine wpList_ldB (by first | exact F_boolM | exact F_int | exact F_sliceM) wU wU q2 wU ?_)
    go_ret
    exact ⟨by rw [HP.out, ← HF.out]; rfl, hSr.b⟩
   ·have hfin : B = bT (HT ++ swT sw) := by
     rw [hB]; unfold swK swT; rw [if_neg h0, hkk, List.take_length]
    have HF := hid hfin
    have hz0 : ((sw.length : Int) == 0) = false := by
     have := List.length_pos_iff.2 h0
     rw [beq_eq_false_iff_ne]; omega
    clear hfin hB hbz hz hkk h0
    go_wp2_with (with_reducible refine wpList_ldB (by first | exact F_boolM | exact F_int | exact F_sliceM) wU wU q2 wU ?_)
    go_ret
    exact ⟨by rw [HP.out, ← HF.out]; rfl, hSr.b⟩
theorem rPrint_rowM (g : Int) (sw : List Int) (ad : Option Addr) (cap : Nat) (w : World) (hR : Ints w ad cap sw) (g0 : 0 ≤ g) (g1 : g ≤ 16) (hsw : ∀ x ∈ sw, 0 ≤ x ∧ x < 100) (hl : sw.length ≤ 16) :
  Calls Tryz.prog 33 #[.agg #[.bool false, .int .i64 g, .int .i64 (-1), .slice ad sw.length cap]] w fun r w' => r = .returned (.string (printMB (⟨false, g, -1, sw⟩ : MacV))) ∧ Below w.heap.size w w' := by
 have hcap := hR.le
 have hmx := hR.max
 obtain ⟨G, rfl⟩ : ∃ G : Nat, g = G := ⟨g.toNat, by omega⟩
 have hS := (SL.nil w).box (.cells #[.bool false, .int .i64 (G : Int), .int .i64 (-1), .slice ad sw.length cap] 25)
 have CD := fun w => rdecimal4_any G w (by omega)
 have CX := fun (x : Int) w (h : x ∈ sw) => (show Calls Tryz.prog 88 #[.int .i64 x] w fun r w' => r = .returned (.string (itoaB x)) ∧ Below w.heap.size w w' by
  obtain ⟨n, rfl⟩ : ∃ n : Nat, x = n := ⟨x.toNat, by have := hsw x h; omega⟩
  exact rdecimal4_any n w (by have := hsw _ h; omega))
 have hgs := (itoaB_len (p := G) (by omega)).1
 have hxs : ∀ x ∈ sw, (itoaB x).size ≤ 9 := fun x h => by
  obtain ⟨n, rfl⟩ : ∃ n : Nat, x = n := ⟨x.toNat, by have := hsw x h; omega⟩
  exact (itoaB_len (p := n) (by have := hsw _ h; omega)).1
 have hP : printMB (⟨false, (G : Int), -1, sw⟩ : MacV) = bT (headT ⟨false, (G : Int), -1, sw⟩ ++ swT sw) := by rw [print_bT, printT_head]
 have hH : (⟨#[114, 111, 119, 32]⟩ : ByteArray) ++ itoaB (G : Int) ++ ⟨#[32, 45, 32]⟩ = bT (headT ⟨false, (G : Int), -1, sw⟩) := by
  rw [itoaB_D, show (⟨#[114, 111, 119, 32]⟩ : ByteArray) = bT [114, 111, 119, 32] from rfl, show (⟨#[32, 45, 32]⟩ : ByteArray) = bT [32, 45, 32] from rfl, bT_app, bT_app]
  simp [headT, ringT, rowT]
 have hsl := fun k (h : k ≤ sw.length) => swK_len hsw h
 obtain ⟨GT, hGT⟩ : ∃ GT, GT = itoaB (G : Int) := ⟨_, rfl⟩
 rw [← hGT] at CD hgs hH
 have hbt : (bT (headT (⟨false, (G : Int), -1, sw⟩ : MacV))).size ≤ 64 := by rw [← hH]; simp [ByteArray.size_append]; (try omega); (try exact Nat.le_trans (Nat.add_le_add_right (Nat.add_le_add_left hgs _) _) (by decide))
 obtain ⟨HT, hHT⟩ : ∃ HT, HT = headT (⟨false, (G : Int), -1, sw⟩ : MacV) := ⟨_, rfl⟩
 rw [← hHT] at hP hH hbt
 rw [bT_size] at hbt
 have k1 : (⟨#[114, 111, 119, 32]⟩ : ByteArray).size = 4 := rfl
 have hHD := hid CD; have HX := hid CX; have HP := hid hP; have HH := hid hH; have HSL := hid hsl; have HXS := hid hxs
 have m1 : ¬ 9223372036854775807 < 4 + GT.size := by omega
 have m2 : ¬ 9223372036854775807 < 4 + GT.size + 3 := by omega
 clear CD CX hP hH hGT hHT hsl hsw hxs k1
 go_enter Tryz.func33, Tryz.ntmps33
 go_wp2_with fail
 refine (hHD.out _).mono ?_
 rintro e w1 ⟨rfl, b1⟩
 have hS1 := hS.mono b1
 have q1 := (hS1.blk 0 rfl).1
 go_wp2_with (with_reducible refine wpList_ldB (by first | exact F_boolM | exact F_int | exact F_sliceM) wU wU q1 wU ?_)
 clear q1
 go_loopw [3, 4] (fun sv iv wr => ∃ k : Nat, k ≤ sw.length ∧ iv = .int .i64 k ∧ sv = .string (bT (HT ++ swK sw k)) ∧ SL w.heap.size w wr [pBlk w.heap.size (.cells #[.bool false, .int .i64 (G : Int), .int .i64 (-1), .slice ad sw.length cap] 25)]) (fun _ iv _ => sw.length - (intOf iv).toNat)
 case atStart => exact ⟨0, by omega, rfl, by rw [swK_zero, List.append_nil, ← HH.out], hS1⟩
 case round =>
  clear hS1
  obtain ⟨k, hk, rfl, rfl, hSr⟩ := hrel
  have hRr := hR.below hSr.b
  have q2 := (hSr.blk 0 rfl).1
  have hz := HSL.out k hk
  have hbz := bT_size (HT ++ swK sw k)
  rw [List.length_append] at hbz
  obtain ⟨B, hB⟩ : ∃ B, B = bT (HT ++ swK sw k) := ⟨_, rfl⟩
  rw [← hB] at hbz ⊢
  have hB9 : B.size ≤ 1000 := by omega
  by_cases hlt : k < sw.length
  ·have hmem := atD_mem hlt
   have hst := swK_step hlt
   have hx9 := HXS.out _ hmem
   have CX := fun w => HX.out _ w hmem
   obtain ⟨x, hx⟩ : ∃ x, x = atD 0 sw k := ⟨_, rfl⟩
   rw [← hx] at hst hx9 CX
   have hIx := itoaB_D x
   obtain ⟨XT, hXT⟩ : ∃ XT, XT = itoaB x := ⟨_, rfl⟩
   rw [← hXT] at hx9 CX hIx
   have HXX := hid hx; have HCX := hid CX
   by_cases h0 : 0 < k
   ·rw [if_pos h0] at hst
    have hfin : B ++ ⟨#[44]⟩ ++ XT = bT (HT ++ swK sw (k + 1)) := by
     rw [hB, hIx, show (⟨#[44]⟩ : ByteArray) = bT [44] from rfl, bT_app, bT_app, hst]; simp
    have HF := hid hfin
    have n1 : ¬ 9223372036854775807 < B.size + 1 := by omega
    have n2 : ¬ 9223372036854775807 < B.size + 1 + XT.size := by omega
    have h0i : (0 : Int) < k := by omega
    clear hst hfin hIx hXT hx CX hmem hB hbz hz
    go_wp2_with (first | (with_reducible refine wpList_ldB (by first | exact F_boolM | exact F_int | exact F_sliceM) wU wU q2 wU ?_) | ((with_reducible refine wpList_idx _ 0 E_ints F_int cInt1 wU wU (hRr) oD oD (fun _ => wU) (fun _ => ?_)); rw [← HXX.out]))
    refine (HCX.out _).mono ?_
    rintro e w3 ⟨rfl, b3⟩
    have hS3 := hSr.mono b3
    go_wp2_with fail
    exact ⟨⟨k + 1, by omega, by go_num, by rw [← HF.out], hS3⟩, by simp [intOf]; omega⟩
   ·rw [if_neg h0] at hst
    have hfin : B ++ XT = bT (HT ++ swK sw (k + 1)) := by
     rw [hB, hIx, bT_app, hst]; simp
    have HF := hid hfin
    have n2 : ¬ 9223372036854775807 < B.size + XT.size := by omega
    have h0i : ¬ (0 : Int) < k := by omega
    clear hst hfin hIx hXT hx CX hmem hB hbz hz
    go_wp2_with (first | (with_reducible refine wpList_ldB (by first | exact F_boolM | exact F_int | exact F_sliceM) wU wU q2 wU ?_) | ((with_reducible refine wpList_idx _ 0 E_ints F_int cInt1 wU wU (hRr) oD oD (fun _ => wU) (fun _ => ?_)); rw [← HXX.out]))
    refine (HCX.out _).mono ?_
    rintro e w3 ⟨rfl, b3⟩
    have hS3 := hSr.mono b3
    go_wp2_with fail
    exact ⟨⟨k + 1, by omega, by go_num, by rw [← HF.out], hS3⟩, by simp [intOf]; omega⟩
  ·have hkk : k = sw.length := by omega
   by_cases h0 : sw = []
   ·have hfin : B ++ ⟨#[110, 111, 110, 101]⟩ = bT (HT ++ swT sw) := by
     rw [hB, show (⟨#[110, 111, 110, 101]⟩ : ByteArray) = bT [110, 111, 110, 101] from rfl, bT_app]
     subst h0
     have : k = 0 := by simpa using hkk
     subst this
     rw [swK_zero]; simp [swT, noneT]
    have HF := hid hfin
    have n1 : ¬ 9223372036854775807 < B.size + 4 := by omega
    have hz0 : ((sw.length : Int) == 0) = true := by rw [h0]; rfl
    clear hfin hB hbz hz hkk h0
    go_wp2_with (with_reducible refine wpList_ldB (by first | exact F_boolM | exact F_int | exact F_sliceM) wU wU q2 wU ?_)
    go_ret
    exact ⟨by rw [HP.out, ← HF.out]; rfl, hSr.b⟩
   ·have hfin : B = bT (HT ++ swT sw) := by
     rw [hB]; unfold swK swT; rw [if_neg h0, hkk, List.take_length]
    have HF := hid hfin
    have hz0 : ((sw.length : Int) == 0) = false := by
     have := List.length_pos_iff.2 h0
     rw [beq_eq_false_iff_ne]; omega
    clear hfin hB hbz hz hkk h0
    go_wp2_with (with_reducible refine wpList_ldB (by first | exact F_boolM | exact F_int | exact F_sliceM) wU wU q2 wU ?_)
    go_ret
    exact ⟨by rw [HP.out, ← HF.out]; rfl, hSr.b⟩
theorem rPrint4_any (m : MacV) (ad : Option Addr) (cap : Nat) (w : World) (hR : Ints w ad cap m.sw) (g0 : 0 ≤ m.gears) (g1 : m.gears ≤ 16) (ht : m.turn = 1 ∨ m.turn = -1) (hsw : ∀ x ∈ m.sw, 0 ≤ x ∧ x < 100) (hl : m.sw.length ≤ 16) :
  Calls Tryz.prog 33 #[mV m ad cap] w fun r w' => r = .returned (.string (printMB m)) ∧ Below w.heap.size w w' := by
 obtain ⟨r, g, t, sw⟩ := m
 dsimp only at *
 cases r
 ·rcases ht with rfl | rfl
  ·exact rPrint_rowP g sw ad cap w hR g0 g1 hsw hl
  ·exact rPrint_rowM g sw ad cap w hR g0 g1 hsw hl
 ·rcases ht with rfl | rfl
  ·exact rPrint_ringP g sw ad cap w hR g0 g1 hsw hl
  ·exact rPrint_ringM g sw ad cap w hR g0 g1 hsw hl
end Go.Proofs.YtoebgfgihfjnnaaGreatDoor

namespace Go.Proofs.YtoebgfgihfjnnaaGreatDoor
open Go.RowKit
set_option maxHeartbeats 4000000
set_option maxRecDepth 100000

theorem sto_str (u : ByteArray) (w : World) (p : Addr) (h1 : (w.cell? p).isSome = true) (h2 : w.frozen? p = false) : (Instr.storeAt 9 (.pointer (some p)) (cStr u)).run Tryz.prog w = .ok () (w.setCell p (cStr u)) := by
 obtain ⟨v, hv⟩ := Option.isSome_iff_exists.1 h1
 simp [go_sem, hv, h2]
theorem set_last (o : List ByteArray) (x y : ByteArray) : (o ++ [x]).set o.length y = o ++ [y] := by
 rw [List.set_append_right _ _ (Nat.le_refl _), Nat.sub_self]; rfl
theorem rSplit4_any (c : UInt8) (S : List UInt8) (w : World) (hz : S.length ≤ 1048576) :
  Calls Tryz.prog 89 #[.string (bT S), .int .u8 (c.toNat : Int)] w fun r w' => ∃ v, r = .returned v ∧ Own cStr 1 w.heap.size 9 w' v ((spl c S).map bT) ∧ Below w.heap.size w w' := by
 have hsz := bT_size S
 have hex : ∀ i j : Nat, (bT S).extract i j = bT ((S.take j).drop i) := fun i j => bT_extract S i j
 have hby : ∀ (i : Nat) (h : i < (bT S).size) (h2 : i < S.length), (((bT S)[i]'h).toNat : Int) = (S[i].toNat : Int) := fun i h h2 => by rw [← byteAt_in h, bT_at h2]
 obtain ⟨s, hs⟩ : ∃ s, s = bT S := ⟨_, rfl⟩
 rw [← hs] at hsz hex ⊢
 have hby2 : ∀ (i : Nat) (h : i < s.size) (h2 : i < S.length), ((s[i]'h).toNat : Int) = (S[i].toNat : Int) := by subst hs; exact hby
 have HEX := hid hex; have HBY := hid hby2; have HSZ := hid hsz
 have hz2 : s.size ≤ 1048576 := by omega
 have hS0 := (SL.nil w).call (SL.ofOwn (own_newN (e := 9) (w := w) cStrS [ByteArray.empty] 1 rfl (by decide) #[.string ByteArray.empty] rfl (Nat.le_refl _) rfl) (bal (Below.refl _ _) _))
 simp only [List.cons_append, List.nil_append] at hS0
 clear hby hby2 hex hs
 go_enter Tryz.func89, Tryz.ntmps89
 go_wp2_with fail
 go_loopw [5, 6] (fun ov iv wr => ∃ (i : Nat) (o : List (List UInt8)) (cur : List UInt8), i ≤ s.size ∧ iv = .int .i64 i ∧ o.length ≤ i ∧ cur.length ≤ i ∧ spl c S = o ++ splR c cur (S.drop i) ∧ SL w.heap.size w wr [pOwn cStr 1 9 ov ((o ++ [cur]).map bT)]) (fun _ iv _ => s.size - (intOf iv).toNat)
 case atStart => exact ⟨0, [], [], by omega, rfl, Nat.le_refl _, Nat.le_refl _, by simp [spl], hS0⟩
 case round =>
  clear hS0
  obtain ⟨i, o, cur, hi, rfl, hol, hcl, hsp, hO⟩ := hrel
  by_cases hlt : i < s.size
  ·have hltS : i < S.length := by omega
   have hdr : S.drop i = S[i] :: S.drop (i + 1) := List.drop_eq_getElem_cons hltS
   rw [hdr, splR] at hsp
   have hbi := HBY.out i hlt hltS
   by_cases hb : S[i] = c
   ·rw [if_pos hb] at hsp
    have hd : (((s[i]'hlt).toNat : Int) == (c.toNat : Int)) = true := by rw [hbi, hb]; simp
    have hml : ((o ++ [cur]).map bT).length ≤ 1048578 := by simp; omega
    have HS := hid hsp
    clear hsp hb hbi hdr hsz
    go_wp2_with ((with_reducible refine wpList_pushL (y := ByteArray.empty) 0 E_strs wU wU (hO) wU cStrO ⟨rfl, rfl⟩ (by first | with_unfolding_all rfl | simp) wU (by first | omega | (simp; omega)) (by first | omega | (simp; omega)) ?_); intro v3 w3 hS3)
    refine ⟨⟨i + 1, o ++ [cur], [], by omega, by go_num, by simp; omega, by simp, by rw [HS.out]; simp [spl], by rw [List.map_append]; exact hS3⟩, ?_⟩
    simp [intOf]; omega
   ·rw [if_neg hb] at hsp
    have hd : (((s[i]'hlt).toNat : Int) == (c.toNat : Int)) = false := by
     rw [hbi, beq_eq_false_iff_ne]
     intro e
     exact hb (by have : S[i].toNat = c.toNat := by omega
                  have := u8_eq this; simpa using this)
    obtain ⟨M, hM⟩ : ∃ M, M = (o ++ [cur]).map bT := ⟨_, rfl⟩
    have hMl : M.length = o.length + 1 := by rw [hM]; simp
    have hat : atD ByteArray.empty M ((M.length : Int) - 1) = bT cur := by
     have : ((M.length : Int) - 1).toNat = o.length := by omega
     unfold atD
     rw [this, hM]; simp [List.getD_eq_getElem?_getD]
    have hset : ∀ u, M.set ((M.length : Int) - 1).toNat u = o.map bT ++ [u] := fun u => by
     have : ((M.length : Int) - 1).toNat = (o.map bT).length := by simp; omega
     rw [this, hM, List.map_append]; exact set_last _ _ _
    have hM0 : 0 < M.length := by omega
    have hM1 : M.length ≤ 1048578 := by omega
    have hwl : IntKind.i64.wrap ((M.length : Int) - 1) = (M.length : Int) - 1 := IntWalk.i64_in _ (by omega)
    have hwi : IntKind.i64.wrap ((i : Int) + 1) = (i : Int) + 1 := IntWalk.i64_in _ (by omega)
    have hxe : s.extract i (i + 1) = bT [S[i]] := by
     rw [HEX.out, take_drop_step hltS (Nat.le_refl _), List.drop_of_length_le (by simp; omega)]; rfl
    obtain ⟨X, hX⟩ : ∃ X, X = s.extract i (i + 1) := ⟨_, rfl⟩
    have hX2 : s.extract i ((i : Int) + 1).toNat = X := by rw [hX, show ((i : Int) + 1).toNat = i + 1 by omega]
    have hX1 : X.size = 1 := by rw [hX, hxe]; rfl
    obtain ⟨C, hC⟩ : ∃ C, C = bT cur := ⟨_, rfl⟩
    have hC1 : C.size ≤ 1048576 := by rw [hC, bT_size]; omega
    have hcx : C ++ X = bT (cur ++ [S[i]]) := by rw [hC, hX, hxe, bT_app]
    rw [← hM] at hO
    rw [← hC] at hat
    have hsm : ¬ 9223372036854775807 < C.size + X.size := by omega
    have HS := hid hsp; have HAT := hid hat; have HSET := hid hset; have HX := hid hX; have HX2 := hid hX2; have HCX := hid hcx
    have hh1 : (0 : Int) ≤ (i : Int) + 1 := by omega
    have hh2 : (i : Int) + 1 ≤ s.size := by omega
    have hh3 : (i : Int) ≤ (i : Int) + 1 := by omega
    clear hsp hb hbi hdr hsz hat hset hX hX2 hX1 hxe hC hcx hM hMl
    obtain ⟨ao, co, rfl, hRo⟩ := hO.slice 0 rfl
    go_wp2_with fail
    refine wp_region_qt 12 kR kR ?_
    simp only [List.take_succ_cons, List.take_zero, List.drop_succ_cons, List.drop_zero]
    repeat (first | (((with_reducible refine wpB_idx2 ByteArray.empty E_strs F_str cStr1 wU (rfl) wU (hRo) oD oD (fun _ => wU) (fun _ => ?_)); (try simp only [Act.put, pA, pB, pC]); (try simp only [cInt])); rw [HAT.out]) | (((refine wpQ_oneG ?_ wU (fun w' => ?_) ?_); rotate_left; (go_simp; rfl); (try simp only [Act.put, pA, pB, pC])); rw [← HX.out]) |  ((with_reducible refine wpB_load (by first | exact F_int | exact F_u64s) wU wU (by assumption) wU ?_); (try simp only [Act.put, pA, pB, pC])) | ((with_reducible refine wpB_loadS (n := 2) (us := #[_, _]) A_int kR wU wU (by assumption) wU wU ?_); (try simp only [Act.put, pA, pB, pC])) | ((with_reducible refine wpB_loadS (n := 4) (us := #[_, _, _, _]) A_frac kR wU wU (by assumption) wU wU ?_); (try simp only [Act.put, pA, pB, pC])) | ((refine wpQ_oneG ?_ wU (fun w' => ?_) ?_); rotate_left; (go_simp; rfl); (try simp only [Act.put, pA, pB, pC])))
    refine wpQuiet_nil ?_
    intro w3 hb3
    have hO3 := hO.mono hb3
    go_wp2_with ((with_reducible refine wpList_storeL (u := (C ++ X)) 0 E_strs cStr1 (sto_str) wU wU (hO3) wU (by first | omega | (simp; done) | (simp; omega)) (by first | omega | (simp; done) | (simp; omega)) (fun _ => wU) (fun _ => wU) ?_); intro _ w4 hS4)
    rw [HSET.out] at hS4
    refine ⟨⟨i + 1, o, cur ++ [S[i]], by omega, by go_num, by omega, by simp; omega, HS.out, by rw [List.map_append, List.map_cons, List.map_nil, ← HCX.out]; exact hS4⟩, ?_⟩
    simp [intOf]; omega
  ·have hnil : S.drop i = [] := List.drop_of_length_le (by omega)
   rw [hnil, splR] at hsp
   have HS := hid hsp
   clear hsp hnil hsz
   go_wp2_with fail
   go_ret
   exact ⟨_, rfl, by rw [HS.out]; exact hO.own 0 rfl, hO.b⟩
end Go.Proofs.YtoebgfgihfjnnaaGreatDoor
