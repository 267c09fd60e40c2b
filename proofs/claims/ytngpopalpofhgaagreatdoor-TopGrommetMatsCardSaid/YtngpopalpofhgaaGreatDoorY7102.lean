/- Contracts and plain facts that the claim uses (PeA RoA LtA CiA EnP NfP NfR Lib2 ItA OpC LwA TuP RmP QrM ShP RD KnP KnQ Gs1 GmP). Conditions: as each one states. -/
import Derived.RangeFuncNested
import Derived.RangeFuncBound
import Derived.RangeFuncCalls
import Derived.RangeFuncLeaves
import Derived.RangeFuncFrom
import Derived.Shelf.Abstract
import Derived.Shelf.RegionOpen
import Derived.WalkKit
import Derived.OwnWalkIn
import Derived.TacticsInMore
import Derived.LoopNIn
import Derived.LoopIn
import Derived.Test.YtngpopalpofhgaaGreatDoorProg
import Derived.WalkSpells
import Derived.Maps.AppendAt
import Derived.Deep.Quiet
import Derived.Maps.Own
import Derived.Maps.OwnSet
import Derived.Maps.Views
import Derived.WalkLawsBesides
import Derived.Laws.EntriesVeiled
import Derived.Deep.QuietTactic
import Derived.BigQuiet
import Derived.StillTail
import Derived.Laws.Tables
import Derived.Deep.RegionHeld3
import Derived.IntWalk
import Derived.Shelf.Strings.Trim
import Derived.Shelf.Strings.SlTrimAscii
import Derived.Shelf.Strings.Repeat
import Derived.Shelf.Strings.OnBuilder
import Derived.Shelf.Strconv.Itoa1
import Derived.Shelf.Strconv.Itoa3
import Derived.Shelf.LaysM
import Derived.Ground.Names2Prog
import Derived.Laws.CopyOwn
import Derived.Deep.RegionLaw
import Derived.BigRegion
import Derived.ChangeAlike
import Derived.Shelf.Bits.Mul64
import Derived.Lib.OthersKept
import Derived.Deep.AppendLies
import Derived.Deep.RegionHeldLaw
import Derived.Lib.ItoaLen
import Derived.Lib.ItoaMem
import Derived.Sort.LoopGhostIn
import Derived.Maps.RangeWalk
import Derived.Lib.AppendIntMem
import Derived.Lib.SmallJoins
import Derived.LaidSub
import Derived.Lib.LaidTab
import Derived.ReadAgain
import Derived.ChangeSlices
import Derived.OpenShut
import Derived.ProofKit
import Derived.Deep.DeepHandedRow
import Derived.Deep.SlicePairs
import Derived.Test.YtngpopalpofhgaaGreatDoorCards
import Derived.Test.YtngpopalpofhgaaGreatDoorTie
import Derived.Maps.Ext
import Derived.Sort.QuietThIn
import Derived.Deep.LoopGhost
import Derived.Lib.Split
import Derived.Lib.AtoiAll
import Derived.Lib.AtoiErrMem
import Derived.Stop.LaidErr
import Derived.Laws.IdiomStrings
import Derived.Test.YtngpopalpofhgaaGreatDoorXz01
import Derived.Test.YtngpopalpofhgaaGreatDoorXz02
import Derived.Test.YtngpopalpofhgaaGreatDoorXz03
import Derived.Test.YtngpopalpofhgaaGreatDoorXz04
import Derived.Test.YtngpopalpofhgaaGreatDoorXz05
import Derived.Test.YtngpopalpofhgaaGreatDoorXz06
import Derived.Test.YtngpopalpofhgaaGreatDoorXz07
import Derived.Test.YtngpopalpofhgaaGreatDoorXz08
import Derived.Test.YtngpopalpofhgaaGreatDoorXz09
import Derived.Test.YtngpopalpofhgaaGreatDoorY7101
set_option linter.all false

namespace Go.Proofs.YtngpopalpofhgaaGreatDoor
open Go.RowKit Go.Shelf
set_option maxHeartbeats 1000000
set_option maxRecDepth 100000

theorem FDiv_any (p n : Int) (w : World) (p0 : 0 ≤ p) (p1 : p ≤ 4611686018427387904) (n0 : 0 < n) (n1 : n ≤ 4611686018427387904) :
  Calls Tryz.prog 95 #[fV p 1, fV n 1] w fun r w' => r = .returned (fV (p / Int.gcd p n) (n / Int.gcd p n)) ∧ Below w.heap.size w w' := by
 have h1 := fun w => Inv_any n 1 w n0 n1 (by decide) (by decide)
 have e : Int.gcd 1 n = 1 := by simp
 rw [e] at h1
 have e2 : (1 : Int) / ((1 : Nat) : Int) = 1 := by decide
 have e3 : n / ((1 : Nat) : Int) = n := by simp
 rw [e2, e3] at h1
 have HI := hid h1; clear h1 e e2 e3
 have h2 := fun w => FMul_any p 1 1 n w p0 p1 (by decide) (by decide) (by decide) (by decide) n0 n1 (by omega) (by omega)
 rw [Int.mul_one, Int.one_mul] at h2
 have HM := hid h2; clear h2
 obtain ⟨x, hx⟩ : ∃ x, x = p / Int.gcd p n := ⟨_, rfl⟩
 obtain ⟨y, hy⟩ : ∃ y, y = n / Int.gcd p n := ⟨_, rfl⟩
 rw [← hx, ← hy] at HM
 rw [← hx, ← hy]
 clear hx hy
 go_enter Tryz.func95, Tryz.ntmps95
 go_wp2
 have hS := (((SL.nil w).box (.cells #[.int .i64 p, .slice none 0 0, .int .i64 1, .slice none 0 0] 130)).box (.cells #[.int .i64 n, .slice none 0 0, .int .i64 1, .slice none 0 0] 130)).box (.cells #[.int .i64 0, .slice none 0 0, .int .i64 0, .slice none 0 0] 130)
 simp only [World.size_alloc] at hS
 have q1 := (hS.blk 1 rfl).1
 have q2 := (hS.blk 2 rfl).1
 refine wp_region_qt 4 kR kR ?_
 simp only [List.take_succ_cons, List.take_zero, List.drop_succ_cons, List.drop_zero]
 repeat (first | ((refine wpB_call (fV 1 n) wU (fun w' => ?_) (fun w' hw' => HI.out w') ?_); (focus (go_simp; done)); (try simp only [Act.put, pA, pB, pC])) | ((refine wpB_call (fV x y) wU (fun w' => ?_) (fun w' hw' => HM.out w') ?_); (focus (go_simp; done)); (try simp only [Act.put, pA, pB, pC])) |  ((with_reducible refine wpB_load (by first | exact F_int | exact F_u64s) wU wU (by assumption) wU ?_); (try simp only [Act.put, pA, pB, pC])) | ((with_reducible refine wpB_loadS (n := 2) (us := #[_, _]) A_int kR wU wU (by assumption) wU wU ?_); (try simp only [Act.put, pA, pB, pC])) | ((with_reducible refine wpB_loadS (n := 4) (us := #[_, _, _, _]) A_frac kR wU wU (by assumption) wU wU ?_); (try simp only [Act.put, pA, pB, pC])) | ((refine wpQ_oneG ?_ wU (fun w' => ?_) ?_); rotate_left; (go_simp; rfl); (try simp only [Act.put, pA, pB, pC])))
 refine wpQuiet_nil ?_
 intro w1 hb1
 replace hS := hS.mono hb1
 go_wp2_with ((with_reducible refine wpList_stoR (us := #[.int .i64 x, .slice none 0 0, .int .i64 y, .slice none 0 0]) 0 wU wU (hS) wU kR wU wU ?_); intro w2 hS2)
 exact bodyPost_ret (results_cell rfl rfl A_frac kR (hS2.blk 0 rfl).1) rfl ⟨rfl, hS2.b⟩

abbrev cU64 (x : Int) : Value := .int .u64 x
theorem cU64S (x : Int) : (cU64 x).cells.size = 1 := rfl
theorem parts_any (n : Int) (w : World) (h0 : 0 < n) (h1 : n ≤ 4611686018427387904) :
  Calls Tryz.prog 198 #[iV n] w fun r w' => ∃ v, r = .returned (.tuple #[.bool false, v]) ∧ SL w.heap.size w w' [pOwn cU64 1 227 v [n]] := by
 have hne : (n == 0) = false := by simp; omega
 have hn0 : ¬ n < 0 := by omega
 have hn1 : decide (n < 0) = false := by simp; omega
 have heq := fun (w : World) (a : Option Addr) (n c : Nat) => run_neq_slice_nil_any (P := Tryz.prog) w 126 227 a n c 0 0 Tryz.underlying126
 go_enter Tryz.func198, Tryz.ntmps198
 go_wp2
 have hS := ((SL.nil w).box (.cells #[.int .i64 n, .slice none 0 0] 128))
 have q1 := (hS.blk 0 rfl).1
 go_region_with (go_at_call 197; refine (nsize_any n _ (by omega) h1).mono ?_; rintro e w' ⟨rfl, rfl⟩)
 all_goals go_wp2
 all_goals go_ret2
 all_goals exact ⟨_, rfl, (SL.ofOwn (own_newN (w := w.alloc (.cells #[.int .i64 n, .slice none 0 0] 128)) cU64S [n] 1 rfl (by decide) #[cU64 n] (by simp) (by simp) rfl) (bal (bal (Below.refl _ _) _) _)).drew⟩

theorem Bits_any (n : Int) (w : World) (h0 : 0 < n) (h1 : n ≤ 4611686018427387904) :
  Calls Tryz.prog 230 #[iV n] w fun r w' => r = .returned (.int .i64 (Lib.bitLen n.toNat)) ∧ Below w.heap.size w w' := by
 have hbl := Lib.bitLen_le n.toNat 64 (by decide) (by omega)
 have HL := hid (fun w => Any.bits_Len64 { Tryz.lays171 with } n w (by omega) (by omega))
 obtain ⟨z, hz⟩ : ∃ z, z = Lib.bitLen n.toNat := ⟨_, rfl⟩
 rw [← hz] at HL hbl ⊢
 clear hz
 go_enter Tryz.func230, Tryz.ntmps230
 go_wp2_with fail
 refine (parts_any n _ h0 h1).mono ?_
 rintro e w1 ⟨v, rfl, hK⟩
 obtain ⟨a1, c1, rfl, hR⟩ := hK.slice 0 rfl
 have hR0 := hR.cells (by decide) 0 0 (by simp)
 obtain ⟨bb, oo, rfl, hcx⟩ := hR0
 have hcx := hcx 0 (cU64 n) rfl
 simp only [Nat.zero_mul, Nat.add_zero] at hcx
 have hb1 := hK.b
 clear hR hK
 go_wp2_with fail
 refine (HL.out _).mono ?_
 rintro e w2 ⟨rfl, rfl⟩
 go_wp2_with fail
 go_ret
 exact ⟨by congr 2, bnext (bal (Below.refl _ _) _) hb1⟩

theorem long_any (n : Int) (w : World) (h0 : 0 < n) (h1 : n ≤ 4611686018427387904) :
  Calls Tryz.prog 201 #[iV n] w fun r w' => r = .returned (.bool false) ∧ Below w.heap.size w w' := by
 have hbl := Lib.bitLen_le n.toNat 64 (by decide) (by omega)
 have HL := hid (fun w => Bits_any n w h0 h1)
 obtain ⟨z, hz⟩ : ∃ z, z = Lib.bitLen n.toNat := ⟨_, rfl⟩
 rw [← hz] at HL hbl
 clear hz
 have hd : decide ((1800 : Int) < z) = false := by simp; omega
 go_enter Tryz.func201, Tryz.ntmps201
 go_wp2_with fail
 refine (HL.out _).mono ?_
 rintro e w1 ⟨rfl, hb1⟩
 go_wp2_with fail
 go_ret
 exact ⟨rfl, bnext (bal (Below.refl _ _) _) hb1⟩

theorem Large_any (p q : Int) (w : World) (h0 : 0 < p) (h1 : p ≤ 4611686018427387904) (h2 : 0 < q) (h3 : q ≤ 4611686018427387904) :
  Calls Tryz.prog 150 #[fV p q] w fun r w' => r = .returned (.bool false) ∧ Below w.heap.size w w' := by
 have HP := hid (fun w => long_any p w h0 h1)
 have HQ := hid (fun w => long_any q w h2 h3)
 go_enter Tryz.func150, Tryz.ntmps150
 go_wp2_with fail
 refine (HP.out _).mono ?_
 rintro e w1 ⟨rfl, hb1⟩
 have hS := ((SL.nil w).box (.cells #[.int .i64 p, .slice none 0 0, .int .i64 q, .slice none 0 0] 130)).mono hb1
 have q1 := (hS.blk 0 rfl).1
 go_wp2_with (with_reducible refine wpList_ldS (n := 2) (us := #[_, _]) A_int kR wU wU (by assumption) wU wU ?_)
 refine (HQ.out _).mono ?_
 rintro e w2 ⟨rfl, hb2⟩
 go_wp2_with fail
 go_ret
 exact ⟨rfl, (hS.mono hb2).b⟩

theorem IsWhole_any (p : Int) (w : World) :
  Calls Tryz.prog 202 #[fV p 1] w fun r w' => r = .returned (.bool true) ∧ Below w.heap.size w w' := by
 have heq := fun (w : World) (a : Option Addr) (n c : Nat) => Lib.run_eql_slice_nil (P := Tryz.prog) w 126 227 a n c 0 0 Tryz.underlying126
 go_enter Tryz.func202, Tryz.ntmps202
 go_wp2
 go_ret
 exact ⟨rfl, bal (Below.refl _ _) _⟩

theorem String_any (n : Int) (w : World) (hI : ItoaOk w n) :
  Calls Tryz.prog 203 #[iV n] w fun r w' => r = .returned (.string (itoaB n)) ∧ Below w.heap.size w w' := by
 have HI := hid (hI _ (bal (Below.refl _ w) (.cells #[.int .i64 n, .slice none 0 0] 128)))
 have heq := fun (w : World) (a : Option Addr) (n c : Nat) => Lib.run_eql_slice_nil (P := Tryz.prog) w 126 227 a n c 0 0 Tryz.underlying126
 go_enter Tryz.func203, Tryz.ntmps203
 go_wp2_with fail
 refine HI.out.mono ?_
 rintro e w1 ⟨rfl, hb1⟩
 go_wp2_with fail
 go_ret
 exact ⟨rfl, bnext (bal (Below.refl _ _) _) hb1⟩
end Go.Proofs.YtngpopalpofhgaaGreatDoor

namespace Go.Proofs.YtngpopalpofhgaaGreatDoor
open Go.RowKit Go.Shelf
set_option maxHeartbeats 1000000
set_option maxRecDepth 100000

theorem Text_any (n : Int) (w : World) (hI : ItoaOk w n) :
  Calls Tryz.prog 151 #[fV n 1] w fun r w' => r = .returned (.string (itoaB n)) ∧ Below w.heap.size w w' := by
 have HW := hid (fun w => IsWhole_any n w)
 have HI := hid hI; clear hI
 go_enter Tryz.func151, Tryz.ntmps151
 go_wp2_with fail
 refine (HW.out _).mono ?_
 rintro e w1 ⟨rfl, hb1⟩
 have hS := ((SL.nil w).box (.cells #[.int .i64 n, .slice none 0 0, .int .i64 1, .slice none 0 0] 130)).mono hb1
 have q1 := (hS.blk 0 rfl).1
 go_wp2_with (with_reducible refine wpList_ldS (n := 2) (us := #[_, _]) A_int kR wU wU (by assumption) wU wU ?_)
 refine (String_any n _ (HI.out.below hS.b)).mono ?_
 rintro e w2 ⟨rfl, hb2⟩
 go_wp2_with fail
 go_ret
 exact ⟨rfl, (hS.mono hb2).b⟩

theorem result_any (n : Int) (w : World) (h0 : 0 < n) (h1 : n ≤ 4611686018427387904) (hI : ItoaOk w n) :
  Calls Tryz.prog 97 #[fV n 1] w fun r w' => r = .returned (.tuple #[.string (itoaB n), .int .i64 0]) ∧ Below w.heap.size w w' := by
 have HL := hid (fun w => Large_any n 1 w h0 h1 (by decide) (by decide))
 have HI := hid hI; clear hI
 go_enter Tryz.func97, Tryz.ntmps97
 go_wp2_with fail
 refine (HL.out _).mono ?_
 rintro e w1 ⟨rfl, hb1⟩
 have hS := ((SL.nil w).box (.cells #[.int .i64 n, .slice none 0 0, .int .i64 1, .slice none 0 0] 130)).mono hb1
 have q1 := (hS.blk 0 rfl).1
 go_wp2_with (with_reducible refine wpList_ldS (n := 4) (us := #[_, _, _, _]) A_frac kR wU wU (by assumption) wU wU ?_)
 refine (Text_any n _ (HI.out.below hS.b)).mono ?_
 rintro e w2 ⟨rfl, hb2⟩
 go_wp2_with fail
 go_ret2
 exact ⟨rfl, (hS.mono hb2).b⟩

def lensQ (qs : List (SlH × List Int)) : List Nat := qs.map fun q => q.2.length
def perS (p : List Int) : ByteArray := if permE p = 0 then itoaB (periodN p) else ⟨#[]⟩

/-- one step of the least common multiple, in small fractions. -/
theorem step_any (p n : Nat) (hp0 : 0 < p) (hp : p ≤ 34359738368) (hn0 : 0 < n) (hn : n ≤ 64) (w : World) :
  (Calls Tryz.prog 95 #[fV p 1, fV n 1] w fun r w' => r = .returned (fV ((p / Nat.gcd p n : Nat) : Int) ((n / Nat.gcd p n : Nat) : Int)) ∧ Below w.heap.size w w') ∧
  (Calls Tryz.prog 96 #[fV ((p / Nat.gcd p n : Nat) : Int) 1, fV n 1] w fun r w' => r = .returned (fV ((lcmF p n : Nat) : Int) 1) ∧ Below w.heap.size w w') := by
 have e1 : ((p / Nat.gcd p n : Nat) : Int) = (p : Int) / (Int.gcd p n : Int) := by rw [Int.natCast_ediv]; rfl
 have e2 : ((n / Nat.gcd p n : Nat) : Int) = (n : Int) / (Int.gcd p n : Int) := by rw [Int.natCast_ediv]; rfl
 refine ⟨?_, ?_⟩
 ·rw [e1, e2]
  exact FDiv_any p n w (by omega) (by omega) (by omega) (by omega)
 ·have hq : p / Nat.gcd p n ≤ p := Nat.div_le_self _ _
  unfold lcmF
  clear e1 e2
  generalize p / Nat.gcd p n = q at *
  have hl : q * n ≤ p * 64 := Nat.mul_le_mul hq hn
  have hqn : (q : Int) * (n : Int) = ((q * n : Nat) : Int) := (Int.natCast_mul _ _).symm
  have h := FMul_any (q : Int) 1 (n : Int) 1 w (by omega) (by omega) (by decide) (by decide) (by omega) (by omega) (by decide) (by decide) (by rw [hqn]; omega) (by decide)
  have e3 : Int.gcd ((q : Int) * (n : Int)) (1 * 1) = 1 := by simp
  rw [e3, hqn] at h
  have e4 : ((q * n : Nat) : Int) / ((1 : Nat) : Int) = ((q * n : Nat) : Int) := by simp
  rw [e4] at h
  exact h

theorem lens_len (qs : List (SlH × List Int)) : (lensQ qs).length = qs.length := by simp [lensQ]
theorem perF_take {ls : List Nat} {k : Nat} (h : k < ls.length) : perF (ls.take (k + 1)) = lcmF (perF (ls.take k)) ls[k] := by
 rw [List.take_succ_eq_append_getElem h, perF_snoc]
theorem sum_take_le : ∀ (ls : List Nat) (k : Nat), (ls.take k).sum ≤ ls.sum
 | [], k => by simp
 | x :: r, 0 => by simp
 | x :: r, k + 1 => by have := sum_take_le r k; simp; omega

theorem Period_any (a : Option Addr) (cap : Nat) (p : List Int) (w : World) (hS : Ints w a cap p) (hI : ∀ x ∈ p, InI x) (h64 : p.length ≤ 64) (hIt : permE p = 0 → ItoaOk w (periodN p)) :
  Calls Tryz.prog 41 #[.slice a p.length cap] w fun r w' => r = .returned (.tuple #[.string (perS p), .int .i64 (permE p)]) ∧ Below w.heap.size w w' := by
 have HC := hid (CheckPerm_any a cap p w hS hI)
 by_cases h : permE p = 0
 ·have hp := isP_of h
  have hit := hIt h
  have e0 : perS p = itoaB (periodN p) := by unfold perS; rw [if_pos h]
  have hc := HC.out
  rw [h] at hc
  rw [e0, h]
  clear HC e0
  have HC := hid hc; clear hc
  have HIT := hid hit; clear hit hIt
  have hcap := hS.le
  clear h
  go_enter Tryz.func41, Tryz.ntmps41
  go_wp2_with fail
  refine HC.out.mono ?_
  rintro e w1 ⟨rfl, hb1⟩
  go_wp2_with fail
  refine (F_any 1 _).mono ?_
  rintro e w2 ⟨rfl, hb2⟩
  go_wp2_with fail
  have hS0 := (((SL.nil w).mono hb1).mono hb2).box (.cells #[.int .i64 1, .slice none 0 0, .int .i64 1, .slice none 0 0] 130)
  refine (cycles_any a cap p _ (hS.below hS0.b) hp (by omega)).mono ?_
  rintro e w3 ⟨v, qs, rfl, hqs, hK⟩
  replace hS0 := hS0.call hK
  clear hK
  obtain ⟨av, cv, rfl, _⟩ := hS0.slice 0 rfl
  go_wp2_with fail
  have hlq : lensQ qs = (cycK p p.length).map List.length := by rw [← hqs]; simp [lensQ]
  have hsum : (lensQ qs).sum ≤ 64 := by rw [hlq]; exact Nat.le_trans (cycK_sum hp (Nat.le_refl _)) h64
  have hpos : ∀ n ∈ lensQ qs, 0 < n := by
   rw [hlq]; intro n hn
   obtain ⟨l, hl, rfl⟩ := List.mem_map.1 hn
   exact cycK_pos hp (Nat.le_refl _) l hl
  have hper : periodN p = perF (lensQ qs) := by rw [hlq]; rfl
  have hnq : qs.length ≤ 64 := by
   have h1 := cycK_len p p.length
   have h2 : (lensQ qs).length = (cycK p p.length).length := by rw [hlq]; simp
   rw [lens_len] at h2; omega
  have HPER := hid hper; clear hper
  have HPOS := hid hpos; clear hpos
  clear hlq hqs
  have HQL : Hid ((qs.map Prod.fst).length = qs.length) := hid (by simp)
  obtain ⟨H, hH⟩ : ∃ H, H = w2.heap.size := ⟨_, rfl⟩
  rw [← hH] at hS0 ⊢
  clear hH
  go_loopw [7, 8, 18] (fun _ _ i wr => ∃ k : Nat, k ≤ qs.length ∧ i = .int .i64 k ∧
   SL w.heap.size w wr (pBlk H (.cells #[.int .i64 (perF ((lensQ qs).take k)), .slice none 0 0, .int .i64 1, .slice none 0 0] 130) :: pOwn cSl 1 22 (.slice av qs.length cv) (qs.map Prod.fst) :: qs.map inP)) (fun _ _ i _ => qs.length - (intOf i).toNat)
  case atStart => exact ⟨0, by omega, rfl, SL.comm (K := pOwn cSl 1 22 (.slice av qs.length cv) (qs.map Prod.fst) :: qs.map inP) (L := [pBlk H (.cells #[.int .i64 1, .slice none 0 0, .int .i64 1, .slice none 0 0] 130)]) (by simpa using hS0)⟩
  case round =>
   obtain ⟨k, hk, rfl, hSr⟩ := hrel
   have hRq := hSr.rd 1 rfl
   by_cases hlt : k < qs.length
   ·have hlk : k < (lensQ qs).length := by rw [lens_len]; exact hlt
    have hpt := perF_take hlk
    obtain ⟨P0, hP0⟩ : ∃ P0, P0 = perF ((lensQ qs).take k) := ⟨_, rfl⟩
    obtain ⟨n, hn⟩ : ∃ n, n = (lensQ qs)[k] := ⟨_, rfl⟩
    have hn0 : 0 < n := by rw [hn]; exact HPOS.out _ (List.getElem_mem hlk)
    have hn1 : n ≤ 64 := by
     have h1 := sum_take_le (lensQ qs) (k + 1)
     rw [List.take_succ_eq_append_getElem hlk, List.sum_append] at h1
     rw [hn]; simp at h1; omega
    have hp0 : 0 < P0 := by rw [hP0]; exact perF_pos _ 1 (by decide) (fun m hm => HPOS.out m (List.mem_of_mem_take hm))
    have hp1 : P0 ≤ 34359738368 := by rw [hP0]; exact Nat.le_of_lt (perF_lt _ (Nat.le_trans (sum_take_le _ _) hsum))
    rw [← hP0, ← hn] at hpt
    rw [← hP0] at hSr
    have hst := fun w => step_any P0 n hp0 hp1 hn0 hn1 w
    obtain ⟨Z1, hZ1⟩ : ∃ Z : Nat, Z = P0 / Nat.gcd P0 n := ⟨_, rfl⟩
    obtain ⟨Z2, hZ2⟩ : ∃ Z : Nat, Z = n / Nat.gcd P0 n := ⟨_, rfl⟩
    obtain ⟨Z3, hZ3⟩ : ∃ Z : Nat, Z = lcmF P0 n := ⟨_, rfl⟩
    rw [← hZ1, ← hZ2, ← hZ3] at hst
    rw [← hZ3] at hpt
    have HPT := hid hpt; clear hpt
    have HST := hid hst; clear hst
    clear hZ1 hZ2 hZ3
    have hel : (atD (none, 0, 0) (qs.map Prod.fst) k).2.1 = n := by
     have hw := (hSr.own (k + 2) (c := cInt) (sz := 1) (e := 3) (v := cSl qs[k].1) (l := qs[k].2) (by simp [inP, hlt]))
     obtain ⟨a', cap', e1, _⟩ := hw.reps
     have e2 : qs[k].1.2.1 = qs[k].2.length := by have := congrArg (fun v : Value => match v with | .slice _ n _ => n | _ => 0) e1; simpa using this
     rw [hn]
     simp [atD, hlt, e2, lensQ]
    have HEL := hid hel; clear hel
    clear hn hP0
    go_wp2_with ((with_reducible refine wpList_idxN _ ((none, 0, 0) : SlH) E_sls F_sl cSl1 wU wU (hRq) (HQL.out) oD oD (fun _ => wU) (fun _ => ?_)); (try simp only [cSl]); rw [HEL.out])
    refine (F_any n _).mono ?_
    rintro e w4 ⟨rfl, hb4⟩
    replace hSr := (hSr.mono hb4).box (.cells #[.int .i64 n, .slice none 0 0, .int .i64 1, .slice none 0 0] 130)
    go_wp2_with fail
    have q0 := (hSr.blk 0 rfl).1
    have q1 := (hSr.blk 1 rfl).1
    refine wp_region_qt 7 kR kR ?_
    simp only [List.take_succ_cons, List.take_zero, List.drop_succ_cons, List.drop_zero]
    ((with_reducible refine wpB_loadS (n := 4) (us := #[_, _, _, _]) A_frac kR wU wU (by assumption) wU wU ?_); (try simp only [Act.put, pA, pB, pC]))
    ((with_reducible refine wpB_loadS (n := 4) (us := #[_, _, _, _]) A_frac kR wU wU (by assumption) wU wU ?_); (try simp only [Act.put, pA, pB, pC]))
    ((refine wpB_call (fV Z1 Z2) wU (fun w' => ?_) (fun w' hw' => (HST.out w').1) ?_); (focus (go_simp; done)); (try simp only [Act.put, pA, pB, pC]))
    refine wpQ_oneG (iV Z1) wU (fun w' => ?_) ?_
    ·go_simp
     kernel_rfl
    ((refine wpB_call (fV Z1 1) wU (fun w' => ?_) (fun w' hw' => Whole_any _ w') ?_); (focus (go_simp; done)); (try simp only [Act.put, pA, pB, pC]))
    ((with_reducible refine wpB_loadS (n := 4) (us := #[_, _, _, _]) A_frac kR wU wU (by assumption) wU wU ?_); (try simp only [Act.put, pA, pB, pC]))
    ((refine wpB_call (fV Z3 1) wU (fun w' => ?_) (fun w' hw' => (HST.out w').2) ?_); (focus (go_simp; done)); (try simp only [Act.put, pA, pB, pC]))
    refine wpQuiet_nil ?_
    intro w5 hb5
    replace hSr := hSr.mono hb5
    clear q0 q1
    go_wp2_with ((with_reducible refine wpList_stoR (us := #[.int .i64 Z3, .slice none 0 0, .int .i64 1, .slice none 0 0]) 1 wU wU (hSr) wU kR wU wU ?_); intro w6 hS6)
    refine ⟨⟨k + 1, by omega, by go_num, ?_⟩, by simp [intOf]; omega⟩
    rw [HPT.out]
    exact hS6.tail
   ·have hkq : k = qs.length := by omega
    have hlk : (lensQ qs).take k = lensQ qs := List.take_of_length_le (by rw [lens_len]; omega)
    rw [hlk, ← HPER.out] at hSr
    have hN0 : 0 < periodN p := by rw [HPER.out]; exact perF_pos _ 1 (by decide) HPOS.out
    have hN1 : periodN p < 34359738368 := by rw [HPER.out]; exact perF_lt _ hsum
    clear hlk
    have HKQ := hid hkq; clear hkq
    have q0 := (hSr.blk 0 rfl).1
    go_wp2_with (with_reducible refine wpList_ldS (n := 4) (us := #[_, _, _, _]) A_frac kR wU wU (by assumption) wU wU ?_)
    refine (result_any (periodN p) _ (by omega) (by omega) (HIT.out.below hSr.b)).mono ?_
    rintro e w4 ⟨rfl, hb4⟩
    go_wp2_with fail
    go_ret2
    exact ⟨rfl, (hSr.mono hb4).b⟩
 ·have e0 : perS p = ⟨#[]⟩ := by unfold perS; rw [if_neg h]
  have hne : (permE p != 0) = true := by simpa using h
  rw [e0]
  clear e0 h hIt
  go_enter Tryz.func41, Tryz.ntmps41
  go_wp2_with fail
  refine HC.out.mono ?_
  rintro e w1 ⟨rfl, hb1⟩
  go_wp2_with fail
  go_ret2
  exact ⟨rfl, hb1⟩
end Go.Proofs.YtngpopalpofhgaaGreatDoor

namespace Go.Proofs.YtngpopalpofhgaaGreatDoor
open Go.RowKit
set_option maxHeartbeats 1000000
set_option maxRecDepth 100000

end Go.Proofs.YtngpopalpofhgaaGreatDoor

namespace Go.Proofs.YtngpopalpofhgaaGreatDoor
open Go.RowKit
set_option maxHeartbeats 1000000
set_option maxRecDepth 100000

def lessL (l : List Int) (k : Nat) : List Int := (List.range k).map fun (i : Nat) => atD 0 l i - 1
theorem lessL_succ (l : List Int) (k : Nat) : lessL l (k + 1) = lessL l k ++ [atD 0 l k - 1] := by simp [lessL, List.range_succ]
theorem lessL_len (l : List Int) (k : Nat) : (lessL l k).length = k := by simp [lessL]
/-- where the strands are, from 0 on. -/
def endsP (n : Int) (l : List PassV) : List Int := lessL (rowL n.toNat (lettersAll l)).1 n.toNat
def rptE (n : Int) (l : List PassV) : Int := if passesE n l = 0 then permE (endsP n l) else passesE n l
def rptB (n : Int) (l : List PassV) : ByteArray := if passesE n l = 0 then perS (endsP n l) else ⟨#[]⟩

theorem letter_fits {n : Int} {p : PassV} (hn : n ≤ 12) (h : passE n p = 0) : ∀ x ∈ lettersL p, -1000 ≤ x ∧ x ≤ 1000 ∧ 1 ≤ absI x ∧ absI x < n.toNat := by
 obtain ⟨h1, h2, h3, h4, h5, h6, h7⟩ := passE_zero h
 intro x hx
 obtain ⟨k, hk, rfl⟩ := List.mem_map.1 hx
 have hk := List.mem_range.1 hk
 unfold distP at h6
 have hb : absI (-(letterAt p k)) = absI (letterAt p k) := by unfold absI; split <;> split <;> omega
 have key : ∀ y : Int, (p.t < p.f ∧ y = (k : Int) + 1 - p.f) ∨ (¬ p.t < p.f ∧ y = p.f + k) → -1000 ≤ y ∧ y ≤ 1000 ∧ 1 ≤ absI y ∧ absI y < n.toNat := by
  intro y hy
  unfold absI
  rcases hy with ⟨a, rfl⟩ | ⟨a, rfl⟩ <;> split <;> omega
 unfold letterAt
 split
 ·split
  ·have := key _ (.inl ⟨‹_›, rfl⟩)
   unfold absI at this ⊢
   split <;> split at this <;> omega
  ·have := key _ (.inr ⟨‹_›, rfl⟩)
   unfold absI at this ⊢
   split <;> split at this <;> omega
 ·split
  ·exact key _ (.inl ⟨‹_›, rfl⟩)
  ·exact key _ (.inr ⟨‹_›, rfl⟩)

theorem swapL_bd {st : List Int} {k m : Int} (hm : 0 ≤ m) (h : ∀ x ∈ st, 0 ≤ x ∧ x ≤ m) : ∀ x ∈ swapL st k, 0 ≤ x ∧ x ≤ m := by
 have hat : ∀ j : Int, 0 ≤ atD 0 st j ∧ atD 0 st j ≤ m := by
  intro j
  unfold atD
  by_cases hj : j.toNat < st.length
  ·simpa [hj] using h st[j.toNat] (List.getElem_mem hj)
  ·simp [List.getElem?_eq_none (Nat.le_of_not_lt hj), hm]
 intro x hx
 unfold swapL at hx
 rcases List.mem_or_eq_of_mem_set hx with hx | rfl
 ·rcases List.mem_or_eq_of_mem_set hx with hx | rfl
  ·exact h x hx
  ·exact hat _
 ·exact hat _
theorem rowGo_bd {m : Int} (hm : 0 ≤ m) : ∀ (ws st : List Int) (cr : List (Int × Int)), (∀ x ∈ st, 0 ≤ x ∧ x ≤ m) → (rowGo st cr ws).1.length = st.length ∧ ∀ x ∈ (rowGo st cr ws).1, 0 ≤ x ∧ x ≤ m
 | [], st, cr, h => ⟨rfl, h⟩
 | w :: ws, st, cr, h => by
   rw [rowGo]
   obtain ⟨h1, h2⟩ := rowGo_bd hm ws (swapL st (absI w)) (cr ++ [crossOf st w]) (swapL_bd hm h)
   exact ⟨h1.trans (swapL_len _ _), h2⟩
theorem rowL_bd (n : Nat) (ws : List Int) : (rowL n ws).1.length = n ∧ ∀ x ∈ (rowL n ws).1, 0 ≤ x ∧ x ≤ n := by
 obtain ⟨h1, h2⟩ := rowGo_bd (m := n) (by omega) ws (startL n) [] (fun x hx => by
  obtain ⟨i, hi, rfl⟩ := List.mem_map.1 hx
  have := List.mem_range.1 hi
  omega)
 exact ⟨h1.trans (by simp [startL]), h2⟩

theorem Repeat_passes (n : Int) (a : Option Addr) (cap : Nat) (l : List PassV) (w : World) (hS : PassesR w a cap l) (hl : l.length ≤ 1048576) (hw : ∀ p ∈ l, p.way.size ≤ 1048576)
  (hIt : passesE n l = 0 → permE (endsP n l) = 0 → ItoaOk w (periodN (endsP n l))) :
  Calls Tryz.prog 29 #[.int .i64 n, .slice a l.length cap] w fun r w' => r = .returned (.tuple #[.string (rptB n l), .int .i64 (rptE n l)]) ∧ Below w.heap.size w w' := by
 have hcap := hS.le
 have hm := hS.max
 have hc := CheckPasses_any n a cap l w hS hl hw
 by_cases h : passesE n l = 0
 ·rw [h] at hc
  obtain ⟨hn1, hn2, hl2, hall⟩ := passesE_zero h
  obtain ⟨m, rfl⟩ := Int.eq_ofNat_of_zero_le (show 0 ≤ n by omega)
  have hfit : fitsW m (lettersAll l) := by
   intro x hx
   obtain ⟨p, hp, hx⟩ := List.mem_flatMap.1 hx
   simpa using letter_fits hn2 (hall p hp) x hx
  have eB : rptB m l = perS (endsP m l) := by unfold rptB; rw [if_pos h]
  have eE : rptE m l = permE (endsP m l) := by unfold rptE; rw [if_pos h]
  have hen : endsP m l = lessL (rowL m (lettersAll l)).1 m := by simp [endsP]
  have hit := hIt h
  rw [eB, eE]
  rw [hen] at hit ⊢
  have hbd := rowL_bd m (lettersAll l)
  obtain ⟨st, hst⟩ : ∃ st, st = (rowL m (lettersAll l)).1 := ⟨_, rfl⟩
  rw [← hst] at hbd hit ⊢
  have HST := hid hst; clear hst
  have HC := hid hc; have HA := hid hall; have HF := hid hfit; have HIT := hid hit
  have H1 := hid hbd.1
  have H2 := hid hbd.2
  clear hbd
  clear hc hall h hw eB eE hen hfit hit hIt
  go_enter Tryz.func29, Tryz.ntmps29
  go_wp2_with fail
  refine HC.out.mono ?_
  rintro e w1 ⟨rfl, hb1⟩
  go_wp2_with fail
  go_loopw [7, 9, 21] (fun v _ i wr => ∃ k : Nat, k ≤ l.length ∧ i = .int .i64 k ∧ (lettersAll (l.take k)).length ≤ 11 * k ∧ SL w.heap.size w wr [pOwn cInt 1 3 v (lettersAll (l.take k))]) (fun _ _ i _ => l.length - (intOf i).toNat)
  case atStart => exact ⟨0, by omega, rfl, by simp [lettersAll], (SL.of_below hb1).nilS cIntS⟩
  case round =>
   obtain ⟨k, hk, rfl, hlen, hSL⟩ := hrel
   have hSr := hS.below hSL.b
   by_cases hlt : k < l.length
   ·have hs := lettersAll_step l k hlt
    have HS := hid hs; clear hs
    obtain ⟨z1, z2, z3, z4⟩ := passE_small hn2 (HA.out (atD pass0 l k) (by simp [atD, hlt]))
    obtain ⟨y1, y2, y3, y4, _, _, _⟩ := passE_zero (HA.out (atD pass0 l k) (by simp [atD, hlt]))
    have hlt3 := fun w => letters_any (atD pass0 l k) w y1 z1 y3 z2 (by omega) z4
    have hle : (lettersL (atD pass0 l k)).length ≤ 11 := by rw [lettersL_len]; exact z3
    have HLT := hid hlt3; clear hlt3 z4
    go_wp2_with (with_reducible refine wpList_idxS _ pass0 E_passes F_pass cPass1 wU wU (hSr) oD oD (fun _ => wU) (fun _ => ?_))
    refine (HLT.out _).mono ?_
    rintro e w2 ⟨v2, rfl, ho2, hb2⟩
    have hS2 := (hSL.al (.cells #[.int .i64 (atD pass0 l k).f, .int .i64 (atD pass0 l k).t, .string (atD pass0 l k).way] 57)).call (SL.ofOwn ho2 hb2)
    obtain ⟨a2, cap2, rfl, hr2⟩ := hS2.slice 0 rfl
    go_wp2_with ((with_reducible refine wpList_appL 1 E_ints wU wU (hS2) wU (hr2) (rfl) cIntO (by first | omega | (simp; omega)) (by first | omega | (simp; omega)) ?_); intro v3 w3 hS3)
    refine ⟨⟨k + 1, by omega, by go_num, by rw [HS.out, List.length_append]; omega, by rw [HS.out]; exact hS3.tail⟩, by simp [intOf]; omega⟩
   ·have : k = l.length := by omega
    subst this
    rw [List.take_length] at hSL hlen
    obtain ⟨ao, capo, rfl, hro⟩ := hSL.slice 0 rfl
    go_wp2_with fail
    refine (rowOf_any m ao capo (lettersAll l) wr hro (by omega) (by omega) (by omega) HF.out).mono ?_
    rintro e w4 ⟨rfl, hrow, hb4⟩
    obtain ⟨g, capr, vc, hheap, hOst, _, _, _⟩ := hrow
    rw [← HST.out] at hheap hOst
    have hSw := hSL.mono hb4
    obtain ⟨ag, cg, e1, hRst, _⟩ := hOst.reps
    cases e1
    have c0 : w4.cell? ⟨wr.heap.size, 0, none⟩ = some (.slice (some ⟨g, 0, none⟩) st.length capr) := by rw [cell_of_row _ _ _ _ _ _ hheap]; rfl
    clear hOst hheap
    have hstl : st.length ≤ 12 := by have := H1.out; omega
    go_wp2_with fail
    go_loopw [10, 12, 37] (fun v _ i wq => ∃ k : Nat, k ≤ st.length ∧ i = .int .i64 k ∧ SL w4.heap.size w4 wq [pOwn cInt 1 3 v (lessL st k)]) (fun _ _ i _ => st.length - (intOf i).toNat)
    case atStart => exact ⟨0, by omega, rfl, (SL.nil w4).nilS cIntS⟩
    case round =>
     obtain ⟨k, hk, rfl, hSq⟩ := hrel
     have hRq := hRst.below hSq.b
     have hll := lessL_len st k
     have hll2 : (lessL st k).length ≤ 100 := by rw [hll]; have := H1.out; omega
     have HLL := hid hll; clear hll
     by_cases hlt : k < st.length
     ·have hbd := H2.out (atD 0 st k) (by simp [atD, hlt])
      have hsu := lessL_succ st k
      have HSU := hid hsu; clear hsu
      go_wp2_with (first | (with_reducible refine wpList_idx _ 0 E_ints F_int cInt1 wU wU (hRq) oD oD (fun _ => wU) (fun _ => ?_)) | ((with_reducible refine wpList_pushL (y := (atD 0 st k - 1)) 0 E_ints wU wU (hSq) wU cIntO ⟨rfl, rfl⟩ (by first | with_unfolding_all rfl | simp) wU (by first | omega | (simp; omega)) (by first | omega | (simp; omega)) ?_); intro v3 w3 hS3))
      refine ⟨⟨k + 1, by omega, by go_num, by rw [HSU.out]; exact hS3⟩, by simp [intOf]; omega⟩
     ·have hkq : k = st.length := by omega
      subst hkq
      obtain ⟨ae, cape, rfl, hre⟩ := hSq.slice 0 rfl
      have hin : ∀ x ∈ lessL st st.length, InI x := by
       intro x hx
       obtain ⟨i, hi, rfl⟩ := List.mem_map.1 hx
       have hi := List.mem_range.1 hi
       have := H2.out (atD 0 st i) (by simp [atD, hi])
       unfold InI; omega
      have hbw := hSw.b
      have hit : permE (lessL st st.length) = 0 → ItoaOk wr (periodN (lessL st st.length)) := fun he => ((HIT.out (by rw [← H1.out]; exact he)).below hbw).below hSq.b |> fun h => by rw [H1.out]; exact h
      have HP := hid (Period_any ae cape (lessL st st.length) wr hre hin (by rw [lessL_len]; omega) hit)
      clear hit hin
      go_wp2_with fail
      refine HP.out.mono ?_
      rintro e w5 ⟨rfl, hb5⟩
      go_wp2_with fail
      go_ret2
      refine ⟨?_, bnext (bnext hbw hSq.b) hb5⟩
      rw [H1.out]
      rfl
 ·have e1 : rptE n l = passesE n l := by unfold rptE; rw [if_neg h]
  have e2 : rptB n l = ⟨#[]⟩ := by unfold rptB; rw [if_neg h]
  rw [e1, e2]
  obtain ⟨q, hq⟩ : ∃ q, q = passesE n l := ⟨_, rfl⟩
  rw [← hq] at hc h ⊢
  have hne : (q != 0) = true := by simpa using h
  have HC := hid hc
  clear hc hq e1 e2 hw hIt
  go_enter Tryz.func29, Tryz.ntmps29
  go_wp2_with fail
  refine HC.out.mono ?_
  rintro e w1 ⟨rfl, hb1⟩
  go_wp2_with fail
  go_ret2
  exact ⟨rfl, hb1⟩
end Go.Proofs.YtngpopalpofhgaaGreatDoor

namespace Go.Proofs.YtngpopalpofhgaaGreatDoor
open Go.RowKit Go.Maps
set_option maxRecDepth 100000

def pairsOk (m : Int) (cr : List (Int × Int)) : Prop := ∀ p ∈ cr, 1 ≤ p.1 ∧ p.1 ≤ m ∧ 1 ≤ p.2 ∧ p.2 ≤ m ∧ p.1 ≠ p.2
def injS (m : Int) (st : List Int) : Prop := (∀ (i j : Nat) (hi : i < st.length) (hj : j < st.length), st[i] = st[j] → i = j) ∧ ∀ (i : Nat) (hi : i < st.length), 1 ≤ st[i] ∧ st[i] ≤ m
theorem atD_get {st : List Int} {k : Int} {b : Nat} (h : k = b) (hb : b < st.length) : atD 0 st k = st[b] := by
 subst h; simp [atD, hb]
theorem injS_swap {m : Int} {st : List Int} (h : injS m st) {k : Int} (h1 : 1 ≤ k) (h2 : k < st.length) : injS m (swapL st k) := by
 obtain ⟨b, hb⟩ : ∃ b : Nat, b = k.toNat := ⟨_, rfl⟩
 obtain ⟨a, ha⟩ : ∃ a : Nat, a = (k - 1).toNat := ⟨_, rfl⟩
 have ea : atD 0 st (k - 1) = st[a]'(by omega) := by
  exact atD_get (by omega) _
 have eb : atD 0 st k = st[b]'(by omega) := by
  exact atD_get (by omega) _
 have e : swapL st k = (st.set a (st[b]'(by omega))).set b (st[a]'(by omega)) := by unfold swapL; rw [ea, eb, ← ha, ← hb]
 rw [e]
 have hab : a ≠ b := by omega
 refine ⟨fun i j hi hj he => ?_, fun i hi => ?_⟩
 ·simp only [List.length_set] at hi hj
  simp only [List.getElem_set] at he
  split at he <;> split at he <;> (try split at he) <;> (try split at he) <;> first
   | omega
   | (have := h.1 _ _ _ _ he; omega)
 ·simp only [List.length_set] at hi
  simp only [List.getElem_set]
  split
  ·exact h.2 _ _
  ·split
   ·exact h.2 _ _
   ·exact h.2 _ _
theorem crossOf_ok {m : Int} {st : List Int} (h : injS m st) {x : Int} (h1 : 1 ≤ absI x) (h2 : absI x < st.length) : 1 ≤ (crossOf st x).1 ∧ (crossOf st x).1 ≤ m ∧ 1 ≤ (crossOf st x).2 ∧ (crossOf st x).2 ≤ m ∧ (crossOf st x).1 ≠ (crossOf st x).2 := by
 obtain ⟨k, hk⟩ : ∃ k, k = absI x := ⟨_, rfl⟩
 rw [← hk] at h1 h2
 obtain ⟨b, hb⟩ : ∃ b : Nat, b = k.toNat := ⟨_, rfl⟩
 obtain ⟨a, ha⟩ : ∃ a : Nat, a = (k - 1).toNat := ⟨_, rfl⟩
 have ea : atD 0 st (k - 1) = st[a]'(by omega) := by
  exact atD_get (by omega) _
 have eb : atD 0 st k = st[b]'(by omega) := by
  exact atD_get (by omega) _
 have := h.2 a (by omega)
 have := h.2 b (by omega)
 have hne : st[a]'(by omega) ≠ st[b]'(by omega) := fun e => by have := h.1 _ _ _ _ e; omega
 unfold crossOf
 rw [← hk]
 split
 ·simp only [ea, eb]; exact ⟨by omega, by omega, by omega, by omega, fun e => hne e.symm⟩
 ·simp only [ea, eb]; exact ⟨by omega, by omega, by omega, by omega, hne⟩
theorem rowGo_ok {m : Int} {n : Nat} : ∀ (ws : List Int) (st : List Int) (cr : List (Int × Int)), (∀ x ∈ ws, 1 ≤ absI x ∧ absI x < n) → st.length = n → injS m st → pairsOk m cr → pairsOk m (rowGo st cr ws).2
 | [], _, _, _, _, _, h => h
 | x :: r, st, cr, hf, hl, hi, hc => by
   rw [rowGo]
   have hx := hf x (by simp)
   refine rowGo_ok r _ _ (fun y hy => hf y (by simp [hy])) (by rw [swapL_len, hl]) (injS_swap hi hx.1 (by omega)) ?_
   intro p hp
   rcases List.mem_append.1 hp with h | h
   · exact hc p h
   · rw [List.mem_singleton] at h
     subst h
     exact crossOf_ok hi hx.1 (by omega)
theorem injS_start (n : Nat) : injS n (startL n) := by
 constructor
 ·intro i j hi hj h
  simp [startL] at h
  omega
 ·intro i hi
  simp [startL] at hi ⊢
  omega
theorem crossL_ok (n : Int) (ws : List Int) : pairsOk n (crossL n ws) := by
 unfold crossL
 split
 ·next h =>
  have h1 := wordE_fits h
  have hf := wordE_fitsW h
  have : ((n.toNat : Nat) : Int) = n := by omega
  rw [← this]
  simp only [Int.toNat_natCast]
  exact rowGo_ok ws _ _ (fun x hx => (hf x hx).2.2) (startL_len _) (injS_start _) (fun p hp => by cases hp)
 ·exact fun p hp => by cases hp

theorem rowGo_cl : ∀ (ws st : List Int) (cr : List (Int × Int)), (rowGo st cr ws).2.length = cr.length + ws.length
 | [], _, cr => by simp [rowGo]
 | x :: r, st, cr => by rw [rowGo, rowGo_cl r]; simp; omega
theorem crossL_len (n : Int) (ws : List Int) : (crossL n ws).length ≤ 200 := by
 unfold crossL
 split
 ·next h =>
  have := (wordE_fits h).2.2.1
  rw [rowL, rowGo_cl]; simpa using this
 ·simp
/-- what Alternates keeps. -/
def minZ (a s : Int) : Int := if a = 0 ∨ s < a then s else a
def altLeast (f : Int → Int) (least : Int) (p : Int × Int) : Int := (fun l => if f p.2 = -1 then minZ l p.2 else l) (if f p.1 = 1 then minZ least p.1 else least)
def altLast (f : Int → Int) (p : Int × Int) : Int → Int := fun s => if s = p.1 then 1 else if s = p.2 then -1 else f s
def altGo : (Int → Int) → Int → List (Int × Int) → Int
 | _, least, [] => least
 | f, least, p :: r => altGo (altLast f p) (altLeast f least p) r

def lastAt (f : Int → Int) (o u : Int) (lo lu : Bool) : Int → Int := fun s => if s = o ∧ lo = false then 1 else if s = u ∧ lu = false then -1 else f s
def leastAt (f : Int → Int) (least o u : Int) (lo lu : Bool) : Int := (fun l => if lu = false ∧ f u = -1 then minZ l u else l) (if lo = false ∧ f o = 1 then minZ least o else least)
theorem lastAt_start (f : Int → Int) (o u : Int) : lastAt f o u true true = f := by funext s; simp [lastAt]
theorem leastAt_start (f : Int → Int) (least o u : Int) : leastAt f least o u true true = least := by simp [leastAt]
theorem lastAt_end (f : Int → Int) (o u : Int) : lastAt f o u false false = altLast f (o, u) := by funext s; simp [lastAt, altLast]
theorem leastAt_end (f : Int → Int) (least o u : Int) : leastAt f least o u false false = altLeast f least (o, u) := by simp [leastAt, altLeast]
theorem alt_step {f : Int → Int} {least o u x c : Int} {lo lu : Bool} (hne : o ≠ u) (ho : 1 ≤ o) (hu : 1 ≤ u) (h : x = o ∧ c = 1 ∧ lo = true ∨ x = u ∧ c = -1 ∧ lu = true) :
   (fun s => if s = x then c else lastAt f o u lo lu s) = lastAt f o u (lo && !decide (o = x)) (lu && !decide (u = x)) ∧
   (if lastAt f o u lo lu x = c then minZ (leastAt f least o u lo lu) x else leastAt f least o u lo lu) = leastAt f least o u (lo && !decide (o = x)) (lu && !decide (u = x)) := by
 have hne' : u ≠ o := fun e => hne e.symm
 rcases h with ⟨rfl, rfl, rfl⟩ | ⟨rfl, rfl, rfl⟩
 ·refine ⟨?_, ?_⟩
  ·funext s
   by_cases e1 : s = x
   ·simp [lastAt, e1]
   ·simp [lastAt, e1, hne']
  ·cases lu <;> by_cases e1 : f x = 1 <;> by_cases e2 : f u = -1 <;> simp [lastAt, leastAt, hne', hne, e1, e2] <;> (unfold minZ; split <;> split <;> (try split) <;> (try split) <;> omega)
 ·refine ⟨?_, ?_⟩
  ·funext s
   by_cases e1 : s = x
   ·simp [lastAt, e1, hne']
   ·simp [lastAt, e1, hne]
  ·cases lo <;> by_cases e1 : f o = 1 <;> by_cases e2 : f x = -1 <;> simp [lastAt, leastAt, hne', hne, e1, e2]
/-- a map of two entries. -/
def TwoM (w : World) (b n : Nat) (o u : Int) : Prop :=
 ∃ D : DataW Unit, w.ownsMap Tryz.prog 3 (plainElem Tryz.prog 3) b n D ∧ (∀ k z, (D.atKey (.int .i64 k) z) = if k = o then .lit (.int .i64 1) else if k = u then .lit (.int .i64 (-1)) else z) ∧ ∀ k, has D (.int .i64 k) = (decide (k = o) || decide (k = u))
section
variable {P : Program} {ops : Array Oper} {Q : Exit → Act → World → Prop} {md : Region.Mode} {C : World → Prop}
theorem wpOp_ins {i : Nat} {d : Option Tmp} {m x y : Operand} {ty : TypeId} {p : String} {af : Array Edge} {b n : Nat} {k v : Int} {a : Act} {w : World} {D : DataW Unit} (hi : ops[i]? = some ⟨d, .insert 88 m x y, ty, p, af, none⟩)
   (hm : a.eval m = .map (some b)) (hx : a.eval x = .int .i64 k) (hy : a.eval y = .int .i64 v) (h : w.ownsMap Tryz.prog 3 (plainElem Tryz.prog 3) b n D) (hk : InI k) (hv : InI v) (hn : n < maxLen) {K : Act → World → Prop}
   (hK : ∀ w', w'.ownsMap Tryz.prog 3 (plainElem Tryz.prog 3) b (n + 1) (D.put (.int .i64 k) (.lit (.int .i64 v))) → w.grownBy w' (some b) → K (a.put d undef) w') : wpOp Tryz.prog ops Q i K a w := by
 obtain ⟨w', hrun, ho, hg⟩ := h.update keyI Tryz.underlying88 hn (keyOfI hk) (plainElem_int Tryz.underlying3 hv.wf)
 unfold wpOp
 simp only [hi]
 have hw : Region.wanted (⟨d, .insert 88 m x y, ty, p, af, none⟩ : Oper) (yielded ops a.tmps) = true := rfl
 rw [if_pos hw]
 refine .inl ?_
 unfold Oper.wp
 simp [execOp, hm, hx, hy, hrun, Result.andThen]
 exact hK _ ho hg
end
theorem noPanic_normal {Q : Exit → Act → World → Prop} {a : Act} {w : World} : NoPanic Q .normal a w = Q .normal a w := rfl
theorem alt_drop {f : Int → Int} {least o u : Int} {cr : List (Int × Int)} {k : Nat} (hk : k < cr.length) (h : atD (0, 0) cr k = (o, u)) : altGo f least (cr.drop k) = altGo (lastAt f o u false false) (leastAt f least o u false false) (cr.drop (k + 1)) := by
 have e2 : atD (0, 0) cr k = cr[k] := by simp [atD, hk]
 rw [List.drop_eq_getElem_cons hk, altGo, ← e2, h, lastAt_end, leastAt_end]
theorem yieldsC_load {P : Program} {ops : Array Oper} {w : World} {d : Tmp} {e : TypeId} {s : Operand} {ty : TypeId} {p : String} {af : Array Edge} {g : Option (Nat × Bool)} {a : Act} {b o : Nat} {cs : Array Value} {T : TypeId} {fr : Nat × Nat} {v : Value} (hF : Flat P e)
   (hb : w.heap[b]? = some (.cells cs T fr)) (hv : cs[o]? = some v) (hs : a.eval s = .pointer (some ⟨b, o, none⟩)) (hg : Region.wanted (⟨some d, .load e s, ty, p, af, g⟩ : Oper) (yielded ops a.tmps) = true) : YieldsC P ops (Below w.heap.size w) ⟨some d, .load e s, ty, p, af, g⟩ v a := by
 refine .inl ⟨hg, fun w' hw' => ?_⟩
 have hc : w'.cell? ⟨b, o, none⟩ = some v := by simp [World.cell?, hw'.block b (Array.getElem?_eq_some_iff.1 hb).1, hb, hv]
 simp [execOp, hs, run_loadAt_cell w' hF hc, Result.andThen]
theorem bothK {K : World → Prop} {F : World → Prop} {p q : Prop} (h : (∀ V, F V → K V) → p ∧ q) (k : ∀ V, F V → K V) : p ∧ q := h k
theorem two_of {w : World} {b n : Nat} {o u : Int} {D : DataW Unit} (hne : o ≠ u) (ho : InI o) (hu : InI u) (hD : D = ((DataW.map []).put (.int .i64 o) (.lit (.int .i64 1))).put (.int .i64 u) (.lit (.int .i64 (-1))) ∨ D = ((DataW.map []).put (.int .i64 u) (.lit (.int .i64 (-1)))).put (.int .i64 o) (.lit (.int .i64 1)))
   (h : w.ownsMap Tryz.prog 3 (plainElem Tryz.prog 3) b n D) : TwoM w b n o u := by
 have ko := keyI.key (keyOfI ho)
 have ku := keyI.key (keyOfI hu)
 have m0 : IsMap (DataW.map [] : DataW Unit) := ⟨_, rfl⟩
 have m1 := fun (k : Int) (v : Int) => (⟨_, rfl⟩ : IsMap ((DataW.map [] : DataW Unit).put (.int .i64 k) (.lit (.int .i64 v))))
 have hn : ∀ {k k' : Int}, k' ≠ k → Lit.int .i64 k' ≠ Lit.int .i64 k := fun h e => h (by simpa using e)
 refine ⟨D, h, fun k z => ?_, fun k => ?_⟩
 ·rcases hD with rfl | rfl
  ·by_cases e1 : k = o
   ·subst e1
    rw [atKey_put_other (hn hne), atKey_put_same m0 ko, if_pos rfl]
   ·by_cases e2 : k = u
    ·subst e2
     rw [atKey_put_same (m1 _ _) ku, if_neg e1, if_pos rfl]
    ·rw [atKey_put_other (hn e2), atKey_put_other (hn e1), if_neg e1, if_neg e2]; rfl
  ·by_cases e1 : k = o
   ·subst e1
    rw [atKey_put_same (m1 _ _) ko, if_pos rfl]
   ·by_cases e2 : k = u
    ·subst e2
     rw [atKey_put_other (hn e1), atKey_put_same m0 ku, if_neg e1, if_pos rfl]
    ·rw [atKey_put_other (hn e1), atKey_put_other (hn e2), if_neg e1, if_neg e2]; rfl
 ·rcases hD with rfl | rfl
  ·by_cases e1 : k = o
   ·subst e1
    rw [has_put_other (hn hne), has_put_same m0 ko]; simp
   ·by_cases e2 : k = u
    ·subst e2
     rw [has_put_same (m1 _ _) ku]; simp
    ·rw [has_put_other (hn e2), has_put_other (hn e1)]; simp [e1, e2]; rfl
  ·by_cases e1 : k = o
   ·subst e1
    rw [has_put_same (m1 _ _) ko]; simp
   ·by_cases e2 : k = u
    ·subst e2
     rw [has_put_other (hn e1), has_put_same m0 ku]; simp
    ·rw [has_put_other (hn e1), has_put_other (hn e2)]; simp [e1, e2]; rfl
end Go.Proofs.YtngpopalpofhgaaGreatDoor

namespace Go.Proofs.YtngpopalpofhgaaGreatDoor
open Go.RowKit Go.Maps
set_option maxHeartbeats 1000000
set_option maxRecDepth 100000

theorem E_cross : ETy Tryz.prog 25 42 (.agg #[.int .i64 0, .int .i64 0]) 2 16 := ⟨Tryz.underlying25, by kernel_rfl, rfl, by decide⟩
theorem F_cross : Aggr Tryz.prog 42 := ⟨_, Tryz.underlying42, rfl⟩
def altB (n : Int) (ws : List Int) : Int := if wordE n ws = 0 then altGo (fun _ => 0) 0 (crossL n ws) else 0

theorem Alternates_any (n : Int) (a : Option Addr) (cap : Nat) (l : List Int) (w : World) (hS : Ints w a cap l) (hsm : l.length ≤ 1048576) :
  Calls Tryz.prog 14 #[.int .i64 n, .slice a l.length cap] w fun r w' => r = .returned (.tuple #[.int .i64 (altB n l), .int .i64 (wordE n l)]) ∧ Below w.heap.size w w' := by
 have hmm := @run_makeMap Tryz.prog
 have hC := Crosses_any n a cap l w hS hsm
 by_cases h : wordE n l = 0
 ·have eB : altB n l = altGo (fun _ => 0) 0 (crossL n l) := if_pos h
  have hok := crossL_ok n l
  have hf := wordE_fits h
  have hn : n ≤ 12 := hf.2.1
  rw [eB, h]
  rw [h] at hC
  have hlen := crossL_len n l
  obtain ⟨cr, hcr⟩ : ∃ cr, cr = crossL n l := ⟨_, rfl⟩
  rw [← hcr] at hC hok hlen ⊢
  have HC := hid hC; clear hC h eB hf hcr
  go_enter Tryz.func14, Tryz.ntmps14
  go_wp2_with fail
  refine HC.out.mono ?_
  rintro e w1 ⟨a1, cap1, rfl, hP, _, hb1⟩
  have hcap := hP.le
  have hmx := hP.max
  go_wp2_with fail
  go_loopw [26, 9, 11, 12, 13] (fun i v9 _ _ _ wr => ∃ (k : Nat) (least : Int) (f : Int → Int), k ≤ cr.length ∧ i = .int .i64 k ∧ v9 = .int .i64 least ∧ altGo f least (cr.drop k) = altGo (fun _ => 0) 0 cr ∧ Below w1.heap.size w1 wr ∧ MapI wr w1.heap.size (2 * k) f) (fun i _ _ _ _ _ => cr.length - (intOf i).toNat)
  case atStart => exact ⟨0, 0, _, by omega, rfl, rfl, rfl, bal (Below.refl _ _) _, mapI_made w1⟩
  case round =>
   obtain ⟨k, least, f, hk, rfl, rfl, hgo, hbr, hmr⟩ := hrel
   have hPr := hP.below hbr
   by_cases hkl : k < cr.length
   ·have hpk := hok (atD (0, 0) cr k) (by simp [atD, hkl])
    obtain ⟨o, u, hou⟩ : ∃ o u, atD (0, 0) cr k = (o, u) := ⟨_, _, rfl⟩
    rw [hou] at hpk
    simp only at hpk
    have HK := hid hpk; clear hpk
    have HOU := hid hou; clear hou
    have HGO := hid hgo; clear hgo
    go_wp2_with (with_reducible refine wpList_idxS _ (0, 0) E_cross F_cross cPair1 wU wU (hPr) oD oD (fun _ => wU) (fun _ => ?_)); (try simp only [cPair, HOU.out])
    have q := heap_alloc_new wr (.cells #[.int .i64 o, .int .i64 u] 42)
    have hmW := hmr.alloc (.cells #[.int .i64 o, .int .i64 u] 42)
    have hbW := bal hbr (.cells #[.int .i64 o, .int .i64 u] 42)
    have zB : wr.heap.size < (wr.alloc (.cells #[.int .i64 o, .int .i64 u] 42)).heap.size := by simp
    obtain ⟨W, hW⟩ : ∃ W, W = wr.alloc (.cells #[.int .i64 o, .int .i64 u] 42) := ⟨_, rfl⟩
    rw [← hW] at q hmW hbW zB
    simp only [← hW]
    clear hW
    refine wp_region_pure (C := Below W.heap.size W) [1, 2, 4, 5] [_, _, _, _] 5 (by simp only [List.map_cons, List.map_nil, List.getElem?_toArray]; rfl) rfl kR kR kR (Below.refl _ _).drew ?_
    refine ⟨.pointer (some ⟨wr.heap.size, 0, none⟩), .inl ⟨by with_unfolding_all rfl, fun w' _ => by go_simp⟩, ?_⟩
    go_frame
    refine ⟨.int .i64 o, yieldsC_load F_int q rfl wU wU, ?_⟩
    go_frame
    refine ⟨.pointer (some ⟨wr.heap.size, 1, none⟩), .inl ⟨by with_unfolding_all rfl, fun w' _ => by go_simp⟩, ?_⟩
    go_frame
    refine ⟨.int .i64 u, yieldsC_load F_int q rfl wU wU, ?_⟩
    go_frame
    unfold wpPure
    have zM := hmr.lt
    have hV0 : Below W.heap.size W { W with drawn := W.drawn + 1 } := (Below.refl _ _).drew
    obtain ⟨V, hV, hVz⟩ : ∃ V, V = { W with drawn := W.drawn + 1 } ∧ V.heap.size = W.heap.size := ⟨_, rfl, rfl⟩
    rw [← hV] at hV0
    rw [← hV]
    clear hV
    have hIo : InI o := by have := HK.out; unfold InI; omega
    have hIu : InI u := by have := HK.out; unfold InI; omega
    have hI1 : InI 1 := by unfold InI; omega
    have hI2 : InI (-1) := by unfold InI; omega
    refine wpAnyC_on [0] kR (by simp) ?_
    simp only [List.forall_mem_cons, List.not_mem_nil, false_implies, implies_true, and_true]
    refine wpOp_value (v := .map (some W.heap.size)) (w' := V.alloc (.map #[] 0)) (by rw [List.getElem?_toArray]; rfl) wU (by rw [← hVz]; simp [execOp, hmm, Result.andThen]) ?_
    refine ⟨hV0.alloc (by omega) _, ?_⟩
    go_frame
    have hm0 := World.ownsMap_made (H := Unit) V Tryz.prog 3 (plainElem Tryz.prog 3)
    rw [hVz] at hm0
    have hV1 : Below W.heap.size W (V.alloc (.map #[] 0)) := hV0.alloc (by omega) _
    obtain ⟨V1, hV1e, hz1⟩ : ∃ V1, V1 = V.alloc (.map #[] 0) ∧ V1.heap.size = W.heap.size + 1 := ⟨_, rfl, by simp [hVz]⟩
    rw [← hV1e] at hm0 hV1
    rw [← hV1e]
    clear hV1e
    refine wpAnyC_on [3, 6] kR (by simp) ?_
    simp only [List.forall_mem_cons, List.not_mem_nil, false_implies, implies_true, and_true]
    apply bothK (F := fun V => TwoM V W.heap.size 2 o u ∧ Below W.heap.size W V)
    case h =>
     intro key
     constructor
     ·refine wpOp_ins (by rw [List.getElem?_toArray]; rfl) wU wU (by rfl) hm0 hIo hI1 (by decide) ?_
      intro V2 hm2 hg2
      have hV2 := hV1.grown hg2 (by omega) (fun k hk => by cases hk; exact Nat.le_refl _)
      have hz2 := hg2.size
      refine ⟨hV2, ?_⟩
      refine wpAnyC_on [6] kR (by simp) ?_
      simp only [List.forall_mem_cons, List.not_mem_nil, false_implies, implies_true, and_true]
      refine wpOp_ins (by rw [List.getElem?_toArray]; rfl) wU wU (by rfl) hm2 hIu hI2 (by decide) ?_
      intro V3 hm3 hg3
      have hV3 := hV2.grown hg3 (by omega) (fun k hk => by cases hk; exact Nat.le_refl _)
      exact ⟨hV3, key V3 ⟨two_of HK.out.2.2.2.2 hIo hIu (.inl rfl) hm3, hV3⟩⟩
     ·refine wpOp_ins (by rw [List.getElem?_toArray]; rfl) wU wU (by rfl) hm0 hIu hI2 (by decide) ?_
      intro V2 hm2 hg2
      have hV2 := hV1.grown hg2 (by omega) (fun k hk => by cases hk; exact Nat.le_refl _)
      have hz2 := hg2.size
      refine ⟨hV2, ?_⟩
      refine wpAnyC_on [3] kR (by simp) ?_
      simp only [List.forall_mem_cons, List.not_mem_nil, false_implies, implies_true, and_true]
      refine wpOp_ins (by rw [List.getElem?_toArray]; rfl) wU wU (by rfl) hm2 hIo hI1 (by decide) ?_
      intro V3 hm3 hg3
      have hV3 := hV2.grown hg3 (by omega) (fun k hk => by cases hk; exact Nat.le_refl _)
      refine ⟨hV3, ?_⟩
      rw [Array.setIfInBounds_comm _ _ (by decide : (6 : Nat) ≠ 3)]
      exact key V3 ⟨two_of HK.out.2.2.2.2 hIo hIu (.inr rfl) hm3, hV3⟩
    case k =>
     rintro V3 ⟨⟨D, hown, hat, hhas⟩, hV3⟩
     refine wpAnyC_on [7] kR (by simp) ?_
     simp only [List.forall_mem_cons, List.not_mem_nil, false_implies, implies_true, and_true]
     refine wpOp_value (v := .map (some W.heap.size)) (w' := V3) (by rw [List.getElem?_toArray]; rfl) wU (by simp [execOp, Act.eval, Result.andThen]; rfl) ?_
     refine ⟨hV3, ?_⟩
     go_frame
     obtain ⟨V4, hrun, hrg, hg4, hs4⟩ := hown.range keyI Tryz.underlying88
     have hsz := hown.size_le
     have hV4 := hV3.grown hg4 hV3.size (fun k hk => by cases hk)
     have hm4 := hmW.below hV4
     have hb4 := bnext hbW hV4
     have z3 := hV3.size
     refine wpAnyC_on [8] kR (by simp) ?_
     simp only [List.forall_mem_cons, List.not_mem_nil, false_implies, implies_true, and_true]
     refine wpOp_value (v := .pointer (some ⟨V3.heap.size, 0, none⟩)) (w' := V4) (by rw [List.getElem?_toArray]; rfl) wU (by simp [execOp, Act.eval, hrun, Result.andThen]) ?_
     refine ⟨hV4, by kernel_rfl, ?_⟩
     go_frame
     rw [noPanic_normal]
     refine of_wpList_nil (P := Tryz.prog) (ops := #[]) ?_
     go_wp2_with fail
     have HAT0 := hid hat; clear hat
     have HHAS := hid hhas; clear hhas
     have hfm : ∀ (x c : Int), (∀ zd, D.atKey (.int .i64 x) zd = .lit (.int .i64 c)) → x = o ∧ c = 1 ∨ x = u ∧ c = -1 := by
      intro x c hx
      have h1 := (HAT0.out x (.lit (.bool true))).symm.trans (hx (.lit (.bool true)))
      split at h1
      ·next e => cases h1; exact .inl ⟨e, rfl⟩
      ·split at h1
       ·next e => cases h1; exact .inr ⟨e, rfl⟩
       ·cases h1
     have HF := hid hfm; clear hfm
     go_loopw [9, 12, 13] (fun v9 _ _ wq => ∃ (left : Lit → Bool) (cnt m : Nat) (nl : Int), wq.ranges Tryz.prog 3 (plainElem Tryz.prog 3) W.heap.size V3.heap.size 2 D left cnt ∧ v9 = .int .i64 nl ∧ nl = leastAt f least o u (left (.int .i64 o)) (left (.int .i64 u)) ∧ m + cnt ≤ 2 * k + 2 ∧ Below w1.heap.size w1 wq ∧ MapI wq w1.heap.size m (lastAt f o u (left (.int .i64 o)) (left (.int .i64 u)))) (fun _ _ _ wq => wq.rangeLeft W.heap.size V3.heap.size)
     case atStart =>
      refine ⟨_, _, 2 * k, least, hrg, rfl, ?_, by omega, hb4, ?_⟩
      ·rw [HHAS.out, HHAS.out]; simp [leastAt_start]
      ·rw [HHAS.out, HHAS.out]; simpa [lastAt_start] using hm4
     case round =>
      obtain ⟨left, cnt, m, nl, hrg, rfl, hnl, hmc, hbq, hmq⟩ := hrel
      have HNL := hid hnl; clear hnl
      go_wp2_with (first | (at_next; refine wpList_next_ranges_ii _ rfl _ rfl 3 3 .i64 .i64 keyI Tryz.underlying3 Tryz.underlying3 W.heap.size V3.heap.size 2 _ _ _ rfl hrg ?_ ?_))
      ·intro hc0 hl0
       have HL0 := hid hl0; clear hl0
       go_wp2_with fail
       have e := alt_drop (f := f) (least := least) hkl HOU.out
       rw [HGO.out] at e
       have e2 := HNL.out
       rw [HL0.out, HL0.out] at e2 hmq
       rw [← e2] at e
       go_roundw
       case rel => exact ⟨k + 1, nl, _, by omega, by simp, rfl, e.symm, hbq, hmq.le (by omega)⟩
       case measure => simp [intOf]; omega
      ·intro x c w2 cnt2 hwx hwc hlx hatx hrg2 hlt2 hg2 hs2 hen
       have hm2 := hmq.kept hg2 (by simp; omega)
       have hb2 := hbq.grown hg2 hbq.size (fun k hk => by cases hk; omega)
       have hxc := HF.out x c hatx
       clear hatx hwx hwc
       have hst := alt_step (f := f) (least := least) (lo := left (.int .i64 o)) (lu := left (.int .i64 u)) HK.out.2.2.2.2 HK.out.1 HK.out.2.2.1 (hxc.imp (fun ⟨h, h'⟩ => ⟨h, h', by rw [← h]; exact hlx⟩) (fun ⟨h, h'⟩ => ⟨h, h', by rw [← h]; exact hlx⟩))
       rw [← HNL.out] at hst
       obtain ⟨g, hg⟩ : ∃ g, g = lastAt f o u (left (.int .i64 o)) (left (.int .i64 u)) := ⟨_, rfl⟩
       rw [← hg] at hm2 hst
       have hL : ∀ y, ((fun z : Lit => left z && !z.sameKey (.int .i64 x)) (.int .i64 y)) = (left (.int .i64 y) && !decide (y = x)) := by intro y; simp [Lit.sameKey]
       rw [← hL, ← hL] at hst
       have HIX : Hid (InI x) := hid (by rcases hxc with ⟨rfl, _⟩ | ⟨rfl, _⟩ <;> assumption)
       have HIC : Hid (InI c) := hid (by rcases hxc with ⟨_, rfl⟩ | ⟨_, rfl⟩ <;> assumption)
       have FIN := hid (fun (nv : Int) (w3 : World) (h : nv = (if g x = c then minZ nl x else nl)) (hm3 : MapI w3 w1.heap.size (m + 1) (fun s => if s = x then c else g s)) (hg3 : w2.grownBy w3 (some w1.heap.size)) =>
        (⟨⟨_, cnt2, m + 1, nv, hrg2.kept hg3 (by simp; omega) (by simp; omega), rfl, h.trans hst.2, by omega, hb2.grown hg3 hb2.size (fun k hk => by cases hk; exact Nat.le_refl _), hst.1 ▸ hm3⟩, by rw [(hrg2.kept hg3 (by simp; omega) (by simp; omega)).left_eq, hrg.left_eq]; exact hlt2⟩ :
        (∃ (left : Lit → Bool) (cnt m : Nat) (nl : Int), w3.ranges Tryz.prog 3 (plainElem Tryz.prog 3) W.heap.size V3.heap.size 2 D left cnt ∧ Value.int .i64 nv = .int .i64 nl ∧ nl = leastAt f least o u (left (.int .i64 o)) (left (.int .i64 u)) ∧ m + cnt ≤ 2 * k + 2 ∧ Below w1.heap.size w1 w3 ∧ MapI w3 w1.heap.size m (lastAt f o u (left (.int .i64 o)) (left (.int .i64 u)))) ∧
        w3.rangeLeft W.heap.size V3.heap.size < wr.rangeLeft W.heap.size V3.heap.size))
       clear hg hst hL hxc hlx
       have hmx2 : m < maxLen := by unfold maxLen; omega
       by_cases h1 : g x = c
       ·by_cases h2 : nl = 0
        ·have hv : x = (if g x = c then minZ nl x else nl) := by simp [h1, h2, minZ]
         have HV := hid hv; clear hv
         go_wp2_with (first | (with_reducible refine wpList_lookI wU wU (hm2) (HIX.out) wU ?_) | ((with_reducible refine wpList_putI wU wU wU (hm2) (HIX.out) (HIC.out) (hmx2) ?_); intro w3 hm3 hg3))
         have := FIN.out x w3 HV.out hm3 hg3
         refine ⟨?_, this.2⟩
         first
          | (repeat apply Exists.intro); exact ⟨this.1, rfl⟩
          | (obtain ⟨left', cnt', m', nl', a1, a2, a3, a4, a5, a6⟩ := this.1; cases a2; exact ⟨left', cnt', a1, a3, m', a4, a5, a6⟩)
        ·by_cases h3 : x < nl
         ·have hv : x = (if g x = c then minZ nl x else nl) := by simp [h1, h3, minZ]
          have HV := hid hv; clear hv
          go_wp2_with (first | (with_reducible refine wpList_lookI wU wU (hm2) (HIX.out) wU ?_) | ((with_reducible refine wpList_putI wU wU wU (hm2) (HIX.out) (HIC.out) (hmx2) ?_); intro w3 hm3 hg3))
          have := FIN.out x w3 HV.out hm3 hg3
          refine ⟨?_, this.2⟩
          first
           | (repeat apply Exists.intro); exact ⟨this.1, rfl⟩
           | (obtain ⟨left', cnt', m', nl', a1, a2, a3, a4, a5, a6⟩ := this.1; cases a2; exact ⟨left', cnt', a1, a3, m', a4, a5, a6⟩)
         ·have hv : nl = (if g x = c then minZ nl x else nl) := by simp [h1, h2, h3, minZ]
          have HV := hid hv; clear hv
          go_wp2_with (first | (with_reducible refine wpList_lookI wU wU (hm2) (HIX.out) wU ?_) | ((with_reducible refine wpList_putI wU wU wU (hm2) (HIX.out) (HIC.out) (hmx2) ?_); intro w3 hm3 hg3))
          have := FIN.out nl w3 HV.out hm3 hg3
          refine ⟨?_, this.2⟩
          first
           | (repeat apply Exists.intro); exact ⟨this.1, rfl⟩
           | (obtain ⟨left', cnt', m', nl', a1, a2, a3, a4, a5, a6⟩ := this.1; cases a2; exact ⟨left', cnt', a1, a3, m', a4, a5, a6⟩)
       ·have hv : nl = (if g x = c then minZ nl x else nl) := by simp [h1]
        have HV := hid hv; clear hv
        go_wp2_with (first | (with_reducible refine wpList_lookI wU wU (hm2) (HIX.out) wU ?_) | ((with_reducible refine wpList_putI wU wU wU (hm2) (HIX.out) (HIC.out) (hmx2) ?_); intro w3 hm3 hg3))
        have := FIN.out nl w3 HV.out hm3 hg3
        refine ⟨?_, this.2⟩
        first
         | (repeat apply Exists.intro); exact ⟨this.1, rfl⟩
         | (obtain ⟨left', cnt', m', nl', a1, a2, a3, a4, a5, a6⟩ := this.1; cases a2; exact ⟨left', cnt', a1, a3, m', a4, a5, a6⟩)
   ·have e : k = cr.length := by omega
    have hv : least = altGo (fun _ => 0) 0 cr := by rw [← hgo, e, List.drop_length]; rfl
    have HV := hid hv; clear hv hgo e
    have hb2 := bnext hb1 hbr
    go_wp2_with fail
    go_ret2
    exact ⟨by rw [HV.out]; rfl, hb2⟩
 ·have eB : altB n l = 0 := if_neg h
  have eC : crossL n l = [] := if_neg h
  rw [eC] at hC
  rw [eB]
  obtain ⟨q, hq⟩ : ∃ q, q = wordE n l := ⟨_, rfl⟩
  rw [← hq] at h hC ⊢
  have hne : (q != 0) = true := by simpa using h
  have HC := hid hC; clear hC eB eC hq
  go_enter Tryz.func14, Tryz.ntmps14
  go_wp2_with fail
  refine HC.out.mono ?_
  rintro e w1 ⟨a1, cap1, rfl, _, _, hb1⟩
  go_wp2_with fail
  go_ret2
  exact ⟨rfl, hb1⟩
end Go.Proofs.YtngpopalpofhgaaGreatDoor

namespace Go.Proofs.YtngpopalpofhgaaGreatDoor
open Go.RowKit
set_option maxHeartbeats 1000000
set_option maxRecDepth 100000

section
variable {s : List Int} {ms : List (Int × Int)} {p : List Int}
end

theorem lcmF_lcm (o n : Nat) : lcmF o n = Nat.lcm o n := by
 unfold lcmF Nat.lcm
 rw [Nat.div_mul_right_comm (Nat.gcd_dvd_left o n)]
def wgt (o m : Nat) : Nat := if m ∣ o then m * 4 ^ m else 5 ^ m
def wgtL (o : Nat) : List Nat → Nat
 | [] => 1
 | m :: r => wgt o m * wgtL o r
theorem wgt_mono {o o' m : Nat} (h : o ∣ o') (hm : 5 ^ m ≤ m * 4 ^ m) : wgt o m ≤ wgt o' m := by
 unfold wgt
 by_cases a : m ∣ o
 ·rw [if_pos a, if_pos (Nat.dvd_trans a h)]; exact Nat.le_refl _
 ·rw [if_neg a]; split
  ·exact hm
  ·exact Nat.le_refl _
theorem wgtL_mono {o o' : Nat} (h : o ∣ o') : ∀ ms : List Nat, (∀ m ∈ ms, 5 ^ m ≤ m * 4 ^ m) → wgtL o ms ≤ wgtL o' ms
 | [], _ => Nat.le_refl _
 | m :: r, hm => Nat.mul_le_mul (wgt_mono h (hm m (by simp))) (wgtL_mono h r (fun x hx => hm x (by simp [hx])))
theorem wgtL_in {o o' n : Nat} (h : o ∣ o') (h1 : ¬ n ∣ o) (h2 : n ∣ o') : ∀ ms : List Nat, (∀ m ∈ ms, 5 ^ m ≤ m * 4 ^ m) → n ∈ ms → wgtL o ms * (n * 4 ^ n) ≤ wgtL o' ms * 5 ^ n
 | [], _, hn => by simp at hn
 | m :: r, hm, hn => by
   rw [wgtL, wgtL]
   by_cases e : n = m
   · subst e
     have hr := wgtL_mono h r (fun x hx => hm x (by simp [hx]))
     have a1 : wgt o n = 5 ^ n := if_neg h1
     have a2 : wgt o' n = n * 4 ^ n := if_pos h2
     rw [a1, a2]
     calc 5 ^ n * wgtL o r * (n * 4 ^ n) = (n * 4 ^ n) * wgtL o r * 5 ^ n := by ac_rfl
       _ ≤ (n * 4 ^ n) * wgtL o' r * 5 ^ n := Nat.mul_le_mul_right _ (Nat.mul_le_mul_left _ hr)
   · have hr := wgtL_in h h1 h2 r (fun x hx => hm x (by simp [hx])) (by simpa [e] using hn)
     have hw := wgt_mono h (hm m (by simp))
     calc wgt o m * wgtL o r * (n * 4 ^ n) = wgt o m * (wgtL o r * (n * 4 ^ n)) := by ac_rfl
       _ ≤ wgt o' m * (wgtL o' r * 5 ^ n) := Nat.mul_le_mul hw hr
       _ = wgt o' m * wgtL o' r * 5 ^ n := by ac_rfl
def msW : List Nat := [2, 3, 4, 5, 6, 7, 8, 9, 10]
theorem msW_ok : ∀ m ∈ msW, 5 ^ m ≤ m * 4 ^ m := by decide
theorem big_pow : ∀ n : Nat, 11 ≤ n → n * 4 ^ n ≤ 5 ^ n := by
 intro n h
 induction n with
 | zero => omega
 | succ n ih =>
  by_cases e : n + 1 = 11
  ·have : n = 10 := by omega
   subst this; decide
  ·have := ih (by omega)
   rw [Nat.pow_succ, Nat.pow_succ]
   have h4 : (n + 1) * (4 ^ n * 4) = 4 * (n + 1) * 4 ^ n := by ac_rfl
   rw [h4]
   calc 4 * (n + 1) * 4 ^ n ≤ 5 * n * 4 ^ n := Nat.mul_le_mul_right _ (by omega)
    _ = 5 * (n * 4 ^ n) := by ac_rfl
    _ ≤ 5 * 5 ^ n := Nat.mul_le_mul_left _ this
    _ = 5 ^ n * 5 := by ac_rfl
theorem perW (kW : Nat) (ls : List Nat) : ∀ (o s : Nat), (∀ n ∈ ls, 0 < n) → o * 4 ^ s * kW ≤ 5 ^ s * wgtL o msW → (ls.foldl lcmF o) * 4 ^ (s + ls.sum) * kW ≤ 5 ^ (s + ls.sum) * wgtL (ls.foldl lcmF o) msW := by
 induction ls with
 | nil => intro o s _ h; rw [List.foldl_nil, List.sum_nil, Nat.add_zero]; exact h
 | cons n r ih =>
  intro o s hp h
  have hn := hp n (by simp)
  rw [List.foldl_cons, List.sum_cons, ← Nat.add_assoc]
  refine ih _ _ (fun x hx => hp x (by simp [hx])) ?_
  have h4 : 4 ^ n ≤ 5 ^ n := Nat.pow_le_pow_left (by decide) n
  rw [Nat.pow_add, Nat.pow_add]
  have hd1 : o ∣ lcmF o n := by rw [lcmF_lcm]; exact Nat.dvd_lcm_left _ _
  have hd2 : n ∣ lcmF o n := by rw [lcmF_lcm]; exact Nat.dvd_lcm_right _ _
  have hle := lcmF_le o n
  by_cases hdv : n ∣ o
  ·have e : lcmF o n = o := by rw [lcmF_lcm]; exact Nat.lcm_eq_left hdv
   rw [e]
   calc o * (4 ^ s * 4 ^ n) * kW = (o * 4 ^ s * kW) * 4 ^ n := by ac_rfl
    _ ≤ (5 ^ s * wgtL o msW) * 5 ^ n := Nat.mul_le_mul h h4
    _ = 5 ^ s * 5 ^ n * wgtL o msW := by ac_rfl
  ·have h1 : lcmF o n * (4 ^ s * 4 ^ n) * kW ≤ (5 ^ s * wgtL o msW) * (n * 4 ^ n) := by
    calc lcmF o n * (4 ^ s * 4 ^ n) * kW ≤ (o * n) * (4 ^ s * 4 ^ n) * kW := Nat.mul_le_mul_right _ (Nat.mul_le_mul_right _ hle)
     _ = (o * 4 ^ s * kW) * (n * 4 ^ n) := by ac_rfl
     _ ≤ (5 ^ s * wgtL o msW) * (n * 4 ^ n) := Nat.mul_le_mul_right _ h
   refine Nat.le_trans h1 ?_
   by_cases h10 : n ≤ 10
   ·have hin : n ∈ msW := by
     have h2 : n ≠ 1 := fun e => hdv (by rw [e]; exact Nat.one_dvd _)
     have : n = 2 ∨ n = 3 ∨ n = 4 ∨ n = 5 ∨ n = 6 ∨ n = 7 ∨ n = 8 ∨ n = 9 ∨ n = 10 := by omega
     unfold msW
     rcases this with rfl | rfl | rfl | rfl | rfl | rfl | rfl | rfl | rfl <;> decide
    have hw := wgtL_in hd1 hdv hd2 msW msW_ok hin
    calc 5 ^ s * wgtL o msW * (n * 4 ^ n) = 5 ^ s * (wgtL o msW * (n * 4 ^ n)) := by ac_rfl
     _ ≤ 5 ^ s * (wgtL (lcmF o n) msW * 5 ^ n) := Nat.mul_le_mul_left _ hw
     _ = 5 ^ s * 5 ^ n * wgtL (lcmF o n) msW := by ac_rfl
   ·have hb := big_pow n (by omega)
    have hw := wgtL_mono hd1 msW msW_ok
    calc 5 ^ s * wgtL o msW * (n * 4 ^ n) ≤ 5 ^ s * wgtL (lcmF o n) msW * 5 ^ n := Nat.mul_le_mul (Nat.mul_le_mul_left _ hw) hb
     _ = 5 ^ s * 5 ^ n * wgtL (lcmF o n) msW := by ac_rfl
theorem wgtL_top (o : Nat) : ∀ ms : List Nat, (∀ m ∈ ms, 5 ^ m ≤ m * 4 ^ m) → wgtL o ms ≤ wgtL 0 ms := fun ms h => wgtL_mono (Nat.dvd_zero o) ms h
theorem perF_small (ls : List Nat) (hp : ∀ n ∈ ls, 0 < n) (h : ls.sum ≤ 64) : perF ls < 100000000 := by
 have h0 := perW (5 ^ 54) ls 1 0 hp (by decide +kernel)
 rw [Nat.zero_add] at h0
 have h1 := Nat.le_trans h0 (Nat.mul_le_mul_left _ (wgtL_top _ msW msW_ok))
 obtain ⟨k, hk⟩ : ∃ k, 64 = ls.sum + k := ⟨64 - ls.sum, by omega⟩
 have h2 : perF ls * 4 ^ 64 * 5 ^ 54 ≤ 5 ^ 64 * wgtL 0 msW := by
  rw [hk, Nat.pow_add, Nat.pow_add]
  calc perF ls * (4 ^ ls.sum * 4 ^ k) * 5 ^ 54 = (perF ls * 4 ^ ls.sum * 5 ^ 54) * 4 ^ k := by ac_rfl
   _ ≤ (5 ^ ls.sum * wgtL 0 msW) * 5 ^ k := Nat.mul_le_mul h1 (Nat.pow_le_pow_left (by decide) k)
   _ = 5 ^ ls.sum * 5 ^ k * wgtL 0 msW := by ac_rfl
 rcases Nat.lt_or_ge (perF ls) 100000000 with h3 | h3
 ·exact h3
 ·exfalso
  have h4 := Nat.le_trans (Nat.mul_le_mul_right (5 ^ 54) (Nat.mul_le_mul_right (4 ^ 64) h3)) h2
  exact absurd h4 (by decide +kernel)
end Go.Proofs.YtngpopalpofhgaaGreatDoor

namespace Go.Proofs.YtngpopalpofhgaaGreatDoor
open Go.RowKit
set_option maxHeartbeats 1000000
set_option maxRecDepth 100000

theorem period_small {p : List Int} (hp : IsP p) (h : p.length ≤ 64) : periodN p < 100000000 := by
 refine perF_small _ (fun n hn => ?_) (Nat.le_trans (cycK_sum hp (Nat.le_refl _)) h)
 obtain ⟨l, hl, rfl⟩ := List.mem_map.1 hn; exact cycK_pos hp (Nat.le_refl _) l hl

end Go.Proofs.YtngpopalpofhgaaGreatDoor

namespace Go.Proofs.YtngpopalpofhgaaGreatDoor
section
variable {S : Type} (G : Gar S)
variable {G}
theorem Pull.post {X Y : List S} (h : Pull G X Y) (Z : List S) : Pull G (X ++ Z) (Y ++ Z) := by
 induction h with
 | here a b X i h1 h2 h3 => exact .here a b (X ++ Z) i h1 h2 h3
 | there a _ ih => exact .there a ih
theorem Star.post {X Y : List S} (h : Star G X Y) (Z : List S) : Star G (X ++ Z) (Y ++ Z) := by
 induction h with
 | refl => exact .refl _
 | step p _ ih => exact .step (p.post Z) ih
end
end Go.Proofs.YtngpopalpofhgaaGreatDoor

namespace Go.Proofs.YtngpopalpofhgaaGreatDoor
set_option maxRecDepth 100000
section
variable {n : Nat} {p : List Int} {i : Nat}
theorem VP.rg (h : VP n p) {x : Int} (h0 : 0 ≤ x) (h1 : x < n) : 0 ≤ atD 0 p x ∧ atD 0 p x < n := by have := h.1.rng x h0 (by rw [h.2]; exact h1); rwa [h.2] at this
end
theorem VP.mem {n : Nat} {p : List Int} (h : VP n p) : ∀ x ∈ p, 0 ≤ x ∧ x < n := by
 intro x hx
 obtain ⟨k, hk, rfl⟩ := List.getElem_of_mem hx
 have := h.rg (x := (k : Int)) (by omega) (by have := h.2; omega)
 unfold atD at this
 rwa [List.getD_eq_getElem?_getD, show (k : Int).toNat = k by omega, List.getElem?_eq_getElem hk] at this
end Go.Proofs.YtngpopalpofhgaaGreatDoor

namespace Go.Proofs
open Go.Shelf
def Tryz.laysM171_ren : Go.Shelf.Ren := ⟨fun | 171 => 232 | 243 => 248 | 246 => 262 | 283 => 264 | 284 => 265 | 285 => 266 | 286 => 267 | 129 => 246 | 317 => 269 | 318 => 270 | 319 => 271 | 320 => 272 | 337 => 274 | 338 => 275 | n => n, fun | 3 => 3 | 9 => 9 | 2 => 2 | 4 => 4 | 171 => 282 | 0 => 0 | 53 => 227 | 37 => 91 | 5 => 5 | 173 => 284 | 212 => 286 | 51 => 224 | 20 => 20 | 213 => 287 | 46 => 172 | 232 => 290 | 233 => 291 | n => n, fun | 17 => 5 | 18 => 6 | 19 => 7 | n => n⟩
theorem Tryz.laysM171 : Go.Proofs.LaysM.n171 Tryz.prog Tryz.laysM171_ren := {
 mixed := by kernel_rfl
 f129 := Tryz.func246.trans (congrArg some (by kernel_rfl))
 f171 := Tryz.func232.trans (congrArg some (by kernel_rfl))
 f243 := Tryz.func248.trans (congrArg some (by kernel_rfl))
 f246 := Tryz.func262.trans (congrArg some (by kernel_rfl))
 f283 := Tryz.func264.trans (congrArg some (by kernel_rfl))
 f284 := Tryz.func265.trans (congrArg some (by kernel_rfl))
 f285 := Tryz.func266.trans (congrArg some (by kernel_rfl))
 f286 := Tryz.func267.trans (congrArg some (by kernel_rfl))
 f317 := Tryz.func269.trans (congrArg some (by kernel_rfl))
 f318 := Tryz.func270.trans (congrArg some (by kernel_rfl))
 f319 := Tryz.func271.trans (congrArg some (by kernel_rfl))
 f320 := Tryz.func272.trans (congrArg some (by kernel_rfl))
 f337 := Tryz.func274.trans (congrArg some (by kernel_rfl))
 f338 := Tryz.func275.trans (congrArg some (by kernel_rfl))
 t0 := Tryz.underlying0
 a0 := Tryz.isAgg0
 z0 := Tryz.sizeOf0
 v0 := Tryz.zeroValue0
 t2 := Tryz.underlying2
 a2 := Tryz.isAgg2
 z2 := Tryz.sizeOf2
 v2 := Tryz.zeroValue2
 t3 := Tryz.underlying3
 a3 := Tryz.isAgg3
 z3 := Tryz.sizeOf3
 v3 := Tryz.zeroValue3
 t4 := Tryz.underlying4
 a4 := Tryz.isAgg4
 z4 := Tryz.sizeOf4
 v4 := Tryz.zeroValue4
 t5 := Tryz.underlying5
 a5 := Tryz.isAgg5
 z5 := Tryz.sizeOf5
 v5 := Tryz.zeroValue5
 t9 := Tryz.underlying9
 a9 := Tryz.isAgg9
 z9 := Tryz.sizeOf9
 v9 := Tryz.zeroValue9
 t20 := Tryz.underlying20
 a20 := Tryz.isAgg20
 z20 := Tryz.sizeOf20
 v20 := Tryz.zeroValue20
 t37 := Tryz.underlying91
 a37 := Tryz.isAgg91
 z37 := Tryz.sizeOf91
 v37 := Tryz.zeroValue91
 t46 := Tryz.underlying172
 a46 := Tryz.isAgg172
 z46 := Tryz.sizeOf172
 v46 := Tryz.zeroValue172
 t51 := Tryz.underlying224
 a51 := Tryz.isAgg224
 z51 := Tryz.sizeOf224
 v51 := Tryz.zeroValue224
 t53 := Tryz.underlying227
 a53 := Tryz.isAgg227
 z53 := Tryz.sizeOf227
 v53 := Tryz.zeroValue227
 t171 := Tryz.underlying282
 a171 := Tryz.isAgg282
 z171 := Tryz.sizeOf282
 v171 := Tryz.zeroValue282
 t173 := Tryz.underlying284
 a173 := Tryz.isAgg284
 z173 := Tryz.sizeOf284
 v173 := Tryz.zeroValue284
 t212 := Tryz.underlying286
 a212 := Tryz.isAgg286
 z212 := Tryz.sizeOf286
 v212 := Tryz.zeroValue286
 t213 := Tryz.underlying287
 a213 := Tryz.isAgg287
 z213 := Tryz.sizeOf287
 t232 := Tryz.underlying290
 a232 := Tryz.isAgg290
 z232 := Tryz.sizeOf290
 v232 := Tryz.zeroValue290
 t233 := Tryz.underlying291
 a233 := Tryz.isAgg291
 z233 := Tryz.sizeOf291
 v233 := Tryz.zeroValue291
 g17 := by kernel_rfl
 g18 := by kernel_rfl
 g19 := by kernel_rfl
 i0 := by kernel_rfl
 i2 := by kernel_rfl
 i3 := by kernel_rfl
 i4 := by kernel_rfl
 i5 := by kernel_rfl
 i9 := by kernel_rfl
 i20 := by kernel_rfl
 i37 := by kernel_rfl
 i46 := by kernel_rfl
 i51 := by kernel_rfl
 i53 := by kernel_rfl
 i171 := by kernel_rfl
 i173 := by kernel_rfl
 i212 := by kernel_rfl
 i232 := by kernel_rfl
 i233 := by kernel_rfl
 m17 := by kernel_rfl
 m18 := by kernel_rfl
 m19 := by kernel_rfl }
open Go.RowKit Go.Sort Go.Lib in
/-- strconv.Itoa: "Itoa is equivalent to FormatInt(int64(i), 10).": i's DECIMAL NUMERAL ('Lib.itoa': a '-' where i is negative, then the digits), FOR EVERY int. The world behind the call: the world before it, new blocks behind the heap (the library's 'var a [24]byte'), draws. (LAID: no walk: one application.) -/
theorem Tryz.strconv_Itoa (n : Int) (h0 : -9223372036854775808 ≤ n) (h1 : n ≤ 9223372036854775807) (w : World) (htab : Lib.TabIs Tryz.prog w "internal/strconv.uint64pow10" .u64 Lib.pow10Tab) :
  Calls Tryz.prog 232 #[.int .i64 n] w fun e w' => e = .returned (.string ⟨(Lib.itoa n).toArray⟩) ∧ ∃ k os, w' = grow (w.drewN k) os := Any.strconv_Itoa Tryz.laysM171 n h0 h1 w htab

end Go.Proofs

namespace Go.Proofs.YtngpopalpofhgaaGreatDoor
open Go.RowKit
set_option maxRecDepth 100000

theorem itoaOk_tab {w : World} (h : TabW w) (n : Int) (h0 : -9223372036854775808 ≤ n) (h1 : n ≤ 9223372036854775807) : ItoaOk w n := by
 intro w' hb
 refine (Tryz.strconv_Itoa n h0 h1 w' (h.below hb)).mono ?_
 rintro e w'' ⟨rfl, k, os, rfl⟩
 exact ⟨rfl, Lib.below_grow _ _ (Nat.le_refl _) _ _⟩
theorem gPowT : (Tryz.prog.globals[5]?).map (·.type) = some 286 := by kernel_rfl
/-- a row's condition lays the table. -/
theorem tabW_of {W : World} {l : List (String × DataW Unit)} (hL : laidMetH Tryz.prog l W) (he : (l.filter fun x => x.2.handleName?.isNone).filter (fun p => p.1 == "internal/strconv.uint64pow10") = [("internal/strconv.uint64pow10", Lib.tabData .u64 Lib.pow10Tab)]) : TabW W := by
 have h := (laidMetH_iff.1 hL).1.filter (fun p => p.1 == "internal/strconv.uint64pow10")
 rw [he] at h
 exact Lib.tabIs_of_head gPow gPowT Tryz.underlying286 Tryz.underlying227 kR kR h
end Go.Proofs.YtngpopalpofhgaaGreatDoor

namespace Go.Proofs.YtngpopalpofhgaaGreatDoor
open Go.RowKit Go.ChangeShapes Go.WideShapes Go.ChangeAt
set_option maxRecDepth 100000

theorem kidsP : Kids Tryz.prog (· < Tryz.prog.types.size) := kids_rows kR kR
theorem fullP : ∀ t e, t < Tryz.prog.types.size → Tryz.prog.underlying t = some (.slice e) → 0 < Tryz.prog.cellsOf e := slices_full_of Tryz.prog kR

section
variable {H : Type} {enc : TypeId × Value → H} {P : Program} {W W' : World}
theorem trodAll_carryW {base : Nat} {sp : Nat → Bool} {held : Bool} : ∀ {ts : List TypeId} {vs : List Value} {ds : List (DataW H)} {ps : List MemPlace}, DataW.TrodAll enc P W base sp held ts vs ds ps → (∀ p ∈ ps, W.sameAt W' p) → DataW.TrodAll enc P W' base sp held ts vs ds ps
 | [], [], [], _, h, _ => h
 | _ :: _, _ :: _, _ :: _, _, ⟨p, q, ⟨n, h1⟩, h2, e⟩, hs => ⟨p, q, ⟨n, DataW.trod_carry n _ _ _ h1 (fun x hx => hs x (by rw [e]; exact List.mem_append_left _ hx))⟩, trodAll_carryW h2 (fun x hx => hs x (by rw [e]; exact List.mem_append_right _ hx)), e⟩
theorem sameAt_below (hb : Below W.heap.size W W') {p : MemPlace} (h : p.block < W.heap.size) : W.sameAt W' p := by
 cases p with
 | cell b off => exact (hb.cell (p := ⟨b, off, none⟩) h)
 | map b => exact hb.block b h
theorem kept_below (hb : Below W.heap.size W W') (may : MemPlace → Prop) : W.keptBut W' may := by
 refine ⟨hb.os, hb.output, fun i hi => ?_⟩
 rw [hb.block i hi]
 cases h : W.heap[i]? with
 | none => rfl
 | some o =>
  cases o with
  | cells c t fr => exact ⟨rfl, rfl, rfl, fun _ _ => rfl⟩
  | map es clock => exact .inr ⟨rfl, rfl⟩
  | _ => rfl
/-- a law that returns true and turns nothing that was there. -/
theorem law_post {f : Func} {s : ChangeSpec} {args : Array Value} {ds gs : List (DataW H)} {before : List MemPlace} (hv : s.vars = []) (hr : f.resultTypes = #[4]) (hp : ∀ t ∈ f.params.toList, t < Tryz.prog.types.size)
   (hs : (s.fn H ds).results = [.lit (.bool true)] ∧ (s.fn H ds).args = ds ∧ (s.fn H ds).vars = [])
   (hW : DataW.Whole enc Tryz.prog f.params.toList s.vars false W args.toList ds gs before) (hb : Below W.heap.size W W') : s.post enc Tryz.prog f false true false false W args (.bool true) W' := by
 have hlt := hW.lt
 have hW' := hW
 obtain ⟨p, q, hA, hV, rfl, hfz, _⟩ := hW
 rw [hv] at hV
 have hgs : gs = [] ∧ q = [] := by
  cases gs with
  | nil => exact ⟨rfl, hV⟩
  | cons g gs => exact absurd hV id
 obtain ⟨rfl, rfl⟩ := hgs
 simp only [List.append_nil] at hlt hW' ⊢
 have hsame : ∀ p' ∈ p, W.sameAt W' p' := fun p' hp' => sameAt_below hb (hlt p' hp')
 refine ⟨ds, [], p, [], p, [], hW', ?_, ?_, ?_, kept_below hb _, fun h => by cases h⟩
 ·rw [List.append_nil, hs.1, hr]
  exact trodAll_cons_mk (shut_bool Tryz.underlying4 _) trodAll_mk0
 ·rw [List.append_nil, hs.2.1]
  exact DataW.TrodAll.respare kidsP fullP hp (trodAll_carryW hA hsame) (fun p' hp' => by simpa using hlt p' hp')
 ·rw [List.append_nil, hs.2.2, hv]
  rfl
end
end Go.Proofs.YtngpopalpofhgaaGreatDoor

namespace Go.Proofs.YtngpopalpofhgaaGreatDoor
open Go.RowKit Go.ChangeShapes Go.WideShapes Go.ChangeAt Go.Joins Go.Deep
set_option maxRecDepth 100000
theorem inI_wf {x : Int} (h : (Lit.int .i64 x).wf = true) : InI x := by
 simp [Lit.wf, IntKind.min, IntKind.max, IntKind.bits, IntKind.signed] at h
 unfold InI
 omega
section
variable {H : Type} {enc : TypeId × Value → H} {W : World}
theorem open_intA {r : Reach} {b0 : Nat} {v : Value} {d : DataW H} {ps : List MemPlace} (hval : Value.okWide Tryz.prog W r b0 3 v) (h : DataW.Trod enc Tryz.prog W 0 (fun _ => true) true 3 v d ps) : ∃ x : Int, v = .int .i64 x ∧ InI x := by
 obtain ⟨y, rfl⟩ := okWide_int Tryz.underlying3 hval
 obtain ⟨n, hn⟩ := h
 obtain ⟨x, e, _, w0⟩ := DataW.trod_int Tryz.underlying3 hn
 simp [Value.cells] at e
 subst e
 exact ⟨y, rfl, inI_wf w0⟩
end
end Go.Proofs.YtngpopalpofhgaaGreatDoor

namespace Go.Proofs.YtngpopalpofhgaaGreatDoor
open Go.RowKit Go.ChangeShapes Go.WideShapes Go.ChangeAt Go.Joins Go.Deep
set_option maxRecDepth 100000

section
variable {H : Type} {enc : TypeId × Value → H} {W : World}
end
end Go.Proofs.YtngpopalpofhgaaGreatDoor

namespace Go.Proofs.YtngpopalpofhgaaGreatDoor
open Go.RowKit Go.ChangeShapes Go.WideShapes Go.ChangeAt Go.Joins Go.Deep
set_option maxRecDepth 100000

section
variable {H : Type} {enc : TypeId × Value → H} {W : World}
end
end Go.Proofs.YtngpopalpofhgaaGreatDoor

namespace Go.Proofs.YtngpopalpofhgaaGreatDoor
open Go.ChangeShapes Go.WideShapes Go.ChangeAt Go.RowKit
set_option maxRecDepth 100000
theorem ownP : ownKnob Tryz.prog.godebug = none := by kernel_rfl
/-- a table's cells. -/
def flatD : Nat → DataW Unit → List Value
 | 0, _ => []
 | _ + 1, .lit (.int k v) => [.int k v]
 | n + 1, .agg l => l.flatMap (flatD n)
 | _, _ => []
def layAt (d : DataW Unit) : Obj → Obj
 | .cells _ t fr => .cells (flatD 4 d).toArray t fr
 | o => o
noncomputable def laidWorld (os : Os) : World :=
 { World.holding Tryz.prog os ⟨#[], #[], []⟩ with heap := (((((World.holding Tryz.prog os ⟨#[], #[], []⟩).heap.modify 6 (layAt Rows.laid_math_bits_deBruijn32tab)).modify 7 (layAt Rows.laid_math_bits_deBruijn64tab)).modify 5 (layAt Rows.laid_internal_strconv_uint64pow10)).modify 2 (layAt Rows.laid_unicode_utf8_acceptRanges)).modify 1 (layAt Rows.laid_unicode_utf8_first) }
end Go.Proofs.YtngpopalpofhgaaGreatDoor

namespace Go.Proofs.YtngpopalpofhgaaGreatDoor
open Go.ChangeShapes Go.WideShapes Go.ChangeAt Go.RowKit
set_option maxRecDepth 100000
theorem g1 : (laidOutB Tryz.prog) = true := by kernel_rfl
theorem g2 : (mapsRowed Tryz.prog) = true := by kernel_rfl
theorem g6 : ((Tryz.prog.stops == [])) = true := by kernel_rfl
theorem g8 : ((Tryz.prog.stopKnobs == [])) = true := by kernel_rfl
theorem g24 : (Tryz.prog.stopsHeard) = true := by kernel_rfl
theorem g25 : (Tryz.prog.mayEnter) = true := by kernel_rfl
end Go.Proofs.YtngpopalpofhgaaGreatDoor

namespace Go.Proofs.YtngpopalpofhgaaGreatDoor
set_option maxRecDepth 100000
theorem atD_map2 {l : List Int} {f : Int → Int} {i : Nat} (h : i < l.length) : atD 0 (l.map f) i = f (atD 0 l i) := by simp [atD, h]
end Go.Proofs.YtngpopalpofhgaaGreatDoor

namespace Go.Proofs.YtngpopalpofhgaaGreatDoor
set_option maxRecDepth 100000
/-- no two ever meet. -/
def AllA (m : MacV) (l : List Int) : Prop := ∀ x ∈ l, ∀ y ∈ l, x ≠ y → meetM m x y = none
structure GoodL (m : MacV) (l : List Int) (s : Int) : Prop where
 all : AllA m l
 asc : l.Pairwise (· < ·)
 rng : ∀ x ∈ l, 0 ≤ x ∧ x < s
theorem GoodL.mono {m : MacV} {l : List Int} {s t : Int} (h : GoodL m l s) (hst : s ≤ t) : GoodL m l t := ⟨h.all, h.asc, fun x hx => by have := h.rng x hx; omega⟩
end Go.Proofs.YtngpopalpofhgaaGreatDoor

namespace Go.Proofs.YtngpopalpofhgaaGreatDoor
open Go.RowKit
set_option maxHeartbeats 8000000
set_option maxRecDepth 100000
abbrev cT (x : Int × Int × Int) : Value := .agg #[.int .i64 x.1, .int .i64 x.2.1, .int .i64 x.2.2]
end Go.Proofs.YtngpopalpofhgaaGreatDoor

namespace Go.Proofs.YtngpopalpofhgaaGreatDoor
set_option maxRecDepth 100000
/-- carriers in the same slots: c of the first ones stands where τ c of the other ones does. -/
structure Ren (l l' : List Int) (τ : Int → Int) : Prop where
 len : l'.length = l.length
 at_ : ∀ c : Int, 0 ≤ c → c < l.length → (0 ≤ τ c ∧ τ c < l.length) ∧ atD 0 l' (τ c) = atD 0 l c
 mem : ∀ s, s ∈ l' → s ∈ l
theorem Ren.inj {l l' : List Int} {τ : Int → Int} (h : Ren l l' τ) (hn : l.Nodup) {a b : Int} (a0 : 0 ≤ a) (a1 : a < l.length) (b0 : 0 ≤ b) (b1 : b < l.length) (e : τ a = τ b) : a = b := by
 have h1 := (h.at_ a a0 a1).2
 have h2 := (h.at_ b b0 b1).2
 rw [e, h2] at h1
 obtain ⟨i, rfl⟩ : ∃ i : Nat, a = i := ⟨a.toNat, by omega⟩
 obtain ⟨j, rfl⟩ : ∃ j : Nat, b = j := ⟨b.toNat, by omega⟩
 rcases Nat.lt_trichotomy i j with hij | hij | hij
 ·exact absurd h1 (by first | exact nodup_ne hn hij (by omega) | exact (nodup_ne hn hij (by omega)).symm)
 ·rw [hij]
 ·exact absurd h1 (by first | exact nodup_ne hn hij (by omega) | exact (nodup_ne hn hij (by omega)).symm)
theorem Ren.later {m : MacV} {l l' : List Int} {τ : Int → Int} (h : Ren l l' τ) (j : Nat) : Ren (atL m l j) (atL m l' j) τ := by
 have e : ∀ L : List Int, (atL m L j).length = L.length := fun L => by unfold atL; rw [List.length_map]
 refine ⟨by rw [e, e, h.len], fun c c0 c1 => ?_, fun s hs => ?_⟩
 ·rw [e] at c1 ⊢
  obtain ⟨⟨a, b⟩, d⟩ := h.at_ c c0 c1
  refine ⟨⟨a, b⟩, ?_⟩
  have hl := h.len
  obtain ⟨i, hi⟩ : ∃ i : Nat, c = i := ⟨c.toNat, by omega⟩
  obtain ⟨k, hk⟩ : ∃ k : Nat, τ c = k := ⟨(τ c).toNat, by omega⟩
  rw [hk] at d b ⊢
  subst hi
  unfold atL
  rw [atD_map2 (by omega), atD_map2 (by omega), d]
 ·unfold atL at hs ⊢
  obtain ⟨y, hy, rfl⟩ := List.mem_map.1 hs
  exact List.mem_map.2 ⟨y, h.mem y hy, rfl⟩
section
variable {m : MacV} {l l' : List Int} {τ : Int → Int} {n : Int}
end
end Go.Proofs.YtngpopalpofhgaaGreatDoor

namespace Go.Proofs.YtngpopalpofhgaaGreatDoor
open Go.RowKit
set_option maxHeartbeats 1000000
set_option maxRecDepth 100000

def headR (m k : Nat) : List Int := (List.replicate k (headK m)).flatten
theorem headR_succ (m k : Nat) : headR m (k + 1) = headR m k ++ headK m := by unfold headR; rw [List.replicate_succ', List.flatten_append]; simp
theorem headR_len (m : Nat) : ∀ k, (headR m k).length = m * k
 | 0 => by simp [headR]
 | k + 1 => by rw [headR_succ, List.length_append, headR_len m k, headK_len, Nat.mul_succ]
theorem headR_cyc (m : Nat) : ∀ k, headR m k = cyc (headK m) (m * k)
 | 0 => by simp [headR, cyc]
 | k + 1 => by
   have e : cyc (headK m) m = headK m := by have := cyc_once (headK m); rwa [headK_len] at this
   rw [headR_succ, headR_cyc m k, Nat.mul_succ, cyc_add _ _ _ (by rw [headK_len]; exact Nat.mul_mod_right _ _), e]

end Go.Proofs.YtngpopalpofhgaaGreatDoor

namespace Go.Proofs.YtngpopalpofhgaaGreatDoor
open Go.RowKit
set_option maxHeartbeats 1000000
set_option maxRecDepth 100000

theorem row5_app : ∀ (a b st : List Int), row5 st (a ++ b) = row5 (row5 st a) b
 | [], _, _ => rfl
 | x :: r, b, st => by rw [List.cons_append, row5, row5]; exact row5_app r b _
def headGo (m : Nat) : Nat → List Int → Nat → Bool
 | 0, _, _ => true
 | f + 1, st, y => (decide (200 < m * (y + 1)) || decide ((cycK (invL (row5 st (headK m))) (m + 1)).length = Nat.gcd (m + 1) (y + 1))) && headGo m f (row5 st (headK m)) (y + 1)
theorem heads_cyc : ((List.range 12).all fun m => headGo m 30 (idL (m + 1)) 0) = true := by kernel_rfl
theorem headGo_spec (m : Nat) : ∀ (f y : Nat), headGo m f (row5 (idL (m + 1)) (headR m y)) y = true → ∀ z, y < z → z ≤ y + f → m * z ≤ 200 → (cycK (invL (row5 (idL (m + 1)) (headR m z))) (m + 1)).length = Nat.gcd (m + 1) z
 | 0, y, _, z, h1, h2, _ => by omega
 | f + 1, y, h, z, h1, h2, h3 => by
   rw [headGo, ← row5_app, ← headR_succ, Bool.and_eq_true] at h
   by_cases e : z = y + 1
   · subst e
     have := h.1
     rw [Bool.or_eq_true, decide_eq_true_eq, decide_eq_true_eq] at this
     rcases this with h4 | h4
     · omega
     · exact h4
   · exact headGo_spec m f (y + 1) h.2 z (by omega) (by omega) h3
theorem head_cyc {m y : Nat} (hm : m ≤ 11) (h1 : 0 < y) (h2 : y ≤ 30) (h3 : m * y ≤ 200) : (cycK (invL (row5 (idL (m + 1)) (headR m y))) (m + 1)).length = Nat.gcd (m + 1) y := by
 have h := List.all_eq_true.1 heads_cyc m (List.mem_range.2 (by omega))
 refine headGo_spec m 30 0 ?_ y h1 (by omega) h3
 have : headR m 0 = [] := rfl
 rw [this]; exact h
end Go.Proofs.YtngpopalpofhgaaGreatDoor

namespace Go.Proofs.YtngpopalpofhgaaGreatDoor
open Go.RowKit
set_option maxHeartbeats 1000000
set_option maxRecDepth 100000

theorem headA_abs (k : Nat) : absI (headA k) = (k : Int) + 1 := by
 unfold headA absI
 have h : (k : Int) % 2 = 0 ∨ (k : Int) % 2 = 1 := by omega
 rcases h with h | h <;> rw [h] <;> split <;> omega
theorem headR_fit (m : Nat) : ∀ (y : Nat), ∀ x ∈ headR m y, 1 ≤ absI x ∧ absI x < (m : Int) + 1
 | 0, x, hx => by simp [headR] at hx
 | y + 1, x, hx => by
   rw [headR_succ] at hx
   rcases List.mem_append.1 hx with hx | hx
   · exact headR_fit m y x hx
   · obtain ⟨k, hk, rfl⟩ := List.mem_map.1 hx
     have := List.mem_range.1 hk
     rw [headA_abs]; omega
theorem wordE_fit {n : Int} {l : List Int} (h1 : 1 ≤ n) (h2 : n ≤ 12) (hl : l.length ≤ 200) (hf : ∀ x ∈ l, 1 ≤ absI x ∧ absI x < n) : wordE n l = 0 := by
 rw [wordE_any (by unfold strandsE; rw [if_neg (by omega)]) hl]
 rw [if_neg]
 intro h
 obtain ⟨x, hx, hb⟩ := List.any_eq_true.1 h
 obtain ⟨a, b⟩ := hf x hx
 unfold outB at hb
 unfold absI at a b
 simp at hb
 split at a <;> split at b <;> omega
end Go.Proofs.YtngpopalpofhgaaGreatDoor

namespace Go.Proofs.YtngpopalpofhgaaGreatDoor
open Go.RowKit
set_option maxHeartbeats 8000000
set_option maxRecDepth 100000
theorem way_le {L : List PassV} {p : PassV} (h : p ∈ L) : p.way.size ≤ (lettersAll L).length := by
 induction L with
 | nil => cases h
 | cons q L ih =>
  have e : lettersAll (q :: L) = lettersL q ++ lettersAll L := by simp [lettersAll]
  rw [e, List.length_append, lettersL_len]
  rcases List.mem_cons.1 h with rfl | h
  ·omega
  ·have := ih h; omega
end Go.Proofs.YtngpopalpofhgaaGreatDoor

namespace Go.Proofs.YtngpopalpofhgaaGreatDoor
open Go.RowKit
set_option maxHeartbeats 1000000
set_option maxRecDepth 100000
def lastL (L : List Int) (p : Int × Int) : List Int := (L.set p.1.toNat 1).set p.2.toNat (-1)
def altC : List Int → Int → List (Int × Int) → Int
 | _, least, [] => least
 | L, least, p :: r => altC (lastL L p) (altLeast (atD 0 L) least p) r
theorem alt_eq {n : Nat} : ∀ (cs : List (Int × Int)) (L : List Int) (f : Int → Int) (least : Int), (∀ s : Int, 0 ≤ s → s ≤ n → f s = atD 0 L s) → L.length = n + 1 → (∀ p ∈ cs, (0 ≤ p.1 ∧ p.1 ≤ n) ∧ (0 ≤ p.2 ∧ p.2 ≤ n) ∧ p.1 ≠ p.2) → altGo f least cs = altC L least cs
 | [], _, _, _, _, _, _ => rfl
 | p :: r, L, f, least, h, hl, hp => by
   obtain ⟨a, b, c⟩ := hp p (by simp)
   have e : altLeast f least p = altLeast (atD 0 L) least p := by
     unfold altLeast
     rw [h _ a.1 a.2, h _ b.1 b.2]
   rw [altGo, altC, e]
   refine alt_eq r _ _ _ (fun s s0 s1 => ?_) (by unfold lastL; simp [hl]) (fun q hq => hp q (by simp [hq]))
   unfold altLast lastL
   rw [atD_set b.1 (by rw [List.length_set]; omega) s0, atD_set a.1 (by omega) s0]
   by_cases h1 : s = p.1
   · rw [if_pos h1, if_neg (fun e => c (h1.symm.trans e)), if_pos h1]
   · rw [if_neg h1]
     by_cases h2 : s = p.2
     · rw [if_pos h2, if_pos h2]
     · rw [if_neg h2, if_neg h2, if_neg h1]; exact h s s0 s1
def pairIn (n : Int) (p : Int × Int) : Bool := (decide (0 ≤ p.1) && decide (p.1 ≤ n)) && (decide (0 ≤ p.2) && decide (p.2 ≤ n)) && !(decide (p.1 = p.2))
def headAlt (x y : Nat) : Bool := (fun cs => cs.all (pairIn x) && decide (altC (List.replicate (x + 1) 0) 0 cs = 0)) (rowL x (headR (x - 1) y)).2
theorem heads_alt : ((List.range 9).all fun x => (List.range 13).all fun y => (decide (x < 2) || decide (y < 2) || headAlt x y)) = true := by kernel_rfl
theorem head_word {x y : Nat} (h1 : 2 ≤ x) (h2 : x ≤ 8) (h3 : 2 ≤ y) (h4 : y ≤ 12) : wordE (x : Int) (headR (x - 1) y) = 0 := by
 have hm : (x - 1) * y ≤ 7 * 12 := Nat.mul_le_mul (by omega) h4
 refine wordE_fit (by omega) (by omega) (by rw [headR_len]; omega) fun z hz => ?_
 have := headR_fit (x - 1) y z hz
 omega
theorem head_is {x y : Nat} (h1 : 2 ≤ x) (h2 : x ≤ 8) (h3 : 2 ≤ y) (h4 : y ≤ 12) : headE (x : Int) (y : Int) = 0 ∧ headL (x : Int) (y : Int) = headR (x - 1) y := by
 have hm : (x - 1) * y ≤ 7 * 12 := Nat.mul_le_mul (by omega) h4
 have hx : ((x : Int) - 1) * (y : Int) = (((x - 1) * y : Nat) : Int) := by rw [Int.natCast_mul]; congr 1; omega
 have he : headE (x : Int) (y : Int) = 0 := by
  have h0 : matE (x : Int) (y : Int) = 0 := by unfold matE; rw [if_neg (by omega)]
  unfold headE
  rw [h0, if_neg (by simp), if_neg (by rw [hx]; omega)]
 refine ⟨he, ?_⟩
 unfold headL
 rw [if_pos he, headR_cyc]
 congr 1
 ·congr 1; omega
 ·congr 1; omega
theorem head_alt {x y : Nat} (h1 : 2 ≤ x) (h2 : x ≤ 8) (h3 : 2 ≤ y) (h4 : y ≤ 12) : altB (x : Int) (headR (x - 1) y) = 0 := by
 have h := List.all_eq_true.1 (List.all_eq_true.1 heads_alt x (List.mem_range.2 (by omega))) y (List.mem_range.2 (by omega))
 have e1 : decide (x < 2) = false := by simp; omega
 have e2 : decide (y < 2) = false := by simp; omega
 rw [e1, e2, Bool.false_or, Bool.false_or] at h
 unfold headAlt at h
 dsimp only at h
 rw [Bool.and_eq_true, List.all_eq_true, decide_eq_true_eq] at h
 have hw := head_word h1 h2 h3 h4
 unfold altB crossL
 rw [if_pos hw, if_pos hw]
 rw [show (x : Int).toNat = x by omega, alt_eq (n := x) _ (List.replicate (x + 1) 0) (fun _ => 0) 0 (fun s s0 s1 => ?_) (by simp) (fun p hp => ?_)]
 ·exact h.2
 ·unfold atD
  rw [List.getD_eq_getElem?_getD, List.getElem?_replicate, if_pos (by omega)]
  rfl
 ·have := h.1 p hp
  simp only [pairIn, Bool.and_eq_true, decide_eq_true_eq, Bool.not_eq_true', decide_eq_false_iff_not] at this
  exact ⟨this.1.1, this.1.2, this.2⟩
def two5 (k : Nat) : List PassV := senK (k : Int) ((k : Int) / 2) 2
def wt5 (k : Nat) : List Int := lettersAll (two5 k)
def sen5 (k : Nat) : Bool := decide (passesE (k : Int) (two5 k) = 0) && decide (permE (endsP (k : Int) (two5 k)) = 0) && decide (permE (invL (row5 (idL k) (wt5 k))) = 0) && decide (periodN (endsP (k : Int) (two5 k)) = periodN (invL (row5 (idL k) (wt5 k)))) && (wt5 k).all (fun x => decide (1 ≤ absI x) && decide (absI x < k)) && decide ((wt5 k).length ≤ 6) && decide (0 < (wt5 k).length)
def senS (k s : Nat) : Bool := decide (passesE (k : Int) (senK (k : Int) ((k : Int) / 2) (2 * s)) = 0) && decide (lettersAll (senK (k : Int) ((k : Int) / 2) (2 * s)) = cyc (wt5 k) ((wt5 k).length * s))
theorem sens_ok : ((List.range 7).all fun k => (decide (k < 2) || (sen5 k && (List.range 6).all (senS k)))) = true := by kernel_rfl
structure Sen5 (k : Nat) : Prop where
 p0 : passesE (k : Int) (two5 k) = 0
 e0 : permE (endsP (k : Int) (two5 k)) = 0
 q0 : permE (invL (row5 (idL k) (wt5 k))) = 0
 per : periodN (endsP (k : Int) (two5 k)) = periodN (invL (row5 (idL k) (wt5 k)))
 fit : ∀ x ∈ wt5 k, 1 ≤ absI x ∧ absI x < (k : Int)
 few : (wt5 k).length ≤ 6
 some : 0 < (wt5 k).length
 all : ∀ s, s ≤ 5 → passesE (k : Int) (senK (k : Int) ((k : Int) / 2) (2 * s)) = 0 ∧ lettersAll (senK (k : Int) ((k : Int) / 2) (2 * s)) = cyc (wt5 k) ((wt5 k).length * s)
theorem sen5_ok {k : Nat} (h1 : 2 ≤ k) (h2 : k ≤ 6) : Sen5 k := by
 have h := List.all_eq_true.1 sens_ok k (List.mem_range.2 (by omega))
 have e1 : decide (k < 2) = false := by simp; omega
 rw [e1, Bool.false_or, Bool.and_eq_true, List.all_eq_true] at h
 obtain ⟨h, hs⟩ := h
 unfold sen5 at h
 simp only [Bool.and_eq_true, decide_eq_true_eq, List.all_eq_true] at h
 obtain ⟨⟨⟨⟨⟨⟨a, b⟩, c⟩, d⟩, e⟩, f⟩, g⟩ := h
 refine ⟨a, b, c, d, e, f, g, fun s hs5 => ?_⟩
 have := hs s (List.mem_range.2 (by omega))
 unfold senS at this
 simpa only [Bool.and_eq_true, decide_eq_true_eq] using this
end Go.Proofs.YtngpopalpofhgaaGreatDoor
