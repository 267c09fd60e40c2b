/- Contracts and plain facts that the claim uses (Gm1 Gm OpW). Conditions: as each one states. -/
import Derived.RangeFuncNested
import Derived.RangeFuncBound
import Derived.RangeFuncCalls
import Derived.RangeFuncLeaves
import Derived.RangeFuncFrom
import Derived.Shelf.Abstract
import Derived.Shelf.RegionOpen
import Derived.WalkKit
import Derived.OwnWalkIn
import Derived.TacticsInMore
import Derived.LoopNIn
import Derived.LoopIn
import Derived.Test.YtngpopalpofhgaaGreatDoorProg
import Derived.WalkSpells
import Derived.Maps.AppendAt
import Derived.Deep.Quiet
import Derived.Maps.Own
import Derived.Maps.OwnSet
import Derived.Maps.Views
import Derived.WalkLawsBesides
import Derived.Laws.EntriesVeiled
import Derived.Deep.QuietTactic
import Derived.BigQuiet
import Derived.StillTail
import Derived.Laws.Tables
import Derived.Deep.RegionHeld3
import Derived.Shelf.Strings.Trim
import Derived.Shelf.Strings.SlTrimAscii
import Derived.Shelf.Strings.Repeat
import Derived.Shelf.Strings.OnBuilder
import Derived.Shelf.Strconv.Itoa1
import Derived.Shelf.Strconv.Itoa3
import Derived.Shelf.LaysM
import Derived.Ground.Names2Prog
import Derived.Lib.OthersKept
import Derived.Deep.AppendLies
import Derived.Deep.RegionHeldLaw
import Derived.Deep.RegionLaw
import Derived.IntWalk
import Derived.Laws.CopyOwn
import Derived.BigRegion
import Derived.ChangeAlike
import Derived.Shelf.Bits.Mul64
import Derived.Lib.ItoaLen
import Derived.Lib.ItoaMem
import Derived.Sort.LoopGhostIn
import Derived.Maps.RangeWalk
import Derived.Sort.QuietThIn
import Derived.Maps.Ext
import Derived.Deep.LoopGhost
import Derived.Lib.Split
import Derived.Lib.AtoiAll
import Derived.Lib.AppendIntMem
import Derived.Lib.SmallJoins
import Derived.LaidSub
import Derived.Lib.LaidTab
import Derived.Lib.AtoiErrMem
import Derived.Stop.LaidErr
import Derived.ReadAgain
import Derived.ChangeSlices
import Derived.OpenShut
import Derived.ProofKit
import Derived.Deep.DeepHandedRow
import Derived.Deep.SlicePairs
import Derived.Laws.IdiomStrings
import Derived.WideKeyPair
import Derived.Test.YtngpopalpofhgaaGreatDoorXz01
import Derived.Test.YtngpopalpofhgaaGreatDoorXz02
import Derived.Test.YtngpopalpofhgaaGreatDoorXz03
import Derived.Test.YtngpopalpofhgaaGreatDoorXz04
import Derived.Test.YtngpopalpofhgaaGreatDoorXz05
import Derived.Test.YtngpopalpofhgaaGreatDoorXz06
import Derived.Test.YtngpopalpofhgaaGreatDoorXz07
import Derived.Test.YtngpopalpofhgaaGreatDoorXz08
import Derived.Test.YtngpopalpofhgaaGreatDoorXz09
import Derived.Test.YtngpopalpofhgaaGreatDoorY7101
import Derived.Test.YtngpopalpofhgaaGreatDoorY7102
set_option linter.all false

namespace Go.Proofs.YtngpopalpofhgaaGreatDoor
open Go.RowKit
set_option maxHeartbeats 8000000
set_option maxRecDepth 100000
def BoxAt (B : Nat) (o : Obj) (w : World) : Prop := w.heap[B]? = some o
theorem BoxAt.below {B : Nat} {o : Obj} {w w' : World} (h : BoxAt B o w) (hb : Below w.heap.size w w') : BoxAt B o w' := (hb.block B (Array.getElem?_eq_some_iff.1 h).1).trans h
theorem BoxAt.cell {B : Nat} {cs : Array Value} {t : TypeId} {fr : Nat × Nat} {w : World} (h : BoxAt B (.cells cs t fr) w) (j : Nat) {u : Value} (hu : cs[j]? = some u) : w.cell? ⟨B, j, none⟩ = some u := by
 have h2 : w.heap[B]? = some (.cells cs t fr) := h
 simp [World.cell?, h2, hu]
theorem gm_main (x y k s : Int) (w : World) (hT : TabW w) (hx2 : 2 ≤ x) (hx8 : x ≤ 8) (hy2 : 2 ≤ y) (hy12 : y ≤ 12) (hk2 : 2 ≤ k) (hk6 : k ≤ 6) (hs1 : 1 ≤ s) (hs5 : s ≤ 5) :
  Calls Tryz.prog 6 #[.int .i64 x, .int .i64 y, .agg #[.int .i64 k, .int .i64 s]] w fun r w' => r = .returned (.bool true) ∧ Below w.heap.size w w' := by
 obtain ⟨X, rfl⟩ : ∃ X : Nat, x = X := ⟨x.toNat, by omega⟩
 obtain ⟨Y, rfl⟩ : ∃ Y : Nat, y = Y := ⟨y.toNat, by omega⟩
 obtain ⟨K, rfl⟩ : ∃ K : Nat, k = K := ⟨k.toNat, by omega⟩
 obtain ⟨S, rfl⟩ : ∃ S : Nat, s = S := ⟨s.toNat, by omega⟩
 have hx : 2 ≤ X ∧ X ≤ 8 := by omega
 have hy : 2 ≤ Y ∧ Y ≤ 12 := by omega
 have hk : 2 ≤ K ∧ K ≤ 6 := by omega
 have hs : 1 ≤ S ∧ S ≤ 5 := by omega
 obtain ⟨eHE, eHL⟩ := head_is hx.1 hx.2 hy.1 hy.2
 have hhw := head_word hx.1 hx.2 hy.1 hy.2
 have hha := head_alt hx.1 hx.2 hy.1 hy.2
 have hhl : (headR (X - 1) Y).length = (X - 1) * Y := headR_len _ _
 have hmul : (X - 1) * Y ≤ 7 * 12 := Nat.mul_le_mul (by omega) hy.2
 have hmE : matE (X : Int) (Y : Int) = 0 := by
  unfold headE at eHE
  by_cases h : matE (X : Int) (Y : Int) = 0
  ·exact h
  ·rw [if_pos h] at eHE; exact eHE
 have hcy : (cycK (permB X (headR (X - 1) Y)) X).length = Nat.gcd X Y := by
  have h := head_cyc (m := X - 1) (y := Y) (by omega) (by omega) (by omega) (by omega)
  rw [show X - 1 + 1 = X by omega] at h
  exact h
 have h5 := sen5_ok hk.1 hk.2
 obtain ⟨hSp, hSl⟩ := h5.all S hs.2
 have e2E : senE (K : Int) 2 = 0 := by unfold senE; rw [if_neg (by omega)]
 have e2L : senL (K : Int) 2 = two5 K := by unfold senL; rw [if_pos e2E]; rfl
 have eAE : senE (K : Int) (2 * (S : Int)) = 0 := by unfold senE; rw [if_neg (by omega)]
 have eAL : senL (K : Int) (2 * (S : Int)) = senK (K : Int) ((K : Int) / 2) (2 * S) := by
  unfold senL
  rw [if_pos eAE]
  congr 1
 have hfew := h5.few
 have hsome := h5.some
 have hcl : (cyc (wt5 K) ((wt5 K).length * S)).length = (wt5 K).length * S := cyc_len _ _
 have hms : (wt5 K).length * S ≤ 6 * 5 := Nat.mul_le_mul hfew hs.2
 have eWE : wordErr (K : Int) (two5 K) = 0 := by unfold wordErr; rw [if_neg (fun h => h h5.p0), if_neg (by have : (lettersAll (two5 K)).length = (wt5 K).length := rfl; omega)]
 have eWL : wordL (K : Int) (two5 K) = wt5 K := by unfold wordL; rw [if_pos eWE]; rfl
 have eVE : wordErr (K : Int) (senK (K : Int) ((K : Int) / 2) (2 * S)) = 0 := by unfold wordErr; rw [if_neg (fun h => h hSp), if_neg (by rw [hSl]; omega)]
 have eVL : wordL (K : Int) (senK (K : Int) ((K : Int) / 2) (2 * S)) = cyc (wt5 K) ((wt5 K).length * S) := by unfold wordL; rw [if_pos eVE, hSl]
 have hwt : wordE (K : Int) (wt5 K) = 0 := wordE_fit (by omega) (by omega) (by omega) h5.fit
 obtain ⟨hip, hpl⟩ := permB_ok hwt
 have hpB : permB K (wt5 K) = invL (row5 (idL K) (wt5 K)) := rfl
 have hp0 : permE (permB K (wt5 K)) = 0 := h5.q0
 have hsz := period_small hip (by omega)
 have ePE : perS (permB K (wt5 K)) = itoaB (periodN (permB K (wt5 K))) := by unfold perS; rw [if_pos hp0]
 have eRE : rptE (K : Int) (two5 K) = 0 := by unfold rptE; rw [if_pos h5.p0, h5.e0]
 have eRB : rptB (K : Int) (two5 K) = itoaB (periodN (permB K (wt5 K))) := by
  unfold rptB perS
  rw [if_pos h5.p0, if_pos h5.e0, h5.per]
  rfl
 have hways : ∀ (L : List PassV), (lettersAll L).length ≤ 30 → ∀ p ∈ L, p.way.size ≤ 1048576 := fun L h p hp => by have := way_le hp; omega
 have CH := fun w => Head_any (X : Int) (Y : Int) w
 have CC := fun (a : Option Addr) (c : Nat) (w : World) (h : Ints w a c (headR (X - 1) Y)) => bComponents_any X a c (headR (X - 1) Y) w h hhw
 have CN := fun w => Strands_any (X : Int) (Y : Int) w
 have CA := fun (a : Option Addr) (c : Nat) (w : World) (h : Ints w a c (headR (X - 1) Y)) => Alternates_any (X : Int) a c (headR (X - 1) Y) w h (by omega)
 have C2 := fun w => Sennit_any (K : Int) 2 w
 have CS := fun w => Sennit_any (K : Int) (2 * (S : Int)) w
 have CW := fun (a : Option Addr) (c : Nat) (w : World) (h : PassesR w a c (two5 K)) => Word_any (K : Int) a c (two5 K) w h (by unfold two5; rw [senK_len]; omega) (hways _ (by have : (lettersAll (two5 K)).length = (wt5 K).length := rfl; omega))
 have CV := fun (a : Option Addr) (c : Nat) (w : World) (h : PassesR w a c (senK (K : Int) ((K : Int) / 2) (2 * S))) => Word_any (K : Int) a c _ w h (by rw [senK_len]; omega) (hways _ (by rw [hSl]; omega))
 have CP := fun (a : Option Addr) (c : Nat) (w : World) (h : Ints w a c (wt5 K)) => bPower_any (K : Int) a c S (wt5 K) w h hwt hsome (by omega) (by omega) (by omega)
 have CO := fun (a : Option Addr) (c : Nat) (w : World) (h : Ints w a c (wt5 K)) => bPerm_any K a c (wt5 K) w h hwt
 have CR := fun (a : Option Addr) (c : Nat) (w : World) (h : PassesR w a c (two5 K)) (hT : TabW w) => Repeat_passes (K : Int) a c (two5 K) w h (by unfold two5; rw [senK_len]; omega) (hways _ (by have : (lettersAll (two5 K)).length = (wt5 K).length := rfl; omega)) (fun _ _ => by rw [h5.per]; exact itoaOk_tab hT _ (by omega) (by have := hsz; rw [hpB] at this; omega))
 have CT := fun (a : Option Addr) (c : Nat) (w : World) (h : Ints w a c (permB K (wt5 K))) (hT : TabW w) => Period_any a c (permB K (wt5 K)) w h (isP_inI hip (by omega)) (by omega) (fun _ => itoaOk_tab hT _ (by omega) (by omega))
 rw [eHE, eHL] at CH
 rw [hcy] at CC
 have hg : (Int.gcd (X : Int) (Y : Int)) = Nat.gcd X Y := rfl
 rw [hmE, if_pos rfl, hg] at CN
 rw [hha, hhw] at CA
 rw [e2E, e2L] at C2
 rw [eAE, eAL] at CS
 rw [eWE, eWL] at CW
 rw [eVE, eVL] at CV
 rw [eRE, eRB] at CR
 rw [ePE, hp0, hpl] at CT
 obtain ⟨Q, hQ⟩ : ∃ Q, Q = permB K (wt5 K) := ⟨_, rfl⟩
 rw [← hQ] at CO CR CT hpl
 obtain ⟨Z, hZ⟩ : ∃ Z, Z = itoaB ((periodN Q : Nat) : Int) := ⟨_, rfl⟩
 rw [← hZ] at CR CT
 obtain ⟨W, hW⟩ : ∃ W, W = headR (X - 1) Y := ⟨_, rfl⟩
 rw [← hW] at CH CC CA hhl
 obtain ⟨g, hg2⟩ : ∃ g, g = Nat.gcd X Y := ⟨_, rfl⟩
 rw [← hg2] at CC CN
 obtain ⟨P2, hP2⟩ : ∃ P2, P2 = two5 K := ⟨_, rfl⟩
 rw [← hP2] at C2 CW CR
 obtain ⟨PA, hPA⟩ : ∃ PA, PA = senK (K : Int) ((K : Int) / 2) (2 * S) := ⟨_, rfl⟩
 rw [← hPA] at CS CV
 obtain ⟨U, hU⟩ : ∃ U, U = cyc (wt5 K) ((wt5 K).length * S) := ⟨_, rfl⟩
 rw [← hU] at CV CP hcl
 have hUl : U.length ≤ 100 := by omega
 obtain ⟨V, hV⟩ : ∃ V, V = wt5 K := ⟨_, rfl⟩
 rw [← hV] at CW CP CO
 obtain ⟨S2, hS2⟩ : ∃ S2, S2 = 2 * (S : Int) := ⟨_, rfl⟩
 rw [← hS2] at CS
 have hw1 : IntKind.i64.wrap ((X : Int) - 1) = ((X - 1 : Nat) : Int) := by rw [show (X : Int) - 1 = ((X - 1 : Nat) : Int) by omega]; exact IntWalk.i64_in _ (by omega)
 obtain ⟨X1, hX1⟩ : ∃ X1 : Int, X1 = ((X - 1 : Nat) : Int) := ⟨_, rfl⟩
 rw [← hX1] at hw1
 have hw2 : IntKind.i64.wrap (X1 * (Y : Int)) = ((W.length : Nat) : Int) := by
  rw [hX1, hhl]
  push_cast
  exact IntWalk.i64_in _ (by have : (((X - 1) * Y : Nat) : Int) ≤ 7 * 12 := by exact_mod_cast hmul
                             push_cast at this
                             constructor
                             · have : (0 : Int) ≤ ((X - 1 : Nat) : Int) * (Y : Int) := Int.mul_nonneg (by omega) (by omega)
                               omega
                             · omega)
 have hw3 : IntKind.i64.wrap (2 * (S : Int)) = S2 := by rw [hS2]; exact IntWalk.i64_in _ (by omega)
 have dW : ((W.length : Int) != (W.length : Int)) = false := by simp
 have dg : ((g : Int) != (g : Int)) = false := by simp
 have HH := hid CH; have HC := hid CC; have HN := hid CN; have HA := hid CA; have H2 := hid C2; have HS := hid CS; have HW := hid CW; have HV := hid CV; have HP := hid CP; have HO := hid CO; have HR := hid CR; have HT := hid CT; have HQL := hid hpl; have HUL := hid hUl
 have HGP := hid grommetPlaits_any
 have d1 : decide ((X : Int) < 2) = false := decide_eq_false (by omega)
 have d2 : decide (8 < (X : Int)) = false := decide_eq_false (by omega)
 have d3 : decide ((Y : Int) < 2) = false := decide_eq_false (by omega)
 have d4 : decide (12 < (Y : Int)) = false := decide_eq_false (by omega)
 have d5 : decide ((K : Int) < 2) = false := decide_eq_false (by omega)
 have d6 : decide (6 < (K : Int)) = false := decide_eq_false (by omega)
 have d7 : decide ((S : Int) < 1) = false := decide_eq_false (by omega)
 have d8 : decide (5 < (S : Int)) = false := decide_eq_false (by omega)
 clear CH CC CN CA C2 CS CW CV CP CO CR CT hpl hUl hS2 hX1 hV hU hPA hP2 hg2 hg hW hZ hQ hways eRB eRE ePE hsz hp0 hpB hip hwt eVL eVE eWL eWE hms hcl hsome hfew eAL eAE e2L e2E hSl hSp h5 hcy hmE hmul hhl hha hhw eHL eHE hx hy hk hs
 have hS0 := (SL.nil w).box (.cells #[.int .i64 (K : Int), .int .i64 (S : Int)] 67)
 have c0 := hS0.cell 0 rfl 0 rfl
 have c1 := hS0.cell 0 rfl 1 rfl
 go_enter Tryz.func6, Tryz.ntmps6
 go_wp2_with fail
 refine (HH.out _).mono ?_
 rintro e w1 ⟨aH, cH, rfl, hH, _, b1⟩
 have hB : BoxAt w.heap.size (.cells #[.int .i64 (K : Int), .int .i64 (S : Int)] 67) w1 := BoxAt.below (heap_alloc_new w _) b1
 have hTw : TabW w1 := hT.below (bnext (bal (Below.refl _ _) _) b1)
 clear hS0 c0 c1 hT
 replace b1 := bnext (bal (Below.refl _ _) _) b1
 have t1 := b1
 clear b1
 go_wp2_with fail
 refine (HC.out aH cH _ hH).mono ?_
 rintro e w2 ⟨⟨aC, cC⟩, rfl, b2⟩
 replace hB := hB.below b2
 replace hH := hH.below b2
 replace hTw := hTw.below b2
 have t2 := bnext t1 b2
 clear t1 b2
 go_wp2_with fail
 refine (HN.out _).mono ?_
 rintro e w3 ⟨rfl, b3⟩
 replace hB := hB.below b3
 replace hH := hH.below b3
 replace hTw := hTw.below b3
 have t3 := bnext t2 b3
 clear t2 b3
 go_wp2_with fail
 refine (HA.out aH cH _ hH).mono ?_
 rintro e w4 ⟨rfl, b4⟩
 replace hB := hB.below b4
 replace hH := hH.below b4
 replace hTw := hTw.below b4
 have t4 := bnext t3 b4
 clear t3 b4
 clear hH
 have c0 : w4.cell? ⟨w.heap.size, 0, none⟩ = some (.int .i64 (K : Int)) := hB.cell 0 rfl
 have c1 : w4.cell? ⟨w.heap.size, 1, none⟩ = some (.int .i64 (S : Int)) := hB.cell 1 rfl
 go_wp2_with fail
 refine (H2.out _).mono ?_
 rintro e w5 ⟨aT, cT, rfl, hT, _, b5⟩
 replace hB := hB.below b5
 replace hTw := hTw.below b5
 have t5 := bnext t4 b5
 clear t4 b5
 clear c0 c1 d1 d2 d3 d4 d5 d6 d7 d8 dg dW hw1 hw2
 have c0 : w5.cell? ⟨w.heap.size, 0, none⟩ = some (.int .i64 (K : Int)) := hB.cell 0 rfl
 have c1 : w5.cell? ⟨w.heap.size, 1, none⟩ = some (.int .i64 (S : Int)) := hB.cell 1 rfl
 go_wp2_with fail
 refine (HS.out _).mono ?_
 rintro e w6 ⟨aA, cA, rfl, hA, _, b6⟩
 replace hB := hB.below b6
 replace hTw := hTw.below b6
 replace hT := hT.below b6
 have t6 := bnext t5 b6
 clear t5 b6
 clear c0 c1 hw3
 go_wp2_with fail
 refine (HW.out aT cT _ hT).mono ?_
 rintro e w7 ⟨aW, cW, rfl, hW, _, b7⟩
 replace hB := hB.below b7
 replace hTw := hTw.below b7
 replace hT := hT.below b7
 replace hA := hA.below b7
 have t7 := bnext t6 b7
 clear t6 b7
 go_wp2_with fail
 refine (HV.out aA cA _ hA).mono ?_
 rintro e w8 ⟨aV, cV, rfl, hV, _, b8⟩
 replace hB := hB.below b8
 replace hTw := hTw.below b8
 replace hT := hT.below b8
 replace hA := hA.below b8
 replace hW := hW.below b8
 have t8 := bnext t7 b8
 clear t7 b8
 clear hA
 have c0 : w8.cell? ⟨w.heap.size, 0, none⟩ = some (.int .i64 (K : Int)) := hB.cell 0 rfl
 have c1 : w8.cell? ⟨w.heap.size, 1, none⟩ = some (.int .i64 (S : Int)) := hB.cell 1 rfl
 go_wp2_with fail
 refine (HP.out aW cW _ hW).mono ?_
 rintro e w9 ⟨v9, rfl, ho9, b9⟩
 obtain ⟨aP, cP, rfl, hP, _, _⟩ := ho9.reps
 clear ho9
 replace hB := hB.below b9
 replace hTw := hTw.below b9
 replace hT := hT.below b9
 replace hW := hW.below b9
 replace hV := hV.below b9
 have t9 := bnext t8 b9
 clear t8 b9
 clear c0 c1
 clear hB
 go_wp2_with fail
 refine (HO.out aW cW _ hW).mono ?_
 rintro e w10 ⟨v10, rfl, ho10, b10⟩
 obtain ⟨aO, cO, rfl, hO, _, _⟩ := ho10.reps
 clear ho10
 replace hTw := hTw.below b10
 replace hT := hT.below b10
 replace hW := hW.below b10
 replace hV := hV.below b10
 replace hP := hP.below b10
 have t10 := bnext t9 b10
 clear t9 b10
 clear hW
 rw [HQL.out]
 go_wp2_with fail
 refine (HR.out aT cT _ hT hTw).mono ?_
 rintro e w11 ⟨rfl, b11⟩
 replace hTw := hTw.below b11
 replace hT := hT.below b11
 replace hV := hV.below b11
 replace hP := hP.below b11
 replace hO := hO.below b11
 have t11 := bnext t10 b11
 clear t10 b11
 clear hT
 go_wp2_with fail
 refine (HT.out aO cO _ hO hTw).mono ?_
 rintro e w12 ⟨rfl, b12⟩
 replace hTw := hTw.below b12
 replace hV := hV.below b12
 replace hP := hP.below b12
 replace hO := hO.below b12
 have t12 := bnext t11 b12
 clear t11 b12
 clear hO hTw
 go_wp2_with fail
 refine (awSame aV aP cV cP U.length U _ hV hP rfl HUL.out).mono ?_
 rintro e w13 ⟨rfl, b13⟩
 replace hV := hV.below b13
 replace hP := hP.below b13
 have t13 := bnext t12 b13
 clear t12 b13
 clear hV hP
 go_wp2_with fail
 refine (HGP.out _).mono ?_
 rintro e w14 ⟨rfl, b14⟩
 have t14 := bnext t13 b14
 clear t13 b14
 go_wp2_with fail
 go_ret
 exact ⟨rfl, t14⟩
end Go.Proofs.YtngpopalpofhgaaGreatDoor

namespace Go.Proofs.YtngpopalpofhgaaGreatDoor
open Go.RowKit
set_option maxHeartbeats 8000000
set_option maxRecDepth 100000
theorem TopGrommetMats_any (x y k s : Int) (w : World) (hT : TabW w) :
  Calls Tryz.prog 6 #[.int .i64 x, .int .i64 y, .agg #[.int .i64 k, .int .i64 s]] w fun r w' => r = .returned (.bool true) ∧ Below w.heap.size w w' := by
 by_cases e0 : x < 2
 ·have d0 : decide (x < 2) = true := decide_eq_true e0
  clear e0
  have hS0 := (SL.nil w).box (.cells #[.int .i64 k, .int .i64 s] 67)
  have c0 := hS0.cell 0 rfl 0 rfl
  have c1 := hS0.cell 0 rfl 1 rfl
  have HGP := hid grommetPlaits_any
  go_enter Tryz.func6, Tryz.ntmps6
  go_wp2_with fail
  refine (HGP.out _).mono ?_
  rintro e w1 ⟨rfl, b1⟩
  replace b1 := bnext (bal (Below.refl _ _) _) b1
  have t1 := b1
  clear b1
  go_wp2_with fail
  go_ret
  exact ⟨rfl, t1⟩
 by_cases e1 : 8 < x
 ·have d1 : decide (8 < x) = true := decide_eq_true e1
  have d0 : decide (x < 2) = false := decide_eq_false e0
  clear e0 e1
  have hS0 := (SL.nil w).box (.cells #[.int .i64 k, .int .i64 s] 67)
  have c0 := hS0.cell 0 rfl 0 rfl
  have c1 := hS0.cell 0 rfl 1 rfl
  have HGP := hid grommetPlaits_any
  go_enter Tryz.func6, Tryz.ntmps6
  go_wp2_with fail
  refine (HGP.out _).mono ?_
  rintro e w1 ⟨rfl, b1⟩
  replace b1 := bnext (bal (Below.refl _ _) _) b1
  have t1 := b1
  clear b1
  go_wp2_with fail
  go_ret
  exact ⟨rfl, t1⟩
 by_cases e2 : y < 2
 ·have d2 : decide (y < 2) = true := decide_eq_true e2
  have d0 : decide (x < 2) = false := decide_eq_false e0
  have d1 : decide (8 < x) = false := decide_eq_false e1
  clear e0 e1 e2
  have hS0 := (SL.nil w).box (.cells #[.int .i64 k, .int .i64 s] 67)
  have c0 := hS0.cell 0 rfl 0 rfl
  have c1 := hS0.cell 0 rfl 1 rfl
  have HGP := hid grommetPlaits_any
  go_enter Tryz.func6, Tryz.ntmps6
  go_wp2_with fail
  refine (HGP.out _).mono ?_
  rintro e w1 ⟨rfl, b1⟩
  replace b1 := bnext (bal (Below.refl _ _) _) b1
  have t1 := b1
  clear b1
  go_wp2_with fail
  go_ret
  exact ⟨rfl, t1⟩
 by_cases e3 : 12 < y
 ·have d3 : decide (12 < y) = true := decide_eq_true e3
  have d0 : decide (x < 2) = false := decide_eq_false e0
  have d1 : decide (8 < x) = false := decide_eq_false e1
  have d2 : decide (y < 2) = false := decide_eq_false e2
  clear e0 e1 e2 e3
  have hS0 := (SL.nil w).box (.cells #[.int .i64 k, .int .i64 s] 67)
  have c0 := hS0.cell 0 rfl 0 rfl
  have c1 := hS0.cell 0 rfl 1 rfl
  have HGP := hid grommetPlaits_any
  go_enter Tryz.func6, Tryz.ntmps6
  go_wp2_with fail
  refine (HGP.out _).mono ?_
  rintro e w1 ⟨rfl, b1⟩
  replace b1 := bnext (bal (Below.refl _ _) _) b1
  have t1 := b1
  clear b1
  go_wp2_with fail
  go_ret
  exact ⟨rfl, t1⟩
 by_cases e4 : k < 2
 ·have d4 : decide (k < 2) = true := decide_eq_true e4
  have d0 : decide (x < 2) = false := decide_eq_false e0
  have d1 : decide (8 < x) = false := decide_eq_false e1
  have d2 : decide (y < 2) = false := decide_eq_false e2
  have d3 : decide (12 < y) = false := decide_eq_false e3
  clear e0 e1 e2 e3 e4
  have hS0 := (SL.nil w).box (.cells #[.int .i64 k, .int .i64 s] 67)
  have c0 := hS0.cell 0 rfl 0 rfl
  have c1 := hS0.cell 0 rfl 1 rfl
  have HGP := hid grommetPlaits_any
  go_enter Tryz.func6, Tryz.ntmps6
  go_wp2_with fail
  refine (HGP.out _).mono ?_
  rintro e w1 ⟨rfl, b1⟩
  replace b1 := bnext (bal (Below.refl _ _) _) b1
  have t1 := b1
  clear b1
  go_wp2_with fail
  go_ret
  exact ⟨rfl, t1⟩
 by_cases e5 : 6 < k
 ·have d5 : decide (6 < k) = true := decide_eq_true e5
  have d0 : decide (x < 2) = false := decide_eq_false e0
  have d1 : decide (8 < x) = false := decide_eq_false e1
  have d2 : decide (y < 2) = false := decide_eq_false e2
  have d3 : decide (12 < y) = false := decide_eq_false e3
  have d4 : decide (k < 2) = false := decide_eq_false e4
  clear e0 e1 e2 e3 e4 e5
  have hS0 := (SL.nil w).box (.cells #[.int .i64 k, .int .i64 s] 67)
  have c0 := hS0.cell 0 rfl 0 rfl
  have c1 := hS0.cell 0 rfl 1 rfl
  have HGP := hid grommetPlaits_any
  go_enter Tryz.func6, Tryz.ntmps6
  go_wp2_with fail
  refine (HGP.out _).mono ?_
  rintro e w1 ⟨rfl, b1⟩
  replace b1 := bnext (bal (Below.refl _ _) _) b1
  have t1 := b1
  clear b1
  go_wp2_with fail
  go_ret
  exact ⟨rfl, t1⟩
 by_cases e6 : s < 1
 ·have d6 : decide (s < 1) = true := decide_eq_true e6
  have d0 : decide (x < 2) = false := decide_eq_false e0
  have d1 : decide (8 < x) = false := decide_eq_false e1
  have d2 : decide (y < 2) = false := decide_eq_false e2
  have d3 : decide (12 < y) = false := decide_eq_false e3
  have d4 : decide (k < 2) = false := decide_eq_false e4
  have d5 : decide (6 < k) = false := decide_eq_false e5
  clear e0 e1 e2 e3 e4 e5 e6
  have hS0 := (SL.nil w).box (.cells #[.int .i64 k, .int .i64 s] 67)
  have c0 := hS0.cell 0 rfl 0 rfl
  have c1 := hS0.cell 0 rfl 1 rfl
  have HGP := hid grommetPlaits_any
  go_enter Tryz.func6, Tryz.ntmps6
  go_wp2_with fail
  refine (HGP.out _).mono ?_
  rintro e w1 ⟨rfl, b1⟩
  replace b1 := bnext (bal (Below.refl _ _) _) b1
  have t1 := b1
  clear b1
  go_wp2_with fail
  go_ret
  exact ⟨rfl, t1⟩
 by_cases e7 : 5 < s
 ·have d7 : decide (5 < s) = true := decide_eq_true e7
  have d0 : decide (x < 2) = false := decide_eq_false e0
  have d1 : decide (8 < x) = false := decide_eq_false e1
  have d2 : decide (y < 2) = false := decide_eq_false e2
  have d3 : decide (12 < y) = false := decide_eq_false e3
  have d4 : decide (k < 2) = false := decide_eq_false e4
  have d5 : decide (6 < k) = false := decide_eq_false e5
  have d6 : decide (s < 1) = false := decide_eq_false e6
  clear e0 e1 e2 e3 e4 e5 e6 e7
  have hS0 := (SL.nil w).box (.cells #[.int .i64 k, .int .i64 s] 67)
  have c0 := hS0.cell 0 rfl 0 rfl
  have c1 := hS0.cell 0 rfl 1 rfl
  have HGP := hid grommetPlaits_any
  go_enter Tryz.func6, Tryz.ntmps6
  go_wp2_with fail
  refine (HGP.out _).mono ?_
  rintro e w1 ⟨rfl, b1⟩
  replace b1 := bnext (bal (Below.refl _ _) _) b1
  have t1 := b1
  clear b1
  go_wp2_with fail
  go_ret
  exact ⟨rfl, t1⟩
 exact gm_main x y k s w hT (by omega) (by omega) (by omega) (by omega) (by omega) (by omega) (by omega) (by omega)
end Go.Proofs.YtngpopalpofhgaaGreatDoor

namespace Go.Proofs.YtngpopalpofhgaaGreatDoor
open Go.RowKit Go.ChangeShapes Go.WideShapes Go.ChangeAt Go.Joins Go.Deep Go.WideMaps
set_option maxRecDepth 100000
theorem arr2 : ArrKey Tryz.prog 67 3 2 := ⟨by kernel_rfl, by kernel_rfl, by kernel_rfl, by kernel_rfl⟩
section
variable {H : Type} {enc : TypeId × Value → H} {W : World}
theorem open_arr2A {r : Reach} {b0 : Nat} {v : Value} {d : DataW H} {ps : List MemPlace} (hval : Value.okWide Tryz.prog W r b0 67 v) (h : DataW.Trod enc Tryz.prog W 0 (fun _ => true) true 67 v d ps) :
  ∃ x y : Int, v = .agg #[.int .i64 x, .int .i64 y] ∧ InI x ∧ InI y := by
 obtain ⟨a, b, h1, _, _, h2, h3⟩ := open_pair arr2 Tryz.underlying3 hval h
 exact ⟨a, b, h1, inI_wf h2, inI_wf h3⟩
end
end Go.Proofs.YtngpopalpofhgaaGreatDoor
