/- Contracts and plain facts that the claim uses (AwM SpB IxG AwN). Conditions: as each one states. -/
import Derived.RangeFuncNested
import Derived.RangeFuncBound
import Derived.RangeFuncCalls
import Derived.RangeFuncLeaves
import Derived.RangeFuncFrom
import Derived.Shelf.Abstract
import Derived.Shelf.RegionOpen
import Derived.WalkKit
import Derived.OwnWalkIn
import Derived.TacticsInMore
import Derived.LoopNIn
import Derived.LoopIn
import Derived.Test.YtndmeaoidihikaaGreatDoorProg
import Derived.WalkSpells
import Derived.Maps.AppendAt
import Derived.Deep.Quiet
import Derived.Maps.Own
import Derived.Maps.OwnSet
import Derived.Maps.Views
import Derived.WalkLawsBesides
import Derived.Laws.EntriesVeiled
import Derived.Deep.QuietTactic
import Derived.BigQuiet
import Derived.Shelf.Strings.Trim
import Derived.Shelf.Strings.SlTrimAscii
import Derived.Shelf.Strings.Repeat
import Derived.Shelf.Strings.OnBuilder
import Derived.Shelf.Strconv.Itoa1
import Derived.Shelf.Strconv.Itoa3
import Derived.Shelf.LaysM
import Derived.Ground.Names2Prog
import Derived.Lib.OthersKept
import Derived.Deep.RegionHeld3
import Derived.Deep.AppendLies
import Derived.Deep.RegionHeldLaw
import Derived.Deep.RegionLaw
import Derived.StillTail
import Derived.Laws.Tables
import Derived.IntWalk
import Derived.Laws.CopyOwn
import Derived.BigRegion
import Derived.ChangeAlike
import Derived.Shelf.Bits.Mul64
import Derived.Lib.ItoaLen
import Derived.Lib.ItoaMem
import Derived.Sort.LoopGhostIn
import Derived.Maps.RangeWalk
import Derived.Sort.QuietThIn
import Derived.Maps.Ext
import Derived.Deep.LoopGhost
import Derived.Lib.Split
import Derived.Lib.AtoiAll
import Derived.Shelf.Strconv.ErrVarAll
import Derived.Shelf.Strconv.AtoiAll
import Derived.Shelf.Strings.Cut
import Derived.Shelf.Strings.Split
import Derived.Shelf.Strings.SplitShaped
import Derived.Lib.AppendIntMem
import Derived.Lib.SmallJoins
import Derived.LaidSub
import Derived.Lib.LaidTab
import Derived.Lib.AtoiErrMem
import Derived.Stop.LaidErr
import Derived.ReadAgain
import Derived.ChangeSlices
import Derived.OpenShut
import Derived.ProofKit
import Derived.Deep.DeepHandedRow
import Derived.Deep.SlicePairs
import Derived.Test.YtndmeaoidihikaaGreatDoorXz01
import Derived.Test.YtndmeaoidihikaaGreatDoorXz02
import Derived.Test.YtndmeaoidihikaaGreatDoorXz03
import Derived.Test.YtndmeaoidihikaaGreatDoorXz04
import Derived.Test.YtndmeaoidihikaaGreatDoorXz05
import Derived.Test.YtndmeaoidihikaaGreatDoorXz06
import Derived.Test.YtndmeaoidihikaaGreatDoorXz07
import Derived.Test.YtndmeaoidihikaaGreatDoorXz08
import Derived.Test.YtndmeaoidihikaaGreatDoorXz09
import Derived.Test.YtndmeaoidihikaaGreatDoorXz10
import Derived.Test.YtndmeaoidihikaaGreatDoorXz11
set_option linter.all false

namespace Go.Proofs.YtndmeaoidihikaaGreatDoor
open Go.RowKit
set_option maxHeartbeats 8000000
set_option maxRecDepth 100000
theorem row_ck : ChkM rowM none 0 := fun w h => CheckMachine_any rowM none 0 w h (by show InI (2 : Int); unfold InI; omega)
theorem row_ckl (al : Option Addr) (cl : Nat) (l : List Int) : ChkL rowM none 0 al cl l := CheckLoad_any rowM none 0 al cl l row_ck
theorem lrow_any (w : World) : Calls Tryz.prog 29 #[] w fun r w' => r = .returned (mV rowM none 0) ∧ Below w.heap.size w w' := by
 have hS := (SL.nil w).box (.cells #[.bool false, .int .i64 2, .int .i64 1, .slice none 0 0] 24)
 go_enter Tryz.func29, Tryz.ntmps29
 go_wp2_with fail
 exact bodyPost_ret (results_cell rfl rfl A_mach kR (hS.blk 0 rfl).1) rfl ⟨rfl, hS.b⟩
theorem am_perm (w : World) : Calls Tryz.prog 9 #[mV rowM none 0] w fun r w' => ∃ v, r = .returned (.tuple #[v, .int .i64 0]) ∧ OwnI w.heap.size w' v [1, 4, 3, 0, 7, 2, 5, 6] ∧ Below w.heap.size w w' := by
 have h := mPerm_any rowM none 0 w (ints_nil _) row_ck
 rw [rv_mac, if_pos rfl, rv_perm] at h
 exact h
theorem am_paths (w : World) : Calls Tryz.prog 10 #[mV rowM none 0] w fun r w' => ∃ (v : Value) (qs : List (SlH × List Int)), r = .returned (.tuple #[v, .int .i64 0]) ∧ qs.map Prod.snd = [[0, 1, 4, 7, 6, 5, 2, 3]] ∧ SL w.heap.size w w' (pOwn cSl 1 22 v (qs.map Prod.fst) :: qs.map inP) := by
 have h := mPaths_any rowM none 0 w (ints_nil _) row_ck
 rw [rv_mac, if_pos rfl, rv_cyc] at h
 exact h
theorem am_period (w : World) : Calls Tryz.prog 11 #[mV rowM none 0] w fun r w' => r = .returned (.tuple #[.string ⟨#[56]⟩, .int .i64 0]) ∧ Below w.heap.size w w' := by
 have h := mPeriod_any rowM none 0 w (ints_nil _) row_ck (fun w' _ => itoaOk_small _ _ (by decide +kernel) (by decide +kernel))
 rw [rv_mac, if_pos rfl, rv_per] at h
 exact h
theorem am_meet (w : World) (al : Option Addr) (hL : Ints w al 2 [0, 6]) : Calls Tryz.prog 18 #[mV rowM none 0, .slice al 2 2] w fun r w' => r = .returned (.tuple #[.int .i64 2, .int .i64 1, .int .i64 0]) ∧ Below w.heap.size w w' := by
 have h := mMeet_any rowM none 0 al 2 [0, 6] w (ints_nil _) hL (row_ckl _ _ _)
 rw [rv_meet] at h
 exact h
theorem am_acc (w : World) (al : Option Addr) (hL : Ints w al 2 [0, 1]) : Calls Tryz.prog 19 #[mV rowM none 0, .slice al 2 2] w fun r w' => r = .returned (.int .i64 0) ∧ Below w.heap.size w w' := by
 have h := mAccept_any rowM none 0 al 2 [0, 1] w (ints_nil _) hL (row_ckl _ _ _)
 rw [rv_acc] at h
 exact h
theorem am_fill (w : World) : Calls Tryz.prog 30 #[mV rowM none 0] w fun r w' => ∃ v, r = .returned (.tuple #[v, .int .i64 0]) ∧ OwnI w.heap.size w' v [0, 1, 2, 3] ∧ Below w.heap.size w w' := by
 have h := mFill_any rowM none 0 w (ints_nil _) row_ck
 rw [rv_fillE, if_pos rfl, rv_fill] at h
 exact h
theorem am_free (w : World) (al : Option Addr) (hL : Ints w al 3 [0, 1, 2]) : Calls Tryz.prog 31 #[mV rowM none 0, .slice al 3 3] w fun r w' => ∃ v, r = .returned (.tuple #[v, .int .i64 0]) ∧ OwnI w.heap.size w' v [3, 7] ∧ Below w.heap.size w w' := by
 have h := mFree_any rowM none 0 al 3 [0, 1, 2] w (ints_nil _) hL (row_ckl _ _ _)
 rw [rv_acc3, if_pos rfl, rv_free] at h
 exact h
theorem am_order (w : World) (al : Option Addr) (hL : Ints w al 3 [0, 4, 3]) : Calls Tryz.prog 24 #[mV rowM none 0, .slice al 3 3] w fun r w' => ∃ v, r = .returned (.tuple #[v, .int .i64 0]) ∧ OwnI w.heap.size w' v [0, 2, 1] ∧ Below w.heap.size w w' := by
 have h := mOrder_any rowM none 0 al 3 [0, 4, 3] w (ints_nil _) hL (row_ckl _ _ _)
 rw [rv_ordE, if_pos rfl, rv_ord] at h
 exact h
theorem am_cross (w : World) (al : Option Addr) (hL : Ints w al 3 [0, 4, 3]) : Calls Tryz.prog 27 #[mV rowM none 0, .slice al 3 3] w fun r w' => ∃ v, r = .returned (.tuple #[v, .int .i64 0]) ∧ Own cX 3 w.heap.size 60 w' v (crossM rowM [0, 4, 3]) ∧ Below w.heap.size w w' := by
 have h := mCrossings_any rowM none 0 al 3 [0, 4, 3] w (ints_nil _) hL (row_ckl _ _ _)
 rw [rv_crsE, if_pos rfl] at h
 exact h
theorem am_word (w : World) (al : Option Addr) (hL : Ints w al 3 [0, 4, 3]) : Calls Tryz.prog 25 #[mV rowM none 0, .slice al 3 3, .int .i64 4] w fun r w' => ∃ v, r = .returned (.tuple #[v, .int .i64 0]) ∧ OwnI w.heap.size w' v [-1, 2, 1] ∧ Below w.heap.size w w' := by
 have h := mWord_any rowM none 0 al 3 [0, 4, 3] 4 w (ints_nil _) hL (row_ckl _ _ _)
 rw [rv_wrdE, if_pos rfl, rv_wrd] at h
 exact h
theorem am_strands (w : World) (al : Option Addr) (hL : Ints w al 3 [0, 4, 3]) : Calls Tryz.prog 26 #[mV rowM none 0, .slice al 3 3, .int .i64 4] w fun r w' => ∃ v, r = .returned (.tuple #[v, .int .i64 0]) ∧ OwnI w.heap.size w' v [2, 1, 0] ∧ Below w.heap.size w w' := by
 have h := mStrands_any rowM none 0 al 3 [0, 4, 3] 4 w (ints_nil _) hL (row_ckl _ _ _)
 rw [rv_wvE, if_pos rfl, rv_str] at h
 exact h
theorem am_steps (w : World) (al : Option Addr) (hL : Ints w al 3 [0, 4, 3]) : Calls Tryz.prog 21 #[mV rowM none 0, .slice al 3 3, .int .i64 4] w fun r w' => ∃ v, r = .returned (.tuple #[v, .int .i64 0]) ∧ OwnI w.heap.size w' v [6, 2, 7] ∧ Below w.heap.size w w' := by
 have h := mSteps_any rowM none 0 al 3 [0, 4, 3] 4 w (ints_nil _) hL (row_ckl _ _ _)
 rw [rv_stE, if_pos rfl, show (4 : Int).toNat = 4 from rfl, rv_st] at h
 exact h
theorem am_mir (w : World) (al : Option Addr) (hL : Ints w al 3 [0, 4, 3]) : Calls Tryz.prog 33 #[mV rowM none 0, .slice al 3 3] w fun r w' => ∃ a c v, r = .returned (.tuple #[mV (turnMac rowM) a c, v, .int .i64 0]) ∧ SL w.heap.size w w' [pOwn cInt 1 3 (.slice a 0 c) [], pOwn cInt 1 3 v [0, 4, 1]] := by
 have h := mMirrored_any rowM none 0 al 3 [0, 4, 3] w (ints_nil _) hL (row_ckl _ _ _)
 rw [rv_ldE] at h
 simp only [if_true] at h
 rw [rv_mir] at h
 exact h
theorem am_back (w : World) (al : Option Addr) (hL : Ints w al 1 [4]) : Calls Tryz.prog 34 #[mV rowM none 0, .slice al 1 1] w fun r w' => ∃ a c v, r = .returned (.tuple #[mV (turnMac rowM) a c, v, .int .i64 0]) ∧ SL w.heap.size w w' [pOwn cInt 1 3 (.slice a 0 c) [], pOwn cInt 1 3 v [2]] := by
 have h := mBackwards_any rowM none 0 al 1 [4] w (ints_nil _) hL (row_ckl _ _ _)
 rw [rv_bkE] at h
 simp only [if_true] at h
 rw [rv_bk] at h
 exact h
theorem am_print (w : World) : Calls Tryz.prog 35 #[mV rowM none 0] w fun r w' => r = .returned (.tuple #[.string ⟨#[114, 111, 119, 32, 50, 32, 43, 32, 110, 111, 110, 101]⟩, .int .i64 0]) ∧ Below w.heap.size w w' := by
 have h := mPrint_any rowM none 0 w (ints_nil _) row_ck (fun _ x hx => by cases hx)
 rw [rv_mac, if_pos rfl, rv_print] at h
 exact h
theorem am_parse1 (w : World) (hw : LibW w) : Calls Tryz.prog 36 #[.string ⟨#[114, 105, 110, 103, 32, 50, 32, 45, 32, 48, 44, 49]⟩] w fun r w' => ∃ a c, r = .returned (.tuple #[.agg #[.bool true, .int .i64 2, .int .i64 (-1), .slice a 2 c], .int .i64 0]) ∧ SL w.heap.size w w' [pOwn cInt 1 3 (.slice a 2 c) [0, 1]] := by
 have h := mParse_any [114, 105, 110, 103, 32, 50, 32, 45, 32, 48, 44, 49] w hw (by decide)
 rw [rv_parse1] at h
 exact h
theorem am_parse2 (w : World) (hw : LibW w) : Calls Tryz.prog 36 #[.string ⟨#[114, 105, 110, 103, 32, 51, 32, 43, 32, 110, 111, 110, 101]⟩] w fun r w' => (∃ (R : Bool) (G T : Int) (a : Option Addr) (n c : Nat), r = .returned (.tuple #[.agg #[.bool R, .int .i64 G, .int .i64 T, .slice a n c], .int .i64 17])) ∧ Below w.heap.size w w' := by
 have h := mParse_any [114, 105, 110, 103, 32, 51, 32, 43, 32, 110, 111, 110, 101] w hw (by decide)
 refine h.mono ?_
 rintro r w' ⟨a, c, rfl, hS⟩
 rw [rv_parse2]
 exact ⟨⟨_, _, _, _, _, _, rfl⟩, hS.b⟩
end Go.Proofs.YtndmeaoidihikaaGreatDoor

namespace Go.Proofs.YtndmeaoidihikaaGreatDoor
open Go.RowKit
set_option maxHeartbeats 1000000
set_option maxRecDepth 100000
section
variable {P : Program} {ops : Array Oper} {rest : List Oper} {a : Act} {Qa : Act → Prop} {α : Type} {c : α → Value} {sz bytes : Nat} {t e : TypeId} {z : Value} {ad : Option Addr} {cap : Nat} {l : List α} {k : Int} {w : World}
 {d1 d2 : Tmp} {ty1 ty2 : TypeId} {p1 p2 : String} {s x : Operand} {af1 af2 : Array Edge}
theorem wpB_idx2 (d : α) (E : ETy P t e z sz bytes) (hF : Flat P e) (hc : ∀ x, (c x).cells = #[c x])
   {n : Nat} (hs : a.eval s = .slice ad n cap) (hn : l.length = n) (hx : a.eval x = .int .i64 k) (hR : Reps c sz w ad cap l) (h0 : 0 ≤ k) (hlt : k < l.length) (hd : ∀ p, (a.put (some d1) p).eval (.tmp d1) = p)
   (hK : ∀ p, wpQuiet P ops (Below w.heap.size w) Qa rest ((a.put (some d1) p).put (some d2) (c (atD d l k)))) :
   wpQuiet P ops (Below w.heap.size w) Qa (⟨some d1, .indexAddr t s x, ty1, p1, af1, none⟩ :: ⟨some d2, .load e (.tmp d1), ty2, p2, af2, none⟩ :: rest) a := by
 subst hn
 have hkl : k.toNat < l.length := by omega
 obtain ⟨b, o, rfl, hcs⟩ := hR.cells E.pos d k.toNat hkl
 have hcell := hcs 0 (c (atD d l k)) (by rw [show l.getD k.toNat d = atD d l k from rfl, hc]; rfl)
 refine wpQ_in (.pointer (some ((⟨b, o, none⟩ : Addr).add (k.toNat * sz)))) rfl (fun w' hw' => ?_) (wpQ_in (c (atD d l k)) rfl (fun w' hw' => ?_) (hK _))
 ·have h1 := run_indexAt_sl (P := P) (a := ⟨b, o, none⟩) (cap := cap) w' E h0 hlt
  simp [execOp, hs, hx, h1, Result.andThen]
 ·have h2 := run_loadAt_cell (P := P) w' (a := (⟨b, o, none⟩ : Addr).add (k.toNat * sz)) (v := c (atD d l k)) hF (by
   rw [Addr.add_z]
   exact (hw'.cell (World.block_lt_of_cell? w _ hcell)).trans hcell)
  simp [execOp, hd, h2, Result.andThen]
end
/-- the handles H lead to the lists l. -/
def LeadsTo (w : World) (H : List SlH) (l : List (List Int)) : Prop := ∀ k : Nat, k < l.length → ∃ xa xc, atD ((none, 0, 0) : SlH) H k = (xa, (atD [] l k).length, xc) ∧ Ints w xa xc (atD [] l k) ∧ (atD [] l k).length ≤ 1048576
theorem LeadsTo.below {w w' : World} {H : List SlH} {l : List (List Int)} (h : LeadsTo w H l) (hb : Below w.heap.size w w') : LeadsTo w' H l := fun k hk => by
 obtain ⟨xa, xc, h1, h2, h3⟩ := h k hk
 exact ⟨xa, xc, h1, h2.below hb, h3⟩
theorem SamePerms_any (a a2 : Option Addr) (cap cap2 : Nat) (H R : List SlH) (l : List (List Int)) (n : Nat) (w : World) (hS : Reps cSl 1 w a cap H) (hM : Reps cSl 1 w a2 cap2 R) (hH : H.length = n) (hR : R.length = n) (hL : l.length = n) (hq : LeadsTo w H l) (hr : LeadsTo w R l) (hl : n ≤ 1048576) :
  Calls Tryz.prog 32 #[.slice a n cap, .slice a2 n cap2] w fun r w' => r = .returned (.bool true) ∧ Below w.heap.size w w' := by
 have hcap : n ≤ cap := by have := hS.le; omega
 have hm := hS.max
 have hcap2 : n ≤ cap2 := by have := hM.le; omega
 have hm2 := hM.max
 have CS : ∀ (k : Nat), k < n → ∃ x xa xc ya yc, atD ((none, 0, 0) : SlH) H k = (xa, x, xc) ∧ atD ((none, 0, 0) : SlH) R k = (ya, x, yc) ∧ ∀ w', Below w.heap.size w w' → Calls Tryz.prog 28 #[.slice xa x xc, .slice ya x yc] w' fun r w'' => r = .returned (.bool true) ∧ Below w'.heap.size w' w'' := by
  intro k hk
  obtain ⟨xa, xc, hx1, hx2, hx3⟩ := hq k (by omega)
  obtain ⟨ya, yc, hy1, hy2, hy3⟩ := hr k (by omega)
  refine ⟨_, xa, xc, ya, yc, hx1, hy1, fun w' hb => ?_⟩
  have := SameInts_any xa ya xc yc _ _ w' (hx2.below hb) (hy2.below hb) hx3
  rw [decide_eq_true rfl] at this
  exact this
 have HC := hid CS
 have HS := hid (show Reps cSl 1 w a cap H ∧ H.length = n from ⟨hS, hH⟩)
 have HM := hid (show Reps cSl 1 w a2 cap2 R ∧ R.length = n from ⟨hM, hR⟩)
 clear CS hq hr hL hS hM hH hR
 go_enter Tryz.func32, Tryz.ntmps32
 go_wp2_with fail
 go_loopw [5] (fun i wr => ∃ k : Nat, k ≤ n ∧ i = .int .i64 k ∧ Below w.heap.size w wr) (fun i _ => n - (intOf i).toNat)
 case atStart => exact ⟨0, by omega, rfl, Below.refl _ _⟩
 case round =>
  obtain ⟨k, hk, rfl, hbr⟩ := hrel
  by_cases hlt : k < n
  ·obtain ⟨x, xa, xc, ya, yc, hx, hy, hc⟩ := HC.out k hlt
   have hS5 := HS.out.1.below hbr
   have hS6 := HM.out.1.below hbr
   have hk1 : (k : Int) < H.length := by rw [HS.out.2]; omega
   have hk2 : (k : Int) < R.length := by rw [HM.out.2]; omega
   have HX := hid hx; have HY := hid hy; have HCC := hid hc
   clear hx hy hc
   go_wp2_with fail
   refine wp_region_q kR kR ?_
   repeat (first | (((with_reducible refine wpB_idx2 ((none, 0, 0) : SlH) E_sls F_sl cSl1 wU (HS.out.2) wU (hS5) oD oD (fun _ => wU) (fun _ => ?_)); (try simp only [Act.put, pA, pB, pC]); (try simp only [cInt])); rw [HX.out]) | (((with_reducible refine wpB_idx2 ((none, 0, 0) : SlH) E_sls F_sl cSl1 wU (HM.out.2) wU (hS6) oD oD (fun _ => wU) (fun _ => ?_)); (try simp only [Act.put, pA, pB, pC]); (try simp only [cInt])); rw [HY.out]) | ((refine wpB_call (.bool true) wU (fun w' => ?_) (fun w' hw' => HCC.out w' (bnext hbr hw')) ?_); (focus (go_simp; done)); (try simp only [Act.put, pA, pB, pC])) |  ((with_reducible refine wpB_load (by first | exact F_int | exact F_u64s) wU wU (by assumption) wU ?_); (try simp only [Act.put, pA, pB, pC])) | ((refine wpQ_oneG ?_ wU (fun w' => ?_) ?_); rotate_left; (go_simp; rfl); (try simp only [Act.put, pA, pB, pC])))
   refine wpQuiet_nil ?_
   intro w5 hb5
   have b5 := bnext hbr hb5
   go_wp2_with fail
   exact ⟨⟨k + 1, by omega, by go_num, b5⟩, by simp [intOf]; omega⟩
  ·have hkn : k = n := by omega
   subst hkn
   go_wp2_with fail
   go_ret
   exact ⟨rfl, hbr⟩
end Go.Proofs.YtndmeaoidihikaaGreatDoor

namespace Go.Proofs.YtndmeaoidihikaaGreatDoor
open Go.RowKit
set_option maxRecDepth 100000
section
variable {P : Program} {ops : Array Oper} {rest : List Oper} {a : Act} {α : Type} {c : α → Value} {sz bytes n : Nat} {t e : TypeId} {z : Value} {ad : Option Addr} {cap : Nat} {l : List α} {k : Int}
 {d1 d2 : Tmp} {ty1 ty2 : TypeId} {p1 p2 : String} {s x : Operand} {af1 af2 : Array Edge} {g1 g2 : Option (Nat × Bool)} {w : World}
/-- the load of an element that is known, guarded. -/
theorem wpList_idxSG {Q : Exit → Act → World → Prop} (d : α) (V : Value) (E : ETy P t e z sz bytes) (hF : Aggr P e) (hc : ∀ x, c x = .agg (c x).cells)
   (hs : a.eval s = .slice ad n cap) (hx : a.eval x = .int .i64 k) (hR : Reps c sz w ad cap l) (hn : l.length = n) (h0 : 0 ≤ k) (hlt : k < n) (hV : c (atD d l k) = V) (hd : ∀ p, (a.put (some d1) p).eval (.tmp d1) = p)
   (hw1 : Region.wanted ⟨some d1, .indexAddr t s x, ty1, p1, af1, g1⟩ (yielded ops a.tmps) = true) (hw2 : ∀ p, Region.wanted ⟨some d2, .load e (.tmp d1), ty2, p2, af2, g2⟩ (yielded ops (a.put (some d1) p).tmps) = true)
   (hK : ∀ p, wpList P ops Q rest ((a.put (some d1) p).put (some d2) V) w) :
   wpList P ops Q (⟨some d1, .indexAddr t s x, ty1, p1, af1, g1⟩ :: ⟨some d2, .load e (.tmp d1), ty2, p2, af2, g2⟩ :: rest) a w := by
 subst hn hV
 obtain ⟨p, hr1, hr2⟩ := run_idx_agg d E hF hR hc h0 hlt
 refine wpList_step fun K hK' => ?_
 rw [if_pos hw1]
 unfold Oper.wp
 simp only [execOp, hs, hx]
 simp [hr1, Result.andThen]
 refine hK' _ _ (wpList_step fun K2 hK2 => ?_)
 rw [if_pos (hw2 _)]
 unfold Oper.wp
 simp only [execOp, hd]
 simp [hr2, Result.andThen]
 exact hK2 _ _ (hK _)
end
end Go.Proofs.YtndmeaoidihikaaGreatDoor

namespace Go.Proofs.YtndmeaoidihikaaGreatDoor
open Go.RowKit
set_option maxHeartbeats 8000000
set_option maxRecDepth 100000
theorem amSame (a a2 : Option Addr) (cap cap2 n : Nat) (l : List Int) (w : World) (h : Ints w a cap l) (h2 : Ints w a2 cap2 l) (hn : l.length = n) (hs : n ≤ 1048576) : Calls Tryz.prog 28 #[.slice a n cap, .slice a2 n cap2] w fun r w' => r = .returned (.bool true) ∧ Below w.heap.size w w' := by
 subst hn
 have := SameInts_any a a2 cap cap2 l l w h h2 hs
 rw [decide_eq_true rfl] at this
 exact this
theorem leads1 {w : World} {xa : Option Addr} {xc n : Nat} {x : List Int} (h : Ints w xa xc x) (hn : x.length = n) (hs : n ≤ 1048576) : LeadsTo w [(xa, n, xc)] [x] := by
 subst hn
 intro k hk
 have : k = 0 := by simpa using hk
 subst this
 exact ⟨xa, xc, rfl, h, hs⟩
theorem am_word2 (w : World) (ma al : Option Addr) (mc cl : Nat) (hM : Ints w ma mc []) (hL : Ints w al cl [0, 4, 1]) : Calls Tryz.prog 25 #[mV (turnMac rowM) ma mc, .slice al 3 cl, .int .i64 4] w fun r w' => ∃ v, r = .returned (.tuple #[v, .int .i64 0]) ∧ OwnI w.heap.size w' v [1, -2, -1] ∧ Below w.heap.size w w' := by
 have h := mWord_any (turnMac rowM) ma mc al cl [0, 4, 1] 4 w hM hL (CheckLoad_any _ ma mc al cl _ (fun w h => CheckMachine_any (turnMac rowM) ma mc w h (by show InI (2 : Int); unfold InI; omega)))
 rw [rv_mwE, if_pos rfl, rv_mw] at h
 exact h
theorem rv_crs2 : crossM rowM [0, 4, 3] = [⟨0, 2, 0, 0⟩] := by first | rfl | decide | kernel_rfl
-- MARK
theorem awake4_any (w : World) (hw : LibW w) : Calls Tryz.prog 6 #[] w fun r w' => r = .returned (.bool true) ∧ Below w.heap.size w w' := by
 go_enter Tryz.func6, Tryz.ntmps6
 go_wp2_with fail
 refine (lrow_any w).mono ?_
 rintro e w1 ⟨rfl, b1⟩
 go_wp2_with fail
 refine (am_perm w1).mono ?_
 rintro e w2 ⟨v2, rfl, h2, b2⟩
 go_wp2_with fail
 refine (lrow_any w2).mono ?_
 rintro e w3 ⟨rfl, b3⟩
 go_wp2_with fail
 refine (am_paths w3).mono ?_
 rintro e w4 ⟨v4, qs, rfl, hq, hS4⟩
 have b4 := hS4.b
 go_wp2_with fail
 refine (lrow_any w4).mono ?_
 rintro e w5 ⟨rfl, b5⟩
 go_wp2_with fail
 refine (am_period w5).mono ?_
 rintro e w6 ⟨rfl, b6⟩
 go_wp2_with fail
 refine (lrow_any w6).mono ?_
 rintro e w7 ⟨rfl, b7⟩
 go_wp2_with fail
 refine (am_meet _ _ (reps_of_own (own_newN cIntS [0, 6] 2 rfl (by decide) _ rfl (Nat.le_refl _) rfl) rfl)).mono ?_
 rintro e w8 ⟨rfl, b8⟩
 replace b8 := bnext (bal (Below.refl _ _) _) b8
 go_wp2_with fail
 refine (lrow_any w8).mono ?_
 rintro e w9 ⟨rfl, b9⟩
 go_wp2_with fail
 refine (am_acc _ _ (reps_of_own (own_newN cIntS [0, 1] 2 rfl (by decide) _ rfl (Nat.le_refl _) rfl) rfl)).mono ?_
 rintro e w10 ⟨rfl, b10⟩
 replace b10 := bnext (bal (Below.refl _ _) _) b10
 go_wp2_with fail
 refine (lrow_any w10).mono ?_
 rintro e w11 ⟨rfl, b11⟩
 go_wp2_with fail
 refine (am_fill w11).mono ?_
 rintro e w12 ⟨v12, rfl, h12, b12⟩
 go_wp2_with fail
 refine (lrow_any w12).mono ?_
 rintro e w13 ⟨rfl, b13⟩
 go_wp2_with fail
 refine (am_free _ _ (reps_of_own (own_newN cIntS [0, 1, 2] 3 rfl (by decide) _ rfl (Nat.le_refl _) rfl) rfl)).mono ?_
 rintro e w14 ⟨v14, rfl, h14, b14⟩
 replace b14 := bnext (bal (Below.refl _ _) _) b14
 obtain ⟨a2, c2, rfl, r2, _, _⟩ := h2.reps
 obtain ⟨a12, c12, rfl, r12, _, _⟩ := h12.reps
 obtain ⟨a14, c14, rfl, r14, _, _⟩ := h14.reps
 have t12 := bnext b13 b14
 have t4 := bnext b5 (bnext b6 (bnext b7 (bnext b8 (bnext b9 (bnext b10 (bnext b11 (bnext b12 t12)))))))
 have t2 := bnext b3 (bnext b4 t4)
 have t0 := bnext b1 (bnext b2 t2)
 replace r2 := r2.below t2
 replace r12 := r12.below t12
 have hS14 := hS4.mono t4
 clear b1 b2 b3 b4 b5 b6 b7 b8 b9 b10 b11 b12 b13 b14 t12 t4 t2 h2 h12 h14 hS4
 match qs, hq, hS14 with
 | [((xa, xn, xc), ql)], hq, hS14 =>
 have eql : ql = [0, 1, 4, 7, 6, 5, 2, 3] := by simpa using hq
 subst eql
 obtain ⟨a4, c4, rfl, r4, _, _⟩ := (hS14.own 0 rfl).reps
 have r4 : Reps cSl 1 w14 a4 c4 [(xa, xn, xc)] := r4
 obtain ⟨xa', xc', ex, rx, _, _⟩ := (hS14.own (c := cInt) (l := [0, 1, 4, 7, 6, 5, 2, 3]) 1 rfl).reps
 have ex2 : xa = xa' ∧ xn = 8 ∧ xc = xc' := by simpa [cSl] using ex
 obtain ⟨rfl, rfl, rfl⟩ := ex2
 clear ex hq hS14
 go_wp2_with fail
 refine (amSame a2 _ c2 8 8 _ _ (r2.below (bal (Below.refl _ _) _)) (reps_of_own (own_newN cIntS [1, 4, 3, 0, 7, 2, 5, 6] 8 rfl (by decide) _ rfl (Nat.le_refl _) rfl) rfl) rfl (by decide)).mono ?_
 rintro e w15 ⟨rfl, b15⟩
 replace b15 := bnext (bal (Below.refl _ _) _) b15
 replace r4 := r4.below b15
 replace rx := rx.below b15
 replace r12 := r12.below b15
 replace r14 := r14.below b15
 replace b15 := bnext t0 b15
 clear t0 r2
 go_wp2_with fail
 have hin : Ints ((w15.alloc (.cells #[.int .i64 0, .int .i64 1, .int .i64 4, .int .i64 7, .int .i64 6, .int .i64 5, .int .i64 2, .int .i64 3] 3)).alloc (.cells #[.slice (some ⟨w15.heap.size, 0, none⟩) 8 8] 22)) (some ⟨w15.heap.size, 0, none⟩) 8 [0, 1, 4, 7, 6, 5, 2, 3] :=
  (reps_of_own (own_newN cIntS [0, 1, 4, 7, 6, 5, 2, 3] 8 rfl (by decide) _ rfl (Nat.le_refl _) rfl) rfl).below (bal (Below.refl _ _) _)
 have bb := bal (bal (Below.refl w15.heap.size w15) (.cells #[.int .i64 0, .int .i64 1, .int .i64 4, .int .i64 7, .int .i64 6, .int .i64 5, .int .i64 2, .int .i64 3] 3)) (.cells #[.slice (some ⟨w15.heap.size, 0, none⟩) 8 8] 22)
 refine (SamePerms_any a4 _ c4 1 [(xa, 8, xc)] [(some ⟨w15.heap.size, 0, none⟩, 8, 8)] [[0, 1, 4, 7, 6, 5, 2, 3]] 1 _ (r4.below bb) (reps_of_own (own_newN cSlS [(some ⟨w15.heap.size, 0, none⟩, 8, 8)] 1 rfl (by decide) _ (Array.size_push _) (Nat.le_refl _) rfl) rfl) rfl rfl rfl (leads1 (rx.below bb) rfl (by decide)) (leads1 hin rfl (by decide)) (by decide)).mono ?_
 rintro e w16 ⟨rfl, b16⟩
 replace b16 := bnext bb b16
 replace r12 := r12.below b16
 replace r14 := r14.below b16
 replace b16 := bnext b15 b16
 clear b15 bb hin r4 rx
 go_wp2_with fail
 refine (amSame a12 _ c12 4 4 _ _ (r12.below (bal (Below.refl _ _) _)) (reps_of_own (own_newN cIntS [0, 1, 2, 3] 4 rfl (by decide) _ rfl (Nat.le_refl _) rfl) rfl) rfl (by decide)).mono ?_
 rintro e w17 ⟨rfl, b17⟩
 replace b17 := bnext (bal (Below.refl _ _) _) b17
 replace r14 := r14.below b17
 replace b17 := bnext b16 b17
 clear b16 r12
 go_wp2_with fail
 refine (amSame a14 _ c14 2 2 _ _ (r14.below (bal (Below.refl _ _) _)) (reps_of_own (own_newN cIntS [3, 7] 2 rfl (by decide) _ rfl (Nat.le_refl _) rfl) rfl) rfl (by decide)).mono ?_
 rintro e w18 ⟨rfl, b18⟩
 replace b18 := bnext (bal (Below.refl _ _) _) b18
 replace b18 := bnext b17 b18
 clear b17 r14
 go_wp2_with fail
 have hl : Ints (w18.alloc (.cells #[.int .i64 0, .int .i64 4, .int .i64 3] 3)) (some ⟨w18.heap.size, 0, none⟩) 3 [0, 4, 3] := reps_of_own (own_newN cIntS [0, 4, 3] 3 rfl (by decide) _ rfl (Nat.le_refl _) rfl) rfl
 have bl := bal (Below.refl w18.heap.size w18) (.cells #[.int .i64 0, .int .i64 4, .int .i64 3] 3)
 refine (lrow_any _).mono ?_
 rintro e w19 ⟨rfl, b19⟩
 replace hl := hl.below b19
 replace b19 := bnext b18 (bnext bl b19)
 clear b18 bl
 go_wp2_with fail
 refine (am_order _ _ hl).mono ?_
 rintro e w20 ⟨v20, rfl, h20, b20⟩
 replace hl := hl.below b20
 go_wp2_with fail
 refine (lrow_any _).mono ?_
 rintro e w21 ⟨rfl, b21⟩
 replace hl := hl.below b21
 go_wp2_with fail
 refine (am_cross _ _ hl).mono ?_
 rw [rv_crs2]
 rintro e w22 ⟨v22, rfl, h22, b22⟩
 replace hl := hl.below b22
 go_wp2_with fail
 refine (lrow_any _).mono ?_
 rintro e w23 ⟨rfl, b23⟩
 replace hl := hl.below b23
 go_wp2_with fail
 refine (am_word _ _ hl).mono ?_
 rintro e w24 ⟨v24, rfl, h24, b24⟩
 replace hl := hl.below b24
 go_wp2_with fail
 refine (lrow_any _).mono ?_
 rintro e w25 ⟨rfl, b25⟩
 replace hl := hl.below b25
 go_wp2_with fail
 refine (am_strands _ _ hl).mono ?_
 rintro e w26 ⟨v26, rfl, h26, b26⟩
 replace hl := hl.below b26
 go_wp2_with fail
 refine (lrow_any _).mono ?_
 rintro e w27 ⟨rfl, b27⟩
 replace hl := hl.below b27
 go_wp2_with fail
 refine (am_steps _ _ hl).mono ?_
 rintro e w28 ⟨v28, rfl, h28, b28⟩
 replace hl := hl.below b28
 go_wp2_with fail
 refine (lrow_any _).mono ?_
 rintro e w29 ⟨rfl, b29⟩
 replace hl := hl.below b29
 go_wp2_with fail
 refine (am_mir _ _ hl).mono ?_
 rintro e w30 ⟨ma, mc, v30, rfl, hS30⟩
 have b30 := hS30.b
 obtain ⟨a30, c30, rfl, r30⟩ := hS30.slice 1 rfl
 have rm := hS30.rd 0 rfl
 clear hl hS30
 go_wp2_with fail
 have bm := bal (Below.refl w30.heap.size w30) (.cells #[.bool (turnMac rowM).ring, .int .i64 (turnMac rowM).gears, .int .i64 (turnMac rowM).turn, .slice ma (turnMac rowM).sw.length mc] 24)
 refine (am_word2 _ ma a30 mc c30 (rm.below bm) (r30.below bm)).mono ?_
 rintro e w31 ⟨v31, rfl, h31, b31⟩
 replace b31 := bnext bm b31
 replace r30 := r30.below b31
 clear bm rm
 go_wp2_with fail
 refine (lrow_any _).mono ?_
 rintro e w32 ⟨rfl, b32⟩
 go_wp2_with fail
 refine (am_back _ _ (reps_of_own (own_newN cIntS [4] 1 rfl (by decide) _ rfl (Nat.le_refl _) rfl) rfl)).mono ?_
 rintro e w33 ⟨ba, bc, v33, rfl, hS33⟩
 have b33 := bnext (bal (Below.refl _ _) _) hS33.b
 obtain ⟨a33, c33, rfl, r33⟩ := hS33.slice 1 rfl
 obtain ⟨a20, c20, rfl, r20, _, _⟩ := h20.reps
 obtain ⟨a22, c22, rfl, r22, _, _⟩ := h22.reps
 obtain ⟨a24, c24, rfl, r24, _, _⟩ := h24.reps
 obtain ⟨a26, c26, rfl, r26, _, _⟩ := h26.reps
 obtain ⟨a28, c28, rfl, r28, _, _⟩ := h28.reps
 obtain ⟨a31, c31, rfl, r31, _, _⟩ := h31.reps
 have t31 := bnext b32 b33
 have t30 := bnext b31 t31
 have t28 := bnext b29 (bnext b30 t30)
 have t26 := bnext b27 (bnext b28 t28)
 have t24 := bnext b25 (bnext b26 t26)
 have t22 := bnext b23 (bnext b24 t24)
 have t20 := bnext b21 (bnext b22 t22)
 have t18 := bnext b19 (bnext b20 t20)
 replace r20 := r20.below t20
 replace r22 := r22.below t22
 replace r24 := r24.below t24
 replace r26 := r26.below t26
 replace r28 := r28.below t28
 replace r30 := r30.below t31
 replace r31 := r31.below t31
 clear t20 t22 t24 t26 t28 t30 t31 b19 b20 b21 b22 b23 b24 b25 b26 b27 b28 b29 b30 b31 b32 b33 h20 h22 h24 h26 h28 h31 hS33
 go_wp2_with fail
 have hSb := (SL.nil w33).box (.cells #[.bool (turnMac rowM).ring, .int .i64 (turnMac rowM).gears, .int .i64 (turnMac rowM).turn, .slice ba (turnMac rowM).sw.length bc] 24)
 refine (amSame a20 _ c20 3 3 _ _ (r20.below (bal hSb.b _)) (reps_of_own (own_newN cIntS [0, 2, 1] 3 rfl (by decide) _ (Array.size_push _) (Nat.le_refl _) rfl) rfl) rfl (by decide)).mono ?_
 rintro e w34 ⟨rfl, b34⟩
 replace hSb := (hSb.al _).mono b34
 replace b34 := hSb.b
 replace r22 := r22.below b34
 replace r24 := r24.below b34
 replace r26 := r26.below b34
 replace r28 := r28.below b34
 replace r30 := r30.below b34
 replace r31 := r31.below b34
 replace r33 := r33.below b34
 have hVx : cX (atD (⟨0, 0, 0, 0⟩ : CrM) [⟨0, 2, 0, 0⟩] 0) = .agg #[.int .i64 0, .int .i64 2, .int .i64 0] := rfl
 go_wp2_with (with_reducible refine wpList_idxSG (⟨0, 0, 0, 0⟩ : CrM) (.agg #[.int .i64 0, .int .i64 2, .int .i64 0]) E_xs A_xs cX1 wU wU (r22) rfl (by decide) (by decide) hVx (fun _ => wU) wU (fun _ => wU) (fun _ => ?_))
 refine (amSame a24 _ c24 3 3 _ _ (r24.below (bal (Below.refl _ _) _)) (reps_of_own (own_newN cIntS [-1, 2, 1] 3 rfl (by decide) _ rfl (Nat.le_refl _) rfl) rfl) rfl (by decide)).mono ?_
 rintro e w35 ⟨rfl, b35⟩
 replace b35 := bnext (bal (Below.refl _ _) _) b35
 replace hSb := hSb.mono b35
 replace r26 := r26.below b35
 replace r28 := r28.below b35
 replace r30 := r30.below b35
 replace r31 := r31.below b35
 replace r33 := r33.below b35
 go_wp2_with fail
 refine (amSame a26 _ c26 3 3 _ _ (r26.below (bal (Below.refl _ _) _)) (reps_of_own (own_newN cIntS [2, 1, 0] 3 rfl (by decide) _ rfl (Nat.le_refl _) rfl) rfl) rfl (by decide)).mono ?_
 rintro e w36 ⟨rfl, b36⟩
 replace b36 := bnext (bal (Below.refl _ _) _) b36
 replace hSb := hSb.mono b36
 replace r28 := r28.below b36
 replace r30 := r30.below b36
 replace r31 := r31.below b36
 replace r33 := r33.below b36
 go_wp2_with fail
 refine (amSame a28 _ c28 3 3 _ _ (r28.below (bal (Below.refl _ _) _)) (reps_of_own (own_newN cIntS [6, 2, 7] 3 rfl (by decide) _ rfl (Nat.le_refl _) rfl) rfl) rfl (by decide)).mono ?_
 rintro e w37 ⟨rfl, b37⟩
 replace b37 := bnext (bal (Below.refl _ _) _) b37
 replace hSb := hSb.mono b37
 replace r30 := r30.below b37
 replace r31 := r31.below b37
 replace r33 := r33.below b37
 go_wp2_with fail
 have T37 := bnext t18 hSb.b
 replace hw := hw.below T37
 refine (lrow_any _).mono ?_
 rintro e w38 ⟨rfl, b38⟩
 go_wp2_with fail
 refine (am_print _).mono ?_
 rintro e w39 ⟨rfl, b39⟩
 replace b39 := bnext b38 b39
 replace hw := hw.below b39
 go_wp2_with fail
 refine (am_parse1 _ hw).mono ?_
 rintro e w40 ⟨ya, yc, rfl, hS40⟩
 have b40 := hS40.b
 have ry := hS40.rd 0 rfl
 replace hw := hw.below b40
 have hSy := (SL.nil w40).box (.cells #[.bool true, .int .i64 2, .int .i64 (-1), .slice ya 2 yc] 24)
 replace hw := hw.below hSy.b
 replace ry := ry.below hSy.b
 go_wp2_with fail
 refine (am_parse2 _ hw).mono ?_
 rintro e w41 ⟨⟨zR, zG, zT, za, zn, zc, rfl⟩, b41⟩
 replace hSy := hSy.mono b41
 replace ry := ry.below b41
 have b41 := bnext b39 (bnext b40 hSy.b)
 replace hSb := hSb.mono b41
 replace r30 := r30.below b41
 replace r31 := r31.below b41
 replace r33 := r33.below b41
 go_wp2_with fail
 have bz := bal (Below.refl w41.heap.size w41) (.cells #[.bool zR, .int .i64 zG, .int .i64 zT, .slice za zn zc] 24)
 refine (amSame a30 _ c30 3 3 _ _ (r30.below (bal bz _)) (reps_of_own (own_newN cIntS [0, 4, 1] 3 rfl (by decide) _ (Array.size_push _) (Nat.le_refl _) rfl) rfl) rfl (by decide)).mono ?_
 rintro e w42 ⟨rfl, b42⟩
 replace b42 := bnext (bal bz _) b42
 replace hSb := hSb.mono b42
 replace r31 := r31.below b42
 replace r33 := r33.below b42
 replace hSy := hSy.mono b42
 replace ry := ry.below b42
 go_wp2_with fail
 refine (amSame a31 _ c31 3 3 _ _ (r31.below (bal (Below.refl _ _) _)) (reps_of_own (own_newN cIntS [1, -2, -1] 3 rfl (by decide) _ rfl (Nat.le_refl _) rfl) rfl) rfl (by decide)).mono ?_
 rintro e w43 ⟨rfl, b43⟩
 replace b43 := bnext (bal (Below.refl _ _) _) b43
 replace hSb := hSb.mono b43
 replace r33 := r33.below b43
 replace hSy := hSy.mono b43
 replace ry := ry.below b43
 have qb := (hSb.blk 0 rfl).1
 go_wp2_with (with_reducible refine wpList_ldB F_int wU wU qb wU ?_)
 refine (amSame a33 _ c33 1 1 _ _ (r33.below (bal (Below.refl _ _) _)) (reps_of_own (own_newN cIntS [2] 1 rfl (by decide) _ rfl (Nat.le_refl _) rfl) rfl) rfl (by decide)).mono ?_
 rintro e w44 ⟨rfl, b44⟩
 replace b44 := bnext (bal (Below.refl _ _) _) b44
 replace hSb := hSb.mono b44
 replace hSy := hSy.mono b44
 replace ry := ry.below b44
 have qy := (hSy.blk 0 rfl).1
 clear r33 qb
 go_wp2_with (first | (with_reducible refine wpList_ldB F_int wU wU qy wU ?_) | (with_reducible refine wpList_ldB F_boolM wU wU qy wU ?_) | (with_reducible refine wpList_ldB F_sliceM wU wU qy wU ?_))
 refine (amSame ya _ yc 2 2 _ _ (ry.below (bal (Below.refl _ _) _)) (reps_of_own (own_newN cIntS [0, 1] 2 rfl (by decide) _ rfl (Nat.le_refl _) rfl) rfl) rfl (by decide)).mono ?_
 rintro e w45 ⟨rfl, b45⟩
 replace b45 := bnext (bal (Below.refl _ _) _) b45
 replace hSb := hSb.mono b45
 replace b45 := bnext t18 hSb.b
 go_wp2_with fail
 go_ret
 exact ⟨rfl, b45⟩
end Go.Proofs.YtndmeaoidihikaaGreatDoor
