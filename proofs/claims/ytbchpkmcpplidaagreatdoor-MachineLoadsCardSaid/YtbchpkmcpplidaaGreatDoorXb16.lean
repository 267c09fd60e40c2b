/- Contracts and plain facts that the claim uses (AwM IxG AwN K1 QrF QrQ QrG). Conditions: as each one states. -/
import Derived.Test.YtbchpkmcpplidaaGreatDoorXb01
import Derived.Test.YtbchpkmcpplidaaGreatDoorXb02
import Derived.Test.YtbchpkmcpplidaaGreatDoorXb04
import Derived.Test.YtbchpkmcpplidaaGreatDoorXb05
import Derived.Test.YtbchpkmcpplidaaGreatDoorXb06
import Derived.Test.YtbchpkmcpplidaaGreatDoorXb07
import Derived.Test.YtbchpkmcpplidaaGreatDoorXb08
import Derived.Test.YtbchpkmcpplidaaGreatDoorXb09
import Derived.Test.YtbchpkmcpplidaaGreatDoorXb10
import Derived.Test.YtbchpkmcpplidaaGreatDoorXb11
import Derived.Test.YtbchpkmcpplidaaGreatDoorXb14
import Derived.Test.YtbchpkmcpplidaaGreatDoorXb15
set_option linter.all false

namespace Go.Proofs.YtbchpkmcpplidaaGreatDoor
open Go.RowKit
set_option maxHeartbeats 8000000
set_option maxRecDepth 100000
theorem row_ck : ChkM rowM none 0 := fun w h => CheckMachine_any rowM none 0 w h (by show InI (2 : Int); unfold InI; omega)
theorem row_ckl (al : Option Addr) (cl : Nat) (l : List Int) : ChkL rowM none 0 al cl l := CheckLoad_any rowM none 0 al cl l row_ck
theorem lrow_any (w : World) : Calls Tryz.prog 56 #[] w fun r w' => r = .returned (mV rowM none 0) ∧ Below w.heap.size w w' := by
 have hS := (SL.nil w).box (.cells #[.bool false, .int .i64 2, .int .i64 1, .slice none 0 0] 24)
 go_enter Tryz.func56, Tryz.ntmps56
 go_wp2_with fail
 exact bodyPost_ret (results_cell rfl rfl A_mach (by kernel_rfl) (hS.blk 0 rfl).1) rfl ⟨rfl, hS.b⟩
theorem am_perm (w : World) : Calls Tryz.prog 12 #[mV rowM none 0] w fun r w' => ∃ v, r = .returned (.tuple #[v, .int .i64 0]) ∧ OwnI w.heap.size w' v [1, 4, 3, 0, 7, 2, 5, 6] ∧ Below w.heap.size w w' := by
 have h := mPerm_any rowM none 0 w (ints_nil _) row_ck
 rw [rv_mac, if_pos rfl, rv_perm] at h
 exact h
theorem am_paths (w : World) : Calls Tryz.prog 13 #[mV rowM none 0] w fun r w' => ∃ (v : Value) (qs : List (SlH × List Int)), r = .returned (.tuple #[v, .int .i64 0]) ∧ qs.map Prod.snd = [[0, 1, 4, 7, 6, 5, 2, 3]] ∧ SL w.heap.size w w' (pOwn cSl 1 22 v (qs.map Prod.fst) :: qs.map inP) := by
 have h := mPaths_any rowM none 0 w (ints_nil _) row_ck
 rw [rv_mac, if_pos rfl, rv_cyc] at h
 exact h
theorem am_period (w : World) : Calls Tryz.prog 14 #[mV rowM none 0] w fun r w' => r = .returned (.tuple #[.string ⟨#[56]⟩, .int .i64 0]) ∧ Below w.heap.size w w' := by
 have h := mPeriod_any rowM none 0 w (ints_nil _) row_ck (fun w' _ => itoaOk_small _ _ (by decide +kernel) (by decide +kernel))
 rw [rv_mac, if_pos rfl, rv_per] at h
 exact h
theorem am_meet (w : World) (al : Option Addr) (hL : Ints w al 2 [0, 6]) : Calls Tryz.prog 28 #[mV rowM none 0, .slice al 2 2] w fun r w' => r = .returned (.tuple #[.int .i64 2, .int .i64 1, .int .i64 0]) ∧ Below w.heap.size w w' := by
 have h := mMeet_any rowM none 0 al 2 [0, 6] w (ints_nil _) hL (row_ckl _ _ _)
 rw [rv_meet] at h
 exact h
theorem am_acc (w : World) (al : Option Addr) (hL : Ints w al 2 [0, 1]) : Calls Tryz.prog 29 #[mV rowM none 0, .slice al 2 2] w fun r w' => r = .returned (.int .i64 0) ∧ Below w.heap.size w w' := by
 have h := mAccept_any rowM none 0 al 2 [0, 1] w (ints_nil _) hL (row_ckl _ _ _)
 rw [rv_acc] at h
 exact h
theorem am_fill (w : World) : Calls Tryz.prog 31 #[mV rowM none 0] w fun r w' => ∃ v, r = .returned (.tuple #[v, .int .i64 0]) ∧ OwnI w.heap.size w' v [0, 1, 2, 3] ∧ Below w.heap.size w w' := by
 have h := mFill_any rowM none 0 w (ints_nil _) row_ck
 rw [rv_fillE, if_pos rfl, rv_fill] at h
 exact h
theorem am_free (w : World) (al : Option Addr) (hL : Ints w al 3 [0, 1, 2]) : Calls Tryz.prog 33 #[mV rowM none 0, .slice al 3 3] w fun r w' => ∃ v, r = .returned (.tuple #[v, .int .i64 0]) ∧ OwnI w.heap.size w' v [3, 7] ∧ Below w.heap.size w w' := by
 have h := mFree_any rowM none 0 al 3 [0, 1, 2] w (ints_nil _) hL (row_ckl _ _ _)
 rw [rv_acc3, if_pos rfl, rv_free] at h
 exact h
theorem am_order (w : World) (al : Option Addr) (hL : Ints w al 3 [0, 4, 3]) : Calls Tryz.prog 35 #[mV rowM none 0, .slice al 3 3] w fun r w' => ∃ v, r = .returned (.tuple #[v, .int .i64 0]) ∧ OwnI w.heap.size w' v [0, 2, 1] ∧ Below w.heap.size w w' := by
 have h := mOrder_any rowM none 0 al 3 [0, 4, 3] w (ints_nil _) hL (row_ckl _ _ _)
 rw [rv_ordE, if_pos rfl, rv_ord] at h
 exact h
theorem am_cross (w : World) (al : Option Addr) (hL : Ints w al 3 [0, 4, 3]) : Calls Tryz.prog 36 #[mV rowM none 0, .slice al 3 3] w fun r w' => ∃ v, r = .returned (.tuple #[v, .int .i64 0]) ∧ Own cX 3 w.heap.size 86 w' v (crossM rowM [0, 4, 3]) ∧ Below w.heap.size w w' := by
 have h := mCrossings_any rowM none 0 al 3 [0, 4, 3] w (ints_nil _) hL (row_ckl _ _ _)
 rw [rv_crsE, if_pos rfl] at h
 exact h
theorem am_word (w : World) (al : Option Addr) (hL : Ints w al 3 [0, 4, 3]) : Calls Tryz.prog 37 #[mV rowM none 0, .slice al 3 3, .int .i64 4] w fun r w' => ∃ v, r = .returned (.tuple #[v, .int .i64 0]) ∧ OwnI w.heap.size w' v [-1, 2, 1] ∧ Below w.heap.size w w' := by
 have h := mWord_any rowM none 0 al 3 [0, 4, 3] 4 w (ints_nil _) hL (row_ckl _ _ _)
 rw [rv_wrdE, if_pos rfl, rv_wrd] at h
 exact h
theorem am_strands (w : World) (al : Option Addr) (hL : Ints w al 3 [0, 4, 3]) : Calls Tryz.prog 38 #[mV rowM none 0, .slice al 3 3, .int .i64 4] w fun r w' => ∃ v, r = .returned (.tuple #[v, .int .i64 0]) ∧ OwnI w.heap.size w' v [2, 1, 0] ∧ Below w.heap.size w w' := by
 have h := mStrands_any rowM none 0 al 3 [0, 4, 3] 4 w (ints_nil _) hL (row_ckl _ _ _)
 rw [rv_wvE, if_pos rfl, rv_str] at h
 exact h
theorem am_steps (w : World) (al : Option Addr) (hL : Ints w al 3 [0, 4, 3]) : Calls Tryz.prog 22 #[mV rowM none 0, .slice al 3 3, .int .i64 4] w fun r w' => ∃ v, r = .returned (.tuple #[v, .int .i64 0]) ∧ OwnI w.heap.size w' v [6, 2, 7] ∧ Below w.heap.size w w' := by
 have h := mSteps_any rowM none 0 al 3 [0, 4, 3] 4 w (ints_nil _) hL (row_ckl _ _ _)
 rw [rv_stE, if_pos rfl, show (4 : Int).toNat = 4 from rfl, rv_st] at h
 exact h
theorem am_mir (w : World) (al : Option Addr) (hL : Ints w al 3 [0, 4, 3]) : Calls Tryz.prog 52 #[mV rowM none 0, .slice al 3 3] w fun r w' => ∃ a c v, r = .returned (.tuple #[mV (turnMac rowM) a c, v, .int .i64 0]) ∧ SL w.heap.size w w' [pOwn cInt 1 3 (.slice a 0 c) [], pOwn cInt 1 3 v [0, 4, 1]] := by
 have h := mMirrored_any rowM none 0 al 3 [0, 4, 3] w (ints_nil _) hL (row_ckl _ _ _)
 rw [rv_ldE] at h
 simp only [if_true] at h
 rw [rv_mir] at h
 exact h
theorem am_back (w : World) (al : Option Addr) (hL : Ints w al 1 [4]) : Calls Tryz.prog 53 #[mV rowM none 0, .slice al 1 1] w fun r w' => ∃ a c v, r = .returned (.tuple #[mV (turnMac rowM) a c, v, .int .i64 0]) ∧ SL w.heap.size w w' [pOwn cInt 1 3 (.slice a 0 c) [], pOwn cInt 1 3 v [2]] := by
 have h := mBackwards_any rowM none 0 al 1 [4] w (ints_nil _) hL (row_ckl _ _ _)
 rw [rv_bkE] at h
 simp only [if_true] at h
 rw [rv_bk] at h
 exact h
theorem am_print (w : World) : Calls Tryz.prog 47 #[mV rowM none 0] w fun r w' => r = .returned (.tuple #[.string ⟨#[114, 111, 119, 32, 50, 32, 43, 32, 110, 111, 110, 101]⟩, .int .i64 0]) ∧ Below w.heap.size w w' := by
 have h := mPrint_any rowM none 0 w (ints_nil _) row_ck (fun _ x hx => by cases hx)
 rw [rv_mac, if_pos rfl, rv_print] at h
 exact h
theorem am_parse1 (w : World) (hw : LibW w) : Calls Tryz.prog 48 #[.string ⟨#[114, 105, 110, 103, 32, 50, 32, 45, 32, 48, 44, 49]⟩] w fun r w' => ∃ a c, r = .returned (.tuple #[.agg #[.bool true, .int .i64 2, .int .i64 (-1), .slice a 2 c], .int .i64 0]) ∧ SL w.heap.size w w' [pOwn cInt 1 3 (.slice a 2 c) [0, 1]] := by
 have h := mParse_any [114, 105, 110, 103, 32, 50, 32, 45, 32, 48, 44, 49] w hw (by decide)
 rw [rv_parse1] at h
 exact h
theorem am_parse2 (w : World) (hw : LibW w) : Calls Tryz.prog 48 #[.string ⟨#[114, 105, 110, 103, 32, 51, 32, 43, 32, 110, 111, 110, 101]⟩] w fun r w' => (∃ (R : Bool) (G T : Int) (a : Option Addr) (n c : Nat), r = .returned (.tuple #[.agg #[.bool R, .int .i64 G, .int .i64 T, .slice a n c], .int .i64 17])) ∧ Below w.heap.size w w' := by
 have h := mParse_any [114, 105, 110, 103, 32, 51, 32, 43, 32, 110, 111, 110, 101] w hw (by decide)
 refine h.mono ?_
 rintro r w' ⟨a, c, rfl, hS⟩
 rw [rv_parse2]
 exact ⟨⟨_, _, _, _, _, _, rfl⟩, hS.b⟩
end Go.Proofs.YtbchpkmcpplidaaGreatDoor

namespace Go.Proofs.YtbchpkmcpplidaaGreatDoor
open Go.RowKit
set_option maxRecDepth 100000
section
variable {P : Program} {ops : Array Oper} {rest : List Oper} {a : Act} {α : Type} {c : α → Value} {sz bytes n : Nat} {t e : TypeId} {z : Value} {ad : Option Addr} {cap : Nat} {l : List α} {k : Int}
 {d1 d2 : Tmp} {ty1 ty2 : TypeId} {p1 p2 : String} {s x : Operand} {af1 af2 : Array Edge} {g1 g2 : Option (Nat × Bool)} {w : World}
/-- the load of an element that is known, guarded. -/
theorem wpList_idxSG {Q : Exit → Act → World → Prop} (d : α) (V : Value) (E : ETy P t e z sz bytes) (hF : Aggr P e) (hc : ∀ x, c x = .agg (c x).cells)
   (hs : a.eval s = .slice ad n cap) (hx : a.eval x = .int .i64 k) (hR : Reps c sz w ad cap l) (hn : l.length = n) (h0 : 0 ≤ k) (hlt : k < n) (hV : c (atD d l k) = V) (hd : ∀ p, (a.put (some d1) p).eval (.tmp d1) = p)
   (hw1 : Region.wanted ⟨some d1, .indexAddr t s x, ty1, p1, af1, g1⟩ (yielded ops a.tmps) = true) (hw2 : ∀ p, Region.wanted ⟨some d2, .load e (.tmp d1), ty2, p2, af2, g2⟩ (yielded ops (a.put (some d1) p).tmps) = true)
   (hK : ∀ p, wpList P ops Q rest ((a.put (some d1) p).put (some d2) V) w) :
   wpList P ops Q (⟨some d1, .indexAddr t s x, ty1, p1, af1, g1⟩ :: ⟨some d2, .load e (.tmp d1), ty2, p2, af2, g2⟩ :: rest) a w := by
 subst hn hV
 obtain ⟨p, hr1, hr2⟩ := run_idx_agg d E hF hR hc h0 hlt
 refine wpList_step fun K hK' => ?_
 rw [if_pos hw1]
 unfold Oper.wp
 simp only [execOp, hs, hx]
 simp [hr1, Result.andThen]
 refine hK' _ _ (wpList_step fun K2 hK2 => ?_)
 rw [if_pos (hw2 _)]
 unfold Oper.wp
 simp only [execOp, hd]
 simp [hr2, Result.andThen]
 exact hK2 _ _ (hK _)
end
end Go.Proofs.YtbchpkmcpplidaaGreatDoor

namespace Go.Proofs.YtbchpkmcpplidaaGreatDoor
open Go.RowKit
set_option maxHeartbeats 8000000
set_option maxRecDepth 100000
theorem amSame (a a2 : Option Addr) (cap cap2 n : Nat) (l : List Int) (w : World) (h : Ints w a cap l) (h2 : Ints w a2 cap2 l) (hn : l.length = n) (hs : n ≤ 1048576) : Calls Tryz.prog 16 #[.slice a n cap, .slice a2 n cap2] w fun r w' => r = .returned (.bool true) ∧ Below w.heap.size w w' := by
 subst hn
 have := SameInts_any a a2 cap cap2 l l w h h2 hs
 rw [decide_eq_true rfl] at this
 exact this
theorem leads1 {w : World} {xa : Option Addr} {xc n : Nat} {x : List Int} (h : Ints w xa xc x) (hn : x.length = n) (hs : n ≤ 1048576) : LeadsTo w [(xa, n, xc)] [x] := by
 subst hn
 intro k hk
 have : k = 0 := by simpa using hk
 subst this
 exact ⟨xa, xc, rfl, h, hs⟩
theorem am_word2 (w : World) (ma al : Option Addr) (mc cl : Nat) (hM : Ints w ma mc []) (hL : Ints w al cl [0, 4, 1]) : Calls Tryz.prog 37 #[mV (turnMac rowM) ma mc, .slice al 3 cl, .int .i64 4] w fun r w' => ∃ v, r = .returned (.tuple #[v, .int .i64 0]) ∧ OwnI w.heap.size w' v [1, -2, -1] ∧ Below w.heap.size w w' := by
 have h := mWord_any (turnMac rowM) ma mc al cl [0, 4, 1] 4 w hM hL (CheckLoad_any _ ma mc al cl _ (fun w h => CheckMachine_any (turnMac rowM) ma mc w h (by show InI (2 : Int); unfold InI; omega)))
 rw [rv_mwE, if_pos rfl, rv_mw] at h
 exact h
theorem rv_crs2 : crossM rowM [0, 4, 3] = [⟨0, 2, 0, 0⟩] := by first | rfl | decide | kernel_rfl
-- MARK
theorem awake4_any (w : World) (hw : LibW w) : Calls Tryz.prog 8 #[] w fun r w' => r = .returned (.bool true) ∧ Below w.heap.size w w' := by
 go_enter Tryz.func8, Tryz.ntmps8
 go_wp2_with fail
 refine (lrow_any w).mono ?_
 rintro e w1 ⟨rfl, b1⟩
 go_wp2_with fail
 refine (am_perm w1).mono ?_
 rintro e w2 ⟨v2, rfl, h2, b2⟩
 go_wp2_with fail
 refine (lrow_any w2).mono ?_
 rintro e w3 ⟨rfl, b3⟩
 go_wp2_with fail
 refine (am_paths w3).mono ?_
 rintro e w4 ⟨v4, qs, rfl, hq, hS4⟩
 have b4 := hS4.b
 go_wp2_with fail
 refine (lrow_any w4).mono ?_
 rintro e w5 ⟨rfl, b5⟩
 go_wp2_with fail
 refine (am_period w5).mono ?_
 rintro e w6 ⟨rfl, b6⟩
 go_wp2_with fail
 refine (lrow_any w6).mono ?_
 rintro e w7 ⟨rfl, b7⟩
 go_wp2_with fail
 refine (am_meet _ _ (reps_of_own (own_newN cIntS [0, 6] 2 rfl (by decide) _ rfl (Nat.le_refl _) rfl) rfl)).mono ?_
 rintro e w8 ⟨rfl, b8⟩
 replace b8 := bnext (bal (Below.refl _ _) _) b8
 go_wp2_with fail
 refine (lrow_any w8).mono ?_
 rintro e w9 ⟨rfl, b9⟩
 go_wp2_with fail
 refine (am_acc _ _ (reps_of_own (own_newN cIntS [0, 1] 2 rfl (by decide) _ rfl (Nat.le_refl _) rfl) rfl)).mono ?_
 rintro e w10 ⟨rfl, b10⟩
 replace b10 := bnext (bal (Below.refl _ _) _) b10
 go_wp2_with fail
 refine (lrow_any w10).mono ?_
 rintro e w11 ⟨rfl, b11⟩
 go_wp2_with fail
 refine (am_fill w11).mono ?_
 rintro e w12 ⟨v12, rfl, h12, b12⟩
 go_wp2_with fail
 refine (lrow_any w12).mono ?_
 rintro e w13 ⟨rfl, b13⟩
 go_wp2_with fail
 refine (am_free _ _ (reps_of_own (own_newN cIntS [0, 1, 2] 3 rfl (by decide) _ rfl (Nat.le_refl _) rfl) rfl)).mono ?_
 rintro e w14 ⟨v14, rfl, h14, b14⟩
 replace b14 := bnext (bal (Below.refl _ _) _) b14
 obtain ⟨a2, c2, rfl, r2, _, _⟩ := h2.reps
 obtain ⟨a12, c12, rfl, r12, _, _⟩ := h12.reps
 obtain ⟨a14, c14, rfl, r14, _, _⟩ := h14.reps
 have t12 := bnext b13 b14
 have t4 := bnext b5 (bnext b6 (bnext b7 (bnext b8 (bnext b9 (bnext b10 (bnext b11 (bnext b12 t12)))))))
 have t2 := bnext b3 (bnext b4 t4)
 have t0 := bnext b1 (bnext b2 t2)
 replace r2 := r2.below t2
 replace r12 := r12.below t12
 have hS14 := hS4.mono t4
 clear b1 b2 b3 b4 b5 b6 b7 b8 b9 b10 b11 b12 b13 b14 t12 t4 t2 h2 h12 h14 hS4
 match qs, hq, hS14 with
 | [((xa, xn, xc), ql)], hq, hS14 =>
 have eql : ql = [0, 1, 4, 7, 6, 5, 2, 3] := by simpa using hq
 subst eql
 obtain ⟨a4, c4, rfl, r4, _, _⟩ := (hS14.own 0 rfl).reps
 have r4 : Reps cSl 1 w14 a4 c4 [(xa, xn, xc)] := r4
 obtain ⟨xa', xc', ex, rx, _, _⟩ := (hS14.own (c := cInt) (l := [0, 1, 4, 7, 6, 5, 2, 3]) 1 rfl).reps
 have ex2 : xa = xa' ∧ xn = 8 ∧ xc = xc' := by simpa [cSl] using ex
 obtain ⟨rfl, rfl, rfl⟩ := ex2
 clear ex hq hS14
 go_wp2_with fail
 refine (amSame a2 _ c2 8 8 _ _ (r2.below (bal (Below.refl _ _) _)) (reps_of_own (own_newN cIntS [1, 4, 3, 0, 7, 2, 5, 6] 8 rfl (by decide) _ rfl (Nat.le_refl _) rfl) rfl) rfl (by decide)).mono ?_
 rintro e w15 ⟨rfl, b15⟩
 replace b15 := bnext (bal (Below.refl _ _) _) b15
 replace r4 := r4.below b15
 replace rx := rx.below b15
 replace r12 := r12.below b15
 replace r14 := r14.below b15
 replace b15 := bnext t0 b15
 clear t0 r2
 go_wp2_with fail
 have hin : Ints ((w15.alloc (.cells #[.int .i64 0, .int .i64 1, .int .i64 4, .int .i64 7, .int .i64 6, .int .i64 5, .int .i64 2, .int .i64 3] 3)).alloc (.cells #[.slice (some ⟨w15.heap.size, 0, none⟩) 8 8] 22)) (some ⟨w15.heap.size, 0, none⟩) 8 [0, 1, 4, 7, 6, 5, 2, 3] :=
  (reps_of_own (own_newN cIntS [0, 1, 4, 7, 6, 5, 2, 3] 8 rfl (by decide) _ rfl (Nat.le_refl _) rfl) rfl).below (bal (Below.refl _ _) _)
 have bb := bal (bal (Below.refl w15.heap.size w15) (.cells #[.int .i64 0, .int .i64 1, .int .i64 4, .int .i64 7, .int .i64 6, .int .i64 5, .int .i64 2, .int .i64 3] 3)) (.cells #[.slice (some ⟨w15.heap.size, 0, none⟩) 8 8] 22)
 refine (SamePerms_any a4 _ c4 1 [(xa, 8, xc)] [(some ⟨w15.heap.size, 0, none⟩, 8, 8)] [[0, 1, 4, 7, 6, 5, 2, 3]] 1 _ (r4.below bb) (reps_of_own (own_newN cSlS [(some ⟨w15.heap.size, 0, none⟩, 8, 8)] 1 rfl (by decide) _ (Array.size_push _) (Nat.le_refl _) rfl) rfl) rfl rfl rfl (leads1 (rx.below bb) rfl (by decide)) (leads1 hin rfl (by decide)) (by decide)).mono ?_
 rintro e w16 ⟨rfl, b16⟩
 replace b16 := bnext bb b16
 replace r12 := r12.below b16
 replace r14 := r14.below b16
 replace b16 := bnext b15 b16
 clear b15 bb hin r4 rx
 go_wp2_with fail
 refine (amSame a12 _ c12 4 4 _ _ (r12.below (bal (Below.refl _ _) _)) (reps_of_own (own_newN cIntS [0, 1, 2, 3] 4 rfl (by decide) _ rfl (Nat.le_refl _) rfl) rfl) rfl (by decide)).mono ?_
 rintro e w17 ⟨rfl, b17⟩
 replace b17 := bnext (bal (Below.refl _ _) _) b17
 replace r14 := r14.below b17
 replace b17 := bnext b16 b17
 clear b16 r12
 go_wp2_with fail
 refine (amSame a14 _ c14 2 2 _ _ (r14.below (bal (Below.refl _ _) _)) (reps_of_own (own_newN cIntS [3, 7] 2 rfl (by decide) _ rfl (Nat.le_refl _) rfl) rfl) rfl (by decide)).mono ?_
 rintro e w18 ⟨rfl, b18⟩
 replace b18 := bnext (bal (Below.refl _ _) _) b18
 replace b18 := bnext b17 b18
 clear b17 r14
 go_wp2_with fail
 have hl : Ints (w18.alloc (.cells #[.int .i64 0, .int .i64 4, .int .i64 3] 3)) (some ⟨w18.heap.size, 0, none⟩) 3 [0, 4, 3] := reps_of_own (own_newN cIntS [0, 4, 3] 3 rfl (by decide) _ rfl (Nat.le_refl _) rfl) rfl
 have bl := bal (Below.refl w18.heap.size w18) (.cells #[.int .i64 0, .int .i64 4, .int .i64 3] 3)
 refine (lrow_any _).mono ?_
 rintro e w19 ⟨rfl, b19⟩
 replace hl := hl.below b19
 replace b19 := bnext b18 (bnext bl b19)
 clear b18 bl
 go_wp2_with fail
 refine (am_order _ _ hl).mono ?_
 rintro e w20 ⟨v20, rfl, h20, b20⟩
 replace hl := hl.below b20
 go_wp2_with fail
 refine (lrow_any _).mono ?_
 rintro e w21 ⟨rfl, b21⟩
 replace hl := hl.below b21
 go_wp2_with fail
 refine (am_cross _ _ hl).mono ?_
 rw [rv_crs2]
 rintro e w22 ⟨v22, rfl, h22, b22⟩
 replace hl := hl.below b22
 go_wp2_with fail
 refine (lrow_any _).mono ?_
 rintro e w23 ⟨rfl, b23⟩
 replace hl := hl.below b23
 go_wp2_with fail
 refine (am_word _ _ hl).mono ?_
 rintro e w24 ⟨v24, rfl, h24, b24⟩
 replace hl := hl.below b24
 go_wp2_with fail
 refine (lrow_any _).mono ?_
 rintro e w25 ⟨rfl, b25⟩
 replace hl := hl.below b25
 go_wp2_with fail
 refine (am_strands _ _ hl).mono ?_
 rintro e w26 ⟨v26, rfl, h26, b26⟩
 replace hl := hl.below b26
 go_wp2_with fail
 refine (lrow_any _).mono ?_
 rintro e w27 ⟨rfl, b27⟩
 replace hl := hl.below b27
 go_wp2_with fail
 refine (am_steps _ _ hl).mono ?_
 rintro e w28 ⟨v28, rfl, h28, b28⟩
 replace hl := hl.below b28
 go_wp2_with fail
 refine (lrow_any _).mono ?_
 rintro e w29 ⟨rfl, b29⟩
 replace hl := hl.below b29
 go_wp2_with fail
 refine (am_mir _ _ hl).mono ?_
 rintro e w30 ⟨ma, mc, v30, rfl, hS30⟩
 have b30 := hS30.b
 obtain ⟨a30, c30, rfl, r30⟩ := hS30.slice 1 rfl
 have rm := hS30.rd 0 rfl
 clear hl hS30
 go_wp2_with fail
 have bm := bal (Below.refl w30.heap.size w30) (.cells #[.bool (turnMac rowM).ring, .int .i64 (turnMac rowM).gears, .int .i64 (turnMac rowM).turn, .slice ma (turnMac rowM).sw.length mc] 24)
 refine (am_word2 _ ma a30 mc c30 (rm.below bm) (r30.below bm)).mono ?_
 rintro e w31 ⟨v31, rfl, h31, b31⟩
 replace b31 := bnext bm b31
 replace r30 := r30.below b31
 clear bm rm
 go_wp2_with fail
 refine (lrow_any _).mono ?_
 rintro e w32 ⟨rfl, b32⟩
 go_wp2_with fail
 refine (am_back _ _ (reps_of_own (own_newN cIntS [4] 1 rfl (by decide) _ rfl (Nat.le_refl _) rfl) rfl)).mono ?_
 rintro e w33 ⟨ba, bc, v33, rfl, hS33⟩
 have b33 := bnext (bal (Below.refl _ _) _) hS33.b
 obtain ⟨a33, c33, rfl, r33⟩ := hS33.slice 1 rfl
 obtain ⟨a20, c20, rfl, r20, _, _⟩ := h20.reps
 obtain ⟨a22, c22, rfl, r22, _, _⟩ := h22.reps
 obtain ⟨a24, c24, rfl, r24, _, _⟩ := h24.reps
 obtain ⟨a26, c26, rfl, r26, _, _⟩ := h26.reps
 obtain ⟨a28, c28, rfl, r28, _, _⟩ := h28.reps
 obtain ⟨a31, c31, rfl, r31, _, _⟩ := h31.reps
 have t31 := bnext b32 b33
 have t30 := bnext b31 t31
 have t28 := bnext b29 (bnext b30 t30)
 have t26 := bnext b27 (bnext b28 t28)
 have t24 := bnext b25 (bnext b26 t26)
 have t22 := bnext b23 (bnext b24 t24)
 have t20 := bnext b21 (bnext b22 t22)
 have t18 := bnext b19 (bnext b20 t20)
 replace r20 := r20.below t20
 replace r22 := r22.below t22
 replace r24 := r24.below t24
 replace r26 := r26.below t26
 replace r28 := r28.below t28
 replace r30 := r30.below t31
 replace r31 := r31.below t31
 clear t20 t22 t24 t26 t28 t30 t31 b19 b20 b21 b22 b23 b24 b25 b26 b27 b28 b29 b30 b31 b32 b33 h20 h22 h24 h26 h28 h31 hS33
 go_wp2_with fail
 have hSb := (SL.nil w33).box (.cells #[.bool (turnMac rowM).ring, .int .i64 (turnMac rowM).gears, .int .i64 (turnMac rowM).turn, .slice ba (turnMac rowM).sw.length bc] 24)
 refine (amSame a20 _ c20 3 3 _ _ (r20.below (bal hSb.b _)) (reps_of_own (own_newN cIntS [0, 2, 1] 3 rfl (by decide) _ (Array.size_push _) (Nat.le_refl _) rfl) rfl) rfl (by decide)).mono ?_
 rintro e w34 ⟨rfl, b34⟩
 replace hSb := (hSb.al _).mono b34
 replace b34 := hSb.b
 replace r22 := r22.below b34
 replace r24 := r24.below b34
 replace r26 := r26.below b34
 replace r28 := r28.below b34
 replace r30 := r30.below b34
 replace r31 := r31.below b34
 replace r33 := r33.below b34
 have hVx : cX (atD (⟨0, 0, 0, 0⟩ : CrM) [⟨0, 2, 0, 0⟩] 0) = .agg #[.int .i64 0, .int .i64 2, .int .i64 0] := rfl
 go_wp2_with (with_reducible refine wpList_idxSG (⟨0, 0, 0, 0⟩ : CrM) (.agg #[.int .i64 0, .int .i64 2, .int .i64 0]) E_xs A_xs cX1 (by with_unfolding_all rfl) (by with_unfolding_all rfl) (r22) rfl (by decide) (by decide) hVx (fun _ => by with_unfolding_all rfl) (by with_unfolding_all rfl) (fun _ => by with_unfolding_all rfl) (fun _ => ?_))
 refine (amSame a24 _ c24 3 3 _ _ (r24.below (bal (Below.refl _ _) _)) (reps_of_own (own_newN cIntS [-1, 2, 1] 3 rfl (by decide) _ rfl (Nat.le_refl _) rfl) rfl) rfl (by decide)).mono ?_
 rintro e w35 ⟨rfl, b35⟩
 replace b35 := bnext (bal (Below.refl _ _) _) b35
 replace hSb := hSb.mono b35
 replace r26 := r26.below b35
 replace r28 := r28.below b35
 replace r30 := r30.below b35
 replace r31 := r31.below b35
 replace r33 := r33.below b35
 go_wp2_with fail
 refine (amSame a26 _ c26 3 3 _ _ (r26.below (bal (Below.refl _ _) _)) (reps_of_own (own_newN cIntS [2, 1, 0] 3 rfl (by decide) _ rfl (Nat.le_refl _) rfl) rfl) rfl (by decide)).mono ?_
 rintro e w36 ⟨rfl, b36⟩
 replace b36 := bnext (bal (Below.refl _ _) _) b36
 replace hSb := hSb.mono b36
 replace r28 := r28.below b36
 replace r30 := r30.below b36
 replace r31 := r31.below b36
 replace r33 := r33.below b36
 go_wp2_with fail
 refine (amSame a28 _ c28 3 3 _ _ (r28.below (bal (Below.refl _ _) _)) (reps_of_own (own_newN cIntS [6, 2, 7] 3 rfl (by decide) _ rfl (Nat.le_refl _) rfl) rfl) rfl (by decide)).mono ?_
 rintro e w37 ⟨rfl, b37⟩
 replace b37 := bnext (bal (Below.refl _ _) _) b37
 replace hSb := hSb.mono b37
 replace r30 := r30.below b37
 replace r31 := r31.below b37
 replace r33 := r33.below b37
 go_wp2_with fail
 have T37 := bnext t18 hSb.b
 replace hw := hw.below T37
 refine (lrow_any _).mono ?_
 rintro e w38 ⟨rfl, b38⟩
 go_wp2_with fail
 refine (am_print _).mono ?_
 rintro e w39 ⟨rfl, b39⟩
 replace b39 := bnext b38 b39
 replace hw := hw.below b39
 go_wp2_with fail
 refine (am_parse1 _ hw).mono ?_
 rintro e w40 ⟨ya, yc, rfl, hS40⟩
 have b40 := hS40.b
 have ry := hS40.rd 0 rfl
 replace hw := hw.below b40
 have hSy := (SL.nil w40).box (.cells #[.bool true, .int .i64 2, .int .i64 (-1), .slice ya 2 yc] 24)
 replace hw := hw.below hSy.b
 replace ry := ry.below hSy.b
 go_wp2_with fail
 refine (am_parse2 _ hw).mono ?_
 rintro e w41 ⟨⟨zR, zG, zT, za, zn, zc, rfl⟩, b41⟩
 replace hSy := hSy.mono b41
 replace ry := ry.below b41
 have b41 := bnext b39 (bnext b40 hSy.b)
 replace hSb := hSb.mono b41
 replace r30 := r30.below b41
 replace r31 := r31.below b41
 replace r33 := r33.below b41
 go_wp2_with fail
 have bz := bal (Below.refl w41.heap.size w41) (.cells #[.bool zR, .int .i64 zG, .int .i64 zT, .slice za zn zc] 24)
 refine (amSame a30 _ c30 3 3 _ _ (r30.below (bal bz _)) (reps_of_own (own_newN cIntS [0, 4, 1] 3 rfl (by decide) _ (Array.size_push _) (Nat.le_refl _) rfl) rfl) rfl (by decide)).mono ?_
 rintro e w42 ⟨rfl, b42⟩
 replace b42 := bnext (bal bz _) b42
 replace hSb := hSb.mono b42
 replace r31 := r31.below b42
 replace r33 := r33.below b42
 replace hSy := hSy.mono b42
 replace ry := ry.below b42
 go_wp2_with fail
 refine (amSame a31 _ c31 3 3 _ _ (r31.below (bal (Below.refl _ _) _)) (reps_of_own (own_newN cIntS [1, -2, -1] 3 rfl (by decide) _ rfl (Nat.le_refl _) rfl) rfl) rfl (by decide)).mono ?_
 rintro e w43 ⟨rfl, b43⟩
 replace b43 := bnext (bal (Below.refl _ _) _) b43
 replace hSb := hSb.mono b43
 replace r33 := r33.below b43
 replace hSy := hSy.mono b43
 replace ry := ry.below b43
 have qb := (hSb.blk 0 rfl).1
 go_wp2_with (with_reducible refine wpList_ldB F_int (by with_unfolding_all rfl) (by with_unfolding_all rfl) qb (by with_unfolding_all rfl) ?_)
 refine (amSame a33 _ c33 1 1 _ _ (r33.below (bal (Below.refl _ _) _)) (reps_of_own (own_newN cIntS [2] 1 rfl (by decide) _ rfl (Nat.le_refl _) rfl) rfl) rfl (by decide)).mono ?_
 rintro e w44 ⟨rfl, b44⟩
 replace b44 := bnext (bal (Below.refl _ _) _) b44
 replace hSb := hSb.mono b44
 replace hSy := hSy.mono b44
 replace ry := ry.below b44
 have qy := (hSy.blk 0 rfl).1
 clear r33 qb
 go_wp2_with (first | (with_reducible refine wpList_ldB F_int (by with_unfolding_all rfl) (by with_unfolding_all rfl) qy (by with_unfolding_all rfl) ?_) | (with_reducible refine wpList_ldB F_boolM (by with_unfolding_all rfl) (by with_unfolding_all rfl) qy (by with_unfolding_all rfl) ?_) | (with_reducible refine wpList_ldB F_sliceM (by with_unfolding_all rfl) (by with_unfolding_all rfl) qy (by with_unfolding_all rfl) ?_))
 refine (amSame ya _ yc 2 2 _ _ (ry.below (bal (Below.refl _ _) _)) (reps_of_own (own_newN cIntS [0, 1] 2 rfl (by decide) _ rfl (Nat.le_refl _) rfl) rfl) rfl (by decide)).mono ?_
 rintro e w45 ⟨rfl, b45⟩
 replace b45 := bnext (bal (Below.refl _ _) _) b45
 replace hSb := hSb.mono b45
 replace b45 := bnext t18 hSb.b
 go_wp2_with fail
 go_ret
 exact ⟨rfl, b45⟩
end Go.Proofs.YtbchpkmcpplidaaGreatDoor

namespace Go.Proofs.YtbchpkmcpplidaaGreatDoor
open Go.RowKit
set_option maxHeartbeats 8000000
set_option maxRecDepth 100000
theorem mPeriodE_any (m : MacV) (ad : Option Addr) (cap : Nat) (E : Int) (w : World) (hR : Ints w ad cap m.sw) (hE : (E != 0) = true) (HK : ∀ w, Ints w ad cap m.sw → Calls Tryz.prog 11 #[mV m ad cap] w fun r w' => r = .returned (.int .i64 E) ∧ Below w.heap.size w w') :
  Calls Tryz.prog 14 #[mV m ad cap] w fun r w' => r = .returned (.tuple #[.string ⟨#[]⟩, .int .i64 E]) ∧ Below w.heap.size w w' := by
 have hS := (SL.nil w).box (.cells (mC m ad cap) 24)
 have HC := hid HK
 clear HK
 go_enter Tryz.func14, Tryz.ntmps14
 go_wp2_with fail
 refine (HC.out _ (hR.below hS.b)).mono ?_
 rintro e w1 ⟨rfl, b1⟩
 have hS1 := hS.mono b1
 go_wp2_with fail
 go_ret2
 exact ⟨rfl, hS1.b⟩
theorem MachinePerms_any (m : MacV) (ad : Option Addr) (cap : Nat) (w : World) (hR : Ints w ad cap m.sw) (hI : InI m.gears) (hw : LibW w) :
  Calls Tryz.prog 3 #[mV m ad cap] w fun r w' => r = .returned (.bool true) ∧ Below w.heap.size w w' := by
 have hS := ((SL.nil w).box (.cells (mC m ad cap) 24)).box (.cells (mC m ad cap) 25)
 simp only [World.size_alloc] at hS
 have HA := hid awake4_any
 have CSh := fun w => rShort_any m ad cap none 0 0 w
 by_cases h19 : m.sw.length ≤ 19
 ·have hsh : (decide (m.sw.length ≤ 19) && decide (0 ≤ 67)) = true := by simp [h19]
  rw [hsh] at CSh
  have HSh := hid CSh
  have CM := fun w h => rCheckMachine_any m ad cap w h
  have CK := fun w h => CheckMachine_any m ad cap w h hI
  have CP := fun w h => mPerm_any m ad cap w h (fun w h => CheckMachine_any m ad cap w h hI)
  have CC := fun w h => mPaths_any m ad cap w h (fun w h => CheckMachine_any m ad cap w h hI)
  clear hsh CSh
  by_cases he : macE m = 0
  ·have hok := (macE_zero he).1
   have hlo := hok.lo
   have hhi := hok.hi
   have hpl := permM_len m
   have hp64 : (permM m).length ≤ 64 := by omega
   have hps := period_small (permM_isP m) hp64
   have CN := fun w h (hw : LibW w) => mPeriod_any m ad cap w h (fun w h => CheckMachine_any m ad cap w h hI) (fun w' hb => itoaOk_tab (hw.tab.below hb) _ (by omega) (by omega))
   have CRP := fun w h => rPerm_any m ad cap w h hlo hhi
   have CRC := fun a c w h => rCycles_any a c (permM m) w h (permM_isP m) (by omega)
   have CRN := fun a c w h => rPeriod_any a c (permM m) w h (permM_isP m) hp64
   have hper : perS (permM m) = itoaB (periodN (permM m)) := by unfold perS; rw [if_pos (permE_ok (permM_isP m) (by omega))]
   rw [if_pos he] at CP CC CN
   rw [hper] at CN
   rw [he] at CM CK CP CC CN
   have hcl : ∀ x ∈ cycK (permM m) (permM m).length, x.length ≤ 1048576 := fun x hx => by have := cycK_le (permM_isP m) hx; omega
   obtain ⟨Z, hZ⟩ : ∃ Z, Z = itoaB (periodN (permM m)) := ⟨_, rfl⟩
   obtain ⟨Cy, hCy⟩ : ∃ Cy, Cy = cycK (permM m) (permM m).length := ⟨_, rfl⟩
   rw [← hZ] at CN CRN
   rw [← hCy] at CC CRC hcl
   obtain ⟨Pm, hPm⟩ : ∃ Pm, Pm = permM m := ⟨_, rfl⟩
   rw [← hPm] at CP CRP CRC CRN hp64
   have hcn : Cy.length ≤ 1048576 := by rw [hCy]; have := cycK_len (permM m) (permM m).length; omega
   have HCL := hid hcl; have HCN := hid hcn
   have HM := hid CM; have HK := hid CK; have HP := hid CP; have HC := hid CC; have HN := hid CN; have HRP := hid CRP; have HRC := hid CRC; have HRN := hid CRN
   clear CM CK CP CC CN CRP CRC CRN hcl hcn hZ hCy hPm hper hps hpl hok hlo hhi he h19 hI
   go_enter Tryz.func3, Tryz.ntmps3
   go_wp2_with fail
   refine (HA.out _ (hw.below hS.b)).mono ?_
   rintro e w1 ⟨rfl, b1⟩
   have hS1 := hS.mono b1
   have q1 := (hS1.blk 0 rfl).1
   go_wp2_with (with_reducible refine wpList_ldS (n := 4) (us := mC m ad cap) A_rmach (by kernel_rfl) (by with_unfolding_all rfl) (by with_unfolding_all rfl) (by assumption) (by with_unfolding_all rfl) (by with_unfolding_all rfl) ?_)
   refine (HSh.out _).mono ?_
   rintro e w2 ⟨rfl, b2⟩
   have hS2 := hS1.mono b2
   have q2 := (hS2.blk 0 rfl).1
   clear q1 hS1
   go_wp2_with (with_reducible refine wpList_ldS (n := 4) (us := mC m ad cap) A_rmach (by kernel_rfl) (by with_unfolding_all rfl) (by with_unfolding_all rfl) (by assumption) (by with_unfolding_all rfl) (by with_unfolding_all rfl) ?_)
   refine (HM.out _ (hR.below hS2.b)).mono ?_
   rintro e w3 ⟨rfl, b3⟩
   have hS3 := hS2.mono b3
   have q3 := (hS3.blk 1 rfl).1
   clear q2 hS2
   go_wp2_with (with_reducible refine wpList_ldS (n := 4) (us := mC m ad cap) A_mach (by kernel_rfl) (by with_unfolding_all rfl) (by with_unfolding_all rfl) (by assumption) (by with_unfolding_all rfl) (by with_unfolding_all rfl) ?_)
   refine (HK.out _ (hR.below hS3.b)).mono ?_
   rintro e w4 ⟨rfl, b4⟩
   have hS4 := hS3.mono b4
   have q4 := (hS4.blk 1 rfl).1
   clear q3 hS3
   go_wp2_with (with_reducible refine wpList_ldS (n := 4) (us := mC m ad cap) A_mach (by kernel_rfl) (by with_unfolding_all rfl) (by with_unfolding_all rfl) (by assumption) (by with_unfolding_all rfl) (by with_unfolding_all rfl) ?_)
   refine (HP.out _ (hR.below hS4.b)).mono ?_
   rintro e w5 ⟨v5, rfl, ho5, b5⟩
   obtain ⟨a5, c5, rfl, h5, _, _⟩ := ho5.reps
   have hS5 := hS4.mono b5
   have q5 := (hS5.blk 1 rfl).1
   clear q4 hS4 ho5
   go_wp2_with (with_reducible refine wpList_ldS (n := 4) (us := mC m ad cap) A_mach (by kernel_rfl) (by with_unfolding_all rfl) (by with_unfolding_all rfl) (by assumption) (by with_unfolding_all rfl) (by with_unfolding_all rfl) ?_)
   refine (HC.out _ (hR.below hS5.b)).mono ?_
   rintro e w6 ⟨v6, qs, rfl, hqs, hS6'⟩
   have b6 := hS6'.b
   have hS6 := hS5.mono b6
   have q6 := (hS6.blk 1 rfl).1
   go_wp2_with (with_reducible refine wpList_ldS (n := 4) (us := mC m ad cap) A_mach (by kernel_rfl) (by with_unfolding_all rfl) (by with_unfolding_all rfl) (by assumption) (by with_unfolding_all rfl) (by with_unfolding_all rfl) ?_)
   refine (HN.out _ (hR.below hS6.b) (hw.below hS6.b)).mono ?_
   rintro e w7 ⟨rfl, b7⟩
   have hS7 := hS6.mono b7
   have q7 := (hS7.blk 0 rfl).1
   replace hS6' := hS6'.mono b7
   replace h5 := h5.below (bnext b6 b7)
   clear q5 q6 hS5 hS6
   go_wp2_with (with_reducible refine wpList_ldS (n := 4) (us := mC m ad cap) A_rmach (by kernel_rfl) (by with_unfolding_all rfl) (by with_unfolding_all rfl) (by assumption) (by with_unfolding_all rfl) (by with_unfolding_all rfl) ?_)
   refine (HRP.out _ (hR.below hS7.b)).mono ?_
   rintro e w8 ⟨v8, rfl, ho8, b8⟩
   obtain ⟨a8, c8, rfl, h8, _, _⟩ := ho8.reps
   have hS8 := hS7.mono b8
   replace hS6' := hS6'.mono b8
   replace h5 := h5.below b8
   clear q7 hS7 ho8
   go_wp2_with fail
   refine (amSame a5 a8 c5 c8 _ Pm w8 h5 h8 rfl (by omega)).mono ?_
   rintro e w9 ⟨rfl, b9⟩
   have hS9 := hS8.mono b9
   replace hS6' := hS6'.mono b9
   replace h8 := h8.below b9
   clear hS8 h5
   obtain ⟨a6, c6, rfl, r6, l6⟩ := leads_of hS6' (by rw [hqs]; exact HCL.out)
   rw [hqs] at l6
   go_wp2_with fail
   refine (HRC.out a8 c8 w9 h8).mono ?_
   rintro e w10 ⟨v10, qs2, rfl, hqs2, hS10'⟩
   have b10 := hS10'.b
   obtain ⟨a10, c10, rfl, r10, l10⟩ := leads_of hS10' (by rw [hqs2]; exact HCL.out)
   rw [hqs2] at l10
   have hS10 := hS9.mono b10
   replace h8 := h8.below b10
   clear hS9
   have hl1 : qs.length = Cy.length := by rw [← hqs, List.length_map]
   have hl2 : qs2.length = Cy.length := by rw [← hqs2, List.length_map]
   have CSP := fun w a b c d => SamePerms_any a6 a10 c6 c10 (qs.map Prod.fst) (qs2.map Prod.fst) Cy Cy.length w a b (by rw [List.length_map]; exact hl1) (by rw [List.length_map]; exact hl2) rfl c d HCN.out
   have HSP := hid CSP
   replace r6 := r6.below b10
   replace l6 := l6.below b10
   clear CSP hS6' hS10' hqs hqs2
   rw [hl1, hl2]
   clear hl1 hl2
   go_wp2_with fail
   refine (HSP.out _ r6 r10 l6 l10).mono ?_
   rintro e w11 ⟨rfl, b11⟩
   have hS11 := hS10.mono b11
   replace h8 := h8.below b11
   go_wp2_with fail
   refine (HRN.out a8 c8 w11 h8).mono ?_
   rintro e w12 ⟨rfl, b12⟩
   go_wp2_with fail
   go_ret
   exact ⟨rfl, bnext hS11.b b12⟩
  ·obtain ⟨E, hE⟩ : ∃ E, E = macE m := ⟨_, rfl⟩
   rw [if_neg he] at CP CC
   have hne : (E != 0) = true := by rw [hE]; simpa using he
   rw [← hE] at CM CK CP CC
   have CN := fun w h => mPeriodE_any m ad cap E w h hne CK
   have HM := hid CM; have HK := hid CK; have HP := hid CP; have HC := hid CC; have HN := hid CN
   clear CM CK CP CC CN hE he h19 hI
   go_enter Tryz.func3, Tryz.ntmps3
   go_wp2_with fail
   refine (HA.out _ (hw.below hS.b)).mono ?_
   rintro e w1 ⟨rfl, b1⟩
   have hS1 := hS.mono b1
   have q1 := (hS1.blk 0 rfl).1
   go_wp2_with (with_reducible refine wpList_ldS (n := 4) (us := mC m ad cap) A_rmach (by kernel_rfl) (by with_unfolding_all rfl) (by with_unfolding_all rfl) (by assumption) (by with_unfolding_all rfl) (by with_unfolding_all rfl) ?_)
   refine (HSh.out _).mono ?_
   rintro e w2 ⟨rfl, b2⟩
   have hS2 := hS1.mono b2
   have q2 := (hS2.blk 0 rfl).1
   clear q1 hS1
   go_wp2_with (with_reducible refine wpList_ldS (n := 4) (us := mC m ad cap) A_rmach (by kernel_rfl) (by with_unfolding_all rfl) (by with_unfolding_all rfl) (by assumption) (by with_unfolding_all rfl) (by with_unfolding_all rfl) ?_)
   refine (HM.out _ (hR.below hS2.b)).mono ?_
   rintro e w3 ⟨rfl, b3⟩
   have hS3 := hS2.mono b3
   have q3 := (hS3.blk 1 rfl).1
   clear q2 hS2
   go_wp2_with (with_reducible refine wpList_ldS (n := 4) (us := mC m ad cap) A_mach (by kernel_rfl) (by with_unfolding_all rfl) (by with_unfolding_all rfl) (by assumption) (by with_unfolding_all rfl) (by with_unfolding_all rfl) ?_)
   refine (HK.out _ (hR.below hS3.b)).mono ?_
   rintro e w4 ⟨rfl, b4⟩
   have hS4 := hS3.mono b4
   have q4 := (hS4.blk 1 rfl).1
   clear q3 hS3
   go_wp2_with (with_reducible refine wpList_ldS (n := 4) (us := mC m ad cap) A_mach (by kernel_rfl) (by with_unfolding_all rfl) (by with_unfolding_all rfl) (by assumption) (by with_unfolding_all rfl) (by with_unfolding_all rfl) ?_)
   refine (HP.out _ (hR.below hS4.b)).mono ?_
   rintro e w5 ⟨v5, rfl, ho5, b5⟩
   obtain ⟨a5, c5, rfl, h5, _, _⟩ := ho5.reps
   have hS5 := hS4.mono b5
   have q5 := (hS5.blk 1 rfl).1
   clear q4 hS4 ho5
   go_wp2_with (with_reducible refine wpList_ldS (n := 4) (us := mC m ad cap) A_mach (by kernel_rfl) (by with_unfolding_all rfl) (by with_unfolding_all rfl) (by assumption) (by with_unfolding_all rfl) (by with_unfolding_all rfl) ?_)
   refine (HC.out _ (hR.below hS5.b)).mono ?_
   rintro e w6 ⟨v6, qs, rfl, hqs, hS6'⟩
   have b6 := hS6'.b
   have hS6 := hS5.mono b6
   have q6 := (hS6.blk 1 rfl).1
   rw [List.map_eq_nil_iff] at hqs
   subst hqs
   obtain ⟨a6, c6, rfl, _⟩ := hS6'.slice 0 rfl
   clear q5 hS5 h5 hS6'
   go_wp2_with (with_reducible refine wpList_ldS (n := 4) (us := mC m ad cap) A_mach (by kernel_rfl) (by with_unfolding_all rfl) (by with_unfolding_all rfl) (by assumption) (by with_unfolding_all rfl) (by with_unfolding_all rfl) ?_)
   refine (HN.out _ (hR.below hS6.b)).mono ?_
   rintro e w7 ⟨rfl, b7⟩
   go_wp2_with fail
   go_ret
   exact ⟨rfl, bnext hS6.b b7⟩
 ·have hsh : (decide (m.sw.length ≤ 19) && decide (0 ≤ 67)) = false := by simp [h19]
  rw [hsh] at CSh
  have HSh := hid CSh
  clear hsh CSh h19
  go_enter Tryz.func3, Tryz.ntmps3
  go_wp2_with fail
  refine (HA.out _ (hw.below hS.b)).mono ?_
  rintro e w1 ⟨rfl, b1⟩
  have hS1 := hS.mono b1
  have q1 := (hS1.blk 0 rfl).1
  go_wp2_with (with_reducible refine wpList_ldS (n := 4) (us := mC m ad cap) A_rmach (by kernel_rfl) (by with_unfolding_all rfl) (by with_unfolding_all rfl) (by assumption) (by with_unfolding_all rfl) (by with_unfolding_all rfl) ?_)
  refine (HSh.out _).mono ?_
  rintro e w2 ⟨rfl, b2⟩
  have hS2 := hS1.mono b2
  go_wp2_with fail
  refine (HA.out _ (hw.below hS2.b)).mono ?_
  rintro e w3 ⟨rfl, b3⟩
  go_wp2_with fail
  go_ret
  exact ⟨rfl, bnext hS2.b b3⟩
end Go.Proofs.YtbchpkmcpplidaaGreatDoor

namespace Go.Proofs.YtbchpkmcpplidaaGreatDoor
open Go.RowKit
set_option maxHeartbeats 4000000
set_option maxRecDepth 100000
theorem itP_modO {p : List Int} {s : Int} {d : Nat} (h : Ord p s d) (n : Nat) : itP p s (n % d) = itP p s n := by
 have e : n = n % d + n / d * d := by have := Nat.mod_add_div n d; rw [Nat.mul_comm] at this; omega
 conv => rhs; rw [e, itP_add, itP_mul h.back]
theorem pow_el {p : List Int} {s : Int} {d : Nat} (h : Ord p s d) (j K : Nat) : itP p s ((j + K % d) % d) = itP p (itP p s j) K := by
 rw [itP_modO h, Nat.add_comm, itP_add]
 have e := itP_modO (p := p) (s := s) h (K % d + j)
 rw [← itP_add, ← itP_modO h, Nat.mod_add_mod, itP_modO h, itP_add]
/-- the power of a permutation. -/
def powP (p : List Int) (n : Nat) : List Int := (List.range p.length).map fun (i : Nat) => itP p i n
theorem powP_len (p : List Int) (n : Nat) : (powP p n).length = p.length := by simp [powP]
theorem powP_at {p : List Int} {n : Nat} {x : Int} (h0 : 0 ≤ x) (h1 : x < p.length) : atD 0 (powP p n) x = itP p x n := by
 unfold powP atD
 have hs : x.toNat < p.length := by omega
 rw [List.getD_eq_getElem?_getD, List.getElem?_map, List.getElem?_range hs]
 simp [Int.toNat_of_nonneg h0]
theorem powP_of {p O : List Int} {n : Nat} (hl : O.length = p.length) (h : ∀ j : Nat, j < p.length → atD 0 O j = itP p j n) : O = powP p n := by
 refine List.ext_getElem (by rw [powP_len, hl]) fun i h1 h2 => ?_
 have e1 : atD 0 O i = O[i] := by simp [atD, h1]
 have e2 : atD 0 (powP p n) i = (powP p n)[i] := by simp [atD, h2]
 rw [← e1, ← e2, h i (by omega), powP_at (by omega) (by omega)]
theorem set_done {O : List Int} {x z y v : Int} (h0 : 0 ≤ x) (h1 : x < O.length) (hy : 0 ≤ y) (hz : y = x → z = v) (h : y ≠ x → atD 0 O y = v) : atD 0 (O.set x.toNat z) y = v := by
 rw [atD_set h0 h1 hy]
 by_cases e : y = x
 ·rw [if_pos e]; exact hz e
 ·rw [if_neg e]; exact h e
theorem rPower_any (a : Option Addr) (cap : Nat) (p : List Int) (K : Nat) (w : World) (hS : Ints w a cap p) (hp : IsP p) (hn : p.length ≤ 64) (hK : K ≤ 9223372036854775000) :
  Calls Tryz.prog 76 #[.slice a p.length cap, .int .i64 K] w fun r w' => ∃ v, r = .returned v ∧ OwnI w.heap.size w' v (powP p K) ∧ Below w.heap.size w w' := by
 have hcap := hS.le
 have hm0 := hS.max
 have CY := fun w h => rCycles_any a cap p w h hp (by omega)
 have HC : Hid (∀ X ∈ cycK p p.length, ∃ (s : Nat) (d : Nat), s < p.length ∧ Ord p s d ∧ X.length = d ∧ ∀ j : Nat, j < d → atD 0 X j = itP p s j ∧ 0 ≤ atD 0 X j ∧ atD 0 X j < p.length) := by
  refine hid fun X hX => ?_
  obtain ⟨s, hs, rfl⟩ := cycK_orb hp (Nat.le_refl _) X hX
  obtain ⟨d, hd⟩ := ord_ex hp (i := (s : Int)) (by omega) (by omega)
  refine ⟨s, d, hs, hd, orb_len hd, fun j hj => ?_⟩
  have e : atD 0 (orb p s) j = itP p s j := by rw [orb_eq hd]; simp [atD, hj]
  rw [e]
  exact ⟨rfl, itP_rng hp (by omega) (by omega) j⟩
 have HALL : Hid (∀ j : Nat, j < p.length → (j : Int) ∈ (cycK p p.length).flatten) := hid (cycK_all hp (Nat.le_refl _))
 have hcl : (cycK p p.length).length ≤ 64 := by have := cycK_len p p.length; omega
 obtain ⟨C, hC⟩ : ∃ C, C = cycK p p.length := ⟨_, rfl⟩
 rw [← hC] at HC HALL hcl
 simp only [← hC] at CY
 clear hC
 obtain ⟨N, hN⟩ : ∃ N, N = p.length := ⟨_, rfl⟩
 have HNN := hid hN
 rw [← hN] at HC HALL hn hcap ⊢
 simp only [← hN] at CY
 have HY := hid CY
 clear CY
 clear hN
 have hS0 := (SL.nil w)
 go_enter Tryz.func76, Tryz.ntmps76
 go_wp2_with ((with_reducible refine wpList_makeL (c := cInt) (N) (0) E_ints cInt1 (by with_unfolding_all rfl) (by with_unfolding_all rfl) (by omega) (by omega) (hS0) ?_); intro ad w1 hS1)
 refine (HY.out _ (hS.below hS1.b)).mono ?_
 rintro e w2 ⟨v2, qs, rfl, hqs, hC2⟩
 have hS2 := (hS1.call hC2).comm
 obtain ⟨a2, c2, rfl, _⟩ := hC2.slice 0 rfl
 rw [List.length_map] at hS2 ⊢
 have hqc : qs.length = C.length := by rw [← hqs, List.length_map]
 have HQ := hid hqs
 have hq64 : qs.length ≤ 64 := by omega
 have HQC := hid hqc
 clear hC2 hS1 hqs hqc
 have hS3 : SL w.heap.size w w2 (pOwn cInt 1 3 (.slice ad N N) (List.replicate N 0) :: pOwn cSl 1 22 (.slice a2 qs.length c2) (qs.map Prod.fst) :: qs.map inP) := hS2
 clear hS2
 go_wp2_with fail
 go_loopw [7, 8, 9, 10] (fun i _ _ _ wr => ∃ (k : Nat) (O : List Int), k ≤ qs.length ∧ i = .int .i64 k ∧ O.length = N ∧ (∀ j : Nat, j < N → (j : Int) ∈ (C.take k).flatten → atD 0 O j = itP p j K) ∧
  SL w.heap.size w wr (pOwn cInt 1 3 (.slice ad N N) O :: pOwn cSl 1 22 (.slice a2 qs.length c2) (qs.map Prod.fst) :: qs.map inP)) (fun i _ _ _ _ => qs.length - (intOf i).toNat)
 case atStart => exact ⟨0, List.replicate N 0, by omega, rfl, by simp, fun j _ h => by simp at h, hS3⟩
 case round =>
  clear hS3
  obtain ⟨k, O, hk, rfl, hOl, hdone, hSr⟩ := hrel
  have HD := hid hdone; have HOL := hid hOl
  clear hdone hOl
  by_cases hlt : k < qs.length
  ·have hkC : k < C.length := by rw [← HQC.out]; exact hlt
   obtain ⟨X, hX⟩ : ∃ X, X = C[k] := ⟨_, rfl⟩
   have hXm : X ∈ C := by rw [hX]; exact List.getElem_mem hkC
   obtain ⟨s, d, hs, hd, hXl, hel⟩ := HC.out X hXm
   have hXq : X = (qs[k]).2 := by
    rw [hX]
    have : C[k] = (qs.map Prod.snd)[k]'(by rw [List.length_map]; exact hlt) := by congr 1; exact HQ.out.symm
    rw [this, List.getElem_map]
   have htk : (C.take (k + 1)).flatten = (C.take k).flatten ++ X := by rw [List.take_succ_eq_append_getElem hkC, List.flatten_append, ← hX]; simp
   have HI : Hid (∀ {wr : World} {O : List Int}, SL w.heap.size w wr (pOwn cInt 1 3 (.slice ad N N) O :: pOwn cSl 1 22 (.slice a2 qs.length c2) (qs.map Prod.fst) :: qs.map inP) → Own cInt 1 w.heap.size 3 wr (cSl (qs[k]).1) X) :=
    hid fun h => h.own (k + 2) (by rw [hXq]; simp [hlt, inP])
   obtain ⟨xa, xc, hH⟩ : ∃ xa xc, (qs[k]).1 = (xa, d, xc) := by
    obtain ⟨a3, c3, ex, _⟩ := (HI.out hSr).reps
    obtain ⟨q0, hq0⟩ : ∃ q0, q0 = (qs[k]).1 := ⟨_, rfl⟩
    rw [← hq0] at ex ⊢
    obtain ⟨x1, x2, x3⟩ := q0
    have e3 : x1 = a3 ∧ x2 = X.length ∧ x3 = c3 := by simpa [cSl] using ex
    exact ⟨x1, x3, by rw [e3.2.1, hXl]⟩
   have hRX : Hid (∀ {wr : World} {O : List Int}, SL w.heap.size w wr (pOwn cInt 1 3 (.slice ad N N) O :: pOwn cSl 1 22 (.slice a2 qs.length c2) (qs.map Prod.fst) :: qs.map inP) → Ints wr xa xc X) := hid fun h => by
    have := HI.out h
    rw [hH] at this
    exact reps_of_own this hXl.symm
   have hat : atD ((none, 0, 0) : SlH) (qs.map Prod.fst) k = (xa, d, xc) := by rw [← hH]; simp [atD, hlt]
   have HXH := hid hat; have HXL := hid hXl; have HEL := hid hel; have HTK := hid htk
   obtain ⟨r, hr⟩ : ∃ r : Nat, r = K % d := ⟨_, rfl⟩
   have hd0 : 0 < d := hd.pos
   have hdN : d ≤ 64 := by have := hd.le; rw [← HNN.out] at this; omega
   have hrd : r < d := by rw [hr]; exact Nat.mod_lt _ hd0
   have hm1 : (K : Int).tmod (d : Int) = (r : Int) := by rw [Int.tmod_eq_emod_of_nonneg (by omega), hr]; rfl
   have hm2 : ((r : Int) + (d : Int)).tmod (d : Int) = (r : Int) := by rw [Int.tmod_eq_emod_of_nonneg (by omega), Int.add_emod_right]; exact Int.emod_eq_of_lt (by omega) (by omega)
   have hnz : ¬ (d : Int) = 0 := by omega
   have hnz2 : ¬ d = 0 := by omega
   have hwr : IntKind.i64.wrap (r : Int) = r := IntWalk.i64_in _ (by omega)
   have hwd : IntKind.i64.wrap ((r : Int) + d) = (r : Int) + d := IntWalk.i64_in _ (by omega)
   have HRD := hid hr
   have HOrd := hid hd
   have HHl : Hid ((qs.map Prod.fst).length = qs.length) := hid (List.length_map ..)
   have hkh : (k : Int) < (qs.map Prod.fst).length := by rw [HHl.out]; omega
   have hHr := hSr.rd 1 rfl
   clear hX hXm hs hd hXl hel hXq htk hH hat hr
   go_wp2_with ((with_reducible refine wpList_idxN _ ((none, 0, 0) : SlH) E_sls F_sl cSl1 (by with_unfolding_all rfl) (by with_unfolding_all rfl) (hHr) (HHl.out) (by first | omega | (simp; done)) (by first | omega | (simp; done)) (fun _ => by with_unfolding_all rfl) (fun _ => ?_)); rw [HXH.out])
   clear hHr hm1 hm2
   go_loopw [10] (fun i wr => ∃ (j : Nat) (O : List Int), j ≤ d ∧ i = .int .i64 j ∧ O.length = N ∧ (∀ y : Nat, y < N → ((y : Int) ∈ (C.take k).flatten ∨ ∃ j' : Nat, j' < j ∧ atD 0 X j' = y) → atD 0 O y = itP p y K) ∧
    SL w.heap.size w wr (pOwn cInt 1 3 (.slice ad N N) O :: pOwn cSl 1 22 (.slice a2 qs.length c2) (qs.map Prod.fst) :: qs.map inP)) (fun i _ => d - (intOf i).toNat)
   case atStart => exact ⟨0, O, by omega, rfl, HOL.out, fun y hy h => by
    rcases h with h | ⟨j', h, _⟩
    ·exact HD.out y hy h
    ·omega, hSr⟩
   case round =>
    clear hSr
    obtain ⟨j, O2, hj, rfl, hOl2, hdone2, hSr⟩ := hrel
    have HOL2 := hid hOl2; have HD2 := hid hdone2
    clear hOl2 hdone2
    by_cases hjd : j < d
    ·obtain ⟨q, hq⟩ : ∃ q : Nat, q = (j + r) % d := ⟨_, rfl⟩
     have hqd : q < d := by rw [hq]; exact Nat.mod_lt _ hd0
     have hm3 : ((j : Int) + (r : Int)).tmod (d : Int) = (q : Int) := by rw [Int.tmod_eq_emod_of_nonneg (by omega), hq]; rfl
     have hwj : IntKind.i64.wrap ((j : Int) + r) = (j : Int) + r := IntWalk.i64_in _ (by omega)
     have hwq : IntKind.i64.wrap (q : Int) = q := IntWalk.i64_in _ (by omega)
     obtain ⟨y, hy⟩ : ∃ y, y = atD 0 X (j : Int) := ⟨_, rfl⟩
     obtain ⟨z, hz⟩ : ∃ z, z = atD 0 X (q : Int) := ⟨_, rfl⟩
     have hye := HEL.out j hjd
     rw [← hy] at hye
     have hzv : z = itP p y K := by
      rw [hz, (HEL.out q hqd).1, hye.1, hq, HRD.out]
      exact pow_el HOrd.out j K
     have hy0 := hye.2.1
     have hy1 : y < N := hye.2.2
     have hyO : y < O2.length := by rw [HOL2.out]; exact hy1
     have HY := hid hy; have HZ := hid hz; have HZV := hid hzv
     have hX5 := hRX.out hSr
     have hH5 := hSr.rd 1 rfl
     have hjX : (j : Int) < X.length := by rw [HXL.out]; omega
     have hqX : (q : Int) < X.length := by rw [HXL.out]; omega
     clear hq hy hz hye hzv
     go_wp2_with fail
     refine wp_region_qt 19 (by kernel_rfl) (by kernel_rfl) ?_
     simp only [List.take_succ_cons, List.take_zero, List.drop_succ_cons, List.drop_zero]
     repeat (first | (((with_reducible refine wpB_idx2 ((none, 0, 0) : SlH) E_sls F_sl cSl1 (by with_unfolding_all rfl) (HHl.out) (by with_unfolding_all rfl) (hH5) (by first | omega | (simp; done)) (by first | omega | (simp; done)) (fun _ => by with_unfolding_all rfl) (fun _ => ?_)); (try simp only [Act.put, pA, pB, pC]); (try simp only [cInt])); rw [HXH.out]) | (((with_reducible refine wpB_idx2 0 E_ints F_int cInt1 (by with_unfolding_all rfl) (HXL.out) (by with_unfolding_all rfl) (hX5) (by first | omega | (simp; done)) (by first | omega | (simp; done)) (fun _ => by with_unfolding_all rfl) (fun _ => ?_)); (try simp only [Act.put, pA, pB, pC]); (try simp only [cInt])); first | rw [← HY.out] | rw [← HZ.out]) |  ((with_reducible refine wpB_load (by first | exact F_int | exact F_u64s) (by with_unfolding_all rfl) (by with_unfolding_all rfl) (by assumption) (by with_unfolding_all rfl) ?_); (try simp only [Act.put, pA, pB, pC])) | ((refine wpQ_oneG ?_ (by with_unfolding_all rfl) (fun w' => ?_) ?_); rotate_left; (go_simp; rfl); (try simp only [Act.put, pA, pB, pC])))
     refine wpQuiet_nil ?_
     intro w6 hb6
     have hS6 := hSr.mono hb6
     go_wp2_with ((with_reducible refine wpList_storeL (u := z) 0 E_ints cInt1 (sto_int) (by with_unfolding_all rfl) (by with_unfolding_all rfl) (hS6) (by with_unfolding_all rfl) (by first | omega | (simp; done) | (simp; omega)) (by first | omega | (simp; done) | (simp; omega)) (fun _ => by with_unfolding_all rfl) (fun _ => by with_unfolding_all rfl) ?_); intro _ w7 hS7)
     have hdone3 : ∀ x : Nat, x < N → ((x : Int) ∈ (C.take k).flatten ∨ ∃ j' : Nat, j' < j + 1 ∧ atD 0 X j' = x) → atD 0 (O2.set y.toNat z) x = itP p x K := fun x hx h => by
      refine set_done hy0 hyO (by omega) (fun e => by rw [e]; exact HZV.out) (fun e => HD2.out x hx ?_)
      rcases h with h | ⟨j', h1, h2⟩
      ·exact .inl h
      ·refine .inr ⟨j', ?_, h2⟩
       by_cases e2 : j' = j
       ·exact absurd (by rw [← h2, e2, ← HY.out]) e
       ·omega
     have hOl3 : (O2.set y.toNat z).length = N := by rw [List.length_set]; exact HOL2.out
     have H3 := hid hdone3; have H4 := hid hOl3
     clear hdone3 hOl3
     go_wp2_with fail
     exact ⟨⟨j + 1, O2.set y.toNat z, by omega, by go_num, H4.out, H3.out, hS7⟩, by simp [intOf]; omega⟩
    ·have hjd2 : j = d := by omega
     have hdone3 : ∀ x : Nat, x < N → (x : Int) ∈ (C.take (k + 1)).flatten → atD 0 O2 x = itP p x K := fun x hx h => by
      rw [HTK.out, List.mem_append] at h
      rcases h with h | h
      ·exact HD2.out x hx (.inl h)
      ·obtain ⟨j', hj', e⟩ := List.getElem_of_mem h
       refine HD2.out x hx (.inr ⟨j', by rw [hjd2, ← HXL.out]; exact hj', ?_⟩)
       rw [← e]; simp [atD, hj']
     have H3 := hid hdone3
     clear hdone3 hjd2
     go_wp2_with fail
     exact ⟨⟨k + 1, O2, by omega, by go_num, HOL2.out, H3.out, hSr⟩, by simp [intOf]; omega⟩
  ·have hkn : k = qs.length := by omega
   have hfin : O = powP p K := powP_of (by rw [HOL.out, HNN.out]) fun j hj => HD.out j (by rw [HNN.out]; exact hj) (by rw [hkn, HQC.out, List.take_length]; exact HALL.out j (by rw [HNN.out]; exact hj))
   have HFIN := hid hfin
   clear hfin
   go_wp2_with fail
   go_ret
   exact ⟨_, rfl, by rw [← HFIN.out]; exact hSr.own 0 rfl, hSr.b⟩
end Go.Proofs.YtbchpkmcpplidaaGreatDoor

namespace Go.Proofs.YtbchpkmcpplidaaGreatDoor
set_option maxRecDepth 100000
theorem other_hit {m : MacV} {x y : Int} (x0 : 0 ≤ x) (x1 : x < 4 * m.gears) (y0 : 0 ≤ y) (y1 : y < 4 * m.gears) (hne : y ≠ x) : (otherM m x == y) = hitM m x y := by
 by_cases h : 0 ≤ placeM m x ∧ sharedM m (placeM m x) = true
 ·obtain ⟨o0, o1, o2, o3⟩ := other_is x0 x1 h.1 h.2
  unfold hitM
  rw [h.2, decide_eq_true h.1, Bool.true_and, Bool.true_and]
  by_cases e : placeM m x = placeM m y
  ·rw [decide_eq_true e]
   have := other_only x0 x1 y0 y1 h.1 h.2 hne e.symm
   simpa using this.symm
  ·rw [decide_eq_false e]
   have : otherM m x ≠ y := fun h2 => e (by rw [← h2, o3])
   simpa using this
 ·have h2 : (decide (0 ≤ placeM m x) && sharedM m (placeM m x)) = false := by
   rw [Bool.and_eq_false_iff]
   by_cases h0 : 0 ≤ placeM m x
   ·exact .inr (by simpa using fun h3 => h ⟨h0, h3⟩)
   ·exact .inl (decide_eq_false h0)
  unfold hitM otherM
  rw [h2, Bool.false_and]
  simp
  omega
/-- the least value that is not negative, or -1. -/
def minF (f : Int × Int → Int) (ps : List (Int × Int)) : Int := ps.foldl (fun b p => if 0 ≤ f p ∧ (b < 0 ∨ f p < b) then f p else b) (-1)
theorem minF_snoc (f : Int × Int → Int) (ps : List (Int × Int)) (p : Int × Int) : minF f (ps ++ [p]) = if 0 ≤ f p ∧ (minF f ps < 0 ∨ f p < minF f ps) then f p else minF f ps := by unfold minF; rw [List.foldl_append]; rfl
theorem minF_spec (f : Int × Int → Int) : ∀ ps : List (Int × Int), (minF f ps = -1 ∧ ∀ p ∈ ps, f p < 0) ∨ (0 ≤ minF f ps ∧ (∃ p ∈ ps, f p = minF f ps) ∧ ∀ p ∈ ps, 0 ≤ f p → minF f ps ≤ f p) := by
 suffices h : ∀ ps : List (Int × Int), (minF f ps.reverse = -1 ∧ ∀ p ∈ ps, f p < 0) ∨ (0 ≤ minF f ps.reverse ∧ (∃ p ∈ ps, f p = minF f ps.reverse) ∧ ∀ p ∈ ps, 0 ≤ f p → minF f ps.reverse ≤ f p) by
  intro ps
  have := h ps.reverse
  rw [List.reverse_reverse] at this
  simpa using this
 intro ps
 induction ps with
 | nil => exact .inl ⟨rfl, fun p hp => by cases hp⟩
 | cons q r ih =>
  rw [List.reverse_cons, minF_snoc]
  generalize minF f r.reverse = b at ih ⊢
  by_cases hc : 0 ≤ f q ∧ (b < 0 ∨ f q < b)
  ·rw [if_pos hc]
   refine .inr ⟨hc.1, ⟨q, List.mem_cons_self, rfl⟩, fun p hp h0 => ?_⟩
   rcases List.mem_cons.1 hp with rfl | hp
   ·exact Int.le_refl _
   ·rcases ih with ⟨_, h2⟩ | ⟨h1, _, h3⟩
    ·have := h2 p hp; omega
    ·have := h3 p hp h0; omega
  ·rw [if_neg hc]
   rcases ih with ⟨h1, h2⟩ | ⟨h1, ⟨p, hp, e⟩, h3⟩
   ·refine .inl ⟨h1, fun p hp => ?_⟩
    rcases List.mem_cons.1 hp with rfl | hp
    ·omega
    ·exact h2 p hp
   ·refine .inr ⟨h1, ⟨p, List.mem_cons_of_mem _ hp, e⟩, fun p hp h0 => ?_⟩
    rcases List.mem_cons.1 hp with rfl | hp
    ·omega
    ·exact h3 p hp h0
/-- the steps up to the first meeting of two, or -1. -/
noncomputable def pairN (m : MacV) (p : Int × Int) : Int := match meetM m p.1 p.2 with | some v => (v.1 : Int) | none => -1
/-- the place at which two meet now, or -1. -/
def hereN (m : MacV) (p : Int × Int) : Int := if hitM m p.1 p.2 then placeM m p.1 else -1
theorem hit_place {m : MacV} {x y : Int} (h : hitM m x y = true) : 0 ≤ placeM m x := by
 unfold hitM at h
 simp only [Bool.and_eq_true, decide_eq_true_eq] at h
 exact h.1.1
theorem hereN_nonneg {m : MacV} {p : Int × Int} : 0 ≤ hereN m p ↔ hitM m p.1 p.2 = true := by
 unfold hereN
 split
 ·rename_i h; exact ⟨fun _ => h, fun _ => hit_place h⟩
 ·rename_i h; exact ⟨fun h2 => by omega, fun h2 => absurd h2 h⟩
noncomputable def nowM (m : MacV) (l : List Int) : Int := minF (hereN m) (pairsTo l l.length)
noncomputable def meetN (m : MacV) (l : List Int) : Int := minF (pairN m) (pairsTo l l.length)
theorem pairN_nonneg {m : MacV} {p : Int × Int} : 0 ≤ pairN m p ↔ meetM m p.1 p.2 ≠ none := by
 unfold pairN
 cases meetM m p.1 p.2 with
 | none => simp
 | some v => simp
theorem pairsTo_map {l : List Int} {f : Int → Int} {p : Int × Int} : p ∈ pairsTo (l.map f) (l.map f).length ↔ ∃ q ∈ pairsTo l l.length, p = (f q.1, f q.2) := by
 have at_map : ∀ i : Nat, i < l.length → atD 0 (l.map f) i = f (atD 0 l i) := fun i hi => by simp [atD, hi]
 rw [pairsTo_mem (Nat.le_refl _)]
 constructor
 ·rintro ⟨i, j, hji, hi, rfl⟩
  rw [List.length_map] at hi
  refine ⟨(atD 0 l i, atD 0 l j), (pairsTo_mem (Nat.le_refl _)).2 ⟨i, j, hji, hi, rfl⟩, ?_⟩
  rw [at_map i hi, at_map j (by omega)]
 ·rintro ⟨q, hq, rfl⟩
  obtain ⟨i, j, hji, hi, rfl⟩ := (pairsTo_mem (Nat.le_refl _)).1 hq
  refine ⟨i, j, hji, by rw [List.length_map]; exact hi, ?_⟩
  rw [at_map i hi, at_map j (by omega)]
theorem meet_refN {m : MacV} {l : List Int} (h : firstM m l = none) : meetN m l = -1 := by
 obtain ⟨s1, _⟩ := foldF_spec m (pairsTo l l.length) none
 have k := (s1 h).2
 rcases minF_spec (pairN m) (pairsTo l l.length) with h1 | ⟨h1, ⟨p, hp, e⟩, _⟩
 ·exact h1.1
 ·exfalso
  rw [← e, pairN_nonneg] at h1
  exact h1 (k p hp)
theorem meet_refS {m : MacV} {l : List Int} {n : Nat} {pl : Int} (h : firstM m l = some (n, pl)) : meetN m l = n ∧ nowM m (l.map fun s => itM m s n) = pl := by
 obtain ⟨_, s2⟩ := foldF_spec m (pairsTo l l.length) none
 obtain ⟨_, k2, k3⟩ := s2 _ h
 obtain ⟨q, hq, hqm⟩ : ∃ p ∈ pairsTo l l.length, meetM m p.1 p.2 = some (n, pl) := by
  rcases k3 with k3 | k3
  ·cases k3
  ·exact k3
 have hN : meetN m l = n := by
  have hqn : pairN m q = n := by unfold pairN; rw [hqm]
  rcases minF_spec (pairN m) (pairsTo l l.length) with h1 | ⟨h1, ⟨p, hp, e⟩, h3⟩
  ·have := h1.2 q hq; omega
  ·have a := h3 q hq (by omega)
   rw [hqn] at a
   refine Int.le_antisymm a ?_
   rw [← e] at h1
   have h1' := pairN_nonneg.1 h1
   cases hv : meetM m p.1 p.2 with
   | none => exact absurd hv h1'
   | some v =>
    have b := k2 p hp v hv
    rw [befo_false] at b
    have ev : pairN m p = v.1 := by unfold pairN; rw [hv]
    show (n : Int) ≤ minF (pairN m) (pairsTo l l.length)
    rw [← e, ev]
    dsimp only at b
    omega
 refine ⟨hN, ?_⟩
 have hsp := meetM_spec m q.1 q.2
 rw [hqm] at hsp
 obtain ⟨g1, g2, g3⟩ := hsp
 have hqh : hereN m (itM m q.1 n, itM m q.2 n) = pl := by unfold hereN; rw [if_pos g1, g2]
 have hpl0 : 0 ≤ pl := by rw [g2]; exact hit_place g1
 have hqm2 := (pairsTo_map (f := fun s => itM m s n)).2 ⟨q, hq, rfl⟩
 rcases minF_spec (hereN m) (pairsTo (l.map fun s => itM m s n) (l.map fun s => itM m s n).length) with h1 | ⟨h1, ⟨p, hp, e⟩, h3⟩
 ·have := h1.2 _ hqm2; omega
 ·have a := h3 _ hqm2 (by rw [hqh]; exact hpl0)
  rw [hqh] at a
  refine Int.le_antisymm a ?_
  show pl ≤ minF (hereN m) _
  obtain ⟨p0, hp0, rfl⟩ := pairsTo_map.1 hp
  rw [← e] at h1
  have hh := hereN_nonneg.1 h1
  dsimp only at hh
  cases hv : meetM m p0.1 p0.2 with
  | none =>
   have hs := meetM_spec m p0.1 p0.2
   rw [hv] at hs
   have := hs n
   rw [this] at hh; cases hh
  | some v =>
   have b := k2 p0 hp0 v hv
   have hs := meetM_spec m p0.1 p0.2
   rw [hv] at hs
   obtain ⟨t1, t2, t3⟩ := hs
   have hvn : ¬ n < v.1 := fun hlt => by rw [t3 n hlt] at hh; cases hh
   rw [befo_false] at b
   dsimp only at b
   have hvn2 : v.1 = n := by omega
   have hpv : pl ≤ v.2 := by omega
   rw [← e]
   unfold hereN
   rw [if_pos hh]
   dsimp only
   rw [hvn2] at t2
   rw [← t2]
   exact hpv
end Go.Proofs.YtbchpkmcpplidaaGreatDoor

namespace Go.Proofs.YtbchpkmcpplidaaGreatDoor
open Go.RowKit
set_option maxHeartbeats 4000000
set_option maxRecDepth 100000
theorem mapStep {l : List Int} (f : Int → Int) {k : Nat} (h : k < l.length) : (l.map f).take (k + 1) = (l.map f).take k ++ [f (atD 0 l k)] := by
 have e : atD 0 l k = l[k] := by simp [atD, h]
 rw [List.take_succ_eq_append_getElem (by simpa using h), e]
 simp
theorem atD_in {l : List Int} {P : Int → Prop} (h : ∀ x ∈ l, P x) {k : Nat} (hk : k < l.length) : P (atD 0 l k) := by
 have e : atD 0 l k = l[k] := by simp [atD, hk]
 rw [e]; exact h _ (List.getElem_mem hk)
theorem rSteps_any (m : MacV) (ad : Option Addr) (cap : Nat) (al : Option Addr) (cl : Nat) (l : List Int) (K : Nat) (w : World) (hR : Ints w ad cap m.sw) (hL : Ints w al cl l) (hg0 : 1 ≤ m.gears) (hg : m.gears ≤ 16) (hl : ∀ x ∈ l, 0 ≤ x ∧ x < 4 * m.gears) (hn : l.length ≤ 64) (hK : K ≤ 9223372036854775000) :
  Calls Tryz.prog 27 #[mV m ad cap, .slice al l.length cl, .int .i64 K] w fun r w' => ∃ v, r = .returned v ∧ OwnI w.heap.size w' v (l.map fun s => itM m s K) ∧ Below w.heap.size w w' := by
 have hcap := hL.le
 have hmx := hL.max
 have hS := (SL.nil w).box (.cells (mC m ad cap) 25)
 have CP := fun w h => rPerm_any m ad cap w h hg0 hg
 have hpl : (permM m).length ≤ 64 := by rw [permM_len]; omega
 have CW := fun a c w h => rPower_any a c (permM m) K w h (permM_isP m) hpl hK
 have hpw : ∀ k : Nat, k < l.length → 0 ≤ atD 0 l k ∧ atD 0 l k < (powP (permM m) K).length ∧ atD 0 (powP (permM m) K) (atD 0 l k) = itM m (atD 0 l k) K := fun k hk => by
  have h1 := atD_in hl hk
  rw [powP_len, permM_len]
  exact ⟨h1.1, by omega, powP_at h1.1 (by rw [permM_len]; omega)⟩
 have hst := fun (k : Nat) (h : k < l.length) => mapStep (fun s => itM m s K) h
 obtain ⟨L, hLL⟩ : ∃ L, L = l.map fun s => itM m s K := ⟨_, rfl⟩
 have hLlen : L.length = l.length := by rw [hLL]; simp
 simp only [← hLL] at hst
 rw [← hLL]
 obtain ⟨Q, hQ⟩ : ∃ Q, Q = powP (permM m) K := ⟨_, rfl⟩
 have hQl : Q.length ≤ 64 := by rw [hQ, powP_len]; exact hpl
 obtain ⟨Pm, hPm⟩ : ∃ Pm, Pm = permM m := ⟨_, rfl⟩
 rw [← hQ] at hpw
 rw [← hPm] at CP hpl
 simp only [← hQ] at CW
 simp only [← hPm] at CW
 obtain ⟨ev, hev⟩ : ∃ ev : Int → Int, ∀ s, ev s = itM m s K := ⟨_, fun _ => rfl⟩
 simp only [← hev] at hpw hst
 have HP := hid CP; have HW := hid CW; have HPW := hid hpw; have HST := hid hst; have HLN := hid hLlen
 clear CP CW hpw hst hLL hQ hPm hl hLlen hev
 go_enter Tryz.func27, Tryz.ntmps27
 go_wp2_with fail
 refine (HP.out _ (hR.below hS.b)).mono ?_
 rintro e w1 ⟨v1, rfl, ho1, b1⟩
 obtain ⟨a1, c1, rfl, h1, _, _⟩ := ho1.reps
 have hS1 := hS.mono b1
 go_wp2_with fail
 refine (HW.out a1 c1 w1 h1).mono ?_
 rintro e w2 ⟨v2, rfl, ho2, b2⟩
 obtain ⟨a2, c2, rfl, h2, _, _⟩ := ho2.reps
 have t2 := bnext hS1.b b2
 have hS2 := ((SL.nil w2).nilS (α := Int) (e := 3) cIntS)
 clear hS hS1 ho1 ho2 h1 b1 b2
 go_wp2_with fail
 go_loopw [9, 8] (fun i v wr => ∃ k : Nat, k ≤ l.length ∧ i = .int .i64 k ∧ SL w2.heap.size w2 wr [pOwn cInt 1 3 v (L.take k)]) (fun i _ _ => l.length - (intOf i).toNat)
 case atStart => exact ⟨0, by omega, rfl, hS2⟩
 case round =>
  clear hS2
  obtain ⟨k, hk, rfl, hSr⟩ := hrel
  by_cases hlt : k < l.length
  ·obtain ⟨x0, x1, x2⟩ := HPW.out k hlt
   have hs := HST.out k hlt
   have hle : (L.take k).length ≤ 64 := by rw [List.length_take]; omega
   obtain ⟨x, hx⟩ : ∃ x, x = atD 0 l k := ⟨_, rfl⟩
   rw [← hx] at x0 x1 x2 hs
   obtain ⟨y, hy⟩ : ∃ y, y = ev x := ⟨_, rfl⟩
   rw [← hy] at x2 hs
   have HX := hid hx; have HX2 := hid x2; have HS := hid hs
   have hLr := hL.below (bnext t2 hSr.b)
   have hQr := h2.below hSr.b
   clear hx x2 hs hy
   go_wp2_with (first | ((with_reducible refine wpList_idx _ 0 E_ints F_int cInt1 (by with_unfolding_all rfl) (by with_unfolding_all rfl) (hLr) (by first | omega | (simp; done)) (by first | omega | (simp; done)) (fun _ => by with_unfolding_all rfl) (fun _ => ?_)); rw [← HX.out]) | ((with_reducible refine wpList_idx _ 0 E_ints F_int cInt1 (by with_unfolding_all rfl) (by with_unfolding_all rfl) (hQr) (by first | omega | (simp; done)) (by first | omega | (simp; done)) (fun _ => by with_unfolding_all rfl) (fun _ => ?_)); rw [HX2.out]) | ((with_reducible refine wpList_pushL (y := y) 0 E_ints (by with_unfolding_all rfl) (by with_unfolding_all rfl) (hSr) (by with_unfolding_all rfl) cIntO ⟨rfl, rfl⟩ (by first | with_unfolding_all rfl | simp) (by with_unfolding_all rfl) (by first | omega | (simp; omega)) (by first | omega | (simp; omega)) ?_); intro v5 w5 hS5))
   exact ⟨⟨k + 1, by omega, by go_num, by rw [HS.out]; exact hS5⟩, by simp [intOf]; omega⟩
  ·have hkn : k = L.length := by rw [HLN.out]; omega
   have et : L.take k = L := by rw [hkn, List.take_length]
   rw [et] at hSr
   clear et hkn
   go_wp2_with fail
   go_ret
   exact ⟨_, rfl, (hSr.own 0 rfl).mono t2.size, bnext t2 hSr.b⟩
theorem rpair_any (m : MacV) (ad : Option Addr) (cap : Nat) (a b : Int) (w : World) (hR : Ints w ad cap m.sw) (hg0 : 1 ≤ m.gears) (hg : m.gears ≤ 16) (a0 : 0 ≤ a) (a1 : a < 4 * m.gears) (b0 : 0 ≤ b) (b1 : b < 4 * m.gears) (hne : a ≠ b) :
  Calls Tryz.prog 78 #[mV m ad cap, .int .i64 a, .int .i64 b] w fun r w' => r = .returned (.int .i64 (pairN m (a, b))) ∧ Below w.heap.size w w' := by
 have hcap := hR.le
 have hmx := hR.max
 have hS := (SL.nil w).box (.cells (mC m ad cap) 25)
 obtain ⟨L, hL0, hL1, hLa, hLb⟩ := meet_per2 hg a0 a1 b0 b1
 have hMR := meetM_spec m a b
 obtain ⟨R, hRR⟩ : ∃ R, R = pairN m (a, b) := ⟨_, rfl⟩
 have hRv : R = match meetM m a b with | some v => (v.1 : Int) | none => -1 := hRR
 rw [← hRR]
 generalize meetM m a b = mm at hMR hRv
 have HX : Hid (∀ n : Nat, 0 ≤ itM m a n ∧ itM m a n < 4 * m.gears) := hid fun n => itM_rng a0 a1 n
 have HY : Hid (∀ n : Nat, 0 ≤ itM m b n ∧ itM m b n < 4 * m.gears) := hid fun n => itM_rng b0 b1 n
 have HNX : Hid (∀ n : Nat, itM m a (n + 1) = nextM m (itM m a n)) := hid fun n => itM_succ a0 a1 n
 have HNY : Hid (∀ n : Nat, itM m b (n + 1) = nextM m (itM m b n)) := hid fun n => itM_succ b0 b1 n
 have HNE : Hid (∀ n : Nat, itM m b n ≠ itM m a n) := hid fun n e => hne (itM_inj b0 b1 a0 a1 n e).symm
 have HO : Hid (∀ (x : Int) w, 0 ≤ x → x < 4 * m.gears → _) := hid fun x w h0 h1 => rOther_any m ad cap x w hg0 hg h0 h1
 have HST : Hid (∀ (x : Int) w, Ints w ad cap m.sw → 0 ≤ x → x < 4 * m.gears → _) := hid fun x w h h0 h1 => rStep_any m ad cap x w h hg0 hg h0 h1
 have HMR := hid hMR; have HRV := hid hRv
 have HLA := hid hLa; have HLB := hid hLb
 clear hMR hRv hRR hLa hLb hne a0 a1 b0 b1
 go_enter Tryz.func78, Tryz.ntmps78
 go_wp2_with fail
 go_loopw [7, 8, 9] (fun x y i wr => ∃ n : Nat, n < L ∧ x = .int .i64 (itM m a n) ∧ y = .int .i64 (itM m b n) ∧ i = .int .i64 n ∧ (∀ k, k < n → hitM m (itM m a k) (itM m b k) = false) ∧ SL w.heap.size w wr [pBlk w.heap.size (.cells (mC m ad cap) 25)]) (fun _ _ i _ => L - (intOf i).toNat)
 case atStart => exact ⟨0, hL0, rfl, rfl, rfl, fun k hk => absurd hk (Nat.not_lt_zero k), hS⟩
 case round =>
  clear hS
  obtain ⟨n, hn, rfl, rfl, rfl, hno, hSr⟩ := hrel
  have HNO := hid hno
  clear hno
  have q0 := (hSr.blk 0 rfl).1
  obtain ⟨X, hX⟩ : ∃ X, X = itM m a n := ⟨_, rfl⟩
  obtain ⟨Y, hY⟩ : ∃ Y, Y = itM m b n := ⟨_, rfl⟩
  have hxr := HX.out n
  have hyr := HY.out n
  have hnx := HNX.out n
  have hny := HNY.out n
  have hoh := other_hit (m := m) (x := itM m a n) (y := itM m b n) hxr.1 hxr.2 hyr.1 hyr.2 (HNE.out n)
  have CO := fun w => HO.out (itM m a n) w hxr.1 hxr.2
  have CX := fun w h => HST.out (itM m a n) w h hxr.1 hxr.2
  have CY := fun w h => HST.out (itM m b n) w h hyr.1 hyr.2
  rw [← hX] at hoh CO CX hnx ⊢
  rw [← hY] at hoh CY hny ⊢
  obtain ⟨O, hOO⟩ : ∃ O, O = otherM m X := ⟨_, rfl⟩
  rw [← hOO] at hoh CO
  have hn4 : (n : Int) < 4096 := by omega
  have HCO := hid CO; have HCX := hid CX; have HCY := hid CY; have HNX1 := hid hnx; have HNY1 := hid hny; have EX := hid hX; have EY := hid hY
  clear CO CX CY hOO hxr hyr hnx hny hX hY
  cases hhit : hitM m X Y
  ·rw [hhit] at hoh
   have HIT := hid hhit
   clear hhit
   go_wp2_with (with_reducible refine wpList_ldS (n := 4) (us := mC m ad cap) A_rmach (by kernel_rfl) (by with_unfolding_all rfl) (by with_unfolding_all rfl) (by assumption) (by with_unfolding_all rfl) (by with_unfolding_all rfl) ?_)
   refine (HCO.out _).mono ?_
   rintro e w4 ⟨rfl, b4⟩
   have hS4 := hSr.mono b4
   clear q0
   go_wp2_with fail
   have R4 := hR.below hS4.b
   have q4 := (hS4.blk 0 rfl).1
   refine wp_region_q (by kernel_rfl) (by kernel_rfl) ?_
   repeat (first | ((with_reducible refine wpB_loadS (n := 4) (us := mC m ad cap) A_rmach (by kernel_rfl) (by with_unfolding_all rfl) (by with_unfolding_all rfl) (by assumption) (by with_unfolding_all rfl) (by with_unfolding_all rfl) ?_); (try simp only [Act.put, pA, pB, pC])) | ((refine wpB_call (.int .i64 (nextM m X)) (by with_unfolding_all rfl) (fun w' => ?_) (fun w' hw' => HCX.out w' (R4.below hw')) ?_); (focus (go_simp; done)); (try simp only [Act.put, pA, pB, pC])) | ((refine wpB_call (.int .i64 (nextM m Y)) (by with_unfolding_all rfl) (fun w' => ?_) (fun w' hw' => HCY.out w' (R4.below hw')) ?_); (focus (go_simp; done)); (try simp only [Act.put, pA, pB, pC])) |  ((with_reducible refine wpB_load (by first | exact F_int | exact F_u64s) (by with_unfolding_all rfl) (by with_unfolding_all rfl) (by assumption) (by with_unfolding_all rfl) ?_); (try simp only [Act.put, pA, pB, pC])) | ((refine wpQ_oneG ?_ (by with_unfolding_all rfl) (fun w' => ?_) ?_); rotate_left; (go_simp; rfl); (try simp only [Act.put, pA, pB, pC])))
   refine wpQuiet_nil ?_
   intro w5 hb5
   have hS5 := hS4.mono hb5
   rw [← HNX1.out, ← HNY1.out]
   have hno2 : ∀ k, k < n + 1 → hitM m (itM m a k) (itM m b k) = false := by
    intro k hk
    by_cases e : k = n
    ·rw [e, ← EX.out, ← EY.out]; exact HIT.out
    ·exact HNO.out k (by omega)
   by_cases ea : itM m a (n + 1) = a
   ·by_cases eb : itM m b (n + 1) = b
    ·have hN : MeetR m a b none := meet_none (by omega) ea eb hno2
     have hrn := HMR.out.eq hN
     subst hrn
     have hR1 : R = -1 := HRV.out
     clear hno2 hN HRV
     subst hR1
     have da : (itM m a (n + 1) == a) = true := by simpa using ea
     have db : (itM m b (n + 1) == b) = true := by simpa using eb
     clear ea eb
     go_wp2_with fail
     go_ret
     exact ⟨rfl, hS5.b⟩
    ·have da : (itM m a (n + 1) == a) = true := by simpa using ea
     have db : (itM m b (n + 1) == b) = false := by simpa using eb
     have hnl : n + 1 ≠ L := fun e => eb (by rw [e]; exact HLB.out)
     have HNO2 := hid hno2
     clear ea eb hno2
     go_wp2_with fail
     exact ⟨⟨n + 1, by omega, rfl, rfl, by go_num, HNO2.out, hS5⟩, by simp [intOf]; omega⟩
   ·have da : (itM m a (n + 1) == a) = false := by simpa using ea
    have hnl : n + 1 ≠ L := fun e => ea (by rw [e]; exact HLA.out)
    have HNO2 := hid hno2
    clear ea hno2
    go_wp2_with fail
    exact ⟨⟨n + 1, by omega, rfl, rfl, by go_num, HNO2.out, hS5⟩, by simp [intOf]; omega⟩
  ·rw [hhit] at hoh
   have hM : MeetR m a b (some (n, placeM m X)) := ⟨by rw [← EX.out, ← EY.out]; exact hhit, by rw [← EX.out], HNO.out⟩
   have hrn := HMR.out.eq hM
   subst hrn
   have hR1 : R = n := HRV.out
   clear hhit hM HRV
   subst hR1
   go_wp2_with (with_reducible refine wpList_ldS (n := 4) (us := mC m ad cap) A_rmach (by kernel_rfl) (by with_unfolding_all rfl) (by with_unfolding_all rfl) (by assumption) (by with_unfolding_all rfl) (by with_unfolding_all rfl) ?_)
   refine (HCO.out _).mono ?_
   rintro e w4 ⟨rfl, b4⟩
   go_wp2_with fail
   go_ret
   exact ⟨rfl, bnext hSr.b b4⟩
end Go.Proofs.YtbchpkmcpplidaaGreatDoor
