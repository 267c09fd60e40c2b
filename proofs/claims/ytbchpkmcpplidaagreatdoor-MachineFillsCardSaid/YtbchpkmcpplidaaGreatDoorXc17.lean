/- Contracts and plain facts that the claim uses (AwM IxG AwN K3a K3b). Conditions: as each one states. -/
import Derived.Test.YtbchpkmcpplidaaGreatDoorXc01
import Derived.Test.YtbchpkmcpplidaaGreatDoorXc02
import Derived.Test.YtbchpkmcpplidaaGreatDoorXc06
import Derived.Test.YtbchpkmcpplidaaGreatDoorXc08
import Derived.Test.YtbchpkmcpplidaaGreatDoorXc09
import Derived.Test.YtbchpkmcpplidaaGreatDoorXc10
import Derived.Test.YtbchpkmcpplidaaGreatDoorXc15
import Derived.Test.YtbchpkmcpplidaaGreatDoorXc16
set_option linter.all false

namespace Go.Proofs.YtbchpkmcpplidaaGreatDoor
open Go.RowKit
set_option maxHeartbeats 8000000
set_option maxRecDepth 100000
theorem row_ck : ChkM rowM none 0 := fun w h => CheckMachine_any rowM none 0 w h (by show InI (2 : Int); unfold InI; omega)
theorem row_ckl (al : Option Addr) (cl : Nat) (l : List Int) : ChkL rowM none 0 al cl l := CheckLoad_any rowM none 0 al cl l row_ck
theorem lrow_any (w : World) : Calls Tryz.prog 56 #[] w fun r w' => r = .returned (mV rowM none 0) ∧ Below w.heap.size w w' := by
 have hS := (SL.nil w).box (.cells #[.bool false, .int .i64 2, .int .i64 1, .slice none 0 0] 24)
 go_enter Tryz.func56, Tryz.ntmps56
 go_wp2_with fail
 exact bodyPost_ret (results_cell rfl rfl A_mach (by kernel_rfl) (hS.blk 0 rfl).1) rfl ⟨rfl, hS.b⟩
theorem am_perm (w : World) : Calls Tryz.prog 12 #[mV rowM none 0] w fun r w' => ∃ v, r = .returned (.tuple #[v, .int .i64 0]) ∧ OwnI w.heap.size w' v [1, 4, 3, 0, 7, 2, 5, 6] ∧ Below w.heap.size w w' := by
 have h := mPerm_any rowM none 0 w (ints_nil _) row_ck
 rw [rv_mac, if_pos rfl, rv_perm] at h
 exact h
theorem am_paths (w : World) : Calls Tryz.prog 13 #[mV rowM none 0] w fun r w' => ∃ (v : Value) (qs : List (SlH × List Int)), r = .returned (.tuple #[v, .int .i64 0]) ∧ qs.map Prod.snd = [[0, 1, 4, 7, 6, 5, 2, 3]] ∧ SL w.heap.size w w' (pOwn cSl 1 22 v (qs.map Prod.fst) :: qs.map inP) := by
 have h := mPaths_any rowM none 0 w (ints_nil _) row_ck
 rw [rv_mac, if_pos rfl, rv_cyc] at h
 exact h
theorem am_period (w : World) : Calls Tryz.prog 14 #[mV rowM none 0] w fun r w' => r = .returned (.tuple #[.string ⟨#[56]⟩, .int .i64 0]) ∧ Below w.heap.size w w' := by
 have h := mPeriod_any rowM none 0 w (ints_nil _) row_ck (fun w' _ => itoaOk_small _ _ (by decide +kernel) (by decide +kernel))
 rw [rv_mac, if_pos rfl, rv_per] at h
 exact h
theorem am_meet (w : World) (al : Option Addr) (hL : Ints w al 2 [0, 6]) : Calls Tryz.prog 28 #[mV rowM none 0, .slice al 2 2] w fun r w' => r = .returned (.tuple #[.int .i64 2, .int .i64 1, .int .i64 0]) ∧ Below w.heap.size w w' := by
 have h := mMeet_any rowM none 0 al 2 [0, 6] w (ints_nil _) hL (row_ckl _ _ _)
 rw [rv_meet] at h
 exact h
theorem am_acc (w : World) (al : Option Addr) (hL : Ints w al 2 [0, 1]) : Calls Tryz.prog 29 #[mV rowM none 0, .slice al 2 2] w fun r w' => r = .returned (.int .i64 0) ∧ Below w.heap.size w w' := by
 have h := mAccept_any rowM none 0 al 2 [0, 1] w (ints_nil _) hL (row_ckl _ _ _)
 rw [rv_acc] at h
 exact h
theorem am_fill (w : World) : Calls Tryz.prog 31 #[mV rowM none 0] w fun r w' => ∃ v, r = .returned (.tuple #[v, .int .i64 0]) ∧ OwnI w.heap.size w' v [0, 1, 2, 3] ∧ Below w.heap.size w w' := by
 have h := mFill_any rowM none 0 w (ints_nil _) row_ck
 rw [rv_fillE, if_pos rfl, rv_fill] at h
 exact h
theorem am_free (w : World) (al : Option Addr) (hL : Ints w al 3 [0, 1, 2]) : Calls Tryz.prog 33 #[mV rowM none 0, .slice al 3 3] w fun r w' => ∃ v, r = .returned (.tuple #[v, .int .i64 0]) ∧ OwnI w.heap.size w' v [3, 7] ∧ Below w.heap.size w w' := by
 have h := mFree_any rowM none 0 al 3 [0, 1, 2] w (ints_nil _) hL (row_ckl _ _ _)
 rw [rv_acc3, if_pos rfl, rv_free] at h
 exact h
theorem am_order (w : World) (al : Option Addr) (hL : Ints w al 3 [0, 4, 3]) : Calls Tryz.prog 35 #[mV rowM none 0, .slice al 3 3] w fun r w' => ∃ v, r = .returned (.tuple #[v, .int .i64 0]) ∧ OwnI w.heap.size w' v [0, 2, 1] ∧ Below w.heap.size w w' := by
 have h := mOrder_any rowM none 0 al 3 [0, 4, 3] w (ints_nil _) hL (row_ckl _ _ _)
 rw [rv_ordE, if_pos rfl, rv_ord] at h
 exact h
theorem am_cross (w : World) (al : Option Addr) (hL : Ints w al 3 [0, 4, 3]) : Calls Tryz.prog 36 #[mV rowM none 0, .slice al 3 3] w fun r w' => ∃ v, r = .returned (.tuple #[v, .int .i64 0]) ∧ Own cX 3 w.heap.size 86 w' v (crossM rowM [0, 4, 3]) ∧ Below w.heap.size w w' := by
 have h := mCrossings_any rowM none 0 al 3 [0, 4, 3] w (ints_nil _) hL (row_ckl _ _ _)
 rw [rv_crsE, if_pos rfl] at h
 exact h
theorem am_word (w : World) (al : Option Addr) (hL : Ints w al 3 [0, 4, 3]) : Calls Tryz.prog 37 #[mV rowM none 0, .slice al 3 3, .int .i64 4] w fun r w' => ∃ v, r = .returned (.tuple #[v, .int .i64 0]) ∧ OwnI w.heap.size w' v [-1, 2, 1] ∧ Below w.heap.size w w' := by
 have h := mWord_any rowM none 0 al 3 [0, 4, 3] 4 w (ints_nil _) hL (row_ckl _ _ _)
 rw [rv_wrdE, if_pos rfl, rv_wrd] at h
 exact h
theorem am_strands (w : World) (al : Option Addr) (hL : Ints w al 3 [0, 4, 3]) : Calls Tryz.prog 38 #[mV rowM none 0, .slice al 3 3, .int .i64 4] w fun r w' => ∃ v, r = .returned (.tuple #[v, .int .i64 0]) ∧ OwnI w.heap.size w' v [2, 1, 0] ∧ Below w.heap.size w w' := by
 have h := mStrands_any rowM none 0 al 3 [0, 4, 3] 4 w (ints_nil _) hL (row_ckl _ _ _)
 rw [rv_wvE, if_pos rfl, rv_str] at h
 exact h
theorem am_steps (w : World) (al : Option Addr) (hL : Ints w al 3 [0, 4, 3]) : Calls Tryz.prog 22 #[mV rowM none 0, .slice al 3 3, .int .i64 4] w fun r w' => ∃ v, r = .returned (.tuple #[v, .int .i64 0]) ∧ OwnI w.heap.size w' v [6, 2, 7] ∧ Below w.heap.size w w' := by
 have h := mSteps_any rowM none 0 al 3 [0, 4, 3] 4 w (ints_nil _) hL (row_ckl _ _ _)
 rw [rv_stE, if_pos rfl, show (4 : Int).toNat = 4 from rfl, rv_st] at h
 exact h
theorem am_mir (w : World) (al : Option Addr) (hL : Ints w al 3 [0, 4, 3]) : Calls Tryz.prog 52 #[mV rowM none 0, .slice al 3 3] w fun r w' => ∃ a c v, r = .returned (.tuple #[mV (turnMac rowM) a c, v, .int .i64 0]) ∧ SL w.heap.size w w' [pOwn cInt 1 3 (.slice a 0 c) [], pOwn cInt 1 3 v [0, 4, 1]] := by
 have h := mMirrored_any rowM none 0 al 3 [0, 4, 3] w (ints_nil _) hL (row_ckl _ _ _)
 rw [rv_ldE] at h
 simp only [if_true] at h
 rw [rv_mir] at h
 exact h
theorem am_back (w : World) (al : Option Addr) (hL : Ints w al 1 [4]) : Calls Tryz.prog 53 #[mV rowM none 0, .slice al 1 1] w fun r w' => ∃ a c v, r = .returned (.tuple #[mV (turnMac rowM) a c, v, .int .i64 0]) ∧ SL w.heap.size w w' [pOwn cInt 1 3 (.slice a 0 c) [], pOwn cInt 1 3 v [2]] := by
 have h := mBackwards_any rowM none 0 al 1 [4] w (ints_nil _) hL (row_ckl _ _ _)
 rw [rv_bkE] at h
 simp only [if_true] at h
 rw [rv_bk] at h
 exact h
theorem am_print (w : World) : Calls Tryz.prog 47 #[mV rowM none 0] w fun r w' => r = .returned (.tuple #[.string ⟨#[114, 111, 119, 32, 50, 32, 43, 32, 110, 111, 110, 101]⟩, .int .i64 0]) ∧ Below w.heap.size w w' := by
 have h := mPrint_any rowM none 0 w (ints_nil _) row_ck (fun _ x hx => by cases hx)
 rw [rv_mac, if_pos rfl, rv_print] at h
 exact h
theorem am_parse1 (w : World) (hw : LibW w) : Calls Tryz.prog 48 #[.string ⟨#[114, 105, 110, 103, 32, 50, 32, 45, 32, 48, 44, 49]⟩] w fun r w' => ∃ a c, r = .returned (.tuple #[.agg #[.bool true, .int .i64 2, .int .i64 (-1), .slice a 2 c], .int .i64 0]) ∧ SL w.heap.size w w' [pOwn cInt 1 3 (.slice a 2 c) [0, 1]] := by
 have h := mParse_any [114, 105, 110, 103, 32, 50, 32, 45, 32, 48, 44, 49] w hw (by decide)
 rw [rv_parse1] at h
 exact h
theorem am_parse2 (w : World) (hw : LibW w) : Calls Tryz.prog 48 #[.string ⟨#[114, 105, 110, 103, 32, 51, 32, 43, 32, 110, 111, 110, 101]⟩] w fun r w' => (∃ (R : Bool) (G T : Int) (a : Option Addr) (n c : Nat), r = .returned (.tuple #[.agg #[.bool R, .int .i64 G, .int .i64 T, .slice a n c], .int .i64 17])) ∧ Below w.heap.size w w' := by
 have h := mParse_any [114, 105, 110, 103, 32, 51, 32, 43, 32, 110, 111, 110, 101] w hw (by decide)
 refine h.mono ?_
 rintro r w' ⟨a, c, rfl, hS⟩
 rw [rv_parse2]
 exact ⟨⟨_, _, _, _, _, _, rfl⟩, hS.b⟩
end Go.Proofs.YtbchpkmcpplidaaGreatDoor

namespace Go.Proofs.YtbchpkmcpplidaaGreatDoor
open Go.RowKit
set_option maxRecDepth 100000
section
variable {P : Program} {ops : Array Oper} {rest : List Oper} {a : Act} {α : Type} {c : α → Value} {sz bytes n : Nat} {t e : TypeId} {z : Value} {ad : Option Addr} {cap : Nat} {l : List α} {k : Int}
 {d1 d2 : Tmp} {ty1 ty2 : TypeId} {p1 p2 : String} {s x : Operand} {af1 af2 : Array Edge} {g1 g2 : Option (Nat × Bool)} {w : World}
/-- the load of an element that is known, guarded. -/
theorem wpList_idxSG {Q : Exit → Act → World → Prop} (d : α) (V : Value) (E : ETy P t e z sz bytes) (hF : Aggr P e) (hc : ∀ x, c x = .agg (c x).cells)
   (hs : a.eval s = .slice ad n cap) (hx : a.eval x = .int .i64 k) (hR : Reps c sz w ad cap l) (hn : l.length = n) (h0 : 0 ≤ k) (hlt : k < n) (hV : c (atD d l k) = V) (hd : ∀ p, (a.put (some d1) p).eval (.tmp d1) = p)
   (hw1 : Region.wanted ⟨some d1, .indexAddr t s x, ty1, p1, af1, g1⟩ (yielded ops a.tmps) = true) (hw2 : ∀ p, Region.wanted ⟨some d2, .load e (.tmp d1), ty2, p2, af2, g2⟩ (yielded ops (a.put (some d1) p).tmps) = true)
   (hK : ∀ p, wpList P ops Q rest ((a.put (some d1) p).put (some d2) V) w) :
   wpList P ops Q (⟨some d1, .indexAddr t s x, ty1, p1, af1, g1⟩ :: ⟨some d2, .load e (.tmp d1), ty2, p2, af2, g2⟩ :: rest) a w := by
 subst hn hV
 obtain ⟨p, hr1, hr2⟩ := run_idx_agg d E hF hR hc h0 hlt
 refine wpList_step fun K hK' => ?_
 rw [if_pos hw1]
 unfold Oper.wp
 simp only [execOp, hs, hx]
 simp [hr1, Result.andThen]
 refine hK' _ _ (wpList_step fun K2 hK2 => ?_)
 rw [if_pos (hw2 _)]
 unfold Oper.wp
 simp only [execOp, hd]
 simp [hr2, Result.andThen]
 exact hK2 _ _ (hK _)
end
end Go.Proofs.YtbchpkmcpplidaaGreatDoor

namespace Go.Proofs.YtbchpkmcpplidaaGreatDoor
open Go.RowKit
set_option maxHeartbeats 8000000
set_option maxRecDepth 100000
theorem amSame (a a2 : Option Addr) (cap cap2 n : Nat) (l : List Int) (w : World) (h : Ints w a cap l) (h2 : Ints w a2 cap2 l) (hn : l.length = n) (hs : n ≤ 1048576) : Calls Tryz.prog 16 #[.slice a n cap, .slice a2 n cap2] w fun r w' => r = .returned (.bool true) ∧ Below w.heap.size w w' := by
 subst hn
 have := SameInts_any a a2 cap cap2 l l w h h2 hs
 rw [decide_eq_true rfl] at this
 exact this
theorem leads1 {w : World} {xa : Option Addr} {xc n : Nat} {x : List Int} (h : Ints w xa xc x) (hn : x.length = n) (hs : n ≤ 1048576) : LeadsTo w [(xa, n, xc)] [x] := by
 subst hn
 intro k hk
 have : k = 0 := by simpa using hk
 subst this
 exact ⟨xa, xc, rfl, h, hs⟩
theorem am_word2 (w : World) (ma al : Option Addr) (mc cl : Nat) (hM : Ints w ma mc []) (hL : Ints w al cl [0, 4, 1]) : Calls Tryz.prog 37 #[mV (turnMac rowM) ma mc, .slice al 3 cl, .int .i64 4] w fun r w' => ∃ v, r = .returned (.tuple #[v, .int .i64 0]) ∧ OwnI w.heap.size w' v [1, -2, -1] ∧ Below w.heap.size w w' := by
 have h := mWord_any (turnMac rowM) ma mc al cl [0, 4, 1] 4 w hM hL (CheckLoad_any _ ma mc al cl _ (fun w h => CheckMachine_any (turnMac rowM) ma mc w h (by show InI (2 : Int); unfold InI; omega)))
 rw [rv_mwE, if_pos rfl, rv_mw] at h
 exact h
theorem rv_crs2 : crossM rowM [0, 4, 3] = [⟨0, 2, 0, 0⟩] := by first | rfl | decide | kernel_rfl
-- MARK
theorem awake4_any (w : World) (hw : LibW w) : Calls Tryz.prog 8 #[] w fun r w' => r = .returned (.bool true) ∧ Below w.heap.size w w' := by
 go_enter Tryz.func8, Tryz.ntmps8
 go_wp2_with fail
 refine (lrow_any w).mono ?_
 rintro e w1 ⟨rfl, b1⟩
 go_wp2_with fail
 refine (am_perm w1).mono ?_
 rintro e w2 ⟨v2, rfl, h2, b2⟩
 go_wp2_with fail
 refine (lrow_any w2).mono ?_
 rintro e w3 ⟨rfl, b3⟩
 go_wp2_with fail
 refine (am_paths w3).mono ?_
 rintro e w4 ⟨v4, qs, rfl, hq, hS4⟩
 have b4 := hS4.b
 go_wp2_with fail
 refine (lrow_any w4).mono ?_
 rintro e w5 ⟨rfl, b5⟩
 go_wp2_with fail
 refine (am_period w5).mono ?_
 rintro e w6 ⟨rfl, b6⟩
 go_wp2_with fail
 refine (lrow_any w6).mono ?_
 rintro e w7 ⟨rfl, b7⟩
 go_wp2_with fail
 refine (am_meet _ _ (reps_of_own (own_newN cIntS [0, 6] 2 rfl (by decide) _ rfl (Nat.le_refl _) rfl) rfl)).mono ?_
 rintro e w8 ⟨rfl, b8⟩
 replace b8 := bnext (bal (Below.refl _ _) _) b8
 go_wp2_with fail
 refine (lrow_any w8).mono ?_
 rintro e w9 ⟨rfl, b9⟩
 go_wp2_with fail
 refine (am_acc _ _ (reps_of_own (own_newN cIntS [0, 1] 2 rfl (by decide) _ rfl (Nat.le_refl _) rfl) rfl)).mono ?_
 rintro e w10 ⟨rfl, b10⟩
 replace b10 := bnext (bal (Below.refl _ _) _) b10
 go_wp2_with fail
 refine (lrow_any w10).mono ?_
 rintro e w11 ⟨rfl, b11⟩
 go_wp2_with fail
 refine (am_fill w11).mono ?_
 rintro e w12 ⟨v12, rfl, h12, b12⟩
 go_wp2_with fail
 refine (lrow_any w12).mono ?_
 rintro e w13 ⟨rfl, b13⟩
 go_wp2_with fail
 refine (am_free _ _ (reps_of_own (own_newN cIntS [0, 1, 2] 3 rfl (by decide) _ rfl (Nat.le_refl _) rfl) rfl)).mono ?_
 rintro e w14 ⟨v14, rfl, h14, b14⟩
 replace b14 := bnext (bal (Below.refl _ _) _) b14
 obtain ⟨a2, c2, rfl, r2, _, _⟩ := h2.reps
 obtain ⟨a12, c12, rfl, r12, _, _⟩ := h12.reps
 obtain ⟨a14, c14, rfl, r14, _, _⟩ := h14.reps
 have t12 := bnext b13 b14
 have t4 := bnext b5 (bnext b6 (bnext b7 (bnext b8 (bnext b9 (bnext b10 (bnext b11 (bnext b12 t12)))))))
 have t2 := bnext b3 (bnext b4 t4)
 have t0 := bnext b1 (bnext b2 t2)
 replace r2 := r2.below t2
 replace r12 := r12.below t12
 have hS14 := hS4.mono t4
 clear b1 b2 b3 b4 b5 b6 b7 b8 b9 b10 b11 b12 b13 b14 t12 t4 t2 h2 h12 h14 hS4
 match qs, hq, hS14 with
 | [((xa, xn, xc), ql)], hq, hS14 =>
 have eql : ql = [0, 1, 4, 7, 6, 5, 2, 3] := by simpa using hq
 subst eql
 obtain ⟨a4, c4, rfl, r4, _, _⟩ := (hS14.own 0 rfl).reps
 have r4 : Reps cSl 1 w14 a4 c4 [(xa, xn, xc)] := r4
 obtain ⟨xa', xc', ex, rx, _, _⟩ := (hS14.own (c := cInt) (l := [0, 1, 4, 7, 6, 5, 2, 3]) 1 rfl).reps
 have ex2 : xa = xa' ∧ xn = 8 ∧ xc = xc' := by simpa [cSl] using ex
 obtain ⟨rfl, rfl, rfl⟩ := ex2
 clear ex hq hS14
 go_wp2_with fail
 refine (amSame a2 _ c2 8 8 _ _ (r2.below (bal (Below.refl _ _) _)) (reps_of_own (own_newN cIntS [1, 4, 3, 0, 7, 2, 5, 6] 8 rfl (by decide) _ rfl (Nat.le_refl _) rfl) rfl) rfl (by decide)).mono ?_
 rintro e w15 ⟨rfl, b15⟩
 replace b15 := bnext (bal (Below.refl _ _) _) b15
 replace r4 := r4.below b15
 replace rx := rx.below b15
 replace r12 := r12.below b15
 replace r14 := r14.below b15
 replace b15 := bnext t0 b15
 clear t0 r2
 go_wp2_with fail
 have hin : Ints ((w15.alloc (.cells #[.int .i64 0, .int .i64 1, .int .i64 4, .int .i64 7, .int .i64 6, .int .i64 5, .int .i64 2, .int .i64 3] 3)).alloc (.cells #[.slice (some ⟨w15.heap.size, 0, none⟩) 8 8] 22)) (some ⟨w15.heap.size, 0, none⟩) 8 [0, 1, 4, 7, 6, 5, 2, 3] :=
  (reps_of_own (own_newN cIntS [0, 1, 4, 7, 6, 5, 2, 3] 8 rfl (by decide) _ rfl (Nat.le_refl _) rfl) rfl).below (bal (Below.refl _ _) _)
 have bb := bal (bal (Below.refl w15.heap.size w15) (.cells #[.int .i64 0, .int .i64 1, .int .i64 4, .int .i64 7, .int .i64 6, .int .i64 5, .int .i64 2, .int .i64 3] 3)) (.cells #[.slice (some ⟨w15.heap.size, 0, none⟩) 8 8] 22)
 refine (SamePerms_any a4 _ c4 1 [(xa, 8, xc)] [(some ⟨w15.heap.size, 0, none⟩, 8, 8)] [[0, 1, 4, 7, 6, 5, 2, 3]] 1 _ (r4.below bb) (reps_of_own (own_newN cSlS [(some ⟨w15.heap.size, 0, none⟩, 8, 8)] 1 rfl (by decide) _ (Array.size_push _) (Nat.le_refl _) rfl) rfl) rfl rfl rfl (leads1 (rx.below bb) rfl (by decide)) (leads1 hin rfl (by decide)) (by decide)).mono ?_
 rintro e w16 ⟨rfl, b16⟩
 replace b16 := bnext bb b16
 replace r12 := r12.below b16
 replace r14 := r14.below b16
 replace b16 := bnext b15 b16
 clear b15 bb hin r4 rx
 go_wp2_with fail
 refine (amSame a12 _ c12 4 4 _ _ (r12.below (bal (Below.refl _ _) _)) (reps_of_own (own_newN cIntS [0, 1, 2, 3] 4 rfl (by decide) _ rfl (Nat.le_refl _) rfl) rfl) rfl (by decide)).mono ?_
 rintro e w17 ⟨rfl, b17⟩
 replace b17 := bnext (bal (Below.refl _ _) _) b17
 replace r14 := r14.below b17
 replace b17 := bnext b16 b17
 clear b16 r12
 go_wp2_with fail
 refine (amSame a14 _ c14 2 2 _ _ (r14.below (bal (Below.refl _ _) _)) (reps_of_own (own_newN cIntS [3, 7] 2 rfl (by decide) _ rfl (Nat.le_refl _) rfl) rfl) rfl (by decide)).mono ?_
 rintro e w18 ⟨rfl, b18⟩
 replace b18 := bnext (bal (Below.refl _ _) _) b18
 replace b18 := bnext b17 b18
 clear b17 r14
 go_wp2_with fail
 have hl : Ints (w18.alloc (.cells #[.int .i64 0, .int .i64 4, .int .i64 3] 3)) (some ⟨w18.heap.size, 0, none⟩) 3 [0, 4, 3] := reps_of_own (own_newN cIntS [0, 4, 3] 3 rfl (by decide) _ rfl (Nat.le_refl _) rfl) rfl
 have bl := bal (Below.refl w18.heap.size w18) (.cells #[.int .i64 0, .int .i64 4, .int .i64 3] 3)
 refine (lrow_any _).mono ?_
 rintro e w19 ⟨rfl, b19⟩
 replace hl := hl.below b19
 replace b19 := bnext b18 (bnext bl b19)
 clear b18 bl
 go_wp2_with fail
 refine (am_order _ _ hl).mono ?_
 rintro e w20 ⟨v20, rfl, h20, b20⟩
 replace hl := hl.below b20
 go_wp2_with fail
 refine (lrow_any _).mono ?_
 rintro e w21 ⟨rfl, b21⟩
 replace hl := hl.below b21
 go_wp2_with fail
 refine (am_cross _ _ hl).mono ?_
 rw [rv_crs2]
 rintro e w22 ⟨v22, rfl, h22, b22⟩
 replace hl := hl.below b22
 go_wp2_with fail
 refine (lrow_any _).mono ?_
 rintro e w23 ⟨rfl, b23⟩
 replace hl := hl.below b23
 go_wp2_with fail
 refine (am_word _ _ hl).mono ?_
 rintro e w24 ⟨v24, rfl, h24, b24⟩
 replace hl := hl.below b24
 go_wp2_with fail
 refine (lrow_any _).mono ?_
 rintro e w25 ⟨rfl, b25⟩
 replace hl := hl.below b25
 go_wp2_with fail
 refine (am_strands _ _ hl).mono ?_
 rintro e w26 ⟨v26, rfl, h26, b26⟩
 replace hl := hl.below b26
 go_wp2_with fail
 refine (lrow_any _).mono ?_
 rintro e w27 ⟨rfl, b27⟩
 replace hl := hl.below b27
 go_wp2_with fail
 refine (am_steps _ _ hl).mono ?_
 rintro e w28 ⟨v28, rfl, h28, b28⟩
 replace hl := hl.below b28
 go_wp2_with fail
 refine (lrow_any _).mono ?_
 rintro e w29 ⟨rfl, b29⟩
 replace hl := hl.below b29
 go_wp2_with fail
 refine (am_mir _ _ hl).mono ?_
 rintro e w30 ⟨ma, mc, v30, rfl, hS30⟩
 have b30 := hS30.b
 obtain ⟨a30, c30, rfl, r30⟩ := hS30.slice 1 rfl
 have rm := hS30.rd 0 rfl
 clear hl hS30
 go_wp2_with fail
 have bm := bal (Below.refl w30.heap.size w30) (.cells #[.bool (turnMac rowM).ring, .int .i64 (turnMac rowM).gears, .int .i64 (turnMac rowM).turn, .slice ma (turnMac rowM).sw.length mc] 24)
 refine (am_word2 _ ma a30 mc c30 (rm.below bm) (r30.below bm)).mono ?_
 rintro e w31 ⟨v31, rfl, h31, b31⟩
 replace b31 := bnext bm b31
 replace r30 := r30.below b31
 clear bm rm
 go_wp2_with fail
 refine (lrow_any _).mono ?_
 rintro e w32 ⟨rfl, b32⟩
 go_wp2_with fail
 refine (am_back _ _ (reps_of_own (own_newN cIntS [4] 1 rfl (by decide) _ rfl (Nat.le_refl _) rfl) rfl)).mono ?_
 rintro e w33 ⟨ba, bc, v33, rfl, hS33⟩
 have b33 := bnext (bal (Below.refl _ _) _) hS33.b
 obtain ⟨a33, c33, rfl, r33⟩ := hS33.slice 1 rfl
 obtain ⟨a20, c20, rfl, r20, _, _⟩ := h20.reps
 obtain ⟨a22, c22, rfl, r22, _, _⟩ := h22.reps
 obtain ⟨a24, c24, rfl, r24, _, _⟩ := h24.reps
 obtain ⟨a26, c26, rfl, r26, _, _⟩ := h26.reps
 obtain ⟨a28, c28, rfl, r28, _, _⟩ := h28.reps
 obtain ⟨a31, c31, rfl, r31, _, _⟩ := h31.reps
 have t31 := bnext b32 b33
 have t30 := bnext b31 t31
 have t28 := bnext b29 (bnext b30 t30)
 have t26 := bnext b27 (bnext b28 t28)
 have t24 := bnext b25 (bnext b26 t26)
 have t22 := bnext b23 (bnext b24 t24)
 have t20 := bnext b21 (bnext b22 t22)
 have t18 := bnext b19 (bnext b20 t20)
 replace r20 := r20.below t20
 replace r22 := r22.below t22
 replace r24 := r24.below t24
 replace r26 := r26.below t26
 replace r28 := r28.below t28
 replace r30 := r30.below t31
 replace r31 := r31.below t31
 clear t20 t22 t24 t26 t28 t30 t31 b19 b20 b21 b22 b23 b24 b25 b26 b27 b28 b29 b30 b31 b32 b33 h20 h22 h24 h26 h28 h31 hS33
 go_wp2_with fail
 have hSb := (SL.nil w33).box (.cells #[.bool (turnMac rowM).ring, .int .i64 (turnMac rowM).gears, .int .i64 (turnMac rowM).turn, .slice ba (turnMac rowM).sw.length bc] 24)
 refine (amSame a20 _ c20 3 3 _ _ (r20.below (bal hSb.b _)) (reps_of_own (own_newN cIntS [0, 2, 1] 3 rfl (by decide) _ (Array.size_push _) (Nat.le_refl _) rfl) rfl) rfl (by decide)).mono ?_
 rintro e w34 ⟨rfl, b34⟩
 replace hSb := (hSb.al _).mono b34
 replace b34 := hSb.b
 replace r22 := r22.below b34
 replace r24 := r24.below b34
 replace r26 := r26.below b34
 replace r28 := r28.below b34
 replace r30 := r30.below b34
 replace r31 := r31.below b34
 replace r33 := r33.below b34
 have hVx : cX (atD (⟨0, 0, 0, 0⟩ : CrM) [⟨0, 2, 0, 0⟩] 0) = .agg #[.int .i64 0, .int .i64 2, .int .i64 0] := rfl
 go_wp2_with (with_reducible refine wpList_idxSG (⟨0, 0, 0, 0⟩ : CrM) (.agg #[.int .i64 0, .int .i64 2, .int .i64 0]) E_xs A_xs cX1 (by with_unfolding_all rfl) (by with_unfolding_all rfl) (r22) rfl (by decide) (by decide) hVx (fun _ => by with_unfolding_all rfl) (by with_unfolding_all rfl) (fun _ => by with_unfolding_all rfl) (fun _ => ?_))
 refine (amSame a24 _ c24 3 3 _ _ (r24.below (bal (Below.refl _ _) _)) (reps_of_own (own_newN cIntS [-1, 2, 1] 3 rfl (by decide) _ rfl (Nat.le_refl _) rfl) rfl) rfl (by decide)).mono ?_
 rintro e w35 ⟨rfl, b35⟩
 replace b35 := bnext (bal (Below.refl _ _) _) b35
 replace hSb := hSb.mono b35
 replace r26 := r26.below b35
 replace r28 := r28.below b35
 replace r30 := r30.below b35
 replace r31 := r31.below b35
 replace r33 := r33.below b35
 go_wp2_with fail
 refine (amSame a26 _ c26 3 3 _ _ (r26.below (bal (Below.refl _ _) _)) (reps_of_own (own_newN cIntS [2, 1, 0] 3 rfl (by decide) _ rfl (Nat.le_refl _) rfl) rfl) rfl (by decide)).mono ?_
 rintro e w36 ⟨rfl, b36⟩
 replace b36 := bnext (bal (Below.refl _ _) _) b36
 replace hSb := hSb.mono b36
 replace r28 := r28.below b36
 replace r30 := r30.below b36
 replace r31 := r31.below b36
 replace r33 := r33.below b36
 go_wp2_with fail
 refine (amSame a28 _ c28 3 3 _ _ (r28.below (bal (Below.refl _ _) _)) (reps_of_own (own_newN cIntS [6, 2, 7] 3 rfl (by decide) _ rfl (Nat.le_refl _) rfl) rfl) rfl (by decide)).mono ?_
 rintro e w37 ⟨rfl, b37⟩
 replace b37 := bnext (bal (Below.refl _ _) _) b37
 replace hSb := hSb.mono b37
 replace r30 := r30.below b37
 replace r31 := r31.below b37
 replace r33 := r33.below b37
 go_wp2_with fail
 have T37 := bnext t18 hSb.b
 replace hw := hw.below T37
 refine (lrow_any _).mono ?_
 rintro e w38 ⟨rfl, b38⟩
 go_wp2_with fail
 refine (am_print _).mono ?_
 rintro e w39 ⟨rfl, b39⟩
 replace b39 := bnext b38 b39
 replace hw := hw.below b39
 go_wp2_with fail
 refine (am_parse1 _ hw).mono ?_
 rintro e w40 ⟨ya, yc, rfl, hS40⟩
 have b40 := hS40.b
 have ry := hS40.rd 0 rfl
 replace hw := hw.below b40
 have hSy := (SL.nil w40).box (.cells #[.bool true, .int .i64 2, .int .i64 (-1), .slice ya 2 yc] 24)
 replace hw := hw.below hSy.b
 replace ry := ry.below hSy.b
 go_wp2_with fail
 refine (am_parse2 _ hw).mono ?_
 rintro e w41 ⟨⟨zR, zG, zT, za, zn, zc, rfl⟩, b41⟩
 replace hSy := hSy.mono b41
 replace ry := ry.below b41
 have b41 := bnext b39 (bnext b40 hSy.b)
 replace hSb := hSb.mono b41
 replace r30 := r30.below b41
 replace r31 := r31.below b41
 replace r33 := r33.below b41
 go_wp2_with fail
 have bz := bal (Below.refl w41.heap.size w41) (.cells #[.bool zR, .int .i64 zG, .int .i64 zT, .slice za zn zc] 24)
 refine (amSame a30 _ c30 3 3 _ _ (r30.below (bal bz _)) (reps_of_own (own_newN cIntS [0, 4, 1] 3 rfl (by decide) _ (Array.size_push _) (Nat.le_refl _) rfl) rfl) rfl (by decide)).mono ?_
 rintro e w42 ⟨rfl, b42⟩
 replace b42 := bnext (bal bz _) b42
 replace hSb := hSb.mono b42
 replace r31 := r31.below b42
 replace r33 := r33.below b42
 replace hSy := hSy.mono b42
 replace ry := ry.below b42
 go_wp2_with fail
 refine (amSame a31 _ c31 3 3 _ _ (r31.below (bal (Below.refl _ _) _)) (reps_of_own (own_newN cIntS [1, -2, -1] 3 rfl (by decide) _ rfl (Nat.le_refl _) rfl) rfl) rfl (by decide)).mono ?_
 rintro e w43 ⟨rfl, b43⟩
 replace b43 := bnext (bal (Below.refl _ _) _) b43
 replace hSb := hSb.mono b43
 replace r33 := r33.below b43
 replace hSy := hSy.mono b43
 replace ry := ry.below b43
 have qb := (hSb.blk 0 rfl).1
 go_wp2_with (with_reducible refine wpList_ldB F_int (by with_unfolding_all rfl) (by with_unfolding_all rfl) qb (by with_unfolding_all rfl) ?_)
 refine (amSame a33 _ c33 1 1 _ _ (r33.below (bal (Below.refl _ _) _)) (reps_of_own (own_newN cIntS [2] 1 rfl (by decide) _ rfl (Nat.le_refl _) rfl) rfl) rfl (by decide)).mono ?_
 rintro e w44 ⟨rfl, b44⟩
 replace b44 := bnext (bal (Below.refl _ _) _) b44
 replace hSb := hSb.mono b44
 replace hSy := hSy.mono b44
 replace ry := ry.below b44
 have qy := (hSy.blk 0 rfl).1
 clear r33 qb
 go_wp2_with (first | (with_reducible refine wpList_ldB F_int (by with_unfolding_all rfl) (by with_unfolding_all rfl) qy (by with_unfolding_all rfl) ?_) | (with_reducible refine wpList_ldB F_boolM (by with_unfolding_all rfl) (by with_unfolding_all rfl) qy (by with_unfolding_all rfl) ?_) | (with_reducible refine wpList_ldB F_sliceM (by with_unfolding_all rfl) (by with_unfolding_all rfl) qy (by with_unfolding_all rfl) ?_))
 refine (amSame ya _ yc 2 2 _ _ (ry.below (bal (Below.refl _ _) _)) (reps_of_own (own_newN cIntS [0, 1] 2 rfl (by decide) _ rfl (Nat.le_refl _) rfl) rfl) rfl (by decide)).mono ?_
 rintro e w45 ⟨rfl, b45⟩
 replace b45 := bnext (bal (Below.refl _ _) _) b45
 replace hSb := hSb.mono b45
 replace b45 := bnext t18 hSb.b
 go_wp2_with fail
 go_ret
 exact ⟨rfl, b45⟩
end Go.Proofs.YtbchpkmcpplidaaGreatDoor

namespace Go.Proofs.YtbchpkmcpplidaaGreatDoor
open Go.RowKit
set_option maxHeartbeats 8000000
set_option maxRecDepth 100000
theorem mf_mac_true (m : MacV) (ad al : Option Addr) (cap cl : Nat) (l : List Int) (w : World) (hR : Ints w ad cap m.sw) (hL : Ints w al cl l) (hI : InI m.gears) (hw : LibW w) (hsb : (decide (m.sw.length ≤ 19) && decide (l.length ≤ 67)) = true) (hm : macE m ≠ 0) (hG : decide (4 < m.gears) = true) :
  Calls Tryz.prog 5 #[mV m ad cap, .slice al l.length cl] w fun r w' => r = .returned (.bool true) ∧ Below w.heap.size w w' := by
 have hS0 := ((SL.nil w).box (.cells (mC m ad cap) 24)).box (.cells (mC m ad cap) 25)
 simp only [World.size_alloc] at hS0
 have HA := hid awake4_any
 have hlc := hL.le
 have CSh := fun w => rShort_any m ad cap al cl l.length w
 rw [hsb] at CSh
 have HSh := hid CSh
 clear CSh hsb
 have CM := fun w h => rCheckMachine_any m ad cap w h
 have CK := fun w h h2 => lcheck_any m ad cap al cl l w h h2
 have KM : ChkM m ad cap := fun w h => CheckMachine_any m ad cap w h hI
 have KL : ChkL m ad cap al cl l := CheckLoad_any m ad cap al cl l KM
 have CFI := fun w h => mFill_any m ad cap w h KM
 have CFR := fun w h h2 => mFree_any m ad cap al cl l w h h2 KL
 clear KM KL
 obtain ⟨E, hE⟩ : ∃ E, E = macE m := ⟨_, rfl⟩
 have hEn : E ≠ 0 := by rw [hE]; exact hm
 have hne : (E != 0) = true := by simpa using hEn
 have hne2 : (E == 0) = false := by simpa using hEn
 have hle : loadE m l = E := by unfold loadE; rw [if_pos hm]; exact hE.symm
 have hac : accE m l = E := by unfold accE; rw [hle, if_pos hEn]
 have hfi : fillE m = E := by unfold fillE; rw [if_pos hm]; exact hE.symm
 rw [hac, if_neg hEn] at CFR
 rw [hfi, if_neg hEn] at CFI
 rw [hle] at CK
 rw [← hE] at CM
 have hfe : ∀ x, firstE [E, x] = E := fun x => firstE_head hEn
 have HM := hid CM; have HCK := hid CK; have HFR := hid CFR; have HFI := hid CFI; have HFE := hid hfe
 clear CM CK CFR CFI hle hac hfi hfe hE hm hEn
 go_enter Tryz.func5, Tryz.ntmps5
 go_wp2_with fail
 refine (HA.out _ (hw.below hS0.b)).mono ?_
 rintro e w1 ⟨rfl, b1⟩
 have hS1 := hS0.mono b1
 have q1 := (hS1.blk 0 rfl).1
 have p1 := (hS1.blk 1 rfl).1
 clear hS0
 go_wp2_with (with_reducible refine wpList_ldS (n := 4) (us := mC m ad cap) A_rmach (by kernel_rfl) (by with_unfolding_all rfl) (by with_unfolding_all rfl) (by assumption) (by with_unfolding_all rfl) (by with_unfolding_all rfl) ?_)
 refine (HSh.out _).mono ?_
 rintro e w2 ⟨rfl, b2⟩
 have hS2 := hS1.mono b2
 have q2 := (hS2.blk 0 rfl).1
 have p2 := (hS2.blk 1 rfl).1
 clear hS1 q1 p1
 go_wp2_with (with_reducible refine wpList_ldS (n := 4) (us := mC m ad cap) A_rmach (by kernel_rfl) (by with_unfolding_all rfl) (by with_unfolding_all rfl) (by assumption) (by with_unfolding_all rfl) (by with_unfolding_all rfl) ?_)
 refine (HM.out _ (hR.below hS2.b)).mono ?_
 rintro e w3 ⟨rfl, b3⟩
 have hS3 := hS2.mono b3
 have q3 := (hS3.blk 0 rfl).1
 have p3 := (hS3.blk 1 rfl).1
 clear hS2 q2 p2
 go_wp2_with (first | (with_reducible refine wpList_ldS (n := 4) (us := mC m ad cap) A_mach (by kernel_rfl) (by with_unfolding_all rfl) (by with_unfolding_all rfl) (by assumption) (by with_unfolding_all rfl) (by with_unfolding_all rfl) ?_) | (with_reducible refine wpList_ldB F_int (by with_unfolding_all rfl) (by with_unfolding_all rfl) p3 (by with_unfolding_all rfl) ?_))
 refine (HFI.out _ (hR.below hS3.b)).mono ?_
 rintro e w4 ⟨v4, rfl, ho4, b4⟩
 have hS4 := hS3.mono b4
 have q4 := (hS4.blk 0 rfl).1
 have p4 := (hS4.blk 1 rfl).1
 clear hS3 q3 p3
 obtain ⟨a4, c4, rfl, h4, _, _⟩ := ho4.reps
 clear ho4
 go_wp2_with (with_reducible refine wpList_ldB F_int (by with_unfolding_all rfl) (by with_unfolding_all rfl) p4 (by with_unfolding_all rfl) ?_)
 refine (lwhen_any true 22 w4).mono ?_
 rintro e w' ⟨rfl, rfl⟩
 have hS5 := hS4.al (.cells #[.int .i64 E, .int .i64 22] 3)
 have q5 := (hS5.blk 0 rfl).1
 have p5 := (hS5.blk 1 rfl).1
 clear hS4 q4 p4
 go_wp2_with ((go_at_call 23; refine (lfirst4_any _ _ [_, _] _ (reps_newN cIntS [_, _] 2 rfl (by decide) _ _ (by simp) rfl) (by simp)).mono ?_; rw [HFE.out]; rintro e w' ⟨rfl, rfl⟩))
 refine (llistBad_any a4 none c4 0 0 E _ hne).mono ?_
 rintro e w6 ⟨rfl, b6⟩
 have hS6 := hS5.mono b6
 have q6 := (hS6.blk 0 rfl).1
 have p6 := (hS6.blk 1 rfl).1
 clear hS5 q5 p5
 clear h4
 go_wp2_with (with_reducible refine wpList_ldS (n := 4) (us := mC m ad cap) A_rmach (by kernel_rfl) (by with_unfolding_all rfl) (by with_unfolding_all rfl) (by assumption) (by with_unfolding_all rfl) (by with_unfolding_all rfl) ?_)
 refine (HCK.out _ (hR.below hS6.b) (hL.below hS6.b)).mono ?_
 rintro e w7 ⟨rfl, b7⟩
 have hS7 := hS6.mono b7
 have q7 := (hS7.blk 0 rfl).1
 have p7 := (hS7.blk 1 rfl).1
 clear hS6 q6 p6
 go_wp2_with (with_reducible refine wpList_ldS (n := 4) (us := mC m ad cap) A_mach (by kernel_rfl) (by with_unfolding_all rfl) (by with_unfolding_all rfl) (by assumption) (by with_unfolding_all rfl) (by with_unfolding_all rfl) ?_)
 refine (HFR.out _ (hR.below hS7.b) (hL.below hS7.b)).mono ?_
 rintro e w8 ⟨v8, rfl, ho8, b8⟩
 have hS8 := hS7.mono b8
 have q8 := (hS8.blk 0 rfl).1
 have p8 := (hS8.blk 1 rfl).1
 clear hS7 q7 p7
 obtain ⟨a8, c8, rfl, h8, _, _⟩ := ho8.reps
 clear ho8
 go_wp2_with fail
 refine (llistBad_any a8 none c8 0 0 E _ hne).mono ?_
 rintro e w9 ⟨rfl, b9⟩
 go_wp2_with fail
 go_ret
 exact ⟨rfl, bnext hS8.b b9⟩
theorem mf_mac_false (m : MacV) (ad al : Option Addr) (cap cl : Nat) (l : List Int) (w : World) (hR : Ints w ad cap m.sw) (hL : Ints w al cl l) (hI : InI m.gears) (hw : LibW w) (hsb : (decide (m.sw.length ≤ 19) && decide (l.length ≤ 67)) = true) (hm : macE m ≠ 0) (hG : decide (4 < m.gears) = false) :
  Calls Tryz.prog 5 #[mV m ad cap, .slice al l.length cl] w fun r w' => r = .returned (.bool true) ∧ Below w.heap.size w w' := by
 have hS0 := ((SL.nil w).box (.cells (mC m ad cap) 24)).box (.cells (mC m ad cap) 25)
 simp only [World.size_alloc] at hS0
 have HA := hid awake4_any
 have hlc := hL.le
 have CSh := fun w => rShort_any m ad cap al cl l.length w
 rw [hsb] at CSh
 have HSh := hid CSh
 clear CSh hsb
 have CM := fun w h => rCheckMachine_any m ad cap w h
 have CK := fun w h h2 => lcheck_any m ad cap al cl l w h h2
 have KM : ChkM m ad cap := fun w h => CheckMachine_any m ad cap w h hI
 have KL : ChkL m ad cap al cl l := CheckLoad_any m ad cap al cl l KM
 have CFI := fun w h => mFill_any m ad cap w h KM
 have CFR := fun w h h2 => mFree_any m ad cap al cl l w h h2 KL
 clear KM KL
 obtain ⟨E, hE⟩ : ∃ E, E = macE m := ⟨_, rfl⟩
 have hEn : E ≠ 0 := by rw [hE]; exact hm
 have hne : (E != 0) = true := by simpa using hEn
 have hne2 : (E == 0) = false := by simpa using hEn
 have hle : loadE m l = E := by unfold loadE; rw [if_pos hm]; exact hE.symm
 have hac : accE m l = E := by unfold accE; rw [hle, if_pos hEn]
 have hfi : fillE m = E := by unfold fillE; rw [if_pos hm]; exact hE.symm
 rw [hac, if_neg hEn] at CFR
 rw [hfi, if_neg hEn] at CFI
 rw [hle] at CK
 rw [← hE] at CM
 have hfe : ∀ x, firstE [E, x] = E := fun x => firstE_head hEn
 have HM := hid CM; have HCK := hid CK; have HFR := hid CFR; have HFI := hid CFI; have HFE := hid hfe
 clear CM CK CFR CFI hle hac hfi hfe hE hm hEn
 go_enter Tryz.func5, Tryz.ntmps5
 go_wp2_with fail
 refine (HA.out _ (hw.below hS0.b)).mono ?_
 rintro e w1 ⟨rfl, b1⟩
 have hS1 := hS0.mono b1
 have q1 := (hS1.blk 0 rfl).1
 have p1 := (hS1.blk 1 rfl).1
 clear hS0
 go_wp2_with (with_reducible refine wpList_ldS (n := 4) (us := mC m ad cap) A_rmach (by kernel_rfl) (by with_unfolding_all rfl) (by with_unfolding_all rfl) (by assumption) (by with_unfolding_all rfl) (by with_unfolding_all rfl) ?_)
 refine (HSh.out _).mono ?_
 rintro e w2 ⟨rfl, b2⟩
 have hS2 := hS1.mono b2
 have q2 := (hS2.blk 0 rfl).1
 have p2 := (hS2.blk 1 rfl).1
 clear hS1 q1 p1
 go_wp2_with (with_reducible refine wpList_ldS (n := 4) (us := mC m ad cap) A_rmach (by kernel_rfl) (by with_unfolding_all rfl) (by with_unfolding_all rfl) (by assumption) (by with_unfolding_all rfl) (by with_unfolding_all rfl) ?_)
 refine (HM.out _ (hR.below hS2.b)).mono ?_
 rintro e w3 ⟨rfl, b3⟩
 have hS3 := hS2.mono b3
 have q3 := (hS3.blk 0 rfl).1
 have p3 := (hS3.blk 1 rfl).1
 clear hS2 q2 p2
 go_wp2_with (first | (with_reducible refine wpList_ldS (n := 4) (us := mC m ad cap) A_mach (by kernel_rfl) (by with_unfolding_all rfl) (by with_unfolding_all rfl) (by assumption) (by with_unfolding_all rfl) (by with_unfolding_all rfl) ?_) | (with_reducible refine wpList_ldB F_int (by with_unfolding_all rfl) (by with_unfolding_all rfl) p3 (by with_unfolding_all rfl) ?_))
 refine (HFI.out _ (hR.below hS3.b)).mono ?_
 rintro e w4 ⟨v4, rfl, ho4, b4⟩
 have hS4 := hS3.mono b4
 have q4 := (hS4.blk 0 rfl).1
 have p4 := (hS4.blk 1 rfl).1
 clear hS3 q3 p3
 obtain ⟨a4, c4, rfl, h4, _, _⟩ := ho4.reps
 clear ho4
 go_wp2_with (with_reducible refine wpList_ldB F_int (by with_unfolding_all rfl) (by with_unfolding_all rfl) p4 (by with_unfolding_all rfl) ?_)
 refine (lwhen_any false 22 w4).mono ?_
 rintro e w' ⟨rfl, rfl⟩
 have hS5 := hS4.al (.cells #[.int .i64 E, .int .i64 0] 3)
 have q5 := (hS5.blk 0 rfl).1
 have p5 := (hS5.blk 1 rfl).1
 clear hS4 q4 p4
 go_wp2_with ((go_at_call 23; refine (lfirst4_any _ _ [_, _] _ (reps_newN cIntS [_, _] 2 rfl (by decide) _ _ (by simp) rfl) (by simp)).mono ?_; rw [HFE.out]; rintro e w' ⟨rfl, rfl⟩))
 refine (llistBad_any a4 none c4 0 0 E _ hne).mono ?_
 rintro e w6 ⟨rfl, b6⟩
 have hS6 := hS5.mono b6
 have q6 := (hS6.blk 0 rfl).1
 have p6 := (hS6.blk 1 rfl).1
 clear hS5 q5 p5
 clear h4
 go_wp2_with (with_reducible refine wpList_ldS (n := 4) (us := mC m ad cap) A_rmach (by kernel_rfl) (by with_unfolding_all rfl) (by with_unfolding_all rfl) (by assumption) (by with_unfolding_all rfl) (by with_unfolding_all rfl) ?_)
 refine (HCK.out _ (hR.below hS6.b) (hL.below hS6.b)).mono ?_
 rintro e w7 ⟨rfl, b7⟩
 have hS7 := hS6.mono b7
 have q7 := (hS7.blk 0 rfl).1
 have p7 := (hS7.blk 1 rfl).1
 clear hS6 q6 p6
 go_wp2_with (with_reducible refine wpList_ldS (n := 4) (us := mC m ad cap) A_mach (by kernel_rfl) (by with_unfolding_all rfl) (by with_unfolding_all rfl) (by assumption) (by with_unfolding_all rfl) (by with_unfolding_all rfl) ?_)
 refine (HFR.out _ (hR.below hS7.b) (hL.below hS7.b)).mono ?_
 rintro e w8 ⟨v8, rfl, ho8, b8⟩
 have hS8 := hS7.mono b8
 have q8 := (hS8.blk 0 rfl).1
 have p8 := (hS8.blk 1 rfl).1
 clear hS7 q7 p7
 obtain ⟨a8, c8, rfl, h8, _, _⟩ := ho8.reps
 clear ho8
 go_wp2_with fail
 refine (llistBad_any a8 none c8 0 0 E _ hne).mono ?_
 rintro e w9 ⟨rfl, b9⟩
 go_wp2_with fail
 go_ret
 exact ⟨rfl, bnext hS8.b b9⟩
theorem mf_four_bad (m : MacV) (ad al : Option Addr) (cap cl : Nat) (l : List Int) (w : World) (hR : Ints w ad cap m.sw) (hL : Ints w al cl l) (hI : InI m.gears) (hw : LibW w) (hsb : (decide (m.sw.length ≤ 19) && decide (l.length ≤ 67)) = true) (hm : macE m = 0) (hG : ¬ m.gears ≤ 3) (hG2 : ¬ 4 < m.gears) (he : loadE m l ≠ 0) :
  Calls Tryz.prog 5 #[mV m ad cap, .slice al l.length cl] w fun r w' => r = .returned (.bool true) ∧ Below w.heap.size w w' := by
 have hS0 := ((SL.nil w).box (.cells (mC m ad cap) 24)).box (.cells (mC m ad cap) 25)
 simp only [World.size_alloc] at hS0
 have HA := hid awake4_any
 have hlc := hL.le
 have CSh := fun w => rShort_any m ad cap al cl l.length w
 rw [hsb] at CSh
 have HSh := hid CSh
 clear CSh hsb
 have CM := fun w h => rCheckMachine_any m ad cap w h
 have CK := fun w h h2 => lcheck_any m ad cap al cl l w h h2
 have KM : ChkM m ad cap := fun w h => CheckMachine_any m ad cap w h hI
 have KL : ChkL m ad cap al cl l := CheckLoad_any m ad cap al cl l KM
 have CFI := fun w h => mFill_any m ad cap w h KM
 have CFR := fun w h h2 => mFree_any m ad cap al cl l w h h2 KL
 clear KM KL
 have hok := (macE_zero hm).1
 have hlo := hok.lo
 have hhi := hok.hi
 rw [hm] at CM
 have HM := hid CM
 clear CM
 have hg3 : decide (m.gears ≤ 3) = false := decide_eq_false (by omega)
 have hg4 : decide (4 < m.gears) = false := decide_eq_false (by omega)
 clear CFI hok
 obtain ⟨E, hE⟩ : ∃ E, E = loadE m l := ⟨_, rfl⟩
 have hEn : E ≠ 0 := by rw [hE]; exact he
 have hne : (E != 0) = true := by simpa using hEn
 have hne2 : (E == 0) = false := by simpa using hEn
 have hac : accE m l = E := by unfold accE; rw [if_pos he]; exact hE.symm
 rw [hac, if_neg hEn] at CFR
 rw [← hE] at CK
 have HCK := hid CK; have HFR := hid CFR
 clear CK CFR hac hE he hm hEn
 go_enter Tryz.func5, Tryz.ntmps5
 go_wp2_with fail
 refine (HA.out _ (hw.below hS0.b)).mono ?_
 rintro e w1 ⟨rfl, b1⟩
 have hS1 := hS0.mono b1
 have q1 := (hS1.blk 0 rfl).1
 have p1 := (hS1.blk 1 rfl).1
 clear hS0
 go_wp2_with (with_reducible refine wpList_ldS (n := 4) (us := mC m ad cap) A_rmach (by kernel_rfl) (by with_unfolding_all rfl) (by with_unfolding_all rfl) (by assumption) (by with_unfolding_all rfl) (by with_unfolding_all rfl) ?_)
 refine (HSh.out _).mono ?_
 rintro e w2 ⟨rfl, b2⟩
 have hS2 := hS1.mono b2
 have q2 := (hS2.blk 0 rfl).1
 have p2 := (hS2.blk 1 rfl).1
 clear hS1 q1 p1
 go_wp2_with (with_reducible refine wpList_ldS (n := 4) (us := mC m ad cap) A_rmach (by kernel_rfl) (by with_unfolding_all rfl) (by with_unfolding_all rfl) (by assumption) (by with_unfolding_all rfl) (by with_unfolding_all rfl) ?_)
 refine (HM.out _ (hR.below hS2.b)).mono ?_
 rintro e w3 ⟨rfl, b3⟩
 have hS3 := hS2.mono b3
 have q3 := (hS3.blk 0 rfl).1
 have p3 := (hS3.blk 1 rfl).1
 clear hS2 q2 p2
 go_wp2_with (first | (with_reducible refine wpList_ldS (n := 4) (us := mC m ad cap) A_rmach (by kernel_rfl) (by with_unfolding_all rfl) (by with_unfolding_all rfl) (by assumption) (by with_unfolding_all rfl) (by with_unfolding_all rfl) ?_) | (with_reducible refine wpList_ldB F_int (by with_unfolding_all rfl) (by with_unfolding_all rfl) p3 (by with_unfolding_all rfl) ?_))
 refine (HCK.out _ (hR.below hS3.b) (hL.below hS3.b)).mono ?_
 rintro e w4 ⟨rfl, b4⟩
 have hS4 := hS3.mono b4
 have q4 := (hS4.blk 0 rfl).1
 have p4 := (hS4.blk 1 rfl).1
 clear hS3 q3 p3
 go_wp2_with (with_reducible refine wpList_ldS (n := 4) (us := mC m ad cap) A_mach (by kernel_rfl) (by with_unfolding_all rfl) (by with_unfolding_all rfl) (by assumption) (by with_unfolding_all rfl) (by with_unfolding_all rfl) ?_)
 refine (HFR.out _ (hR.below hS4.b) (hL.below hS4.b)).mono ?_
 rintro e w5 ⟨v5, rfl, ho5, b5⟩
 have hS5 := hS4.mono b5
 have q5 := (hS5.blk 0 rfl).1
 have p5 := (hS5.blk 1 rfl).1
 clear hS4 q4 p4
 obtain ⟨a5, c5, rfl, h5, _, _⟩ := ho5.reps
 clear ho5
 go_wp2_with fail
 refine (llistBad_any a5 none c5 0 0 E _ hne).mono ?_
 rintro e w6 ⟨rfl, b6⟩
 go_wp2_with fail
 go_ret
 exact ⟨rfl, bnext hS5.b b6⟩
theorem mf_four_long (m : MacV) (ad al : Option Addr) (cap cl : Nat) (l : List Int) (w : World) (hR : Ints w ad cap m.sw) (hL : Ints w al cl l) (hI : InI m.gears) (hw : LibW w) (hsb : (decide (m.sw.length ≤ 19) && decide (l.length ≤ 67)) = true) (hm : macE m = 0) (hG : ¬ m.gears ≤ 3) (hG2 : ¬ 4 < m.gears) (he : loadE m l = 0) (h10 : 10 < l.length) :
  Calls Tryz.prog 5 #[mV m ad cap, .slice al l.length cl] w fun r w' => r = .returned (.bool true) ∧ Below w.heap.size w w' := by
 have hS0 := ((SL.nil w).box (.cells (mC m ad cap) 24)).box (.cells (mC m ad cap) 25)
 simp only [World.size_alloc] at hS0
 have HA := hid awake4_any
 have hlc := hL.le
 have CSh := fun w => rShort_any m ad cap al cl l.length w
 rw [hsb] at CSh
 have HSh := hid CSh
 clear CSh hsb
 have CM := fun w h => rCheckMachine_any m ad cap w h
 have CK := fun w h h2 => lcheck_any m ad cap al cl l w h h2
 have KM : ChkM m ad cap := fun w h => CheckMachine_any m ad cap w h hI
 have KL : ChkL m ad cap al cl l := CheckLoad_any m ad cap al cl l KM
 have CFI := fun w h => mFill_any m ad cap w h KM
 have CFR := fun w h h2 => mFree_any m ad cap al cl l w h h2 KL
 clear KM KL
 have hok := (macE_zero hm).1
 have hlo := hok.lo
 have hhi := hok.hi
 rw [hm] at CM
 have HM := hid CM
 clear CM
 have hg3 : decide (m.gears ≤ 3) = false := decide_eq_false (by omega)
 have hg4 : decide (4 < m.gears) = false := decide_eq_false (by omega)
 clear CFI hok
 have hlok := loadE_zero he
 have hfew := hlok.few
 have hn64 : l.length ≤ 64 := by omega
 have CRM := fun w h h2 => rMeet_any m ad cap al cl l w h h2 hlo hhi hlok.rng hn64 hlok.nodup
 rw [he] at CK
 have HCK := hid CK
 clear CK
 clear CRM CFR hlok he hm
 go_enter Tryz.func5, Tryz.ntmps5
 go_wp2_with fail
 refine (HA.out _ (hw.below hS0.b)).mono ?_
 rintro e w1 ⟨rfl, b1⟩
 have hS1 := hS0.mono b1
 have q1 := (hS1.blk 0 rfl).1
 have p1 := (hS1.blk 1 rfl).1
 clear hS0
 go_wp2_with (with_reducible refine wpList_ldS (n := 4) (us := mC m ad cap) A_rmach (by kernel_rfl) (by with_unfolding_all rfl) (by with_unfolding_all rfl) (by assumption) (by with_unfolding_all rfl) (by with_unfolding_all rfl) ?_)
 refine (HSh.out _).mono ?_
 rintro e w2 ⟨rfl, b2⟩
 have hS2 := hS1.mono b2
 have q2 := (hS2.blk 0 rfl).1
 have p2 := (hS2.blk 1 rfl).1
 clear hS1 q1 p1
 go_wp2_with (with_reducible refine wpList_ldS (n := 4) (us := mC m ad cap) A_rmach (by kernel_rfl) (by with_unfolding_all rfl) (by with_unfolding_all rfl) (by assumption) (by with_unfolding_all rfl) (by with_unfolding_all rfl) ?_)
 refine (HM.out _ (hR.below hS2.b)).mono ?_
 rintro e w3 ⟨rfl, b3⟩
 have hS3 := hS2.mono b3
 have q3 := (hS3.blk 0 rfl).1
 have p3 := (hS3.blk 1 rfl).1
 clear hS2 q2 p2
 go_wp2_with (first | (with_reducible refine wpList_ldS (n := 4) (us := mC m ad cap) A_rmach (by kernel_rfl) (by with_unfolding_all rfl) (by with_unfolding_all rfl) (by assumption) (by with_unfolding_all rfl) (by with_unfolding_all rfl) ?_) | (with_reducible refine wpList_ldB F_int (by with_unfolding_all rfl) (by with_unfolding_all rfl) p3 (by with_unfolding_all rfl) ?_))
 refine (HCK.out _ (hR.below hS3.b) (hL.below hS3.b)).mono ?_
 rintro e w4 ⟨rfl, b4⟩
 have hS4 := hS3.mono b4
 have q4 := (hS4.blk 0 rfl).1
 have p4 := (hS4.blk 1 rfl).1
 clear hS3 q3 p3
 go_wp2_with fail
 go_ret
 exact ⟨rfl, hS4.b⟩
theorem mf_four_none (m : MacV) (ad al : Option Addr) (cap cl : Nat) (l : List Int) (w : World) (hR : Ints w ad cap m.sw) (hL : Ints w al cl l) (hI : InI m.gears) (hw : LibW w) (hsb : (decide (m.sw.length ≤ 19) && decide (l.length ≤ 67)) = true) (hm : macE m = 0) (hG : ¬ m.gears ≤ 3) (hG2 : ¬ 4 < m.gears) (he : loadE m l = 0) (h10 : l.length ≤ 10) (hff : firstM m l = none) :
  Calls Tryz.prog 5 #[mV m ad cap, .slice al l.length cl] w fun r w' => r = .returned (.bool true) ∧ Below w.heap.size w w' := by
 have hS0 := ((SL.nil w).box (.cells (mC m ad cap) 24)).box (.cells (mC m ad cap) 25)
 simp only [World.size_alloc] at hS0
 have HA := hid awake4_any
 have hlc := hL.le
 have CSh := fun w => rShort_any m ad cap al cl l.length w
 rw [hsb] at CSh
 have HSh := hid CSh
 clear CSh hsb
 have CM := fun w h => rCheckMachine_any m ad cap w h
 have CK := fun w h h2 => lcheck_any m ad cap al cl l w h h2
 have KM : ChkM m ad cap := fun w h => CheckMachine_any m ad cap w h hI
 have KL : ChkL m ad cap al cl l := CheckLoad_any m ad cap al cl l KM
 have CFI := fun w h => mFill_any m ad cap w h KM
 have CFR := fun w h h2 => mFree_any m ad cap al cl l w h h2 KL
 clear KM KL
 have hok := (macE_zero hm).1
 have hlo := hok.lo
 have hhi := hok.hi
 rw [hm] at CM
 have HM := hid CM
 clear CM
 have hg3 : decide (m.gears ≤ 3) = false := decide_eq_false (by omega)
 have hg4 : decide (4 < m.gears) = false := decide_eq_false (by omega)
 clear CFI hok
 have hlok := loadE_zero he
 have hfew := hlok.few
 have hn64 : l.length ≤ 64 := by omega
 have CRM := fun w h h2 => rMeet_any m ad cap al cl l w h h2 hlo hhi hlok.rng hn64 hlok.nodup
 rw [he] at CK
 have HCK := hid CK
 clear CK
 have CR2 := fun w h h2 => rFree_any m ad cap al cl l w h h2 hlo hhi hlok.rng hn64
 have hac : accE m l = 0 := by unfold accE; rw [if_neg (by simp [he]), hff]; rfl
 rw [hff] at CRM
 dsimp only [meetV] at CRM
 rw [hac, if_pos rfl] at CFR
 have hfrl : (freeM m l).length ≤ 64 := by have := freeM_len (m := m) (l := l); omega
 obtain ⟨FR, hFRR⟩ : ∃ FR, FR = freeM m l := ⟨_, rfl⟩
 rw [← hFRR] at CFR hfrl
 simp only [← hFRR] at CR2
 have HFR := hid CFR; have HRM := hid CRM; have HRF2 := hid CR2
 clear CFR CRM CR2 hFRR hff hac hlok he hm
 go_enter Tryz.func5, Tryz.ntmps5
 go_wp2_with fail
 refine (HA.out _ (hw.below hS0.b)).mono ?_
 rintro e w1 ⟨rfl, b1⟩
 have hS1 := hS0.mono b1
 have q1 := (hS1.blk 0 rfl).1
 have p1 := (hS1.blk 1 rfl).1
 clear hS0
 go_wp2_with (with_reducible refine wpList_ldS (n := 4) (us := mC m ad cap) A_rmach (by kernel_rfl) (by with_unfolding_all rfl) (by with_unfolding_all rfl) (by assumption) (by with_unfolding_all rfl) (by with_unfolding_all rfl) ?_)
 refine (HSh.out _).mono ?_
 rintro e w2 ⟨rfl, b2⟩
 have hS2 := hS1.mono b2
 have q2 := (hS2.blk 0 rfl).1
 have p2 := (hS2.blk 1 rfl).1
 clear hS1 q1 p1
 go_wp2_with (with_reducible refine wpList_ldS (n := 4) (us := mC m ad cap) A_rmach (by kernel_rfl) (by with_unfolding_all rfl) (by with_unfolding_all rfl) (by assumption) (by with_unfolding_all rfl) (by with_unfolding_all rfl) ?_)
 refine (HM.out _ (hR.below hS2.b)).mono ?_
 rintro e w3 ⟨rfl, b3⟩
 have hS3 := hS2.mono b3
 have q3 := (hS3.blk 0 rfl).1
 have p3 := (hS3.blk 1 rfl).1
 clear hS2 q2 p2
 go_wp2_with (first | (with_reducible refine wpList_ldS (n := 4) (us := mC m ad cap) A_rmach (by kernel_rfl) (by with_unfolding_all rfl) (by with_unfolding_all rfl) (by assumption) (by with_unfolding_all rfl) (by with_unfolding_all rfl) ?_) | (with_reducible refine wpList_ldB F_int (by with_unfolding_all rfl) (by with_unfolding_all rfl) p3 (by with_unfolding_all rfl) ?_))
 refine (HCK.out _ (hR.below hS3.b) (hL.below hS3.b)).mono ?_
 rintro e w4 ⟨rfl, b4⟩
 have hS4 := hS3.mono b4
 have q4 := (hS4.blk 0 rfl).1
 have p4 := (hS4.blk 1 rfl).1
 clear hS3 q3 p3
 go_wp2_with (with_reducible refine wpList_ldS (n := 4) (us := mC m ad cap) A_mach (by kernel_rfl) (by with_unfolding_all rfl) (by with_unfolding_all rfl) (by assumption) (by with_unfolding_all rfl) (by with_unfolding_all rfl) ?_)
 refine (HFR.out _ (hR.below hS4.b) (hL.below hS4.b)).mono ?_
 rintro e w5 ⟨v5, rfl, ho5, b5⟩
 have hS5 := hS4.mono b5
 have q5 := (hS5.blk 0 rfl).1
 have p5 := (hS5.blk 1 rfl).1
 clear hS4 q4 p4
 obtain ⟨a5, c5, rfl, h5, _, _⟩ := ho5.reps
 clear ho5
 go_wp2_with (with_reducible refine wpList_ldS (n := 4) (us := mC m ad cap) A_rmach (by kernel_rfl) (by with_unfolding_all rfl) (by with_unfolding_all rfl) (by assumption) (by with_unfolding_all rfl) (by with_unfolding_all rfl) ?_)
 refine (HRM.out _ (hR.below hS5.b) (hL.below hS5.b)).mono ?_
 rintro e w6 ⟨rfl, b6⟩
 have hS6 := hS5.mono b6
 have q6 := (hS6.blk 0 rfl).1
 have p6 := (hS6.blk 1 rfl).1
 clear hS5 q5 p5
 replace h5 := h5.below b6
 go_wp2_with fail
 refine (lwhen_any false 16 w6).mono ?_
 rintro e w' ⟨rfl, rfl⟩
 go_wp2_with (with_reducible refine wpList_ldS (n := 4) (us := mC m ad cap) A_rmach (by kernel_rfl) (by with_unfolding_all rfl) (by with_unfolding_all rfl) (by assumption) (by with_unfolding_all rfl) (by with_unfolding_all rfl) ?_)
 refine (HRF2.out _ (hR.below hS6.b) (hL.below hS6.b)).mono ?_
 rintro e w7 ⟨v7, rfl, ho7, b7⟩
 obtain ⟨a7, c7, rfl, h7, _, _⟩ := ho7.reps
 have hS7 := hS6.mono b7
 have q7 := (hS7.blk 0 rfl).1
 have p7 := (hS7.blk 1 rfl).1
 clear hS6 q6 p6
 replace h5 := h5.below b7
 clear ho7
 go_wp2_with fail
 refine (llistOk_any a5 a7 c5 c7 _ FR _ h5 h7 rfl (by omega)).mono ?_
 rintro e w8 ⟨rfl, b8⟩
 go_wp2_with fail
 go_ret
 exact ⟨rfl, bnext hS7.b b8⟩
theorem mf_four_some (m : MacV) (ad al : Option Addr) (cap cl : Nat) (l : List Int) (w : World) (hR : Ints w ad cap m.sw) (hL : Ints w al cl l) (hI : InI m.gears) (hw : LibW w) (hsb : (decide (m.sw.length ≤ 19) && decide (l.length ≤ 67)) = true) (hm : macE m = 0) (hG : ¬ m.gears ≤ 3) (hG2 : ¬ 4 < m.gears) (he : loadE m l = 0) (h10 : l.length ≤ 10) (v : Nat × Int) (hff : firstM m l = some v) :
  Calls Tryz.prog 5 #[mV m ad cap, .slice al l.length cl] w fun r w' => r = .returned (.bool true) ∧ Below w.heap.size w w' := by
 have hS0 := ((SL.nil w).box (.cells (mC m ad cap) 24)).box (.cells (mC m ad cap) 25)
 simp only [World.size_alloc] at hS0
 have HA := hid awake4_any
 have hlc := hL.le
 have CSh := fun w => rShort_any m ad cap al cl l.length w
 rw [hsb] at CSh
 have HSh := hid CSh
 clear CSh hsb
 have CM := fun w h => rCheckMachine_any m ad cap w h
 have CK := fun w h h2 => lcheck_any m ad cap al cl l w h h2
 have KM : ChkM m ad cap := fun w h => CheckMachine_any m ad cap w h hI
 have KL : ChkL m ad cap al cl l := CheckLoad_any m ad cap al cl l KM
 have CFI := fun w h => mFill_any m ad cap w h KM
 have CFR := fun w h h2 => mFree_any m ad cap al cl l w h h2 KL
 clear KM KL
 have hok := (macE_zero hm).1
 have hlo := hok.lo
 have hhi := hok.hi
 rw [hm] at CM
 have HM := hid CM
 clear CM
 have hg3 : decide (m.gears ≤ 3) = false := decide_eq_false (by omega)
 have hg4 : decide (4 < m.gears) = false := decide_eq_false (by omega)
 clear CFI hok
 have hlok := loadE_zero he
 have hfew := hlok.few
 have hn64 : l.length ≤ 64 := by omega
 have CRM := fun w h h2 => rMeet_any m ad cap al cl l w h h2 hlo hhi hlok.rng hn64 hlok.nodup
 rw [he] at CK
 have HCK := hid CK
 clear CK
 obtain ⟨V1, V2⟩ := v
 have hac : accE m l = 16 := by unfold accE; rw [if_neg (by simp [he]), hff]; rfl
 rw [hff] at CRM
 dsimp only [meetV] at CRM
 rw [hac, if_neg (by decide)] at CFR
 have hv0 : decide (0 ≤ (V1 : Int)) = true := by simp
 have HFR := hid CFR; have HRM := hid CRM
 clear CFR CRM hff hac hlok he hm
 go_enter Tryz.func5, Tryz.ntmps5
 go_wp2_with fail
 refine (HA.out _ (hw.below hS0.b)).mono ?_
 rintro e w1 ⟨rfl, b1⟩
 have hS1 := hS0.mono b1
 have q1 := (hS1.blk 0 rfl).1
 have p1 := (hS1.blk 1 rfl).1
 clear hS0
 go_wp2_with (with_reducible refine wpList_ldS (n := 4) (us := mC m ad cap) A_rmach (by kernel_rfl) (by with_unfolding_all rfl) (by with_unfolding_all rfl) (by assumption) (by with_unfolding_all rfl) (by with_unfolding_all rfl) ?_)
 refine (HSh.out _).mono ?_
 rintro e w2 ⟨rfl, b2⟩
 have hS2 := hS1.mono b2
 have q2 := (hS2.blk 0 rfl).1
 have p2 := (hS2.blk 1 rfl).1
 clear hS1 q1 p1
 go_wp2_with (with_reducible refine wpList_ldS (n := 4) (us := mC m ad cap) A_rmach (by kernel_rfl) (by with_unfolding_all rfl) (by with_unfolding_all rfl) (by assumption) (by with_unfolding_all rfl) (by with_unfolding_all rfl) ?_)
 refine (HM.out _ (hR.below hS2.b)).mono ?_
 rintro e w3 ⟨rfl, b3⟩
 have hS3 := hS2.mono b3
 have q3 := (hS3.blk 0 rfl).1
 have p3 := (hS3.blk 1 rfl).1
 clear hS2 q2 p2
 go_wp2_with (first | (with_reducible refine wpList_ldS (n := 4) (us := mC m ad cap) A_rmach (by kernel_rfl) (by with_unfolding_all rfl) (by with_unfolding_all rfl) (by assumption) (by with_unfolding_all rfl) (by with_unfolding_all rfl) ?_) | (with_reducible refine wpList_ldB F_int (by with_unfolding_all rfl) (by with_unfolding_all rfl) p3 (by with_unfolding_all rfl) ?_))
 refine (HCK.out _ (hR.below hS3.b) (hL.below hS3.b)).mono ?_
 rintro e w4 ⟨rfl, b4⟩
 have hS4 := hS3.mono b4
 have q4 := (hS4.blk 0 rfl).1
 have p4 := (hS4.blk 1 rfl).1
 clear hS3 q3 p3
 go_wp2_with (with_reducible refine wpList_ldS (n := 4) (us := mC m ad cap) A_mach (by kernel_rfl) (by with_unfolding_all rfl) (by with_unfolding_all rfl) (by assumption) (by with_unfolding_all rfl) (by with_unfolding_all rfl) ?_)
 refine (HFR.out _ (hR.below hS4.b) (hL.below hS4.b)).mono ?_
 rintro e w5 ⟨v5, rfl, ho5, b5⟩
 have hS5 := hS4.mono b5
 have q5 := (hS5.blk 0 rfl).1
 have p5 := (hS5.blk 1 rfl).1
 clear hS4 q4 p4
 obtain ⟨a5, c5, rfl, h5, _, _⟩ := ho5.reps
 clear ho5
 go_wp2_with (with_reducible refine wpList_ldS (n := 4) (us := mC m ad cap) A_rmach (by kernel_rfl) (by with_unfolding_all rfl) (by with_unfolding_all rfl) (by assumption) (by with_unfolding_all rfl) (by with_unfolding_all rfl) ?_)
 refine (HRM.out _ (hR.below hS5.b) (hL.below hS5.b)).mono ?_
 rintro e w6 ⟨rfl, b6⟩
 have hS6 := hS5.mono b6
 have q6 := (hS6.blk 0 rfl).1
 have p6 := (hS6.blk 1 rfl).1
 clear hS5 q5 p5
 go_wp2_with fail
 refine (lwhen_any true 16 w6).mono ?_
 rintro e w' ⟨rfl, rfl⟩
 go_wp2_with fail
 refine (llistBad_any a5 none c5 0 0 16 _ rfl).mono ?_
 rintro e w7 ⟨rfl, b7⟩
 go_wp2_with fail
 go_ret
 exact ⟨rfl, bnext hS6.b b7⟩
end Go.Proofs.YtbchpkmcpplidaaGreatDoor

namespace Go.Proofs.YtbchpkmcpplidaaGreatDoor
open Go.RowKit
set_option maxHeartbeats 8000000
set_option maxRecDepth 100000
theorem mf_good_bad (m : MacV) (ad al : Option Addr) (cap cl : Nat) (l : List Int) (w : World) (hR : Ints w ad cap m.sw) (hL : Ints w al cl l) (hI : InI m.gears) (hw : LibW w) (hsb : (decide (m.sw.length ≤ 19) && decide (l.length ≤ 67)) = true) (hm : macE m = 0) (hG : m.gears ≤ 3) (he : loadE m l ≠ 0) :
  Calls Tryz.prog 5 #[mV m ad cap, .slice al l.length cl] w fun r w' => r = .returned (.bool true) ∧ Below w.heap.size w w' := by
 have hS0 := ((SL.nil w).box (.cells (mC m ad cap) 24)).box (.cells (mC m ad cap) 25)
 simp only [World.size_alloc] at hS0
 have HA := hid awake4_any
 have hlc := hL.le
 have CSh := fun w => rShort_any m ad cap al cl l.length w
 rw [hsb] at CSh
 have HSh := hid CSh
 clear CSh hsb
 have CM := fun w h => rCheckMachine_any m ad cap w h
 have CK := fun w h h2 => lcheck_any m ad cap al cl l w h h2
 have KM : ChkM m ad cap := fun w h => CheckMachine_any m ad cap w h hI
 have KL : ChkL m ad cap al cl l := CheckLoad_any m ad cap al cl l KM
 have CFI := fun w h => mFill_any m ad cap w h KM
 have CFR := fun w h h2 => mFree_any m ad cap al cl l w h h2 KL
 clear KM KL
 have hok := (macE_zero hm).1
 have hlo := hok.lo
 have hhi := hok.hi
 rw [hm] at CM
 have HM := hid CM
 clear CM
 have hfe : fillE m = 0 := by unfold fillE; rw [if_neg (by simp [hm]), if_neg (by omega)]
 rw [hfe, if_pos rfl] at CFI
 obtain ⟨n, hn⟩ : ∃ n : Nat, 4 * m.gears = n := ⟨(4 * m.gears).toNat, by omega⟩
 have CRF := fun w h => rFill_any m ad cap n hn hlo hhi (n + 1) none 0 [] (-1) w h (ints_nil w) (fun x hx => by cases hx) (.inl ⟨rfl, rfl⟩) (by decide) (by omega) (by decide) (by omega)
 have hbe : bestF m (n - ((-1 : Int) + 1).toNat) [] ((-1 : Int) + 1) = fillM m := by rw [fillM_best, hn]; rfl
 have hfl : (fillM m).length ≤ 64 := by
  have := bestF_le m (4 * m.gears).toNat [] 0
  rw [← fillM_best] at this
  simp at this
  omega
 simp only [hbe] at CRF
 obtain ⟨FM, hFM⟩ : ∃ FM, FM = fillM m := ⟨_, rfl⟩
 rw [← hFM] at CFI hfl
 simp only [← hFM] at CRF
 have HFI := hid CFI; have HRF := hid CRF
 have hg3 : decide (m.gears ≤ 3) = true := decide_eq_true hG
 have hg4 : decide (4 < m.gears) = false := decide_eq_false (by omega)
 clear CFI CRF hbe hFM hfe hn hok
 obtain ⟨E, hE⟩ : ∃ E, E = loadE m l := ⟨_, rfl⟩
 have hEn : E ≠ 0 := by rw [hE]; exact he
 have hne : (E != 0) = true := by simpa using hEn
 have hne2 : (E == 0) = false := by simpa using hEn
 have hac : accE m l = E := by unfold accE; rw [if_pos he]; exact hE.symm
 rw [hac, if_neg hEn] at CFR
 rw [← hE] at CK
 have HCK := hid CK; have HFR := hid CFR
 clear CK CFR hac hE he hm hEn
 go_enter Tryz.func5, Tryz.ntmps5
 go_wp2_with fail
 refine (HA.out _ (hw.below hS0.b)).mono ?_
 rintro e w1 ⟨rfl, b1⟩
 have hS1 := hS0.mono b1
 have q1 := (hS1.blk 0 rfl).1
 have p1 := (hS1.blk 1 rfl).1
 clear hS0
 go_wp2_with (with_reducible refine wpList_ldS (n := 4) (us := mC m ad cap) A_rmach (by kernel_rfl) (by with_unfolding_all rfl) (by with_unfolding_all rfl) (by assumption) (by with_unfolding_all rfl) (by with_unfolding_all rfl) ?_)
 refine (HSh.out _).mono ?_
 rintro e w2 ⟨rfl, b2⟩
 have hS2 := hS1.mono b2
 have q2 := (hS2.blk 0 rfl).1
 have p2 := (hS2.blk 1 rfl).1
 clear hS1 q1 p1
 go_wp2_with (with_reducible refine wpList_ldS (n := 4) (us := mC m ad cap) A_rmach (by kernel_rfl) (by with_unfolding_all rfl) (by with_unfolding_all rfl) (by assumption) (by with_unfolding_all rfl) (by with_unfolding_all rfl) ?_)
 refine (HM.out _ (hR.below hS2.b)).mono ?_
 rintro e w3 ⟨rfl, b3⟩
 have hS3 := hS2.mono b3
 have q3 := (hS3.blk 0 rfl).1
 have p3 := (hS3.blk 1 rfl).1
 clear hS2 q2 p2
 go_wp2_with (first | (with_reducible refine wpList_ldS (n := 4) (us := mC m ad cap) A_mach (by kernel_rfl) (by with_unfolding_all rfl) (by with_unfolding_all rfl) (by assumption) (by with_unfolding_all rfl) (by with_unfolding_all rfl) ?_) | (with_reducible refine wpList_ldB F_int (by with_unfolding_all rfl) (by with_unfolding_all rfl) p3 (by with_unfolding_all rfl) ?_))
 refine (HFI.out _ (hR.below hS3.b)).mono ?_
 rintro e w4 ⟨v4, rfl, ho4, b4⟩
 have hS4 := hS3.mono b4
 have q4 := (hS4.blk 0 rfl).1
 have p4 := (hS4.blk 1 rfl).1
 clear hS3 q3 p3
 obtain ⟨a4, c4, rfl, h4, _, _⟩ := ho4.reps
 clear ho4
 go_wp2_with (with_reducible refine wpList_ldB F_int (by with_unfolding_all rfl) (by with_unfolding_all rfl) p4 (by with_unfolding_all rfl) ?_)
 refine (lwhen_any false 22 w4).mono ?_
 rintro e w' ⟨rfl, rfl⟩
 replace h4 := h4.below (bal (Below.refl w4.heap.size w4) (.cells #[.int .i64 0, .int .i64 0] 3))
 have hS5 := hS4.al (.cells #[.int .i64 0, .int .i64 0] 3)
 have q5 := (hS5.blk 0 rfl).1
 have p5 := (hS5.blk 1 rfl).1
 clear hS4 q4 p4
 go_wp2_with (first | (go_at_call 23; refine (lfirst4_any _ _ [_, _] _ (reps_newN cIntS [_, _] 2 rfl (by decide) _ _ (by simp) rfl) (by simp)).mono ?_; rw [firstE_z, firstE_z, firstE_nil]; rintro e w' ⟨rfl, rfl⟩) | (with_reducible refine wpList_ldS (n := 4) (us := mC m ad cap) A_rmach (by kernel_rfl) (by with_unfolding_all rfl) (by with_unfolding_all rfl) (by assumption) (by with_unfolding_all rfl) (by with_unfolding_all rfl) ?_))
 refine (HRF.out _ (hR.below hS5.b)).mono ?_
 rintro e w6 ⟨ax, cx, rfl, hx, b6⟩
 have hS6 := hS5.mono b6
 have q6 := (hS6.blk 0 rfl).1
 have p6 := (hS6.blk 1 rfl).1
 clear hS5 q5 p5
 replace h4 := h4.below b6
 go_wp2_with fail
 refine (llistOk_any a4 ax c4 cx _ FM _ h4 hx rfl (by omega)).mono ?_
 rintro e w7 ⟨rfl, b7⟩
 have hS7 := hS6.mono b7
 have q7 := (hS7.blk 0 rfl).1
 have p7 := (hS7.blk 1 rfl).1
 clear hS6 q6 p6
 clear h4 hx
 go_wp2_with (with_reducible refine wpList_ldS (n := 4) (us := mC m ad cap) A_rmach (by kernel_rfl) (by with_unfolding_all rfl) (by with_unfolding_all rfl) (by assumption) (by with_unfolding_all rfl) (by with_unfolding_all rfl) ?_)
 refine (HCK.out _ (hR.below hS7.b) (hL.below hS7.b)).mono ?_
 rintro e w8 ⟨rfl, b8⟩
 have hS8 := hS7.mono b8
 have q8 := (hS8.blk 0 rfl).1
 have p8 := (hS8.blk 1 rfl).1
 clear hS7 q7 p7
 go_wp2_with (with_reducible refine wpList_ldS (n := 4) (us := mC m ad cap) A_mach (by kernel_rfl) (by with_unfolding_all rfl) (by with_unfolding_all rfl) (by assumption) (by with_unfolding_all rfl) (by with_unfolding_all rfl) ?_)
 refine (HFR.out _ (hR.below hS8.b) (hL.below hS8.b)).mono ?_
 rintro e w9 ⟨v9, rfl, ho9, b9⟩
 have hS9 := hS8.mono b9
 have q9 := (hS9.blk 0 rfl).1
 have p9 := (hS9.blk 1 rfl).1
 clear hS8 q8 p8
 obtain ⟨a9, c9, rfl, h9, _, _⟩ := ho9.reps
 clear ho9
 go_wp2_with fail
 refine (llistBad_any a9 none c9 0 0 E _ hne).mono ?_
 rintro e w10 ⟨rfl, b10⟩
 go_wp2_with fail
 go_ret
 exact ⟨rfl, bnext hS9.b b10⟩
theorem mf_good_long (m : MacV) (ad al : Option Addr) (cap cl : Nat) (l : List Int) (w : World) (hR : Ints w ad cap m.sw) (hL : Ints w al cl l) (hI : InI m.gears) (hw : LibW w) (hsb : (decide (m.sw.length ≤ 19) && decide (l.length ≤ 67)) = true) (hm : macE m = 0) (hG : m.gears ≤ 3) (he : loadE m l = 0) (h10 : 10 < l.length) :
  Calls Tryz.prog 5 #[mV m ad cap, .slice al l.length cl] w fun r w' => r = .returned (.bool true) ∧ Below w.heap.size w w' := by
 have hS0 := ((SL.nil w).box (.cells (mC m ad cap) 24)).box (.cells (mC m ad cap) 25)
 simp only [World.size_alloc] at hS0
 have HA := hid awake4_any
 have hlc := hL.le
 have CSh := fun w => rShort_any m ad cap al cl l.length w
 rw [hsb] at CSh
 have HSh := hid CSh
 clear CSh hsb
 have CM := fun w h => rCheckMachine_any m ad cap w h
 have CK := fun w h h2 => lcheck_any m ad cap al cl l w h h2
 have KM : ChkM m ad cap := fun w h => CheckMachine_any m ad cap w h hI
 have KL : ChkL m ad cap al cl l := CheckLoad_any m ad cap al cl l KM
 have CFI := fun w h => mFill_any m ad cap w h KM
 have CFR := fun w h h2 => mFree_any m ad cap al cl l w h h2 KL
 clear KM KL
 have hok := (macE_zero hm).1
 have hlo := hok.lo
 have hhi := hok.hi
 rw [hm] at CM
 have HM := hid CM
 clear CM
 have hfe : fillE m = 0 := by unfold fillE; rw [if_neg (by simp [hm]), if_neg (by omega)]
 rw [hfe, if_pos rfl] at CFI
 obtain ⟨n, hn⟩ : ∃ n : Nat, 4 * m.gears = n := ⟨(4 * m.gears).toNat, by omega⟩
 have CRF := fun w h => rFill_any m ad cap n hn hlo hhi (n + 1) none 0 [] (-1) w h (ints_nil w) (fun x hx => by cases hx) (.inl ⟨rfl, rfl⟩) (by decide) (by omega) (by decide) (by omega)
 have hbe : bestF m (n - ((-1 : Int) + 1).toNat) [] ((-1 : Int) + 1) = fillM m := by rw [fillM_best, hn]; rfl
 have hfl : (fillM m).length ≤ 64 := by
  have := bestF_le m (4 * m.gears).toNat [] 0
  rw [← fillM_best] at this
  simp at this
  omega
 simp only [hbe] at CRF
 obtain ⟨FM, hFM⟩ : ∃ FM, FM = fillM m := ⟨_, rfl⟩
 rw [← hFM] at CFI hfl
 simp only [← hFM] at CRF
 have HFI := hid CFI; have HRF := hid CRF
 have hg3 : decide (m.gears ≤ 3) = true := decide_eq_true hG
 have hg4 : decide (4 < m.gears) = false := decide_eq_false (by omega)
 clear CFI CRF hbe hFM hfe hn hok
 have hlok := loadE_zero he
 have hfew := hlok.few
 have hn64 : l.length ≤ 64 := by omega
 have CRM := fun w h h2 => rMeet_any m ad cap al cl l w h h2 hlo hhi hlok.rng hn64 hlok.nodup
 rw [he] at CK
 have HCK := hid CK
 clear CK
 clear CRM CFR hlok he hm
 go_enter Tryz.func5, Tryz.ntmps5
 go_wp2_with fail
 refine (HA.out _ (hw.below hS0.b)).mono ?_
 rintro e w1 ⟨rfl, b1⟩
 have hS1 := hS0.mono b1
 have q1 := (hS1.blk 0 rfl).1
 have p1 := (hS1.blk 1 rfl).1
 clear hS0
 go_wp2_with (with_reducible refine wpList_ldS (n := 4) (us := mC m ad cap) A_rmach (by kernel_rfl) (by with_unfolding_all rfl) (by with_unfolding_all rfl) (by assumption) (by with_unfolding_all rfl) (by with_unfolding_all rfl) ?_)
 refine (HSh.out _).mono ?_
 rintro e w2 ⟨rfl, b2⟩
 have hS2 := hS1.mono b2
 have q2 := (hS2.blk 0 rfl).1
 have p2 := (hS2.blk 1 rfl).1
 clear hS1 q1 p1
 go_wp2_with (with_reducible refine wpList_ldS (n := 4) (us := mC m ad cap) A_rmach (by kernel_rfl) (by with_unfolding_all rfl) (by with_unfolding_all rfl) (by assumption) (by with_unfolding_all rfl) (by with_unfolding_all rfl) ?_)
 refine (HM.out _ (hR.below hS2.b)).mono ?_
 rintro e w3 ⟨rfl, b3⟩
 have hS3 := hS2.mono b3
 have q3 := (hS3.blk 0 rfl).1
 have p3 := (hS3.blk 1 rfl).1
 clear hS2 q2 p2
 go_wp2_with (first | (with_reducible refine wpList_ldS (n := 4) (us := mC m ad cap) A_mach (by kernel_rfl) (by with_unfolding_all rfl) (by with_unfolding_all rfl) (by assumption) (by with_unfolding_all rfl) (by with_unfolding_all rfl) ?_) | (with_reducible refine wpList_ldB F_int (by with_unfolding_all rfl) (by with_unfolding_all rfl) p3 (by with_unfolding_all rfl) ?_))
 refine (HFI.out _ (hR.below hS3.b)).mono ?_
 rintro e w4 ⟨v4, rfl, ho4, b4⟩
 have hS4 := hS3.mono b4
 have q4 := (hS4.blk 0 rfl).1
 have p4 := (hS4.blk 1 rfl).1
 clear hS3 q3 p3
 obtain ⟨a4, c4, rfl, h4, _, _⟩ := ho4.reps
 clear ho4
 go_wp2_with (with_reducible refine wpList_ldB F_int (by with_unfolding_all rfl) (by with_unfolding_all rfl) p4 (by with_unfolding_all rfl) ?_)
 refine (lwhen_any false 22 w4).mono ?_
 rintro e w' ⟨rfl, rfl⟩
 replace h4 := h4.below (bal (Below.refl w4.heap.size w4) (.cells #[.int .i64 0, .int .i64 0] 3))
 have hS5 := hS4.al (.cells #[.int .i64 0, .int .i64 0] 3)
 have q5 := (hS5.blk 0 rfl).1
 have p5 := (hS5.blk 1 rfl).1
 clear hS4 q4 p4
 go_wp2_with (first | (go_at_call 23; refine (lfirst4_any _ _ [_, _] _ (reps_newN cIntS [_, _] 2 rfl (by decide) _ _ (by simp) rfl) (by simp)).mono ?_; rw [firstE_z, firstE_z, firstE_nil]; rintro e w' ⟨rfl, rfl⟩) | (with_reducible refine wpList_ldS (n := 4) (us := mC m ad cap) A_rmach (by kernel_rfl) (by with_unfolding_all rfl) (by with_unfolding_all rfl) (by assumption) (by with_unfolding_all rfl) (by with_unfolding_all rfl) ?_))
 refine (HRF.out _ (hR.below hS5.b)).mono ?_
 rintro e w6 ⟨ax, cx, rfl, hx, b6⟩
 have hS6 := hS5.mono b6
 have q6 := (hS6.blk 0 rfl).1
 have p6 := (hS6.blk 1 rfl).1
 clear hS5 q5 p5
 replace h4 := h4.below b6
 go_wp2_with fail
 refine (llistOk_any a4 ax c4 cx _ FM _ h4 hx rfl (by omega)).mono ?_
 rintro e w7 ⟨rfl, b7⟩
 have hS7 := hS6.mono b7
 have q7 := (hS7.blk 0 rfl).1
 have p7 := (hS7.blk 1 rfl).1
 clear hS6 q6 p6
 clear h4 hx
 go_wp2_with (with_reducible refine wpList_ldS (n := 4) (us := mC m ad cap) A_rmach (by kernel_rfl) (by with_unfolding_all rfl) (by with_unfolding_all rfl) (by assumption) (by with_unfolding_all rfl) (by with_unfolding_all rfl) ?_)
 refine (HCK.out _ (hR.below hS7.b) (hL.below hS7.b)).mono ?_
 rintro e w8 ⟨rfl, b8⟩
 have hS8 := hS7.mono b8
 have q8 := (hS8.blk 0 rfl).1
 have p8 := (hS8.blk 1 rfl).1
 clear hS7 q7 p7
 go_wp2_with fail
 go_ret
 exact ⟨rfl, hS8.b⟩
theorem mf_good_none (m : MacV) (ad al : Option Addr) (cap cl : Nat) (l : List Int) (w : World) (hR : Ints w ad cap m.sw) (hL : Ints w al cl l) (hI : InI m.gears) (hw : LibW w) (hsb : (decide (m.sw.length ≤ 19) && decide (l.length ≤ 67)) = true) (hm : macE m = 0) (hG : m.gears ≤ 3) (he : loadE m l = 0) (h10 : l.length ≤ 10) (hff : firstM m l = none) :
  Calls Tryz.prog 5 #[mV m ad cap, .slice al l.length cl] w fun r w' => r = .returned (.bool true) ∧ Below w.heap.size w w' := by
 have hS0 := ((SL.nil w).box (.cells (mC m ad cap) 24)).box (.cells (mC m ad cap) 25)
 simp only [World.size_alloc] at hS0
 have HA := hid awake4_any
 have hlc := hL.le
 have CSh := fun w => rShort_any m ad cap al cl l.length w
 rw [hsb] at CSh
 have HSh := hid CSh
 clear CSh hsb
 have CM := fun w h => rCheckMachine_any m ad cap w h
 have CK := fun w h h2 => lcheck_any m ad cap al cl l w h h2
 have KM : ChkM m ad cap := fun w h => CheckMachine_any m ad cap w h hI
 have KL : ChkL m ad cap al cl l := CheckLoad_any m ad cap al cl l KM
 have CFI := fun w h => mFill_any m ad cap w h KM
 have CFR := fun w h h2 => mFree_any m ad cap al cl l w h h2 KL
 clear KM KL
 have hok := (macE_zero hm).1
 have hlo := hok.lo
 have hhi := hok.hi
 rw [hm] at CM
 have HM := hid CM
 clear CM
 have hfe : fillE m = 0 := by unfold fillE; rw [if_neg (by simp [hm]), if_neg (by omega)]
 rw [hfe, if_pos rfl] at CFI
 obtain ⟨n, hn⟩ : ∃ n : Nat, 4 * m.gears = n := ⟨(4 * m.gears).toNat, by omega⟩
 have CRF := fun w h => rFill_any m ad cap n hn hlo hhi (n + 1) none 0 [] (-1) w h (ints_nil w) (fun x hx => by cases hx) (.inl ⟨rfl, rfl⟩) (by decide) (by omega) (by decide) (by omega)
 have hbe : bestF m (n - ((-1 : Int) + 1).toNat) [] ((-1 : Int) + 1) = fillM m := by rw [fillM_best, hn]; rfl
 have hfl : (fillM m).length ≤ 64 := by
  have := bestF_le m (4 * m.gears).toNat [] 0
  rw [← fillM_best] at this
  simp at this
  omega
 simp only [hbe] at CRF
 obtain ⟨FM, hFM⟩ : ∃ FM, FM = fillM m := ⟨_, rfl⟩
 rw [← hFM] at CFI hfl
 simp only [← hFM] at CRF
 have HFI := hid CFI; have HRF := hid CRF
 have hg3 : decide (m.gears ≤ 3) = true := decide_eq_true hG
 have hg4 : decide (4 < m.gears) = false := decide_eq_false (by omega)
 clear CFI CRF hbe hFM hfe hn hok
 have hlok := loadE_zero he
 have hfew := hlok.few
 have hn64 : l.length ≤ 64 := by omega
 have CRM := fun w h h2 => rMeet_any m ad cap al cl l w h h2 hlo hhi hlok.rng hn64 hlok.nodup
 rw [he] at CK
 have HCK := hid CK
 clear CK
 have CR2 := fun w h h2 => rFree_any m ad cap al cl l w h h2 hlo hhi hlok.rng hn64
 have hac : accE m l = 0 := by unfold accE; rw [if_neg (by simp [he]), hff]; rfl
 rw [hff] at CRM
 dsimp only [meetV] at CRM
 rw [hac, if_pos rfl] at CFR
 have hfrl : (freeM m l).length ≤ 64 := by have := freeM_len (m := m) (l := l); omega
 obtain ⟨FR, hFRR⟩ : ∃ FR, FR = freeM m l := ⟨_, rfl⟩
 rw [← hFRR] at CFR hfrl
 simp only [← hFRR] at CR2
 have HFR := hid CFR; have HRM := hid CRM; have HRF2 := hid CR2
 clear CFR CRM CR2 hFRR hff hac hlok he hm
 go_enter Tryz.func5, Tryz.ntmps5
 go_wp2_with fail
 refine (HA.out _ (hw.below hS0.b)).mono ?_
 rintro e w1 ⟨rfl, b1⟩
 have hS1 := hS0.mono b1
 have q1 := (hS1.blk 0 rfl).1
 have p1 := (hS1.blk 1 rfl).1
 clear hS0
 go_wp2_with (with_reducible refine wpList_ldS (n := 4) (us := mC m ad cap) A_rmach (by kernel_rfl) (by with_unfolding_all rfl) (by with_unfolding_all rfl) (by assumption) (by with_unfolding_all rfl) (by with_unfolding_all rfl) ?_)
 refine (HSh.out _).mono ?_
 rintro e w2 ⟨rfl, b2⟩
 have hS2 := hS1.mono b2
 have q2 := (hS2.blk 0 rfl).1
 have p2 := (hS2.blk 1 rfl).1
 clear hS1 q1 p1
 go_wp2_with (with_reducible refine wpList_ldS (n := 4) (us := mC m ad cap) A_rmach (by kernel_rfl) (by with_unfolding_all rfl) (by with_unfolding_all rfl) (by assumption) (by with_unfolding_all rfl) (by with_unfolding_all rfl) ?_)
 refine (HM.out _ (hR.below hS2.b)).mono ?_
 rintro e w3 ⟨rfl, b3⟩
 have hS3 := hS2.mono b3
 have q3 := (hS3.blk 0 rfl).1
 have p3 := (hS3.blk 1 rfl).1
 clear hS2 q2 p2
 go_wp2_with (first | (with_reducible refine wpList_ldS (n := 4) (us := mC m ad cap) A_mach (by kernel_rfl) (by with_unfolding_all rfl) (by with_unfolding_all rfl) (by assumption) (by with_unfolding_all rfl) (by with_unfolding_all rfl) ?_) | (with_reducible refine wpList_ldB F_int (by with_unfolding_all rfl) (by with_unfolding_all rfl) p3 (by with_unfolding_all rfl) ?_))
 refine (HFI.out _ (hR.below hS3.b)).mono ?_
 rintro e w4 ⟨v4, rfl, ho4, b4⟩
 have hS4 := hS3.mono b4
 have q4 := (hS4.blk 0 rfl).1
 have p4 := (hS4.blk 1 rfl).1
 clear hS3 q3 p3
 obtain ⟨a4, c4, rfl, h4, _, _⟩ := ho4.reps
 clear ho4
 go_wp2_with (with_reducible refine wpList_ldB F_int (by with_unfolding_all rfl) (by with_unfolding_all rfl) p4 (by with_unfolding_all rfl) ?_)
 refine (lwhen_any false 22 w4).mono ?_
 rintro e w' ⟨rfl, rfl⟩
 replace h4 := h4.below (bal (Below.refl w4.heap.size w4) (.cells #[.int .i64 0, .int .i64 0] 3))
 have hS5 := hS4.al (.cells #[.int .i64 0, .int .i64 0] 3)
 have q5 := (hS5.blk 0 rfl).1
 have p5 := (hS5.blk 1 rfl).1
 clear hS4 q4 p4
 go_wp2_with (first | (go_at_call 23; refine (lfirst4_any _ _ [_, _] _ (reps_newN cIntS [_, _] 2 rfl (by decide) _ _ (by simp) rfl) (by simp)).mono ?_; rw [firstE_z, firstE_z, firstE_nil]; rintro e w' ⟨rfl, rfl⟩) | (with_reducible refine wpList_ldS (n := 4) (us := mC m ad cap) A_rmach (by kernel_rfl) (by with_unfolding_all rfl) (by with_unfolding_all rfl) (by assumption) (by with_unfolding_all rfl) (by with_unfolding_all rfl) ?_))
 refine (HRF.out _ (hR.below hS5.b)).mono ?_
 rintro e w6 ⟨ax, cx, rfl, hx, b6⟩
 have hS6 := hS5.mono b6
 have q6 := (hS6.blk 0 rfl).1
 have p6 := (hS6.blk 1 rfl).1
 clear hS5 q5 p5
 replace h4 := h4.below b6
 go_wp2_with fail
 refine (llistOk_any a4 ax c4 cx _ FM _ h4 hx rfl (by omega)).mono ?_
 rintro e w7 ⟨rfl, b7⟩
 have hS7 := hS6.mono b7
 have q7 := (hS7.blk 0 rfl).1
 have p7 := (hS7.blk 1 rfl).1
 clear hS6 q6 p6
 clear h4 hx
 go_wp2_with (with_reducible refine wpList_ldS (n := 4) (us := mC m ad cap) A_rmach (by kernel_rfl) (by with_unfolding_all rfl) (by with_unfolding_all rfl) (by assumption) (by with_unfolding_all rfl) (by with_unfolding_all rfl) ?_)
 refine (HCK.out _ (hR.below hS7.b) (hL.below hS7.b)).mono ?_
 rintro e w8 ⟨rfl, b8⟩
 have hS8 := hS7.mono b8
 have q8 := (hS8.blk 0 rfl).1
 have p8 := (hS8.blk 1 rfl).1
 clear hS7 q7 p7
 go_wp2_with (with_reducible refine wpList_ldS (n := 4) (us := mC m ad cap) A_mach (by kernel_rfl) (by with_unfolding_all rfl) (by with_unfolding_all rfl) (by assumption) (by with_unfolding_all rfl) (by with_unfolding_all rfl) ?_)
 refine (HFR.out _ (hR.below hS8.b) (hL.below hS8.b)).mono ?_
 rintro e w9 ⟨v9, rfl, ho9, b9⟩
 have hS9 := hS8.mono b9
 have q9 := (hS9.blk 0 rfl).1
 have p9 := (hS9.blk 1 rfl).1
 clear hS8 q8 p8
 obtain ⟨a9, c9, rfl, h9, _, _⟩ := ho9.reps
 clear ho9
 go_wp2_with (with_reducible refine wpList_ldS (n := 4) (us := mC m ad cap) A_rmach (by kernel_rfl) (by with_unfolding_all rfl) (by with_unfolding_all rfl) (by assumption) (by with_unfolding_all rfl) (by with_unfolding_all rfl) ?_)
 refine (HRM.out _ (hR.below hS9.b) (hL.below hS9.b)).mono ?_
 rintro e w10 ⟨rfl, b10⟩
 have hS10 := hS9.mono b10
 have q10 := (hS10.blk 0 rfl).1
 have p10 := (hS10.blk 1 rfl).1
 clear hS9 q9 p9
 replace h9 := h9.below b10
 go_wp2_with fail
 refine (lwhen_any false 16 w10).mono ?_
 rintro e w' ⟨rfl, rfl⟩
 go_wp2_with (with_reducible refine wpList_ldS (n := 4) (us := mC m ad cap) A_rmach (by kernel_rfl) (by with_unfolding_all rfl) (by with_unfolding_all rfl) (by assumption) (by with_unfolding_all rfl) (by with_unfolding_all rfl) ?_)
 refine (HRF2.out _ (hR.below hS10.b) (hL.below hS10.b)).mono ?_
 rintro e w11 ⟨v11, rfl, ho11, b11⟩
 obtain ⟨a11, c11, rfl, h11, _, _⟩ := ho11.reps
 have hS11 := hS10.mono b11
 have q11 := (hS11.blk 0 rfl).1
 have p11 := (hS11.blk 1 rfl).1
 clear hS10 q10 p10
 replace h9 := h9.below b11
 clear ho11
 go_wp2_with fail
 refine (llistOk_any a9 a11 c9 c11 _ FR _ h9 h11 rfl (by omega)).mono ?_
 rintro e w12 ⟨rfl, b12⟩
 go_wp2_with fail
 go_ret
 exact ⟨rfl, bnext hS11.b b12⟩
theorem mf_good_some (m : MacV) (ad al : Option Addr) (cap cl : Nat) (l : List Int) (w : World) (hR : Ints w ad cap m.sw) (hL : Ints w al cl l) (hI : InI m.gears) (hw : LibW w) (hsb : (decide (m.sw.length ≤ 19) && decide (l.length ≤ 67)) = true) (hm : macE m = 0) (hG : m.gears ≤ 3) (he : loadE m l = 0) (h10 : l.length ≤ 10) (v : Nat × Int) (hff : firstM m l = some v) :
  Calls Tryz.prog 5 #[mV m ad cap, .slice al l.length cl] w fun r w' => r = .returned (.bool true) ∧ Below w.heap.size w w' := by
 have hS0 := ((SL.nil w).box (.cells (mC m ad cap) 24)).box (.cells (mC m ad cap) 25)
 simp only [World.size_alloc] at hS0
 have HA := hid awake4_any
 have hlc := hL.le
 have CSh := fun w => rShort_any m ad cap al cl l.length w
 rw [hsb] at CSh
 have HSh := hid CSh
 clear CSh hsb
 have CM := fun w h => rCheckMachine_any m ad cap w h
 have CK := fun w h h2 => lcheck_any m ad cap al cl l w h h2
 have KM : ChkM m ad cap := fun w h => CheckMachine_any m ad cap w h hI
 have KL : ChkL m ad cap al cl l := CheckLoad_any m ad cap al cl l KM
 have CFI := fun w h => mFill_any m ad cap w h KM
 have CFR := fun w h h2 => mFree_any m ad cap al cl l w h h2 KL
 clear KM KL
 have hok := (macE_zero hm).1
 have hlo := hok.lo
 have hhi := hok.hi
 rw [hm] at CM
 have HM := hid CM
 clear CM
 have hfe : fillE m = 0 := by unfold fillE; rw [if_neg (by simp [hm]), if_neg (by omega)]
 rw [hfe, if_pos rfl] at CFI
 obtain ⟨n, hn⟩ : ∃ n : Nat, 4 * m.gears = n := ⟨(4 * m.gears).toNat, by omega⟩
 have CRF := fun w h => rFill_any m ad cap n hn hlo hhi (n + 1) none 0 [] (-1) w h (ints_nil w) (fun x hx => by cases hx) (.inl ⟨rfl, rfl⟩) (by decide) (by omega) (by decide) (by omega)
 have hbe : bestF m (n - ((-1 : Int) + 1).toNat) [] ((-1 : Int) + 1) = fillM m := by rw [fillM_best, hn]; rfl
 have hfl : (fillM m).length ≤ 64 := by
  have := bestF_le m (4 * m.gears).toNat [] 0
  rw [← fillM_best] at this
  simp at this
  omega
 simp only [hbe] at CRF
 obtain ⟨FM, hFM⟩ : ∃ FM, FM = fillM m := ⟨_, rfl⟩
 rw [← hFM] at CFI hfl
 simp only [← hFM] at CRF
 have HFI := hid CFI; have HRF := hid CRF
 have hg3 : decide (m.gears ≤ 3) = true := decide_eq_true hG
 have hg4 : decide (4 < m.gears) = false := decide_eq_false (by omega)
 clear CFI CRF hbe hFM hfe hn hok
 have hlok := loadE_zero he
 have hfew := hlok.few
 have hn64 : l.length ≤ 64 := by omega
 have CRM := fun w h h2 => rMeet_any m ad cap al cl l w h h2 hlo hhi hlok.rng hn64 hlok.nodup
 rw [he] at CK
 have HCK := hid CK
 clear CK
 obtain ⟨V1, V2⟩ := v
 have hac : accE m l = 16 := by unfold accE; rw [if_neg (by simp [he]), hff]; rfl
 rw [hff] at CRM
 dsimp only [meetV] at CRM
 rw [hac, if_neg (by decide)] at CFR
 have hv0 : decide (0 ≤ (V1 : Int)) = true := by simp
 have HFR := hid CFR; have HRM := hid CRM
 clear CFR CRM hff hac hlok he hm
 go_enter Tryz.func5, Tryz.ntmps5
 go_wp2_with fail
 refine (HA.out _ (hw.below hS0.b)).mono ?_
 rintro e w1 ⟨rfl, b1⟩
 have hS1 := hS0.mono b1
 have q1 := (hS1.blk 0 rfl).1
 have p1 := (hS1.blk 1 rfl).1
 clear hS0
 go_wp2_with (with_reducible refine wpList_ldS (n := 4) (us := mC m ad cap) A_rmach (by kernel_rfl) (by with_unfolding_all rfl) (by with_unfolding_all rfl) (by assumption) (by with_unfolding_all rfl) (by with_unfolding_all rfl) ?_)
 refine (HSh.out _).mono ?_
 rintro e w2 ⟨rfl, b2⟩
 have hS2 := hS1.mono b2
 have q2 := (hS2.blk 0 rfl).1
 have p2 := (hS2.blk 1 rfl).1
 clear hS1 q1 p1
 go_wp2_with (with_reducible refine wpList_ldS (n := 4) (us := mC m ad cap) A_rmach (by kernel_rfl) (by with_unfolding_all rfl) (by with_unfolding_all rfl) (by assumption) (by with_unfolding_all rfl) (by with_unfolding_all rfl) ?_)
 refine (HM.out _ (hR.below hS2.b)).mono ?_
 rintro e w3 ⟨rfl, b3⟩
 have hS3 := hS2.mono b3
 have q3 := (hS3.blk 0 rfl).1
 have p3 := (hS3.blk 1 rfl).1
 clear hS2 q2 p2
 go_wp2_with (first | (with_reducible refine wpList_ldS (n := 4) (us := mC m ad cap) A_mach (by kernel_rfl) (by with_unfolding_all rfl) (by with_unfolding_all rfl) (by assumption) (by with_unfolding_all rfl) (by with_unfolding_all rfl) ?_) | (with_reducible refine wpList_ldB F_int (by with_unfolding_all rfl) (by with_unfolding_all rfl) p3 (by with_unfolding_all rfl) ?_))
 refine (HFI.out _ (hR.below hS3.b)).mono ?_
 rintro e w4 ⟨v4, rfl, ho4, b4⟩
 have hS4 := hS3.mono b4
 have q4 := (hS4.blk 0 rfl).1
 have p4 := (hS4.blk 1 rfl).1
 clear hS3 q3 p3
 obtain ⟨a4, c4, rfl, h4, _, _⟩ := ho4.reps
 clear ho4
 go_wp2_with (with_reducible refine wpList_ldB F_int (by with_unfolding_all rfl) (by with_unfolding_all rfl) p4 (by with_unfolding_all rfl) ?_)
 refine (lwhen_any false 22 w4).mono ?_
 rintro e w' ⟨rfl, rfl⟩
 replace h4 := h4.below (bal (Below.refl w4.heap.size w4) (.cells #[.int .i64 0, .int .i64 0] 3))
 have hS5 := hS4.al (.cells #[.int .i64 0, .int .i64 0] 3)
 have q5 := (hS5.blk 0 rfl).1
 have p5 := (hS5.blk 1 rfl).1
 clear hS4 q4 p4
 go_wp2_with (first | (go_at_call 23; refine (lfirst4_any _ _ [_, _] _ (reps_newN cIntS [_, _] 2 rfl (by decide) _ _ (by simp) rfl) (by simp)).mono ?_; rw [firstE_z, firstE_z, firstE_nil]; rintro e w' ⟨rfl, rfl⟩) | (with_reducible refine wpList_ldS (n := 4) (us := mC m ad cap) A_rmach (by kernel_rfl) (by with_unfolding_all rfl) (by with_unfolding_all rfl) (by assumption) (by with_unfolding_all rfl) (by with_unfolding_all rfl) ?_))
 refine (HRF.out _ (hR.below hS5.b)).mono ?_
 rintro e w6 ⟨ax, cx, rfl, hx, b6⟩
 have hS6 := hS5.mono b6
 have q6 := (hS6.blk 0 rfl).1
 have p6 := (hS6.blk 1 rfl).1
 clear hS5 q5 p5
 replace h4 := h4.below b6
 go_wp2_with fail
 refine (llistOk_any a4 ax c4 cx _ FM _ h4 hx rfl (by omega)).mono ?_
 rintro e w7 ⟨rfl, b7⟩
 have hS7 := hS6.mono b7
 have q7 := (hS7.blk 0 rfl).1
 have p7 := (hS7.blk 1 rfl).1
 clear hS6 q6 p6
 clear h4 hx
 go_wp2_with (with_reducible refine wpList_ldS (n := 4) (us := mC m ad cap) A_rmach (by kernel_rfl) (by with_unfolding_all rfl) (by with_unfolding_all rfl) (by assumption) (by with_unfolding_all rfl) (by with_unfolding_all rfl) ?_)
 refine (HCK.out _ (hR.below hS7.b) (hL.below hS7.b)).mono ?_
 rintro e w8 ⟨rfl, b8⟩
 have hS8 := hS7.mono b8
 have q8 := (hS8.blk 0 rfl).1
 have p8 := (hS8.blk 1 rfl).1
 clear hS7 q7 p7
 go_wp2_with (with_reducible refine wpList_ldS (n := 4) (us := mC m ad cap) A_mach (by kernel_rfl) (by with_unfolding_all rfl) (by with_unfolding_all rfl) (by assumption) (by with_unfolding_all rfl) (by with_unfolding_all rfl) ?_)
 refine (HFR.out _ (hR.below hS8.b) (hL.below hS8.b)).mono ?_
 rintro e w9 ⟨v9, rfl, ho9, b9⟩
 have hS9 := hS8.mono b9
 have q9 := (hS9.blk 0 rfl).1
 have p9 := (hS9.blk 1 rfl).1
 clear hS8 q8 p8
 obtain ⟨a9, c9, rfl, h9, _, _⟩ := ho9.reps
 clear ho9
 go_wp2_with (with_reducible refine wpList_ldS (n := 4) (us := mC m ad cap) A_rmach (by kernel_rfl) (by with_unfolding_all rfl) (by with_unfolding_all rfl) (by assumption) (by with_unfolding_all rfl) (by with_unfolding_all rfl) ?_)
 refine (HRM.out _ (hR.below hS9.b) (hL.below hS9.b)).mono ?_
 rintro e w10 ⟨rfl, b10⟩
 have hS10 := hS9.mono b10
 have q10 := (hS10.blk 0 rfl).1
 have p10 := (hS10.blk 1 rfl).1
 clear hS9 q9 p9
 go_wp2_with fail
 refine (lwhen_any true 16 w10).mono ?_
 rintro e w' ⟨rfl, rfl⟩
 go_wp2_with fail
 refine (llistBad_any a9 none c9 0 0 16 _ rfl).mono ?_
 rintro e w11 ⟨rfl, b11⟩
 go_wp2_with fail
 go_ret
 exact ⟨rfl, bnext hS10.b b11⟩
end Go.Proofs.YtbchpkmcpplidaaGreatDoor
