/- Contracts and plain facts that the claim uses (AwM AwN K4p K4a). Conditions: as each one states. -/
import Derived.Test.YtoebgfgihfjnnaaGreatDoorXd06
import Derived.Test.YtoebgfgihfjnnaaGreatDoorXd08
import Derived.Test.YtoebgfgihfjnnaaGreatDoorXd09
import Derived.Test.YtoebgfgihfjnnaaGreatDoorXd11
import Derived.Test.YtoebgfgihfjnnaaGreatDoorXd13
import Derived.Test.YtoebgfgihfjnnaaGreatDoorXd14
import Derived.Test.YtoebgfgihfjnnaaGreatDoorXd15
set_option linter.all false

namespace Go.Proofs.YtoebgfgihfjnnaaGreatDoor
open Go.RowKit
set_option maxHeartbeats 8000000
set_option maxRecDepth 100000
theorem row_ck : ChkM rowM none 0 := fun w h => CheckMachine_any rowM none 0 w h (by show InI (2 : Int); unfold InI; omega)
theorem row_ckl (al : Option Addr) (cl : Nat) (l : List Int) : ChkL rowM none 0 al cl l := CheckLoad_any rowM none 0 al cl l row_ck
theorem lrow_any (w : World) : Calls Tryz.prog 57 #[] w fun r w' => r = .returned (mV rowM none 0) ∧ Below w.heap.size w w' := by
 have hS := (SL.nil w).box (.cells #[.bool false, .int .i64 2, .int .i64 1, .slice none 0 0] 24)
 go_enter Tryz.func57, Tryz.ntmps57
 go_wp2_with fail
 exact bodyPost_ret (results_cell rfl rfl A_mach kR (hS.blk 0 rfl).1) rfl ⟨rfl, hS.b⟩
theorem am_perm (w : World) : Calls Tryz.prog 40 #[mV rowM none 0] w fun r w' => ∃ v, r = .returned (.tuple #[v, .int .i64 0]) ∧ OwnI w.heap.size w' v [1, 4, 3, 0, 7, 2, 5, 6] ∧ Below w.heap.size w w' := by
 have h := mPerm_any rowM none 0 w (ints_nil _) row_ck
 rw [rv_mac, if_pos rfl, rv_perm] at h
 exact h
theorem am_paths (w : World) : Calls Tryz.prog 41 #[mV rowM none 0] w fun r w' => ∃ (v : Value) (qs : List (SlH × List Int)), r = .returned (.tuple #[v, .int .i64 0]) ∧ qs.map Prod.snd = [[0, 1, 4, 7, 6, 5, 2, 3]] ∧ SL w.heap.size w w' (pOwn cSl 1 22 v (qs.map Prod.fst) :: qs.map inP) := by
 have h := mPaths_any rowM none 0 w (ints_nil _) row_ck
 rw [rv_mac, if_pos rfl, rv_cyc] at h
 exact h
theorem am_period (w : World) : Calls Tryz.prog 42 #[mV rowM none 0] w fun r w' => r = .returned (.tuple #[.string ⟨#[56]⟩, .int .i64 0]) ∧ Below w.heap.size w w' := by
 have h := mPeriod_any rowM none 0 w (ints_nil _) row_ck (fun w' _ => itoaOk_small _ _ (by decide +kernel) (by decide +kernel))
 rw [rv_mac, if_pos rfl, rv_per] at h
 exact h
theorem am_meet (w : World) (al : Option Addr) (hL : Ints w al 2 [0, 6]) : Calls Tryz.prog 49 #[mV rowM none 0, .slice al 2 2] w fun r w' => r = .returned (.tuple #[.int .i64 2, .int .i64 1, .int .i64 0]) ∧ Below w.heap.size w w' := by
 have h := mMeet_any rowM none 0 al 2 [0, 6] w (ints_nil _) hL (row_ckl _ _ _)
 rw [rv_meet] at h
 exact h
theorem am_acc (w : World) (al : Option Addr) (hL : Ints w al 2 [0, 1]) : Calls Tryz.prog 50 #[mV rowM none 0, .slice al 2 2] w fun r w' => r = .returned (.int .i64 0) ∧ Below w.heap.size w w' := by
 have h := mAccept_any rowM none 0 al 2 [0, 1] w (ints_nil _) hL (row_ckl _ _ _)
 rw [rv_acc] at h
 exact h
theorem am_fill (w : World) : Calls Tryz.prog 54 #[mV rowM none 0] w fun r w' => ∃ v, r = .returned (.tuple #[v, .int .i64 0]) ∧ OwnI w.heap.size w' v [0, 1, 2, 3] ∧ Below w.heap.size w w' := by
 have h := mFill_any rowM none 0 w (ints_nil _) row_ck
 rw [rv_fillE, if_pos rfl, rv_fill] at h
 exact h
theorem am_free (w : World) (al : Option Addr) (hL : Ints w al 3 [0, 1, 2]) : Calls Tryz.prog 55 #[mV rowM none 0, .slice al 3 3] w fun r w' => ∃ v, r = .returned (.tuple #[v, .int .i64 0]) ∧ OwnI w.heap.size w' v [3, 7] ∧ Below w.heap.size w w' := by
 have h := mFree_any rowM none 0 al 3 [0, 1, 2] w (ints_nil _) hL (row_ckl _ _ _)
 rw [rv_acc3, if_pos rfl, rv_free] at h
 exact h
theorem am_order (w : World) (al : Option Addr) (hL : Ints w al 3 [0, 4, 3]) : Calls Tryz.prog 14 #[mV rowM none 0, .slice al 3 3] w fun r w' => ∃ v, r = .returned (.tuple #[v, .int .i64 0]) ∧ OwnI w.heap.size w' v [0, 2, 1] ∧ Below w.heap.size w w' := by
 have h := mOrder_any rowM none 0 al 3 [0, 4, 3] w (ints_nil _) hL (row_ckl _ _ _)
 rw [rv_ordE, if_pos rfl, rv_ord] at h
 exact h
theorem am_cross (w : World) (al : Option Addr) (hL : Ints w al 3 [0, 4, 3]) : Calls Tryz.prog 15 #[mV rowM none 0, .slice al 3 3] w fun r w' => ∃ v, r = .returned (.tuple #[v, .int .i64 0]) ∧ Own cX 3 w.heap.size 86 w' v (crossM rowM [0, 4, 3]) ∧ Below w.heap.size w w' := by
 have h := mCrossings_any rowM none 0 al 3 [0, 4, 3] w (ints_nil _) hL (row_ckl _ _ _)
 rw [rv_crsE, if_pos rfl] at h
 exact h
theorem am_word (w : World) (al : Option Addr) (hL : Ints w al 3 [0, 4, 3]) : Calls Tryz.prog 16 #[mV rowM none 0, .slice al 3 3, .int .i64 4] w fun r w' => ∃ v, r = .returned (.tuple #[v, .int .i64 0]) ∧ OwnI w.heap.size w' v [-1, 2, 1] ∧ Below w.heap.size w w' := by
 have h := mWord_any rowM none 0 al 3 [0, 4, 3] 4 w (ints_nil _) hL (row_ckl _ _ _)
 rw [rv_wrdE, if_pos rfl, rv_wrd] at h
 exact h
theorem am_strands (w : World) (al : Option Addr) (hL : Ints w al 3 [0, 4, 3]) : Calls Tryz.prog 17 #[mV rowM none 0, .slice al 3 3, .int .i64 4] w fun r w' => ∃ v, r = .returned (.tuple #[v, .int .i64 0]) ∧ OwnI w.heap.size w' v [2, 1, 0] ∧ Below w.heap.size w w' := by
 have h := mStrands_any rowM none 0 al 3 [0, 4, 3] 4 w (ints_nil _) hL (row_ckl _ _ _)
 rw [rv_wvE, if_pos rfl, rv_str] at h
 exact h
theorem am_steps (w : World) (al : Option Addr) (hL : Ints w al 3 [0, 4, 3]) : Calls Tryz.prog 52 #[mV rowM none 0, .slice al 3 3, .int .i64 4] w fun r w' => ∃ v, r = .returned (.tuple #[v, .int .i64 0]) ∧ OwnI w.heap.size w' v [6, 2, 7] ∧ Below w.heap.size w w' := by
 have h := mSteps_any rowM none 0 al 3 [0, 4, 3] 4 w (ints_nil _) hL (row_ckl _ _ _)
 rw [rv_stE, if_pos rfl, show (4 : Int).toNat = 4 from rfl, rv_st] at h
 exact h
theorem am_mir (w : World) (al : Option Addr) (hL : Ints w al 3 [0, 4, 3]) : Calls Tryz.prog 36 #[mV rowM none 0, .slice al 3 3] w fun r w' => ∃ a c v, r = .returned (.tuple #[mV (turnMac rowM) a c, v, .int .i64 0]) ∧ SL w.heap.size w w' [pOwn cInt 1 3 (.slice a 0 c) [], pOwn cInt 1 3 v [0, 4, 1]] := by
 have h := mMirrored_any rowM none 0 al 3 [0, 4, 3] w (ints_nil _) hL (row_ckl _ _ _)
 rw [rv_ldE] at h
 simp only [if_true] at h
 rw [rv_mir] at h
 exact h
theorem am_back (w : World) (al : Option Addr) (hL : Ints w al 1 [4]) : Calls Tryz.prog 37 #[mV rowM none 0, .slice al 1 1] w fun r w' => ∃ a c v, r = .returned (.tuple #[mV (turnMac rowM) a c, v, .int .i64 0]) ∧ SL w.heap.size w w' [pOwn cInt 1 3 (.slice a 0 c) [], pOwn cInt 1 3 v [2]] := by
 have h := mBackwards_any rowM none 0 al 1 [4] w (ints_nil _) hL (row_ckl _ _ _)
 rw [rv_bkE] at h
 simp only [if_true] at h
 rw [rv_bk] at h
 exact h
theorem am_print (w : World) : Calls Tryz.prog 30 #[mV rowM none 0] w fun r w' => r = .returned (.tuple #[.string ⟨#[114, 111, 119, 32, 50, 32, 43, 32, 110, 111, 110, 101]⟩, .int .i64 0]) ∧ Below w.heap.size w w' := by
 have h := mPrint_any rowM none 0 w (ints_nil _) row_ck (fun _ x hx => by cases hx)
 rw [rv_mac, if_pos rfl, rv_print] at h
 exact h
theorem am_parse1 (w : World) (hw : LibW w) : Calls Tryz.prog 31 #[.string ⟨#[114, 105, 110, 103, 32, 50, 32, 45, 32, 48, 44, 49]⟩] w fun r w' => ∃ a c, r = .returned (.tuple #[.agg #[.bool true, .int .i64 2, .int .i64 (-1), .slice a 2 c], .int .i64 0]) ∧ SL w.heap.size w w' [pOwn cInt 1 3 (.slice a 2 c) [0, 1]] := by
 have h := mParse_any [114, 105, 110, 103, 32, 50, 32, 45, 32, 48, 44, 49] w hw (by decide)
 rw [rv_parse1] at h
 exact h
theorem am_parse2 (w : World) (hw : LibW w) : Calls Tryz.prog 31 #[.string ⟨#[114, 105, 110, 103, 32, 51, 32, 43, 32, 110, 111, 110, 101]⟩] w fun r w' => (∃ (R : Bool) (G T : Int) (a : Option Addr) (n c : Nat), r = .returned (.tuple #[.agg #[.bool R, .int .i64 G, .int .i64 T, .slice a n c], .int .i64 17])) ∧ Below w.heap.size w w' := by
 have h := mParse_any [114, 105, 110, 103, 32, 51, 32, 43, 32, 110, 111, 110, 101] w hw (by decide)
 refine h.mono ?_
 rintro r w' ⟨a, c, rfl, hS⟩
 rw [rv_parse2]
 exact ⟨⟨_, _, _, _, _, _, rfl⟩, hS.b⟩
end Go.Proofs.YtoebgfgihfjnnaaGreatDoor

namespace Go.Proofs.YtoebgfgihfjnnaaGreatDoor
open Go.RowKit
set_option maxHeartbeats 8000000
set_option maxRecDepth 100000
theorem amSame (a a2 : Option Addr) (cap cap2 n : Nat) (l : List Int) (w : World) (h : Ints w a cap l) (h2 : Ints w a2 cap2 l) (hn : l.length = n) (hs : n ≤ 1048576) : Calls Tryz.prog 56 #[.slice a n cap, .slice a2 n cap2] w fun r w' => r = .returned (.bool true) ∧ Below w.heap.size w w' := by
 subst hn
 have := SameInts_any a a2 cap cap2 l l w h h2 hs
 rw [decide_eq_true rfl] at this
 exact this
theorem leads1 {w : World} {xa : Option Addr} {xc n : Nat} {x : List Int} (h : Ints w xa xc x) (hn : x.length = n) (hs : n ≤ 1048576) : LeadsTo w [(xa, n, xc)] [x] := by
 subst hn
 intro k hk
 have : k = 0 := by simpa using hk
 subst this
 exact ⟨xa, xc, rfl, h, hs⟩
theorem am_word2 (w : World) (ma al : Option Addr) (mc cl : Nat) (hM : Ints w ma mc []) (hL : Ints w al cl [0, 4, 1]) : Calls Tryz.prog 16 #[mV (turnMac rowM) ma mc, .slice al 3 cl, .int .i64 4] w fun r w' => ∃ v, r = .returned (.tuple #[v, .int .i64 0]) ∧ OwnI w.heap.size w' v [1, -2, -1] ∧ Below w.heap.size w w' := by
 have h := mWord_any (turnMac rowM) ma mc al cl [0, 4, 1] 4 w hM hL (CheckLoad_any _ ma mc al cl _ (fun w h => CheckMachine_any (turnMac rowM) ma mc w h (by show InI (2 : Int); unfold InI; omega)))
 rw [rv_mwE, if_pos rfl, rv_mw] at h
 exact h
theorem rv_crs2 : crossM rowM [0, 4, 3] = [⟨0, 2, 0, 0⟩] := by first | rfl | decide | kernel_rfl
-- MARK
theorem awake4_any (w : World) (hw : LibW w) : Calls Tryz.prog 11 #[] w fun r w' => r = .returned (.bool true) ∧ Below w.heap.size w w' := by
 go_enter Tryz.func11, Tryz.ntmps11
 go_wp2_with fail
 refine (lrow_any w).mono ?_
 rintro e w1 ⟨rfl, b1⟩
 go_wp2_with fail
 refine (am_perm w1).mono ?_
 rintro e w2 ⟨v2, rfl, h2, b2⟩
 go_wp2_with fail
 refine (lrow_any w2).mono ?_
 rintro e w3 ⟨rfl, b3⟩
 go_wp2_with fail
 refine (am_paths w3).mono ?_
 rintro e w4 ⟨v4, qs, rfl, hq, hS4⟩
 have b4 := hS4.b
 go_wp2_with fail
 refine (lrow_any w4).mono ?_
 rintro e w5 ⟨rfl, b5⟩
 go_wp2_with fail
 refine (am_period w5).mono ?_
 rintro e w6 ⟨rfl, b6⟩
 go_wp2_with fail
 refine (lrow_any w6).mono ?_
 rintro e w7 ⟨rfl, b7⟩
 go_wp2_with fail
 refine (am_meet _ _ (reps_of_own (own_newN cIntS [0, 6] 2 rfl (by decide) _ rfl (Nat.le_refl _) rfl) rfl)).mono ?_
 rintro e w8 ⟨rfl, b8⟩
 replace b8 := bnext (bal (Below.refl _ _) _) b8
 go_wp2_with fail
 refine (lrow_any w8).mono ?_
 rintro e w9 ⟨rfl, b9⟩
 go_wp2_with fail
 refine (am_acc _ _ (reps_of_own (own_newN cIntS [0, 1] 2 rfl (by decide) _ rfl (Nat.le_refl _) rfl) rfl)).mono ?_
 rintro e w10 ⟨rfl, b10⟩
 replace b10 := bnext (bal (Below.refl _ _) _) b10
 go_wp2_with fail
 refine (lrow_any w10).mono ?_
 rintro e w11 ⟨rfl, b11⟩
 go_wp2_with fail
 refine (am_fill w11).mono ?_
 rintro e w12 ⟨v12, rfl, h12, b12⟩
 go_wp2_with fail
 refine (lrow_any w12).mono ?_
 rintro e w13 ⟨rfl, b13⟩
 go_wp2_with fail
 refine (am_free _ _ (reps_of_own (own_newN cIntS [0, 1, 2] 3 rfl (by decide) _ rfl (Nat.le_refl _) rfl) rfl)).mono ?_
 rintro e w14 ⟨v14, rfl, h14, b14⟩
 replace b14 := bnext (bal (Below.refl _ _) _) b14
 obtain ⟨a2, c2, rfl, r2, _, _⟩ := h2.reps
 obtain ⟨a12, c12, rfl, r12, _, _⟩ := h12.reps
 obtain ⟨a14, c14, rfl, r14, _, _⟩ := h14.reps
 have t12 := bnext b13 b14
 have t4 := bnext b5 (bnext b6 (bnext b7 (bnext b8 (bnext b9 (bnext b10 (bnext b11 (bnext b12 t12)))))))
 have t2 := bnext b3 (bnext b4 t4)
 have t0 := bnext b1 (bnext b2 t2)
 replace r2 := r2.below t2
 replace r12 := r12.below t12
 have hS14 := hS4.mono t4
 clear b1 b2 b3 b4 b5 b6 b7 b8 b9 b10 b11 b12 b13 b14 t12 t4 t2 h2 h12 h14 hS4
 match qs, hq, hS14 with
 | [((xa, xn, xc), ql)], hq, hS14 =>
 have eql : ql = [0, 1, 4, 7, 6, 5, 2, 3] := by simpa using hq
 subst eql
 obtain ⟨a4, c4, rfl, r4, _, _⟩ := (hS14.own 0 rfl).reps
 have r4 : Reps cSl 1 w14 a4 c4 [(xa, xn, xc)] := r4
 obtain ⟨xa', xc', ex, rx, _, _⟩ := (hS14.own (c := cInt) (l := [0, 1, 4, 7, 6, 5, 2, 3]) 1 rfl).reps
 have ex2 : xa = xa' ∧ xn = 8 ∧ xc = xc' := by simpa [cSl] using ex
 obtain ⟨rfl, rfl, rfl⟩ := ex2
 clear ex hq hS14
 go_wp2_with fail
 refine (amSame a2 _ c2 8 8 _ _ (r2.below (bal (Below.refl _ _) _)) (reps_of_own (own_newN cIntS [1, 4, 3, 0, 7, 2, 5, 6] 8 rfl (by decide) _ rfl (Nat.le_refl _) rfl) rfl) rfl (by decide)).mono ?_
 rintro e w15 ⟨rfl, b15⟩
 replace b15 := bnext (bal (Below.refl _ _) _) b15
 replace r4 := r4.below b15
 replace rx := rx.below b15
 replace r12 := r12.below b15
 replace r14 := r14.below b15
 replace b15 := bnext t0 b15
 clear t0 r2
 go_wp2_with fail
 have hin : Ints ((w15.alloc (.cells #[.int .i64 0, .int .i64 1, .int .i64 4, .int .i64 7, .int .i64 6, .int .i64 5, .int .i64 2, .int .i64 3] 3)).alloc (.cells #[.slice (some ⟨w15.heap.size, 0, none⟩) 8 8] 22)) (some ⟨w15.heap.size, 0, none⟩) 8 [0, 1, 4, 7, 6, 5, 2, 3] :=
  (reps_of_own (own_newN cIntS [0, 1, 4, 7, 6, 5, 2, 3] 8 rfl (by decide) _ rfl (Nat.le_refl _) rfl) rfl).below (bal (Below.refl _ _) _)
 have bb := bal (bal (Below.refl w15.heap.size w15) (.cells #[.int .i64 0, .int .i64 1, .int .i64 4, .int .i64 7, .int .i64 6, .int .i64 5, .int .i64 2, .int .i64 3] 3)) (.cells #[.slice (some ⟨w15.heap.size, 0, none⟩) 8 8] 22)
 refine (SamePerms_any a4 _ c4 1 [(xa, 8, xc)] [(some ⟨w15.heap.size, 0, none⟩, 8, 8)] [[0, 1, 4, 7, 6, 5, 2, 3]] 1 _ (r4.below bb) (reps_of_own (own_newN cSlS [(some ⟨w15.heap.size, 0, none⟩, 8, 8)] 1 rfl (by decide) _ (Array.size_push _) (Nat.le_refl _) rfl) rfl) rfl rfl rfl (leads1 (rx.below bb) rfl (by decide)) (leads1 hin rfl (by decide)) (by decide)).mono ?_
 rintro e w16 ⟨rfl, b16⟩
 replace b16 := bnext bb b16
 replace r12 := r12.below b16
 replace r14 := r14.below b16
 replace b16 := bnext b15 b16
 clear b15 bb hin r4 rx
 go_wp2_with fail
 refine (amSame a12 _ c12 4 4 _ _ (r12.below (bal (Below.refl _ _) _)) (reps_of_own (own_newN cIntS [0, 1, 2, 3] 4 rfl (by decide) _ rfl (Nat.le_refl _) rfl) rfl) rfl (by decide)).mono ?_
 rintro e w17 ⟨rfl, b17⟩
 replace b17 := bnext (bal (Below.refl _ _) _) b17
 replace r14 := r14.below b17
 replace b17 := bnext b16 b17
 clear b16 r12
 go_wp2_with fail
 refine (amSame a14 _ c14 2 2 _ _ (r14.below (bal (Below.refl _ _) _)) (reps_of_own (own_newN cIntS [3, 7] 2 rfl (by decide) _ rfl (Nat.le_refl _) rfl) rfl) rfl (by decide)).mono ?_
 rintro e w18 ⟨rfl, b18⟩
 replace b18 := bnext (bal (Below.refl _ _) _) b18
 replace b18 := bnext b17 b18
 clear b17 r14
 go_wp2_with fail
 have hl : Ints (w18.alloc (.cells #[.int .i64 0, .int .i64 4, .int .i64 3] 3)) (some ⟨w18.heap.size, 0, none⟩) 3 [0, 4, 3] := reps_of_own (own_newN cIntS [0, 4, 3] 3 rfl (by decide) _ rfl (Nat.le_refl _) rfl) rfl
 have bl := bal (Below.refl w18.heap.size w18) (.cells #[.int .i64 0, .int .i64 4, .int .i64 3] 3)
 refine (lrow_any _).mono ?_
 rintro e w19 ⟨rfl, b19⟩
 replace hl := hl.below b19
 replace b19 := bnext b18 (bnext bl b19)
 clear b18 bl
 go_wp2_with fail
 refine (am_order _ _ hl).mono ?_
 rintro e w20 ⟨v20, rfl, h20, b20⟩
 replace hl := hl.below b20
 go_wp2_with fail
 refine (lrow_any _).mono ?_
 rintro e w21 ⟨rfl, b21⟩
 replace hl := hl.below b21
 go_wp2_with fail
 refine (am_cross _ _ hl).mono ?_
 rw [rv_crs2]
 rintro e w22 ⟨v22, rfl, h22, b22⟩
 replace hl := hl.below b22
 go_wp2_with fail
 refine (lrow_any _).mono ?_
 rintro e w23 ⟨rfl, b23⟩
 replace hl := hl.below b23
 go_wp2_with fail
 refine (am_word _ _ hl).mono ?_
 rintro e w24 ⟨v24, rfl, h24, b24⟩
 replace hl := hl.below b24
 go_wp2_with fail
 refine (lrow_any _).mono ?_
 rintro e w25 ⟨rfl, b25⟩
 replace hl := hl.below b25
 go_wp2_with fail
 refine (am_strands _ _ hl).mono ?_
 rintro e w26 ⟨v26, rfl, h26, b26⟩
 replace hl := hl.below b26
 go_wp2_with fail
 refine (lrow_any _).mono ?_
 rintro e w27 ⟨rfl, b27⟩
 replace hl := hl.below b27
 go_wp2_with fail
 refine (am_steps _ _ hl).mono ?_
 rintro e w28 ⟨v28, rfl, h28, b28⟩
 replace hl := hl.below b28
 go_wp2_with fail
 refine (lrow_any _).mono ?_
 rintro e w29 ⟨rfl, b29⟩
 replace hl := hl.below b29
 go_wp2_with fail
 refine (am_mir _ _ hl).mono ?_
 rintro e w30 ⟨ma, mc, v30, rfl, hS30⟩
 have b30 := hS30.b
 obtain ⟨a30, c30, rfl, r30⟩ := hS30.slice 1 rfl
 have rm := hS30.rd 0 rfl
 clear hl hS30
 go_wp2_with fail
 have bm := bal (Below.refl w30.heap.size w30) (.cells #[.bool (turnMac rowM).ring, .int .i64 (turnMac rowM).gears, .int .i64 (turnMac rowM).turn, .slice ma (turnMac rowM).sw.length mc] 24)
 refine (am_word2 _ ma a30 mc c30 (rm.below bm) (r30.below bm)).mono ?_
 rintro e w31 ⟨v31, rfl, h31, b31⟩
 replace b31 := bnext bm b31
 replace r30 := r30.below b31
 clear bm rm
 go_wp2_with fail
 refine (lrow_any _).mono ?_
 rintro e w32 ⟨rfl, b32⟩
 go_wp2_with fail
 refine (am_back _ _ (reps_of_own (own_newN cIntS [4] 1 rfl (by decide) _ rfl (Nat.le_refl _) rfl) rfl)).mono ?_
 rintro e w33 ⟨ba, bc, v33, rfl, hS33⟩
 have b33 := bnext (bal (Below.refl _ _) _) hS33.b
 obtain ⟨a33, c33, rfl, r33⟩ := hS33.slice 1 rfl
 obtain ⟨a20, c20, rfl, r20, _, _⟩ := h20.reps
 obtain ⟨a22, c22, rfl, r22, _, _⟩ := h22.reps
 obtain ⟨a24, c24, rfl, r24, _, _⟩ := h24.reps
 obtain ⟨a26, c26, rfl, r26, _, _⟩ := h26.reps
 obtain ⟨a28, c28, rfl, r28, _, _⟩ := h28.reps
 obtain ⟨a31, c31, rfl, r31, _, _⟩ := h31.reps
 have t31 := bnext b32 b33
 have t30 := bnext b31 t31
 have t28 := bnext b29 (bnext b30 t30)
 have t26 := bnext b27 (bnext b28 t28)
 have t24 := bnext b25 (bnext b26 t26)
 have t22 := bnext b23 (bnext b24 t24)
 have t20 := bnext b21 (bnext b22 t22)
 have t18 := bnext b19 (bnext b20 t20)
 replace r20 := r20.below t20
 replace r22 := r22.below t22
 replace r24 := r24.below t24
 replace r26 := r26.below t26
 replace r28 := r28.below t28
 replace r30 := r30.below t31
 replace r31 := r31.below t31
 clear t20 t22 t24 t26 t28 t30 t31 b19 b20 b21 b22 b23 b24 b25 b26 b27 b28 b29 b30 b31 b32 b33 h20 h22 h24 h26 h28 h31 hS33
 go_wp2_with fail
 have hSb := (SL.nil w33).box (.cells #[.bool (turnMac rowM).ring, .int .i64 (turnMac rowM).gears, .int .i64 (turnMac rowM).turn, .slice ba (turnMac rowM).sw.length bc] 24)
 refine (amSame a20 _ c20 3 3 _ _ (r20.below (bal hSb.b _)) (reps_of_own (own_newN cIntS [0, 2, 1] 3 rfl (by decide) _ (Array.size_push _) (Nat.le_refl _) rfl) rfl) rfl (by decide)).mono ?_
 rintro e w34 ⟨rfl, b34⟩
 replace hSb := (hSb.al _).mono b34
 replace b34 := hSb.b
 replace r22 := r22.below b34
 replace r24 := r24.below b34
 replace r26 := r26.below b34
 replace r28 := r28.below b34
 replace r30 := r30.below b34
 replace r31 := r31.below b34
 replace r33 := r33.below b34
 have hVx : cX (atD (⟨0, 0, 0, 0⟩ : CrM) [⟨0, 2, 0, 0⟩] 0) = .agg #[.int .i64 0, .int .i64 2, .int .i64 0] := rfl
 go_wp2_with (with_reducible refine wpList_idxSG (⟨0, 0, 0, 0⟩ : CrM) (.agg #[.int .i64 0, .int .i64 2, .int .i64 0]) E_xs A_xs cX1 wU wU (r22) rfl (by decide) (by decide) hVx (fun _ => wU) wU (fun _ => wU) (fun _ => ?_))
 refine (amSame a24 _ c24 3 3 _ _ (r24.below (bal (Below.refl _ _) _)) (reps_of_own (own_newN cIntS [-1, 2, 1] 3 rfl (by decide) _ rfl (Nat.le_refl _) rfl) rfl) rfl (by decide)).mono ?_
 rintro e w35 ⟨rfl, b35⟩
 replace b35 := bnext (bal (Below.refl _ _) _) b35
 replace hSb := hSb.mono b35
 replace r26 := r26.below b35
 replace r28 := r28.below b35
 replace r30 := r30.below b35
 replace r31 := r31.below b35
 replace r33 := r33.below b35
 go_wp2_with fail
 refine (amSame a26 _ c26 3 3 _ _ (r26.below (bal (Below.refl _ _) _)) (reps_of_own (own_newN cIntS [2, 1, 0] 3 rfl (by decide) _ rfl (Nat.le_refl _) rfl) rfl) rfl (by decide)).mono ?_
 rintro e w36 ⟨rfl, b36⟩
 replace b36 := bnext (bal (Below.refl _ _) _) b36
 replace hSb := hSb.mono b36
 replace r28 := r28.below b36
 replace r30 := r30.below b36
 replace r31 := r31.below b36
 replace r33 := r33.below b36
 go_wp2_with fail
 refine (amSame a28 _ c28 3 3 _ _ (r28.below (bal (Below.refl _ _) _)) (reps_of_own (own_newN cIntS [6, 2, 7] 3 rfl (by decide) _ rfl (Nat.le_refl _) rfl) rfl) rfl (by decide)).mono ?_
 rintro e w37 ⟨rfl, b37⟩
 replace b37 := bnext (bal (Below.refl _ _) _) b37
 replace hSb := hSb.mono b37
 replace r30 := r30.below b37
 replace r31 := r31.below b37
 replace r33 := r33.below b37
 go_wp2_with fail
 have T37 := bnext t18 hSb.b
 replace hw := hw.below T37
 refine (lrow_any _).mono ?_
 rintro e w38 ⟨rfl, b38⟩
 go_wp2_with fail
 refine (am_print _).mono ?_
 rintro e w39 ⟨rfl, b39⟩
 replace b39 := bnext b38 b39
 replace hw := hw.below b39
 go_wp2_with fail
 refine (am_parse1 _ hw).mono ?_
 rintro e w40 ⟨ya, yc, rfl, hS40⟩
 have b40 := hS40.b
 have ry := hS40.rd 0 rfl
 replace hw := hw.below b40
 have hSy := (SL.nil w40).box (.cells #[.bool true, .int .i64 2, .int .i64 (-1), .slice ya 2 yc] 24)
 replace hw := hw.below hSy.b
 replace ry := ry.below hSy.b
 go_wp2_with fail
 refine (am_parse2 _ hw).mono ?_
 rintro e w41 ⟨⟨zR, zG, zT, za, zn, zc, rfl⟩, b41⟩
 replace hSy := hSy.mono b41
 replace ry := ry.below b41
 have b41 := bnext b39 (bnext b40 hSy.b)
 replace hSb := hSb.mono b41
 replace r30 := r30.below b41
 replace r31 := r31.below b41
 replace r33 := r33.below b41
 go_wp2_with fail
 have bz := bal (Below.refl w41.heap.size w41) (.cells #[.bool zR, .int .i64 zG, .int .i64 zT, .slice za zn zc] 24)
 refine (amSame a30 _ c30 3 3 _ _ (r30.below (bal bz _)) (reps_of_own (own_newN cIntS [0, 4, 1] 3 rfl (by decide) _ (Array.size_push _) (Nat.le_refl _) rfl) rfl) rfl (by decide)).mono ?_
 rintro e w42 ⟨rfl, b42⟩
 replace b42 := bnext (bal bz _) b42
 replace hSb := hSb.mono b42
 replace r31 := r31.below b42
 replace r33 := r33.below b42
 replace hSy := hSy.mono b42
 replace ry := ry.below b42
 go_wp2_with fail
 refine (amSame a31 _ c31 3 3 _ _ (r31.below (bal (Below.refl _ _) _)) (reps_of_own (own_newN cIntS [1, -2, -1] 3 rfl (by decide) _ rfl (Nat.le_refl _) rfl) rfl) rfl (by decide)).mono ?_
 rintro e w43 ⟨rfl, b43⟩
 replace b43 := bnext (bal (Below.refl _ _) _) b43
 replace hSb := hSb.mono b43
 replace r33 := r33.below b43
 replace hSy := hSy.mono b43
 replace ry := ry.below b43
 have qb := (hSb.blk 0 rfl).1
 go_wp2_with (with_reducible refine wpList_ldB F_int wU wU qb wU ?_)
 refine (amSame a33 _ c33 1 1 _ _ (r33.below (bal (Below.refl _ _) _)) (reps_of_own (own_newN cIntS [2] 1 rfl (by decide) _ rfl (Nat.le_refl _) rfl) rfl) rfl (by decide)).mono ?_
 rintro e w44 ⟨rfl, b44⟩
 replace b44 := bnext (bal (Below.refl _ _) _) b44
 replace hSb := hSb.mono b44
 replace hSy := hSy.mono b44
 replace ry := ry.below b44
 have qy := (hSy.blk 0 rfl).1
 clear r33 qb
 go_wp2_with (first | (with_reducible refine wpList_ldB F_int wU wU qy wU ?_) | (with_reducible refine wpList_ldB F_boolM wU wU qy wU ?_) | (with_reducible refine wpList_ldB F_sliceM wU wU qy wU ?_))
 refine (amSame ya _ yc 2 2 _ _ (ry.below (bal (Below.refl _ _) _)) (reps_of_own (own_newN cIntS [0, 1] 2 rfl (by decide) _ rfl (Nat.le_refl _) rfl) rfl) rfl (by decide)).mono ?_
 rintro e w45 ⟨rfl, b45⟩
 replace b45 := bnext (bal (Below.refl _ _) _) b45
 replace hSb := hSb.mono b45
 replace b45 := bnext t18 hSb.b
 go_wp2_with fail
 go_ret
 exact ⟨rfl, b45⟩
end Go.Proofs.YtoebgfgihfjnnaaGreatDoor

namespace Go.Proofs.YtoebgfgihfjnnaaGreatDoor
open Go.RowKit
set_option maxHeartbeats 8000000
set_option maxRecDepth 100000
theorem now_meets {m : MacV} {l : List Int} (h : LoadOk m l) : decide (0 ≤ nowM m l) = meetsM m l 0 := by
 cases hf : firstM m l with
 | none =>
  have := now_before (m := m) (l := l) (k := 0) (fun v hv => by rw [hf] at hv; cases hv)
  rw [atL_zero] at this
  unfold meetsM
  rw [this, hf]; rfl
 | some v =>
  obtain ⟨k, pl⟩ := v
  unfold meetsM
  rw [hf]
  cases k with
  | zero =>
   have := now_at hf
   rw [atL_zero] at this
   rw [this.1]
   simp [this.2]
  | succ k =>
   have := now_before (m := m) (l := l) (k := 0) (fun v hv => by rw [hf] at hv; cases hv; exact Nat.succ_pos k)
   rw [atL_zero] at this
   rw [this]
   simp
end Go.Proofs.YtoebgfgihfjnnaaGreatDoor

namespace Go.Proofs.YtoebgfgihfjnnaaGreatDoor
open Go.RowKit
set_option maxHeartbeats 8000000
set_option maxRecDepth 100000
theorem mw_bad (m : MacV) (ad al : Option Addr) (cap cl : Nat) (l : List Int) (n : Int) (w : World) (hR : Ints w ad cap m.sw) (hL : Ints w al cl l) (hI : InI m.gears) (hw : LibW w) (hsb : (decide (m.sw.length ≤ 19) && decide (l.length ≤ 67)) = true) (hn60 : decide (60 < n) = false ∨ (decide (60 < n) = true ∧ decide (n ≤ 1000) = false)) (he : loadE m l ≠ 0) :
  Calls Tryz.prog 3 #[mV m ad cap, .slice al l.length cl, .int .i64 n] w fun r w' => r = .returned (.bool true) ∧ Below w.heap.size w w' := by
 have hS0 := ((SL.nil w).box (.cells (mC m ad cap) 24)).box (.cells (mC m ad cap) 25)
 simp only [World.size_alloc] at hS0
 have HA := hid awake4_any
 have hlc := hL.le
 have CSh := fun w => rShort_any m ad cap al cl l.length w
 rw [hsb] at CSh
 have HSh := hid CSh
 clear CSh hsb
 have CK := fun w h h2 => lcheck_any m ad cap al cl l w h h2
 have KL : ChkL m ad cap al cl l := CheckLoad_any m ad cap al cl l fun w h => CheckMachine_any m ad cap w h hI
 have CO := fun w h h2 => mOrder_any m ad cap al cl l w h h2 KL
 have CX := fun w h h2 => mCrossings_any m ad cap al cl l w h h2 KL
 have CW := fun w h h2 => mWord_any m ad cap al cl l n w h h2 KL
 have CT := fun w h h2 => mStrands_any m ad cap al cl l n w h h2 KL
 have CG : ∀ w, Calls Tryz.prog 18 #[.bool m.ring, .int .i64 13] w fun r w' => r = .returned (.int .i64 (if m.ring then 13 else 0)) ∧ w = w' := fun w => lwhen_any m.ring 13 w
 have C5 : ∀ w, Calls Tryz.prog 18 #[.bool (decide (12 < (l.length : Int))), .int .i64 5] w fun r w' => r = .returned (.int .i64 (if decide (12 < (l.length : Int)) then 5 else 0)) ∧ w = w' := fun w => lwhen_any _ 5 w
 have C3 := fun w => rOutside_any n 0 1000 w
 have C33 : ∀ w, Calls Tryz.prog 18 #[.bool (decide (n < 0) || decide (1000 < n)), .int .i64 3] w fun r w' => r = .returned (.int .i64 (if (decide (n < 0) || decide (1000 < n)) then 3 else 0)) ∧ w = w' := fun w => lwhen_any _ 3 w
 clear KL
 obtain ⟨E, hE⟩ : ∃ E, E = loadE m l := ⟨_, rfl⟩
 have hEn : E ≠ 0 := by rw [hE]; exact he
 have hne : (E != 0) = true := by simpa using hEn
 have hne2 : (E == 0) = false := by simpa using hEn
 have e1 : orderE m l = E := by unfold orderE; rw [if_pos he]; exact hE.symm
 have e2 : crossE m l = E := by unfold crossE; rw [if_pos he]; exact hE.symm
 have e3 : weaveE m l n = E := by unfold weaveE; rw [if_pos he]; exact hE.symm
 have e4 : wrdE m l n = E := by unfold wrdE; rw [e3, if_pos hEn]
 rw [e1, if_neg hEn] at CO
 rw [e2, if_neg hEn] at CX
 rw [e4, if_neg hEn] at CW
 rw [e3, if_neg hEn] at CT
 rw [← hE] at CK
 obtain ⟨rv, hrv⟩ : ∃ rv : Int, rv = if m.ring then 13 else 0 := ⟨_, rfl⟩
 rw [← hrv] at CG
 obtain ⟨x5, hx5⟩ : ∃ x5 : Int, x5 = if decide (12 < (l.length : Int)) then 5 else 0 := ⟨_, rfl⟩
 rw [← hx5] at C5
 obtain ⟨x3, hx3⟩ : ∃ x3 : Int, x3 = if (decide (n < 0) || decide (1000 < n)) then 3 else 0 := ⟨_, rfl⟩
 rw [← hx3] at C33
 have hfe : ∀ x, firstE (E :: x) = E := fun x => firstE_head hEn
 have HFE := hid hfe
 clear hfe e1 e2 e3 e4 hE he hrv hx5 hx3 hEn
 have HCK := hid CK; have HO := hid CO; have HX := hid CX; have HW := hid CW; have HT := hid CT; have HRG := hid CG; have H5 := hid C5; have H3 := hid C3; have H33 := hid C33
 clear CK CO CX CW CT CG C5 C3 C33 hI
 rcases hn60 with d60 | ⟨d60, d61⟩
 all_goals
  go_enter Tryz.func3, Tryz.ntmps3
  go_wp2_with fail
  refine (HA.out _ (hw.below hS0.b)).mono ?_
  rintro e w1 ⟨rfl, b1⟩
  have hS1 := hS0.mono b1
  have q1 := (hS1.blk 0 rfl).1
  have p1 := (hS1.blk 1 rfl).1
  clear hS0
  go_wp2_with (with_reducible refine wpList_ldS (n := 4) (us := mC m ad cap) A_rmach kR wU wU (by assumption) wU wU ?_)
  refine (HSh.out _).mono ?_
  rintro e w2 ⟨rfl, b2⟩
  have hS2 := hS1.mono b2
  have q2 := (hS2.blk 0 rfl).1
  have p2 := (hS2.blk 1 rfl).1
  clear hS1 q1 p1
  go_wp2_with (with_reducible refine wpList_ldS (n := 4) (us := mC m ad cap) A_rmach kR wU wU (by assumption) wU wU ?_)
  refine (HCK.out _ (hR.below hS2.b) (hL.below hS2.b)).mono ?_
  rintro e w3 ⟨rfl, b3⟩
  have hS3 := hS2.mono b3
  have q3 := (hS3.blk 0 rfl).1
  have p3 := (hS3.blk 1 rfl).1
  clear hS2 q2 p2
  go_wp2_with (with_reducible refine wpList_ldS (n := 4) (us := mC m ad cap) A_mach kR wU wU (by assumption) wU wU ?_)
  refine (HO.out _ (hR.below hS3.b) (hL.below hS3.b)).mono ?_
  rintro e w4 ⟨v4, rfl, ho4, b4⟩
  have hS4 := hS3.call (SL.ofOwn ho4 b4)
  simp only [List.cons_append, List.nil_append] at hS4
  have q4 := (hS4.blk 1 rfl).1
  have p4 := (hS4.blk 2 rfl).1
  clear hS3 q3 p3
  clear ho4 b4
  obtain ⟨aO, cO, rfl, _⟩ := hS4.slice 0 rfl
  go_wp2_with (with_reducible refine wpList_ldS (n := 4) (us := mC m ad cap) A_mach kR wU wU (by assumption) wU wU ?_)
  refine (HX.out _ (hR.below hS4.b) (hL.below hS4.b)).mono ?_
  rintro e w5 ⟨v5, rfl, ho5, b5⟩
  have hS5 := hS4.call (SL.ofOwn ho5 b5)
  simp only [List.cons_append, List.nil_append] at hS5
  have q5 := (hS5.blk 2 rfl).1
  have p5 := (hS5.blk 3 rfl).1
  clear hS4 q4 p4
  clear ho5 b5
  obtain ⟨aX, cX, rfl, _⟩ := hS5.slice 0 rfl
  go_wp2_with (with_reducible refine wpList_ldS (n := 4) (us := mC m ad cap) A_mach kR wU wU (by assumption) wU wU ?_)
  refine (HW.out _ (hR.below hS5.b) (hL.below hS5.b)).mono ?_
  rintro e w6 ⟨v6, rfl, ho6, b6⟩
  have hS6 := hS5.call (SL.ofOwn ho6 b6)
  simp only [List.cons_append, List.nil_append] at hS6
  have q6 := (hS6.blk 3 rfl).1
  have p6 := (hS6.blk 4 rfl).1
  clear hS5 q5 p5
  clear ho6 b6
  obtain ⟨aW, cW, rfl, _⟩ := hS6.slice 0 rfl
  go_wp2_with (with_reducible refine wpList_ldS (n := 4) (us := mC m ad cap) A_mach kR wU wU (by assumption) wU wU ?_)
  refine (HT.out _ (hR.below hS6.b) (hL.below hS6.b)).mono ?_
  rintro e w7 ⟨v7, rfl, ho7, b7⟩
  have hS7 := hS6.call (SL.ofOwn ho7 b7)
  simp only [List.cons_append, List.nil_append] at hS7
  have q7 := (hS7.blk 4 rfl).1
  have p7 := (hS7.blk 5 rfl).1
  clear hS6 q6 p6
  clear ho7 b7
  obtain ⟨aT, cT, rfl, _⟩ := hS7.slice 0 rfl
  go_wp2_with (with_reducible refine wpList_ldB F_boolM wU wU p7 wU ?_)
  refine (HRG.out _).mono ?_
  rintro e w' ⟨rfl, rfl⟩
  have hS8 := hS7.al (.cells #[.int .i64 E, .int .i64 rv] 3)
  have q8 := (hS8.blk 4 rfl).1
  have p8 := (hS8.blk 5 rfl).1
  clear hS7 q7 p7
  have hS9 := hS8.al (.cells #[.int .i64 E, .int .i64 0] 3)
  have q9 := (hS9.blk 4 rfl).1
  have p9 := (hS9.blk 5 rfl).1
  clear hS8 q8 p8
  go_wp2_with (first | (go_at_call 20; refine (lfirst4_any _ _ [_, _] _ (reps_newN cIntS [_, _] 2 rfl (by decide) _ _ (by simp) rfl) (by simp)).mono ?_; rw [HFE.out]; rintro e w' ⟨rfl, rfl⟩) | (go_at_call 20; refine (lfirst4_any _ _ [_, _] _ (reps_newN cIntS [_, _] 2 rfl (by decide) _ _ (by simp) rfl) (by simp)).mono ?_; rw [HFE.out]; rintro e w' ⟨rfl, rfl⟩))
  refine (llistBad_any aO none cO 0 0 E _ hne).mono ?_
  rintro e w10 ⟨rfl, b10⟩
  have hS10 := hS9.mono b10
  have q10 := (hS10.blk 4 rfl).1
  have p10 := (hS10.blk 5 rfl).1
  clear hS9 q9 p9
  have hS11 := hS10.al (.cells #[.int .i64 E, .int .i64 0] 3)
  have q11 := (hS11.blk 4 rfl).1
  have p11 := (hS11.blk 5 rfl).1
  clear hS10 q10 p10
  go_wp2_with (go_at_call 20; refine (lfirst4_any _ _ [_, _] _ (reps_newN cIntS [_, _] 2 rfl (by decide) _ _ (by simp) rfl) (by simp)).mono ?_; rw [HFE.out]; rintro e w' ⟨rfl, rfl⟩)
  refine wp_region_q kR kR ?_
  repeat (first | ((with_reducible refine wpQ_skip wU ?_); (try simp only [Act.put, pA, pB, pC])) |  ((with_reducible refine wpB_load (by first | exact F_int | exact F_u64s) wU wU (by assumption) wU ?_); (try simp only [Act.put, pA, pB, pC])) | ((refine wpQ_oneG ?_ wU (fun w' => ?_) ?_); rotate_left; (go_simp; rfl); (try simp only [Act.put, pA, pB, pC])))
  refine wpQuiet_nil ?_
  intro w12 b12
  have hS12 := hS11.mono b12
  have q12 := (hS12.blk 4 rfl).1
  have p12 := (hS12.blk 5 rfl).1
  clear hS11 q11 p11
  go_wp2_with fail
  refine (H5.out _).mono ?_
  rintro e w' ⟨rfl, rfl⟩
  go_wp2_with fail
  refine (H3.out _).mono ?_
  rintro e w' ⟨rfl, rfl⟩
  go_wp2_with fail
  refine (H33.out _).mono ?_
  rintro e w' ⟨rfl, rfl⟩
  have hS13 := hS12.al (.cells #[.int .i64 E, .int .i64 x5, .int .i64 x3] 3)
  have q13 := (hS13.blk 4 rfl).1
  have p13 := (hS13.blk 5 rfl).1
  clear hS12 q12 p12
  go_wp2_with (go_at_call 20; refine (lfirst4_any _ _ [_, _, _] _ (reps_newN cIntS [_, _, _] 3 rfl (by decide) _ _ (by simp) rfl) (by simp)).mono ?_; rw [HFE.out]; rintro e w' ⟨rfl, rfl⟩)
  refine (llistBad_any aW none cW 0 0 E _ hne).mono ?_
  rintro e w14 ⟨rfl, b14⟩
  have hS14 := hS13.mono b14
  have q14 := (hS14.blk 4 rfl).1
  have p14 := (hS14.blk 5 rfl).1
  clear hS13 q13 p13
  go_wp2_with fail
  refine (llistBad_any aT none cT 0 0 E _ hne).mono ?_
  rintro e w15 ⟨rfl, b15⟩
  have hS15 := hS14.mono b15
  have q15 := (hS15.blk 4 rfl).1
  have p15 := (hS15.blk 5 rfl).1
  clear hS14 q14 p14
  go_wp2_with fail
  go_ret
  exact ⟨rfl, hS15.b⟩
theorem mw_big (m : MacV) (ad al : Option Addr) (cap cl : Nat) (l : List Int) (n : Int) (w : World) (hR : Ints w ad cap m.sw) (hL : Ints w al cl l) (hI : InI m.gears) (hw : LibW w) (hsb : (decide (m.sw.length ≤ 19) && decide (l.length ≤ 67)) = true) (hn60 : decide (60 < n) = false ∨ (decide (60 < n) = true ∧ decide (n ≤ 1000) = false)) (he : loadE m l = 0) (h20 : 20 < l.length) :
  Calls Tryz.prog 3 #[mV m ad cap, .slice al l.length cl, .int .i64 n] w fun r w' => r = .returned (.bool true) ∧ Below w.heap.size w w' := by
 have hS0 := ((SL.nil w).box (.cells (mC m ad cap) 24)).box (.cells (mC m ad cap) 25)
 simp only [World.size_alloc] at hS0
 have HA := hid awake4_any
 have hlc := hL.le
 have CSh := fun w => rShort_any m ad cap al cl l.length w
 rw [hsb] at CSh
 have HSh := hid CSh
 clear CSh hsb
 have CK := fun w h h2 => lcheck_any m ad cap al cl l w h h2
 have KL : ChkL m ad cap al cl l := CheckLoad_any m ad cap al cl l fun w h => CheckMachine_any m ad cap w h hI
 have CO := fun w h h2 => mOrder_any m ad cap al cl l w h h2 KL
 have CX := fun w h h2 => mCrossings_any m ad cap al cl l w h h2 KL
 have CW := fun w h h2 => mWord_any m ad cap al cl l n w h h2 KL
 have CT := fun w h h2 => mStrands_any m ad cap al cl l n w h h2 KL
 have CG : ∀ w, Calls Tryz.prog 18 #[.bool m.ring, .int .i64 13] w fun r w' => r = .returned (.int .i64 (if m.ring then 13 else 0)) ∧ w = w' := fun w => lwhen_any m.ring 13 w
 have C5 : ∀ w, Calls Tryz.prog 18 #[.bool (decide (12 < (l.length : Int))), .int .i64 5] w fun r w' => r = .returned (.int .i64 (if decide (12 < (l.length : Int)) then 5 else 0)) ∧ w = w' := fun w => lwhen_any _ 5 w
 have C3 := fun w => rOutside_any n 0 1000 w
 have C33 : ∀ w, Calls Tryz.prog 18 #[.bool (decide (n < 0) || decide (1000 < n)), .int .i64 3] w fun r w' => r = .returned (.int .i64 (if (decide (n < 0) || decide (1000 < n)) then 3 else 0)) ∧ w = w' := fun w => lwhen_any _ 3 w
 clear KL
 have hlok := loadE_zero he
 have hl20 : decide (20 < (l.length : Int)) = true := decide_eq_true (by omega)
 rw [he] at CK
 clear hlok he
 have HCK := hid CK
 clear CK CO CX CW CT CG C5 C3 C33 hI
 rcases hn60 with d60 | ⟨d60, d61⟩
 all_goals
  go_enter Tryz.func3, Tryz.ntmps3
  go_wp2_with fail
  refine (HA.out _ (hw.below hS0.b)).mono ?_
  rintro e w1 ⟨rfl, b1⟩
  have hS1 := hS0.mono b1
  have q1 := (hS1.blk 0 rfl).1
  have p1 := (hS1.blk 1 rfl).1
  clear hS0
  go_wp2_with (with_reducible refine wpList_ldS (n := 4) (us := mC m ad cap) A_rmach kR wU wU (by assumption) wU wU ?_)
  refine (HSh.out _).mono ?_
  rintro e w2 ⟨rfl, b2⟩
  have hS2 := hS1.mono b2
  have q2 := (hS2.blk 0 rfl).1
  have p2 := (hS2.blk 1 rfl).1
  clear hS1 q1 p1
  go_wp2_with (with_reducible refine wpList_ldS (n := 4) (us := mC m ad cap) A_rmach kR wU wU (by assumption) wU wU ?_)
  refine (HCK.out _ (hR.below hS2.b) (hL.below hS2.b)).mono ?_
  rintro e w3 ⟨rfl, b3⟩
  have hS3 := hS2.mono b3
  have q3 := (hS3.blk 0 rfl).1
  have p3 := (hS3.blk 1 rfl).1
  clear hS2 q2 p2
  go_wp2_with fail
  go_ret
  exact ⟨rfl, hS3.b⟩
theorem mw_ring0 (m : MacV) (ad al : Option Addr) (cap cl : Nat) (l : List Int) (n : Int) (w : World) (hR : Ints w ad cap m.sw) (hL : Ints w al cl l) (hI : InI m.gears) (hw : LibW w) (hsb : (decide (m.sw.length ≤ 19) && decide (l.length ≤ 67)) = true) (hn60 : decide (60 < n) = false ∨ (decide (60 < n) = true ∧ decide (n ≤ 1000) = false)) (he : loadE m l = 0) (h20 : l.length ≤ 20) (hr : m.ring = true) (hnb : meetsM m l 0 = false) :
  Calls Tryz.prog 3 #[mV m ad cap, .slice al l.length cl, .int .i64 n] w fun r w' => r = .returned (.bool true) ∧ Below w.heap.size w w' := by
 have hS0 := ((SL.nil w).box (.cells (mC m ad cap) 24)).box (.cells (mC m ad cap) 25)
 simp only [World.size_alloc] at hS0
 have HA := hid awake4_any
 have hlc := hL.le
 have CSh := fun w => rShort_any m ad cap al cl l.length w
 rw [hsb] at CSh
 have HSh := hid CSh
 clear CSh hsb
 have CK := fun w h h2 => lcheck_any m ad cap al cl l w h h2
 have KL : ChkL m ad cap al cl l := CheckLoad_any m ad cap al cl l fun w h => CheckMachine_any m ad cap w h hI
 have CO := fun w h h2 => mOrder_any m ad cap al cl l w h h2 KL
 have CX := fun w h h2 => mCrossings_any m ad cap al cl l w h h2 KL
 have CW := fun w h h2 => mWord_any m ad cap al cl l n w h h2 KL
 have CT := fun w h h2 => mStrands_any m ad cap al cl l n w h h2 KL
 have CG : ∀ w, Calls Tryz.prog 18 #[.bool m.ring, .int .i64 13] w fun r w' => r = .returned (.int .i64 (if m.ring then 13 else 0)) ∧ w = w' := fun w => lwhen_any m.ring 13 w
 have C5 : ∀ w, Calls Tryz.prog 18 #[.bool (decide (12 < (l.length : Int))), .int .i64 5] w fun r w' => r = .returned (.int .i64 (if decide (12 < (l.length : Int)) then 5 else 0)) ∧ w = w' := fun w => lwhen_any _ 5 w
 have C3 := fun w => rOutside_any n 0 1000 w
 have C33 : ∀ w, Calls Tryz.prog 18 #[.bool (decide (n < 0) || decide (1000 < n)), .int .i64 3] w fun r w' => r = .returned (.int .i64 (if (decide (n < 0) || decide (1000 < n)) then 3 else 0)) ∧ w = w' := fun w => lwhen_any _ 3 w
 clear KL
 have hlok := loadE_zero he
 have hlo := hlok.ok.lo
 have hhi := hlok.ok.hi
 have hl20 : decide (20 < (l.length : Int)) = false := decide_eq_false (by omega)
 have hn64 : l.length ≤ 64 := by omega
 rw [he] at CK
 have CN := fun w h => rNow_any m ad cap al cl l w h hlo hhi hlok.rng hn64 hlok.nodup
 have CRO := fun w h => rOrder_any m ad cap al cl l w h hlo hhi hlok.rng hn64
 have CRX := fun w h => rCrossings_any m ad cap al cl l w h hlo hhi hlok.rng hn64
 have CLX := fun a c w h => lcrossings_any a c (crossM m l) w h (by have := crossM_len m l; omega)
 have hxl : (crossM m l).length ≤ 48 := by have := crossM_len m l; omega
 have hol : (orderM m l).length ≤ 64 := by have := orderM_len m l; omega
 have hnw : decide (0 ≤ nowM m l) = false := by rw [now_meets hlok]; exact hnb
 have e1 : orderE m l = 13 := by unfold orderE; rw [if_neg (by simp [he]), hr]; rfl
 have e2 : crossE m l = 0 := by unfold crossE; rw [if_neg (by simp [he]), hnb]; rfl
 rw [e1, if_neg (by decide)] at CO
 rw [e2, if_pos rfl] at CX
 replace CG : ∀ w, Calls Tryz.prog 18 #[.bool m.ring, .int .i64 13] w fun r w' => r = .returned (.int .i64 13) ∧ w = w' := fun w => by have h := CG w; simp only [hr, if_true] at h ⊢; exact h
 have e3 : weaveE m l n = 13 := by unfold weaveE; rw [if_neg (by simp [he]), hr]; try rfl
 have e4 : wrdE m l n = 13 := by unfold wrdE; rw [e3, if_pos (by decide)]
 rw [e4, if_neg (by decide)] at CW
 rw [e3, if_neg (by decide)] at CT
 obtain ⟨x5, hx5⟩ : ∃ x5 : Int, x5 = if decide (12 < (l.length : Int)) then 5 else 0 := ⟨_, rfl⟩
 rw [← hx5] at C5
 clear hx5
 obtain ⟨x3, hx3⟩ : ∃ x3 : Int, x3 = if (decide (n < 0) || decide (1000 < n)) then 3 else 0 := ⟨_, rfl⟩
 rw [← hx3] at C33
 clear hx3
 obtain ⟨OM, hOM⟩ : ∃ OM, OM = orderM m l := ⟨_, rfl⟩
 obtain ⟨XM, hXM⟩ : ∃ XM, XM = crossM m l := ⟨_, rfl⟩
 obtain ⟨NW, hNW⟩ : ∃ NW, NW = nowM m l := ⟨_, rfl⟩
 rw [← hNW] at CN hnw
 rw [← hOM] at CRO hol
 rw [← hXM] at CRX CLX hxl
 rw [← hXM] at CX
 have HN := hid CN; have HRO := hid CRO; have HRX := hid CRX; have HLX := hid CLX
 clear CN CRO CRX CLX hOM hXM hNW e1 e2 e3 e4 hlok he hr hnb hlo hhi
 have HCK := hid CK; have HO := hid CO; have HX := hid CX; have HW := hid CW; have HT := hid CT; have HRG := hid CG; have H5 := hid C5; have H3 := hid C3; have H33 := hid C33
 clear CK CO CX CW CT CG C5 C3 C33 hI
 rcases hn60 with d60 | ⟨d60, d61⟩
 all_goals
  go_enter Tryz.func3, Tryz.ntmps3
  go_wp2_with fail
  refine (HA.out _ (hw.below hS0.b)).mono ?_
  rintro e w1 ⟨rfl, b1⟩
  have hS1 := hS0.mono b1
  have q1 := (hS1.blk 0 rfl).1
  have p1 := (hS1.blk 1 rfl).1
  clear hS0
  go_wp2_with (with_reducible refine wpList_ldS (n := 4) (us := mC m ad cap) A_rmach kR wU wU (by assumption) wU wU ?_)
  refine (HSh.out _).mono ?_
  rintro e w2 ⟨rfl, b2⟩
  have hS2 := hS1.mono b2
  have q2 := (hS2.blk 0 rfl).1
  have p2 := (hS2.blk 1 rfl).1
  clear hS1 q1 p1
  go_wp2_with (with_reducible refine wpList_ldS (n := 4) (us := mC m ad cap) A_rmach kR wU wU (by assumption) wU wU ?_)
  refine (HCK.out _ (hR.below hS2.b) (hL.below hS2.b)).mono ?_
  rintro e w3 ⟨rfl, b3⟩
  have hS3 := hS2.mono b3
  have q3 := (hS3.blk 0 rfl).1
  have p3 := (hS3.blk 1 rfl).1
  clear hS2 q2 p2
  go_wp2_with (with_reducible refine wpList_ldS (n := 4) (us := mC m ad cap) A_mach kR wU wU (by assumption) wU wU ?_)
  refine (HO.out _ (hR.below hS3.b) (hL.below hS3.b)).mono ?_
  rintro e w4 ⟨v4, rfl, ho4, b4⟩
  have hS4 := hS3.call (SL.ofOwn ho4 b4)
  simp only [List.cons_append, List.nil_append] at hS4
  have q4 := (hS4.blk 1 rfl).1
  have p4 := (hS4.blk 2 rfl).1
  clear hS3 q3 p3
  clear ho4 b4
  obtain ⟨aO, cO, rfl, _⟩ := hS4.slice 0 rfl
  go_wp2_with (with_reducible refine wpList_ldS (n := 4) (us := mC m ad cap) A_mach kR wU wU (by assumption) wU wU ?_)
  refine (HX.out _ (hR.below hS4.b) (hL.below hS4.b)).mono ?_
  rintro e w5 ⟨v5, rfl, ho5, b5⟩
  have hS5 := hS4.call (SL.ofOwn ho5 b5)
  simp only [List.cons_append, List.nil_append] at hS5
  have q5 := (hS5.blk 2 rfl).1
  have p5 := (hS5.blk 3 rfl).1
  clear hS4 q4 p4
  clear ho5 b5
  obtain ⟨aX, cX, rfl, _⟩ := hS5.slice 0 rfl
  go_wp2_with (with_reducible refine wpList_ldS (n := 4) (us := mC m ad cap) A_mach kR wU wU (by assumption) wU wU ?_)
  refine (HW.out _ (hR.below hS5.b) (hL.below hS5.b)).mono ?_
  rintro e w6 ⟨v6, rfl, ho6, b6⟩
  have hS6 := hS5.call (SL.ofOwn ho6 b6)
  simp only [List.cons_append, List.nil_append] at hS6
  have q6 := (hS6.blk 3 rfl).1
  have p6 := (hS6.blk 4 rfl).1
  clear hS5 q5 p5
  clear ho6 b6
  obtain ⟨aW, cW, rfl, _⟩ := hS6.slice 0 rfl
  go_wp2_with (with_reducible refine wpList_ldS (n := 4) (us := mC m ad cap) A_mach kR wU wU (by assumption) wU wU ?_)
  refine (HT.out _ (hR.below hS6.b) (hL.below hS6.b)).mono ?_
  rintro e w7 ⟨v7, rfl, ho7, b7⟩
  have hS7 := hS6.call (SL.ofOwn ho7 b7)
  simp only [List.cons_append, List.nil_append] at hS7
  have q7 := (hS7.blk 4 rfl).1
  have p7 := (hS7.blk 5 rfl).1
  clear hS6 q6 p6
  clear ho7 b7
  obtain ⟨aT, cT, rfl, _⟩ := hS7.slice 0 rfl
  go_wp2_with (with_reducible refine wpList_ldS (n := 4) (us := mC m ad cap) A_rmach kR wU wU (by assumption) wU wU ?_)
  refine (HN.out _ (hL.below hS7.b)).mono ?_
  rintro e w8 ⟨rfl, b8⟩
  have hS8 := hS7.mono b8
  have q8 := (hS8.blk 4 rfl).1
  have p8 := (hS8.blk 5 rfl).1
  clear hS7 q7 p7
  go_wp2_with fail
  refine (lwhen_any false 16 w8).mono ?_
  rintro e w' ⟨rfl, rfl⟩
  go_wp2_with (with_reducible refine wpList_ldB F_boolM wU wU p8 wU ?_)
  refine (HRG.out _).mono ?_
  rintro e w' ⟨rfl, rfl⟩
  have hS9 := hS8.al (.cells #[.int .i64 0, .int .i64 13] 3)
  have q9 := (hS9.blk 4 rfl).1
  have p9 := (hS9.blk 5 rfl).1
  clear hS8 q8 p8
  have hS10 := hS9.al (.cells #[.int .i64 13, .int .i64 0] 3)
  have q10 := (hS10.blk 4 rfl).1
  have p10 := (hS10.blk 5 rfl).1
  clear hS9 q9 p9
  go_wp2_with (first | (go_at_call 20; refine (lfirst4_any _ _ [_, _] _ (reps_newN cIntS [_, _] 2 rfl (by decide) _ _ (by simp) rfl) (by simp)).mono ?_; rw [firstE_z, firstE_head (by decide)]; rintro e w' ⟨rfl, rfl⟩) | (go_at_call 20; refine (lfirst4_any _ _ [_, _] _ (reps_newN cIntS [_, _] 2 rfl (by decide) _ _ (by simp) rfl) (by simp)).mono ?_; rw [firstE_head (by decide)]; rintro e w' ⟨rfl, rfl⟩))
  refine (llistBad_any aO none cO 0 0 13 _ rfl).mono ?_
  rintro e w11 ⟨rfl, b11⟩
  have hS11 := hS10.mono b11
  have q11 := (hS11.blk 4 rfl).1
  have p11 := (hS11.blk 5 rfl).1
  clear hS10 q10 p10
  have hS12 := hS11.al (.cells #[.int .i64 0, .int .i64 0] 3)
  have q12 := (hS12.blk 4 rfl).1
  have p12 := (hS12.blk 5 rfl).1
  clear hS11 q11 p11
  go_wp2_with (go_at_call 20; refine (lfirst4_any _ _ [_, _] _ (reps_newN cIntS [_, _] 2 rfl (by decide) _ _ (by simp) rfl) (by simp)).mono ?_; rw [firstE_z, firstE_z, firstE_nil]; rintro e w' ⟨rfl, rfl⟩)
  refine wp_regionK (C := (fun V => Below w.heap.size w V ∧ V.heap[w.heap.size + 1]? = some (.cells (mC m ad cap) 25))) [0, 1, 2, 3, 4, 5, 6, 7, 8, 9, 10, 11, 12, 13, 14, 15, 16, 17, 18, 19, 21, 22] [_, _, _, _, _, _, _, _, _, _, _, _, _, _, _, _, _, _, _, _, _, _] 7 (by simp only [List.map_cons, List.map_nil, List.getElem?_toArray]; rfl) rfl kR kR kR (⟨hS12.b.drew, q12⟩) ?_
  refine ⟨_, yieldsK_val wU (fun w' => by with_unfolding_all exact rfl), ?_⟩
  go_frame
  refine ⟨.bool false, yieldsK_val wU (fun w' => by first | (go_simp; done) | (go_simp; rfl)), ?_⟩
  go_frame
  refine ⟨_, yieldsK_val wU (fun w' => by with_unfolding_all exact rfl), ?_⟩
  go_frame
  refine ⟨_, .inr (.inl ⟨by with_unfolding_all rfl, rfl⟩), ?_⟩
  go_frame
  refine ⟨_, .inr (.inl ⟨by with_unfolding_all rfl, rfl⟩), ?_⟩
  go_frame
  refine ⟨_, .inr (.inl ⟨by with_unfolding_all rfl, rfl⟩), ?_⟩
  go_frame
  refine ⟨_, .inr (.inl ⟨by with_unfolding_all rfl, rfl⟩), ?_⟩
  go_frame
  refine ⟨_, .inr (.inl ⟨by with_unfolding_all rfl, rfl⟩), ?_⟩
  go_frame
  refine ⟨_, .inr (.inl ⟨by with_unfolding_all rfl, rfl⟩), ?_⟩
  go_frame
  refine ⟨_, .inr (.inl ⟨by with_unfolding_all rfl, rfl⟩), ?_⟩
  go_frame
  refine ⟨_, .inr (.inl ⟨by with_unfolding_all rfl, rfl⟩), ?_⟩
  go_frame
  refine ⟨.bool false, yieldsK_val wU (fun w' => by first | (go_simp; done) | (go_simp; rfl)), ?_⟩
  go_frame
  refine ⟨_, yieldsK_val wU (fun w' => by with_unfolding_all exact rfl), ?_⟩
  go_frame
  refine ⟨_, yieldsK_val wU (fun w' => by with_unfolding_all exact rfl), ?_⟩
  go_frame
  refine ⟨.bool true, yieldsK_val wU (fun w' => by first | (go_simp; done) | (go_simp; rfl)), ?_⟩
  go_frame
  refine ⟨_, yieldsK_val wU (fun w' => by with_unfolding_all exact rfl), ?_⟩
  go_frame
  refine ⟨_, yieldsK_val wU (fun w' => by with_unfolding_all exact rfl), ?_⟩
  go_frame
  refine ⟨.bool false, yieldsK_val wU (fun w' => by first | (go_simp; done) | (go_simp; rfl)), ?_⟩
  go_frame
  refine ⟨_, yieldsK_val wU (fun w' => by with_unfolding_all exact rfl), ?_⟩
  go_frame
  refine ⟨_, yieldsK_val wU (fun w' => by with_unfolding_all exact rfl), ?_⟩
  go_frame
  refine ⟨_, yieldsK_blkC (n := 4) A_rmach kR (fun V h => h.2) rfl wU wU, ?_⟩
  go_frame
  refine ⟨_, yieldsK_val wU (fun w' => by with_unfolding_all exact rfl), ?_⟩
  go_frame
  unfold wpPureK
  have hVd : ∀ V : World, ({ V with drawn := V.drawn + 1 } : World) = V.drew := fun _ => rfl
  simp only [hVd]
  have hS13 := hS12.drew
  have q13 := (hS13.blk 4 rfl).1
  have p13 := (hS13.blk 5 rfl).1
  clear hS12 q12 p12
  refine wpAnyC_on [20] kR (by simp) ?_
  simp only [List.forall_mem_cons, List.not_mem_nil, false_implies, implies_true, and_true]
  refine wpOp_call (f := 24) (args := #[.slice aX XM.length cX]) (by rw [List.getElem?_toArray]; rfl) wU (by first | (go_simp; done) | (simp [execOp, Act.eval, Result.andThen]; done) | (simp [execOp, Act.eval, Result.andThen]; rfl)) ?_
  refine (HLX.out _ _ _ (hS13.rd 2 rfl)).mono ?_
  rintro e w14 ⟨v14, rfl, ho14, b14⟩
  have hS14 := hS13.call (SL.ofOwn ho14 b14)
  simp only [List.cons_append, List.nil_append] at hS14
  have q14 := (hS14.blk 5 rfl).1
  have p14 := (hS14.blk 6 rfl).1
  clear hS13 q13 p13
  clear ho14 b14
  obtain ⟨aY, cY, rfl, _⟩ := hS14.slice 0 rfl
  refine ⟨_, rfl, ⟨hS14.b, q14⟩, ?_⟩
  go_frame
  refine wpAnyC_on [23] kR (by simp) ?_
  simp only [List.forall_mem_cons, List.not_mem_nil, false_implies, implies_true, and_true]
  refine wpOp_call (f := 25) (args := #[mV m ad cap, .slice al l.length cl]) (by rw [List.getElem?_toArray]; rfl) wU (by first | (go_simp; done) | (simp [execOp, Act.eval, Result.andThen]; done) | (simp [execOp, Act.eval, Result.andThen]; rfl)) ?_
  refine (HRX.out _ (hL.below hS14.b)).mono ?_
  rintro e w15 ⟨v15, rfl, ho15, b15⟩
  have hS15 := hS14.call (SL.ofOwn ho15 b15)
  simp only [List.cons_append, List.nil_append] at hS15
  have q15 := (hS15.blk 6 rfl).1
  have p15 := (hS15.blk 7 rfl).1
  clear hS14 q14 p14
  clear ho15 b15
  obtain ⟨aZ, cZ, rfl, _⟩ := hS15.slice 0 rfl
  refine ⟨_, rfl, ⟨hS15.b, q15⟩, ?_⟩
  go_frame
  refine wpAnyC_on [24] kR (by simp) ?_
  simp only [List.forall_mem_cons, List.not_mem_nil, false_implies, implies_true, and_true]
  refine wpOp_call (f := 23) (args := #[.slice aY XM.length cY, .slice aZ XM.length cZ]) (by rw [List.getElem?_toArray]; rfl) wU (by first | (go_simp; done) | (simp [execOp, Act.eval, Result.andThen]; done) | (simp [execOp, Act.eval, Result.andThen]; rfl)) ?_
  refine (SameCrossings_same aY aZ cY cZ _ XM _ (hS15.rd 1 rfl) (hS15.rd 0 rfl) rfl (by omega)).mono ?_
  rintro e w16 ⟨rfl, b16⟩
  have hS16 := hS15.mono b16
  have q16 := (hS16.blk 6 rfl).1
  have p16 := (hS16.blk 7 rfl).1
  clear hS15 q15 p15
  refine ⟨_, rfl, ⟨hS16.b, q16⟩, ?_⟩
  go_frame
  refine wpAnyC_rest [25, 26, 27, 28] [_, _, _, _] rfl (by simp only [List.map_cons, List.map_nil, List.getElem?_toArray]; rfl) kR kR kR (⟨hS16.b, q16⟩) ?_
  repeat (refine ⟨_, .inl ⟨by with_unfolding_all rfl, fun w' _ => by with_unfolding_all exact rfl⟩, ?_⟩; go_frame)
  unfold wpPure
  refine of_wpList_nil (P := Tryz.prog) (ops := #[]) ?_
  go_wp2_with fail
  refine (H5.out _).mono ?_
  rintro e w' ⟨rfl, rfl⟩
  go_wp2_with fail
  refine (H3.out _).mono ?_
  rintro e w' ⟨rfl, rfl⟩
  go_wp2_with fail
  refine (H33.out _).mono ?_
  rintro e w' ⟨rfl, rfl⟩
  have hS17 := hS16.al (.cells #[.int .i64 13, .int .i64 x5, .int .i64 x3] 3)
  have q17 := (hS17.blk 6 rfl).1
  have p17 := (hS17.blk 7 rfl).1
  clear hS16 q16 p16
  go_wp2_with (go_at_call 20; refine (lfirst4_any _ _ [_, _, _] _ (reps_newN cIntS [_, _, _] 3 rfl (by decide) _ _ (by simp) rfl) (by simp)).mono ?_; rw [firstE_head (by decide)]; rintro e w' ⟨rfl, rfl⟩)
  refine (llistBad_any aW none cW 0 0 13 _ rfl).mono ?_
  rintro e w18 ⟨rfl, b18⟩
  have hS18 := hS17.mono b18
  have q18 := (hS18.blk 6 rfl).1
  have p18 := (hS18.blk 7 rfl).1
  clear hS17 q17 p17
  go_wp2_with fail
  refine (llistBad_any aT none cT 0 0 13 _ rfl).mono ?_
  rintro e w19 ⟨rfl, b19⟩
  have hS19 := hS18.mono b19
  have q19 := (hS19.blk 6 rfl).1
  have p19 := (hS19.blk 7 rfl).1
  clear hS18 q18 p18
  go_wp2_with fail
  go_ret
  exact ⟨rfl, hS19.b⟩
theorem mw_ring1 (m : MacV) (ad al : Option Addr) (cap cl : Nat) (l : List Int) (n : Int) (w : World) (hR : Ints w ad cap m.sw) (hL : Ints w al cl l) (hI : InI m.gears) (hw : LibW w) (hsb : (decide (m.sw.length ≤ 19) && decide (l.length ≤ 67)) = true) (hn60 : decide (60 < n) = false ∨ (decide (60 < n) = true ∧ decide (n ≤ 1000) = false)) (he : loadE m l = 0) (h20 : l.length ≤ 20) (hr : m.ring = true) (hnb : meetsM m l 0 = true) :
  Calls Tryz.prog 3 #[mV m ad cap, .slice al l.length cl, .int .i64 n] w fun r w' => r = .returned (.bool true) ∧ Below w.heap.size w w' := by
 have hS0 := ((SL.nil w).box (.cells (mC m ad cap) 24)).box (.cells (mC m ad cap) 25)
 simp only [World.size_alloc] at hS0
 have HA := hid awake4_any
 have hlc := hL.le
 have CSh := fun w => rShort_any m ad cap al cl l.length w
 rw [hsb] at CSh
 have HSh := hid CSh
 clear CSh hsb
 have CK := fun w h h2 => lcheck_any m ad cap al cl l w h h2
 have KL : ChkL m ad cap al cl l := CheckLoad_any m ad cap al cl l fun w h => CheckMachine_any m ad cap w h hI
 have CO := fun w h h2 => mOrder_any m ad cap al cl l w h h2 KL
 have CX := fun w h h2 => mCrossings_any m ad cap al cl l w h h2 KL
 have CW := fun w h h2 => mWord_any m ad cap al cl l n w h h2 KL
 have CT := fun w h h2 => mStrands_any m ad cap al cl l n w h h2 KL
 have CG : ∀ w, Calls Tryz.prog 18 #[.bool m.ring, .int .i64 13] w fun r w' => r = .returned (.int .i64 (if m.ring then 13 else 0)) ∧ w = w' := fun w => lwhen_any m.ring 13 w
 have C5 : ∀ w, Calls Tryz.prog 18 #[.bool (decide (12 < (l.length : Int))), .int .i64 5] w fun r w' => r = .returned (.int .i64 (if decide (12 < (l.length : Int)) then 5 else 0)) ∧ w = w' := fun w => lwhen_any _ 5 w
 have C3 := fun w => rOutside_any n 0 1000 w
 have C33 : ∀ w, Calls Tryz.prog 18 #[.bool (decide (n < 0) || decide (1000 < n)), .int .i64 3] w fun r w' => r = .returned (.int .i64 (if (decide (n < 0) || decide (1000 < n)) then 3 else 0)) ∧ w = w' := fun w => lwhen_any _ 3 w
 clear KL
 have hlok := loadE_zero he
 have hlo := hlok.ok.lo
 have hhi := hlok.ok.hi
 have hl20 : decide (20 < (l.length : Int)) = false := decide_eq_false (by omega)
 have hn64 : l.length ≤ 64 := by omega
 rw [he] at CK
 have CN := fun w h => rNow_any m ad cap al cl l w h hlo hhi hlok.rng hn64 hlok.nodup
 have CRO := fun w h => rOrder_any m ad cap al cl l w h hlo hhi hlok.rng hn64
 have CRX := fun w h => rCrossings_any m ad cap al cl l w h hlo hhi hlok.rng hn64
 have CLX := fun a c w h => lcrossings_any a c (crossM m l) w h (by have := crossM_len m l; omega)
 have hxl : (crossM m l).length ≤ 48 := by have := crossM_len m l; omega
 have hol : (orderM m l).length ≤ 64 := by have := orderM_len m l; omega
 have hnw : decide (0 ≤ nowM m l) = true := by rw [now_meets hlok]; exact hnb
 have e1 : orderE m l = 13 := by unfold orderE; rw [if_neg (by simp [he]), hr]; rfl
 have e2 : crossE m l = 16 := by unfold crossE; rw [if_neg (by simp [he]), hnb]; rfl
 rw [e1, if_neg (by decide)] at CO
 rw [e2, if_neg (by decide)] at CX
 replace CG : ∀ w, Calls Tryz.prog 18 #[.bool m.ring, .int .i64 13] w fun r w' => r = .returned (.int .i64 13) ∧ w = w' := fun w => by have h := CG w; simp only [hr, if_true] at h ⊢; exact h
 have e3 : weaveE m l n = 13 := by unfold weaveE; rw [if_neg (by simp [he]), hr]; try rfl
 have e4 : wrdE m l n = 13 := by unfold wrdE; rw [e3, if_pos (by decide)]
 rw [e4, if_neg (by decide)] at CW
 rw [e3, if_neg (by decide)] at CT
 obtain ⟨x5, hx5⟩ : ∃ x5 : Int, x5 = if decide (12 < (l.length : Int)) then 5 else 0 := ⟨_, rfl⟩
 rw [← hx5] at C5
 clear hx5
 obtain ⟨x3, hx3⟩ : ∃ x3 : Int, x3 = if (decide (n < 0) || decide (1000 < n)) then 3 else 0 := ⟨_, rfl⟩
 rw [← hx3] at C33
 clear hx3
 obtain ⟨OM, hOM⟩ : ∃ OM, OM = orderM m l := ⟨_, rfl⟩
 obtain ⟨XM, hXM⟩ : ∃ XM, XM = crossM m l := ⟨_, rfl⟩
 obtain ⟨NW, hNW⟩ : ∃ NW, NW = nowM m l := ⟨_, rfl⟩
 rw [← hNW] at CN hnw
 rw [← hOM] at CRO hol
 rw [← hXM] at CRX CLX hxl
 have HN := hid CN; have HRO := hid CRO; have HRX := hid CRX; have HLX := hid CLX
 clear CN CRO CRX CLX hOM hXM hNW e1 e2 e3 e4 hlok he hr hnb hlo hhi
 have HCK := hid CK; have HO := hid CO; have HX := hid CX; have HW := hid CW; have HT := hid CT; have HRG := hid CG; have H5 := hid C5; have H3 := hid C3; have H33 := hid C33
 clear CK CO CX CW CT CG C5 C3 C33 hI
 rcases hn60 with d60 | ⟨d60, d61⟩
 all_goals
  go_enter Tryz.func3, Tryz.ntmps3
  go_wp2_with fail
  refine (HA.out _ (hw.below hS0.b)).mono ?_
  rintro e w1 ⟨rfl, b1⟩
  have hS1 := hS0.mono b1
  have q1 := (hS1.blk 0 rfl).1
  have p1 := (hS1.blk 1 rfl).1
  clear hS0
  go_wp2_with (with_reducible refine wpList_ldS (n := 4) (us := mC m ad cap) A_rmach kR wU wU (by assumption) wU wU ?_)
  refine (HSh.out _).mono ?_
  rintro e w2 ⟨rfl, b2⟩
  have hS2 := hS1.mono b2
  have q2 := (hS2.blk 0 rfl).1
  have p2 := (hS2.blk 1 rfl).1
  clear hS1 q1 p1
  go_wp2_with (with_reducible refine wpList_ldS (n := 4) (us := mC m ad cap) A_rmach kR wU wU (by assumption) wU wU ?_)
  refine (HCK.out _ (hR.below hS2.b) (hL.below hS2.b)).mono ?_
  rintro e w3 ⟨rfl, b3⟩
  have hS3 := hS2.mono b3
  have q3 := (hS3.blk 0 rfl).1
  have p3 := (hS3.blk 1 rfl).1
  clear hS2 q2 p2
  go_wp2_with (with_reducible refine wpList_ldS (n := 4) (us := mC m ad cap) A_mach kR wU wU (by assumption) wU wU ?_)
  refine (HO.out _ (hR.below hS3.b) (hL.below hS3.b)).mono ?_
  rintro e w4 ⟨v4, rfl, ho4, b4⟩
  have hS4 := hS3.call (SL.ofOwn ho4 b4)
  simp only [List.cons_append, List.nil_append] at hS4
  have q4 := (hS4.blk 1 rfl).1
  have p4 := (hS4.blk 2 rfl).1
  clear hS3 q3 p3
  clear ho4 b4
  obtain ⟨aO, cO, rfl, _⟩ := hS4.slice 0 rfl
  go_wp2_with (with_reducible refine wpList_ldS (n := 4) (us := mC m ad cap) A_mach kR wU wU (by assumption) wU wU ?_)
  refine (HX.out _ (hR.below hS4.b) (hL.below hS4.b)).mono ?_
  rintro e w5 ⟨v5, rfl, ho5, b5⟩
  have hS5 := hS4.call (SL.ofOwn ho5 b5)
  simp only [List.cons_append, List.nil_append] at hS5
  have q5 := (hS5.blk 2 rfl).1
  have p5 := (hS5.blk 3 rfl).1
  clear hS4 q4 p4
  clear ho5 b5
  obtain ⟨aX, cX, rfl, _⟩ := hS5.slice 0 rfl
  go_wp2_with (with_reducible refine wpList_ldS (n := 4) (us := mC m ad cap) A_mach kR wU wU (by assumption) wU wU ?_)
  refine (HW.out _ (hR.below hS5.b) (hL.below hS5.b)).mono ?_
  rintro e w6 ⟨v6, rfl, ho6, b6⟩
  have hS6 := hS5.call (SL.ofOwn ho6 b6)
  simp only [List.cons_append, List.nil_append] at hS6
  have q6 := (hS6.blk 3 rfl).1
  have p6 := (hS6.blk 4 rfl).1
  clear hS5 q5 p5
  clear ho6 b6
  obtain ⟨aW, cW, rfl, _⟩ := hS6.slice 0 rfl
  go_wp2_with (with_reducible refine wpList_ldS (n := 4) (us := mC m ad cap) A_mach kR wU wU (by assumption) wU wU ?_)
  refine (HT.out _ (hR.below hS6.b) (hL.below hS6.b)).mono ?_
  rintro e w7 ⟨v7, rfl, ho7, b7⟩
  have hS7 := hS6.call (SL.ofOwn ho7 b7)
  simp only [List.cons_append, List.nil_append] at hS7
  have q7 := (hS7.blk 4 rfl).1
  have p7 := (hS7.blk 5 rfl).1
  clear hS6 q6 p6
  clear ho7 b7
  obtain ⟨aT, cT, rfl, _⟩ := hS7.slice 0 rfl
  go_wp2_with (with_reducible refine wpList_ldS (n := 4) (us := mC m ad cap) A_rmach kR wU wU (by assumption) wU wU ?_)
  refine (HN.out _ (hL.below hS7.b)).mono ?_
  rintro e w8 ⟨rfl, b8⟩
  have hS8 := hS7.mono b8
  have q8 := (hS8.blk 4 rfl).1
  have p8 := (hS8.blk 5 rfl).1
  clear hS7 q7 p7
  go_wp2_with fail
  refine (lwhen_any true 16 w8).mono ?_
  rintro e w' ⟨rfl, rfl⟩
  go_wp2_with (with_reducible refine wpList_ldB F_boolM wU wU p8 wU ?_)
  refine (HRG.out _).mono ?_
  rintro e w' ⟨rfl, rfl⟩
  have hS9 := hS8.al (.cells #[.int .i64 0, .int .i64 13] 3)
  have q9 := (hS9.blk 4 rfl).1
  have p9 := (hS9.blk 5 rfl).1
  clear hS8 q8 p8
  have hS10 := hS9.al (.cells #[.int .i64 13, .int .i64 16] 3)
  have q10 := (hS10.blk 4 rfl).1
  have p10 := (hS10.blk 5 rfl).1
  clear hS9 q9 p9
  go_wp2_with (first | (go_at_call 20; refine (lfirst4_any _ _ [_, _] _ (reps_newN cIntS [_, _] 2 rfl (by decide) _ _ (by simp) rfl) (by simp)).mono ?_; rw [firstE_z, firstE_head (by decide)]; rintro e w' ⟨rfl, rfl⟩) | (go_at_call 20; refine (lfirst4_any _ _ [_, _] _ (reps_newN cIntS [_, _] 2 rfl (by decide) _ _ (by simp) rfl) (by simp)).mono ?_; rw [firstE_head (by decide)]; rintro e w' ⟨rfl, rfl⟩))
  refine (llistBad_any aO none cO 0 0 13 _ rfl).mono ?_
  rintro e w11 ⟨rfl, b11⟩
  have hS11 := hS10.mono b11
  have q11 := (hS11.blk 4 rfl).1
  have p11 := (hS11.blk 5 rfl).1
  clear hS10 q10 p10
  have hS12 := hS11.al (.cells #[.int .i64 0, .int .i64 16] 3)
  have q12 := (hS12.blk 4 rfl).1
  have p12 := (hS12.blk 5 rfl).1
  clear hS11 q11 p11
  go_wp2_with (go_at_call 20; refine (lfirst4_any _ _ [_, _] _ (reps_newN cIntS [_, _] 2 rfl (by decide) _ _ (by simp) rfl) (by simp)).mono ?_; rw [firstE_z, firstE_head (by decide)]; rintro e w' ⟨rfl, rfl⟩)
  refine wp_region_q kR kR ?_
  repeat (first | ((with_reducible refine wpQ_skip wU ?_); (try simp only [Act.put, pA, pB, pC])) |  ((with_reducible refine wpB_load (by first | exact F_int | exact F_u64s) wU wU (by assumption) wU ?_); (try simp only [Act.put, pA, pB, pC])) | ((refine wpQ_oneG ?_ wU (fun w' => ?_) ?_); rotate_left; (go_simp; rfl); (try simp only [Act.put, pA, pB, pC])))
  refine wpQuiet_nil ?_
  intro w13 b13
  have hS13 := hS12.mono b13
  have q13 := (hS13.blk 4 rfl).1
  have p13 := (hS13.blk 5 rfl).1
  clear hS12 q12 p12
  go_wp2_with fail
  refine (H5.out _).mono ?_
  rintro e w' ⟨rfl, rfl⟩
  go_wp2_with fail
  refine (H3.out _).mono ?_
  rintro e w' ⟨rfl, rfl⟩
  go_wp2_with fail
  refine (H33.out _).mono ?_
  rintro e w' ⟨rfl, rfl⟩
  have hS14 := hS13.al (.cells #[.int .i64 13, .int .i64 x5, .int .i64 x3] 3)
  have q14 := (hS14.blk 4 rfl).1
  have p14 := (hS14.blk 5 rfl).1
  clear hS13 q13 p13
  go_wp2_with (go_at_call 20; refine (lfirst4_any _ _ [_, _, _] _ (reps_newN cIntS [_, _, _] 3 rfl (by decide) _ _ (by simp) rfl) (by simp)).mono ?_; rw [firstE_head (by decide)]; rintro e w' ⟨rfl, rfl⟩)
  refine (llistBad_any aW none cW 0 0 13 _ rfl).mono ?_
  rintro e w15 ⟨rfl, b15⟩
  have hS15 := hS14.mono b15
  have q15 := (hS15.blk 4 rfl).1
  have p15 := (hS15.blk 5 rfl).1
  clear hS14 q14 p14
  go_wp2_with fail
  refine (llistBad_any aT none cT 0 0 13 _ rfl).mono ?_
  rintro e w16 ⟨rfl, b16⟩
  have hS16 := hS15.mono b16
  have q16 := (hS16.blk 4 rfl).1
  have p16 := (hS16.blk 5 rfl).1
  clear hS15 q15 p15
  go_wp2_with fail
  go_ret
  exact ⟨rfl, hS16.b⟩
end Go.Proofs.YtoebgfgihfjnnaaGreatDoor
