/- Contracts and plain facts that the claim uses (QrC QrD QrE QrG). Conditions: as each one states. -/
import Derived.RangeFuncNested
import Derived.RangeFuncBound
import Derived.RangeFuncCalls
import Derived.RangeFuncLeaves
import Derived.RangeFuncFrom
import Derived.Shelf.Abstract
import Derived.Shelf.RegionOpen
import Derived.WalkKit
import Derived.OwnWalkIn
import Derived.TacticsInMore
import Derived.LoopNIn
import Derived.LoopIn
import Derived.Test.YtoebgfgihfjnnaaGreatDoorProg
import Derived.WalkSpells
import Derived.Maps.AppendAt
import Derived.Deep.Quiet
import Derived.Maps.Own
import Derived.Maps.OwnSet
import Derived.Maps.Views
import Derived.WalkLawsBesides
import Derived.Laws.EntriesVeiled
import Derived.Deep.QuietTactic
import Derived.BigQuiet
import Derived.Shelf.Strings.Trim
import Derived.Shelf.Strings.SlTrimAscii
import Derived.Shelf.Strings.Repeat
import Derived.Shelf.Strings.OnBuilder
import Derived.Shelf.Strconv.Itoa1
import Derived.Shelf.Strconv.Itoa3
import Derived.Shelf.LaysM
import Derived.Ground.Names2Prog
import Derived.Lib.OthersKept
import Derived.Deep.RegionHeld3
import Derived.Deep.AppendLies
import Derived.Deep.RegionHeldLaw
import Derived.Deep.RegionLaw
import Derived.StillTail
import Derived.Laws.Tables
import Derived.IntWalk
import Derived.Laws.CopyOwn
import Derived.BigRegion
import Derived.ChangeAlike
import Derived.Shelf.Bits.Mul64
import Derived.Lib.ItoaLen
import Derived.Lib.ItoaMem
import Derived.Sort.LoopGhostIn
import Derived.Maps.RangeWalk
import Derived.Deep.LoopGhost
import Derived.Test.YtoebgfgihfjnnaaGreatDoorXz01
import Derived.Test.YtoebgfgihfjnnaaGreatDoorXz02
import Derived.Test.YtoebgfgihfjnnaaGreatDoorXz03
import Derived.Test.YtoebgfgihfjnnaaGreatDoorXz04
import Derived.Test.YtoebgfgihfjnnaaGreatDoorXz05
import Derived.Test.YtoebgfgihfjnnaaGreatDoorXz06
import Derived.Test.YtoebgfgihfjnnaaGreatDoorXz07
import Derived.Test.YtoebgfgihfjnnaaGreatDoorXz08
import Derived.Test.YtoebgfgihfjnnaaGreatDoorXz09
import Derived.Test.YtoebgfgihfjnnaaGreatDoorXz10
import Derived.Test.YtoebgfgihfjnnaaGreatDoorXz11
import Derived.Test.YtoebgfgihfjnnaaGreatDoorXz12
import Derived.Test.YtoebgfgihfjnnaaGreatDoorY4501
set_option linter.all false

namespace Go.Proofs.YtoebgfgihfjnnaaGreatDoor
open Go.RowKit
set_option maxHeartbeats 4000000
set_option maxRecDepth 100000
section
variable {P : Program} {ops : Array Oper} {rest : List Oper} {a : Act} {Qa : Act → Prop} {α : Type} {c : α → Value} {sz bytes : Nat} {t e : TypeId} {z : Value} {ad : Option Addr} {cap : Nat} {l : List α} {k : Int} {w : World}
 {d1 d2 : Tmp} {ty1 ty2 : TypeId} {p1 p2 : String} {s x : Operand} {af1 af2 : Array Edge} {g1 g2 : Option (Nat × Bool)}
theorem wpB_idxW (d : α) (E : ETy P t e z sz bytes) (hF : Flat P e) (hc : ∀ x, (c x).cells = #[c x])
   {n : Nat} (hs : a.eval s = .slice ad n cap) (hn : l.length = n) (hx : a.eval x = .int .i64 k) (hR : Reps c sz w ad cap l) (h0 : 0 ≤ k) (hlt : k < l.length) (hd : ∀ p, (a.put (some d1) p).eval (.tmp d1) = p)
   (hw1 : Region.wanted ⟨some d1, .indexAddr t s x, ty1, p1, af1, g1⟩ (yielded ops a.tmps) = true) (hw2 : ∀ p, Region.wanted ⟨some d2, .load e (.tmp d1), ty2, p2, af2, g2⟩ (yielded ops (a.put (some d1) p).tmps) = true)
   (hK : ∀ p, wpQuiet P ops (Below w.heap.size w) Qa rest ((a.put (some d1) p).put (some d2) (c (atD d l k)))) :
   wpQuiet P ops (Below w.heap.size w) Qa (⟨some d1, .indexAddr t s x, ty1, p1, af1, g1⟩ :: ⟨some d2, .load e (.tmp d1), ty2, p2, af2, g2⟩ :: rest) a := by
 subst hn
 have hkl : k.toNat < l.length := by omega
 obtain ⟨b, o, rfl, hcs⟩ := hR.cells E.pos d k.toNat hkl
 have hcell := hcs 0 (c (atD d l k)) (by rw [show l.getD k.toNat d = atD d l k from rfl, hc]; rfl)
 refine wpQ_inG (.pointer (some ((⟨b, o, none⟩ : Addr).add (k.toNat * sz)))) hw1 (fun w' hw' => ?_) (wpQ_inG (c (atD d l k)) (hw2 _) (fun w' hw' => ?_) (hK _))
 ·have h1 := run_indexAt_sl (P := P) (a := ⟨b, o, none⟩) (cap := cap) w' E h0 hlt
  simp [execOp, hs, hx, h1, Result.andThen]
 ·have h2 := run_loadAt_cell (P := P) w' (a := (⟨b, o, none⟩ : Addr).add (k.toNat * sz)) (v := c (atD d l k)) hF (by
   rw [Addr.add_z]
   exact (hw'.cell (World.block_lt_of_cell? w _ hcell)).trans hcell)
  simp [execOp, hd, h2, Result.andThen]
end
theorem rCheckMachine_any (m : MacV) (ad : Option Addr) (cap : Nat) (w : World) (hR : Ints w ad cap m.sw) :
  Calls Tryz.prog 32 #[mV m ad cap] w fun r w' => r = .returned (.int .i64 (macE m)) ∧ Below w.heap.size w w' := by
 have hcap := hR.le
 have hmx := hR.max
 have hlen : m.sw.length ≤ 9223372036854775807 := by have := hR.max; unfold maxLen at this; omega
 have CS := fun (p : Int) w a b => rShared_any m ad cap p w a b
 have hE : macE m = if m.gears < 1 ∨ 16 < m.gears then 3 else if m.ring = true ∧ m.gears % 2 = 1 then 17 else if m.turn ≠ 1 ∧ m.turn ≠ -1 then 3 else if m.gears < m.sw.length then 5 else swGo m none m.sw := rfl
 have SW := fun (k : Nat) (h : k < m.sw.length) => swGo_prev m k h
 obtain ⟨E, hEE⟩ : ∃ E, E = macE m := ⟨_, rfl⟩
 obtain ⟨sg, hsg⟩ : ∃ sg : Nat → Int, ∀ k, sg k = swGo m (prevO m.sw k) (m.sw.drop k) := ⟨_, fun _ => rfl⟩
 obtain ⟨sh, hsh⟩ : ∃ sh : Int → Bool, ∀ p, sh p = sharedM m p := ⟨_, fun _ => rfl⟩
 have hs0 : swGo m none m.sw = sg 0 := (hsg 0).symm
 have hsE : sg m.sw.length = 0 := by rw [hsg, List.drop_length]; rfl
 rw [← hEE] at hE ⊢
 rw [hs0] at hE
 simp only [← hsg, ← hsh] at SW CS
 clear hs0 hsg hsh hEE
 obtain ⟨R, G, T, S⟩ := m
 dsimp only at *
 have HCS := hid CS; have HSW := hid SW; have HSE := hid hsE
 clear CS SW hsE
 have CO := fun w => rOutside_any G 1 16 w
 by_cases hA : G < 1 ∨ 16 < G
 ·rw [if_pos hA] at hE
  have hb : (decide (G < 1) || decide (16 < G)) = true := by simpa using hA
  rw [hb] at CO
  have HO := hid CO
  clear CO hb hA
  subst hE
  go_enter Tryz.func32, Tryz.ntmps32
  go_wp2_with fail
  refine (HO.out _).mono ?_
  rintro e w1 ⟨rfl, rfl⟩
  go_wp2_with fail
  go_ret
  exact ⟨rfl, bal (Below.refl _ _) _⟩
 ·rw [if_neg hA] at hE
  have hb : (decide (G < 1) || decide (16 < G)) = false := by simp; omega
  rw [hb] at CO
  have HO := hid CO
  have g1 : 1 ≤ G := by omega
  have g2 : G ≤ 16 := by omega
  have HCS' := hid (fun p w => HCS.out p w g1 g2)
  clear CO hb HCS hA
  obtain ⟨q, hq⟩ : ∃ q, q = G % 2 := ⟨_, rfl⟩
  have htm : G.tmod 2 = q := by rw [hq, Int.tmod_eq_emod_of_nonneg (by omega)]
  rw [← hq] at hE
  have hq01 : 0 ≤ q ∧ q < 2 := by omega
  clear hq
  have hS := (SL.nil w).box (.cells #[.bool R, .int .i64 G, .int .i64 T, .slice ad S.length cap] 25)
  by_cases h17 : R = true ∧ q = 1
  ·rw [if_pos h17] at hE
   obtain ⟨rfl, rfl⟩ := h17
   subst hE
   go_enter Tryz.func32, Tryz.ntmps32
   go_wp2_with fail
   refine (HO.out _).mono ?_
   rintro e w1 ⟨rfl, rfl⟩
   go_wp2_with fail
   go_ret
   exact ⟨rfl, bal (Below.refl _ _) _⟩
  ·rw [if_neg h17] at hE
   have hRq : (R = true ∧ (q == 1) = false) ∨ R = false := by
    cases R
    ·exact .inr rfl
    ·exact .inl ⟨rfl, by simpa using h17⟩
   clear h17
   by_cases hT : T ≠ 1 ∧ T ≠ -1
   ·rw [if_pos hT] at hE
    have t1 : (T != 1) = true := by simpa using hT.1
    have t2 : (T != -1) = true := by simpa using hT.2
    clear hT
    subst hE
    rcases hRq with ⟨rfl, hq1⟩ | rfl
    all_goals
     go_enter Tryz.func32, Tryz.ntmps32
     go_wp2_with fail
     refine (HO.out _).mono ?_
     rintro e w1 ⟨rfl, rfl⟩
     go_wp2_with fail
     go_ret
     exact ⟨rfl, bal (Below.refl _ _) _⟩
   ·rw [if_neg hT] at hE
    have hT2 : T = 1 ∨ T = -1 := by omega
    clear hT
    by_cases hL : G < S.length
    ·rw [if_pos hL] at hE
     subst hE
     rcases hRq with ⟨rfl, hq1⟩ | rfl <;> rcases hT2 with rfl | rfl
     all_goals
      go_enter Tryz.func32, Tryz.ntmps32
      go_wp2_with fail
      refine (HO.out _).mono ?_
      rintro e w1 ⟨rfl, rfl⟩
      go_wp2_with fail
      go_ret
      exact ⟨rfl, bal (Below.refl _ _) _⟩
    ·rw [if_neg hL] at hE
     have HE := hid hE
     clear hE
     have hS16 : S.length ≤ 16 := by omega
     rcases hRq with ⟨rfl, hq1⟩ | rfl <;> rcases hT2 with rfl | rfl
     ·go_enter Tryz.func32, Tryz.ntmps32
      go_wp2_with fail
      refine (HO.out _).mono ?_
      rintro e w1 ⟨rfl, rfl⟩
      go_wp2_with fail
      go_loopw [3] (fun i wr => ∃ k : Nat, k ≤ S.length ∧ i = .int .i64 k ∧ sg k = sg 0 ∧ SL w.heap.size w wr [pBlk w.heap.size (.cells #[.bool true, .int .i64 G, .int .i64 1, .slice ad S.length cap] 25)]) (fun i _ => S.length - (intOf i).toNat)
      case atStart => exact ⟨0, by omega, rfl, rfl, hS⟩
      case round =>
       clear hS
       obtain ⟨k, hk, rfl, hgo, hSr⟩ := hrel
       have q1 := (hSr.blk 0 rfl).1
       have hRr := hR.below hSr.b
       by_cases hlt : k < S.length
       ·have hst := HSW.out k hlt
        rw [hgo] at hst
        obtain ⟨x, hx⟩ : ∃ x, x = atD 0 S k := ⟨_, rfl⟩
        rw [← hx] at hst
        obtain ⟨b, hb⟩ : ∃ b, b = sh x := ⟨_, rfl⟩
        have CS := fun w => HCS'.out x w
        rw [← hb] at hst CS
        have HX := hid hx; have HC := hid CS
        clear hx hb CS hgo
        cases b
        ·rw [if_pos rfl] at hst
         have HST := hid hst
         clear hst
         go_wp2_with (with_reducible refine wpList_ldB F_sliceM wU wU q1 wU ?_)
         refine wp_region_q kR kR ?_
         repeat (first | ((with_reducible refine wpB_loadS (n := 4) (us := #[.bool true, .int .i64 G, .int .i64 1, .slice ad S.length cap]) A_rmach kR wU wU (by assumption) wU wU ?_); (try simp only [Act.put, pA, pB, pC])) | ((with_reducible refine wpB_load F_sliceM wU wU (by assumption) wU ?_); (try simp only [Act.put, pA, pB, pC])) | (((with_reducible refine wpB_idx2 0 E_ints F_int cInt1 wU (rfl) wU (hRr) oD oD (fun _ => wU) (fun _ => ?_)); (try simp only [Act.put, pA, pB, pC]); (try simp only [cInt])); rw [← HX.out]) | ((refine wpB_call (.bool false) wU (fun w' => ?_) (fun w' hw' => HC.out w') ?_); (focus (go_simp; done)); (try simp only [Act.put, pA, pB, pC])) |  ((with_reducible refine wpB_load (by first | exact F_int | exact F_u64s) wU wU (by assumption) wU ?_); (try simp only [Act.put, pA, pB, pC])) | ((refine wpQ_oneG ?_ wU (fun w' => ?_) ?_); rotate_left; (go_simp; rfl); (try simp only [Act.put, pA, pB, pC])))
         refine wpQuiet_nil ?_
         intro w4 hb4
         go_wp2_with fail
         go_ret
         exact ⟨by rw [HE.out, HST.out]; rfl, bnext hSr.b hb4⟩
        ·rw [if_neg (by decide)] at hst
         by_cases hk0 : k = 0
         ·have hst2 : sg (k + 1) = sg 0 := by rw [hst, if_neg (by omega)]
          have hd : decide (0 < k) = false := by simp; omega
          have HST := hid hst2
          clear hst hst2 hk0
          go_wp2_with (with_reducible refine wpList_ldB F_sliceM wU wU q1 wU ?_)
          refine wp_region_q kR kR ?_
          repeat (first | ((with_reducible refine wpB_loadS (n := 4) (us := #[.bool true, .int .i64 G, .int .i64 1, .slice ad S.length cap]) A_rmach kR wU wU (by assumption) wU wU ?_); (try simp only [Act.put, pA, pB, pC])) | ((with_reducible refine wpB_load F_sliceM wU wU (by assumption) wU ?_); (try simp only [Act.put, pA, pB, pC])) | (((with_reducible refine wpB_idx2 0 E_ints F_int cInt1 wU (rfl) wU (hRr) oD oD (fun _ => wU) (fun _ => ?_)); (try simp only [Act.put, pA, pB, pC]); (try simp only [cInt])); rw [← HX.out]) | ((refine wpB_call (.bool true) wU (fun w' => ?_) (fun w' hw' => HC.out w') ?_); (focus (go_simp; done)); (try simp only [Act.put, pA, pB, pC])) |  ((with_reducible refine wpB_load (by first | exact F_int | exact F_u64s) wU wU (by assumption) wU ?_); (try simp only [Act.put, pA, pB, pC])) | ((refine wpQ_oneG ?_ wU (fun w' => ?_) ?_); rotate_left; (go_simp; rfl); (try simp only [Act.put, pA, pB, pC])))
          refine wpQuiet_nil ?_
          intro w4 hb4
          have hS4 := hSr.mono hb4
          have q4 := (hS4.blk 0 rfl).1
          go_wp2_with fail
          refine wp_region_q kR kR ?_
          repeat (first | ((try simp only [hd]); ((with_reducible refine wpQ_skip wU ?_); (try simp only [Act.put, pA, pB, pC]))) |  ((with_reducible refine wpB_load (by first | exact F_int | exact F_u64s) wU wU (by assumption) wU ?_); (try simp only [Act.put, pA, pB, pC])) | ((refine wpQ_oneG ?_ wU (fun w' => ?_) ?_); rotate_left; (go_simp; rfl); (try simp only [Act.put, pA, pB, pC])))
          refine wpQuiet_nil ?_
          intro w5 hb5
          have hS5 := hS4.mono hb5
          go_wp2_with fail
          exact ⟨⟨k + 1, by omega, by go_num, HST.out, hS5⟩, by simp [intOf]; omega⟩
         ·have hd : decide (0 < k) = true := by simp; omega
          have hk1 : 0 ≤ (k : Int) - 1 ∧ (k : Int) - 1 < S.length := by omega
          have hwk : IntKind.i64.wrap ((k : Int) - 1) = (k : Int) - 1 := IntWalk.i64_in _ (by omega)
          obtain ⟨y, hy⟩ : ∃ y, y = atD 0 S ((k : Int) - 1) := ⟨_, rfl⟩
          rw [← hy] at hst
          have HY := hid hy
          clear hy
          by_cases hxy : x ≤ y
          ·rw [if_pos ⟨by omega, hxy⟩] at hst
           have HST := hid hst
           have hdx : decide (x ≤ y) = true := decide_eq_true hxy
           clear hst hk0
           go_wp2_with (with_reducible refine wpList_ldB F_sliceM wU wU q1 wU ?_)
           refine wp_region_q kR kR ?_
           repeat (first | ((with_reducible refine wpB_loadS (n := 4) (us := #[.bool true, .int .i64 G, .int .i64 1, .slice ad S.length cap]) A_rmach kR wU wU (by assumption) wU wU ?_); (try simp only [Act.put, pA, pB, pC])) | ((with_reducible refine wpB_load F_sliceM wU wU (by assumption) wU ?_); (try simp only [Act.put, pA, pB, pC])) | (((with_reducible refine wpB_idx2 0 E_ints F_int cInt1 wU (rfl) wU (hRr) oD oD (fun _ => wU) (fun _ => ?_)); (try simp only [Act.put, pA, pB, pC]); (try simp only [cInt])); rw [← HX.out]) | ((refine wpB_call (.bool true) wU (fun w' => ?_) (fun w' hw' => HC.out w') ?_); (focus (go_simp; done)); (try simp only [Act.put, pA, pB, pC])) |  ((with_reducible refine wpB_load (by first | exact F_int | exact F_u64s) wU wU (by assumption) wU ?_); (try simp only [Act.put, pA, pB, pC])) | ((refine wpQ_oneG ?_ wU (fun w' => ?_) ?_); rotate_left; (go_simp; rfl); (try simp only [Act.put, pA, pB, pC])))
           refine wpQuiet_nil ?_
           intro w4 hb4
           have hS4 := hSr.mono hb4
           have q4 := (hS4.blk 0 rfl).1
           have hR4 := hR.below hS4.b
           clear q1
           go_wp2_with fail
           refine wp_region_q kR kR ?_
           repeat (first | ((try simp only [hd]); ((with_reducible refine wpB_load F_sliceM wU wU (by assumption) wU ?_); (try simp only [Act.put, pA, pB, pC]))) | (((with_reducible refine wpB_idxW 0 E_ints F_int cInt1 wU (rfl) wU (hR4) oD oD (fun _ => wU) wU (fun _ => wU) (fun _ => ?_)); (try simp only [Act.put, pA, pB, pC]); (try simp only [cInt])); first | rw [← HX.out] | rw [← HY.out]) |  ((with_reducible refine wpB_load (by first | exact F_int | exact F_u64s) wU wU (by assumption) wU ?_); (try simp only [Act.put, pA, pB, pC])) | ((refine wpQ_oneG ?_ wU (fun w' => ?_) ?_); rotate_left; (go_simp; rfl); (try simp only [Act.put, pA, pB, pC])))
           refine wpQuiet_nil ?_
           intro w5 hb5
           go_wp2_with fail
           go_ret
           exact ⟨by rw [HE.out, HST.out]; rfl, bnext hS4.b hb5⟩
          ·rw [if_neg (fun h => hxy h.2)] at hst
           have HST := hid hst
           have hdx : decide (x ≤ y) = false := decide_eq_false hxy
           clear hst hk0
           go_wp2_with (with_reducible refine wpList_ldB F_sliceM wU wU q1 wU ?_)
           refine wp_region_q kR kR ?_
           repeat (first | ((with_reducible refine wpB_loadS (n := 4) (us := #[.bool true, .int .i64 G, .int .i64 1, .slice ad S.length cap]) A_rmach kR wU wU (by assumption) wU wU ?_); (try simp only [Act.put, pA, pB, pC])) | ((with_reducible refine wpB_load F_sliceM wU wU (by assumption) wU ?_); (try simp only [Act.put, pA, pB, pC])) | (((with_reducible refine wpB_idx2 0 E_ints F_int cInt1 wU (rfl) wU (hRr) oD oD (fun _ => wU) (fun _ => ?_)); (try simp only [Act.put, pA, pB, pC]); (try simp only [cInt])); rw [← HX.out]) | ((refine wpB_call (.bool true) wU (fun w' => ?_) (fun w' hw' => HC.out w') ?_); (focus (go_simp; done)); (try simp only [Act.put, pA, pB, pC])) |  ((with_reducible refine wpB_load (by first | exact F_int | exact F_u64s) wU wU (by assumption) wU ?_); (try simp only [Act.put, pA, pB, pC])) | ((refine wpQ_oneG ?_ wU (fun w' => ?_) ?_); rotate_left; (go_simp; rfl); (try simp only [Act.put, pA, pB, pC])))
           refine wpQuiet_nil ?_
           intro w4 hb4
           have hS4 := hSr.mono hb4
           have q4 := (hS4.blk 0 rfl).1
           have hR4 := hR.below hS4.b
           clear q1
           go_wp2_with fail
           refine wp_region_q kR kR ?_
           repeat (first | ((try simp only [hd]); ((with_reducible refine wpB_load F_sliceM wU wU (by assumption) wU ?_); (try simp only [Act.put, pA, pB, pC]))) | (((with_reducible refine wpB_idxW 0 E_ints F_int cInt1 wU (rfl) wU (hR4) oD oD (fun _ => wU) wU (fun _ => wU) (fun _ => ?_)); (try simp only [Act.put, pA, pB, pC]); (try simp only [cInt])); first | rw [← HX.out] | rw [← HY.out]) |  ((with_reducible refine wpB_load (by first | exact F_int | exact F_u64s) wU wU (by assumption) wU ?_); (try simp only [Act.put, pA, pB, pC])) | ((refine wpQ_oneG ?_ wU (fun w' => ?_) ?_); rotate_left; (go_simp; rfl); (try simp only [Act.put, pA, pB, pC])))
           refine wpQuiet_nil ?_
           intro w5 hb5
           have hS5 := hS4.mono hb5
           go_wp2_with fail
           exact ⟨⟨k + 1, by omega, by go_num, HST.out.symm, hS5⟩, by simp [intOf]; omega⟩
       ·have hkn : k = S.length := by omega
        subst hkn
        have he : E = 0 := by rw [HE.out, ← hgo, HSE.out]
        have HEE := hid he
        clear he hgo
        go_wp2_with (with_reducible refine wpList_ldB F_sliceM wU wU q1 wU ?_)
        go_ret
        exact ⟨by rw [HEE.out]; rfl, hSr.b⟩
     ·go_enter Tryz.func32, Tryz.ntmps32
      go_wp2_with fail
      refine (HO.out _).mono ?_
      rintro e w1 ⟨rfl, rfl⟩
      go_wp2_with fail
      go_loopw [3] (fun i wr => ∃ k : Nat, k ≤ S.length ∧ i = .int .i64 k ∧ sg k = sg 0 ∧ SL w.heap.size w wr [pBlk w.heap.size (.cells #[.bool true, .int .i64 G, .int .i64 (-1), .slice ad S.length cap] 25)]) (fun i _ => S.length - (intOf i).toNat)
      case atStart => exact ⟨0, by omega, rfl, rfl, hS⟩
      case round =>
       clear hS
       obtain ⟨k, hk, rfl, hgo, hSr⟩ := hrel
       have q1 := (hSr.blk 0 rfl).1
       have hRr := hR.below hSr.b
       by_cases hlt : k < S.length
       ·have hst := HSW.out k hlt
        rw [hgo] at hst
        obtain ⟨x, hx⟩ : ∃ x, x = atD 0 S k := ⟨_, rfl⟩
        rw [← hx] at hst
        obtain ⟨b, hb⟩ : ∃ b, b = sh x := ⟨_, rfl⟩
        have CS := fun w => HCS'.out x w
        rw [← hb] at hst CS
        have HX := hid hx; have HC := hid CS
        clear hx hb CS hgo
        cases b
        ·rw [if_pos rfl] at hst
         have HST := hid hst
         clear hst
         go_wp2_with (with_reducible refine wpList_ldB F_sliceM wU wU q1 wU ?_)
         refine wp_region_q kR kR ?_
         repeat (first | ((with_reducible refine wpB_loadS (n := 4) (us := #[.bool true, .int .i64 G, .int .i64 (-1), .slice ad S.length cap]) A_rmach kR wU wU (by assumption) wU wU ?_); (try simp only [Act.put, pA, pB, pC])) | ((with_reducible refine wpB_load F_sliceM wU wU (by assumption) wU ?_); (try simp only [Act.put, pA, pB, pC])) | (((with_reducible refine wpB_idx2 0 E_ints F_int cInt1 wU (rfl) wU (hRr) oD oD (fun _ => wU) (fun _ => ?_)); (try simp only [Act.put, pA, pB, pC]); (try simp only [cInt])); rw [← HX.out]) | ((refine wpB_call (.bool false) wU (fun w' => ?_) (fun w' hw' => HC.out w') ?_); (focus (go_simp; done)); (try simp only [Act.put, pA, pB, pC])) |  ((with_reducible refine wpB_load (by first | exact F_int | exact F_u64s) wU wU (by assumption) wU ?_); (try simp only [Act.put, pA, pB, pC])) | ((refine wpQ_oneG ?_ wU (fun w' => ?_) ?_); rotate_left; (go_simp; rfl); (try simp only [Act.put, pA, pB, pC])))
         refine wpQuiet_nil ?_
         intro w4 hb4
         go_wp2_with fail
         go_ret
         exact ⟨by rw [HE.out, HST.out]; rfl, bnext hSr.b hb4⟩
        ·rw [if_neg (by decide)] at hst
         by_cases hk0 : k = 0
         ·have hst2 : sg (k + 1) = sg 0 := by rw [hst, if_neg (by omega)]
          have hd : decide (0 < k) = false := by simp; omega
          have HST := hid hst2
          clear hst hst2 hk0
          go_wp2_with (with_reducible refine wpList_ldB F_sliceM wU wU q1 wU ?_)
          refine wp_region_q kR kR ?_
          repeat (first | ((with_reducible refine wpB_loadS (n := 4) (us := #[.bool true, .int .i64 G, .int .i64 (-1), .slice ad S.length cap]) A_rmach kR wU wU (by assumption) wU wU ?_); (try simp only [Act.put, pA, pB, pC])) | ((with_reducible refine wpB_load F_sliceM wU wU (by assumption) wU ?_); (try simp only [Act.put, pA, pB, pC])) | (((with_reducible refine wpB_idx2 0 E_ints F_int cInt1 wU (rfl) wU (hRr) oD oD (fun _ => wU) (fun _ => ?_)); (try simp only [Act.put, pA, pB, pC]); (try simp only [cInt])); rw [← HX.out]) | ((refine wpB_call (.bool true) wU (fun w' => ?_) (fun w' hw' => HC.out w') ?_); (focus (go_simp; done)); (try simp only [Act.put, pA, pB, pC])) |  ((with_reducible refine wpB_load (by first | exact F_int | exact F_u64s) wU wU (by assumption) wU ?_); (try simp only [Act.put, pA, pB, pC])) | ((refine wpQ_oneG ?_ wU (fun w' => ?_) ?_); rotate_left; (go_simp; rfl); (try simp only [Act.put, pA, pB, pC])))
          refine wpQuiet_nil ?_
          intro w4 hb4
          have hS4 := hSr.mono hb4
          have q4 := (hS4.blk 0 rfl).1
          go_wp2_with fail
          refine wp_region_q kR kR ?_
          repeat (first | ((try simp only [hd]); ((with_reducible refine wpQ_skip wU ?_); (try simp only [Act.put, pA, pB, pC]))) |  ((with_reducible refine wpB_load (by first | exact F_int | exact F_u64s) wU wU (by assumption) wU ?_); (try simp only [Act.put, pA, pB, pC])) | ((refine wpQ_oneG ?_ wU (fun w' => ?_) ?_); rotate_left; (go_simp; rfl); (try simp only [Act.put, pA, pB, pC])))
          refine wpQuiet_nil ?_
          intro w5 hb5
          have hS5 := hS4.mono hb5
          go_wp2_with fail
          exact ⟨⟨k + 1, by omega, by go_num, HST.out, hS5⟩, by simp [intOf]; omega⟩
         ·have hd : decide (0 < k) = true := by simp; omega
          have hk1 : 0 ≤ (k : Int) - 1 ∧ (k : Int) - 1 < S.length := by omega
          have hwk : IntKind.i64.wrap ((k : Int) - 1) = (k : Int) - 1 := IntWalk.i64_in _ (by omega)
          obtain ⟨y, hy⟩ : ∃ y, y = atD 0 S ((k : Int) - 1) := ⟨_, rfl⟩
          rw [← hy] at hst
          have HY := hid hy
          clear hy
          by_cases hxy : x ≤ y
          ·rw [if_pos ⟨by omega, hxy⟩] at hst
           have HST := hid hst
           have hdx : decide (x ≤ y) = true := decide_eq_true hxy
           clear hst hk0
           go_wp2_with (with_reducible refine wpList_ldB F_sliceM wU wU q1 wU ?_)
           refine wp_region_q kR kR ?_
           repeat (first | ((with_reducible refine wpB_loadS (n := 4) (us := #[.bool true, .int .i64 G, .int .i64 (-1), .slice ad S.length cap]) A_rmach kR wU wU (by assumption) wU wU ?_); (try simp only [Act.put, pA, pB, pC])) | ((with_reducible refine wpB_load F_sliceM wU wU (by assumption) wU ?_); (try simp only [Act.put, pA, pB, pC])) | (((with_reducible refine wpB_idx2 0 E_ints F_int cInt1 wU (rfl) wU (hRr) oD oD (fun _ => wU) (fun _ => ?_)); (try simp only [Act.put, pA, pB, pC]); (try simp only [cInt])); rw [← HX.out]) | ((refine wpB_call (.bool true) wU (fun w' => ?_) (fun w' hw' => HC.out w') ?_); (focus (go_simp; done)); (try simp only [Act.put, pA, pB, pC])) |  ((with_reducible refine wpB_load (by first | exact F_int | exact F_u64s) wU wU (by assumption) wU ?_); (try simp only [Act.put, pA, pB, pC])) | ((refine wpQ_oneG ?_ wU (fun w' => ?_) ?_); rotate_left; (go_simp; rfl); (try simp only [Act.put, pA, pB, pC])))
           refine wpQuiet_nil ?_
           intro w4 hb4
           have hS4 := hSr.mono hb4
           have q4 := (hS4.blk 0 rfl).1
           have hR4 := hR.below hS4.b
           clear q1
           go_wp2_with fail
           refine wp_region_q kR kR ?_
           repeat (first | ((try simp only [hd]); ((with_reducible refine wpB_load F_sliceM wU wU (by assumption) wU ?_); (try simp only [Act.put, pA, pB, pC]))) | (((with_reducible refine wpB_idxW 0 E_ints F_int cInt1 wU (rfl) wU (hR4) oD oD (fun _ => wU) wU (fun _ => wU) (fun _ => ?_)); (try simp only [Act.put, pA, pB, pC]); (try simp only [cInt])); first | rw [← HX.out] | rw [← HY.out]) |  ((with_reducible refine wpB_load (by first | exact F_int | exact F_u64s) wU wU (by assumption) wU ?_); (try simp only [Act.put, pA, pB, pC])) | ((refine wpQ_oneG ?_ wU (fun w' => ?_) ?_); rotate_left; (go_simp; rfl); (try simp only [Act.put, pA, pB, pC])))
           refine wpQuiet_nil ?_
           intro w5 hb5
           go_wp2_with fail
           go_ret
           exact ⟨by rw [HE.out, HST.out]; rfl, bnext hS4.b hb5⟩
          ·rw [if_neg (fun h => hxy h.2)] at hst
           have HST := hid hst
           have hdx : decide (x ≤ y) = false := decide_eq_false hxy
           clear hst hk0
           go_wp2_with (with_reducible refine wpList_ldB F_sliceM wU wU q1 wU ?_)
           refine wp_region_q kR kR ?_
           repeat (first | ((with_reducible refine wpB_loadS (n := 4) (us := #[.bool true, .int .i64 G, .int .i64 (-1), .slice ad S.length cap]) A_rmach kR wU wU (by assumption) wU wU ?_); (try simp only [Act.put, pA, pB, pC])) | ((with_reducible refine wpB_load F_sliceM wU wU (by assumption) wU ?_); (try simp only [Act.put, pA, pB, pC])) | (((with_reducible refine wpB_idx2 0 E_ints F_int cInt1 wU (rfl) wU (hRr) oD oD (fun _ => wU) (fun _ => ?_)); (try simp only [Act.put, pA, pB, pC]); (try simp only [cInt])); rw [← HX.out]) | ((refine wpB_call (.bool true) wU (fun w' => ?_) (fun w' hw' => HC.out w') ?_); (focus (go_simp; done)); (try simp only [Act.put, pA, pB, pC])) |  ((with_reducible refine wpB_load (by first | exact F_int | exact F_u64s) wU wU (by assumption) wU ?_); (try simp only [Act.put, pA, pB, pC])) | ((refine wpQ_oneG ?_ wU (fun w' => ?_) ?_); rotate_left; (go_simp; rfl); (try simp only [Act.put, pA, pB, pC])))
           refine wpQuiet_nil ?_
           intro w4 hb4
           have hS4 := hSr.mono hb4
           have q4 := (hS4.blk 0 rfl).1
           have hR4 := hR.below hS4.b
           clear q1
           go_wp2_with fail
           refine wp_region_q kR kR ?_
           repeat (first | ((try simp only [hd]); ((with_reducible refine wpB_load F_sliceM wU wU (by assumption) wU ?_); (try simp only [Act.put, pA, pB, pC]))) | (((with_reducible refine wpB_idxW 0 E_ints F_int cInt1 wU (rfl) wU (hR4) oD oD (fun _ => wU) wU (fun _ => wU) (fun _ => ?_)); (try simp only [Act.put, pA, pB, pC]); (try simp only [cInt])); first | rw [← HX.out] | rw [← HY.out]) |  ((with_reducible refine wpB_load (by first | exact F_int | exact F_u64s) wU wU (by assumption) wU ?_); (try simp only [Act.put, pA, pB, pC])) | ((refine wpQ_oneG ?_ wU (fun w' => ?_) ?_); rotate_left; (go_simp; rfl); (try simp only [Act.put, pA, pB, pC])))
           refine wpQuiet_nil ?_
           intro w5 hb5
           have hS5 := hS4.mono hb5
           go_wp2_with fail
           exact ⟨⟨k + 1, by omega, by go_num, HST.out.symm, hS5⟩, by simp [intOf]; omega⟩
       ·have hkn : k = S.length := by omega
        subst hkn
        have he : E = 0 := by rw [HE.out, ← hgo, HSE.out]
        have HEE := hid he
        clear he hgo
        go_wp2_with (with_reducible refine wpList_ldB F_sliceM wU wU q1 wU ?_)
        go_ret
        exact ⟨by rw [HEE.out]; rfl, hSr.b⟩
     ·go_enter Tryz.func32, Tryz.ntmps32
      go_wp2_with fail
      refine (HO.out _).mono ?_
      rintro e w1 ⟨rfl, rfl⟩
      go_wp2_with fail
      go_loopw [3] (fun i wr => ∃ k : Nat, k ≤ S.length ∧ i = .int .i64 k ∧ sg k = sg 0 ∧ SL w.heap.size w wr [pBlk w.heap.size (.cells #[.bool false, .int .i64 G, .int .i64 1, .slice ad S.length cap] 25)]) (fun i _ => S.length - (intOf i).toNat)
      case atStart => exact ⟨0, by omega, rfl, rfl, hS⟩
      case round =>
       clear hS
       obtain ⟨k, hk, rfl, hgo, hSr⟩ := hrel
       have q1 := (hSr.blk 0 rfl).1
       have hRr := hR.below hSr.b
       by_cases hlt : k < S.length
       ·have hst := HSW.out k hlt
        rw [hgo] at hst
        obtain ⟨x, hx⟩ : ∃ x, x = atD 0 S k := ⟨_, rfl⟩
        rw [← hx] at hst
        obtain ⟨b, hb⟩ : ∃ b, b = sh x := ⟨_, rfl⟩
        have CS := fun w => HCS'.out x w
        rw [← hb] at hst CS
        have HX := hid hx; have HC := hid CS
        clear hx hb CS hgo
        cases b
        ·rw [if_pos rfl] at hst
         have HST := hid hst
         clear hst
         go_wp2_with (with_reducible refine wpList_ldB F_sliceM wU wU q1 wU ?_)
         refine wp_region_q kR kR ?_
         repeat (first | ((with_reducible refine wpB_loadS (n := 4) (us := #[.bool false, .int .i64 G, .int .i64 1, .slice ad S.length cap]) A_rmach kR wU wU (by assumption) wU wU ?_); (try simp only [Act.put, pA, pB, pC])) | ((with_reducible refine wpB_load F_sliceM wU wU (by assumption) wU ?_); (try simp only [Act.put, pA, pB, pC])) | (((with_reducible refine wpB_idx2 0 E_ints F_int cInt1 wU (rfl) wU (hRr) oD oD (fun _ => wU) (fun _ => ?_)); (try simp only [Act.put, pA, pB, pC]); (try simp only [cInt])); rw [← HX.out]) | ((refine wpB_call (.bool false) wU (fun w' => ?_) (fun w' hw' => HC.out w') ?_); (focus (go_simp; done)); (try simp only [Act.put, pA, pB, pC])) |  ((with_reducible refine wpB_load (by first | exact F_int | exact F_u64s) wU wU (by assumption) wU ?_); (try simp only [Act.put, pA, pB, pC])) | ((refine wpQ_oneG ?_ wU (fun w' => ?_) ?_); rotate_left; (go_simp; rfl); (try simp only [Act.put, pA, pB, pC])))
         refine wpQuiet_nil ?_
         intro w4 hb4
         go_wp2_with fail
         go_ret
         exact ⟨by rw [HE.out, HST.out]; rfl, bnext hSr.b hb4⟩
        ·rw [if_neg (by decide)] at hst
         by_cases hk0 : k = 0
         ·have hst2 : sg (k + 1) = sg 0 := by rw [hst, if_neg (by omega)]
          have hd : decide (0 < k) = false := by simp; omega
          have HST := hid hst2
          clear hst hst2 hk0
          go_wp2_with (with_reducible refine wpList_ldB F_sliceM wU wU q1 wU ?_)
          refine wp_region_q kR kR ?_
          repeat (first | ((with_reducible refine wpB_loadS (n := 4) (us := #[.bool false, .int .i64 G, .int .i64 1, .slice ad S.length cap]) A_rmach kR wU wU (by assumption) wU wU ?_); (try simp only [Act.put, pA, pB, pC])) | ((with_reducible refine wpB_load F_sliceM wU wU (by assumption) wU ?_); (try simp only [Act.put, pA, pB, pC])) | (((with_reducible refine wpB_idx2 0 E_ints F_int cInt1 wU (rfl) wU (hRr) oD oD (fun _ => wU) (fun _ => ?_)); (try simp only [Act.put, pA, pB, pC]); (try simp only [cInt])); rw [← HX.out]) | ((refine wpB_call (.bool true) wU (fun w' => ?_) (fun w' hw' => HC.out w') ?_); (focus (go_simp; done)); (try simp only [Act.put, pA, pB, pC])) |  ((with_reducible refine wpB_load (by first | exact F_int | exact F_u64s) wU wU (by assumption) wU ?_); (try simp only [Act.put, pA, pB, pC])) | ((refine wpQ_oneG ?_ wU (fun w' => ?_) ?_); rotate_left; (go_simp; rfl); (try simp only [Act.put, pA, pB, pC])))
          refine wpQuiet_nil ?_
          intro w4 hb4
          have hS4 := hSr.mono hb4
          have q4 := (hS4.blk 0 rfl).1
          go_wp2_with fail
          refine wp_region_q kR kR ?_
          repeat (first | ((try simp only [hd]); ((with_reducible refine wpQ_skip wU ?_); (try simp only [Act.put, pA, pB, pC]))) |  ((with_reducible refine wpB_load (by first | exact F_int | exact F_u64s) wU wU (by assumption) wU ?_); (try simp only [Act.put, pA, pB, pC])) | ((refine wpQ_oneG ?_ wU (fun w' => ?_) ?_); rotate_left; (go_simp; rfl); (try simp only [Act.put, pA, pB, pC])))
          refine wpQuiet_nil ?_
          intro w5 hb5
          have hS5 := hS4.mono hb5
          go_wp2_with fail
          exact ⟨⟨k + 1, by omega, by go_num, HST.out, hS5⟩, by simp [intOf]; omega⟩
         ·have hd : decide (0 < k) = true := by simp; omega
          have hk1 : 0 ≤ (k : Int) - 1 ∧ (k : Int) - 1 < S.length := by omega
          have hwk : IntKind.i64.wrap ((k : Int) - 1) = (k : Int) - 1 := IntWalk.i64_in _ (by omega)
          obtain ⟨y, hy⟩ : ∃ y, y = atD 0 S ((k : Int) - 1) := ⟨_, rfl⟩
          rw [← hy] at hst
          have HY := hid hy
          clear hy
          by_cases hxy : x ≤ y
          ·rw [if_pos ⟨by omega, hxy⟩] at hst
           have HST := hid hst
           have hdx : decide (x ≤ y) = true := decide_eq_true hxy
           clear hst hk0
           go_wp2_with (with_reducible refine wpList_ldB F_sliceM wU wU q1 wU ?_)
           refine wp_region_q kR kR ?_
           repeat (first | ((with_reducible refine wpB_loadS (n := 4) (us := #[.bool false, .int .i64 G, .int .i64 1, .slice ad S.length cap]) A_rmach kR wU wU (by assumption) wU wU ?_); (try simp only [Act.put, pA, pB, pC])) | ((with_reducible refine wpB_load F_sliceM wU wU (by assumption) wU ?_); (try simp only [Act.put, pA, pB, pC])) | (((with_reducible refine wpB_idx2 0 E_ints F_int cInt1 wU (rfl) wU (hRr) oD oD (fun _ => wU) (fun _ => ?_)); (try simp only [Act.put, pA, pB, pC]); (try simp only [cInt])); rw [← HX.out]) | ((refine wpB_call (.bool true) wU (fun w' => ?_) (fun w' hw' => HC.out w') ?_); (focus (go_simp; done)); (try simp only [Act.put, pA, pB, pC])) |  ((with_reducible refine wpB_load (by first | exact F_int | exact F_u64s) wU wU (by assumption) wU ?_); (try simp only [Act.put, pA, pB, pC])) | ((refine wpQ_oneG ?_ wU (fun w' => ?_) ?_); rotate_left; (go_simp; rfl); (try simp only [Act.put, pA, pB, pC])))
           refine wpQuiet_nil ?_
           intro w4 hb4
           have hS4 := hSr.mono hb4
           have q4 := (hS4.blk 0 rfl).1
           have hR4 := hR.below hS4.b
           clear q1
           go_wp2_with fail
           refine wp_region_q kR kR ?_
           repeat (first | ((try simp only [hd]); ((with_reducible refine wpB_load F_sliceM wU wU (by assumption) wU ?_); (try simp only [Act.put, pA, pB, pC]))) | (((with_reducible refine wpB_idxW 0 E_ints F_int cInt1 wU (rfl) wU (hR4) oD oD (fun _ => wU) wU (fun _ => wU) (fun _ => ?_)); (try simp only [Act.put, pA, pB, pC]); (try simp only [cInt])); first | rw [← HX.out] | rw [← HY.out]) |  ((with_reducible refine wpB_load (by first | exact F_int | exact F_u64s) wU wU (by assumption) wU ?_); (try simp only [Act.put, pA, pB, pC])) | ((refine wpQ_oneG ?_ wU (fun w' => ?_) ?_); rotate_left; (go_simp; rfl); (try simp only [Act.put, pA, pB, pC])))
           refine wpQuiet_nil ?_
           intro w5 hb5
           go_wp2_with fail
           go_ret
           exact ⟨by rw [HE.out, HST.out]; rfl, bnext hS4.b hb5⟩
          ·rw [if_neg (fun h => hxy h.2)] at hst
           have HST := hid hst
           have hdx : decide (x ≤ y) = false := decide_eq_false hxy
           clear hst hk0
           go_wp2_with (with_reducible refine wpList_ldB F_sliceM wU wU q1 wU ?_)
           refine wp_region_q kR kR ?_
           repeat (first | ((with_reducible refine wpB_loadS (n := 4) (us := #[.bool false, .int .i64 G, .int .i64 1, .slice ad S.length cap]) A_rmach kR wU wU (by assumption) wU wU ?_); (try simp only [Act.put, pA, pB, pC])) | ((with_reducible refine wpB_load F_sliceM wU wU (by assumption) wU ?_); (try simp only [Act.put, pA, pB, pC])) | (((with_reducible refine wpB_idx2 0 E_ints F_int cInt1 wU (rfl) wU (hRr) oD oD (fun _ => wU) (fun _ => ?_)); (try simp only [Act.put, pA, pB, pC]); (try simp only [cInt])); rw [← HX.out]) | ((refine wpB_call (.bool true) wU (fun w' => ?_) (fun w' hw' => HC.out w') ?_); (focus (go_simp; done)); (try simp only [Act.put, pA, pB, pC])) |  ((with_reducible refine wpB_load (by first | exact F_int | exact F_u64s) wU wU (by assumption) wU ?_); (try simp only [Act.put, pA, pB, pC])) | ((refine wpQ_oneG ?_ wU (fun w' => ?_) ?_); rotate_left; (go_simp; rfl); (try simp only [Act.put, pA, pB, pC])))
           refine wpQuiet_nil ?_
           intro w4 hb4
           have hS4 := hSr.mono hb4
           have q4 := (hS4.blk 0 rfl).1
           have hR4 := hR.below hS4.b
           clear q1
           go_wp2_with fail
           refine wp_region_q kR kR ?_
           repeat (first | ((try simp only [hd]); ((with_reducible refine wpB_load F_sliceM wU wU (by assumption) wU ?_); (try simp only [Act.put, pA, pB, pC]))) | (((with_reducible refine wpB_idxW 0 E_ints F_int cInt1 wU (rfl) wU (hR4) oD oD (fun _ => wU) wU (fun _ => wU) (fun _ => ?_)); (try simp only [Act.put, pA, pB, pC]); (try simp only [cInt])); first | rw [← HX.out] | rw [← HY.out]) |  ((with_reducible refine wpB_load (by first | exact F_int | exact F_u64s) wU wU (by assumption) wU ?_); (try simp only [Act.put, pA, pB, pC])) | ((refine wpQ_oneG ?_ wU (fun w' => ?_) ?_); rotate_left; (go_simp; rfl); (try simp only [Act.put, pA, pB, pC])))
           refine wpQuiet_nil ?_
           intro w5 hb5
           have hS5 := hS4.mono hb5
           go_wp2_with fail
           exact ⟨⟨k + 1, by omega, by go_num, HST.out.symm, hS5⟩, by simp [intOf]; omega⟩
       ·have hkn : k = S.length := by omega
        subst hkn
        have he : E = 0 := by rw [HE.out, ← hgo, HSE.out]
        have HEE := hid he
        clear he hgo
        go_wp2_with (with_reducible refine wpList_ldB F_sliceM wU wU q1 wU ?_)
        go_ret
        exact ⟨by rw [HEE.out]; rfl, hSr.b⟩
     ·go_enter Tryz.func32, Tryz.ntmps32
      go_wp2_with fail
      refine (HO.out _).mono ?_
      rintro e w1 ⟨rfl, rfl⟩
      go_wp2_with fail
      go_loopw [3] (fun i wr => ∃ k : Nat, k ≤ S.length ∧ i = .int .i64 k ∧ sg k = sg 0 ∧ SL w.heap.size w wr [pBlk w.heap.size (.cells #[.bool false, .int .i64 G, .int .i64 (-1), .slice ad S.length cap] 25)]) (fun i _ => S.length - (intOf i).toNat)
      case atStart => exact ⟨0, by omega, rfl, rfl, hS⟩
      case round =>
       clear hS
       obtain ⟨k, hk, rfl, hgo, hSr⟩ := hrel
       have q1 := (hSr.blk 0 rfl).1
       have hRr := hR.below hSr.b
       by_cases hlt : k < S.length
       ·have hst := HSW.out k hlt
        rw [hgo] at hst
        obtain ⟨x, hx⟩ : ∃ x, x = atD 0 S k := ⟨_, rfl⟩
        rw [← hx] at hst
        obtain ⟨b, hb⟩ : ∃ b, b = sh x := ⟨_, rfl⟩
        have CS := fun w => HCS'.out x w
        rw [← hb] at hst CS
        have HX := hid hx; have HC := hid CS
        clear hx hb CS hgo
        cases b
        ·rw [if_pos rfl] at hst
         have HST := hid hst
         clear hst
         go_wp2_with (with_reducible refine wpList_ldB F_sliceM wU wU q1 wU ?_)
         refine wp_region_q kR kR ?_
         repeat (first | ((with_reducible refine wpB_loadS (n := 4) (us := #[.bool false, .int .i64 G, .int .i64 (-1), .slice ad S.length cap]) A_rmach kR wU wU (by assumption) wU wU ?_); (try simp only [Act.put, pA, pB, pC])) | ((with_reducible refine wpB_load F_sliceM wU wU (by assumption) wU ?_); (try simp only [Act.put, pA, pB, pC])) | (((with_reducible refine wpB_idx2 0 E_ints F_int cInt1 wU (rfl) wU (hRr) oD oD (fun _ => wU) (fun _ => ?_)); (try simp only [Act.put, pA, pB, pC]); (try simp only [cInt])); rw [← HX.out]) | ((refine wpB_call (.bool false) wU (fun w' => ?_) (fun w' hw' => HC.out w') ?_); (focus (go_simp; done)); (try simp only [Act.put, pA, pB, pC])) |  ((with_reducible refine wpB_load (by first | exact F_int | exact F_u64s) wU wU (by assumption) wU ?_); (try simp only [Act.put, pA, pB, pC])) | ((refine wpQ_oneG ?_ wU (fun w' => ?_) ?_); rotate_left; (go_simp; rfl); (try simp only [Act.put, pA, pB, pC])))
         refine wpQuiet_nil ?_
         intro w4 hb4
         go_wp2_with fail
         go_ret
         exact ⟨by rw [HE.out, HST.out]; rfl, bnext hSr.b hb4⟩
        ·rw [if_neg (by decide)] at hst
         by_cases hk0 : k = 0
         ·have hst2 : sg (k + 1) = sg 0 := by rw [hst, if_neg (by omega)]
          have hd : decide (0 < k) = false := by simp; omega
          have HST := hid hst2
          clear hst hst2 hk0
          go_wp2_with (with_reducible refine wpList_ldB F_sliceM wU wU q1 wU ?_)
          refine wp_region_q kR kR ?_
          repeat (first | ((with_reducible refine wpB_loadS (n := 4) (us := #[.bool false, .int .i64 G, .int .i64 (-1), .slice ad S.length cap]) A_rmach kR wU wU (by assumption) wU wU ?_); (try simp only [Act.put, pA, pB, pC])) | ((with_reducible refine wpB_load F_sliceM wU wU (by assumption) wU ?_); (try simp only [Act.put, pA, pB, pC])) | (((with_reducible refine wpB_idx2 0 E_ints F_int cInt1 wU (rfl) wU (hRr) oD oD (fun _ => wU) (fun _ => ?_)); (try simp only [Act.put, pA, pB, pC]); (try simp only [cInt])); rw [← HX.out]) | ((refine wpB_call (.bool true) wU (fun w' => ?_) (fun w' hw' => HC.out w') ?_); (focus (go_simp; done)); (try simp only [Act.put, pA, pB, pC])) |  ((with_reducible refine wpB_load (by first | exact F_int | exact F_u64s) wU wU (by assumption) wU ?_); (try simp only [Act.put, pA, pB, pC])) | ((refine wpQ_oneG ?_ wU (fun w' => ?_) ?_); rotate_left; (go_simp; rfl); (try simp only [Act.put, pA, pB, pC])))
          refine wpQuiet_nil ?_
          intro w4 hb4
          have hS4 := hSr.mono hb4
          have q4 := (hS4.blk 0 rfl).1
          go_wp2_with fail
          refine wp_region_q kR kR ?_
          repeat (first | ((try simp only [hd]); ((with_reducible refine wpQ_skip wU ?_); (try simp only [Act.put, pA, pB, pC]))) |  ((with_reducible refine wpB_load (by first | exact F_int | exact F_u64s) wU wU (by assumption) wU ?_); (try simp only [Act.put, pA, pB, pC])) | ((refine wpQ_oneG ?_ wU (fun w' => ?_) ?_); rotate_left; (go_simp; rfl); (try simp only [Act.put, pA, pB, pC])))
          refine wpQuiet_nil ?_
          intro w5 hb5
          have hS5 := hS4.mono hb5
          go_wp2_with fail
          exact ⟨⟨k + 1, by omega, by go_num, HST.out, hS5⟩, by simp [intOf]; omega⟩
         ·have hd : decide (0 < k) = true := by simp; omega
          have hk1 : 0 ≤ (k : Int) - 1 ∧ (k : Int) - 1 < S.length := by omega
          have hwk : IntKind.i64.wrap ((k : Int) - 1) = (k : Int) - 1 := IntWalk.i64_in _ (by omega)
          obtain ⟨y, hy⟩ : ∃ y, y = atD 0 S ((k : Int) - 1) := ⟨_, rfl⟩
          rw [← hy] at hst
          have HY := hid hy
          clear hy
          by_cases hxy : x ≤ y
          ·rw [if_pos ⟨by omega, hxy⟩] at hst
           have HST := hid hst
           have hdx : decide (x ≤ y) = true := decide_eq_true hxy
           clear hst hk0
           go_wp2_with (with_reducible refine wpList_ldB F_sliceM wU wU q1 wU ?_)
           refine wp_region_q kR kR ?_
           repeat (first | ((with_reducible refine wpB_loadS (n := 4) (us := #[.bool false, .int .i64 G, .int .i64 (-1), .slice ad S.length cap]) A_rmach kR wU wU (by assumption) wU wU ?_); (try simp only [Act.put, pA, pB, pC])) | ((with_reducible refine wpB_load F_sliceM wU wU (by assumption) wU ?_); (try simp only [Act.put, pA, pB, pC])) | (((with_reducible refine wpB_idx2 0 E_ints F_int cInt1 wU (rfl) wU (hRr) oD oD (fun _ => wU) (fun _ => ?_)); (try simp only [Act.put, pA, pB, pC]); (try simp only [cInt])); rw [← HX.out]) | ((refine wpB_call (.bool true) wU (fun w' => ?_) (fun w' hw' => HC.out w') ?_); (focus (go_simp; done)); (try simp only [Act.put, pA, pB, pC])) |  ((with_reducible refine wpB_load (by first | exact F_int | exact F_u64s) wU wU (by assumption) wU ?_); (try simp only [Act.put, pA, pB, pC])) | ((refine wpQ_oneG ?_ wU (fun w' => ?_) ?_); rotate_left; (go_simp; rfl); (try simp only [Act.put, pA, pB, pC])))
           refine wpQuiet_nil ?_
           intro w4 hb4
           have hS4 := hSr.mono hb4
           have q4 := (hS4.blk 0 rfl).1
           have hR4 := hR.below hS4.b
           clear q1
           go_wp2_with fail
           refine wp_region_q kR kR ?_
           repeat (first | ((try simp only [hd]); ((with_reducible refine wpB_load F_sliceM wU wU (by assumption) wU ?_); (try simp only [Act.put, pA, pB, pC]))) | (((with_reducible refine wpB_idxW 0 E_ints F_int cInt1 wU (rfl) wU (hR4) oD oD (fun _ => wU) wU (fun _ => wU) (fun _ => ?_)); (try simp only [Act.put, pA, pB, pC]); (try simp only [cInt])); first | rw [← HX.out] | rw [← HY.out]) |  ((with_reducible refine wpB_load (by first | exact F_int | exact F_u64s) wU wU (by assumption) wU ?_); (try simp only [Act.put, pA, pB, pC])) | ((refine wpQ_oneG ?_ wU (fun w' => ?_) ?_); rotate_left; (go_simp; rfl); (try simp only [Act.put, pA, pB, pC])))
           refine wpQuiet_nil ?_
           intro w5 hb5
           go_wp2_with fail
           go_ret
           exact ⟨by rw [HE.out, HST.out]; rfl, bnext hS4.b hb5⟩
          ·rw [if_neg (fun h => hxy h.2)] at hst
           have HST := hid hst
           have hdx : decide (x ≤ y) = false := decide_eq_false hxy
           clear hst hk0
           go_wp2_with (with_reducible refine wpList_ldB F_sliceM wU wU q1 wU ?_)
           refine wp_region_q kR kR ?_
           repeat (first | ((with_reducible refine wpB_loadS (n := 4) (us := #[.bool false, .int .i64 G, .int .i64 (-1), .slice ad S.length cap]) A_rmach kR wU wU (by assumption) wU wU ?_); (try simp only [Act.put, pA, pB, pC])) | ((with_reducible refine wpB_load F_sliceM wU wU (by assumption) wU ?_); (try simp only [Act.put, pA, pB, pC])) | (((with_reducible refine wpB_idx2 0 E_ints F_int cInt1 wU (rfl) wU (hRr) oD oD (fun _ => wU) (fun _ => ?_)); (try simp only [Act.put, pA, pB, pC]); (try simp only [cInt])); rw [← HX.out]) | ((refine wpB_call (.bool true) wU (fun w' => ?_) (fun w' hw' => HC.out w') ?_); (focus (go_simp; done)); (try simp only [Act.put, pA, pB, pC])) |  ((with_reducible refine wpB_load (by first | exact F_int | exact F_u64s) wU wU (by assumption) wU ?_); (try simp only [Act.put, pA, pB, pC])) | ((refine wpQ_oneG ?_ wU (fun w' => ?_) ?_); rotate_left; (go_simp; rfl); (try simp only [Act.put, pA, pB, pC])))
           refine wpQuiet_nil ?_
           intro w4 hb4
           have hS4 := hSr.mono hb4
           have q4 := (hS4.blk 0 rfl).1
           have hR4 := hR.below hS4.b
           clear q1
           go_wp2_with fail
           refine wp_region_q kR kR ?_
           repeat (first | ((try simp only [hd]); ((with_reducible refine wpB_load F_sliceM wU wU (by assumption) wU ?_); (try simp only [Act.put, pA, pB, pC]))) | (((with_reducible refine wpB_idxW 0 E_ints F_int cInt1 wU (rfl) wU (hR4) oD oD (fun _ => wU) wU (fun _ => wU) (fun _ => ?_)); (try simp only [Act.put, pA, pB, pC]); (try simp only [cInt])); first | rw [← HX.out] | rw [← HY.out]) |  ((with_reducible refine wpB_load (by first | exact F_int | exact F_u64s) wU wU (by assumption) wU ?_); (try simp only [Act.put, pA, pB, pC])) | ((refine wpQ_oneG ?_ wU (fun w' => ?_) ?_); rotate_left; (go_simp; rfl); (try simp only [Act.put, pA, pB, pC])))
           refine wpQuiet_nil ?_
           intro w5 hb5
           have hS5 := hS4.mono hb5
           go_wp2_with fail
           exact ⟨⟨k + 1, by omega, by go_num, HST.out.symm, hS5⟩, by simp [intOf]; omega⟩
       ·have hkn : k = S.length := by omega
        subst hkn
        have he : E = 0 := by rw [HE.out, ← hgo, HSE.out]
        have HEE := hid he
        clear he hgo
        go_wp2_with (with_reducible refine wpList_ldB F_sliceM wU wU q1 wU ?_)
        go_ret
        exact ⟨by rw [HEE.out]; rfl, hSr.b⟩
end Go.Proofs.YtoebgfgihfjnnaaGreatDoor

namespace Go.Proofs.YtoebgfgihfjnnaaGreatDoor
open Go.RowKit
set_option maxHeartbeats 4000000
set_option maxRecDepth 100000
theorem take_not_mem {l : List Int} {x : Int} {k : Nat} (hk : k ≤ l.length) (h : ∀ i : Nat, i < k → atD 0 l i ≠ x) : x ∉ l.take k := by
 intro hm
 obtain ⟨i, hi, e⟩ := List.getElem_of_mem hm
 rw [List.length_take] at hi
 refine h i (by omega) ?_
 rw [← e, List.getElem_take]
 have : i < l.length := by omega
 simp [atD, this]
theorem take_mem {l : List Int} {x : Int} {k j : Nat} (hk : k ≤ l.length) (hj : j < k) (h : atD 0 l j = x) : x ∈ l.take k := by
 have hjl : j < l.length := by omega
 have e : atD 0 l j = l[j] := by simp [atD, hjl]
 rw [← h, e, List.mem_take_iff_getElem]
 exact ⟨j, by omega, rfl⟩
theorem rCheckLoad_any (m : MacV) (ad : Option Addr) (cap : Nat) (al : Option Addr) (cl : Nat) (l : List Int) (w : World) (hL : Ints w al cl l) (hg0 : 1 ≤ m.gears) (hg : m.gears ≤ 16) :
  Calls Tryz.prog 53 #[mV m ad cap, .slice al l.length cl] w fun r w' => r = .returned (.int .i64 (if 4 * m.gears < l.length then 5 else loadGo m [] l)) ∧ Below w.heap.size w w' := by
 have hcap := hL.le
 have hmx := hL.max
 have hlen : l.length ≤ 9223372036854775807 := by have := hL.max; unfold maxLen at this; omega
 obtain ⟨n, hn⟩ : ∃ n : Nat, 4 * m.gears = n := ⟨(4 * m.gears).toNat, by omega⟩
 have CN := fun w => rSlots_any m ad cap w (by omega) hg
 have HST := fun (k : Nat) (h : k < l.length) => loadGo_step m h
 rw [hn] at CN HST ⊢
 have hn64 : 1 ≤ n ∧ n ≤ 64 := by omega
 have CO := fun (x : Int) w => rOutside_any x 0 ((n : Int) - 1) w
 have hwn : IntKind.i64.wrap ((n : Int) - 1) = (n : Int) - 1 := IntWalk.i64_in _ (by omega)
 have hS := (SL.nil w).box (.cells (mC m ad cap) 25)
 obtain ⟨R, hR⟩ : ∃ R : Int, R = (if (n : Int) < l.length then 5 else loadGo m [] l) := ⟨_, rfl⟩
 rw [← hR]
 have HN := hid CN; have HT := hid HST; have HO := hid CO
 clear CN HST CO hn
 by_cases hb : (n : Int) < l.length
 ·rw [if_pos hb] at hR
  subst hR
  go_enter Tryz.func53, Tryz.ntmps53
  go_wp2_with fail
  refine (HN.out _).mono ?_
  rintro e w1 ⟨rfl, b1⟩
  have hS1 := hS.mono b1
  go_wp2_with fail
  go_ret
  exact ⟨rfl, hS1.b⟩
 ·rw [if_neg hb] at hR
  have HR := hid hR
  clear hR
  have hl64 : l.length ≤ 64 := by omega
  go_enter Tryz.func53, Tryz.ntmps53
  go_wp2_with fail
  refine (HN.out _).mono ?_
  rintro e w1 ⟨rfl, b1⟩
  have hS1 := hS.mono b1
  go_wp2_with fail
  go_loopw [5] (fun i wr => ∃ k : Nat, k ≤ l.length ∧ i = .int .i64 k ∧ loadGo m (l.take k) (l.drop k) = loadGo m [] l ∧ SL w.heap.size w wr [pBlk w.heap.size (.cells (mC m ad cap) 25)]) (fun i _ => l.length - (intOf i).toNat)
  case atStart => exact ⟨0, by omega, rfl, by simp, hS1⟩
  case round =>
   clear hS hS1
   obtain ⟨k, hk, rfl, hgo, hSr⟩ := hrel
   have q1 := (hSr.blk 0 rfl).1
   have hLr := hL.below hSr.b
   by_cases hlt : k < l.length
   ·have hst := HT.out k hlt
    rw [hgo, ← HR.out] at hst
    obtain ⟨x, hx⟩ : ∃ x, x = atD 0 l k := ⟨_, rfl⟩
    rw [← hx] at hst
    have HX := hid hx
    clear hx hgo
    have CO := fun w => HO.out x w
    by_cases hxo : x < 0 ∨ (n : Int) ≤ x
    ·rw [if_pos hxo] at hst
     have hb : (decide (x < 0) || decide ((n : Int) - 1 < x)) = true := by simp; omega
     rw [hb] at CO
     have HC := hid CO
     clear CO hb hxo
     subst hst
     go_wp2_with fail
     refine wp_region_q kR kR ?_
     repeat (first | (((with_reducible refine wpB_idx2 0 E_ints F_int cInt1 wU (rfl) wU (hLr) oD oD (fun _ => wU) (fun _ => ?_)); (try simp only [Act.put, pA, pB, pC]); (try simp only [cInt])); rw [← HX.out]) | ((with_reducible refine wpB_loadS (n := 4) (us := mC m ad cap) A_rmach kR wU wU (by assumption) wU wU ?_); (try simp only [Act.put, pA, pB, pC])) | ((refine wpB_call (.int .i64 n) wU (fun w' => ?_) (fun w' hw' => HN.out w') ?_); (focus (go_simp; done)); (try simp only [Act.put, pA, pB, pC])) | ((refine wpB_call (.bool true) wU (fun w' => ?_) (fun w' hw' => calls_below (HC.out w')) ?_); (focus (go_simp; done)); (try simp only [Act.put, pA, pB, pC])) |  ((with_reducible refine wpB_load (by first | exact F_int | exact F_u64s) wU wU (by assumption) wU ?_); (try simp only [Act.put, pA, pB, pC])) | ((refine wpQ_oneG ?_ wU (fun w' => ?_) ?_); rotate_left; (go_simp; rfl); (try simp only [Act.put, pA, pB, pC])))
     refine wpQuiet_nil ?_
     intro w4 hb4
     go_wp2_with fail
     go_ret
     exact ⟨rfl, bnext hSr.b hb4⟩
    ·rw [if_neg hxo] at hst
     have hb : (decide (x < 0) || decide ((n : Int) - 1 < x)) = false := by simp; omega
     rw [hb] at CO
     have HC := hid CO; have HS := hid hst
     clear CO hb hxo hst
     go_wp2_with fail
     refine wp_region_q kR kR ?_
     repeat (first | (((with_reducible refine wpB_idx2 0 E_ints F_int cInt1 wU (rfl) wU (hLr) oD oD (fun _ => wU) (fun _ => ?_)); (try simp only [Act.put, pA, pB, pC]); (try simp only [cInt])); rw [← HX.out]) | ((with_reducible refine wpB_loadS (n := 4) (us := mC m ad cap) A_rmach kR wU wU (by assumption) wU wU ?_); (try simp only [Act.put, pA, pB, pC])) | ((refine wpB_call (.int .i64 n) wU (fun w' => ?_) (fun w' hw' => HN.out w') ?_); (focus (go_simp; done)); (try simp only [Act.put, pA, pB, pC])) | ((refine wpB_call (.bool false) wU (fun w' => ?_) (fun w' hw' => calls_below (HC.out w')) ?_); (focus (go_simp; done)); (try simp only [Act.put, pA, pB, pC])) |  ((with_reducible refine wpB_load (by first | exact F_int | exact F_u64s) wU wU (by assumption) wU ?_); (try simp only [Act.put, pA, pB, pC])) | ((refine wpQ_oneG ?_ wU (fun w' => ?_) ?_); rotate_left; (go_simp; rfl); (try simp only [Act.put, pA, pB, pC])))
     refine wpQuiet_nil ?_
     intro w4 hb4
     have hS4 := hSr.mono hb4
     clear q1 hLr hSr hb4
     go_wp2_with fail
     go_loopw [6] (fun i wr => ∃ j : Nat, j ≤ k ∧ i = .int .i64 j ∧ (∀ i : Nat, i < j → atD 0 l i ≠ x) ∧ SL w.heap.size w wr [pBlk w.heap.size (.cells (mC m ad cap) 25)]) (fun i _ => k - (intOf i).toNat)
     case atStart => exact ⟨0, by omega, rfl, fun i hi => absurd hi (Nat.not_lt_zero i), hS4⟩
     case round =>
      clear hS4
      obtain ⟨j, hj, rfl, hno, hS5⟩ := hrel
      have hL5 := hL.below hS5.b
      have HNO := hid hno
      clear hno
      by_cases hjk : j < k
      ·have hjl : (j : Int) < l.length := by omega
       obtain ⟨y, hy⟩ : ∃ y, y = atD 0 l j := ⟨_, rfl⟩
       have HY := hid hy
       clear hy
       by_cases hyx : y = x
       ·have hd : (y == x) = true := by simpa using hyx
        have hR9 : R = 9 := by rw [HS.out, if_pos (take_mem (by omega) hjk (by rw [← HY.out, hyx]))]
        clear hyx
        subst hR9
        go_wp2_with fail
        refine wp_region_q kR kR ?_
        repeat (first | (((with_reducible refine wpB_idx2 0 E_ints F_int cInt1 wU (rfl) wU (hL5) oD oD (fun _ => wU) (fun _ => ?_)); (try simp only [Act.put, pA, pB, pC]); (try simp only [cInt])); first | rw [← HY.out] | rw [← HX.out]) |  ((with_reducible refine wpB_load (by first | exact F_int | exact F_u64s) wU wU (by assumption) wU ?_); (try simp only [Act.put, pA, pB, pC])) | ((refine wpQ_oneG ?_ wU (fun w' => ?_) ?_); rotate_left; (go_simp; rfl); (try simp only [Act.put, pA, pB, pC])))
        refine wpQuiet_nil ?_
        intro w6 hb6
        go_wp2_with fail
        go_ret
        exact ⟨rfl, bnext hS5.b hb6⟩
       ·have hd : (y == x) = false := by simpa using hyx
        have hno2 : ∀ i : Nat, i < j + 1 → atD 0 l i ≠ x := fun i hi => by
         by_cases e : i = j
         ·subst e; rw [← HY.out]; exact hyx
         ·exact HNO.out i (by omega)
        have HN2 := hid hno2
        clear hyx hno2
        go_wp2_with fail
        refine wp_region_q kR kR ?_
        repeat (first | (((with_reducible refine wpB_idx2 0 E_ints F_int cInt1 wU (rfl) wU (hL5) oD oD (fun _ => wU) (fun _ => ?_)); (try simp only [Act.put, pA, pB, pC]); (try simp only [cInt])); first | rw [← HY.out] | rw [← HX.out]) |  ((with_reducible refine wpB_load (by first | exact F_int | exact F_u64s) wU wU (by assumption) wU ?_); (try simp only [Act.put, pA, pB, pC])) | ((refine wpQ_oneG ?_ wU (fun w' => ?_) ?_); rotate_left; (go_simp; rfl); (try simp only [Act.put, pA, pB, pC])))
        refine wpQuiet_nil ?_
        intro w6 hb6
        have hS6 := hS5.mono hb6
        go_wp2_with fail
        exact ⟨⟨j + 1, by omega, by go_num, HN2.out, hS6⟩, by simp [intOf]; omega⟩
      ·have hjk2 : j = k := by omega
       subst hjk2
       have hR2 : R = loadGo m (l.take (j + 1)) (l.drop (j + 1)) := by rw [HS.out, if_neg (take_not_mem (by omega) HNO.out)]
       have H2 := hid hR2
       clear hR2
       go_wp2_with fail
       exact ⟨⟨j + 1, by omega, by go_num, by rw [← H2.out, HR.out], hS5⟩, by simp [intOf]; omega⟩
   ·have hkn : k = l.length := by omega
    subst hkn
    rw [List.drop_length] at hgo
    have e : R = 0 := by rw [HR.out, ← hgo]; rfl
    clear hgo HR
    subst e
    go_wp2_with fail
    go_ret
    exact ⟨rfl, hSr.b⟩
end Go.Proofs.YtoebgfgihfjnnaaGreatDoor

namespace Go.Proofs.YtoebgfgihfjnnaaGreatDoor
open Go.RowKit
set_option maxHeartbeats 4000000
set_option maxRecDepth 100000
theorem lcheck_any (m : MacV) (ad : Option Addr) (cap : Nat) (al : Option Addr) (cl : Nat) (l : List Int) (w : World) (hR : Ints w ad cap m.sw) (hL : Ints w al cl l) :
  Calls Tryz.prog 13 #[mV m ad cap, .slice al l.length cl] w fun r w' => r = .returned (.int .i64 (loadE m l)) ∧ Below w.heap.size w w' := by
 have hS := (SL.nil w).box (.cells (mC m ad cap) 25)
 have CM := fun w h => rCheckMachine_any m ad cap w h
 have R1 := hR.below hS.b
 by_cases he : macE m = 0
 ·have hok := (macE_zero he).1
  have CL := fun w h => rCheckLoad_any m ad cap al cl l w h hok.lo hok.hi
  have hE : loadE m l = if 4 * m.gears < l.length then 5 else loadGo m [] l := by unfold loadE; rw [if_neg (by simp [he])]
  rw [he] at CM
  rw [← hE] at CL
  have HM := hid CM; have HL := hid CL
  clear CM CL hE he hok
  go_enter Tryz.func13, Tryz.ntmps13
  go_wp2_with fail
  refine (HM.out _ R1).mono ?_
  rintro e w1 ⟨rfl, b1⟩
  have hS1 := hS.mono b1
  have q1 := (hS1.blk 0 rfl).1
  go_wp2_with (with_reducible refine wpList_ldS (n := 4) (us := mC m ad cap) A_rmach kR wU wU (by assumption) wU wU ?_)
  refine (HL.out _ (hL.below hS1.b)).mono ?_
  rintro e w2 ⟨rfl, b2⟩
  go_wp2_with fail
  go_ret
  exact ⟨rfl, bnext hS1.b b2⟩
 ·have hE : loadE m l = macE m := by unfold loadE; rw [if_pos he]
  have hne : (macE m != 0) = true := by simpa using he
  rw [hE]
  obtain ⟨E, hEE⟩ : ∃ E, E = macE m := ⟨_, rfl⟩
  rw [← hEE] at CM hne ⊢
  have HM := hid CM
  clear CM hE he hEE
  go_enter Tryz.func13, Tryz.ntmps13
  go_wp2_with fail
  refine (HM.out _ R1).mono ?_
  rintro e w1 ⟨rfl, b1⟩
  have hS1 := hS.mono b1
  go_wp2_with fail
  go_ret
  exact ⟨rfl, hS1.b⟩
theorem llistOk_any (a a2 : Option Addr) (cap cap2 n : Nat) (l : List Int) (w : World) (h : Ints w a cap l) (h2 : Ints w a2 cap2 l) (hn : l.length = n) (hs : n ≤ 1048576) :
  Calls Tryz.prog 21 #[.slice a n cap, .int .i64 0, .int .i64 0, .slice a2 n cap2] w fun r w' => r = .returned (.bool true) ∧ Below w.heap.size w w' := by
 subst hn
 have CS := SameInts_any a a2 cap cap2 l l w h h2 hs
 rw [decide_eq_true rfl] at CS
 have HC := hid CS
 clear CS
 go_enter Tryz.func21, Tryz.ntmps21
 go_wp2_with fail
 refine HC.out.mono ?_
 rintro e w1 ⟨rfl, b1⟩
 go_wp2_with fail
 go_ret
 exact ⟨rfl, b1⟩
theorem llistBad_any (a a2 : Option Addr) (cap cap2 n : Nat) (E : Int) (w : World) (hE : (E != 0) = true) :
  Calls Tryz.prog 21 #[.slice a 0 cap, .int .i64 E, .int .i64 E, .slice a2 n cap2] w fun r w' => r = .returned (.bool true) ∧ Below w.heap.size w w' := by
 go_enter Tryz.func21, Tryz.ntmps21
 go_wp2_with fail
 go_ret
 exact ⟨rfl, Below.refl _ _⟩
end Go.Proofs.YtoebgfgihfjnnaaGreatDoor

namespace Go.Proofs.YtoebgfgihfjnnaaGreatDoor
open Go.RowKit
set_option maxHeartbeats 4000000
set_option maxRecDepth 100000
theorem mapStep {l : List Int} (f : Int → Int) {k : Nat} (h : k < l.length) : (l.map f).take (k + 1) = (l.map f).take k ++ [f (atD 0 l k)] := by
 have e : atD 0 l k = l[k] := by simp [atD, h]
 rw [List.take_succ_eq_append_getElem (by simpa using h), e]
 simp
end Go.Proofs.YtoebgfgihfjnnaaGreatDoor
