/- Contracts and plain facts that the claim uses (QrC QrD QrF QrG). Conditions: as each one states. -/
import Derived.RangeFuncNested
import Derived.RangeFuncBound
import Derived.RangeFuncCalls
import Derived.RangeFuncLeaves
import Derived.RangeFuncFrom
import Derived.Shelf.Abstract
import Derived.Shelf.RegionOpen
import Derived.WalkKit
import Derived.OwnWalkIn
import Derived.TacticsInMore
import Derived.LoopNIn
import Derived.LoopIn
import Derived.Test.YtglpfpdomnllkaaGreatProg
import Derived.WalkSpells
import Derived.Maps.AppendAt
import Derived.Deep.Quiet
import Derived.Maps.Own
import Derived.Maps.OwnSet
import Derived.Maps.Views
import Derived.WalkLawsBesides
import Derived.Laws.EntriesVeiled
import Derived.Deep.QuietTactic
import Derived.BigQuiet
import Derived.Shelf.Strings.Trim
import Derived.Shelf.Strings.SlTrimAscii
import Derived.Shelf.Strings.Repeat
import Derived.Shelf.Strings.OnBuilder
import Derived.Shelf.Strconv.Itoa1
import Derived.Shelf.Strconv.Itoa3
import Derived.Shelf.LaysM
import Derived.Ground.Names2Prog
import Derived.Lib.OthersKept
import Derived.Deep.RegionHeld3
import Derived.Deep.AppendLies
import Derived.Deep.RegionHeldLaw
import Derived.Deep.RegionLaw
import Derived.StillTail
import Derived.Laws.Tables
import Derived.IntWalk
import Derived.Laws.CopyOwn
import Derived.BigRegion
import Derived.ChangeAlike
import Derived.Shelf.Bits.Mul64
import Derived.Lib.ItoaLen
import Derived.Lib.ItoaMem
import Derived.Sort.LoopGhostIn
import Derived.Maps.RangeWalk
import Derived.Deep.LoopGhost
import Derived.Test.YtglpfpdomnllkaaGreatXt01
import Derived.Test.YtglpfpdomnllkaaGreatXt02
import Derived.Test.YtglpfpdomnllkaaGreatXt03
import Derived.Test.YtglpfpdomnllkaaGreatXt04
import Derived.Test.YtglpfpdomnllkaaGreatXt05
import Derived.Test.YtglpfpdomnllkaaGreatXt06
import Derived.Test.YtglpfpdomnllkaaGreatXt07
import Derived.Test.YtglpfpdomnllkaaGreatY7901
import Derived.Test.YtglpfpdomnllkaaGreatY7902
set_option linter.all false

namespace Go.Proofs.YtglpfpdomnllkaaGreat
open Go.RowKit
set_option maxHeartbeats 4000000
set_option maxRecDepth 100000
section
variable {P : Program} {ops : Array Oper} {rest : List Oper} {a : Act} {Qa : Act → Prop} {α : Type} {c : α → Value} {sz bytes : Nat} {t e : TypeId} {z : Value} {ad : Option Addr} {cap : Nat} {l : List α} {k : Int} {w : World}
 {d1 d2 : Tmp} {ty1 ty2 : TypeId} {p1 p2 : String} {s x : Operand} {af1 af2 : Array Edge} {g1 g2 : Option (Nat × Bool)}
theorem wpB_idxW (d : α) (E : ETy P t e z sz bytes) (hF : Flat P e) (hc : ∀ x, (c x).cells = #[c x])
   {n : Nat} (hs : a.eval s = .slice ad n cap) (hn : l.length = n) (hx : a.eval x = .int .i64 k) (hR : Reps c sz w ad cap l) (h0 : 0 ≤ k) (hlt : k < l.length) (hd : ∀ p, (a.put (some d1) p).eval (.tmp d1) = p)
   (hw1 : Region.wanted ⟨some d1, .indexAddr t s x, ty1, p1, af1, g1⟩ (yielded ops a.tmps) = true) (hw2 : ∀ p, Region.wanted ⟨some d2, .load e (.tmp d1), ty2, p2, af2, g2⟩ (yielded ops (a.put (some d1) p).tmps) = true)
   (hK : ∀ p, wpQuiet P ops (Below w.heap.size w) Qa rest ((a.put (some d1) p).put (some d2) (c (atD d l k)))) :
   wpQuiet P ops (Below w.heap.size w) Qa (⟨some d1, .indexAddr t s x, ty1, p1, af1, g1⟩ :: ⟨some d2, .load e (.tmp d1), ty2, p2, af2, g2⟩ :: rest) a := by
 subst hn
 have hkl : k.toNat < l.length := by omega
 obtain ⟨b, o, rfl, hcs⟩ := hR.cells E.pos d k.toNat hkl
 have hcell := hcs 0 (c (atD d l k)) (by rw [show l.getD k.toNat d = atD d l k from rfl, hc]; rfl)
 refine wpQ_inG (.pointer (some ((⟨b, o, none⟩ : Addr).add (k.toNat * sz)))) hw1 (fun w' hw' => ?_) (wpQ_inG (c (atD d l k)) (hw2 _) (fun w' hw' => ?_) (hK _))
 ·have h1 := run_indexAt_sl (P := P) (a := ⟨b, o, none⟩) (cap := cap) w' E h0 hlt
  simp [execOp, hs, hx, h1, Result.andThen]
 ·have h2 := run_loadAt_cell (P := P) w' (a := (⟨b, o, none⟩ : Addr).add (k.toNat * sz)) (v := c (atD d l k)) hF (by
   rw [Addr.add_z]
   exact (hw'.cell (World.block_lt_of_cell? w _ hcell)).trans hcell)
  simp [execOp, hd, h2, Result.andThen]
end
theorem rCheckMachine_any (m : MacV) (ad : Option Addr) (cap : Nat) (w : World) (hR : Ints w ad cap m.sw) :
  Calls Tryz.prog 8 #[mV m ad cap] w fun r w' => r = .returned (.int .i64 (macE m)) ∧ Below w.heap.size w w' := by
 have hcap := hR.le
 have hmx := hR.max
 have hlen : m.sw.length ≤ 9223372036854775807 := by have := hR.max; unfold maxLen at this; omega
 have CS := fun (p : Int) w a b => rShared_any m ad cap p w a b
 have hE : macE m = if m.gears < 1 ∨ 16 < m.gears then 3 else if m.ring = true ∧ m.gears % 2 = 1 then 17 else if m.turn ≠ 1 ∧ m.turn ≠ -1 then 3 else if m.gears < m.sw.length then 5 else swGo m none m.sw := rfl
 have SW := fun (k : Nat) (h : k < m.sw.length) => swGo_prev m k h
 obtain ⟨E, hEE⟩ : ∃ E, E = macE m := ⟨_, rfl⟩
 obtain ⟨sg, hsg⟩ : ∃ sg : Nat → Int, ∀ k, sg k = swGo m (prevO m.sw k) (m.sw.drop k) := ⟨_, fun _ => rfl⟩
 obtain ⟨sh, hsh⟩ : ∃ sh : Int → Bool, ∀ p, sh p = sharedM m p := ⟨_, fun _ => rfl⟩
 have hs0 : swGo m none m.sw = sg 0 := (hsg 0).symm
 have hsE : sg m.sw.length = 0 := by rw [hsg, List.drop_length]; rfl
 rw [← hEE] at hE ⊢
 rw [hs0] at hE
 simp only [← hsg, ← hsh] at SW CS
 clear hs0 hsg hsh hEE
 obtain ⟨R, G, T, S⟩ := m
 dsimp only at *
 have HCS := hid CS; have HSW := hid SW; have HSE := hid hsE
 clear CS SW hsE
 have CO := fun w => rOutside_any G 1 16 w
 by_cases hA : G < 1 ∨ 16 < G
 ·rw [if_pos hA] at hE
  have hb : (decide (G < 1) || decide (16 < G)) = true := by simpa using hA
  rw [hb] at CO
  have HO := hid CO
  clear CO hb hA
  subst hE
  go_enter Tryz.func8, Tryz.ntmps8
  go_wp2_with fail
  refine (HO.out _).mono ?_
  rintro e w1 ⟨rfl, rfl⟩
  go_wp2_with fail
  go_ret
  exact ⟨rfl, bal (Below.refl _ _) _⟩
 ·rw [if_neg hA] at hE
  have hb : (decide (G < 1) || decide (16 < G)) = false := by simp; omega
  rw [hb] at CO
  have HO := hid CO
  have g1 : 1 ≤ G := by omega
  have g2 : G ≤ 16 := by omega
  have HCS' := hid (fun p w => HCS.out p w g1 g2)
  clear CO hb HCS hA
  obtain ⟨q, hq⟩ : ∃ q, q = G % 2 := ⟨_, rfl⟩
  have htm : G.tmod 2 = q := by rw [hq, Int.tmod_eq_emod_of_nonneg (by omega)]
  rw [← hq] at hE
  have hq01 : 0 ≤ q ∧ q < 2 := by omega
  clear hq
  have hS := (SL.nil w).box (.cells #[.bool R, .int .i64 G, .int .i64 T, .slice ad S.length cap] 27)
  by_cases h17 : R = true ∧ q = 1
  ·rw [if_pos h17] at hE
   obtain ⟨rfl, rfl⟩ := h17
   subst hE
   go_enter Tryz.func8, Tryz.ntmps8
   go_wp2_with fail
   refine (HO.out _).mono ?_
   rintro e w1 ⟨rfl, rfl⟩
   go_wp2_with fail
   go_ret
   exact ⟨rfl, bal (Below.refl _ _) _⟩
  ·rw [if_neg h17] at hE
   have hRq : (R = true ∧ (q == 1) = false) ∨ R = false := by
    cases R
    ·exact .inr rfl
    ·exact .inl ⟨rfl, by simpa using h17⟩
   clear h17
   by_cases hT : T ≠ 1 ∧ T ≠ -1
   ·rw [if_pos hT] at hE
    have t1 : (T != 1) = true := by simpa using hT.1
    have t2 : (T != -1) = true := by simpa using hT.2
    clear hT
    subst hE
    rcases hRq with ⟨rfl, hq1⟩ | rfl
    all_goals
     go_enter Tryz.func8, Tryz.ntmps8
     go_wp2_with fail
     refine (HO.out _).mono ?_
     rintro e w1 ⟨rfl, rfl⟩
     go_wp2_with fail
     go_ret
     exact ⟨rfl, bal (Below.refl _ _) _⟩
   ·rw [if_neg hT] at hE
    have hT2 : T = 1 ∨ T = -1 := by omega
    clear hT
    by_cases hL : G < S.length
    ·rw [if_pos hL] at hE
     subst hE
     rcases hRq with ⟨rfl, hq1⟩ | rfl <;> rcases hT2 with rfl | rfl
     all_goals
      go_enter Tryz.func8, Tryz.ntmps8
      go_wp2_with fail
      refine (HO.out _).mono ?_
      rintro e w1 ⟨rfl, rfl⟩
      go_wp2_with fail
      go_ret
      exact ⟨rfl, bal (Below.refl _ _) _⟩
    ·rw [if_neg hL] at hE
     have HE := hid hE
     clear hE
     have hS16 : S.length ≤ 16 := by omega
     rcases hRq with ⟨rfl, hq1⟩ | rfl <;> rcases hT2 with rfl | rfl
     ·go_enter Tryz.func8, Tryz.ntmps8
      go_wp2_with fail
      refine (HO.out _).mono ?_
      rintro e w1 ⟨rfl, rfl⟩
      go_wp2_with fail
      go_loopw [3] (fun i wr => ∃ k : Nat, k ≤ S.length ∧ i = .int .i64 k ∧ sg k = sg 0 ∧ SL w.heap.size w wr [pBlk w.heap.size (.cells #[.bool true, .int .i64 G, .int .i64 1, .slice ad S.length cap] 27)]) (fun i _ => S.length - (intOf i).toNat)
      case atStart => exact ⟨0, by omega, rfl, rfl, hS⟩
      case round =>
       clear hS
       obtain ⟨k, hk, rfl, hgo, hSr⟩ := hrel
       have q1 := (hSr.blk 0 rfl).1
       have hRr := hR.below hSr.b
       by_cases hlt : k < S.length
       ·have hst := HSW.out k hlt
        rw [hgo] at hst
        obtain ⟨x, hx⟩ : ∃ x, x = atD 0 S k := ⟨_, rfl⟩
        rw [← hx] at hst
        obtain ⟨b, hb⟩ : ∃ b, b = sh x := ⟨_, rfl⟩
        have CS := fun w => HCS'.out x w
        rw [← hb] at hst CS
        have HX := hid hx; have HC := hid CS
        clear hx hb CS hgo
        cases b
        ·rw [if_pos rfl] at hst
         have HST := hid hst
         clear hst
         go_wp2_with (with_reducible refine wpList_ldB F_sliceM wU wU q1 wU ?_)
         refine wp_region_q kR kR ?_
         repeat (first | ((with_reducible refine wpB_loadS (n := 4) (us := #[.bool true, .int .i64 G, .int .i64 1, .slice ad S.length cap]) A_rmach kR wU wU (by assumption) wU wU ?_); (try simp only [Act.put, pA, pB, pC])) | ((with_reducible refine wpB_load F_sliceM wU wU (by assumption) wU ?_); (try simp only [Act.put, pA, pB, pC])) | (((with_reducible refine wpB_idx2 0 E_ints F_int cInt1 wU (rfl) wU (hRr) oD oD (fun _ => wU) (fun _ => ?_)); (try simp only [Act.put, pA, pB, pC]); (try simp only [cInt])); rw [← HX.out]) | ((refine wpB_call (.bool false) wU (fun w' => ?_) (fun w' hw' => HC.out w') ?_); (focus (go_simp; done)); (try simp only [Act.put, pA, pB, pC])) |  ((with_reducible refine wpB_load (by first | exact F_int | fail) wU wU (by assumption) wU ?_); (try simp only [Act.put, pA, pB, pC])) | ((with_reducible refine wpB_loadS (n := 2) (us := #[_, _]) (by fail) kR wU wU (by assumption) wU wU ?_); (try simp only [Act.put, pA, pB, pC])) | ((with_reducible refine wpB_loadS (n := 4) (us := #[_, _, _, _]) (by fail) kR wU wU (by assumption) wU wU ?_); (try simp only [Act.put, pA, pB, pC])) | ((refine wpQ_oneG ?_ wU (fun w' => ?_) ?_); rotate_left; (go_simp; rfl); (try simp only [Act.put, pA, pB, pC])))
         refine wpQuiet_nil ?_
         intro w4 hb4
         go_wp2_with fail
         go_ret
         exact ⟨by rw [HE.out, HST.out]; rfl, bnext hSr.b hb4⟩
        ·rw [if_neg (by decide)] at hst
         by_cases hk0 : k = 0
         ·have hst2 : sg (k + 1) = sg 0 := by rw [hst, if_neg (by omega)]
          have hd : decide (0 < k) = false := by simp; omega
          have HST := hid hst2
          clear hst hst2 hk0
          go_wp2_with (with_reducible refine wpList_ldB F_sliceM wU wU q1 wU ?_)
          refine wp_region_q kR kR ?_
          repeat (first | ((with_reducible refine wpB_loadS (n := 4) (us := #[.bool true, .int .i64 G, .int .i64 1, .slice ad S.length cap]) A_rmach kR wU wU (by assumption) wU wU ?_); (try simp only [Act.put, pA, pB, pC])) | ((with_reducible refine wpB_load F_sliceM wU wU (by assumption) wU ?_); (try simp only [Act.put, pA, pB, pC])) | (((with_reducible refine wpB_idx2 0 E_ints F_int cInt1 wU (rfl) wU (hRr) oD oD (fun _ => wU) (fun _ => ?_)); (try simp only [Act.put, pA, pB, pC]); (try simp only [cInt])); rw [← HX.out]) | ((refine wpB_call (.bool true) wU (fun w' => ?_) (fun w' hw' => HC.out w') ?_); (focus (go_simp; done)); (try simp only [Act.put, pA, pB, pC])) |  ((with_reducible refine wpB_load (by first | exact F_int | fail) wU wU (by assumption) wU ?_); (try simp only [Act.put, pA, pB, pC])) | ((with_reducible refine wpB_loadS (n := 2) (us := #[_, _]) (by fail) kR wU wU (by assumption) wU wU ?_); (try simp only [Act.put, pA, pB, pC])) | ((with_reducible refine wpB_loadS (n := 4) (us := #[_, _, _, _]) (by fail) kR wU wU (by assumption) wU wU ?_); (try simp only [Act.put, pA, pB, pC])) | ((refine wpQ_oneG ?_ wU (fun w' => ?_) ?_); rotate_left; (go_simp; rfl); (try simp only [Act.put, pA, pB, pC])))
          refine wpQuiet_nil ?_
          intro w4 hb4
          have hS4 := hSr.mono hb4
          have q4 := (hS4.blk 0 rfl).1
          go_wp2_with fail
          refine wp_region_q kR kR ?_
          repeat (first | ((try simp only [hd]); ((with_reducible refine wpQ_skip wU ?_); (try simp only [Act.put, pA, pB, pC]))) |  ((with_reducible refine wpB_load (by first | exact F_int | fail) wU wU (by assumption) wU ?_); (try simp only [Act.put, pA, pB, pC])) | ((with_reducible refine wpB_loadS (n := 2) (us := #[_, _]) (by fail) kR wU wU (by assumption) wU wU ?_); (try simp only [Act.put, pA, pB, pC])) | ((with_reducible refine wpB_loadS (n := 4) (us := #[_, _, _, _]) (by fail) kR wU wU (by assumption) wU wU ?_); (try simp only [Act.put, pA, pB, pC])) | ((refine wpQ_oneG ?_ wU (fun w' => ?_) ?_); rotate_left; (go_simp; rfl); (try simp only [Act.put, pA, pB, pC])))
          refine wpQuiet_nil ?_
          intro w5 hb5
          have hS5 := hS4.mono hb5
          go_wp2_with fail
          exact ⟨⟨k + 1, by omega, by go_num, HST.out, hS5⟩, by simp [intOf]; omega⟩
         ·have hd : decide (0 < k) = true := by simp; omega
          have hk1 : 0 ≤ (k : Int) - 1 ∧ (k : Int) - 1 < S.length := by omega
          have hwk : IntKind.i64.wrap ((k : Int) - 1) = (k : Int) - 1 := IntWalk.i64_in _ (by omega)
          obtain ⟨y, hy⟩ : ∃ y, y = atD 0 S ((k : Int) - 1) := ⟨_, rfl⟩
          rw [← hy] at hst
          have HY := hid hy
          clear hy
          by_cases hxy : x ≤ y
          ·rw [if_pos ⟨by omega, hxy⟩] at hst
           have HST := hid hst
           have hdx : decide (x ≤ y) = true := decide_eq_true hxy
           clear hst hk0
           go_wp2_with (with_reducible refine wpList_ldB F_sliceM wU wU q1 wU ?_)
           refine wp_region_q kR kR ?_
           repeat (first | ((with_reducible refine wpB_loadS (n := 4) (us := #[.bool true, .int .i64 G, .int .i64 1, .slice ad S.length cap]) A_rmach kR wU wU (by assumption) wU wU ?_); (try simp only [Act.put, pA, pB, pC])) | ((with_reducible refine wpB_load F_sliceM wU wU (by assumption) wU ?_); (try simp only [Act.put, pA, pB, pC])) | (((with_reducible refine wpB_idx2 0 E_ints F_int cInt1 wU (rfl) wU (hRr) oD oD (fun _ => wU) (fun _ => ?_)); (try simp only [Act.put, pA, pB, pC]); (try simp only [cInt])); rw [← HX.out]) | ((refine wpB_call (.bool true) wU (fun w' => ?_) (fun w' hw' => HC.out w') ?_); (focus (go_simp; done)); (try simp only [Act.put, pA, pB, pC])) |  ((with_reducible refine wpB_load (by first | exact F_int | fail) wU wU (by assumption) wU ?_); (try simp only [Act.put, pA, pB, pC])) | ((with_reducible refine wpB_loadS (n := 2) (us := #[_, _]) (by fail) kR wU wU (by assumption) wU wU ?_); (try simp only [Act.put, pA, pB, pC])) | ((with_reducible refine wpB_loadS (n := 4) (us := #[_, _, _, _]) (by fail) kR wU wU (by assumption) wU wU ?_); (try simp only [Act.put, pA, pB, pC])) | ((refine wpQ_oneG ?_ wU (fun w' => ?_) ?_); rotate_left; (go_simp; rfl); (try simp only [Act.put, pA, pB, pC])))
           refine wpQuiet_nil ?_
           intro w4 hb4
           have hS4 := hSr.mono hb4
           have q4 := (hS4.blk 0 rfl).1
           have hR4 := hR.below hS4.b
           clear q1
           go_wp2_with fail
           refine wp_region_q kR kR ?_
           repeat (first | ((try simp only [hd]); ((with_reducible refine wpB_load F_sliceM wU wU (by assumption) wU ?_); (try simp only [Act.put, pA, pB, pC]))) | (((with_reducible refine wpB_idxW 0 E_ints F_int cInt1 wU (rfl) wU (hR4) oD oD (fun _ => wU) wU (fun _ => wU) (fun _ => ?_)); (try simp only [Act.put, pA, pB, pC]); (try simp only [cInt])); first | rw [← HX.out] | rw [← HY.out]) |  ((with_reducible refine wpB_load (by first | exact F_int | fail) wU wU (by assumption) wU ?_); (try simp only [Act.put, pA, pB, pC])) | ((with_reducible refine wpB_loadS (n := 2) (us := #[_, _]) (by fail) kR wU wU (by assumption) wU wU ?_); (try simp only [Act.put, pA, pB, pC])) | ((with_reducible refine wpB_loadS (n := 4) (us := #[_, _, _, _]) (by fail) kR wU wU (by assumption) wU wU ?_); (try simp only [Act.put, pA, pB, pC])) | ((refine wpQ_oneG ?_ wU (fun w' => ?_) ?_); rotate_left; (go_simp; rfl); (try simp only [Act.put, pA, pB, pC])))
           refine wpQuiet_nil ?_
           intro w5 hb5
           go_wp2_with fail
           go_ret
           exact ⟨by rw [HE.out, HST.out]; rfl, bnext hS4.b hb5⟩
          ·rw [if_neg (fun h => hxy h.2)] at hst
           have HST := hid hst
           have hdx : decide (x ≤ y) = false := decide_eq_false hxy
           clear hst hk0
           go_wp2_with (with_reducible refine wpList_ldB F_sliceM wU wU q1 wU ?_)
           refine wp_region_q kR kR ?_
           repeat (first | ((with_reducible refine wpB_loadS (n := 4) (us := #[.bool true, .int .i64 G, .int .i64 1, .slice ad S.length cap]) A_rmach kR wU wU (by assumption) wU wU ?_); (try simp only [Act.put, pA, pB, pC])) | ((with_reducible refine wpB_load F_sliceM wU wU (by assumption) wU ?_); (try simp only [Act.put, pA, pB, pC])) | (((with_reducible refine wpB_idx2 0 E_ints F_int cInt1 wU (rfl) wU (hRr) oD oD (fun _ => wU) (fun _ => ?_)); (try simp only [Act.put, pA, pB, pC]); (try simp only [cInt])); rw [← HX.out]) | ((refine wpB_call (.bool true) wU (fun w' => ?_) (fun w' hw' => HC.out w') ?_); (focus (go_simp; done)); (try simp only [Act.put, pA, pB, pC])) |  ((with_reducible refine wpB_load (by first | exact F_int | fail) wU wU (by assumption) wU ?_); (try simp only [Act.put, pA, pB, pC])) | ((with_reducible refine wpB_loadS (n := 2) (us := #[_, _]) (by fail) kR wU wU (by assumption) wU wU ?_); (try simp only [Act.put, pA, pB, pC])) | ((with_reducible refine wpB_loadS (n := 4) (us := #[_, _, _, _]) (by fail) kR wU wU (by assumption) wU wU ?_); (try simp only [Act.put, pA, pB, pC])) | ((refine wpQ_oneG ?_ wU (fun w' => ?_) ?_); rotate_left; (go_simp; rfl); (try simp only [Act.put, pA, pB, pC])))
           refine wpQuiet_nil ?_
           intro w4 hb4
           have hS4 := hSr.mono hb4
           have q4 := (hS4.blk 0 rfl).1
           have hR4 := hR.below hS4.b
           clear q1
           go_wp2_with fail
           refine wp_region_q kR kR ?_
           repeat (first | ((try simp only [hd]); ((with_reducible refine wpB_load F_sliceM wU wU (by assumption) wU ?_); (try simp only [Act.put, pA, pB, pC]))) | (((with_reducible refine wpB_idxW 0 E_ints F_int cInt1 wU (rfl) wU (hR4) oD oD (fun _ => wU) wU (fun _ => wU) (fun _ => ?_)); (try simp only [Act.put, pA, pB, pC]); (try simp only [cInt])); first | rw [← HX.out] | rw [← HY.out]) |  ((with_reducible refine wpB_load (by first | exact F_int | fail) wU wU (by assumption) wU ?_); (try simp only [Act.put, pA, pB, pC])) | ((with_reducible refine wpB_loadS (n := 2) (us := #[_, _]) (by fail) kR wU wU (by assumption) wU wU ?_); (try simp only [Act.put, pA, pB, pC])) | ((with_reducible refine wpB_loadS (n := 4) (us := #[_, _, _, _]) (by fail) kR wU wU (by assumption) wU wU ?_); (try simp only [Act.put, pA, pB, pC])) | ((refine wpQ_oneG ?_ wU (fun w' => ?_) ?_); rotate_left; (go_simp; rfl); (try simp only [Act.put, pA, pB, pC])))
           refine wpQuiet_nil ?_
           intro w5 hb5
           have hS5 := hS4.mono hb5
           go_wp2_with fail
           exact ⟨⟨k + 1, by omega, by go_num, HST.out.symm, hS5⟩, by simp [intOf]; omega⟩
       ·have hkn : k = S.length := by omega
        subst hkn
        have he : E = 0 := by rw [HE.out, ← hgo, HSE.out]
        have HEE := hid he
        clear he hgo
        go_wp2_with (with_reducible refine wpList_ldB F_sliceM wU wU q1 wU ?_)
        go_ret
        exact ⟨by rw [HEE.out]; rfl, hSr.b⟩
     ·go_enter Tryz.func8, Tryz.ntmps8
      go_wp2_with fail
      refine (HO.out _).mono ?_
      rintro e w1 ⟨rfl, rfl⟩
      go_wp2_with fail
      go_loopw [3] (fun i wr => ∃ k : Nat, k ≤ S.length ∧ i = .int .i64 k ∧ sg k = sg 0 ∧ SL w.heap.size w wr [pBlk w.heap.size (.cells #[.bool true, .int .i64 G, .int .i64 (-1), .slice ad S.length cap] 27)]) (fun i _ => S.length - (intOf i).toNat)
      case atStart => exact ⟨0, by omega, rfl, rfl, hS⟩
      case round =>
       clear hS
       obtain ⟨k, hk, rfl, hgo, hSr⟩ := hrel
       have q1 := (hSr.blk 0 rfl).1
       have hRr := hR.below hSr.b
       by_cases hlt : k < S.length
       ·have hst := HSW.out k hlt
        rw [hgo] at hst
        obtain ⟨x, hx⟩ : ∃ x, x = atD 0 S k := ⟨_, rfl⟩
        rw [← hx] at hst
        obtain ⟨b, hb⟩ : ∃ b, b = sh x := ⟨_, rfl⟩
        have CS := fun w => HCS'.out x w
        rw [← hb] at hst CS
        have HX := hid hx; have HC := hid CS
        clear hx hb CS hgo
        cases b
        ·rw [if_pos rfl] at hst
         have HST := hid hst
         clear hst
         go_wp2_with (with_reducible refine wpList_ldB F_sliceM wU wU q1 wU ?_)
         refine wp_region_q kR kR ?_
         repeat (first | ((with_reducible refine wpB_loadS (n := 4) (us := #[.bool true, .int .i64 G, .int .i64 (-1), .slice ad S.length cap]) A_rmach kR wU wU (by assumption) wU wU ?_); (try simp only [Act.put, pA, pB, pC])) | ((with_reducible refine wpB_load F_sliceM wU wU (by assumption) wU ?_); (try simp only [Act.put, pA, pB, pC])) | (((with_reducible refine wpB_idx2 0 E_ints F_int cInt1 wU (rfl) wU (hRr) oD oD (fun _ => wU) (fun _ => ?_)); (try simp only [Act.put, pA, pB, pC]); (try simp only [cInt])); rw [← HX.out]) | ((refine wpB_call (.bool false) wU (fun w' => ?_) (fun w' hw' => HC.out w') ?_); (focus (go_simp; done)); (try simp only [Act.put, pA, pB, pC])) |  ((with_reducible refine wpB_load (by first | exact F_int | fail) wU wU (by assumption) wU ?_); (try simp only [Act.put, pA, pB, pC])) | ((with_reducible refine wpB_loadS (n := 2) (us := #[_, _]) (by fail) kR wU wU (by assumption) wU wU ?_); (try simp only [Act.put, pA, pB, pC])) | ((with_reducible refine wpB_loadS (n := 4) (us := #[_, _, _, _]) (by fail) kR wU wU (by assumption) wU wU ?_); (try simp only [Act.put, pA, pB, pC])) | ((refine wpQ_oneG ?_ wU (fun w' => ?_) ?_); rotate_left; (go_simp; rfl); (try simp only [Act.put, pA, pB, pC])))
         refine wpQuiet_nil ?_
         intro w4 hb4
         go_wp2_with fail
         go_ret
         exact ⟨by rw [HE.out, HST.out]; rfl, bnext hSr.b hb4⟩
        ·rw [if_neg (by decide)] at hst
         by_cases hk0 : k = 0
         ·have hst2 : sg (k + 1) = sg 0 := by rw [hst, if_neg (by omega)]
          have hd : decide (0 < k) = false := by simp; omega
          have HST := hid hst2
          clear hst hst2 hk0
          go_wp2_with (with_reducible refine wpList_ldB F_sliceM wU wU q1 wU ?_)
          refine wp_region_q kR kR ?_
          repeat (first | ((with_reducible refine wpB_loadS (n := 4) (us := #[.bool true, .int .i64 G, .int .i64 (-1), .slice ad S.length cap]) A_rmach kR wU wU (by assumption) wU wU ?_); (try simp only [Act.put, pA, pB, pC])) | ((with_reducible refine wpB_load F_sliceM wU wU (by assumption) wU ?_); (try simp only [Act.put, pA, pB, pC])) | (((with_reducible refine wpB_idx2 0 E_ints F_int cInt1 wU (rfl) wU (hRr) oD oD (fun _ => wU) (fun _ => ?_)); (try simp only [Act.put, pA, pB, pC]); (try simp only [cInt])); rw [← HX.out]) | ((refine wpB_call (.bool true) wU (fun w' => ?_) (fun w' hw' => HC.out w') ?_); (focus (go_simp; done)); (try simp only [Act.put, pA, pB, pC])) |  ((with_reducible refine wpB_load (by first | exact F_int | fail) wU wU (by assumption) wU ?_); (try simp only [Act.put, pA, pB, pC])) | ((with_reducible refine wpB_loadS (n := 2) (us := #[_, _]) (by fail) kR wU wU (by assumption) wU wU ?_); (try simp only [Act.put, pA, pB, pC])) | ((with_reducible refine wpB_loadS (n := 4) (us := #[_, _, _, _]) (by fail) kR wU wU (by assumption) wU wU ?_); (try simp only [Act.put, pA, pB, pC])) | ((refine wpQ_oneG ?_ wU (fun w' => ?_) ?_); rotate_left; (go_simp; rfl); (try simp only [Act.put, pA, pB, pC])))
          refine wpQuiet_nil ?_
          intro w4 hb4
          have hS4 := hSr.mono hb4
          have q4 := (hS4.blk 0 rfl).1
          go_wp2_with fail
          refine wp_region_q kR kR ?_
          repeat (first | ((try simp only [hd]); ((with_reducible refine wpQ_skip wU ?_); (try simp only [Act.put, pA, pB, pC]))) |  ((with_reducible refine wpB_load (by first | exact F_int | fail) wU wU (by assumption) wU ?_); (try simp only [Act.put, pA, pB, pC])) | ((with_reducible refine wpB_loadS (n := 2) (us := #[_, _]) (by fail) kR wU wU (by assumption) wU wU ?_); (try simp only [Act.put, pA, pB, pC])) | ((with_reducible refine wpB_loadS (n := 4) (us := #[_, _, _, _]) (by fail) kR wU wU (by assumption) wU wU ?_); (try simp only [Act.put, pA, pB, pC])) | ((refine wpQ_oneG ?_ wU (fun w' => ?_) ?_); rotate_left; (go_simp; rfl); (try simp only [Act.put, pA, pB, pC])))
          refine wpQuiet_nil ?_
          intro w5 hb5
          have hS5 := hS4.mono hb5
          go_wp2_with fail
          exact ⟨⟨k + 1, by omega, by go_num, HST.out, hS5⟩, by simp [intOf]; omega⟩
         ·have hd : decide (0 < k) = true := by simp; omega
          have hk1 : 0 ≤ (k : Int) - 1 ∧ (k : Int) - 1 < S.length := by omega
          have hwk : IntKind.i64.wrap ((k : Int) - 1) = (k : Int) - 1 := IntWalk.i64_in _ (by omega)
          obtain ⟨y, hy⟩ : ∃ y, y = atD 0 S ((k : Int) - 1) := ⟨_, rfl⟩
          rw [← hy] at hst
          have HY := hid hy
          clear hy
          by_cases hxy : x ≤ y
          ·rw [if_pos ⟨by omega, hxy⟩] at hst
           have HST := hid hst
           have hdx : decide (x ≤ y) = true := decide_eq_true hxy
           clear hst hk0
           go_wp2_with (with_reducible refine wpList_ldB F_sliceM wU wU q1 wU ?_)
           refine wp_region_q kR kR ?_
           repeat (first | ((with_reducible refine wpB_loadS (n := 4) (us := #[.bool true, .int .i64 G, .int .i64 (-1), .slice ad S.length cap]) A_rmach kR wU wU (by assumption) wU wU ?_); (try simp only [Act.put, pA, pB, pC])) | ((with_reducible refine wpB_load F_sliceM wU wU (by assumption) wU ?_); (try simp only [Act.put, pA, pB, pC])) | (((with_reducible refine wpB_idx2 0 E_ints F_int cInt1 wU (rfl) wU (hRr) oD oD (fun _ => wU) (fun _ => ?_)); (try simp only [Act.put, pA, pB, pC]); (try simp only [cInt])); rw [← HX.out]) | ((refine wpB_call (.bool true) wU (fun w' => ?_) (fun w' hw' => HC.out w') ?_); (focus (go_simp; done)); (try simp only [Act.put, pA, pB, pC])) |  ((with_reducible refine wpB_load (by first | exact F_int | fail) wU wU (by assumption) wU ?_); (try simp only [Act.put, pA, pB, pC])) | ((with_reducible refine wpB_loadS (n := 2) (us := #[_, _]) (by fail) kR wU wU (by assumption) wU wU ?_); (try simp only [Act.put, pA, pB, pC])) | ((with_reducible refine wpB_loadS (n := 4) (us := #[_, _, _, _]) (by fail) kR wU wU (by assumption) wU wU ?_); (try simp only [Act.put, pA, pB, pC])) | ((refine wpQ_oneG ?_ wU (fun w' => ?_) ?_); rotate_left; (go_simp; rfl); (try simp only [Act.put, pA, pB, pC])))
           refine wpQuiet_nil ?_
           intro w4 hb4
           have hS4 := hSr.mono hb4
           have q4 := (hS4.blk 0 rfl).1
           have hR4 := hR.below hS4.b
           clear q1
           go_wp2_with fail
           refine wp_region_q kR kR ?_
           repeat (first | ((try simp only [hd]); ((with_reducible refine wpB_load F_sliceM wU wU (by assumption) wU ?_); (try simp only [Act.put, pA, pB, pC]))) | (((with_reducible refine wpB_idxW 0 E_ints F_int cInt1 wU (rfl) wU (hR4) oD oD (fun _ => wU) wU (fun _ => wU) (fun _ => ?_)); (try simp only [Act.put, pA, pB, pC]); (try simp only [cInt])); first | rw [← HX.out] | rw [← HY.out]) |  ((with_reducible refine wpB_load (by first | exact F_int | fail) wU wU (by assumption) wU ?_); (try simp only [Act.put, pA, pB, pC])) | ((with_reducible refine wpB_loadS (n := 2) (us := #[_, _]) (by fail) kR wU wU (by assumption) wU wU ?_); (try simp only [Act.put, pA, pB, pC])) | ((with_reducible refine wpB_loadS (n := 4) (us := #[_, _, _, _]) (by fail) kR wU wU (by assumption) wU wU ?_); (try simp only [Act.put, pA, pB, pC])) | ((refine wpQ_oneG ?_ wU (fun w' => ?_) ?_); rotate_left; (go_simp; rfl); (try simp only [Act.put, pA, pB, pC])))
           refine wpQuiet_nil ?_
           intro w5 hb5
           go_wp2_with fail
           go_ret
           exact ⟨by rw [HE.out, HST.out]; rfl, bnext hS4.b hb5⟩
          ·rw [if_neg (fun h => hxy h.2)] at hst
           have HST := hid hst
           have hdx : decide (x ≤ y) = false := decide_eq_false hxy
           clear hst hk0
           go_wp2_with (with_reducible refine wpList_ldB F_sliceM wU wU q1 wU ?_)
           refine wp_region_q kR kR ?_
           repeat (first | ((with_reducible refine wpB_loadS (n := 4) (us := #[.bool true, .int .i64 G, .int .i64 (-1), .slice ad S.length cap]) A_rmach kR wU wU (by assumption) wU wU ?_); (try simp only [Act.put, pA, pB, pC])) | ((with_reducible refine wpB_load F_sliceM wU wU (by assumption) wU ?_); (try simp only [Act.put, pA, pB, pC])) | (((with_reducible refine wpB_idx2 0 E_ints F_int cInt1 wU (rfl) wU (hRr) oD oD (fun _ => wU) (fun _ => ?_)); (try simp only [Act.put, pA, pB, pC]); (try simp only [cInt])); rw [← HX.out]) | ((refine wpB_call (.bool true) wU (fun w' => ?_) (fun w' hw' => HC.out w') ?_); (focus (go_simp; done)); (try simp only [Act.put, pA, pB, pC])) |  ((with_reducible refine wpB_load (by first | exact F_int | fail) wU wU (by assumption) wU ?_); (try simp only [Act.put, pA, pB, pC])) | ((with_reducible refine wpB_loadS (n := 2) (us := #[_, _]) (by fail) kR wU wU (by assumption) wU wU ?_); (try simp only [Act.put, pA, pB, pC])) | ((with_reducible refine wpB_loadS (n := 4) (us := #[_, _, _, _]) (by fail) kR wU wU (by assumption) wU wU ?_); (try simp only [Act.put, pA, pB, pC])) | ((refine wpQ_oneG ?_ wU (fun w' => ?_) ?_); rotate_left; (go_simp; rfl); (try simp only [Act.put, pA, pB, pC])))
           refine wpQuiet_nil ?_
           intro w4 hb4
           have hS4 := hSr.mono hb4
           have q4 := (hS4.blk 0 rfl).1
           have hR4 := hR.below hS4.b
           clear q1
           go_wp2_with fail
           refine wp_region_q kR kR ?_
           repeat (first | ((try simp only [hd]); ((with_reducible refine wpB_load F_sliceM wU wU (by assumption) wU ?_); (try simp only [Act.put, pA, pB, pC]))) | (((with_reducible refine wpB_idxW 0 E_ints F_int cInt1 wU (rfl) wU (hR4) oD oD (fun _ => wU) wU (fun _ => wU) (fun _ => ?_)); (try simp only [Act.put, pA, pB, pC]); (try simp only [cInt])); first | rw [← HX.out] | rw [← HY.out]) |  ((with_reducible refine wpB_load (by first | exact F_int | fail) wU wU (by assumption) wU ?_); (try simp only [Act.put, pA, pB, pC])) | ((with_reducible refine wpB_loadS (n := 2) (us := #[_, _]) (by fail) kR wU wU (by assumption) wU wU ?_); (try simp only [Act.put, pA, pB, pC])) | ((with_reducible refine wpB_loadS (n := 4) (us := #[_, _, _, _]) (by fail) kR wU wU (by assumption) wU wU ?_); (try simp only [Act.put, pA, pB, pC])) | ((refine wpQ_oneG ?_ wU (fun w' => ?_) ?_); rotate_left; (go_simp; rfl); (try simp only [Act.put, pA, pB, pC])))
           refine wpQuiet_nil ?_
           intro w5 hb5
           have hS5 := hS4.mono hb5
           go_wp2_with fail
           exact ⟨⟨k + 1, by omega, by go_num, HST.out.symm, hS5⟩, by simp [intOf]; omega⟩
       ·have hkn : k = S.length := by omega
        subst hkn
        have he : E = 0 := by rw [HE.out, ← hgo, HSE.out]
        have HEE := hid he
        clear he hgo
        go_wp2_with (with_reducible refine wpList_ldB F_sliceM wU wU q1 wU ?_)
        go_ret
        exact ⟨by rw [HEE.out]; rfl, hSr.b⟩
     ·go_enter Tryz.func8, Tryz.ntmps8
      go_wp2_with fail
      refine (HO.out _).mono ?_
      rintro e w1 ⟨rfl, rfl⟩
      go_wp2_with fail
      go_loopw [3] (fun i wr => ∃ k : Nat, k ≤ S.length ∧ i = .int .i64 k ∧ sg k = sg 0 ∧ SL w.heap.size w wr [pBlk w.heap.size (.cells #[.bool false, .int .i64 G, .int .i64 1, .slice ad S.length cap] 27)]) (fun i _ => S.length - (intOf i).toNat)
      case atStart => exact ⟨0, by omega, rfl, rfl, hS⟩
      case round =>
       clear hS
       obtain ⟨k, hk, rfl, hgo, hSr⟩ := hrel
       have q1 := (hSr.blk 0 rfl).1
       have hRr := hR.below hSr.b
       by_cases hlt : k < S.length
       ·have hst := HSW.out k hlt
        rw [hgo] at hst
        obtain ⟨x, hx⟩ : ∃ x, x = atD 0 S k := ⟨_, rfl⟩
        rw [← hx] at hst
        obtain ⟨b, hb⟩ : ∃ b, b = sh x := ⟨_, rfl⟩
        have CS := fun w => HCS'.out x w
        rw [← hb] at hst CS
        have HX := hid hx; have HC := hid CS
        clear hx hb CS hgo
        cases b
        ·rw [if_pos rfl] at hst
         have HST := hid hst
         clear hst
         go_wp2_with (with_reducible refine wpList_ldB F_sliceM wU wU q1 wU ?_)
         refine wp_region_q kR kR ?_
         repeat (first | ((with_reducible refine wpB_loadS (n := 4) (us := #[.bool false, .int .i64 G, .int .i64 1, .slice ad S.length cap]) A_rmach kR wU wU (by assumption) wU wU ?_); (try simp only [Act.put, pA, pB, pC])) | ((with_reducible refine wpB_load F_sliceM wU wU (by assumption) wU ?_); (try simp only [Act.put, pA, pB, pC])) | (((with_reducible refine wpB_idx2 0 E_ints F_int cInt1 wU (rfl) wU (hRr) oD oD (fun _ => wU) (fun _ => ?_)); (try simp only [Act.put, pA, pB, pC]); (try simp only [cInt])); rw [← HX.out]) | ((refine wpB_call (.bool false) wU (fun w' => ?_) (fun w' hw' => HC.out w') ?_); (focus (go_simp; done)); (try simp only [Act.put, pA, pB, pC])) |  ((with_reducible refine wpB_load (by first | exact F_int | fail) wU wU (by assumption) wU ?_); (try simp only [Act.put, pA, pB, pC])) | ((with_reducible refine wpB_loadS (n := 2) (us := #[_, _]) (by fail) kR wU wU (by assumption) wU wU ?_); (try simp only [Act.put, pA, pB, pC])) | ((with_reducible refine wpB_loadS (n := 4) (us := #[_, _, _, _]) (by fail) kR wU wU (by assumption) wU wU ?_); (try simp only [Act.put, pA, pB, pC])) | ((refine wpQ_oneG ?_ wU (fun w' => ?_) ?_); rotate_left; (go_simp; rfl); (try simp only [Act.put, pA, pB, pC])))
         refine wpQuiet_nil ?_
         intro w4 hb4
         go_wp2_with fail
         go_ret
         exact ⟨by rw [HE.out, HST.out]; rfl, bnext hSr.b hb4⟩
        ·rw [if_neg (by decide)] at hst
         by_cases hk0 : k = 0
         ·have hst2 : sg (k + 1) = sg 0 := by rw [hst, if_neg (by omega)]
          have hd : decide (0 < k) = false := by simp; omega
          have HST := hid hst2
          clear hst hst2 hk0
          go_wp2_with (with_reducible refine wpList_ldB F_sliceM wU wU q1 wU ?_)
          refine wp_region_q kR kR ?_
          repeat (first | ((with_reducible refine wpB_loadS (n := 4) (us := #[.bool false, .int .i64 G, .int .i64 1, .slice ad S.length cap]) A_rmach kR wU wU (by assumption) wU wU ?_); (try simp only [Act.put, pA, pB, pC])) | ((with_reducible refine wpB_load F_sliceM wU wU (by assumption) wU ?_); (try simp only [Act.put, pA, pB, pC])) | (((with_reducible refine wpB_idx2 0 E_ints F_int cInt1 wU (rfl) wU (hRr) oD oD (fun _ => wU) (fun _ => ?_)); (try simp only [Act.put, pA, pB, pC]); (try simp only [cInt])); rw [← HX.out]) | ((refine wpB_call (.bool true) wU (fun w' => ?_) (fun w' hw' => HC.out w') ?_); (focus (go_simp; done)); (try simp only [Act.put, pA, pB, pC])) |  ((with_reducible refine wpB_load (by first | exact F_int | fail) wU wU (by assumption) wU ?_); (try simp only [Act.put, pA, pB, pC])) | ((with_reducible refine wpB_loadS (n := 2) (us := #[_, _]) (by fail) kR wU wU (by assumption) wU wU ?_); (try simp only [Act.put, pA, pB, pC])) | ((with_reducible refine wpB_loadS (n := 4) (us := #[_, _, _, _]) (by fail) kR wU wU (by assumption) wU wU ?_); (try simp only [Act.put, pA, pB, pC])) | ((refine wpQ_oneG ?_ wU (fun w' => ?_) ?_); rotate_left; (go_simp; rfl); (try simp only [Act.put, pA, pB, pC])))
          refine wpQuiet_nil ?_
          intro w4 hb4
          have hS4 := hSr.mono hb4
          have q4 := (hS4.blk 0 rfl).1
          go_wp2_with fail
          refine wp_region_q kR kR ?_
          repeat (first | ((try simp only [hd]); ((with_reducible refine wpQ_skip wU ?_); (try simp only [Act.put, pA, pB, pC]))) |  ((with_reducible refine wpB_load (by first | exact F_int | fail) wU wU (by assumption) wU ?_); (try simp only [Act.put, pA, pB, pC])) | ((with_reducible refine wpB_loadS (n := 2) (us := #[_, _]) (by fail) kR wU wU (by assumption) wU wU ?_); (try simp only [Act.put, pA, pB, pC])) | ((with_reducible refine wpB_loadS (n := 4) (us := #[_, _, _, _]) (by fail) kR wU wU (by assumption) wU wU ?_); (try simp only [Act.put, pA, pB, pC])) | ((refine wpQ_oneG ?_ wU (fun w' => ?_) ?_); rotate_left; (go_simp; rfl); (try simp only [Act.put, pA, pB, pC])))
          refine wpQuiet_nil ?_
          intro w5 hb5
          have hS5 := hS4.mono hb5
          go_wp2_with fail
          exact ⟨⟨k + 1, by omega, by go_num, HST.out, hS5⟩, by simp [intOf]; omega⟩
         ·have hd : decide (0 < k) = true := by simp; omega
          have hk1 : 0 ≤ (k : Int) - 1 ∧ (k : Int) - 1 < S.length := by omega
          have hwk : IntKind.i64.wrap ((k : Int) - 1) = (k : Int) - 1 := IntWalk.i64_in _ (by omega)
          obtain ⟨y, hy⟩ : ∃ y, y = atD 0 S ((k : Int) - 1) := ⟨_, rfl⟩
          rw [← hy] at hst
          have HY := hid hy
          clear hy
          by_cases hxy : x ≤ y
          ·rw [if_pos ⟨by omega, hxy⟩] at hst
           have HST := hid hst
           have hdx : decide (x ≤ y) = true := decide_eq_true hxy
           clear hst hk0
           go_wp2_with (with_reducible refine wpList_ldB F_sliceM wU wU q1 wU ?_)
           refine wp_region_q kR kR ?_
           repeat (first | ((with_reducible refine wpB_loadS (n := 4) (us := #[.bool false, .int .i64 G, .int .i64 1, .slice ad S.length cap]) A_rmach kR wU wU (by assumption) wU wU ?_); (try simp only [Act.put, pA, pB, pC])) | ((with_reducible refine wpB_load F_sliceM wU wU (by assumption) wU ?_); (try simp only [Act.put, pA, pB, pC])) | (((with_reducible refine wpB_idx2 0 E_ints F_int cInt1 wU (rfl) wU (hRr) oD oD (fun _ => wU) (fun _ => ?_)); (try simp only [Act.put, pA, pB, pC]); (try simp only [cInt])); rw [← HX.out]) | ((refine wpB_call (.bool true) wU (fun w' => ?_) (fun w' hw' => HC.out w') ?_); (focus (go_simp; done)); (try simp only [Act.put, pA, pB, pC])) |  ((with_reducible refine wpB_load (by first | exact F_int | fail) wU wU (by assumption) wU ?_); (try simp only [Act.put, pA, pB, pC])) | ((with_reducible refine wpB_loadS (n := 2) (us := #[_, _]) (by fail) kR wU wU (by assumption) wU wU ?_); (try simp only [Act.put, pA, pB, pC])) | ((with_reducible refine wpB_loadS (n := 4) (us := #[_, _, _, _]) (by fail) kR wU wU (by assumption) wU wU ?_); (try simp only [Act.put, pA, pB, pC])) | ((refine wpQ_oneG ?_ wU (fun w' => ?_) ?_); rotate_left; (go_simp; rfl); (try simp only [Act.put, pA, pB, pC])))
           refine wpQuiet_nil ?_
           intro w4 hb4
           have hS4 := hSr.mono hb4
           have q4 := (hS4.blk 0 rfl).1
           have hR4 := hR.below hS4.b
           clear q1
           go_wp2_with fail
           refine wp_region_q kR kR ?_
           repeat (first | ((try simp only [hd]); ((with_reducible refine wpB_load F_sliceM wU wU (by assumption) wU ?_); (try simp only [Act.put, pA, pB, pC]))) | (((with_reducible refine wpB_idxW 0 E_ints F_int cInt1 wU (rfl) wU (hR4) oD oD (fun _ => wU) wU (fun _ => wU) (fun _ => ?_)); (try simp only [Act.put, pA, pB, pC]); (try simp only [cInt])); first | rw [← HX.out] | rw [← HY.out]) |  ((with_reducible refine wpB_load (by first | exact F_int | fail) wU wU (by assumption) wU ?_); (try simp only [Act.put, pA, pB, pC])) | ((with_reducible refine wpB_loadS (n := 2) (us := #[_, _]) (by fail) kR wU wU (by assumption) wU wU ?_); (try simp only [Act.put, pA, pB, pC])) | ((with_reducible refine wpB_loadS (n := 4) (us := #[_, _, _, _]) (by fail) kR wU wU (by assumption) wU wU ?_); (try simp only [Act.put, pA, pB, pC])) | ((refine wpQ_oneG ?_ wU (fun w' => ?_) ?_); rotate_left; (go_simp; rfl); (try simp only [Act.put, pA, pB, pC])))
           refine wpQuiet_nil ?_
           intro w5 hb5
           go_wp2_with fail
           go_ret
           exact ⟨by rw [HE.out, HST.out]; rfl, bnext hS4.b hb5⟩
          ·rw [if_neg (fun h => hxy h.2)] at hst
           have HST := hid hst
           have hdx : decide (x ≤ y) = false := decide_eq_false hxy
           clear hst hk0
           go_wp2_with (with_reducible refine wpList_ldB F_sliceM wU wU q1 wU ?_)
           refine wp_region_q kR kR ?_
           repeat (first | ((with_reducible refine wpB_loadS (n := 4) (us := #[.bool false, .int .i64 G, .int .i64 1, .slice ad S.length cap]) A_rmach kR wU wU (by assumption) wU wU ?_); (try simp only [Act.put, pA, pB, pC])) | ((with_reducible refine wpB_load F_sliceM wU wU (by assumption) wU ?_); (try simp only [Act.put, pA, pB, pC])) | (((with_reducible refine wpB_idx2 0 E_ints F_int cInt1 wU (rfl) wU (hRr) oD oD (fun _ => wU) (fun _ => ?_)); (try simp only [Act.put, pA, pB, pC]); (try simp only [cInt])); rw [← HX.out]) | ((refine wpB_call (.bool true) wU (fun w' => ?_) (fun w' hw' => HC.out w') ?_); (focus (go_simp; done)); (try simp only [Act.put, pA, pB, pC])) |  ((with_reducible refine wpB_load (by first | exact F_int | fail) wU wU (by assumption) wU ?_); (try simp only [Act.put, pA, pB, pC])) | ((with_reducible refine wpB_loadS (n := 2) (us := #[_, _]) (by fail) kR wU wU (by assumption) wU wU ?_); (try simp only [Act.put, pA, pB, pC])) | ((with_reducible refine wpB_loadS (n := 4) (us := #[_, _, _, _]) (by fail) kR wU wU (by assumption) wU wU ?_); (try simp only [Act.put, pA, pB, pC])) | ((refine wpQ_oneG ?_ wU (fun w' => ?_) ?_); rotate_left; (go_simp; rfl); (try simp only [Act.put, pA, pB, pC])))
           refine wpQuiet_nil ?_
           intro w4 hb4
           have hS4 := hSr.mono hb4
           have q4 := (hS4.blk 0 rfl).1
           have hR4 := hR.below hS4.b
           clear q1
           go_wp2_with fail
           refine wp_region_q kR kR ?_
           repeat (first | ((try simp only [hd]); ((with_reducible refine wpB_load F_sliceM wU wU (by assumption) wU ?_); (try simp only [Act.put, pA, pB, pC]))) | (((with_reducible refine wpB_idxW 0 E_ints F_int cInt1 wU (rfl) wU (hR4) oD oD (fun _ => wU) wU (fun _ => wU) (fun _ => ?_)); (try simp only [Act.put, pA, pB, pC]); (try simp only [cInt])); first | rw [← HX.out] | rw [← HY.out]) |  ((with_reducible refine wpB_load (by first | exact F_int | fail) wU wU (by assumption) wU ?_); (try simp only [Act.put, pA, pB, pC])) | ((with_reducible refine wpB_loadS (n := 2) (us := #[_, _]) (by fail) kR wU wU (by assumption) wU wU ?_); (try simp only [Act.put, pA, pB, pC])) | ((with_reducible refine wpB_loadS (n := 4) (us := #[_, _, _, _]) (by fail) kR wU wU (by assumption) wU wU ?_); (try simp only [Act.put, pA, pB, pC])) | ((refine wpQ_oneG ?_ wU (fun w' => ?_) ?_); rotate_left; (go_simp; rfl); (try simp only [Act.put, pA, pB, pC])))
           refine wpQuiet_nil ?_
           intro w5 hb5
           have hS5 := hS4.mono hb5
           go_wp2_with fail
           exact ⟨⟨k + 1, by omega, by go_num, HST.out.symm, hS5⟩, by simp [intOf]; omega⟩
       ·have hkn : k = S.length := by omega
        subst hkn
        have he : E = 0 := by rw [HE.out, ← hgo, HSE.out]
        have HEE := hid he
        clear he hgo
        go_wp2_with (with_reducible refine wpList_ldB F_sliceM wU wU q1 wU ?_)
        go_ret
        exact ⟨by rw [HEE.out]; rfl, hSr.b⟩
     ·go_enter Tryz.func8, Tryz.ntmps8
      go_wp2_with fail
      refine (HO.out _).mono ?_
      rintro e w1 ⟨rfl, rfl⟩
      go_wp2_with fail
      go_loopw [3] (fun i wr => ∃ k : Nat, k ≤ S.length ∧ i = .int .i64 k ∧ sg k = sg 0 ∧ SL w.heap.size w wr [pBlk w.heap.size (.cells #[.bool false, .int .i64 G, .int .i64 (-1), .slice ad S.length cap] 27)]) (fun i _ => S.length - (intOf i).toNat)
      case atStart => exact ⟨0, by omega, rfl, rfl, hS⟩
      case round =>
       clear hS
       obtain ⟨k, hk, rfl, hgo, hSr⟩ := hrel
       have q1 := (hSr.blk 0 rfl).1
       have hRr := hR.below hSr.b
       by_cases hlt : k < S.length
       ·have hst := HSW.out k hlt
        rw [hgo] at hst
        obtain ⟨x, hx⟩ : ∃ x, x = atD 0 S k := ⟨_, rfl⟩
        rw [← hx] at hst
        obtain ⟨b, hb⟩ : ∃ b, b = sh x := ⟨_, rfl⟩
        have CS := fun w => HCS'.out x w
        rw [← hb] at hst CS
        have HX := hid hx; have HC := hid CS
        clear hx hb CS hgo
        cases b
        ·rw [if_pos rfl] at hst
         have HST := hid hst
         clear hst
         go_wp2_with (with_reducible refine wpList_ldB F_sliceM wU wU q1 wU ?_)
         refine wp_region_q kR kR ?_
         repeat (first | ((with_reducible refine wpB_loadS (n := 4) (us := #[.bool false, .int .i64 G, .int .i64 (-1), .slice ad S.length cap]) A_rmach kR wU wU (by assumption) wU wU ?_); (try simp only [Act.put, pA, pB, pC])) | ((with_reducible refine wpB_load F_sliceM wU wU (by assumption) wU ?_); (try simp only [Act.put, pA, pB, pC])) | (((with_reducible refine wpB_idx2 0 E_ints F_int cInt1 wU (rfl) wU (hRr) oD oD (fun _ => wU) (fun _ => ?_)); (try simp only [Act.put, pA, pB, pC]); (try simp only [cInt])); rw [← HX.out]) | ((refine wpB_call (.bool false) wU (fun w' => ?_) (fun w' hw' => HC.out w') ?_); (focus (go_simp; done)); (try simp only [Act.put, pA, pB, pC])) |  ((with_reducible refine wpB_load (by first | exact F_int | fail) wU wU (by assumption) wU ?_); (try simp only [Act.put, pA, pB, pC])) | ((with_reducible refine wpB_loadS (n := 2) (us := #[_, _]) (by fail) kR wU wU (by assumption) wU wU ?_); (try simp only [Act.put, pA, pB, pC])) | ((with_reducible refine wpB_loadS (n := 4) (us := #[_, _, _, _]) (by fail) kR wU wU (by assumption) wU wU ?_); (try simp only [Act.put, pA, pB, pC])) | ((refine wpQ_oneG ?_ wU (fun w' => ?_) ?_); rotate_left; (go_simp; rfl); (try simp only [Act.put, pA, pB, pC])))
         refine wpQuiet_nil ?_
         intro w4 hb4
         go_wp2_with fail
         go_ret
         exact ⟨by rw [HE.out, HST.out]; rfl, bnext hSr.b hb4⟩
        ·rw [if_neg (by decide)] at hst
         by_cases hk0 : k = 0
         ·have hst2 : sg (k + 1) = sg 0 := by rw [hst, if_neg (by omega)]
          have hd : decide (0 < k) = false := by simp; omega
          have HST := hid hst2
          clear hst hst2 hk0
          go_wp2_with (with_reducible refine wpList_ldB F_sliceM wU wU q1 wU ?_)
          refine wp_region_q kR kR ?_
          repeat (first | ((with_reducible refine wpB_loadS (n := 4) (us := #[.bool false, .int .i64 G, .int .i64 (-1), .slice ad S.length cap]) A_rmach kR wU wU (by assumption) wU wU ?_); (try simp only [Act.put, pA, pB, pC])) | ((with_reducible refine wpB_load F_sliceM wU wU (by assumption) wU ?_); (try simp only [Act.put, pA, pB, pC])) | (((with_reducible refine wpB_idx2 0 E_ints F_int cInt1 wU (rfl) wU (hRr) oD oD (fun _ => wU) (fun _ => ?_)); (try simp only [Act.put, pA, pB, pC]); (try simp only [cInt])); rw [← HX.out]) | ((refine wpB_call (.bool true) wU (fun w' => ?_) (fun w' hw' => HC.out w') ?_); (focus (go_simp; done)); (try simp only [Act.put, pA, pB, pC])) |  ((with_reducible refine wpB_load (by first | exact F_int | fail) wU wU (by assumption) wU ?_); (try simp only [Act.put, pA, pB, pC])) | ((with_reducible refine wpB_loadS (n := 2) (us := #[_, _]) (by fail) kR wU wU (by assumption) wU wU ?_); (try simp only [Act.put, pA, pB, pC])) | ((with_reducible refine wpB_loadS (n := 4) (us := #[_, _, _, _]) (by fail) kR wU wU (by assumption) wU wU ?_); (try simp only [Act.put, pA, pB, pC])) | ((refine wpQ_oneG ?_ wU (fun w' => ?_) ?_); rotate_left; (go_simp; rfl); (try simp only [Act.put, pA, pB, pC])))
          refine wpQuiet_nil ?_
          intro w4 hb4
          have hS4 := hSr.mono hb4
          have q4 := (hS4.blk 0 rfl).1
          go_wp2_with fail
          refine wp_region_q kR kR ?_
          repeat (first | ((try simp only [hd]); ((with_reducible refine wpQ_skip wU ?_); (try simp only [Act.put, pA, pB, pC]))) |  ((with_reducible refine wpB_load (by first | exact F_int | fail) wU wU (by assumption) wU ?_); (try simp only [Act.put, pA, pB, pC])) | ((with_reducible refine wpB_loadS (n := 2) (us := #[_, _]) (by fail) kR wU wU (by assumption) wU wU ?_); (try simp only [Act.put, pA, pB, pC])) | ((with_reducible refine wpB_loadS (n := 4) (us := #[_, _, _, _]) (by fail) kR wU wU (by assumption) wU wU ?_); (try simp only [Act.put, pA, pB, pC])) | ((refine wpQ_oneG ?_ wU (fun w' => ?_) ?_); rotate_left; (go_simp; rfl); (try simp only [Act.put, pA, pB, pC])))
          refine wpQuiet_nil ?_
          intro w5 hb5
          have hS5 := hS4.mono hb5
          go_wp2_with fail
          exact ⟨⟨k + 1, by omega, by go_num, HST.out, hS5⟩, by simp [intOf]; omega⟩
         ·have hd : decide (0 < k) = true := by simp; omega
          have hk1 : 0 ≤ (k : Int) - 1 ∧ (k : Int) - 1 < S.length := by omega
          have hwk : IntKind.i64.wrap ((k : Int) - 1) = (k : Int) - 1 := IntWalk.i64_in _ (by omega)
          obtain ⟨y, hy⟩ : ∃ y, y = atD 0 S ((k : Int) - 1) := ⟨_, rfl⟩
          rw [← hy] at hst
          have HY := hid hy
          clear hy
          by_cases hxy : x ≤ y
          ·rw [if_pos ⟨by omega, hxy⟩] at hst
           have HST := hid hst
           have hdx : decide (x ≤ y) = true := decide_eq_true hxy
           clear hst hk0
           go_wp2_with (with_reducible refine wpList_ldB F_sliceM wU wU q1 wU ?_)
           refine wp_region_q kR kR ?_
           repeat (first | ((with_reducible refine wpB_loadS (n := 4) (us := #[.bool false, .int .i64 G, .int .i64 (-1), .slice ad S.length cap]) A_rmach kR wU wU (by assumption) wU wU ?_); (try simp only [Act.put, pA, pB, pC])) | ((with_reducible refine wpB_load F_sliceM wU wU (by assumption) wU ?_); (try simp only [Act.put, pA, pB, pC])) | (((with_reducible refine wpB_idx2 0 E_ints F_int cInt1 wU (rfl) wU (hRr) oD oD (fun _ => wU) (fun _ => ?_)); (try simp only [Act.put, pA, pB, pC]); (try simp only [cInt])); rw [← HX.out]) | ((refine wpB_call (.bool true) wU (fun w' => ?_) (fun w' hw' => HC.out w') ?_); (focus (go_simp; done)); (try simp only [Act.put, pA, pB, pC])) |  ((with_reducible refine wpB_load (by first | exact F_int | fail) wU wU (by assumption) wU ?_); (try simp only [Act.put, pA, pB, pC])) | ((with_reducible refine wpB_loadS (n := 2) (us := #[_, _]) (by fail) kR wU wU (by assumption) wU wU ?_); (try simp only [Act.put, pA, pB, pC])) | ((with_reducible refine wpB_loadS (n := 4) (us := #[_, _, _, _]) (by fail) kR wU wU (by assumption) wU wU ?_); (try simp only [Act.put, pA, pB, pC])) | ((refine wpQ_oneG ?_ wU (fun w' => ?_) ?_); rotate_left; (go_simp; rfl); (try simp only [Act.put, pA, pB, pC])))
           refine wpQuiet_nil ?_
           intro w4 hb4
           have hS4 := hSr.mono hb4
           have q4 := (hS4.blk 0 rfl).1
           have hR4 := hR.below hS4.b
           clear q1
           go_wp2_with fail
           refine wp_region_q kR kR ?_
           repeat (first | ((try simp only [hd]); ((with_reducible refine wpB_load F_sliceM wU wU (by assumption) wU ?_); (try simp only [Act.put, pA, pB, pC]))) | (((with_reducible refine wpB_idxW 0 E_ints F_int cInt1 wU (rfl) wU (hR4) oD oD (fun _ => wU) wU (fun _ => wU) (fun _ => ?_)); (try simp only [Act.put, pA, pB, pC]); (try simp only [cInt])); first | rw [← HX.out] | rw [← HY.out]) |  ((with_reducible refine wpB_load (by first | exact F_int | fail) wU wU (by assumption) wU ?_); (try simp only [Act.put, pA, pB, pC])) | ((with_reducible refine wpB_loadS (n := 2) (us := #[_, _]) (by fail) kR wU wU (by assumption) wU wU ?_); (try simp only [Act.put, pA, pB, pC])) | ((with_reducible refine wpB_loadS (n := 4) (us := #[_, _, _, _]) (by fail) kR wU wU (by assumption) wU wU ?_); (try simp only [Act.put, pA, pB, pC])) | ((refine wpQ_oneG ?_ wU (fun w' => ?_) ?_); rotate_left; (go_simp; rfl); (try simp only [Act.put, pA, pB, pC])))
           refine wpQuiet_nil ?_
           intro w5 hb5
           go_wp2_with fail
           go_ret
           exact ⟨by rw [HE.out, HST.out]; rfl, bnext hS4.b hb5⟩
          ·rw [if_neg (fun h => hxy h.2)] at hst
           have HST := hid hst
           have hdx : decide (x ≤ y) = false := decide_eq_false hxy
           clear hst hk0
           go_wp2_with (with_reducible refine wpList_ldB F_sliceM wU wU q1 wU ?_)
           refine wp_region_q kR kR ?_
           repeat (first | ((with_reducible refine wpB_loadS (n := 4) (us := #[.bool false, .int .i64 G, .int .i64 (-1), .slice ad S.length cap]) A_rmach kR wU wU (by assumption) wU wU ?_); (try simp only [Act.put, pA, pB, pC])) | ((with_reducible refine wpB_load F_sliceM wU wU (by assumption) wU ?_); (try simp only [Act.put, pA, pB, pC])) | (((with_reducible refine wpB_idx2 0 E_ints F_int cInt1 wU (rfl) wU (hRr) oD oD (fun _ => wU) (fun _ => ?_)); (try simp only [Act.put, pA, pB, pC]); (try simp only [cInt])); rw [← HX.out]) | ((refine wpB_call (.bool true) wU (fun w' => ?_) (fun w' hw' => HC.out w') ?_); (focus (go_simp; done)); (try simp only [Act.put, pA, pB, pC])) |  ((with_reducible refine wpB_load (by first | exact F_int | fail) wU wU (by assumption) wU ?_); (try simp only [Act.put, pA, pB, pC])) | ((with_reducible refine wpB_loadS (n := 2) (us := #[_, _]) (by fail) kR wU wU (by assumption) wU wU ?_); (try simp only [Act.put, pA, pB, pC])) | ((with_reducible refine wpB_loadS (n := 4) (us := #[_, _, _, _]) (by fail) kR wU wU (by assumption) wU wU ?_); (try simp only [Act.put, pA, pB, pC])) | ((refine wpQ_oneG ?_ wU (fun w' => ?_) ?_); rotate_left; (go_simp; rfl); (try simp only [Act.put, pA, pB, pC])))
           refine wpQuiet_nil ?_
           intro w4 hb4
           have hS4 := hSr.mono hb4
           have q4 := (hS4.blk 0 rfl).1
           have hR4 := hR.below hS4.b
           clear q1
           go_wp2_with fail
           refine wp_region_q kR kR ?_
           repeat (first | ((try simp only [hd]); ((with_reducible refine wpB_load F_sliceM wU wU (by assumption) wU ?_); (try simp only [Act.put, pA, pB, pC]))) | (((with_reducible refine wpB_idxW 0 E_ints F_int cInt1 wU (rfl) wU (hR4) oD oD (fun _ => wU) wU (fun _ => wU) (fun _ => ?_)); (try simp only [Act.put, pA, pB, pC]); (try simp only [cInt])); first | rw [← HX.out] | rw [← HY.out]) |  ((with_reducible refine wpB_load (by first | exact F_int | fail) wU wU (by assumption) wU ?_); (try simp only [Act.put, pA, pB, pC])) | ((with_reducible refine wpB_loadS (n := 2) (us := #[_, _]) (by fail) kR wU wU (by assumption) wU wU ?_); (try simp only [Act.put, pA, pB, pC])) | ((with_reducible refine wpB_loadS (n := 4) (us := #[_, _, _, _]) (by fail) kR wU wU (by assumption) wU wU ?_); (try simp only [Act.put, pA, pB, pC])) | ((refine wpQ_oneG ?_ wU (fun w' => ?_) ?_); rotate_left; (go_simp; rfl); (try simp only [Act.put, pA, pB, pC])))
           refine wpQuiet_nil ?_
           intro w5 hb5
           have hS5 := hS4.mono hb5
           go_wp2_with fail
           exact ⟨⟨k + 1, by omega, by go_num, HST.out.symm, hS5⟩, by simp [intOf]; omega⟩
       ·have hkn : k = S.length := by omega
        subst hkn
        have he : E = 0 := by rw [HE.out, ← hgo, HSE.out]
        have HEE := hid he
        clear he hgo
        go_wp2_with (with_reducible refine wpList_ldB F_sliceM wU wU q1 wU ?_)
        go_ret
        exact ⟨by rw [HEE.out]; rfl, hSr.b⟩
end Go.Proofs.YtglpfpdomnllkaaGreat

namespace Go.Proofs.YtglpfpdomnllkaaGreat
open Go.RowKit
set_option maxHeartbeats 4000000
set_option maxRecDepth 100000
theorem take_not_mem {l : List Int} {x : Int} {k : Nat} (hk : k ≤ l.length) (h : ∀ i : Nat, i < k → atD 0 l i ≠ x) : x ∉ l.take k := by
 intro hm
 obtain ⟨i, hi, e⟩ := List.getElem_of_mem hm
 rw [List.length_take] at hi
 refine h i (by omega) ?_
 rw [← e, List.getElem_take]
 have : i < l.length := by omega
 simp [atD, this]
theorem take_mem {l : List Int} {x : Int} {k j : Nat} (hk : k ≤ l.length) (hj : j < k) (h : atD 0 l j = x) : x ∈ l.take k := by
 have hjl : j < l.length := by omega
 have e : atD 0 l j = l[j] := by simp [atD, hjl]
 rw [← h, e, List.mem_take_iff_getElem]
 exact ⟨j, by omega, rfl⟩
theorem rCheckLoad_any (m : MacV) (ad : Option Addr) (cap : Nat) (al : Option Addr) (cl : Nat) (l : List Int) (w : World) (hL : Ints w al cl l) (hg0 : 1 ≤ m.gears) (hg : m.gears ≤ 16) :
  Calls Tryz.prog 9 #[mV m ad cap, .slice al l.length cl] w fun r w' => r = .returned (.int .i64 (if 4 * m.gears < l.length then 5 else loadGo m [] l)) ∧ Below w.heap.size w w' := by
 have hcap := hL.le
 have hmx := hL.max
 have hlen : l.length ≤ 9223372036854775807 := by have := hL.max; unfold maxLen at this; omega
 obtain ⟨n, hn⟩ : ∃ n : Nat, 4 * m.gears = n := ⟨(4 * m.gears).toNat, by omega⟩
 have CN := fun w => rSlots_any m ad cap w (by omega) hg
 have HST := fun (k : Nat) (h : k < l.length) => loadGo_step m h
 rw [hn] at CN HST ⊢
 have hn64 : 1 ≤ n ∧ n ≤ 64 := by omega
 have CO := fun (x : Int) w => rOutside_any x 0 ((n : Int) - 1) w
 have hwn : IntKind.i64.wrap ((n : Int) - 1) = (n : Int) - 1 := IntWalk.i64_in _ (by omega)
 have hS := (SL.nil w).box (.cells (mC m ad cap) 27)
 obtain ⟨R, hR⟩ : ∃ R : Int, R = (if (n : Int) < l.length then 5 else loadGo m [] l) := ⟨_, rfl⟩
 rw [← hR]
 have HN := hid CN; have HT := hid HST; have HO := hid CO
 clear CN HST CO hn
 by_cases hb : (n : Int) < l.length
 ·rw [if_pos hb] at hR
  subst hR
  go_enter Tryz.func9, Tryz.ntmps9
  go_wp2_with fail
  refine (HN.out _).mono ?_
  rintro e w1 ⟨rfl, b1⟩
  have hS1 := hS.mono b1
  go_wp2_with fail
  go_ret
  exact ⟨rfl, hS1.b⟩
 ·rw [if_neg hb] at hR
  have HR := hid hR
  clear hR
  have hl64 : l.length ≤ 64 := by omega
  go_enter Tryz.func9, Tryz.ntmps9
  go_wp2_with fail
  refine (HN.out _).mono ?_
  rintro e w1 ⟨rfl, b1⟩
  have hS1 := hS.mono b1
  go_wp2_with fail
  go_loopw [5] (fun i wr => ∃ k : Nat, k ≤ l.length ∧ i = .int .i64 k ∧ loadGo m (l.take k) (l.drop k) = loadGo m [] l ∧ SL w.heap.size w wr [pBlk w.heap.size (.cells (mC m ad cap) 27)]) (fun i _ => l.length - (intOf i).toNat)
  case atStart => exact ⟨0, by omega, rfl, by simp, hS1⟩
  case round =>
   clear hS hS1
   obtain ⟨k, hk, rfl, hgo, hSr⟩ := hrel
   have q1 := (hSr.blk 0 rfl).1
   have hLr := hL.below hSr.b
   by_cases hlt : k < l.length
   ·have hst := HT.out k hlt
    rw [hgo, ← HR.out] at hst
    obtain ⟨x, hx⟩ : ∃ x, x = atD 0 l k := ⟨_, rfl⟩
    rw [← hx] at hst
    have HX := hid hx
    clear hx hgo
    have CO := fun w => HO.out x w
    by_cases hxo : x < 0 ∨ (n : Int) ≤ x
    ·rw [if_pos hxo] at hst
     have hb : (decide (x < 0) || decide ((n : Int) - 1 < x)) = true := by simp; omega
     rw [hb] at CO
     have HC := hid CO
     clear CO hb hxo
     subst hst
     go_wp2_with fail
     refine wp_region_q kR kR ?_
     repeat (first | (((with_reducible refine wpB_idx2 0 E_ints F_int cInt1 wU (rfl) wU (hLr) oD oD (fun _ => wU) (fun _ => ?_)); (try simp only [Act.put, pA, pB, pC]); (try simp only [cInt])); rw [← HX.out]) | ((with_reducible refine wpB_loadS (n := 4) (us := mC m ad cap) A_rmach kR wU wU (by assumption) wU wU ?_); (try simp only [Act.put, pA, pB, pC])) | ((refine wpB_call (.int .i64 n) wU (fun w' => ?_) (fun w' hw' => HN.out w') ?_); (focus (go_simp; done)); (try simp only [Act.put, pA, pB, pC])) | ((refine wpB_call (.bool true) wU (fun w' => ?_) (fun w' hw' => calls_below (HC.out w')) ?_); (focus (go_simp; done)); (try simp only [Act.put, pA, pB, pC])) |  ((with_reducible refine wpB_load (by first | exact F_int | fail) wU wU (by assumption) wU ?_); (try simp only [Act.put, pA, pB, pC])) | ((with_reducible refine wpB_loadS (n := 2) (us := #[_, _]) (by fail) kR wU wU (by assumption) wU wU ?_); (try simp only [Act.put, pA, pB, pC])) | ((with_reducible refine wpB_loadS (n := 4) (us := #[_, _, _, _]) (by fail) kR wU wU (by assumption) wU wU ?_); (try simp only [Act.put, pA, pB, pC])) | ((refine wpQ_oneG ?_ wU (fun w' => ?_) ?_); rotate_left; (go_simp; rfl); (try simp only [Act.put, pA, pB, pC])))
     refine wpQuiet_nil ?_
     intro w4 hb4
     go_wp2_with fail
     go_ret
     exact ⟨rfl, bnext hSr.b hb4⟩
    ·rw [if_neg hxo] at hst
     have hb : (decide (x < 0) || decide ((n : Int) - 1 < x)) = false := by simp; omega
     rw [hb] at CO
     have HC := hid CO; have HS := hid hst
     clear CO hb hxo hst
     go_wp2_with fail
     refine wp_region_q kR kR ?_
     repeat (first | (((with_reducible refine wpB_idx2 0 E_ints F_int cInt1 wU (rfl) wU (hLr) oD oD (fun _ => wU) (fun _ => ?_)); (try simp only [Act.put, pA, pB, pC]); (try simp only [cInt])); rw [← HX.out]) | ((with_reducible refine wpB_loadS (n := 4) (us := mC m ad cap) A_rmach kR wU wU (by assumption) wU wU ?_); (try simp only [Act.put, pA, pB, pC])) | ((refine wpB_call (.int .i64 n) wU (fun w' => ?_) (fun w' hw' => HN.out w') ?_); (focus (go_simp; done)); (try simp only [Act.put, pA, pB, pC])) | ((refine wpB_call (.bool false) wU (fun w' => ?_) (fun w' hw' => calls_below (HC.out w')) ?_); (focus (go_simp; done)); (try simp only [Act.put, pA, pB, pC])) |  ((with_reducible refine wpB_load (by first | exact F_int | fail) wU wU (by assumption) wU ?_); (try simp only [Act.put, pA, pB, pC])) | ((with_reducible refine wpB_loadS (n := 2) (us := #[_, _]) (by fail) kR wU wU (by assumption) wU wU ?_); (try simp only [Act.put, pA, pB, pC])) | ((with_reducible refine wpB_loadS (n := 4) (us := #[_, _, _, _]) (by fail) kR wU wU (by assumption) wU wU ?_); (try simp only [Act.put, pA, pB, pC])) | ((refine wpQ_oneG ?_ wU (fun w' => ?_) ?_); rotate_left; (go_simp; rfl); (try simp only [Act.put, pA, pB, pC])))
     refine wpQuiet_nil ?_
     intro w4 hb4
     have hS4 := hSr.mono hb4
     clear q1 hLr hSr hb4
     go_wp2_with fail
     go_loopw [6] (fun i wr => ∃ j : Nat, j ≤ k ∧ i = .int .i64 j ∧ (∀ i : Nat, i < j → atD 0 l i ≠ x) ∧ SL w.heap.size w wr [pBlk w.heap.size (.cells (mC m ad cap) 27)]) (fun i _ => k - (intOf i).toNat)
     case atStart => exact ⟨0, by omega, rfl, fun i hi => absurd hi (Nat.not_lt_zero i), hS4⟩
     case round =>
      clear hS4
      obtain ⟨j, hj, rfl, hno, hS5⟩ := hrel
      have hL5 := hL.below hS5.b
      have HNO := hid hno
      clear hno
      by_cases hjk : j < k
      ·have hjl : (j : Int) < l.length := by omega
       obtain ⟨y, hy⟩ : ∃ y, y = atD 0 l j := ⟨_, rfl⟩
       have HY := hid hy
       clear hy
       by_cases hyx : y = x
       ·have hd : (y == x) = true := by simpa using hyx
        have hR9 : R = 9 := by rw [HS.out, if_pos (take_mem (by omega) hjk (by rw [← HY.out, hyx]))]
        clear hyx
        subst hR9
        go_wp2_with fail
        refine wp_region_q kR kR ?_
        repeat (first | (((with_reducible refine wpB_idx2 0 E_ints F_int cInt1 wU (rfl) wU (hL5) oD oD (fun _ => wU) (fun _ => ?_)); (try simp only [Act.put, pA, pB, pC]); (try simp only [cInt])); first | rw [← HY.out] | rw [← HX.out]) |  ((with_reducible refine wpB_load (by first | exact F_int | fail) wU wU (by assumption) wU ?_); (try simp only [Act.put, pA, pB, pC])) | ((with_reducible refine wpB_loadS (n := 2) (us := #[_, _]) (by fail) kR wU wU (by assumption) wU wU ?_); (try simp only [Act.put, pA, pB, pC])) | ((with_reducible refine wpB_loadS (n := 4) (us := #[_, _, _, _]) (by fail) kR wU wU (by assumption) wU wU ?_); (try simp only [Act.put, pA, pB, pC])) | ((refine wpQ_oneG ?_ wU (fun w' => ?_) ?_); rotate_left; (go_simp; rfl); (try simp only [Act.put, pA, pB, pC])))
        refine wpQuiet_nil ?_
        intro w6 hb6
        go_wp2_with fail
        go_ret
        exact ⟨rfl, bnext hS5.b hb6⟩
       ·have hd : (y == x) = false := by simpa using hyx
        have hno2 : ∀ i : Nat, i < j + 1 → atD 0 l i ≠ x := fun i hi => by
         by_cases e : i = j
         ·subst e; rw [← HY.out]; exact hyx
         ·exact HNO.out i (by omega)
        have HN2 := hid hno2
        clear hyx hno2
        go_wp2_with fail
        refine wp_region_q kR kR ?_
        repeat (first | (((with_reducible refine wpB_idx2 0 E_ints F_int cInt1 wU (rfl) wU (hL5) oD oD (fun _ => wU) (fun _ => ?_)); (try simp only [Act.put, pA, pB, pC]); (try simp only [cInt])); first | rw [← HY.out] | rw [← HX.out]) |  ((with_reducible refine wpB_load (by first | exact F_int | fail) wU wU (by assumption) wU ?_); (try simp only [Act.put, pA, pB, pC])) | ((with_reducible refine wpB_loadS (n := 2) (us := #[_, _]) (by fail) kR wU wU (by assumption) wU wU ?_); (try simp only [Act.put, pA, pB, pC])) | ((with_reducible refine wpB_loadS (n := 4) (us := #[_, _, _, _]) (by fail) kR wU wU (by assumption) wU wU ?_); (try simp only [Act.put, pA, pB, pC])) | ((refine wpQ_oneG ?_ wU (fun w' => ?_) ?_); rotate_left; (go_simp; rfl); (try simp only [Act.put, pA, pB, pC])))
        refine wpQuiet_nil ?_
        intro w6 hb6
        have hS6 := hS5.mono hb6
        go_wp2_with fail
        exact ⟨⟨j + 1, by omega, by go_num, HN2.out, hS6⟩, by simp [intOf]; omega⟩
      ·have hjk2 : j = k := by omega
       subst hjk2
       have hR2 : R = loadGo m (l.take (j + 1)) (l.drop (j + 1)) := by rw [HS.out, if_neg (take_not_mem (by omega) HNO.out)]
       have H2 := hid hR2
       clear hR2
       go_wp2_with fail
       exact ⟨⟨j + 1, by omega, by go_num, by rw [← H2.out, HR.out], hS5⟩, by simp [intOf]; omega⟩
   ·have hkn : k = l.length := by omega
    subst hkn
    rw [List.drop_length] at hgo
    have e : R = 0 := by rw [HR.out, ← hgo]; rfl
    clear hgo HR
    subst e
    go_wp2_with fail
    go_ret
    exact ⟨rfl, hSr.b⟩
end Go.Proofs.YtglpfpdomnllkaaGreat

namespace Go.Proofs.YtglpfpdomnllkaaGreat
open Go.RowKit
set_option maxHeartbeats 4000000
set_option maxRecDepth 100000
theorem itP_modO {p : List Int} {s : Int} {d : Nat} (h : Ord p s d) (n : Nat) : itP p s (n % d) = itP p s n := by
 have e : n = n % d + n / d * d := by have := Nat.mod_add_div n d; rw [Nat.mul_comm] at this; omega
 conv => rhs; rw [e, itP_add, itP_mul h.back]
theorem pow_el {p : List Int} {s : Int} {d : Nat} (h : Ord p s d) (j K : Nat) : itP p s ((j + K % d) % d) = itP p (itP p s j) K := by
 rw [itP_modO h, Nat.add_comm, itP_add]
 have e := itP_modO (p := p) (s := s) h (K % d + j)
 rw [← itP_add, ← itP_modO h, Nat.mod_add_mod, itP_modO h, itP_add]
/-- the power of a permutation. -/
def powP (p : List Int) (n : Nat) : List Int := (List.range p.length).map fun (i : Nat) => itP p i n
theorem powP_len (p : List Int) (n : Nat) : (powP p n).length = p.length := by simp [powP]
theorem powP_at {p : List Int} {n : Nat} {x : Int} (h0 : 0 ≤ x) (h1 : x < p.length) : atD 0 (powP p n) x = itP p x n := by
 unfold powP atD
 have hs : x.toNat < p.length := by omega
 rw [List.getD_eq_getElem?_getD, List.getElem?_map, List.getElem?_range hs]
 simp [Int.toNat_of_nonneg h0]
theorem powP_of {p O : List Int} {n : Nat} (hl : O.length = p.length) (h : ∀ j : Nat, j < p.length → atD 0 O j = itP p j n) : O = powP p n := by
 refine List.ext_getElem (by rw [powP_len, hl]) fun i h1 h2 => ?_
 have e1 : atD 0 O i = O[i] := by simp [atD, h1]
 have e2 : atD 0 (powP p n) i = (powP p n)[i] := by simp [atD, h2]
 rw [← e1, ← e2, h i (by omega), powP_at (by omega) (by omega)]
theorem set_done {O : List Int} {x z y v : Int} (h0 : 0 ≤ x) (h1 : x < O.length) (hy : 0 ≤ y) (hz : y = x → z = v) (h : y ≠ x → atD 0 O y = v) : atD 0 (O.set x.toNat z) y = v := by
 rw [atD_set h0 h1 hy]
 by_cases e : y = x
 ·rw [if_pos e]; exact hz e
 ·rw [if_neg e]; exact h e
theorem rPower_any (a : Option Addr) (cap : Nat) (p : List Int) (K : Nat) (w : World) (hS : Ints w a cap p) (hp : IsP p) (hn : p.length ≤ 64) (hK : K ≤ 9223372036854775000) :
  Calls Tryz.prog 146 #[.slice a p.length cap, .int .i64 K] w fun r w' => ∃ v, r = .returned v ∧ OwnI w.heap.size w' v (powP p K) ∧ Below w.heap.size w w' := by
 have hcap := hS.le
 have hm0 := hS.max
 have CY := fun w h => rCycles_any a cap p w h hp (by omega)
 have HC : Hid (∀ X ∈ cycK p p.length, ∃ (s : Nat) (d : Nat), s < p.length ∧ Ord p s d ∧ X.length = d ∧ ∀ j : Nat, j < d → atD 0 X j = itP p s j ∧ 0 ≤ atD 0 X j ∧ atD 0 X j < p.length) := by
  refine hid fun X hX => ?_
  obtain ⟨s, hs, rfl⟩ := cycK_orb hp (Nat.le_refl _) X hX
  obtain ⟨d, hd⟩ := ord_ex hp (i := (s : Int)) (by omega) (by omega)
  refine ⟨s, d, hs, hd, orb_len hd, fun j hj => ?_⟩
  have e : atD 0 (orb p s) j = itP p s j := by rw [orb_eq hd]; simp [atD, hj]
  rw [e]
  exact ⟨rfl, itP_rng hp (by omega) (by omega) j⟩
 have HALL : Hid (∀ j : Nat, j < p.length → (j : Int) ∈ (cycK p p.length).flatten) := hid (cycK_all hp (Nat.le_refl _))
 have hcl : (cycK p p.length).length ≤ 64 := by have := cycK_len p p.length; omega
 obtain ⟨C, hC⟩ : ∃ C, C = cycK p p.length := ⟨_, rfl⟩
 rw [← hC] at HC HALL hcl
 simp only [← hC] at CY
 clear hC
 obtain ⟨N, hN⟩ : ∃ N, N = p.length := ⟨_, rfl⟩
 have HNN := hid hN
 rw [← hN] at HC HALL hn hcap ⊢
 simp only [← hN] at CY
 have HY := hid CY
 clear CY
 clear hN
 have hS0 := (SL.nil w)
 go_enter Tryz.func146, Tryz.ntmps146
 go_wp2_with ((with_reducible refine wpList_makeL (c := cInt) (N) (0) E_ints cInt1 wU wU (by omega) (by omega) (hS0) ?_); intro ad w1 hS1)
 refine (HY.out _ (hS.below hS1.b)).mono ?_
 rintro e w2 ⟨v2, qs, rfl, hqs, hC2⟩
 have hS2 := (hS1.call hC2).comm
 obtain ⟨a2, c2, rfl, _⟩ := hC2.slice 0 rfl
 rw [List.length_map] at hS2 ⊢
 have hqc : qs.length = C.length := by rw [← hqs, List.length_map]
 have HQ := hid hqs
 have hq64 : qs.length ≤ 64 := by omega
 have HQC := hid hqc
 clear hC2 hS1 hqs hqc
 have hS3 : SL w.heap.size w w2 (pOwn cInt 1 3 (.slice ad N N) (List.replicate N 0) :: pOwn cSl 1 22 (.slice a2 qs.length c2) (qs.map Prod.fst) :: qs.map inP) := hS2
 clear hS2
 go_wp2_with fail
 go_loopw [7, 8, 9, 10] (fun i _ _ _ wr => ∃ (k : Nat) (O : List Int), k ≤ qs.length ∧ i = .int .i64 k ∧ O.length = N ∧ (∀ j : Nat, j < N → (j : Int) ∈ (C.take k).flatten → atD 0 O j = itP p j K) ∧
  SL w.heap.size w wr (pOwn cInt 1 3 (.slice ad N N) O :: pOwn cSl 1 22 (.slice a2 qs.length c2) (qs.map Prod.fst) :: qs.map inP)) (fun i _ _ _ _ => qs.length - (intOf i).toNat)
 case atStart => exact ⟨0, List.replicate N 0, by omega, rfl, by simp, fun j _ h => by simp at h, hS3⟩
 case round =>
  clear hS3
  obtain ⟨k, O, hk, rfl, hOl, hdone, hSr⟩ := hrel
  have HD := hid hdone; have HOL := hid hOl
  clear hdone hOl
  by_cases hlt : k < qs.length
  ·have hkC : k < C.length := by rw [← HQC.out]; exact hlt
   obtain ⟨X, hX⟩ : ∃ X, X = C[k] := ⟨_, rfl⟩
   have hXm : X ∈ C := by rw [hX]; exact List.getElem_mem hkC
   obtain ⟨s, d, hs, hd, hXl, hel⟩ := HC.out X hXm
   have hXq : X = (qs[k]).2 := by
    rw [hX]
    have : C[k] = (qs.map Prod.snd)[k]'(by rw [List.length_map]; exact hlt) := by congr 1; exact HQ.out.symm
    rw [this, List.getElem_map]
   have htk : (C.take (k + 1)).flatten = (C.take k).flatten ++ X := by rw [List.take_succ_eq_append_getElem hkC, List.flatten_append, ← hX]; simp
   have HI : Hid (∀ {wr : World} {O : List Int}, SL w.heap.size w wr (pOwn cInt 1 3 (.slice ad N N) O :: pOwn cSl 1 22 (.slice a2 qs.length c2) (qs.map Prod.fst) :: qs.map inP) → Own cInt 1 w.heap.size 3 wr (cSl (qs[k]).1) X) :=
    hid fun h => h.own (k + 2) (by rw [hXq]; simp [hlt, inP])
   obtain ⟨xa, xc, hH⟩ : ∃ xa xc, (qs[k]).1 = (xa, d, xc) := by
    obtain ⟨a3, c3, ex, _⟩ := (HI.out hSr).reps
    obtain ⟨q0, hq0⟩ : ∃ q0, q0 = (qs[k]).1 := ⟨_, rfl⟩
    rw [← hq0] at ex ⊢
    obtain ⟨x1, x2, x3⟩ := q0
    have e3 : x1 = a3 ∧ x2 = X.length ∧ x3 = c3 := by simpa [cSl] using ex
    exact ⟨x1, x3, by rw [e3.2.1, hXl]⟩
   have hRX : Hid (∀ {wr : World} {O : List Int}, SL w.heap.size w wr (pOwn cInt 1 3 (.slice ad N N) O :: pOwn cSl 1 22 (.slice a2 qs.length c2) (qs.map Prod.fst) :: qs.map inP) → Ints wr xa xc X) := hid fun h => by
    have := HI.out h
    rw [hH] at this
    exact reps_of_own this hXl.symm
   have hat : atD ((none, 0, 0) : SlH) (qs.map Prod.fst) k = (xa, d, xc) := by rw [← hH]; simp [atD, hlt]
   have HXH := hid hat; have HXL := hid hXl; have HEL := hid hel; have HTK := hid htk
   obtain ⟨r, hr⟩ : ∃ r : Nat, r = K % d := ⟨_, rfl⟩
   have hd0 : 0 < d := hd.pos
   have hdN : d ≤ 64 := by have := hd.le; rw [← HNN.out] at this; omega
   have hrd : r < d := by rw [hr]; exact Nat.mod_lt _ hd0
   have hm1 : (K : Int).tmod (d : Int) = (r : Int) := by rw [Int.tmod_eq_emod_of_nonneg (by omega), hr]; rfl
   have hm2 : ((r : Int) + (d : Int)).tmod (d : Int) = (r : Int) := by rw [Int.tmod_eq_emod_of_nonneg (by omega), Int.add_emod_right]; exact Int.emod_eq_of_lt (by omega) (by omega)
   have hnz : ¬ (d : Int) = 0 := by omega
   have hnz2 : ¬ d = 0 := by omega
   have hwr : IntKind.i64.wrap (r : Int) = r := IntWalk.i64_in _ (by omega)
   have hwd : IntKind.i64.wrap ((r : Int) + d) = (r : Int) + d := IntWalk.i64_in _ (by omega)
   have HRD := hid hr
   have HOrd := hid hd
   have HHl : Hid ((qs.map Prod.fst).length = qs.length) := hid (List.length_map ..)
   have hkh : (k : Int) < (qs.map Prod.fst).length := by rw [HHl.out]; omega
   have hHr := hSr.rd 1 rfl
   clear hX hXm hs hd hXl hel hXq htk hH hat hr
   go_wp2_with ((with_reducible refine wpList_idxN _ ((none, 0, 0) : SlH) E_sls F_sl cSl1 wU wU (hHr) (HHl.out) oD oD (fun _ => wU) (fun _ => ?_)); rw [HXH.out])
   clear hHr hm1 hm2
   go_loopw [10] (fun i wr => ∃ (j : Nat) (O : List Int), j ≤ d ∧ i = .int .i64 j ∧ O.length = N ∧ (∀ y : Nat, y < N → ((y : Int) ∈ (C.take k).flatten ∨ ∃ j' : Nat, j' < j ∧ atD 0 X j' = y) → atD 0 O y = itP p y K) ∧
    SL w.heap.size w wr (pOwn cInt 1 3 (.slice ad N N) O :: pOwn cSl 1 22 (.slice a2 qs.length c2) (qs.map Prod.fst) :: qs.map inP)) (fun i _ => d - (intOf i).toNat)
   case atStart => exact ⟨0, O, by omega, rfl, HOL.out, fun y hy h => by
    rcases h with h | ⟨j', h, _⟩
    ·exact HD.out y hy h
    ·omega, hSr⟩
   case round =>
    clear hSr
    obtain ⟨j, O2, hj, rfl, hOl2, hdone2, hSr⟩ := hrel
    have HOL2 := hid hOl2; have HD2 := hid hdone2
    clear hOl2 hdone2
    by_cases hjd : j < d
    ·obtain ⟨q, hq⟩ : ∃ q : Nat, q = (j + r) % d := ⟨_, rfl⟩
     have hqd : q < d := by rw [hq]; exact Nat.mod_lt _ hd0
     have hm3 : ((j : Int) + (r : Int)).tmod (d : Int) = (q : Int) := by rw [Int.tmod_eq_emod_of_nonneg (by omega), hq]; rfl
     have hwj : IntKind.i64.wrap ((j : Int) + r) = (j : Int) + r := IntWalk.i64_in _ (by omega)
     have hwq : IntKind.i64.wrap (q : Int) = q := IntWalk.i64_in _ (by omega)
     obtain ⟨y, hy⟩ : ∃ y, y = atD 0 X (j : Int) := ⟨_, rfl⟩
     obtain ⟨z, hz⟩ : ∃ z, z = atD 0 X (q : Int) := ⟨_, rfl⟩
     have hye := HEL.out j hjd
     rw [← hy] at hye
     have hzv : z = itP p y K := by
      rw [hz, (HEL.out q hqd).1, hye.1, hq, HRD.out]
      exact pow_el HOrd.out j K
     have hy0 := hye.2.1
     have hy1 : y < N := hye.2.2
     have hyO : y < O2.length := by rw [HOL2.out]; exact hy1
     have HY := hid hy; have HZ := hid hz; have HZV := hid hzv
     have hX5 := hRX.out hSr
     have hH5 := hSr.rd 1 rfl
     have hjX : (j : Int) < X.length := by rw [HXL.out]; omega
     have hqX : (q : Int) < X.length := by rw [HXL.out]; omega
     clear hq hy hz hye hzv
     go_wp2_with fail
     refine wp_region_qt 19 kR kR ?_
     simp only [List.take_succ_cons, List.take_zero, List.drop_succ_cons, List.drop_zero]
     repeat (first | (((with_reducible refine wpB_idx2 ((none, 0, 0) : SlH) E_sls F_sl cSl1 wU (HHl.out) wU (hH5) oD oD (fun _ => wU) (fun _ => ?_)); (try simp only [Act.put, pA, pB, pC]); (try simp only [cInt])); rw [HXH.out]) | (((with_reducible refine wpB_idx2 0 E_ints F_int cInt1 wU (HXL.out) wU (hX5) oD oD (fun _ => wU) (fun _ => ?_)); (try simp only [Act.put, pA, pB, pC]); (try simp only [cInt])); first | rw [← HY.out] | rw [← HZ.out]) |  ((with_reducible refine wpB_load (by first | exact F_int | fail) wU wU (by assumption) wU ?_); (try simp only [Act.put, pA, pB, pC])) | ((with_reducible refine wpB_loadS (n := 2) (us := #[_, _]) (by fail) kR wU wU (by assumption) wU wU ?_); (try simp only [Act.put, pA, pB, pC])) | ((with_reducible refine wpB_loadS (n := 4) (us := #[_, _, _, _]) (by fail) kR wU wU (by assumption) wU wU ?_); (try simp only [Act.put, pA, pB, pC])) | ((refine wpQ_oneG ?_ wU (fun w' => ?_) ?_); rotate_left; (go_simp; rfl); (try simp only [Act.put, pA, pB, pC])))
     refine wpQuiet_nil ?_
     intro w6 hb6
     have hS6 := hSr.mono hb6
     go_wp2_with ((with_reducible refine wpList_storeL (u := z) 0 E_ints cInt1 (sto_int) wU wU (hS6) wU (by first | omega | (simp; done) | (simp; omega)) (by first | omega | (simp; done) | (simp; omega)) (fun _ => wU) (fun _ => wU) ?_); intro _ w7 hS7)
     have hdone3 : ∀ x : Nat, x < N → ((x : Int) ∈ (C.take k).flatten ∨ ∃ j' : Nat, j' < j + 1 ∧ atD 0 X j' = x) → atD 0 (O2.set y.toNat z) x = itP p x K := fun x hx h => by
      refine set_done hy0 hyO (by omega) (fun e => by rw [e]; exact HZV.out) (fun e => HD2.out x hx ?_)
      rcases h with h | ⟨j', h1, h2⟩
      ·exact .inl h
      ·refine .inr ⟨j', ?_, h2⟩
       by_cases e2 : j' = j
       ·exact absurd (by rw [← h2, e2, ← HY.out]) e
       ·omega
     have hOl3 : (O2.set y.toNat z).length = N := by rw [List.length_set]; exact HOL2.out
     have H3 := hid hdone3; have H4 := hid hOl3
     clear hdone3 hOl3
     go_wp2_with fail
     exact ⟨⟨j + 1, O2.set y.toNat z, by omega, by go_num, H4.out, H3.out, hS7⟩, by simp [intOf]; omega⟩
    ·have hjd2 : j = d := by omega
     have hdone3 : ∀ x : Nat, x < N → (x : Int) ∈ (C.take (k + 1)).flatten → atD 0 O2 x = itP p x K := fun x hx h => by
      rw [HTK.out, List.mem_append] at h
      rcases h with h | h
      ·exact HD2.out x hx (.inl h)
      ·obtain ⟨j', hj', e⟩ := List.getElem_of_mem h
       refine HD2.out x hx (.inr ⟨j', by rw [hjd2, ← HXL.out]; exact hj', ?_⟩)
       rw [← e]; simp [atD, hj']
     have H3 := hid hdone3
     clear hdone3 hjd2
     go_wp2_with fail
     exact ⟨⟨k + 1, O2, by omega, by go_num, HOL2.out, H3.out, hSr⟩, by simp [intOf]; omega⟩
  ·have hkn : k = qs.length := by omega
   have hfin : O = powP p K := powP_of (by rw [HOL.out, HNN.out]) fun j hj => HD.out j (by rw [HNN.out]; exact hj) (by rw [hkn, HQC.out, List.take_length]; exact HALL.out j (by rw [HNN.out]; exact hj))
   have HFIN := hid hfin
   clear hfin
   go_wp2_with fail
   go_ret
   exact ⟨_, rfl, by rw [← HFIN.out]; exact hSr.own 0 rfl, hSr.b⟩
end Go.Proofs.YtglpfpdomnllkaaGreat

namespace Go.Proofs.YtglpfpdomnllkaaGreat
open Go.RowKit
set_option maxHeartbeats 4000000
set_option maxRecDepth 100000
theorem mapStep {l : List Int} (f : Int → Int) {k : Nat} (h : k < l.length) : (l.map f).take (k + 1) = (l.map f).take k ++ [f (atD 0 l k)] := by
 have e : atD 0 l k = l[k] := by simp [atD, h]
 rw [List.take_succ_eq_append_getElem (by simpa using h), e]
 simp
theorem atD_in {l : List Int} {P : Int → Prop} (h : ∀ x ∈ l, P x) {k : Nat} (hk : k < l.length) : P (atD 0 l k) := by
 have e : atD 0 l k = l[k] := by simp [atD, hk]
 rw [e]; exact h _ (List.getElem_mem hk)
theorem rSteps_any (m : MacV) (ad : Option Addr) (cap : Nat) (al : Option Addr) (cl : Nat) (l : List Int) (K : Nat) (w : World) (hR : Ints w ad cap m.sw) (hL : Ints w al cl l) (hg0 : 1 ≤ m.gears) (hg : m.gears ≤ 16) (hl : ∀ x ∈ l, 0 ≤ x ∧ x < 4 * m.gears) (hn : l.length ≤ 64) (hK : K ≤ 9223372036854775000) :
  Calls Tryz.prog 101 #[mV m ad cap, .slice al l.length cl, .int .i64 K] w fun r w' => ∃ v, r = .returned v ∧ OwnI w.heap.size w' v (l.map fun s => itM m s K) ∧ Below w.heap.size w w' := by
 have hcap := hL.le
 have hmx := hL.max
 have hS := (SL.nil w).box (.cells (mC m ad cap) 27)
 have CP := fun w h => rPerm_any m ad cap w h hg0 hg
 have hpl : (permM m).length ≤ 64 := by rw [permM_len]; omega
 have CW := fun a c w h => rPower_any a c (permM m) K w h (permM_isP m) hpl hK
 have hpw : ∀ k : Nat, k < l.length → 0 ≤ atD 0 l k ∧ atD 0 l k < (powP (permM m) K).length ∧ atD 0 (powP (permM m) K) (atD 0 l k) = itM m (atD 0 l k) K := fun k hk => by
  have h1 := atD_in hl hk
  rw [powP_len, permM_len]
  exact ⟨h1.1, by omega, powP_at h1.1 (by rw [permM_len]; omega)⟩
 have hst := fun (k : Nat) (h : k < l.length) => mapStep (fun s => itM m s K) h
 obtain ⟨L, hLL⟩ : ∃ L, L = l.map fun s => itM m s K := ⟨_, rfl⟩
 have hLlen : L.length = l.length := by rw [hLL]; simp
 simp only [← hLL] at hst
 rw [← hLL]
 obtain ⟨Q, hQ⟩ : ∃ Q, Q = powP (permM m) K := ⟨_, rfl⟩
 have hQl : Q.length ≤ 64 := by rw [hQ, powP_len]; exact hpl
 obtain ⟨Pm, hPm⟩ : ∃ Pm, Pm = permM m := ⟨_, rfl⟩
 rw [← hQ] at hpw
 rw [← hPm] at CP hpl
 simp only [← hQ] at CW
 simp only [← hPm] at CW
 obtain ⟨ev, hev⟩ : ∃ ev : Int → Int, ∀ s, ev s = itM m s K := ⟨_, fun _ => rfl⟩
 simp only [← hev] at hpw hst
 have HP := hid CP; have HW := hid CW; have HPW := hid hpw; have HST := hid hst; have HLN := hid hLlen
 clear CP CW hpw hst hLL hQ hPm hl hLlen hev
 go_enter Tryz.func101, Tryz.ntmps101
 go_wp2_with fail
 refine (HP.out _ (hR.below hS.b)).mono ?_
 rintro e w1 ⟨v1, rfl, ho1, b1⟩
 obtain ⟨a1, c1, rfl, h1, _, _⟩ := ho1.reps
 have hS1 := hS.mono b1
 go_wp2_with fail
 refine (HW.out a1 c1 w1 h1).mono ?_
 rintro e w2 ⟨v2, rfl, ho2, b2⟩
 obtain ⟨a2, c2, rfl, h2, _, _⟩ := ho2.reps
 have t2 := bnext hS1.b b2
 have hS2 := ((SL.nil w2).nilS (α := Int) (e := 3) cIntS)
 clear hS hS1 ho1 ho2 h1 b1 b2
 go_wp2_with fail
 go_loopw [9, 8] (fun i v wr => ∃ k : Nat, k ≤ l.length ∧ i = .int .i64 k ∧ SL w2.heap.size w2 wr [pOwn cInt 1 3 v (L.take k)]) (fun i _ _ => l.length - (intOf i).toNat)
 case atStart => exact ⟨0, by omega, rfl, hS2⟩
 case round =>
  clear hS2
  obtain ⟨k, hk, rfl, hSr⟩ := hrel
  by_cases hlt : k < l.length
  ·obtain ⟨x0, x1, x2⟩ := HPW.out k hlt
   have hs := HST.out k hlt
   have hle : (L.take k).length ≤ 64 := by rw [List.length_take]; omega
   obtain ⟨x, hx⟩ : ∃ x, x = atD 0 l k := ⟨_, rfl⟩
   rw [← hx] at x0 x1 x2 hs
   obtain ⟨y, hy⟩ : ∃ y, y = ev x := ⟨_, rfl⟩
   rw [← hy] at x2 hs
   have HX := hid hx; have HX2 := hid x2; have HS := hid hs
   have hLr := hL.below (bnext t2 hSr.b)
   have hQr := h2.below hSr.b
   clear hx x2 hs hy
   go_wp2_with (first | ((with_reducible refine wpList_idx _ 0 E_ints F_int cInt1 wU wU (hLr) oD oD (fun _ => wU) (fun _ => ?_)); rw [← HX.out]) | ((with_reducible refine wpList_idx _ 0 E_ints F_int cInt1 wU wU (hQr) oD oD (fun _ => wU) (fun _ => ?_)); rw [HX2.out]) | ((with_reducible refine wpList_pushL (y := y) 0 E_ints wU wU (hSr) wU cIntO ⟨rfl, rfl⟩ (by first | with_unfolding_all rfl | simp) wU (by first | omega | (simp; omega)) (by first | omega | (simp; omega)) ?_); intro v5 w5 hS5))
   exact ⟨⟨k + 1, by omega, by go_num, by rw [HS.out]; exact hS5⟩, by simp [intOf]; omega⟩
  ·have hkn : k = L.length := by rw [HLN.out]; omega
   have et : L.take k = L := by rw [hkn, List.take_length]
   rw [et] at hSr
   clear et hkn
   go_wp2_with fail
   go_ret
   exact ⟨_, rfl, (hSr.own 0 rfl).mono t2.size, bnext t2 hSr.b⟩
theorem rpair_any (m : MacV) (ad : Option Addr) (cap : Nat) (a b : Int) (w : World) (hR : Ints w ad cap m.sw) (hg0 : 1 ≤ m.gears) (hg : m.gears ≤ 16) (a0 : 0 ≤ a) (a1 : a < 4 * m.gears) (b0 : 0 ≤ b) (b1 : b < 4 * m.gears) (hne : a ≠ b) :
  Calls Tryz.prog 99 #[mV m ad cap, .int .i64 a, .int .i64 b] w fun r w' => r = .returned (.int .i64 (pairN m (a, b))) ∧ Below w.heap.size w w' := by
 have hcap := hR.le
 have hmx := hR.max
 have hS := (SL.nil w).box (.cells (mC m ad cap) 27)
 obtain ⟨L, hL0, hL1, hLa, hLb⟩ := meet_per2 hg a0 a1 b0 b1
 have hMR := meetM_spec m a b
 obtain ⟨R, hRR⟩ : ∃ R, R = pairN m (a, b) := ⟨_, rfl⟩
 have hRv : R = match meetM m a b with | some v => (v.1 : Int) | none => -1 := hRR
 rw [← hRR]
 generalize meetM m a b = mm at hMR hRv
 have HX : Hid (∀ n : Nat, 0 ≤ itM m a n ∧ itM m a n < 4 * m.gears) := hid fun n => itM_rng a0 a1 n
 have HY : Hid (∀ n : Nat, 0 ≤ itM m b n ∧ itM m b n < 4 * m.gears) := hid fun n => itM_rng b0 b1 n
 have HNX : Hid (∀ n : Nat, itM m a (n + 1) = nextM m (itM m a n)) := hid fun n => itM_succ a0 a1 n
 have HNY : Hid (∀ n : Nat, itM m b (n + 1) = nextM m (itM m b n)) := hid fun n => itM_succ b0 b1 n
 have HNE : Hid (∀ n : Nat, itM m b n ≠ itM m a n) := hid fun n e => hne (itM_inj b0 b1 a0 a1 n e).symm
 have HO : Hid (∀ (x : Int) w, 0 ≤ x → x < 4 * m.gears → _) := hid fun x w h0 h1 => rOther_any m ad cap x w hg0 hg h0 h1
 have HST : Hid (∀ (x : Int) w, Ints w ad cap m.sw → 0 ≤ x → x < 4 * m.gears → _) := hid fun x w h h0 h1 => rStep_any m ad cap x w h hg0 hg h0 h1
 have HMR := hid hMR; have HRV := hid hRv
 have HLA := hid hLa; have HLB := hid hLb
 clear hMR hRv hRR hLa hLb hne a0 a1 b0 b1
 go_enter Tryz.func99, Tryz.ntmps99
 go_wp2_with fail
 go_loopw [7, 8, 9] (fun x y i wr => ∃ n : Nat, n < L ∧ x = .int .i64 (itM m a n) ∧ y = .int .i64 (itM m b n) ∧ i = .int .i64 n ∧ (∀ k, k < n → hitM m (itM m a k) (itM m b k) = false) ∧ SL w.heap.size w wr [pBlk w.heap.size (.cells (mC m ad cap) 27)]) (fun _ _ i _ => L - (intOf i).toNat)
 case atStart => exact ⟨0, hL0, rfl, rfl, rfl, fun k hk => absurd hk (Nat.not_lt_zero k), hS⟩
 case round =>
  clear hS
  obtain ⟨n, hn, rfl, rfl, rfl, hno, hSr⟩ := hrel
  have HNO := hid hno
  clear hno
  have q0 := (hSr.blk 0 rfl).1
  obtain ⟨X, hX⟩ : ∃ X, X = itM m a n := ⟨_, rfl⟩
  obtain ⟨Y, hY⟩ : ∃ Y, Y = itM m b n := ⟨_, rfl⟩
  have hxr := HX.out n
  have hyr := HY.out n
  have hnx := HNX.out n
  have hny := HNY.out n
  have hoh := other_hit (m := m) (x := itM m a n) (y := itM m b n) hxr.1 hxr.2 hyr.1 hyr.2 (HNE.out n)
  have CO := fun w => HO.out (itM m a n) w hxr.1 hxr.2
  have CX := fun w h => HST.out (itM m a n) w h hxr.1 hxr.2
  have CY := fun w h => HST.out (itM m b n) w h hyr.1 hyr.2
  rw [← hX] at hoh CO CX hnx ⊢
  rw [← hY] at hoh CY hny ⊢
  obtain ⟨O, hOO⟩ : ∃ O, O = otherM m X := ⟨_, rfl⟩
  rw [← hOO] at hoh CO
  have hn4 : (n : Int) < 4096 := by omega
  have HCO := hid CO; have HCX := hid CX; have HCY := hid CY; have HNX1 := hid hnx; have HNY1 := hid hny; have EX := hid hX; have EY := hid hY
  clear CO CX CY hOO hxr hyr hnx hny hX hY
  cases hhit : hitM m X Y
  ·rw [hhit] at hoh
   have HIT := hid hhit
   clear hhit
   go_wp2_with (with_reducible refine wpList_ldS (n := 4) (us := mC m ad cap) A_rmach kR wU wU (by assumption) wU wU ?_)
   refine (HCO.out _).mono ?_
   rintro e w4 ⟨rfl, b4⟩
   have hS4 := hSr.mono b4
   clear q0
   go_wp2_with fail
   have R4 := hR.below hS4.b
   have q4 := (hS4.blk 0 rfl).1
   refine wp_region_q kR kR ?_
   repeat (first | ((with_reducible refine wpB_loadS (n := 4) (us := mC m ad cap) A_rmach kR wU wU (by assumption) wU wU ?_); (try simp only [Act.put, pA, pB, pC])) | ((refine wpB_call (.int .i64 (nextM m X)) wU (fun w' => ?_) (fun w' hw' => HCX.out w' (R4.below hw')) ?_); (focus (go_simp; done)); (try simp only [Act.put, pA, pB, pC])) | ((refine wpB_call (.int .i64 (nextM m Y)) wU (fun w' => ?_) (fun w' hw' => HCY.out w' (R4.below hw')) ?_); (focus (go_simp; done)); (try simp only [Act.put, pA, pB, pC])) |  ((with_reducible refine wpB_load (by first | exact F_int | fail) wU wU (by assumption) wU ?_); (try simp only [Act.put, pA, pB, pC])) | ((with_reducible refine wpB_loadS (n := 2) (us := #[_, _]) (by fail) kR wU wU (by assumption) wU wU ?_); (try simp only [Act.put, pA, pB, pC])) | ((with_reducible refine wpB_loadS (n := 4) (us := #[_, _, _, _]) (by fail) kR wU wU (by assumption) wU wU ?_); (try simp only [Act.put, pA, pB, pC])) | ((refine wpQ_oneG ?_ wU (fun w' => ?_) ?_); rotate_left; (go_simp; rfl); (try simp only [Act.put, pA, pB, pC])))
   refine wpQuiet_nil ?_
   intro w5 hb5
   have hS5 := hS4.mono hb5
   rw [← HNX1.out, ← HNY1.out]
   have hno2 : ∀ k, k < n + 1 → hitM m (itM m a k) (itM m b k) = false := by
    intro k hk
    by_cases e : k = n
    ·rw [e, ← EX.out, ← EY.out]; exact HIT.out
    ·exact HNO.out k (by omega)
   by_cases ea : itM m a (n + 1) = a
   ·by_cases eb : itM m b (n + 1) = b
    ·have hN : MeetR m a b none := meet_none (by omega) ea eb hno2
     have hrn := HMR.out.eq hN
     subst hrn
     have hR1 : R = -1 := HRV.out
     clear hno2 hN HRV
     subst hR1
     have da : (itM m a (n + 1) == a) = true := by simpa using ea
     have db : (itM m b (n + 1) == b) = true := by simpa using eb
     clear ea eb
     go_wp2_with fail
     go_ret
     exact ⟨rfl, hS5.b⟩
    ·have da : (itM m a (n + 1) == a) = true := by simpa using ea
     have db : (itM m b (n + 1) == b) = false := by simpa using eb
     have hnl : n + 1 ≠ L := fun e => eb (by rw [e]; exact HLB.out)
     have HNO2 := hid hno2
     clear ea eb hno2
     go_wp2_with fail
     exact ⟨⟨n + 1, by omega, rfl, rfl, by go_num, HNO2.out, hS5⟩, by simp [intOf]; omega⟩
   ·have da : (itM m a (n + 1) == a) = false := by simpa using ea
    have hnl : n + 1 ≠ L := fun e => ea (by rw [e]; exact HLA.out)
    have HNO2 := hid hno2
    clear ea hno2
    go_wp2_with fail
    exact ⟨⟨n + 1, by omega, rfl, rfl, by go_num, HNO2.out, hS5⟩, by simp [intOf]; omega⟩
  ·rw [hhit] at hoh
   have hM : MeetR m a b (some (n, placeM m X)) := ⟨by rw [← EX.out, ← EY.out]; exact hhit, by rw [← EX.out], HNO.out⟩
   have hrn := HMR.out.eq hM
   subst hrn
   have hR1 : R = n := HRV.out
   clear hhit hM HRV
   subst hR1
   go_wp2_with (with_reducible refine wpList_ldS (n := 4) (us := mC m ad cap) A_rmach kR wU wU (by assumption) wU wU ?_)
   refine (HCO.out _).mono ?_
   rintro e w4 ⟨rfl, b4⟩
   go_wp2_with fail
   go_ret
   exact ⟨rfl, bnext hSr.b b4⟩
end Go.Proofs.YtglpfpdomnllkaaGreat
