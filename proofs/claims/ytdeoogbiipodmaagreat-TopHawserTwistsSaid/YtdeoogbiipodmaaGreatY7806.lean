/- Contracts and plain facts that the claim uses (TwM TwO TwQ TwX TwU TwV TwY TwW TwZ). Conditions: as each one states. -/
import Derived.Test.YtdeoogbiipodmaaGreatProg
import Derived.WalkKit
import Derived.WalkSpells
import Derived.Maps.AppendAt
import Derived.Deep.Quiet
import Derived.Maps.Own
import Derived.Maps.OwnSet
import Derived.Maps.Views
import Derived.WalkLawsBesides
import Derived.Laws.EntriesVeiled
import Derived.Deep.QuietTactic
import Derived.BigQuiet
import Derived.Deep.RegionHeld3
import Derived.Deep.AppendLies
import Derived.Deep.RegionHeldLaw
import Derived.Deep.RegionLaw
import Derived.RangeFuncNested
import Derived.RangeFuncBound
import Derived.RangeFuncCalls
import Derived.RangeFuncLeaves
import Derived.RangeFuncFrom
import Derived.Shelf.Abstract
import Derived.Shelf.RegionOpen
import Derived.OwnWalkIn
import Derived.TacticsInMore
import Derived.LoopNIn
import Derived.LoopIn
import Derived.Shelf.Strings.Trim
import Derived.Shelf.Strings.SlTrimAscii
import Derived.Shelf.Strings.Repeat
import Derived.Shelf.Strings.OnBuilder
import Derived.Shelf.Strconv.Itoa1
import Derived.Shelf.Strconv.Itoa3
import Derived.Shelf.LaysM
import Derived.Ground.Names2Prog
import Derived.Lib.OthersKept
import Derived.StillTail
import Derived.Laws.Tables
import Derived.IntWalk
import Derived.Laws.CopyOwn
import Derived.BigRegion
import Derived.ChangeAlike
import Derived.Shelf.Bits.Mul64
import Derived.Lib.ItoaLen
import Derived.Lib.ItoaMem
import Derived.Sort.LoopGhostIn
import Derived.Maps.RangeWalk
import Derived.Maps.Ext
import Derived.Deep.LoopGhost
import Derived.Laws.IdiomStrings
import Derived.Sort.QuietThIn
import Derived.Lib.Split
import Derived.Lib.AtoiAll
import Derived.Lib.AppendIntMem
import Derived.Lib.SmallJoins
import Derived.LaidSub
import Derived.Lib.LaidTab
import Derived.Lib.AtoiErrMem
import Derived.Stop.LaidErr
import Derived.ReadAgain
import Derived.ChangeSlices
import Derived.OpenShut
import Derived.ProofKit
import Derived.Deep.DeepHandedRow
import Derived.Deep.SlicePairs
import Derived.Lib.SliceRun
import Derived.Shelf.Spec.SlicesInsertGrow
import Derived.Test.YtdeoogbiipodmaaGreatXz01
import Derived.Test.YtdeoogbiipodmaaGreatXz02
import Derived.Test.YtdeoogbiipodmaaGreatXz03
import Derived.Test.YtdeoogbiipodmaaGreatXz04
import Derived.Test.YtdeoogbiipodmaaGreatXz05
import Derived.Test.YtdeoogbiipodmaaGreatXz06
import Derived.Test.YtdeoogbiipodmaaGreatXz07
import Derived.Test.YtdeoogbiipodmaaGreatXz08
import Derived.Test.YtdeoogbiipodmaaGreatXz09
import Derived.Test.YtdeoogbiipodmaaGreatXz10
import Derived.Test.YtdeoogbiipodmaaGreatY7801
import Derived.Test.YtdeoogbiipodmaaGreatY7802
import Derived.Test.YtdeoogbiipodmaaGreatY7803
import Derived.Test.YtdeoogbiipodmaaGreatY7804
import Derived.Test.YtdeoogbiipodmaaGreatY7805
set_option linter.all false

namespace Go.Proofs.YtdeoogbiipodmaaGreat
open Go.RowKit
set_option maxHeartbeats 8000000
set_option maxRecDepth 100000
def kdS : Nat → ByteArray
 | 0 => kIns
 | 1 => kCan
 | 2 => kSwp
 | _ => kTur
def cMvM (m : MvV) : Value := .agg #[.string (kdS m.k), .int .i64 m.at_, .int .i64 m.x]
theorem cMvM1 (x : MvV) : cMvM x = .agg (cMvM x).cells := rfl
theorem cMvMS (x : MvV) : (cMvM x).cells.size = 3 := rfl
theorem cMvMO (x : MvV) : ∀ u ∈ (cMvM x).cells.toList, u.oneCell' = true := by
 intro u hu; simp [cMvM, Value.cells] at hu; rcases hu with rfl | rfl | rfl <;> rfl
theorem E_mvs : ETy Tryz.prog 40 84 (.agg #[.string ⟨#[]⟩, .int .i64 0, .int .i64 0]) 3 32 := ⟨Tryz.underlying40, by kernel_rfl, rfl, by decide⟩
theorem F_mvs : Flat Tryz.prog 40 := ⟨_, Tryz.underlying40, rfl⟩
/-- letters of a word on n strands. -/
def Ltr (n : Nat) (l : List Int) : Prop := ∀ y ∈ l, y ≠ 0 ∧ -(n : Int) < y ∧ y < n
theorem Ltr.bd {n : Nat} {l : List Int} (h : Ltr n l) (hn : n ≤ 12) : ∀ y ∈ l, -1000 ≤ y ∧ y ≤ 1000 ∧ y ≠ 0 := fun y hy => by have := h y hy; omega
theorem mvOk_len {n : Int} {l : List Int} {m : MvV} (h : mvOk n l m = true) : m.at_ ≤ l.length ∧ (m.k ≠ 0 → m.at_ + 2 ≤ l.length) := by
 unfold mvOk at h
 split at h
 ·simp at h; exact ⟨h.2, fun h2 => absurd (by assumption) h2⟩
 ·split at h
  ·simp at h; exact ⟨by omega, fun _ => h.2.1⟩
  ·split at h
   ·simp at h; exact ⟨by omega, fun _ => h.2.1⟩
   ·simp at h; exact ⟨by omega, fun _ => by omega⟩
theorem apply_mv (n : Nat) (m : MvV) (a : Option Addr) (c : Nat) (l : List Int) (w : World) (hS : Ints w a c l) (hl : l.length ≤ 900) (hz : 0 < l.length) (hn : 1 ≤ n ∧ n ≤ 12) (hr : Ltr n l) (hok : mvOk n l m = true) :
  Calls Tryz.prog 82 #[.int .i64 n, .slice a l.length c, cMvM m] w fun r w' => ∃ v, r = .returned (.tuple #[v, .int .i64 0]) ∧ OwnI w.heap.size w' v (mvW l m) ∧ Below w.heap.size w w' := by
 obtain ⟨k, p, x⟩ := m
 unfold mvOk at hok
 unfold mvW
 by_cases k0 : k = 0
 ·subst k0
  simp only [if_pos, Bool.and_eq_true, decide_eq_true_eq] at hok
  have h := ap_ins n p x a c l w hS hl hz hn hok.1 hok.2
  simp only [if_pos]
  rw [List.append_assoc]
  exact h
 ·by_cases k1 : k = 1
  ·subst k1
   simp only [if_neg k0, if_pos, Bool.and_eq_true, decide_eq_true_eq] at hok
   obtain ⟨rfl, h2, h3⟩ := hok
   simp only [if_neg k0, if_pos]
   exact ap_can n p a c l w hS hl hz hn (hr.bd hn.2) h2 h3
  ·by_cases k2 : k = 2
   ·subst k2
    simp only [if_neg k0, if_neg k1, if_pos, Bool.and_eq_true, decide_eq_true_eq] at hok
    obtain ⟨rfl, h2, h3⟩ := hok
    simp only [if_neg k0, if_neg k1, if_pos]
    rw [List.append_assoc]
    exact ap_swp n p a c l w hS hl hz hn (hr.bd hn.2) h2 h3
   ·simp only [if_neg k0, if_neg k1, if_neg k2, Bool.and_eq_true, decide_eq_true_eq] at hok
    obtain ⟨rfl, rfl, h2, h3⟩ := hok
    simp only [if_neg k0, if_neg k1, if_neg k2]
    rw [List.append_assoc]
    exact ap_tur n p a c l w hS hl hz hn (hr.bd hn.2) h2 h3
theorem wpList_stoM {ops : Array Oper} {rest : List Oper} {a : Act} {Q : Exit → Act → World → Prop} {ty : TypeId} {pp : String} {af : Array Edge} {B : Nat} {w0 w : World} {L : List Pc} {x y : Operand} {k o n c : Nat} {ad : Option Addr} {cs : Array Value} {T : TypeId} (i : Nat) {u : Value} (hx : a.eval x = .pointer (some ⟨k, o, none⟩)) (hy : a.eval y = .slice ad n c) (hS : SL B w0 w L) (hi : L[i]? = some (pBlk k (.cells cs T (0, 0)))) (ho : cs[o]? = some u)
  (hK : ∀ w', SL B w0 w' (L.set i (pBlk k (.cells (cs.setIfInBounds o (.slice ad n c)) T (0, 0)))) → wpList Tryz.prog ops Q rest (a.put none undef) w') :
  wpList Tryz.prog ops Q (⟨none, .store 40 x y, ty, pp, af, none⟩ :: rest) a w := by
 have h1 := hS.cell i hi o ho
 have h2 := hS.frozen i hi o
 have h3 := hS.set i hi o (.slice ad n c)
 refine wpList_plain rfl fun K hK' => ?_
 have hs : (Instr.storeAt 40 (.pointer (some ⟨k, o, none⟩)) (.slice ad n c)).run Tryz.prog w = .ok () (w.setCell ⟨k, o, none⟩ (.slice ad n c)) := by
  simp [go_sem, h1, h2]
 unfold Oper.wp
 simp only [execOp, hx, hy]
 simp [hs, Result.andThen]
 exact hK' _ _ (hK _ h3)
/-- the prover's own memory: its fields, its word, its moves. -/
def pvO (n : Nat) (vw vm : Value) : Obj := .cells #[.int .i64 n, vw, vm] 78
def pvP (n b : Nat) (aw : Option Addr) (cw : Nat) (wl : List Int) (am : Option Addr) (cm : Nat) (ms : List MvV) : List Pc :=
 [pBlk b (pvO n (.slice aw wl.length cw) (.slice am ms.length cm)), pOwn cInt 1 3 (.slice aw wl.length cw) wl, pOwn cMvM 3 84 (.slice am ms.length cm) ms]
def PvSt (B : Nat) (w0 W : World) (n b : Nat) (wl : List Int) (ms : List MvV) (R : List Pc) : Prop := ∃ aw cw am cm, SL B w0 W (pvP n b aw cw wl am cm ms ++ R)
theorem do_any {B : Nat} {w0 w : World} {n b : Nat} {wl : List Int} {ms : List MvV} {R : List Pc} (m : MvV) (h : PvSt B w0 w n b wl ms R) (hl : wl.length ≤ 900) (hz : 0 < wl.length) (hml : ms.length ≤ 1000) (hn : 1 ≤ n ∧ n ≤ 12) (hr : Ltr n wl) (hok : mvOk n wl m = true) (hz2 : 0 < (mvW wl m).length) :
  Calls Tryz.prog 42 #[.pointer (some ⟨b, 0, none⟩), cMvM m] w fun r w' => (∃ v, r = .returned v) ∧ PvSt B w0 w' n b (mvW wl m) (ms ++ [m]) R := by
 obtain ⟨aw, cw, am, cm, hS⟩ := h
 have HAP := hid (fun W (h : Ints W aw cw wl) => apply_mv n m aw cw wl W h hl hz hn hr hok)
 obtain ⟨X, hX⟩ : ∃ X, X = mvW wl m := ⟨_, rfl⟩
 rw [← hX] at HAP hz2 ⊢
 obtain ⟨K, p, x⟩ := m
 obtain ⟨kd, hkd⟩ : ∃ kd, kd = kdS K := ⟨_, rfl⟩
 have HV : Hid (cMvM ⟨K, p, x⟩ = .agg #[.string kd, .int .i64 p, .int .i64 x]) := hid (by rw [hkd]; rfl)
 rw [HV.out] at HAP ⊢
 clear hX hkd hok hr hl hz
 have hS1 := hS.box (.cells #[.string kd, .int .i64 p, .int .i64 x] 84)
 obtain ⟨H3, hH3⟩ : ∃ H, H = w.heap.size := ⟨_, rfl⟩
 obtain ⟨w1, hw1⟩ : ∃ w1, w1 = w.alloc (.cells #[.string kd, .int .i64 p, .int .i64 x] 84) := ⟨_, rfl⟩
 rw [← hH3, ← hw1] at hS1
 go_enter Tryz.func42, Tryz.ntmps42
 go_wp2_with fail
 rw [← hH3, ← hw1]
 clear hH3 hw1 hS
 have hS2 := hS1.drew
 have HC : Hid (∀ W Y Z L', SL B w0 W (pBlk H3 (.cells #[.string kd, .int .i64 p, .int .i64 x] 84) :: pBlk b (pvO n Y Z) :: L') → Below B w0 W ∧ W.cell? ⟨b, 0, none⟩ = some (.int .i64 n) ∧ W.heap[H3]? = some (.cells #[.string kd, .int .i64 p, .int .i64 x] 84)) := hid fun W Y Z L' h => ⟨h.b, h.cell 1 rfl 0 rfl, (h.blk 0 rfl).1⟩
 refine wp_regionK (C := fun W => Below B w0 W ∧ W.cell? ⟨b, 0, none⟩ = some (.int .i64 n) ∧ W.heap[H3]? = some (.cells #[.string kd, .int .i64 p, .int .i64 x] 84)) [0, 1, 2, 3, 4, 5, 6, 7, 9] [_, _, _, _, _, _, _, _, _] 8 (by simp only [List.map_cons, List.map_nil, List.getElem?_toArray]; rfl) rfl kR kR kR (HC.out _ _ _ _ hS2) ?_
 refine ⟨.pointer (some ⟨b, 0, none⟩), yieldsK_val wU (fun w' => by first | (go_simp; done) | (go_simp; rfl)), ?_⟩
 go_frame
 refine ⟨.pointer (some ⟨b, 0, none⟩), yieldsK_val wU (fun w' => by first | (go_simp; done) | (go_simp; rfl)), ?_⟩
 go_frame
 refine ⟨.pointer (some ⟨b, 0, none⟩), yieldsK_val wU (fun w' => by first | (go_simp; done) | (go_simp; rfl)), ?_⟩
 go_frame
 refine ⟨.pointer (some ⟨b, 0, none⟩), yieldsK_val wU (fun w' => by first | (go_simp; done) | (go_simp; rfl)), ?_⟩
 go_frame
 refine ⟨_, yieldsK_cellC F_int (fun W h => h.2.1) wU wU, ?_⟩
 go_frame
 refine ⟨.pointer (some ⟨b, 0, none⟩), yieldsK_val wU (fun w' => by first | (go_simp; done) | (go_simp; rfl)), ?_⟩
 go_frame
 refine ⟨.pointer (some ⟨b, 0, none⟩), yieldsK_val wU (fun w' => by first | (go_simp; done) | (go_simp; rfl)), ?_⟩
 go_frame
 refine ⟨.pointer (some ⟨b, 1, none⟩), yieldsK_val wU (fun w' => by first | (go_simp; done) | (go_simp; rfl)), ?_⟩
 go_frame
 refine ⟨.agg #[.string kd, .int .i64 p, .int .i64 x], yieldsK_blkC A_move kR (fun W h => h.2.2) rfl wU wU, ?_⟩
 go_frame
 unfold wpPureK
 have hVd : ({ w1 with drawn := w1.drawn + 1 } : World) = w1.drew := rfl
 rw [hVd]
 obtain ⟨w2, hw2⟩ : ∃ w2, w2 = w1.drew := ⟨_, rfl⟩
 rw [← hw2] at hS2 ⊢
 clear hVd hw2 hS1
 have q2 : w2.heap[b]? = some (.cells #[.int .i64 n, .slice aw wl.length cw, .slice am ms.length cm] 78) := (hS2.blk 1 rfl).1
 refine wpAnyC_on [8] kR (by simp) ?_
 simp only [List.forall_mem_cons, List.not_mem_nil, false_implies, implies_true, and_true]
 refine wpOp_of_list (by rw [List.getElem?_toArray]; rfl) ?_
 (with_reducible refine wpList_ldB (v := .slice aw wl.length cw) F_sl wU wU (by assumption) wU ?_)
 refine ⟨HC.out _ _ _ _ hS2, ?_⟩
 go_frame
 refine wpAnyC_on [10] kR (by simp) ?_
 simp only [List.forall_mem_cons, List.not_mem_nil, false_implies, implies_true, and_true]
 refine wpOp_call (f := 82) (args := #[.int .i64 n, .slice aw wl.length cw, .agg #[.string kd, .int .i64 p, .int .i64 x]]) (by rw [List.getElem?_toArray]; rfl) wU (by first | (go_simp; done) | (simp [execOp, Act.eval, Result.andThen]; done) | (simp [execOp, Act.eval, Result.andThen]; rfl)) ?_
 refine (HAP.out _ (hS2.rd 2 rfl)).mono ?_
 rintro e w3 ⟨v3, rfl, ho3, b3⟩
 obtain ⟨G, c3, rfl⟩ := own_some ho3 hz2
 have hS3 := (hS2.call (SL.ofOwn ho3 b3)).pickA (K := [pOwn cInt 1 3 (.slice (some ⟨G, 0, none⟩) X.length c3) X, pBlk H3 (.cells #[.string kd, .int .i64 p, .int .i64 x] 84), pBlk b (pvO n (.slice aw wl.length cw) (.slice am ms.length cm)), pOwn cInt 1 3 (.slice aw wl.length cw) wl, pOwn cMvM 3 84 (.slice am ms.length cm) ms]) (M := R) [1, 2, 0, 4] (by decide) (by intro i hi; simp at hi; simp only [List.length_cons, List.length_nil]; omega) [pBlk H3 (.cells #[.string kd, .int .i64 p, .int .i64 x] 84), pBlk b (pvO n (.slice aw wl.length cw) (.slice am ms.length cm)), pOwn cInt 1 3 (.slice (some ⟨G, 0, none⟩) X.length c3) X, pOwn cMvM 3 84 (.slice am ms.length cm) ms] rfl
 clear hS2 ho3 b3 q2
 refine ⟨_, rfl, HC.out _ _ _ _ hS3, ?_⟩
 go_frame
 refine wpAnyC_pure (g := 1) kR (fun c a w h => h) (HC.out _ _ _ _ hS3) [11, 12, 13, 14, 15] [_, _, _, _, _] _ _ (by simp only [List.map_cons, List.map_nil, List.getElem?_toArray]; rfl) kR ?_
 refine ⟨.tuple #[.slice (some ⟨G, 0, none⟩) X.length c3, .int .i64 0], .inl ⟨by with_unfolding_all rfl, fun w' _ => by first | (go_simp; done) | (go_simp; rfl) | (with_unfolding_all exact rfl)⟩, ?_⟩
 go_frame
 refine ⟨.slice (some ⟨G, 0, none⟩) X.length c3, .inl ⟨by with_unfolding_all rfl, fun w' _ => by first | (go_simp; done) | (go_simp; rfl) | (with_unfolding_all exact rfl)⟩, ?_⟩
 go_frame
 refine ⟨.int .i64 0, .inl ⟨by with_unfolding_all rfl, fun w' _ => by first | (go_simp; done) | (go_simp; rfl) | (with_unfolding_all exact rfl)⟩, ?_⟩
 go_frame
 refine ⟨.pointer (some ⟨b, 0, none⟩), .inl ⟨by with_unfolding_all rfl, fun w' _ => by first | (go_simp; done) | (go_simp; rfl) | (with_unfolding_all exact rfl)⟩, ?_⟩
 go_frame
 refine ⟨.pointer (some ⟨b, 1, none⟩), .inl ⟨by with_unfolding_all rfl, fun w' _ => by first | (go_simp; done) | (go_simp; rfl) | (with_unfolding_all exact rfl)⟩, ?_⟩
 go_frame
 unfold wpPure
 refine wpAnyC_on [16] kR (by simp) ?_
 simp only [List.forall_mem_cons, List.not_mem_nil, false_implies, implies_true, and_true]
 refine wpOp_of_list (by rw [List.getElem?_toArray]; rfl) ?_
 refine wpList_stoF 1 wU wU hS3 rfl rfl ?_
 intro w4 hS4
 replace hS4 : SL B w0 w4 (pBlk H3 (.cells #[.string kd, .int .i64 p, .int .i64 x] 84) :: pBlk b (pvO n (.slice (some ⟨G, 0, none⟩) X.length c3) (.slice am ms.length cm)) :: pOwn cInt 1 3 (.slice (some ⟨G, 0, none⟩) X.length c3) X :: pOwn cMvM 3 84 (.slice am ms.length cm) ms :: R) := hS4
 clear hS3
 refine ⟨HC.out _ _ _ _ hS4, ?_⟩
 go_frame
 refine wpAnyC_rest [] [] rfl rfl kR kR kR (HC.out _ _ _ _ hS4) ?_
 unfold wpPure
 refine of_wpList_nil (P := Tryz.prog) (ops := #[]) ?_
 go_wp2_with fail
 have hS5 := hS4.drew
 refine wp_regionK (C := fun W => Below B w0 W ∧ W.cell? ⟨b, 0, none⟩ = some (.int .i64 n) ∧ W.heap[H3]? = some (.cells #[.string kd, .int .i64 p, .int .i64 x] 84)) [0, 1, 2, 3, 5] [_, _, _, _, _] 6 (by simp only [List.map_cons, List.map_nil, List.getElem?_toArray]; rfl) rfl kR kR kR (HC.out _ _ _ _ hS5) ?_
 refine ⟨.pointer (some ⟨b, 0, none⟩), yieldsK_val wU (fun w' => by first | (go_simp; done) | (go_simp; rfl)), ?_⟩
 go_frame
 refine ⟨.pointer (some ⟨b, 0, none⟩), yieldsK_val wU (fun w' => by first | (go_simp; done) | (go_simp; rfl)), ?_⟩
 go_frame
 refine ⟨.pointer (some ⟨b, 0, none⟩), yieldsK_val wU (fun w' => by first | (go_simp; done) | (go_simp; rfl)), ?_⟩
 go_frame
 refine ⟨.pointer (some ⟨b, 2, none⟩), yieldsK_val wU (fun w' => by first | (go_simp; done) | (go_simp; rfl)), ?_⟩
 go_frame
 refine ⟨.agg #[.string kd, .int .i64 p, .int .i64 x], yieldsK_blkC A_move kR (fun W h => h.2.2) rfl wU wU, ?_⟩
 go_frame
 unfold wpPureK
 have hVd : ({ w4 with drawn := w4.drawn + 1 } : World) = w4.drew := rfl
 rw [hVd]
 obtain ⟨w5, hw5⟩ : ∃ w5, w5 = w4.drew := ⟨_, rfl⟩
 rw [← hw5] at hS5 ⊢
 clear hVd hw5 hS4
 have q5 : w5.heap[b]? = some (.cells #[.int .i64 n, .slice (some ⟨G, 0, none⟩) X.length c3, .slice am ms.length cm] 78) := (hS5.blk 1 rfl).1
 have hSA := hS5.al (.cells #[.string kd, .int .i64 p, .int .i64 x] 84)
 have qA : (w5.alloc (.cells #[.string kd, .int .i64 p, .int .i64 x] 84)).heap[b]? = some (.cells #[.int .i64 n, .slice (some ⟨G, 0, none⟩) X.length c3, .slice am ms.length cm] 78) := (hSA.blk 1 rfl).1
 refine wpAnyC_on [4, 6] kR (by simp) ?_
 simp only [List.forall_mem_cons, List.not_mem_nil, false_implies, implies_true, and_true]
 constructor
 ·refine wpOp_of_list (by rw [List.getElem?_toArray]; rfl) ?_
  (with_reducible refine wpList_ldB (v := .slice am ms.length cm) F_mvs wU wU (by assumption) wU ?_)
  refine ⟨HC.out _ _ _ _ hS5, ?_⟩
  go_frame
  refine wpAnyC_on [6] kR (by simp) ?_
  simp only [List.forall_mem_cons, List.not_mem_nil, false_implies, implies_true, and_true]
  refine wpOp_value (v := .slice (some ⟨w5.heap.size, 0, none⟩) 1 1) (w' := w5.alloc (.cells #[.string kd, .int .i64 p, .int .i64 x] 84)) (by rw [List.getElem?_toArray]; rfl) wU (by first | (go_simp; done) | (go_simp; rfl) | (simp [execOp, Act.eval, Result.andThen]; done)) ?_
  refine ⟨HC.out _ _ _ _ hSA, ?_⟩
  go_frame
  refine wpAnyC_on [7] kR (by simp) ?_
  simp only [List.forall_mem_cons, List.not_mem_nil, false_implies, implies_true, and_true]
  refine wpOp_of_list (by rw [List.getElem?_toArray]; rfl) ?_
  (with_reducible refine wpList_pushL (y := (⟨K, p, x⟩ : MvV)) 3 E_mvs wU wU hS5 rfl cMvMO ⟨rfl, rfl⟩ rfl (by rw [HV.out]; first | exact rfl | simp [Value.cells]) (by omega) (by omega) ?_)
  intro v6 w6 hS6
  obtain ⟨a6, c6, rfl, -⟩ := hS6.slice 3 rfl
  replace hS6 : SL B w0 w6 (pBlk H3 (.cells #[.string kd, .int .i64 p, .int .i64 x] 84) :: pBlk b (pvO n (.slice (some ⟨G, 0, none⟩) X.length c3) (.slice am ms.length cm)) :: pOwn cInt 1 3 (.slice (some ⟨G, 0, none⟩) X.length c3) X :: pOwn cMvM 3 84 (.slice a6 (ms ++ [(⟨K, p, x⟩ : MvV)]).length c6) (ms ++ [(⟨K, p, x⟩ : MvV)]) :: R) := hS6
  refine ⟨HC.out _ _ _ _ hS6, ?_⟩
  go_frame
  refine wpAnyC_pure (g := 1) kR (fun c a w h => h) (HC.out _ _ _ _ hS6) [8, 9] [_, _] _ _ (by simp only [List.map_cons, List.map_nil, List.getElem?_toArray]; rfl) kR ?_
  refine ⟨.pointer (some ⟨b, 0, none⟩), .inl ⟨by with_unfolding_all rfl, fun w' _ => by first | (go_simp; done) | (go_simp; rfl) | (with_unfolding_all exact rfl)⟩, ?_⟩
  go_frame
  refine ⟨.pointer (some ⟨b, 2, none⟩), .inl ⟨by with_unfolding_all rfl, fun w' _ => by first | (go_simp; done) | (go_simp; rfl) | (with_unfolding_all exact rfl)⟩, ?_⟩
  go_frame
  unfold wpPure
  refine wpAnyC_on [10] kR (by simp) ?_
  simp only [List.forall_mem_cons, List.not_mem_nil, false_implies, implies_true, and_true]
  refine wpOp_of_list (by rw [List.getElem?_toArray]; rfl) ?_
  refine wpList_stoM 1 wU wU hS6 rfl rfl ?_
  intro w7 hS7
  replace hS7 : SL B w0 w7 (pBlk H3 (.cells #[.string kd, .int .i64 p, .int .i64 x] 84) :: pBlk b (pvO n (.slice (some ⟨G, 0, none⟩) X.length c3) (.slice a6 (ms ++ [(⟨K, p, x⟩ : MvV)]).length c6)) :: pOwn cInt 1 3 (.slice (some ⟨G, 0, none⟩) X.length c3) X :: pOwn cMvM 3 84 (.slice a6 (ms ++ [(⟨K, p, x⟩ : MvV)]).length c6) (ms ++ [(⟨K, p, x⟩ : MvV)]) :: R) := hS7
  clear hS6
  refine ⟨HC.out _ _ _ _ hS7, ?_⟩
  go_frame
  refine wpAnyC_rest [] [] rfl rfl kR kR kR (HC.out _ _ _ _ hS7) ?_
  unfold wpPure
  refine of_wpList_nil (P := Tryz.prog) (ops := #[]) ?_
  go_wp2_with fail
  go_end0
  exact ⟨⟨_, rfl⟩, some ⟨G, 0, none⟩, c3, a6, c6, hS7.tail⟩
 ·refine wpOp_value (v := .slice (some ⟨w5.heap.size, 0, none⟩) 1 1) (w' := w5.alloc (.cells #[.string kd, .int .i64 p, .int .i64 x] 84)) (by rw [List.getElem?_toArray]; rfl) wU (by first | (go_simp; done) | (go_simp; rfl) | (simp [execOp, Act.eval, Result.andThen]; done)) ?_
  refine ⟨HC.out _ _ _ _ hSA, ?_⟩
  go_frame
  refine wpAnyC_on [4] kR (by simp) ?_
  simp only [List.forall_mem_cons, List.not_mem_nil, false_implies, implies_true, and_true]
  refine wpOp_of_list (by rw [List.getElem?_toArray]; rfl) ?_
  (with_reducible refine wpList_ldB (v := .slice am ms.length cm) F_mvs wU wU (by assumption) wU ?_)
  refine ⟨HC.out _ _ _ _ hSA, ?_⟩
  go_frame
  refine wpAnyC_on [7] kR (by simp) ?_
  simp only [List.forall_mem_cons, List.not_mem_nil, false_implies, implies_true, and_true]
  refine wpOp_of_list (by rw [List.getElem?_toArray]; rfl) ?_
  (with_reducible refine wpList_pushL (y := (⟨K, p, x⟩ : MvV)) 3 E_mvs wU wU hS5 rfl cMvMO ⟨rfl, rfl⟩ rfl (by rw [HV.out]; first | exact rfl | simp [Value.cells]) (by omega) (by omega) ?_)
  intro v6 w6 hS6
  obtain ⟨a6, c6, rfl, -⟩ := hS6.slice 3 rfl
  replace hS6 : SL B w0 w6 (pBlk H3 (.cells #[.string kd, .int .i64 p, .int .i64 x] 84) :: pBlk b (pvO n (.slice (some ⟨G, 0, none⟩) X.length c3) (.slice am ms.length cm)) :: pOwn cInt 1 3 (.slice (some ⟨G, 0, none⟩) X.length c3) X :: pOwn cMvM 3 84 (.slice a6 (ms ++ [(⟨K, p, x⟩ : MvV)]).length c6) (ms ++ [(⟨K, p, x⟩ : MvV)]) :: R) := hS6
  refine ⟨HC.out _ _ _ _ hS6, ?_⟩
  go_frame
  refine wpAnyC_pure (g := 1) kR (fun c a w h => h) (HC.out _ _ _ _ hS6) [8, 9] [_, _] _ _ (by simp only [List.map_cons, List.map_nil, List.getElem?_toArray]; rfl) kR ?_
  refine ⟨.pointer (some ⟨b, 0, none⟩), .inl ⟨by with_unfolding_all rfl, fun w' _ => by first | (go_simp; done) | (go_simp; rfl) | (with_unfolding_all exact rfl)⟩, ?_⟩
  go_frame
  refine ⟨.pointer (some ⟨b, 2, none⟩), .inl ⟨by with_unfolding_all rfl, fun w' _ => by first | (go_simp; done) | (go_simp; rfl) | (with_unfolding_all exact rfl)⟩, ?_⟩
  go_frame
  unfold wpPure
  refine wpAnyC_on [10] kR (by simp) ?_
  simp only [List.forall_mem_cons, List.not_mem_nil, false_implies, implies_true, and_true]
  refine wpOp_of_list (by rw [List.getElem?_toArray]; rfl) ?_
  refine wpList_stoM 1 wU wU hS6 rfl rfl ?_
  intro w7 hS7
  replace hS7 : SL B w0 w7 (pBlk H3 (.cells #[.string kd, .int .i64 p, .int .i64 x] 84) :: pBlk b (pvO n (.slice (some ⟨G, 0, none⟩) X.length c3) (.slice a6 (ms ++ [(⟨K, p, x⟩ : MvV)]).length c6)) :: pOwn cInt 1 3 (.slice (some ⟨G, 0, none⟩) X.length c3) X :: pOwn cMvM 3 84 (.slice a6 (ms ++ [(⟨K, p, x⟩ : MvV)]).length c6) (ms ++ [(⟨K, p, x⟩ : MvV)]) :: R) := hS7
  clear hS6
  refine ⟨HC.out _ _ _ _ hS7, ?_⟩
  go_frame
  refine wpAnyC_rest [] [] rfl rfl kR kR kR (HC.out _ _ _ _ hS7) ?_
  unfold wpPure
  refine of_wpList_nil (P := Tryz.prog) (ops := #[]) ?_
  go_wp2_with fail
  go_end0
  exact ⟨⟨_, rfl⟩, some ⟨G, 0, none⟩, c3, a6, c6, hS7.tail⟩
end Go.Proofs.YtdeoogbiipodmaaGreat

namespace Go.Proofs.YtdeoogbiipodmaaGreat
open Go.RowKit
set_option maxHeartbeats 8000000
set_option maxRecDepth 100000
/-- what handle returns. -/
def hRet : Option (Nat × Nat) → Value
 | some (b, e) => .tuple #[.int .i64 b, .int .i64 e, .bool true]
 | none => .tuple #[.int .i64 0, .int .i64 0, .bool false]
theorem hbeg_succ (w : List Int) (e b : Nat) : hbeg w e (b + 1) = (if atD 0 w b = -atD 0 w e then some b else if absI (atD 0 w b) = absI (atD 0 w e) ∨ absI (atD 0 w b) = absI (atD 0 w e) - 1 then none else hbeg w e b) := rfl
theorem hgo_succ (w : List Int) (r e : Nat) : hgo w (r + 1) e = (match hbeg w e e with | some b => some (b, e) | none => hgo w r (e + 1)) := rfl
theorem handle_any (b : Nat) (n : Nat) (vm : Value) (aw : Option Addr) (cw : Nat) (wl : List Int) (len : Nat) (w : World) (q : w.heap[b]? = some (pvO n (.slice aw wl.length cw) vm)) (hR : Ints w aw cw wl) (hr : Ltr n wl) (hn : n ≤ 12) (hl : len ≤ wl.length) (hl9 : wl.length ≤ 900) :
  Calls Tryz.prog 43 #[.pointer (some ⟨b, 0, none⟩), .int .i64 len] w fun r w' => r = .returned (hRet (handL wl len)) ∧ Below w.heap.size w w' := by
 have q0 : w.heap[b]? = some (.cells #[.int .i64 n, .slice aw wl.length cw, vm] 78) := q
 clear q
 obtain ⟨RV, hRV⟩ : ∃ RV, RV = handL wl len := ⟨_, rfl⟩
 rw [← hRV]
 have HG : Hid (hgo wl (len - 0) 0 = RV) := hid (by rw [hRV]; rfl)
 have HR := hid hr
 clear hRV hr
 go_enter Tryz.func43, Tryz.ntmps43
 go_wp2_with fail
 go_loopw [12] (fun kv wr => ∃ k : Nat, kv = .int .i64 k ∧ k ≤ len ∧ Hid (hgo wl (len - k) k = RV) ∧ Below w.heap.size w wr) (fun kv _ => len - (intOf kv).toNat)
 case atStart => exact ⟨0, rfl, by omega, HG, Below.refl _ _⟩
 case round =>
  clear HG
  obtain ⟨k, rfl, hk, HG, hbr⟩ := hrel
  by_cases hlt : k < len
  ·have dlt : decide ((k : Int) < (len : Int)) = true := decide_eq_true (by omega)
   have hw0 : IntKind.i64.wrap ((k : Int) - 1) = (k : Int) - 1 := IntWalk.i64_in _ (by omega)
   obtain ⟨r, hr⟩ : ∃ r, len - k = r + 1 := ⟨len - k - 1, by omega⟩
   have HR1 := hid hr
   have hg := HG.out
   rw [hr, hgo_succ] at hg
   obtain ⟨HB, hHB⟩ : ∃ H, H = hbeg wl k k := ⟨_, rfl⟩
   rw [← hHB] at hg
   have HGG := hid hg
   have HBB : Hid (hbeg wl k k = HB) := hid hHB.symm
   clear hg hHB hr
   have hwn : IntKind.i64.wrap ((k : Int) + 1) = ((k + 1 : Nat) : Int) := by rw [IntWalk.i64_in _ (by omega)]; omega
   go_wp2_with fail
   go_step3
   go_wp2
   go_step3
   go_wp2_with fail
   go_loopw [8] (fun jv wq => ∃ (j : Nat) (z : Int), jv = .int .i64 z ∧ z + 1 = (j : Int) ∧ j ≤ k ∧ Hid (hbeg wl k j = HB) ∧ Below wr.heap.size wr wq) (fun jv _ => (intOf jv + 1).toNat)
   case atStart => exact ⟨k, (k : Int) - 1, rfl, by omega, by omega, HBB, Below.refl _ _⟩
   case round =>
    clear HBB
    obtain ⟨j, z, rfl, hzj, hjk, HBB, hbq⟩ := hrel
    have hbw := bnext hbr hbq
    cases j with
    | zero =>
     obtain rfl : z = -1 := by omega
     have hb := HBB.out
     have hN : HB = none := hb.symm
     subst hN
     have HG2 : Hid (hgo wl (len - (k + 1)) (k + 1) = RV) := hid (by have h1 := HGG.out; have h2 := HR1.out; rw [show len - (k + 1) = r by omega]; exact h1)
     go_wp2_with fail
     exact ⟨⟨k + 1, by go_num, by omega, HG2, hbw⟩, by simp [intOf]; omega⟩
    | succ J =>
     obtain rfl : z = (J : Int) := by omega
     have dz : decide (0 ≤ (J : Int)) = true := decide_eq_true (by omega)
     have qq := (hbw.block b (Array.getElem?_eq_some_iff.1 q0).1).trans q0
     have hRq := hR.below hbw
     obtain ⟨X, eX⟩ : ∃ X, atD 0 wl (J : Int) = X := ⟨_, rfl⟩
     obtain ⟨Y, eY⟩ : ∃ Y, atD 0 wl (k : Int) = Y := ⟨_, rfl⟩
     have bX := HR.out X (by rw [← eX]; exact atD_mem (by omega))
     have bY := HR.out Y (by rw [← eY]; exact atD_mem (by omega))
     have hb := HBB.out
     rw [hbeg_succ, eX, eY] at hb
     have HB1 := hid hb
     have hwY : IntKind.i64.wrap (-Y) = -Y := IntWalk.i64_in _ (by omega)
     have HX := hid (babs_any X · (by omega) (by omega))
     have HY := hid (babs_any Y · (by omega) (by omega))
     obtain ⟨AX, hAX⟩ : ∃ z, z = absI X := ⟨_, rfl⟩
     obtain ⟨AY, hAY⟩ : ∃ z, z = absI Y := ⟨_, rfl⟩
     have bA : 0 ≤ AY ∧ AY ≤ 1000 := by rw [hAY]; exact absI_bd (by omega)
     rw [← hAX] at HX HB1
     rw [← hAY] at HY HB1
     have hwA : IntKind.i64.wrap (AY - 1) = AY - 1 := IntWalk.i64_in _ (by omega)
     have hwJ : IntKind.i64.wrap ((J : Int) - 1) = (J : Int) - 1 := IntWalk.i64_in _ (by omega)
     clear hb HBB bX bY hAX hAY hzj
     go_wp2_with fail
     refine wp_region_q kR kR ?_
     repeat (first | (((with_reducible refine wpB_idx2 0 E_ints F_int cInt1 wU (rfl) wU (hRq) oD oD (fun _ => wU) (fun _ => ?_)); (try simp only [Act.put, pA, pB, pC]); (try simp only [cInt])); first | rw [eX] | rw [eY]) | ((with_reducible refine wpB_load F_sl wU wU (by assumption) wU ?_); (try simp only [Act.put, pA, pB, pC])) |  ((with_reducible refine wpB_load (by first | exact F_int | fail) wU wU (by assumption) wU ?_); (try simp only [Act.put, pA, pB, pC])) | ((with_reducible refine wpB_loadS (n := 2) (us := #[_, _]) (by fail) kR wU wU (by assumption) wU wU ?_); (try simp only [Act.put, pA, pB, pC])) | ((with_reducible refine wpB_loadS (n := 4) (us := #[_, _, _, _]) (by fail) kR wU wU (by assumption) wU wU ?_); (try simp only [Act.put, pA, pB, pC])) | ((refine wpQ_oneG ?_ wU (fun w' => ?_) ?_); rotate_left; (go_simp; rfl); (try simp only [Act.put, pA, pB, pC])))
     refine wpQuiet_nil ?_
     intro w9 hb9
     have hbz := bnext hbw hb9
     clear hRq qq
     by_cases c1 : X = -Y
     ·have d1 : (X == -Y) = true := by simpa using c1
      have h1 := HB1.out
      rw [if_pos c1] at h1
      have hN : HB = some J := h1.symm
      subst hN
      have hRV : RV = some (J, k) := HGG.out.symm
      subst hRV
      clear HB1 HGG HG h1 c1
      go_wp2_with fail
      rw [Exit.noGoto_ret]
      go_wp2_with fail
      go_ret3
      exact ⟨rfl, hbz⟩
     ·have d1 : (X == -Y) = false := by simpa using c1
      have h1 := HB1.out
      rw [if_neg c1] at h1
      have HB2 := hid h1
      clear HB1 h1 c1
      by_cases c2 : AX = AY
      ·have d2 : (AX == AY) = true := by simpa using c2
       have h1 := HB2.out
       rw [if_pos (.inl c2)] at h1
       have hN : HB = none := h1.symm
       subst hN
       have HG2 : Hid (hgo wl (len - (k + 1)) (k + 1) = RV) := hid (by have h1 := HGG.out; have h2 := HR1.out; rw [show len - (k + 1) = r by omega]; exact h1)
       clear HB2 h1 c2
       go_wp2_with fail
       refine (HX.out _).mono ?_
       rintro e w10 ⟨rfl, rfl⟩
       go_wp2_with fail
       refine (HY.out _).mono ?_
       rintro e w11 ⟨rfl, rfl⟩
       go_wp2_with fail
       refine (show ∀ (a : Act) (w : World), Code.wp Tryz.prog _ _ a w → _ from by assumption) _ _ ?_
       go_wp2_with fail
       exact ⟨⟨k + 1, by go_num, by omega, HG2, hbz⟩, by simp [intOf]; omega⟩
      ·have d2 : (AX == AY) = false := by simpa using c2
       by_cases c3 : AX = AY - 1
       ·have d3 : (AX == AY - 1) = true := by simpa using c3
        have h1 := HB2.out
        rw [if_pos (.inr c3)] at h1
        have hN : HB = none := h1.symm
        subst hN
        have HG2 : Hid (hgo wl (len - (k + 1)) (k + 1) = RV) := hid (by have h1 := HGG.out; have h2 := HR1.out; rw [show len - (k + 1) = r by omega]; exact h1)
        clear HB2 h1 c2 c3
        go_wp2_with fail
        refine (HX.out _).mono ?_
        rintro e w10 ⟨rfl, rfl⟩
        go_wp2_with fail
        refine (HY.out _).mono ?_
        rintro e w11 ⟨rfl, rfl⟩
        go_wp2_with fail
        refine (HX.out _).mono ?_
        rintro e w12 ⟨rfl, rfl⟩
        go_wp2_with fail
        refine (HY.out _).mono ?_
        rintro e w13 ⟨rfl, rfl⟩
        go_wp2_with fail
        refine (show ∀ (a : Act) (w : World), Code.wp Tryz.prog _ _ a w → _ from by assumption) _ _ ?_
        go_wp2_with fail
        exact ⟨⟨k + 1, by go_num, by omega, HG2, hbz⟩, by simp [intOf]; omega⟩
       ·have d3 : (AX == AY - 1) = false := by simpa using c3
        have h1 := HB2.out
        rw [if_neg (by rintro (h | h); exact c2 h; exact c3 h)] at h1
        have HB3 := hid h1
        clear HB2 h1 c2 c3
        go_wp2_with fail
        refine (HX.out _).mono ?_
        rintro e w10 ⟨rfl, rfl⟩
        go_wp2_with fail
        refine (HY.out _).mono ?_
        rintro e w11 ⟨rfl, rfl⟩
        go_wp2_with fail
        refine (HX.out _).mono ?_
        rintro e w12 ⟨rfl, rfl⟩
        go_wp2_with fail
        refine (HY.out _).mono ?_
        rintro e w13 ⟨rfl, rfl⟩
        go_wp2_with fail
        exact ⟨⟨J, (J : Int) - 1, rfl, by omega, by omega, HB3, bnext hbq hb9⟩, by simp [intOf]⟩
  ·have dlt : decide ((k : Int) < (len : Int)) = false := decide_eq_false (by omega)
   have hRV : RV = none := by
    have h1 := HG.out
    rw [show len - k = 0 by omega] at h1
    exact h1.symm
   subst hRV
   clear HG
   go_wp2_with fail
   go_ret3
   exact ⟨rfl, hbr⟩
end Go.Proofs.YtdeoogbiipodmaaGreat

namespace Go.Proofs.YtdeoogbiipodmaaGreat
open Go.RowKit
set_option maxHeartbeats 8000000
set_option maxRecDepth 100000
theorem goodB_len {n : Int} {l : List Int} (h : goodB n l = true) : 0 < l.length ∧ l.length ≤ 200 := by
 unfold goodB at h
 simp only [Bool.and_eq_true, decide_eq_true_eq] at h
 exact ⟨h.1, h.2.1⟩
theorem goodB_ltr {n : Nat} {l : List Int} (h : goodB n l = true) : Ltr n l := by
 unfold goodB at h
 simp only [Bool.and_eq_true] at h
 exact fun y hy => by
  have := List.all_eq_true.1 h.2.2 y hy
  simpa using this
theorem goodB_atD {n : Nat} {l : List Int} (h : goodB n l = true) (hn : n ≤ 12) (i : Int) : -12 ≤ atD 0 l i ∧ atD 0 l i ≤ 12 := by
 unfold atD
 rw [List.getD_eq_getElem?_getD]
 cases hc : l[i.toNat]? with
 | none => simp
 | some y =>
  have := goodB_ltr h y (List.mem_of_getElem? hc)
  simp only [Option.getD_some]
  omega
theorem Good.len {n : Int} {w : List Int} {ms ms2 : List MvV} (h : Good n w ms ms2) : ms.length ≤ ms2.length := by
 obtain ⟨r, rfl, -⟩ := h
 simp
/-- do, along moves that can be made. -/
theorem do_good {B : Nat} {w0 w : World} {n b : Nat} {wl : List Int} {ms ms2 : List MvV} {R : List Pc} (m : MvV) (h : PvSt B w0 w n b wl ms R) (hg : Good n wl ms ms2) (hl : goodB n wl = true) (hp : ∃ r, ms2 = (ms ++ [m]) ++ r) (hm2 : ms2.length ≤ 100) (hn : 1 ≤ n ∧ n ≤ 12) :
  Calls Tryz.prog 42 #[.pointer (some ⟨b, 0, none⟩), cMvM m] w fun r w' => (∃ v, r = .returned v) ∧ PvSt B w0 w' n b (mvW wl m) (ms ++ [m]) R ∧ Good n (mvW wl m) (ms ++ [m]) ms2 ∧ goodB n (mvW wl m) = true := by
 obtain ⟨h1, h2, h3⟩ := hg.step hp
 have l1 := goodB_len hl
 have l2 := hg.len
 refine (do_any m h (by omega) l1.1 (by omega) hn (goodB_ltr hl) h1 (goodB_len h2).1).mono ?_
 rintro r w' ⟨hv, h4⟩
 exact ⟨hv, h4, h3, h2⟩
theorem carL_succ (x : Int) (f a : Nat) (w : List Int) (ms : List MvV) : carL x (f + 1) a w ms = (if atD 0 w (a + 1 : Nat) = -x then some (mvW w ⟨1, a, 0⟩, ms ++ [⟨1, a, 0⟩]) else if 2 ≤ absI (absI x - absI (atD 0 w (a + 1 : Nat))) then carL x f (a + 1) (mvW w ⟨2, a, 0⟩) (ms ++ [⟨2, a, 0⟩]) else carL x f (a + 3) (mvW (mvW w ⟨0, a + 2, -x⟩) ⟨3, a, 0⟩) (ms ++ [⟨0, a + 2, -x⟩, ⟨3, a, 0⟩])) := rfl
/-- what holds within carry. -/
structure CarS (n : Nat) (x : Int) (f a : Nat) (wl : List Int) (ms : List MvV) (w2 : List Int) (ms2 : List MvV) : Prop where
 run : carL x f a wl ms = some (w2, ms2)
 good : Good n wl ms ms2
 fit : goodB n wl = true
theorem CarS.at2 {n f a : Nat} {x : Int} {wl w2 : List Int} {ms ms2 : List MvV} (h : CarS n x f a wl ms w2 ms2) : a + 2 ≤ wl.length := by
 obtain ⟨h1, h2, h3⟩ := h
 cases f with
 | zero => cases h1
 | succ f =>
  rw [carL_succ] at h1
  split at h1
  ·cases h1
   have := (h2.step (m := ⟨1, a, 0⟩) ⟨[], by simp⟩).1
   exact (mvOk_len this).2 (by simp)
  ·split at h1
   ·obtain ⟨r, hr⟩ := carL_pre _ _ _ _ _ _ h1
    have := (h2.step (m := ⟨2, a, 0⟩) ⟨r, hr⟩).1
    exact (mvOk_len this).2 (by simp)
   ·obtain ⟨r, hr⟩ := carL_pre _ _ _ _ _ _ h1
    have := (h2.step (m := ⟨0, a + 2, -x⟩) ⟨[⟨3, a, 0⟩] ++ r, by rw [show ms2 = _ from hr]; simp⟩).1
    exact (mvOk_len this).1
theorem carry_any {B : Nat} {w0 w : World} {n b bg f : Nat} {en x : Int} {wl w2 : List Int} {ms ms2 : List MvV} {R : List Pc} (h : PvSt B w0 w n b wl ms R) (hx : atD 0 wl (bg : Int) = x) (hc : CarS n x f bg wl ms w2 ms2) (hm2 : ms2.length ≤ 100) (hn : 1 ≤ n ∧ n ≤ 12) (hw2 : w2.length ≤ 200) :
  Calls Tryz.prog 44 #[.pointer (some ⟨b, 0, none⟩), .int .i64 bg, .int .i64 en] w fun r w' => r = .returned (.int .i64 ((w2.length : Int) - wl.length)) ∧ PvSt B w0 w' n b w2 ms2 R := by
 have hat := hc.at2
 have hwl := goodB_len hc.fit
 have bx := goodB_atD hc.fit hn.2 (bg : Int)
 rw [hx] at bx
 have hwx : IntKind.i64.wrap (-x) = -x := IntWalk.i64_in _ (by omega)
 have HX := hid (babs_any x · (by omega) (by omega))
 obtain ⟨N0, hN0⟩ : ∃ N, N = wl.length := ⟨_, rfl⟩
 rw [← hN0]
 have hN2 : N0 ≤ 200 := by omega
 have hwD : IntKind.i64.wrap ((w2.length : Int) - (N0 : Int)) = (w2.length : Int) - (N0 : Int) := IntWalk.i64_in _ (by omega)
 obtain ⟨AX, hAX⟩ : ∃ z, z = absI x := ⟨_, rfl⟩
 have bA : 0 ≤ AX ∧ AX ≤ 12 := by rw [hAX]; exact absI_bd (by omega)
 rw [← hAX] at HX
 have HAX := hid hAX
 clear hAX
 have hPS := h
 obtain ⟨aw, cw, am, cm, hS⟩ := h
 have q := (hS.blk 0 rfl).1
 simp only [pvO] at q
 have hR := hS.rd 1 rfl
 have hbg : bg < N0 := by omega
 have HN0 := hid hN0
 have HX0 := hid hx
 rw [← hN0] at q
 clear hN0 hx
 go_enter Tryz.func44, Tryz.ntmps44
 go_wp2_with (first | (with_reducible refine wpList_ldB (v := .slice aw N0 cw) F_sl wU wU (by assumption) wU ?_) | ((with_reducible refine wpList_idxN _ 0 E_ints F_int cInt1 wU wU (hR) (HN0.out.symm) oD oD (fun _ => wU) (fun _ => ?_)); rw [HX0.out]))
 clear q hR hS
 go_loopg [9] f (fun g av wr => ∃ (a : Nat) (wl' : List Int) (ms' : List MvV), av = .int .i64 a ∧ Aside (CarS n x g a wl' ms' w2 ms2) ∧ PvSt B w0 wr n b wl' ms' R)
 case atStart => exact ⟨bg, wl, ms, rfl, hc, hPS⟩
 case round =>
  clear hPS hc HX0 HN0 hwl hat
  obtain ⟨a, wl', ms', rfl, HC, hP⟩ := hrel
  cases gk with
  | zero => exact absurd HC.out.run (by intro h; cases h)
  | succ g =>
   have hat := HC.out.at2
   have hrun := HC.out.run
   have hg := HC.out.good
   have hl := HC.out.fit
   have hwl := goodB_len hl
   have bY := goodB_atD hl hn.2 ((a + 1 : Nat) : Int)
   rw [carL_succ] at hrun
   obtain ⟨Y, hY⟩ : ∃ Y, atD 0 wl' ((a + 1 : Nat) : Int) = Y := ⟨_, rfl⟩
   rw [hY] at bY hrun
   have HY0 : Hid (atD 0 wl' ((a : Int) + 1) = Y) := hid hY
   have hPS := hP
   obtain ⟨aw, cw, am, cm, hS⟩ := hP
   have q := (hS.blk 0 rfl).1
   simp only [pvO] at q
   have hR := hS.rd 1 rfl
   have hwa : IntKind.i64.wrap ((a : Int) + 1) = (a : Int) + 1 := IntWalk.i64_in _ (by omega)
   have hwa2 : IntKind.i64.wrap ((a : Int) + 2) = (a : Int) + 2 := IntWalk.i64_in _ (by omega)
   have hwa3 : IntKind.i64.wrap ((a : Int) + 3) = (a : Int) + 3 := IntWalk.i64_in _ (by omega)
   have HYA := hid (babs_any Y · (by omega) (by omega))
   obtain ⟨AY, hAY⟩ : ∃ z, z = absI Y := ⟨_, rfl⟩
   have bB : 0 ≤ AY ∧ AY ≤ 12 := by rw [hAY]; exact absI_bd (by omega)
   rw [← HAX.out, ← hAY] at hrun
   rw [← hAY] at HYA
   have hwS : IntKind.i64.wrap (AX - AY) = AX - AY := IntWalk.i64_in _ (by omega)
   have HDA := hid (babs_any (AX - AY) · (by omega) (by omega))
   obtain ⟨AD, hAD⟩ : ∃ z, z = absI (AX - AY) := ⟨_, rfl⟩
   rw [← hAD] at hrun HDA
   have HRUN := hid hrun
   have hlt : a + 1 < wl'.length := by omega
   clear hY hAY hAD hrun bY bB hat
   by_cases c1 : Y = -x
   ·have d1 : (Y == -x) = true := by simpa using c1
    have h1 := HRUN.out
    rw [if_pos c1] at h1
    injection h1 with h1
    injection h1 with e1 e2
    have HD := hid (do_good ⟨1, a, 0⟩ hPS hg hl ⟨[], by rw [List.append_nil]; exact e2.symm⟩ hm2 hn)
    rw [e1, e2] at HD
    clear HRUN c1 e1 e2 hPS hg hl HC
    go_wp2_with (first | (with_reducible refine wpList_ldB (v := .slice aw wl'.length cw) F_sl wU wU (by assumption) wU ?_) | ((with_reducible refine wpList_idx _ 0 E_ints F_int cInt1 wU wU (hR) oD oD (fun _ => wU) (fun _ => ?_)); rw [HY0.out]))
    clear q hR hS
    refine HD.out.mono ?_
    rintro e w5 ⟨⟨v5, rfl⟩, hP5, -, -⟩
    have hPS := hP5
    obtain ⟨aw5, cw5, am5, cm5, hS5⟩ := hP5
    have q := (hS5.blk 0 rfl).1
    simp only [pvO] at q
    clear hS5
    go_wp2_with (with_reducible refine wpList_ldB (v := .slice aw5 w2.length cw5) F_sl wU wU (by assumption) wU ?_)
    go_ret
    exact ⟨rfl, hPS⟩
   ·have d1 : (Y == -x) = false := by simpa using c1
    have h1 := HRUN.out
    rw [if_neg c1] at h1
    by_cases c2 : 2 ≤ AD
    ·have d2 : decide (2 ≤ AD) = true := decide_eq_true c2
     rw [if_pos c2] at h1
     have HD := hid (do_good ⟨2, a, 0⟩ hPS hg hl (by obtain ⟨r, hr⟩ := carL_pre _ _ _ _ _ _ h1; exact ⟨r, hr⟩) hm2 hn)
     have HN1 := hid h1
     clear HRUN h1 c1 c2 hPS hg hl HC
     go_wp2_with (first | (with_reducible refine wpList_ldB (v := .slice aw wl'.length cw) F_sl wU wU (by assumption) wU ?_) | ((with_reducible refine wpList_idx _ 0 E_ints F_int cInt1 wU wU (hR) oD oD (fun _ => wU) (fun _ => ?_)); rw [HY0.out]))
     clear q hR hS
     refine (HX.out _).mono ?_
     rintro e w10 ⟨rfl, rfl⟩
     go_wp2_with fail
     refine (HYA.out _).mono ?_
     rintro e w11 ⟨rfl, rfl⟩
     go_wp2_with fail
     refine (HDA.out _).mono ?_
     rintro e w12 ⟨rfl, rfl⟩
     go_wp2_with fail
     refine HD.out.mono ?_
     rintro e w5 ⟨⟨v5, rfl⟩, hP5, hg5, hl5⟩
     go_wp2_with fail
     go_roundg g
     case measure => omega
     case rel => exact ⟨a + 1, _, _, by go_num, ⟨HN1.out, hg5, hl5⟩, hP5⟩
    ·have d2 : decide (2 ≤ AD) = false := decide_eq_false c2
     rw [if_neg c2] at h1
     have HD := hid (do_good ⟨0, a + 2, -x⟩ hPS hg hl (by obtain ⟨r, hr⟩ := carL_pre _ _ _ _ _ _ h1; exact ⟨[⟨3, a, 0⟩] ++ r, by rw [show ms2 = _ from hr]; simp⟩) hm2 hn)
     have HN1 := hid h1
     clear HRUN h1 c1 c2 hPS hg hl HC
     go_wp2_with (first | (with_reducible refine wpList_ldB (v := .slice aw wl'.length cw) F_sl wU wU (by assumption) wU ?_) | ((with_reducible refine wpList_idx _ 0 E_ints F_int cInt1 wU wU (hR) oD oD (fun _ => wU) (fun _ => ?_)); rw [HY0.out]))
     clear q hR hS
     refine (HX.out _).mono ?_
     rintro e w10 ⟨rfl, rfl⟩
     go_wp2_with fail
     refine (HYA.out _).mono ?_
     rintro e w11 ⟨rfl, rfl⟩
     go_wp2_with fail
     refine (HDA.out _).mono ?_
     rintro e w12 ⟨rfl, rfl⟩
     go_wp2_with fail
     refine HD.out.mono ?_
     rintro e w5 ⟨⟨v5, rfl⟩, hP5, hg5, hl5⟩
     have HD2 := hid (do_good ⟨3, a, 0⟩ hP5 hg5 hl5 (by obtain ⟨r, hr⟩ := carL_pre _ _ _ _ _ _ HN1.out; exact ⟨r, by rw [show ms2 = _ from hr]; simp⟩) hm2 hn)
     clear HD hP5 hg5 hl5
     go_wp2_with fail
     refine HD2.out.mono ?_
     rintro e w6 ⟨⟨v6, rfl⟩, hP6, hg6, hl6⟩
     go_wp2_with fail
     go_roundg g
     case measure => omega
     case rel => exact ⟨a + 3, _, _, by go_num, ⟨by have := HN1.out; rw [List.append_assoc]; exact this, hg6, hl6⟩, hP6⟩
end Go.Proofs.YtdeoogbiipodmaaGreat

namespace Go.Proofs.YtdeoogbiipodmaaGreat
open Go.RowKit
set_option maxHeartbeats 8000000
set_option maxRecDepth 100000
theorem moved_any (n : Nat) (av am : Option Addr) (cv cm : Nat) (v : List Int) (ms : List MvV) (w : World) (hV : Ints w av cv v) (hM : Reps cMvM 3 w am cm ms) (hn : 1 ≤ n ∧ n ≤ 12) (ha : allB n v ms = true) (hg : goodB n v = true) (hm : ms.length ≤ 100) :
  Calls Tryz.prog 45 #[.int .i64 n, .slice av v.length cv, .slice am ms.length cm] w fun r w' => ∃ u, r = .returned (.tuple #[u, .int .i64 0]) ∧ OwnI w.heap.size w' u (ms.foldl mvW v) ∧ Below w.heap.size w w' := by
 have hgl := goodB_len hg
 have d0 : decide ((100000 : Int) < (ms.length : Int)) = false := decide_eq_false (by omega)
 have d1 : decide (100000 < ms.length) = false := decide_eq_false (by omega)
 have hmc := hM.le
 have HG0 := hid hg; have HA := hid ha
 clear ha hg
 go_enter Tryz.func45, Tryz.ntmps45
 go_wp2_with fail
 refine (Clone_any av cv v _ hV (by omega) hgl.1).mono ?_
 rintro e w1 ⟨v1, rfl, ho1, b1⟩
 have hS1 := SL.ofOwn ho1 b1
 clear ho1 b1
 go_wp2_with fail
 obtain ⟨a1, c1, rfl, -⟩ := hS1.slice 0 rfl
 go_loopw [19, 1] (fun iv lv wr => ∃ (k : Nat) (wl : List Int) (aw : Option Addr) (cw : Nat), iv = .int .i64 k ∧ k ≤ ms.length ∧ lv = .slice aw wl.length cw ∧ Hid (wl = (ms.take k).foldl mvW v ∧ allB n wl (ms.drop k) = true ∧ goodB n wl = true) ∧ SL w.heap.size w wr [pOwn cInt 1 3 (.slice aw wl.length cw) wl]) (fun iv _ _ => ms.length - (intOf iv).toNat)
 case atStart => exact ⟨0, v, a1, c1, rfl, by omega, rfl, hid ⟨rfl, by rw [List.drop_zero]; exact HA.out, HG0.out⟩, hS1⟩
 case round =>
  clear hS1 HA HG0
  obtain ⟨k, wl, aw, cw, rfl, hk, rfl, HI, hSr⟩ := hrel
  have hMr := hM.below hSr.b
  by_cases hlt : k < ms.length
  ·have dlt : decide ((k : Int) < (ms.length : Int)) = true := decide_eq_true (by omega)
   have hwk : IntKind.i64.wrap ((k : Int) + 1) = ((k + 1 : Nat) : Int) := by rw [IntWalk.i64_in _ (by omega)]; omega
   obtain ⟨i1, i2, i3⟩ := HI.out
   have hM0 : ∃ M, M = atD (⟨0, 0, 0⟩ : MvV) ms (k : Int) := ⟨_, rfl⟩
   obtain ⟨M, hM0⟩ := hM0
   have eM : ms[k] = M := by rw [hM0]; simp [atD, hlt]
   have hd : ms.drop k = M :: ms.drop (k + 1) := by rw [List.drop_eq_getElem_cons hlt, eM]
   have ht : ms.take (k + 1) = ms.take k ++ [M] := by rw [List.take_succ_eq_append_getElem hlt, eM]
   rw [hd, allB] at i2
   simp only [Bool.and_eq_true] at i2
   obtain ⟨j1, j2, j3⟩ := i2
   have hwl := goodB_len i3
   have hwl2 := goodB_len j2
   have HAP := hid (fun W (h : Ints W aw cw wl) => apply_mv n M aw cw wl W h (by omega) hwl.1 hn (goodB_ltr i3) j1)
   have HN : Hid (mvW wl M = (ms.take (k + 1)).foldl mvW v ∧ allB n (mvW wl M) (ms.drop (k + 1)) = true ∧ goodB n (mvW wl M) = true) := hid ⟨by rw [ht, List.foldl_append, ← i1]; rfl, j3, j2⟩
   obtain ⟨X, hX⟩ : ∃ X, X = mvW wl M := ⟨_, rfl⟩
   rw [← hX] at HAP HN hwl2
   obtain ⟨K, p, x⟩ := M
   obtain ⟨kd, hkd⟩ : ∃ kd, kd = kdS K := ⟨_, rfl⟩
   have HV : Hid (cMvM ⟨K, p, x⟩ = .agg #[.string kd, .int .i64 p, .int .i64 x]) := hid (by rw [hkd]; rfl)
   rw [HV.out] at HAP
   have HM0 := hid hM0.symm
   have hSb := hSr.box (.cells #[.string kd, .int .i64 p, .int .i64 x] 84)
   have qb := (hSb.blk 0 rfl).1
   have hkl : (k : Int) < (ms.length : Int) := by omega
   clear hX hkd hM0 eM hd ht i1 i3 j1 j2 j3 hwl HI
   go_wp2_with (first | ((with_reducible refine wpList_idxS _ (⟨0, 0, 0⟩ : MvV) E_mvs A_move cMvM1 wU wU (hMr) oD oD (fun _ => wU) (fun _ => ?_)); rw [HM0.out, HV.out]) | (with_reducible refine wpList_ldS (n := 3) (us := #[.string kd, .int .i64 p, .int .i64 x]) A_move kR wU wU (by assumption) wU wU ?_))
   refine (HAP.out _ (hSb.rd 1 rfl)).mono ?_
   rintro e w3 ⟨v3, rfl, ho3, b3⟩
   obtain ⟨G, c3, rfl⟩ := own_some ho3 hwl2.1
   have hS3 := (hSb.call (SL.ofOwn ho3 b3)).one 0 rfl
   clear hSb qb ho3 b3 hSr hMr
   go_wp2_with fail
   exact ⟨⟨k + 1, X, _, c3, by go_num, by omega, rfl, HN, hS3⟩, by simp [intOf]; omega⟩
  ·have dlt : decide ((k : Int) < (ms.length : Int)) = false := decide_eq_false (by omega)
   obtain ⟨i1, -, -⟩ := HI.out
   rw [List.take_of_length_le (by omega)] at i1
   have HI1 := hid i1
   clear i1 HI
   go_wp2_with fail
   go_ret2
   rw [← HI1.out]
   exact ⟨_, rfl, hSr.own 0 rfl, hSr.b⟩
theorem bCheckMoves_any (n : Nat) (av ax am : Option Addr) (cv cs cm : Nat) (v s : List Int) (ms : List MvV) (w : World) (hV : Ints w av cv v) (hS : Ints w ax cs s) (hM : Reps cMvM 3 w am cm ms) (hn : 1 ≤ n ∧ n ≤ 12) (hwv : wordE (n : Int) v = 0) (hws : wordE (n : Int) s = 0) (ha : allB n v ms = true) (hg : goodB n v = true) (hm : ms.length ≤ 100) (hend : ms.foldl mvW v = s) (hs2 : s.length ≤ 200) :
  Calls Tryz.prog 13 #[.int .i64 n, .slice av v.length cv, .slice ax s.length cs, .slice am ms.length cm] w fun r w' => r = .returned (.int .i64 0) ∧ Below w.heap.size w w' := by
 have HC := hid (fun W (h : Ints W av cv v) (h2 : Ints W ax cs s) => checkBoth_any n av ax cv cs v s W h h2 hwv hws)
 have CM := fun W (h : Ints W av cv v) (h2 : Reps cMvM 3 W am cm ms) => moved_any n av am cv cm v ms W h h2 hn ha hg hm
 rw [hend] at CM
 have HMV := hid CM
 clear CM hwv hws ha hg hend
 go_enter Tryz.func13, Tryz.ntmps13
 go_wp2_with fail
 refine (HC.out _ hV hS).mono ?_
 rintro e w1 ⟨rfl, b1⟩
 have t1 := b1
 clear b1
 go_wp2_with fail
 refine (HMV.out _ (hV.below t1) (hM.below t1)).mono ?_
 rintro e w2 ⟨u, rfl, ho, b2⟩
 obtain ⟨a2, c2, rfl, h2, -, -⟩ := ho.reps
 have t2 := bnext t1 b2
 clear ho b2 t1
 go_wp2_with fail
 have CQ := equalI_any a2 ax c2 cs s.length s s w2 h2 (hS.below t2) rfl rfl (by omega)
 rw [decide_eq_true (rfl : s = s)] at CQ
 refine CQ.mono ?_
 rintro e w3 ⟨rfl, b3⟩
 have t3 := bnext t2 b3
 clear b3 t2 h2
 go_wp2_with fail
 refine (calls_below (bwhen_any false 21 w3)).mono ?_
 rintro e w4 ⟨rfl, b4⟩
 have t4 := bnext t3 b4
 clear b4 t3
 have hz : (if (false : Bool) = true then (21 : Int) else 0) = 0 := by simp
 go_wp2_with fail
 have HR5 : Ints (w4.alloc (.cells #[.int .i64 0, .int .i64 0] 28)) (some ⟨w4.heap.size, 0, none⟩) 2 [0, 0] := reps_newN (w := w4) cIntS [0, 0] 2 rfl (by decide) #[.int .i64 0, .int .i64 0] (0, 0) rfl rfl
 have b5 := bal (Below.refl w4.heap.size w4) (.cells #[.int .i64 0, .int .i64 0] 28)
 obtain ⟨w5, hw5⟩ : ∃ w5, w5 = w4.alloc (.cells #[.int .i64 0, .int .i64 0] 28) := ⟨_, rfl⟩
 rw [← hw5] at b5 HR5 ⊢
 refine (bfirst_any _ _ [0, 0] _ HR5).mono ?_
 rintro e w5' ⟨rfl, rfl⟩
 have e9 : firstE [0, 0] = 0 := rfl
 rw [e9]
 clear hw5 HR5 hz
 go_wp2_with fail
 go_ret
 exact ⟨rfl, bnext t4 b5⟩
end Go.Proofs.YtdeoogbiipodmaaGreat

namespace Go.Proofs.YtdeoogbiipodmaaGreat
open Go.RowKit
set_option maxRecDepth 100000
/-- what such an iterator promises: O is the order in which it yields, R0 are the pieces that it finds and leaves. -/
def SeqOrd {α : Type} (F : Fence) (n : Nat) (P : Program) (g : Nat) (lb : Array Value) (encs : α → Array Value) (O : List α → α → Prop) (S : List α → Prop) (R0 : List Pc) (B : Nat) (w0 : World) : Prop :=
 ∀ (σ : Type) (l : Nat) (Inv : List α → σ → Prop) (pcs : σ → List Pc) (Rest : List Pc) (W : World) (s0 : σ),
  (∀ pre x s R W1, Inv pre s → SL B w0 W1 (pcs s ++ (R ++ Rest)) → O pre x → YieldAt F (n - 1) P l (encs x) W1 fun e W' => e = .returned (.bool true) ∧ ∃ s', Inv (pre ++ [x]) s' ∧ SL B w0 W' (pcs s' ++ (R ++ Rest))) →
  Inv [] s0 → SL B w0 W (pcs s0 ++ (R0 ++ Rest)) → CallsIn F n P g (#[.func (.yield l) #[] #[]] ++ lb) W fun e W' => (∃ v, e = .returned v) ∧ ∃ xs s, S xs ∧ Inv xs s ∧ SL B w0 W' (pcs s ++ (R0 ++ Rest))
section
variable {F : Fence} {n : Nat} {P : Program}
theorem rangeFunc_ord {α σ : Type} {g : Operand} {ps : Array Tmp} {assign body : Code} {Q : Exit → Act → World → Prop} {a : Act} {w : World}
  (hro : F.round = none) (h1 : 1 ≤ n) {gf : Nat} {lb : Array Value} (hg : a.eval g = .func (.func gf) #[] lb) (hFg : F.fn gf) (eg : ∀ args w, (callFunc gf args).run P w = .ok (.enter gf args) w)
  {encs : α → Array Value} {O : List α → α → Prop} {S : List α → Prop} {R0 : List Pc} {B : Nat} {w0 : World} (hseq : SeqOrd F (n - 1) P gf lb encs O S R0 B w0) (hps : ∀ x, (encs x).size = ps.size)
  (Inv : List α → σ → Prop) (pcs : σ → List Pc) (s0 : σ) (h0 : Inv [] s0) (hS0 : SL B w0 w (pcs s0 ++ R0))
  (hround : ∀ (l : Nat) (pre : List α) (x : α) (s : σ) (R : List Pc) (W : World), Inv pre s → SL B w0 W (pcs s ++ R) → O pre x →
   assign.wpIn (F.inRound l) (n - 1 - 1) P (Exit.then (fun a1 W1 => ∃ K1, SL B w0 W1 (K1 ++ R) ∧ ∀ R2 W2, SL B w0 W2 (K1 ++ R2) →
    body.wpIn (F.inRound l) (n - 1 - 1) P (fun e _ W3 => e = .normal ∧ ∃ s', Inv (pre ++ [x]) s' ∧ SL B w0 W3 (pcs s' ++ R2)) a1 W2) (fun _ _ _ => False)) { tmps := (ps.zip (encs x)).foldl (fun t (p, v) => t.setIfInBounds p v) a.tmps, defers := [] } W)
  (hdone : ∀ (D : Nat) (xs : List α) (s : σ) (W : World), w.heap.size ≤ D → S xs → Inv xs s → SL B w0 W (pMark D :: (pcs s ++ R0)) → Q .normal { a with defers := { target := .collected D, args := #[] } :: a.defers } W) :
  (Code.rangeFunc g ps assign body).wpIn F n P Q a w := by
 refine wpIn_rangeFunc ?_
 intro fn hfn
 rw [hro]
 obtain ⟨rec, hrec⟩ : ∃ rec : LoopState → Option Code → Loop, rec = fun st pe => { state := st, pending := pe, fn, tmps := a.tmps, params := ps, assign, body, defers := w.heap.size } := ⟨_, rfl⟩
 obtain ⟨W1, hW1⟩ : ∃ W1, (w.alloc (.deferred (some []))).alloc (.loop (rec .ready none)) = W1 := ⟨_, rfl⟩
 have hS1 : SL B w0 W1 (pcs s0 ++ (R0 ++ [pBlk (w.heap.size + 1) (.loop (rec .ready none)), pMark w.heap.size])) := by
  have h := (hS0.box (.deferred (some []))).box (.loop (rec .ready none))
  simp only [World.size_alloc, hW1] at h
  have h2 : SL B w0 W1 ((pcs s0 ++ R0) ++ [pBlk (w.heap.size + 1) (.loop (rec .ready none)), pMark w.heap.size]) := SL.comm (K := [pBlk (w.heap.size + 1) (.loop (rec .ready none)), pMark w.heap.size]) h
  rwa [List.append_assoc] at h2
 refine ⟨w.heap.size + 1, [{ target := .collected w.heap.size, args := #[] }], W1, { target := .fn (.func gf) lb, args := #[.func (.yield (w.heap.size + 1)) #[] #[]] }, W1, gf,
  #[.func (.yield (w.heap.size + 1)) #[] #[]] ++ lb, W1, ?_, ?_, ?_, ?_, fun _ => h1, ?_⟩
 ·rw [← hW1, hrec]; exact run_enterLoop_outer _ _ _ _ _
 ·simp only [resolve, hg]
  simp [go_sem]
 ·intro f' hf'; simp [Target.leads] at hf'; subst hf'; exact hFg
 ·simp [invoke, go_sem, eg]
 ·refine (hseq σ (w.heap.size + 1) Inv pcs [pBlk (w.heap.size + 1) (.loop (rec .ready none)), pMark w.heap.size] W1 s0 ?_ h0 hS1).mono ?_
  ·intro pre x s R W hi hS hlen
   have front : ∀ (K : List Pc) (o : Obj) (V : World), SL B w0 V (K ++ (R ++ [pBlk (w.heap.size + 1) o, pMark w.heap.size])) → SL B w0 V ([pBlk (w.heap.size + 1) o, pMark w.heap.size] ++ (K ++ R)) := fun K o V h => by
    rw [← List.append_assoc] at h
    exact h.comm
   have back : ∀ (K : List Pc) (o : Obj) (V : World), SL B w0 V ([pBlk (w.heap.size + 1) o, pMark w.heap.size] ++ (K ++ R)) → SL B w0 V (K ++ (R ++ [pBlk (w.heap.size + 1) o, pMark w.heap.size])) := fun K o V h => by
    have := h.comm
    rwa [List.append_assoc] at this
   have hl := ((front (pcs s) _ _ hS).blk 0 rfl).1
   have hy := run_yield (P := P) (args := encs x) hl (by rw [hrec]; exact hps x)
   rw [hrec] at hy
   refine ⟨fn, _, assign, body, hy, roundIn_of_wpIn hfn (wpIn_mono (hround _ pre x s _ W hi hS hlen) ?_)⟩
   clear hy
   intro e a1 Wa hp
   cases e with
   | normal =>
    obtain ⟨K1, hSa, hbody⟩ := hp
    have hFa := front K1 _ _ hSa
    have hl' := (hFa.blk 0 rfl).1
    refine ⟨_, run_beginRound hl' (by rw [hrec]), ?_⟩
    have hF2 := hFa.putO 0 rfl (.loop { rec .ready none with state := .busy })
    refine wpIn_mono (hbody _ _ (back K1 _ _ hF2)) ?_
    rintro e a3 W3 ⟨rfl, s', hi3, hS3⟩
    have hF3 := front (pcs s') _ _ hS3
    have hl3 := (hF3.blk 0 rfl).1
    have hr := run_endRound (P := P) none hl3
    rw [hrec] at hr
    refine ⟨_, _, hr, rfl, s', hi3, ?_⟩
    have hF4 := hF3.putO 0 rfl (.loop (rec .ready none))
    rw [hrec] at hF4 ⊢
    exact back (pcs s') _ _ hF4
   | _ => exact hp.elim
  ·rintro e W2 ⟨⟨v, rfl⟩, xs, s, hSx, hi, hS2⟩
   have hF : SL B w0 W2 ([pBlk (w.heap.size + 1) (.loop (rec .ready none)), pMark w.heap.size] ++ (pcs s ++ R0)) := by
    rw [← List.append_assoc] at hS2
    exact hS2.comm
   have hl := (hF.blk 0 rfl).1
   have hr := run_endLoop (P := P) hl (by rw [hrec]; simp)
   rw [hrec] at hr
   exact ⟨none, _, hr, hdone _ xs s _ (Nat.le_refl _) hSx hi (SL.tail (hF.putO 0 rfl _))⟩
end
end Go.Proofs.YtdeoogbiipodmaaGreat

namespace Go.Proofs.YtdeoogbiipodmaaGreat
open Go.RowKit Go.Shelf
attribute [local go_sem] Oper.semAt_some
set_option maxHeartbeats 8000000
set_option maxRecDepth 100000
theorem backward_any (a : Option Addr) (m c : Nat) (w : World) : Calls Tryz.prog 41 #[.slice a m c] w fun r w' => r = .returned (.func (.func 81) #[] #[.pointer (some ⟨w.heap.size, 0, none⟩)]) ∧ w' = w.alloc (.cells #[.slice a m c] 22) := by
 go_enter Tryz.func41, Tryz.ntmps41
 go_wp2
 go_ret
 exact ⟨rfl, rfl⟩
/-- what the iterator yields in its round j. -/
def bwV (l : List Int) (j : Nat) : Array Value := #[.int .i64 ((l.length : Int) - 1 - j), .int .i64 (atD 0 l ((l.length : Int) - 1 - j))]
theorem backward_ord (m bx : Nat) (a : Option Addr) (c : Nat) (l : List Int) (hl : l.length ≤ 1000) (hm : 1 ≤ m) (w0 : World) (hL : Ints w0 a c l) :
  SeqOrd Fence.wide m Tryz.prog 81 #[.pointer (some ⟨bx, 0, none⟩)] (bwV l) (fun pre x => x = pre.length ∧ x < l.length ∧ pre = List.range pre.length) (fun xs => xs = List.range l.length) [pBlk bx (.cells #[.slice a l.length c] 22)] w0.heap.size w0 := by
 intro σ ln Inv pcs Rest W s0 hY h0 hS0
 have HY := hid hY
 clear hY
 have hS : SL w0.heap.size w0 W (pBlk bx (.cells #[.slice a l.length c] 22) :: (Rest ++ pcs s0)) := SL.comm (K := pcs s0) (L := pBlk bx (.cells #[.slice a l.length c] 22) :: Rest) hS0
 clear hS0
 have hcb := hS.cell 0 rfl 0 rfl
 have hw0 : IntKind.i64.wrap ((l.length : Int) - 1) = (l.length : Int) - 1 := IntWalk.i64_in _ (by omega)
 refine callsIn_of_wp Tryz.func81 rfl trivial ?_ rfl
 simp only [Tryz.ntmps81, List.size_toArray, List.length_cons, List.length_nil, Nat.reduceAdd, Nat.reduceSub, Array.replicate_succ, Array.replicate_zero, List.push_toArray, List.append_toArray, List.nil_append, List.cons_append]
 gi_wp2
 clear hcb
 gi_loopw [3] (fun iv wr => ∃ (j : Nat) (z : Int) (s : σ), iv = .int .i64 z ∧ z + 1 + j = l.length ∧ -1 ≤ z ∧ Inv (List.range j) s ∧ SL w0.heap.size w0 wr (pBlk bx (.cells #[.slice a l.length c] 22) :: (Rest ++ pcs s))) (fun iv _ => (intOf iv + 1).toNat)
 case atStart => exact ⟨0, (l.length : Int) - 1, s0, rfl, by omega, by omega, h0, hS⟩
 case round =>
  clear hS h0
  obtain ⟨j, z, s, rfl, hz, hz1, hInv, hSr⟩ := hrel
  have HINV := hid hInv
  clear hInv
  have hcb := hSr.cell 0 rfl 0 rfl
  by_cases hge : 0 ≤ z
  ·have dz : decide (0 ≤ z) = true := decide_eq_true hge
   have hR0 := hL.below hSr.b
   have hzl : z < l.length := by omega
   have hzn : z.toNat < l.length := by omega
   have hw1 : IntKind.i64.wrap (z - 1) = z - 1 := IntWalk.i64_in _ (by omega)
   obtain ⟨bb, oo, rfl, hcx⟩ := hR0.cells (by decide) 0 z.toNat (by omega)
   have hcx := hcx 0 (.int .i64 (atD 0 l z)) (by simp [cInt, Value.cells, atD])
   simp only [Nat.mul_one, Nat.add_zero] at hcx
   have hSy : SL w0.heap.size w0 wr (pcs s ++ ([pBlk bx (.cells #[.slice (some ⟨bb, oo, none⟩) l.length c] 22)] ++ Rest)) := SL.comm (K := pBlk bx (.cells #[.slice (some ⟨bb, oo, none⟩) l.length c] 22) :: Rest) (L := pcs s) hSr
   obtain ⟨fn, tmps, assign, body, hy, hR⟩ := HY.out (List.range j) j s [pBlk bx (.cells #[.slice (some ⟨bb, oo, none⟩) l.length c] 22)] wr HINV.out hSy ⟨by simp, by omega, by simp⟩
   unfold bwV at hy
   have ez : (l.length : Int) - 1 - j = z := by omega
   rw [ez] at hy
   clear hSy hR0 ez hSr
   gi_wp2
   refine hR.mono ?_
   rintro e W3 ⟨rfl, s', hI3, hS3⟩
   have hS4 : SL w0.heap.size w0 W3 (pBlk bx (.cells #[.slice (some ⟨bb, oo, none⟩) l.length c] 22) :: (Rest ++ pcs s')) := SL.comm (K := pcs s') (L := pBlk bx (.cells #[.slice (some ⟨bb, oo, none⟩) l.length c] 22) :: Rest) hS3
   rw [← List.range_succ] at hI3
   have HI3 := hid hI3
   clear hR hy hS3 hcb hcx hI3
   gi_wp2
   exact ⟨⟨j + 1, z - 1, s', rfl, by omega, by omega, HI3.out, hS4⟩, by simp [intOf]; omega⟩
  ·have dz : decide (0 ≤ z) = false := decide_eq_false hge
   have hj : j = l.length := by omega
   have hI := HINV.out
   rw [hj] at hI
   have HI := hid hI
   have hSz : SL w0.heap.size w0 wr (pcs s ++ ([pBlk bx (.cells #[.slice a l.length c] 22)] ++ Rest)) := SL.comm (K := pBlk bx (.cells #[.slice a l.length c] 22) :: Rest) (L := pcs s) hSr
   clear hI HINV hj hcb hSr
   gi_wp2
   go_end0
   first | exact ⟨⟨_, rfl⟩, s, HI.out, hSz⟩ | exact ⟨⟨_, rfl⟩, _, rfl, s, HI.out, hSz⟩ | exact ⟨⟨_, rfl⟩, _, s, rfl, HI.out, hSz⟩
end Go.Proofs.YtdeoogbiipodmaaGreat

namespace Go.Proofs.YtdeoogbiipodmaaGreat
set_option maxRecDepth 100000
theorem carL_fold (x : Int) : ∀ (f a : Nat) (w : List Int) (ms : List MvV) (q : List Int × List MvV), carL x f a w ms = some q → ∃ r, q.2 = ms ++ r ∧ q.1 = r.foldl mvW w
 | 0, _, _, _, _, h => by cases h
 | f + 1, a, w, ms, q, h => by
   unfold carL at h
   simp only at h
   split at h
   · cases h; exact ⟨_, rfl, rfl⟩
   · split at h
     · obtain ⟨r, hr, h2⟩ := carL_fold x f _ _ _ q h
       exact ⟨⟨2, a, 0⟩ :: r, by rw [hr]; simp, by rw [h2]; rfl⟩
     · obtain ⟨r, hr, h2⟩ := carL_fold x f _ _ _ q h
       exact ⟨⟨0, a + 2, -x⟩ :: ⟨3, a, 0⟩ :: r, by rw [hr]; simp, by rw [h2]; rfl⟩
theorem allB_app {n : Int} : ∀ (r1 r2 : List MvV) (w : List Int), allB n w (r1 ++ r2) = true → allB n w r1 = true ∧ allB n (r1.foldl mvW w) r2 = true
 | [], _, _, h => ⟨rfl, h⟩
 | m :: r1, r2, w, h => by
   rw [List.cons_append, allB] at h
   simp only [Bool.and_eq_true] at h
   obtain ⟨h1, h2⟩ := allB_app r1 r2 _ h.2.2
   refine ⟨?_, h2⟩
   rw [allB]
   simp only [Bool.and_eq_true]
   exact ⟨h.1, h.2.1, h1⟩
theorem goodB_fold {n : Int} : ∀ (r : List MvV) (w : List Int), goodB n w = true → allB n w r = true → goodB n (r.foldl mvW w) = true
 | [], _, h, _ => h
 | m :: r, w, _, h => by
   rw [allB] at h
   simp only [Bool.and_eq_true] at h
   exact goodB_fold r _ h.2.1 h.2.2
/-- carry's part of the moves that are still to be made. -/
theorem Good.carry {n : Int} {w w2 : List Int} {ms ms2 msF : List MvV} {x : Int} {f a : Nat} (h : Good n w ms msF) (hl : goodB n w = true) (hc : carL x f a w ms = some (w2, ms2)) (hp : ∃ r, msF = ms2 ++ r) : Good n w ms ms2 ∧ Good n w2 ms2 msF ∧ goodB n w2 = true := by
 obtain ⟨r1, e1, e2⟩ := carL_fold _ _ _ _ _ _ hc
 obtain ⟨r, e3, ha⟩ := h
 obtain ⟨r2, e4⟩ := hp
 simp only at e1 e2
 subst e1 e2
 rw [e4, List.append_assoc] at e3
 have e5 := List.append_cancel_left e3
 rw [← e5] at ha
 obtain ⟨h1, h2⟩ := allB_app _ _ _ ha
 exact ⟨⟨r1, rfl, h1⟩, ⟨r2, e4, h2⟩, goodB_fold _ _ hl h1⟩
theorem insL_snoc (a : List Int) (n : Nat) : ∀ (l : List Int) (x : Int) (i : Nat) (w : List Int) (ms : List MvV), insL a n (l ++ [x]) i w ms = (mvW (insL a n l i w ms).1 ⟨0, a.length + (i + l.length), -x⟩, (insL a n l i w ms).2 ++ [⟨0, a.length + (i + l.length), -x⟩])
 | [], x, i, w, ms => by simp [insL]
 | y :: l, x, i, w, ms => by
   rw [List.cons_append, insL, insL_snoc a n l x (i + 1), insL, List.length_cons, show i + 1 + l.length = i + (l.length + 1) by omega]
/-- the word and the moves after some letters are inserted. -/
def insK (a b : List Int) (j : Nat) : List Int × List MvV := insL a a.length (b.reverse.take j) 0 a []
theorem insK_zero (a b : List Int) : insK a b 0 = (a, []) := by simp [insK, insL]
theorem insK_all (a b : List Int) : insK a b b.length = insL a a.length b.reverse 0 a [] := by
 unfold insK
 rw [List.take_of_length_le (by simp)]
theorem rev_at9 (b : List Int) (j : Nat) (h : j < b.length) : b.reverse[j]? = some (atD 0 b ((b.length : Int) - 1 - j)) := by
 rw [List.getElem?_reverse h]
 have e : ((b.length : Int) - 1 - j).toNat = b.length - 1 - j := by omega
 unfold atD
 rw [e, List.getD_eq_getElem?_getD, List.getElem?_eq_getElem (by omega)]
 rfl
theorem insK_succ (a b : List Int) (j : Nat) (h : j < b.length) : insK a b (j + 1) = (mvW (insK a b j).1 ⟨0, a.length + j, -(atD 0 b ((b.length : Int) - 1 - j))⟩, (insK a b j).2 ++ [⟨0, a.length + j, -(atD 0 b ((b.length : Int) - 1 - j))⟩]) := by
 have e : b.reverse.take (j + 1) = b.reverse.take j ++ [atD 0 b ((b.length : Int) - 1 - j)] := by
  rw [List.take_succ, rev_at9 b j h]
  rfl
 unfold insK
 rw [e, insL_snoc]
 simp only [List.length_take, List.length_reverse, Nat.min_eq_left (Nat.le_of_lt h), Nat.zero_add]
theorem insK_pre (a b : List Int) (msF : List MvV) (hF : ∃ r, msF = (insK a b b.length).2 ++ r) : ∀ d j, j + d = b.length → ∃ r, msF = (insK a b j).2 ++ r
 | 0, j, h => by obtain rfl : j = b.length := by omega
                 exact hF
 | d + 1, j, h => by
   obtain ⟨r, hr⟩ := insK_pre a b msF hF d (j + 1) (by omega)
   rw [insK_succ a b j (by omega)] at hr
   exact ⟨[⟨0, a.length + j, -(atD 0 b ((b.length : Int) - 1 - j))⟩] ++ r, by rw [hr]; simp⟩
theorem proL_succ (f len : Nat) (w : List Int) (ms : List MvV) : proL (f + 1) len w ms = (if w.length < len then none else match handL w len with
  | none => some (w, ms)
  | some (b, e) => match carL (atD 0 w b) 64 b w ms with
    | none => none
    | some (w2, ms2) => if len + w2.length < w.length then none else proL f (len + w2.length - w.length) w2 ms2) := rfl
end Go.Proofs.YtdeoogbiipodmaaGreat

namespace Go.Proofs.YtdeoogbiipodmaaGreat
open Go.RowKit Go.Shelf
attribute [local go_sem] Oper.semAt_some
set_option maxHeartbeats 8000000
set_option maxRecDepth 100000
theorem F_prv : Flat Tryz.prog 76 := ⟨_, Tryz.underlying76, rfl⟩
theorem hRet_tup (h : Option (Nat × Nat)) : ∃ bv ev iv, hRet h = .tuple #[bv, ev, iv] := by
 rcases h with _ | ⟨b, e⟩
 ·exact ⟨_, _, _, rfl⟩
 ·exact ⟨_, _, _, rfl⟩
theorem proL_le {f len : Nat} {w : List Int} {ms : List MvV} {q : List Int × List MvV} (h : proL f len w ms = some q) : len ≤ w.length := by
 cases f with
 | zero => cases h
 | succ f =>
  rw [proL_succ] at h
  split at h
  ·cases h
  ·omega
abbrev PrvS := Option Addr × Nat × Option Addr × Nat × List Int × List MvV
def prvP (n b : Nat) (R : List Pc) (s : PrvS) : List Pc := pvP n b s.1 s.2.1 s.2.2.2.2.1 s.2.2.1 s.2.2.2.1 s.2.2.2.2.2 ++ R
theorem prove_any (n : Nat) (av ax : Option Addr) (cv cs : Nat) (v s sf : List Int) (ms : List MvV) (w : World) (hV : Ints w av cv v) (hS : Ints w ax cs s) (hn : 1 ≤ n ∧ n ≤ 12) (hwv : wordE (n : Int) v = 0) (hws : wordE (n : Int) s = 0) (hlen : v.length + s.length ≤ 24) (hf : formW n v = formW n s)
  (hp : provL v s = some (sf, ms)) (ha : allB n v ms = true) (hg : goodB n v = true) (hm : ms.length ≤ 40) :
  Calls Tryz.prog 12 #[.int .i64 n, .slice av v.length cv, .slice ax s.length cs] w fun r w' => ∃ am cm, r = .returned (.tuple #[.slice am ms.length cm, .int .i64 0]) ∧ Own cMvM 3 w.heap.size 84 w' (.slice am ms.length cm) ms ∧ Below w.heap.size w w' := by
 have hv0 := (goodB_len hg).1
 have HC := hid (fun W (h : Ints W av cv v) (h2 : Ints W ax cs s) => checkBoth_any n av ax cv cs v s W h h2 hwv hws)
 have CE := fun W (h : Ints W av cv v) (h2 : Ints W ax cs s) => equal_any n av ax cv cs v s W h h2 hwv hws
 rw [decide_eq_true hf] at CE
 have HE := hid CE
 have CW : ∀ (e : Int) W, Calls Tryz.prog 39 #[.bool false, .int .i64 e] W fun r w' => r = .returned (.int .i64 0) ∧ Below W.heap.size W w' := fun e W => calls_below (bwhen_any false e W)
 have HW := hid CW
 obtain ⟨T, hT⟩ : ∃ T, T = v.length + s.length := ⟨_, rfl⟩
 have e1 : IntKind.i64.wrap ((v.length : Int) + (s.length : Int)) = (T : Int) := by rw [IntWalk.i64_in _ (by omega)]; omega
 have d1 : decide ((24 : Int) < (T : Int)) = false := decide_eq_false (by omega)
 have d2 : decide (24 < T) = false := decide_eq_false (by omega)
 have HP := hid hp; have HA := hid ha; have HG := hid hg; have HT := hid hT
 have hT24 : T ≤ 24 := by omega
 have hcv := hV.le
 have hcs := hS.le
 have hSa := ((SL.nil w).box (.cells #[.slice av v.length cv] 22)).box (.cells #[.slice ax s.length cs] 22)
 simp only [World.size_alloc] at hSa
 obtain ⟨Ba, hBa⟩ : ∃ Ba, Ba = w.heap.size := ⟨_, rfl⟩
 obtain ⟨Bb, hBb⟩ : ∃ Bb, Bb = w.heap.size + 1 := ⟨_, rfl⟩
 obtain ⟨wb, hwb⟩ : ∃ wb, wb = (w.alloc (.cells #[.slice av v.length cv] 22)).alloc (.cells #[.slice ax s.length cs] 22) := ⟨_, rfl⟩
 have hSa' : SL w.heap.size w wb [pBlk Bb (.cells #[.slice ax s.length cs] 22), pBlk Ba (.cells #[.slice av v.length cv] 22)] := by rw [hBb, hBa, hwb]; exact hSa
 clear CE CW hwv hws hf hp ha hg hT hSa
 have hSa := hSa'
 clear hSa'
 refine callsIn_wide.1 (callsIn_of_wp_marks (n := 9) (F := Fence.wide) Tryz.func12 rfl trivial ?_ rfl)
 simp only [Tryz.ntmps12, List.size_toArray, List.length_cons, List.length_nil, Nat.reduceAdd, Nat.reduceSub, Array.replicate_succ, Array.replicate_zero, List.push_toArray, List.append_toArray, List.nil_append, List.cons_append]
 refine wpIn_wide.2 ?_
 go_wp2_with fail
 rw [← hBb, ← hwb, ← hBa]
 clear hBb hBa hwb
 have hVa := hV.below hSa.b
 have hSs := hS.below hSa.b
 have qa := (hSa.blk 1 rfl).1
 have qb := (hSa.blk 0 rfl).1
 refine wp_region_qt 11 kR kR ?_
 simp only [List.take_succ_cons, List.take_zero, List.drop_succ_cons, List.drop_zero]
 repeat (first | ((with_reducible refine wpB_load F_sl wU wU (by assumption) wU ?_); (try simp only [Act.put, pA, pB, pC])) | ((refine wpB_call (.int .i64 0) wU (fun w' => ?_) (fun w' hw' => HC.out w' (hVa.below hw') (hSs.below hw')) ?_); (focus (go_simp; done)); (try simp only [Act.put, pA, pB, pC])) | ((refine wpB_call (.int .i64 0) wU (fun w' => ?_) (fun w' hw' => HW.out 22 w') ?_); (focus (go_simp; done)); (try simp only [Act.put, pA, pB, pC])) | (((refine wpQ_oneG ?_ wU (fun w' => ?_) ?_); rotate_left; (go_simp; rfl); (try simp only [Act.put, pA, pB, pC])); first | rw [e1] | rw [d1] | skip) |  ((with_reducible refine wpB_load (by first | exact F_int | fail) wU wU (by assumption) wU ?_); (try simp only [Act.put, pA, pB, pC])) | ((with_reducible refine wpB_loadS (n := 2) (us := #[_, _]) (by fail) kR wU wU (by assumption) wU wU ?_); (try simp only [Act.put, pA, pB, pC])) | ((with_reducible refine wpB_loadS (n := 4) (us := #[_, _, _, _]) (by fail) kR wU wU (by assumption) wU wU ?_); (try simp only [Act.put, pA, pB, pC])) | ((refine wpQ_oneG ?_ wU (fun w' => ?_) ?_); rotate_left; (go_simp; rfl); (try simp only [Act.put, pA, pB, pC])))
 refine wpQuiet_nil ?_
 intro w1 hb1
 have hS1 := hSa.mono hb1
 clear qa qb hVa hSs hb1 hSa
 go_wp2_with fail
 have HR5 : Ints (w1.alloc (.cells #[.int .i64 0, .int .i64 0] 28)) (some ⟨w1.heap.size, 0, none⟩) 2 [0, 0] := reps_newN (w := w1) cIntS [0, 0] 2 rfl (by decide) #[.int .i64 0, .int .i64 0] (0, 0) rfl rfl
 have hS2 := hS1.al (.cells #[.int .i64 0, .int .i64 0] 28)
 obtain ⟨w2, hw2⟩ : ∃ w2, w2 = w1.alloc (.cells #[.int .i64 0, .int .i64 0] 28) := ⟨_, rfl⟩
 rw [← hw2] at hS2 HR5 ⊢
 refine (bfirst_any _ _ [0, 0] _ HR5).mono ?_
 rintro e w2' ⟨rfl, rfl⟩
 have e9 : firstE [0, 0] = 0 := rfl
 rw [e9]
 clear hw2 HR5 hS1 e9
 have qa := (hS2.blk 1 rfl).1
 have qb := (hS2.blk 0 rfl).1
 go_wp2_with (first | (with_reducible refine wpList_ldB (v := .slice av v.length cv) F_sl wU wU (by assumption) wU ?_) | (with_reducible refine wpList_ldB (v := .slice ax s.length cs) F_sl wU wU (by assumption) wU ?_))
 refine (HE.out _ (hV.below hS2.b) (hS.below hS2.b)).mono ?_
 rintro e w3 ⟨rfl, b3⟩
 have hS3 := hS2.mono b3
 clear hS2 b3 qa qb
 have qa := (hS3.blk 1 rfl).1
 have qb := (hS3.blk 0 rfl).1
 go_wp2_with (first | (with_reducible refine wpList_ldB (v := .slice av v.length cv) F_sl wU wU (by assumption) wU ?_) | (with_reducible refine wpList_ldB (v := .slice ax s.length cs) F_sl wU wU (by assumption) wU ?_))
 refine (Clone_any av cv v _ (hV.below hS3.b) (by omega) hv0).mono ?_
 rintro e w4 ⟨v4, rfl, ho4, b4⟩
 obtain ⟨G, c4, rfl⟩ := own_some ho4 hv0
 have hS4 := hS3.call (SL.ofOwn ho4 b4)
 clear hS3 b4 qa qb ho4
 have hS5 := (hS4.box (.cells #[.int .i64 n, .slice (some ⟨G, 0, none⟩) v.length c4, .slice none 0 0] 78)).box (.cells #[.pointer (some ⟨w4.heap.size, 0, none⟩)] 76)
 simp only [World.size_alloc] at hS5
 have qb := (hS5.blk 3 rfl).1
 go_wp2_with (first | (with_reducible refine wpList_ldB (v := .slice ax s.length cs) F_sl wU wU (by assumption) wU ?_))
 refine (backward_any ax s.length cs _).mono ?_
 rintro e w6 ⟨rfl, rfl⟩
 have hS6 := (hS5.box (.cells #[.slice ax s.length cs] 22)).nilS (α := MvV) (c := cMvM) (sz := 3) (e := 84) cMvMS
 simp only [World.size_alloc] at hS6
 obtain ⟨Pb, hPb⟩ : ∃ P, P = w4.heap.size := ⟨_, rfl⟩
 obtain ⟨P9, hP9⟩ : ∃ P, P = w4.heap.size + 1 := ⟨_, rfl⟩
 obtain ⟨Bx, hBx⟩ : ∃ P, P = w4.heap.size + 1 + 1 := ⟨_, rfl⟩
 obtain ⟨w7, hw7⟩ : ∃ w7, w7 = ((w4.alloc (.cells #[.int .i64 n, .slice (some ⟨G, 0, none⟩) v.length c4, .slice none 0 0] 78)).alloc (.cells #[.pointer (some ⟨w4.heap.size, 0, none⟩)] 76)).alloc (.cells #[.slice ax s.length cs] 22) := ⟨_, rfl⟩
 rw [← hw7, ← hBx, ← hP9, ← hPb] at hS6
 simp only [World.size_alloc]
 go_wp2_with fail
 rw [← hPb] at hw7
 rw [← hBx, ← hP9, ← hPb, ← hw7]
 clear hS5 hS4 qb hPb hP9 hBx hw7
 have hS7 : SL w.heap.size w w7 (prvP n Pb [pBlk P9 (.cells #[.pointer (some ⟨Pb, 0, none⟩)] 76), pBlk Ba (.cells #[.slice av v.length cv] 22), pBlk Bb (.cells #[.slice ax s.length cs] 22)] (some ⟨G, 0, none⟩, c4, none, 0, v, []) ++ [pBlk Bx (.cells #[.slice ax s.length cs] 22)]) := hS6.pick [3, 4, 0, 2, 6, 5, 1] (by decide) _ rfl
 clear hS6
 have HI0 : Hid ((v, ([] : List MvV)) = insK v s 0 ∧ Good n v [] ms ∧ goodB n v = true) := hid ⟨(insK_zero v s).symm, ⟨ms, rfl, HA.out⟩, HG.out⟩
 have HF : Hid (∀ j, j ≤ s.length → ∃ r, ms = (insK v s j).2 ++ r) := hid fun j hj => insK_pre v s ms (by rw [insK_all]; obtain ⟨r, hr⟩ := proL_pre _ _ _ _ _ HP.out; exact ⟨r, hr⟩) (s.length - j) j (by omega)
 clear HC HE HW HA HG
 refine (wpIn_wide (n := 9)).1 ?_
 refine rangeFunc_ord rfl (by decide) (gf := 81) (lb := #[.pointer (some ⟨Bx, 0, none⟩)]) rfl trivial (enters_of Tryz.func81 kR rfl)
  (backward_ord 8 Bx ax cs s (by omega) (by decide) w hS) (fun _ => rfl)
  (fun pre (st : PrvS) => (st.2.2.2.2.1, st.2.2.2.2.2) = insK v s pre.length ∧ Good n st.2.2.2.2.1 st.2.2.2.2.2 ms ∧ goodB n st.2.2.2.2.1 = true) (prvP n Pb _) _ HI0.out hS7 ?round ?done
 case round =>
  intro l pre x st R W hInv hS0 hO
  obtain ⟨ow, cw, om, cm, wl, mv⟩ := st
  obtain ⟨hxj, hx, -⟩ := hO
  obtain ⟨hI1, hI2, hI3⟩ := hInv
  obtain ⟨j, hj⟩ : ∃ j, j = pre.length := ⟨_, rfl⟩
  rw [← hj] at hxj hI1
  subst hxj
  have hst := insK_succ v s x hx
  obtain ⟨At, hAt⟩ : ∃ A, A = v.length + x := ⟨_, rfl⟩
  obtain ⟨I, hI⟩ : ∃ I, (s.length : Int) - 1 - x = I := ⟨_, rfl⟩
  obtain ⟨X, hX⟩ : ∃ X, atD 0 s I = X := ⟨_, rfl⟩
  rw [← hI1, hI, hX, ← hAt] at hst
  simp only at hst hI2 hI3
  dsimp only [bwV]
  rw [hI, hX]
  have hFx := HF.out (x + 1) hx
  rw [hst] at hFx
  simp only at hFx
  have bX : -12 ≤ X ∧ X ≤ 12 := by
   have h1 := (hI2.step hFx).1
   unfold mvOk at h1
   simp at h1
   omega
  have hpl : (pre ++ [x]).length = x + 1 := by simp [← hj]
  have HST := hid hst; have HJ : Hid (pre.length = x) := hid hj.symm
  have e2 : IntKind.i64.wrap ((T : Int) - 1) = (T : Int) - 1 := IntWalk.i64_in _ (by omega)
  have e3 : IntKind.i64.wrap ((T : Int) - 1 - I) = (At : Int) := by rw [IntWalk.i64_in _ (by have := HT.out; omega)]; have := HT.out; omega
  have e4 : IntKind.i64.wrap (-X) = -X := IntWalk.i64_in _ (by omega)
  clear hI hX hAt hst hpl hI1 hj
  gi_wp2
  refine ⟨prvP n Pb [pBlk P9 (.cells #[.pointer (some ⟨Pb, 0, none⟩)] 76), pBlk Ba (.cells #[.slice av v.length cv] 22), pBlk Bb (.cells #[.slice ax s.length cs] 22)] (ow, cw, om, cm, wl, mv), hS0, ?_⟩
  intro R2 W2 hS2
  clear hS0
  have q9 := (hS2.blk 3 rfl).1
  have qa := (hS2.blk 4 rfl).1
  have qb := (hS2.blk 5 rfl).1
  have HD := hid (do_good (n := n) (b := Pb) (wl := wl) (ms := mv) (ms2 := ms) (B := w.heap.size) (w0 := w) (w := W2) (R := [pBlk P9 (.cells #[.pointer (some ⟨Pb, 0, none⟩)] 76), pBlk Ba (.cells #[.slice av v.length cv] 22), pBlk Bb (.cells #[.slice ax s.length cs] 22)] ++ R2) ⟨0, At, -X⟩ ⟨ow, cw, om, cm, by rw [← List.append_assoc]; exact hS2⟩ hI2 hI3 hFx (by omega) hn)
  clear hS2 hI2 hI3 hFx
  apply wpIn_block
  refine wpIn_regionR rfl ?_
  go_wp2_with (first | (with_reducible refine wpList_ldB (v := .pointer (some ⟨Pb, 0, none⟩)) F_prv wU wU (by assumption) wU ?_) | (with_reducible refine wpList_ldB (v := .slice av v.length cv) F_sl wU wU (by assumption) wU ?_) | (with_reducible refine wpList_ldB (v := .slice ax s.length cs) F_sl wU wU (by assumption) wU ?_))
  refine HD.out.mono ?_
  rintro e w9 ⟨⟨u9, rfl⟩, ⟨ow9, cw9, om9, cm9, hS9⟩, hg9, hl9⟩
  go_wp2_with fail
  rw [← List.append_assoc] at hS9
  refine ⟨ow9, cw9, om9, cm9, _, _, ⟨?_, hg9, hl9⟩, hS9⟩
  rw [← HST.out, HJ.out]
 case done =>
  intro D xs st W hD hxs hInv hS0
  obtain ⟨ow, cw, om, cm, wl, mv⟩ := st
  obtain ⟨hI1, hI2, hI3⟩ := hInv
  rw [hxs, List.length_range, insK_all] at hI1
  simp only at hI1 hI2 hI3
  have hpr : proL 200 T wl mv = some (sf, ms) := by
   have h1 := HP.out
   unfold provL at h1
   simp only at h1
   rw [← hI1] at h1
   rw [HT.out]
   exact h1
  have hTl := proL_le hpr
  obtain ⟨R1, hR1⟩ : ∃ R1, R1 = [pBlk P9 (.cells #[.pointer (some ⟨Pb, 0, none⟩)] 76), pBlk Ba (.cells #[.slice av v.length cv] 22), pBlk Bb (.cells #[.slice ax s.length cs] 22), pBlk Bx (.cells #[.slice ax s.length cs] 22), pMark D] := ⟨_, rfl⟩
  have hS1 : SL w.heap.size w W (pvP n Pb ow cw wl om cm mv ++ R1) := by
   have h1 := SL.comm (K := [pMark D]) (L := prvP n Pb [pBlk P9 (.cells #[.pointer (some ⟨Pb, 0, none⟩)] 76), pBlk Ba (.cells #[.slice av v.length cv] 22), pBlk Bb (.cells #[.slice ax s.length cs] 22)] (ow, cw, om, cm, wl, mv) ++ [pBlk Bx (.cells #[.slice ax s.length cs] 22)]) hS0
   rw [hR1]
   exact h1
  have hR9 : R1[0]? = some (pBlk P9 (.cells #[.pointer (some ⟨Pb, 0, none⟩)] 76)) := by rw [hR1]; rfl
  have HR1 := hid hR1
  have hq9 : ∀ (V : World) (a1 : Option Addr) (c1 : Nat) (l1 : List Int) (a2 : Option Addr) (c2 : Nat) (m1 : List MvV), SL w.heap.size w V (pvP n Pb a1 c1 l1 a2 c2 m1 ++ R1) → V.heap[P9]? = some (.cells #[.pointer (some ⟨Pb, 0, none⟩)] 76) := fun V a1 c1 l1 a2 c2 m1 h => (h.blk 3 (by rw [List.getElem?_append_right (by simp [pvP])]; simpa [pvP] using hR9)).1
  have HQ9 := hid hq9
  have qa : W.heap[Ba]? = some (.cells #[.slice av v.length cv] 22) := (hS0.blk 5 rfl).1
  have qb : W.heap[Bb]? = some (.cells #[.slice ax s.length cs] 22) := (hS0.blk 6 rfl).1
  have q9 := hq9 _ _ _ _ _ _ _ hS1
  have q := (hS1.blk 0 rfl).1
  have hPS : PvSt w.heap.size w W n Pb wl mv R1 := ⟨ow, cw, om, cm, hS1⟩
  have hRw := hS1.rd 1 rfl
  have hgl := goodB_len hI3
  have HH := hid (handle_any Pb n (.slice om mv.length cm) ow cw wl T W q hRw (goodB_ltr hI3) hn.2 hTl (by omega))
  have HPR : Hid (proL 200 T wl mv = some (sf, ms) ∧ Good n wl mv ms ∧ goodB n wl = true) := hid ⟨hpr, hI2, hI3⟩
  have hsz : W.heap.size = W.heap.size := rfl
  clear hS0 hS1 hR1 hR9 hq9 hI1 hI2 hI3 hpr hTl q hRw hgl hxs hS7 HF HI0 HP hsz
  dsimp only
  go_wp2_with (first | (with_reducible refine wpList_ldB (v := .pointer (some ⟨Pb, 0, none⟩)) F_prv wU wU (by assumption) wU ?_) | (with_reducible refine wpList_ldB (v := .slice av v.length cv) F_sl wU wU (by assumption) wU ?_) | (with_reducible refine wpList_ldB (v := .slice ax s.length cs) F_sl wU wU (by assumption) wU ?_))
  refine HH.out.mono ?_
  rintro e w8 ⟨rfl, b8⟩
  have hPS8 : PvSt w.heap.size w w8 n Pb wl mv R1 := by obtain ⟨a1, a2, a3, a4, h⟩ := hPS; exact ⟨a1, a2, a3, a4, h.mono b8⟩
  obtain ⟨bv, ev, iv, hbe⟩ := hRet_tup (handL wl T)
  rw [hbe]
  have HBE := hid hbe
  clear hPS b8 qa qb q9 HH hbe
  go_wp2_with fail
  go_loopg [12, 13, 14, 15] 200 (fun g lv bv ev iv wr => ∃ (len : Nat) (wl : List Int) (mv : List MvV), lv = .int .i64 len ∧ len ≤ 400 ∧ Aside (hRet (handL wl len) = .tuple #[bv, ev, iv]) ∧ Aside (proL g len wl mv = some (sf, ms) ∧ Good n wl mv ms ∧ goodB n wl = true) ∧ PvSt w.heap.size w wr n Pb wl mv R1)
  case atStart => exact ⟨T, wl, mv, rfl, by omega, HBE.out, HPR.out, hPS8⟩
  case round =>
   clear HBE HPR hPS8
   obtain ⟨len, wl, mv, rfl, hlen4, HBE, HP2, hPS⟩ := hrel
   cases gk with
   | zero => exact absurd HP2.out.1 (by intro h; cases h)
   | succ g =>
    obtain ⟨h1, h2, h3⟩ := HP2.out
    have hle := proL_le h1
    rw [proL_succ, if_neg (by omega)] at h1
    have hbe := HBE.out
    have hgl := goodB_len h3
    have hPS0 := hPS
    obtain ⟨ow, cw, om, cm, hS1⟩ := hPS
    have q9 := HQ9.out _ _ _ _ _ _ _ hS1
    have q := (hS1.blk 0 rfl).1
    simp only [pvO] at q
    cases hh : handL wl len with
    | none =>
     rw [hh] at h1 hbe
     simp only [hRet, Value.tuple.injEq, Array.mk.injEq, List.toArray_inj, List.cons.injEq, and_true] at h1 hbe
     obtain ⟨rfl, rfl, rfl⟩ := hbe
     injection h1 with h1
     injection h1 with e1 e2
     subst e2
     have hfin : SL w.heap.size w wr ([pOwn cMvM 3 84 (.slice om mv.length cm) mv] ++ [D].map pMark) := by
      rw [HR1.out] at hS1
      exact hS1.pick [2, 7] (by decide) _ rfl
     clear hS1 HBE HP2 h2 h3 hPS0 hh hgl hle
     go_wp2_with (first | (with_reducible refine wpList_ldB (v := .pointer (some ⟨Pb, 0, none⟩)) F_prv wU wU (by assumption) wU ?_) | (with_reducible refine wpList_ldB (v := .slice om mv.length cm) F_mvs wU wU (by assumption) wU ?_))
     refine SL.leave' (L := [pOwn cMvM 3 84 (.slice om mv.length cm) mv]) (Ds := [D]) hfin fun W hW => ⟨.tuple #[.slice om mv.length cm, .int .i64 0], ?_, ⟨om, cm, rfl, hW.own 0 rfl, hW.b⟩⟩
     simp [results, Tryz.f12, go_sem]
    | some be =>
     obtain ⟨b0, e0⟩ := be
     rw [hh] at h1 hbe
     simp only [hRet, Value.tuple.injEq, Array.mk.injEq, List.toArray_inj, List.cons.injEq, and_true] at h1 hbe
     obtain ⟨rfl, rfl, rfl⟩ := hbe
     cases hcr : carL (atD 0 wl (b0 : Int)) 64 b0 wl mv with
     | none => rw [hcr] at h1; cases h1
     | some q2 =>
      obtain ⟨w2, m2⟩ := q2
      rw [hcr] at h1
      simp only at h1
      by_cases hlw : len + w2.length < wl.length
      ·rw [if_pos hlw] at h1; cases h1
      ·rw [if_neg hlw] at h1
       obtain ⟨g1, g2, g3⟩ := h2.carry h3 hcr (by obtain ⟨r, hr⟩ := proL_pre _ _ _ _ _ h1; exact ⟨r, hr⟩)
       have hgl2 := goodB_len g3
       have hle2 := proL_le h1
       obtain ⟨L2, hL2⟩ : ∃ L2, L2 = len + w2.length - wl.length := ⟨_, rfl⟩
       rw [← hL2] at h1 hle2
       have HCY := hid (carry_any (bg := b0) (f := 64) (en := (e0 : Int)) hPS0 rfl ⟨hcr, g1, h3⟩ (by have := g2.len; omega) hn hgl2.2)
       have hwD : IntKind.i64.wrap ((len : Int) + ((w2.length : Int) - (wl.length : Int))) = (L2 : Int) := by rw [IntWalk.i64_in _ (by omega)]; omega
       have HPN : Hid (proL g L2 w2 m2 = some (sf, ms) ∧ Good n w2 m2 ms ∧ goodB n w2 = true) := hid ⟨h1, g2, g3⟩
       have hL4 : L2 ≤ 400 := by omega
       clear hS1 q HBE HP2 h1 h2 h3 hPS0 hh hgl hle hcr hlw hL2 g1 g2
       go_wp2_with (first | (with_reducible refine wpList_ldB (v := .pointer (some ⟨Pb, 0, none⟩)) F_prv wU wU (by assumption) wU ?_))
       refine HCY.out.mono ?_
       rintro e w3 ⟨rfl, hP3⟩
       have hP3' := hP3
       obtain ⟨ow3, cw3, om3, cm3, hS3⟩ := hP3
       have q9b := HQ9.out _ _ _ _ _ _ _ hS3
       have HH := hid (handle_any Pb n (.slice om3 m2.length cm3) ow3 cw3 w2 L2 w3 (hS3.blk 0 rfl).1 (hS3.rd 1 rfl) (goodB_ltr g3) hn.2 hle2 (by omega))
       clear hS3 q9 HCY g3
       go_wp2_with (first | (with_reducible refine wpList_ldB (v := .pointer (some ⟨Pb, 0, none⟩)) F_prv wU wU (by assumption) wU ?_))
       refine HH.out.mono ?_
       rintro e w8 ⟨rfl, b8⟩
       have hPS8 : PvSt w.heap.size w w8 n Pb w2 m2 R1 := by obtain ⟨a1, a2, a3, a4, h⟩ := hP3'; exact ⟨a1, a2, a3, a4, h.mono b8⟩
       obtain ⟨bv, ev, iv, hbe⟩ := hRet_tup (handL w2 L2)
       rw [hbe]
       have HBE := hid hbe
       clear hP3' b8 q9b HH hbe
       go_wp2_with fail
       go_roundg g
       case measure => omega
       case rel => exact ⟨L2, w2, m2, rfl, hL4, HBE.out, HPN.out, hPS8⟩
end Go.Proofs.YtdeoogbiipodmaaGreat

namespace Go.Proofs.YtdeoogbiipodmaaGreat
set_option maxRecDepth 100000
theorem proL_fold : ∀ (f len : Nat) (w : List Int) (ms : List MvV) (q : List Int × List MvV), proL f len w ms = some q → ∃ r, q.2 = ms ++ r ∧ q.1 = r.foldl mvW w
 | 0, _, _, _, _, h => by cases h
 | f + 1, len, w, ms, q, h => by
   rw [proL_succ] at h
   split at h
   · cases h
   · split at h
     · cases h; exact ⟨[], by simp, rfl⟩
     · split at h
       · cases h
       · rename_i w2 ms2 hc
         split at h
         · cases h
         · obtain ⟨r1, h1, k1⟩ := carL_fold _ _ _ _ _ _ hc
           obtain ⟨r2, h2, k2⟩ := proL_fold f _ _ _ q h
           simp only at h1 k1
           exact ⟨r1 ++ r2, by rw [h2, h1, List.append_assoc], by rw [k2, k1, List.foldl_append]⟩
theorem insL_fold (a : List Int) (n : Nat) : ∀ (l : List Int) (i : Nat) (w : List Int) (ms : List MvV), ∃ r, (insL a n l i w ms).2 = ms ++ r ∧ (insL a n l i w ms).1 = r.foldl mvW w
 | [], _, _, ms => ⟨[], by simp [insL], rfl⟩
 | x :: r, i, w, ms => by
   obtain ⟨r2, h, k⟩ := insL_fold a n r (i + 1) (mvW w ⟨0, a.length + i, -x⟩) (ms ++ [⟨0, a.length + i, -x⟩])
   exact ⟨⟨0, a.length + i, -x⟩ :: r2, by rw [insL, h]; simp, by rw [insL, k]; rfl⟩
theorem provL_fold {a b w : List Int} {ms : List MvV} (h : provL a b = some (w, ms)) : ms.foldl mvW a = w := by
 unfold provL at h
 simp only at h
 obtain ⟨r1, h1, k1⟩ := insL_fold a a.length b.reverse 0 a []
 obtain ⟨r2, h2, k2⟩ := proL_fold _ _ _ _ _ h
 simp only at h2 k2
 rw [h2, h1, List.nil_append, List.foldl_append, ← k1, k2]
theorem wrdE_ok9 {m : MacV} {l : List Int} (hz : loadE m l = 0) (hr : m.ring = false) (hl : l.length ≤ 4) {n : Nat} (h1 : n ≤ 48) (hm : meetsM m l n = false) : wrdE m l n = 0 := by
 have hw := wvM_few (loadE_zero hz) n
 have h4 : l.length * n ≤ 4 * 48 := Nat.mul_le_mul hl h1
 have hq : (wrdL m l n).length ≤ l.length * n := hw
 unfold wrdE
 rw [weaveE_ok hz hr (by omega) (Int.natCast_nonneg n) (by omega) hm, if_neg (by decide), if_neg (by omega)]
/-- all lists of a length over four slots. -/
def lists4 : Nat → List (List Int)
 | 0 => [[]]
 | k + 1 => (lists4 k).flatMap fun l => ([0, 1, 2, 3] : List Int).map fun x => x :: l
theorem lists4_mem : ∀ (l : List Int), (∀ x ∈ l, 0 ≤ x ∧ x < 4) → l ∈ lists4 l.length
 | [], _ => by simp [lists4]
 | x :: l, h => by
   rw [List.length_cons, lists4]
   refine List.mem_flatMap.2 ⟨l, lists4_mem l fun y hy => h y (List.mem_cons_of_mem _ hy), List.mem_map.2 ⟨x, ?_, rfl⟩⟩
   have := h x List.mem_cons_self
   simp only [List.mem_cons, List.not_mem_nil, or_false]
   omega
theorem tw_meetC : (([1, -1] : List Int).all fun t => ([2, 3, 4] : List Nat).all fun k => (lists4 k).all fun l => !decide l.Nodup || (firstC (macT t) l).isNone) = true := by decide +kernel
theorem tw_allC {t : Int} (ht : t = 1 ∨ t = -1) : AllC (macT t) := by
 rcases ht with rfl | rfl
 ·exact allC_of (n := 4) rfl (by decide)
 ·exact allC_of (n := 4) rfl (by decide)
theorem tw_meet {t : Int} {l : List Int} (ht : t = 1 ∨ t = -1) (hr : ∀ x ∈ l, 0 ≤ x ∧ x < 4) (hn : l.Nodup) (h2 : 2 ≤ l.length) (h4 : l.length ≤ 4) (n : Int) : meetsM (macT t) l n = false := by
 have e : firstM (macT t) l = none := by
  rw [firstC_ok (tw_allC ht) fun x hx => by have := hr x hx; exact ⟨this.1, by have e : (4 : Int) * (macT t).gears = 4 := rfl
                                                                               omega⟩]
  have h := List.all_eq_true.1 (List.all_eq_true.1 (List.all_eq_true.1 tw_meetC t (by rcases ht with rfl | rfl <;> decide)) l.length (by simp only [List.mem_cons, List.not_mem_nil, or_false]; omega)) l (lists4_mem l hr)
  rw [decide_eq_true hn] at h
  simpa using h
 unfold meetsM
 rw [e]
/-- what is checked of the spelled words. -/
def okS (t : Int) (k : Nat) : Bool :=
 let s := spW t k
 decide (formY k s (List.replicate (if t = 1 then s.length - 2 else 2) (revP k) ++ List.replicate (if t = 1 then 2 else s.length - 2) (idL k)) = (-2 * t, [])) && (decide (s.length = k * (k - 1)) && (twB k s (if t = 1 then s.length - 2 else 2) (if t = 1 then 2 else s.length - 2) && s.all fun x => decide (x ≠ 0 ∧ -(k : Int) < x ∧ x < k)))
theorem tw_sp : (([1, -1] : List Int).all fun t => ([2, 3, 4] : List Nat).all fun k => okS t k) = true := by decide +kernel
theorem wordE_of {n : Int} {l : List Int} (h1 : 1 ≤ n) (h2 : n ≤ 12) (hl : l.length ≤ 200) (hf : ∀ x ∈ l, x ≠ 0 ∧ -n < x ∧ x < n) : wordE n l = 0 :=
 wordE_fit h1 h2 hl fun x hx => by
  have := hf x hx
  unfold absI
  split <;> omega
theorem wordE_app2 {n : Int} {a b : List Int} (ha : wordE n a = 0) (hb : wordE n b = 0) (hl : a.length + b.length ≤ 200) : wordE n (a ++ b) = 0 := by
 obtain ⟨h1, h2, -, h4⟩ := wordE_fits ha
 obtain ⟨-, -, -, k4⟩ := wordE_fits hb
 refine wordE_of h1 h2 (by rw [List.length_append]; exact hl) fun x hx => ?_
 rcases List.mem_append.1 hx with hx | hx
 ·exact h4 x hx
 ·exact k4 x hx
/-- all that the law asks. -/
structure TwL (t : Int) (l : List Int) (v s : List Int) (ms : List MvV) : Prop where
 we : wrdE (macT t) l (4 : Nat) = 0
 vlen : v.length = l.length * (l.length - 1)
 vw : wordE (l.length : Int) v = 0
 vform : formW l.length v = (-2 * t, [])
 slen : s.length = l.length * (l.length - 1)
 sw : wordE (l.length : Int) s = 0
 sform : formW l.length s = (-2 * t, [])
 comm : ∀ w, wordE (l.length : Int) w = 0 → formW l.length (v ++ w) = formW l.length (w ++ v)
 prov : provL v s = some (s, ms)
 all : allB l.length v ms = true
 many : ms.length ≤ 40
 good : goodB l.length v = true
 fold : ms.foldl mvW v = s
theorem twL_ok {t : Int} {l : List Int} (hz : loadE (macT t) l = 0) (h2 : 2 ≤ l.length) (h4 : l.length ≤ 4) : ∃ ms, TwL t l (wrdL (macT t) l (4 : Nat)) (spW t l.length) ms := by
 have hlk := loadE_zero hz
 have ht : t = 1 ∨ t = -1 := hlk.ok.turn
 have hr : ∀ x ∈ l, 0 ≤ x ∧ x < 4 := fun x hx => by
  have := hlk.rng x hx
  have e : (4 : Int) * (macT t).gears = 4 := rfl
  omega
 have hm := tw_meet ht hr hlk.nodup h2 h4 ((4 : Nat) : Int)
 obtain ⟨k1, k2, k3, k4, ms, k5, k6, k7⟩ := tw_ok ht hr hlk.nodup h2 h4
 have hq : l.length * (l.length - 1) ≤ 12 := by
  have : l.length = 2 ∨ l.length = 3 ∨ l.length = 4 := by omega
  rcases this with e | e | e <;> rw [e] <;> decide
 have hq1 : 1 ≤ l.length * (l.length - 1) := by
  have : l.length = 2 ∨ l.length = 3 ∨ l.length = 4 := by omega
  rcases this with e | e | e <;> rw [e] <;> decide
 have hv : ∀ x ∈ wrdL (macT t) l (4 : Nat), x ≠ 0 ∧ -(l.length : Int) < x ∧ x < l.length := fun x hx => by
  have := k2 x hx
  unfold LetOk at this
  obtain ⟨a, b⟩ := this
  refine ⟨a, ?_⟩
  split at b <;> omega
 have hs := List.all_eq_true.1 (List.all_eq_true.1 tw_sp t (by rcases ht with rfl | rfl <;> decide)) l.length (by simp only [List.mem_cons, List.not_mem_nil, or_false]; omega)
 unfold okS at hs
 simp only [Bool.and_eq_true, decide_eq_true_eq] at hs
 obtain ⟨s1, s2, s3, s4⟩ := hs
 refine ⟨ms, wrdE_ok9 hz rfl h4 (n := 4) (by decide) hm, k1, wordE_of (by omega) (by omega) (by omega) hv, k3, s2, wordE_of (by omega) (by omega) (by omega) fun x hx => ?_, ?_, fun w hw => k4 w (word_okE hw), k5, k6, k7, ?_, provL_fold k5⟩
 ·have := List.all_eq_true.1 s4 x hx
  simpa using this
 ·exact (tw_form s3).trans s1
 ·unfold goodB
  simp only [Bool.and_eq_true, decide_eq_true_eq]
  exact ⟨by omega, by omega, List.all_eq_true.2 fun x hx => by simpa using hv x hx⟩
end Go.Proofs.YtdeoogbiipodmaaGreat
