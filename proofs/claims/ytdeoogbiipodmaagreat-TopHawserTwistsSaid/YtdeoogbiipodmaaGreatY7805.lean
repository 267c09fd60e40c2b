/- Contracts and plain facts that the claim uses (TwL). Conditions: as each one states. -/
import Derived.Test.YtdeoogbiipodmaaGreatProg
import Derived.WalkKit
import Derived.WalkSpells
import Derived.Maps.AppendAt
import Derived.Deep.Quiet
import Derived.Maps.Own
import Derived.Maps.OwnSet
import Derived.Maps.Views
import Derived.WalkLawsBesides
import Derived.Laws.EntriesVeiled
import Derived.Deep.QuietTactic
import Derived.BigQuiet
import Derived.Deep.RegionHeld3
import Derived.Deep.AppendLies
import Derived.Deep.RegionHeldLaw
import Derived.Deep.RegionLaw
import Derived.RangeFuncNested
import Derived.RangeFuncBound
import Derived.RangeFuncCalls
import Derived.RangeFuncLeaves
import Derived.RangeFuncFrom
import Derived.Shelf.Abstract
import Derived.Shelf.RegionOpen
import Derived.OwnWalkIn
import Derived.TacticsInMore
import Derived.LoopNIn
import Derived.LoopIn
import Derived.Shelf.Strings.Trim
import Derived.Shelf.Strings.SlTrimAscii
import Derived.Shelf.Strings.Repeat
import Derived.Shelf.Strings.OnBuilder
import Derived.Shelf.Strconv.Itoa1
import Derived.Shelf.Strconv.Itoa3
import Derived.Shelf.LaysM
import Derived.Ground.Names2Prog
import Derived.Lib.OthersKept
import Derived.StillTail
import Derived.Laws.Tables
import Derived.IntWalk
import Derived.Laws.CopyOwn
import Derived.BigRegion
import Derived.ChangeAlike
import Derived.Shelf.Bits.Mul64
import Derived.Lib.ItoaLen
import Derived.Lib.ItoaMem
import Derived.Sort.LoopGhostIn
import Derived.Maps.RangeWalk
import Derived.Maps.Ext
import Derived.Deep.LoopGhost
import Derived.Laws.IdiomStrings
import Derived.Sort.QuietThIn
import Derived.Lib.Split
import Derived.Lib.AtoiAll
import Derived.Lib.AppendIntMem
import Derived.Lib.SmallJoins
import Derived.LaidSub
import Derived.Lib.LaidTab
import Derived.Lib.AtoiErrMem
import Derived.Stop.LaidErr
import Derived.ReadAgain
import Derived.ChangeSlices
import Derived.OpenShut
import Derived.ProofKit
import Derived.Deep.DeepHandedRow
import Derived.Deep.SlicePairs
import Derived.Lib.SliceRun
import Derived.Shelf.Spec.SlicesInsertGrow
import Derived.Test.YtdeoogbiipodmaaGreatXz01
import Derived.Test.YtdeoogbiipodmaaGreatXz02
import Derived.Test.YtdeoogbiipodmaaGreatXz03
import Derived.Test.YtdeoogbiipodmaaGreatXz04
import Derived.Test.YtdeoogbiipodmaaGreatXz05
import Derived.Test.YtdeoogbiipodmaaGreatXz06
import Derived.Test.YtdeoogbiipodmaaGreatXz07
import Derived.Test.YtdeoogbiipodmaaGreatXz08
import Derived.Test.YtdeoogbiipodmaaGreatXz09
import Derived.Test.YtdeoogbiipodmaaGreatXz10
import Derived.Test.YtdeoogbiipodmaaGreatY7801
import Derived.Test.YtdeoogbiipodmaaGreatY7802
import Derived.Test.YtdeoogbiipodmaaGreatY7803
import Derived.Test.YtdeoogbiipodmaaGreatY7804
set_option linter.all false

namespace Go.Proofs.YtdeoogbiipodmaaGreat
open Go.RowKit
set_option maxHeartbeats 8000000
set_option maxRecDepth 100000
theorem wpAnyC_sub {P : Program} {ops : Array Oper} {md : Region.Mode} {C C' : World → Prop} {Q : Exit → Act → World → Prop} (h : ∀ w, C' w → C w) : ∀ (fuel : Nat) (listed : Array Bool) (a : Act) (w : World), wpAnyC P md ops C' Q fuel listed a w → wpAnyC P md ops C Q fuel listed a w
 | 0, _, _, _, H => H
 | fuel + 1, _, _, _, H => ⟨H.1, fun i hi => wpOp_mono (fun _ _ h' => ⟨h _ h'.1, wpAnyC_sub h fuel _ _ _ h'.2⟩) (H.2 i hi)⟩
theorem F_fit : Flat Tryz.prog 137 := ⟨_, Tryz.underlying137, rfl⟩
theorem F_mak : Flat Tryz.prog 138 := ⟨_, Tryz.underlying138, rfl⟩
theorem A_move : Aggr Tryz.prog 84 := ⟨_, Tryz.underlying84, rfl⟩
theorem own_some {B : Nat} {w : World} {v : Value} {l : List Int} (h : OwnI B w v l) (h0 : 0 < l.length) : ∃ G cp, v = .slice (some ⟨G, 0, none⟩) l.length cp := by
 obtain ⟨-, -, h | ⟨g, cap, cur, hv, -⟩⟩ := h
 ·omega
 ·exact ⟨g, cap, hv⟩
theorem bothT {K F : Nat → Nat → World → Prop} {p q : Prop} (h : (∀ P Q V, F P Q V → K P Q V) → p ∧ q) (k : ∀ P Q V, F P Q V → K P Q V) : p ∧ q := h k
theorem lookK {W : World} {k : Nat} {s : ByteArray} {i : Nat} {v : Value} (h : W.heap[k]? = some mapK) (hf : Instr.findNow .string (.string s) [e1K, e2K, e3K, e4K] 0 = some (some (i, v))) : (Instr.lookup 142 (.map (some k)) (.string s) true).run Tryz.prog W = .ok (.tuple #[v, .bool true]) W := by
 have hb : W.heap[k]? = some (.map #[e1K, e2K, e3K, e4K] 4) := h
 unfold Instr.lookup
 simp [run_underlying Tryz.underlying142, rgetO hb, ckS, Instr.findKey, run_underlying underS, hf]
theorem cutW {a : Option Addr} {c n p q : Nat} (hpq : p ≤ q) (hq : q ≤ n) (hn : n ≤ c) {D : Nat} (hD : D = q - p) : ∃ ad, ∀ V, (Instr.sliceAt 22 (.slice a n c) (some (.int .i64 p)) (some (.int .i64 q)) none).run Tryz.prog V = .ok (.slice ad D (c - p)) V ∧ ∀ l : List Int, l.length = n → Ints V a c l → Ints V ad (c - p) ((l.take q).drop p) := by
 subst hD
 refine ⟨if c = p then a else a.map (·.add (p * 1)), fun V => ?_⟩
 obtain ⟨inf, hinf, _, hs, _⟩ := info_parts E_ints.inf
 have hrun : (Instr.sliceAt 22 (.slice a n c) (some (.int .i64 p)) (some (.int .i64 q)) none).run Tryz.prog V = .ok (.slice (if c = p then a else a.map (·.add (p * 1))) (q - p) (c - p)) V := by
  have hb := run_bounds (P := Tryz.prog) (w := V) (n := n) (cap := c) (lo := some (.int .i64 p)) (hi := some (.int .i64 q)) (i := p) (j := q) (.inl rfl) (.inl rfl) hpq (by omega)
  simp [Instr.sliceAt, run_underlying E_ints.und, Instr.slice, hb, sizeOf, typeInfo, hinf, hs]
 refine ⟨hrun, fun l hl hR => ?_⟩
 subst hl
 obtain ⟨a', h1, h2, _⟩ := run_cut (P := Tryz.prog) E_ints hR (some (.int .i64 p)) (some (.int .i64 q)) p q (.inl rfl) (.inl rfl) hpq hq
 rw [hrun] at h1
 have e : (if c = p then a else a.map (·.add (p * 1))) = a' := by injection h1 with e1; injection e1
 rw [e]
 exact h2
theorem atD_gt9 {l : List Int} {k : Nat} (h : k < l.length) : atD 0 l ((k : Nat) : Int) = l[k] := by
 unfold atD
 rw [Int.toNat_natCast]
 simp [h]
theorem seg2 {l : List Int} {p : Nat} (h : p + 2 ≤ l.length) : (l.take (p + 2)).drop p = [atD 0 l (p : Int), atD 0 l ((p + 1 : Nat) : Int)] := by
 rw [atD_gt9 (k := p) (by omega), atD_gt9 (k := p + 1) (by omega), List.drop_take, show p + 2 - p = 2 by omega, List.drop_eq_getElem_cons (by omega : p < l.length), List.drop_eq_getElem_cons (by omega : p + 1 < l.length), List.take_succ_cons, List.take_succ_cons, List.take_zero]
theorem seg3 {l : List Int} {p : Nat} (h : p + 3 ≤ l.length) : (l.take (p + 3)).drop p = [atD 0 l (p : Int), atD 0 l ((p + 1 : Nat) : Int), atD 0 l ((p + 2 : Nat) : Int)] := by
 rw [atD_gt9 (k := p) (by omega), atD_gt9 (k := p + 1) (by omega), atD_gt9 (k := p + 2) (by omega), List.drop_take, show p + 3 - p = 3 by omega, List.drop_eq_getElem_cons (by omega : p < l.length), List.drop_eq_getElem_cons (by omega : p + 1 < l.length), List.drop_eq_getElem_cons (by omega : p + 2 < l.length), List.take_succ_cons, List.take_succ_cons, List.take_succ_cons, List.take_zero]
theorem turnL_len (x y z : Int) : (turnL x y z).length = 3 := by unfold turnL; split <;> rfl
theorem ap_ins (n p : Nat) (x : Int) (a : Option Addr) (c : Nat) (l : List Int) (w : World) (hS : Ints w a c l) (hl : l.length ≤ 900) (hz : 0 < l.length) (hn : 1 ≤ n ∧ n ≤ 12) (hx : x ≠ 0 ∧ -(n : Int) < x ∧ x < n) (hp : p ≤ l.length) :
  Calls Tryz.prog 82 #[.int .i64 n, .slice a l.length c, .agg #[.string kIns, .int .i64 p, .int .i64 x]] w fun r w' => ∃ v, r = .returned (.tuple #[v, .int .i64 0]) ∧ OwnI w.heap.size w' v (l.take p ++ ([x, -x] ++ l.drop p)) ∧ Below w.heap.size w w' := by
 have hkd : (kIns.toList == [105, 110, 115, 101, 114, 116]) = true := by decide +kernel
 have CW : ∀ (e : Int) W, Calls Tryz.prog 39 #[.bool false, .int .i64 e] W fun r w' => r = .returned (.int .i64 0) ∧ Below W.heap.size W w' := fun e W => calls_below (bwhen_any false e W)
 have HW := hid CW
 have hcap := hS.le
 have hmx := hS.max
 obtain ⟨ad, hcut⟩ := cutW (a := a) (c := c) (n := l.length) (p := p) (q := p) (by omega) (by omega) hcap (D := 0) (by omega)
 have q1 := fun V => (hcut V).1
 have CI := fun V (h : Ints V a c l) => (hcut V).2 l rfl h
 have e1 : IntKind.i64.wrap ((l.length : Int) - 0) = (l.length : Int) := by rw [IntWalk.i64_in _ (by omega)]; omega
 have e2 : IntKind.i64.wrap ((p : Int) + 0) = (p : Int) := by rw [IntWalk.i64_in _ (by omega)]; omega
 have e0 : IntKind.i64.wrap (l.length : Int) = ((l.length : Nat) : Int) := IntWalk.i64_in _ (by omega)
 have e3 : IntKind.i64.wrap (p : Int) = (p : Int) := IntWalk.i64_in _ (by omega)
 have d1 : decide ((l.length : Int) < (p : Int)) = false := decide_eq_false (by omega)
 have d2 : decide (l.length < p) = false := decide_eq_false (by omega)
 have d3 : decide ((p : Int) < 0) = false := decide_eq_false (by omega)
 have ho : outB n x = false := by unfold outB; simp; omega
 have CO : ∀ W, Calls Tryz.prog 61 #[.int .i64 n, .int .i64 x] W fun r w' => r = .returned (.bool false) ∧ Below W.heap.size W w' := fun W => by
  have h3 := calls_below (outside_any n x W (by omega) (by omega)); rwa [ho] at h3
 have HO := hid CO
 have hc2 : c - p ≤ 9223372036854775807 := by omega
 have HF := hid (fun W (_ : Ints W a c l) => kd1_any (.slice ad 0 (c - p)) W)
 have HM := hid (fun W (_ : Ints W a c l) => kd2_any (.slice ad 0 (c - p)) kIns p x W (by omega))
 have HR : Hid (∀ {B : Nat} {w0 W : World} {G cp H mc : Nat}, SL B w0 W [pOwn cInt 1 3 (.slice (some ⟨G, 0, none⟩) l.length cp) l, pOwn cInt 1 3 (.slice (some ⟨H, 0, none⟩) 2 mc) [x, -x]] → Calls Tryz.prog 102 #[.slice (some ⟨G, 0, none⟩) l.length cp, .int .i64 p, .int .i64 p, .slice (some ⟨H, 0, none⟩) 2 mc] W fun r w' => ∃ v, r = .returned v ∧ SL B w0 w' [pOwn cInt 1 3 v (l.take p ++ ([x, -x] ++ l.drop p))]) := hid fun h => replI_any h rfl rfl (by decide) hp (by omega)
 clear CO ho
 have hb0 := bal (Below.refl w.heap.size w) (.cells #[.string kIns, .int .i64 p, .int .i64 x] 84)
 have q0 := heap_alloc_new w (.cells #[.string kIns, .int .i64 p, .int .i64 x] 84)
 obtain ⟨B0, hB0⟩ : ∃ B, B = w.heap.size := ⟨_, rfl⟩
 obtain ⟨w0, hw0⟩ : ∃ w0, w0 = w.alloc (.cells #[.string kIns, .int .i64 p, .int .i64 x] 84) := ⟨_, rfl⟩
 rw [← hw0] at hb0 q0
 rw [← hB0] at q0
 go_enter Tryz.func82, Tryz.ntmps82
 go_wp2_with fail
 rw [← hB0, ← hw0]
 clear hB0 hw0
 have hlt0 : B0 < w0.heap.size := (Array.getElem?_eq_some_iff.1 q0).1
 have hc0 : w0.cell? ⟨B0, 0, none⟩ = some (.string kIns) := by simp [World.cell?, q0]
 refine wp_regionK (C := Below (w0).heap.size (w0)) [1, 2] [_, _] 8 (by simp only [List.map_cons, List.map_nil, List.getElem?_toArray]; rfl) rfl kR kR kR ((Below.refl _ _).drew) ?_
 refine ⟨.pointer (some ⟨B0, 0, none⟩), yieldsK_val wU (fun w' => by first | (go_simp; done) | (go_simp; rfl)), ?_⟩
 go_frame
 refine ⟨_, yieldsK_cell F_str (hc0) wU wU, ?_⟩
 go_frame
 unfold wpPureK
 have hVd : ({ w0 with drawn := w0.drawn + 1 } : World) = w0.drew := rfl
 rw [hVd]
 have hbd : Below w0.heap.size w0 w0.drew := (Below.refl _ _).drew
 obtain ⟨w1, hw1⟩ : ∃ w1, w1 = w0.drew := ⟨_, rfl⟩
 rw [← hw1] at hbd ⊢
 clear hVd hw1
 refine wpAnyC_on [0, 7] kR (by simp) ?_
 simp only [List.forall_mem_cons, List.not_mem_nil, false_implies, implies_true, and_true]
 apply bothT (F := fun _ Q V => Below w0.heap.size w0 V ∧ V.heap[Q]? = some (.cells #[.int .i64 0, fnV 107, fnV 108] 140))
 case h =>
  intro key
  constructor
  ·refine wpOp_call (f := 101) (args := #[]) (by rw [List.getElem?_toArray]; rfl) wU (by first | (go_simp; done) | (simp [execOp, Act.eval, Result.andThen]; done) | (simp [execOp, Act.eval, Result.andThen]; rfl)) ?_
   refine (kinds_any _).mono ?_
   rintro e w2 ⟨k, rfl, hk, hkl, b2⟩
   have hb2 := bnext hbd b2
   have hkz : k < w2.heap.size := (Array.getElem?_eq_some_iff.1 hk).1
   refine ⟨_, rfl, hb2, ?_⟩
   go_frame
   refine wpAnyC_sub (C' := fun W => Below w0.heap.size w0 W ∧ W.heap[k]? = some mapK) (fun _ h => h.1) _ _ _ _ ?_
   refine wpAnyC_pure (g := 3) kR (fun c a w h => h) (⟨hb2, hk⟩) [3, 4, 5, 6] [_, _, _, _] _ _ (by simp only [List.map_cons, List.map_nil, List.getElem?_toArray]; rfl) kR ?_
   refine ⟨.tuple #[kV 0 107 108, .bool true], .inl ⟨by with_unfolding_all rfl, fun W hW => by simp [execOp, Act.eval, Act.put, lookK (i := 0) (s := kIns) (v := kV 0 107 108) hW.2 wU, Result.andThen]⟩, ?_⟩
   go_frame
   refine ⟨.tuple #[kV 0 107 108, .bool true], .inl ⟨by with_unfolding_all rfl, fun w' _ => by with_unfolding_all exact rfl⟩, ?_⟩
   go_frame
   refine ⟨kV 0 107 108, .inl ⟨by with_unfolding_all rfl, fun w' _ => by first | (go_simp; done) | (go_simp; rfl) | (with_unfolding_all exact rfl)⟩, ?_⟩
   go_frame
   refine ⟨.bool true, .inl ⟨by with_unfolding_all rfl, fun w' _ => by first | (go_simp; done) | (go_simp; rfl) | (with_unfolding_all exact rfl)⟩, ?_⟩
   go_frame
   unfold wpPure
   refine wpAnyC_on [7] kR (by simp) ?_
   simp only [List.forall_mem_cons, List.not_mem_nil, false_implies, implies_true, and_true]
   have hSz := (SL.nil w2).box (.cells #[.int .i64 0, .nilFunc, .nilFunc] 140)
   refine wpOp_value (v := .pointer (some ⟨w2.heap.size, 0, none⟩)) (w' := w2.alloc (.cells #[.int .i64 0, .nilFunc, .nilFunc] 140)) (by rw [List.getElem?_toArray]; rfl) wU (by first | (go_simp; done) | (go_simp; rfl) | (simp [execOp, Act.eval, Result.andThen]; done)) ?_
   refine ⟨⟨bal hb2 _, by rw [hSz.b.block k hkz]; exact hk⟩, ?_⟩
   go_frame
   refine wpAnyC_on [8] kR (by simp) ?_
   simp only [List.forall_mem_cons, List.not_mem_nil, false_implies, implies_true, and_true]
   refine wpOp_of_list (by rw [List.getElem?_toArray]; rfl) ?_
   ((with_reducible refine wpList_stoR (us := #[.int .i64 0, fnV 107, fnV 108]) 0 wU wU (hSz) wU kR wU wU ?_); intro wa hSa)
   refine ⟨⟨bnext hb2 hSa.b, by rw [hSa.b.block k hkz]; exact hk⟩, ?_⟩
   go_frame
   refine wpAnyC_rest [9] [_] rfl (by simp only [List.map_cons, List.map_nil, List.getElem?_toArray]; rfl) kR kR kR (⟨bnext hb2 hSa.b, (by rw [hSa.b.block k hkz]; exact hk)⟩) ?_
   refine ⟨.bool true, .inl ⟨by with_unfolding_all rfl, fun w' _ => by first | (go_simp; done) | (go_simp; rfl) | (with_unfolding_all exact rfl)⟩, ?_⟩
   go_frame
   unfold wpPure
   refine of_wpList_nil (P := Tryz.prog) (ops := #[]) ?_
   have f1 := bnext hb2 hSa.b
   have f2 := (hSa.blk 0 rfl).1
   clear hSz hSa
   revert f1 f2
   generalize w2.heap.size = G8
   intro f1 f2
   exact key k G8 wa ⟨f1, f2⟩
  ·have hSz := (SL.nil w1).box (.cells #[.int .i64 0, .nilFunc, .nilFunc] 140)
   refine wpOp_value (v := .pointer (some ⟨w1.heap.size, 0, none⟩)) (w' := w1.alloc (.cells #[.int .i64 0, .nilFunc, .nilFunc] 140)) (by rw [List.getElem?_toArray]; rfl) wU (by first | (go_simp; done) | (go_simp; rfl) | (simp [execOp, Act.eval, Result.andThen]; done)) ?_
   refine ⟨bal hbd _, ?_⟩
   go_frame
   refine wpAnyC_on [0] kR (by simp) ?_
   simp only [List.forall_mem_cons, List.not_mem_nil, false_implies, implies_true, and_true]
   refine wpOp_call (f := 101) (args := #[]) (by rw [List.getElem?_toArray]; rfl) wU (by first | (go_simp; done) | (simp [execOp, Act.eval, Result.andThen]; done) | (simp [execOp, Act.eval, Result.andThen]; rfl)) ?_
   refine (kinds_any _).mono ?_
   rintro e w2 ⟨k, rfl, hk, hkl, b2⟩
   have hb2 := bnext (bal hbd (.cells #[.int .i64 0, .nilFunc, .nilFunc] 140)) b2
   have hkz : k < w2.heap.size := (Array.getElem?_eq_some_iff.1 hk).1
   refine ⟨_, rfl, hb2, ?_⟩
   go_frame
   have hSy := hSz.call ((SL.nil _).new (pBlk k mapK) (grown_of_below b2) (b := some k) ⟨rfl, hk⟩ (fun j hj => by cases hj; exact hkl))
   refine wpAnyC_sub (C' := fun W => Below w0.heap.size w0 W ∧ W.heap[k]? = some mapK) (fun _ h => h.1) _ _ _ _ ?_
   refine wpAnyC_pure (g := 2) kR (fun c a w h => h) (⟨hb2, hk⟩) [3, 4, 5, 6] [_, _, _, _] _ _ (by simp only [List.map_cons, List.map_nil, List.getElem?_toArray]; rfl) kR ?_
   refine ⟨.tuple #[kV 0 107 108, .bool true], .inl ⟨by with_unfolding_all rfl, fun W hW => by simp [execOp, Act.eval, Act.put, lookK (i := 0) (s := kIns) (v := kV 0 107 108) hW.2 wU, Result.andThen]⟩, ?_⟩
   go_frame
   refine ⟨.tuple #[kV 0 107 108, .bool true], .inl ⟨by with_unfolding_all rfl, fun w' _ => by with_unfolding_all exact rfl⟩, ?_⟩
   go_frame
   refine ⟨kV 0 107 108, .inl ⟨by with_unfolding_all rfl, fun w' _ => by first | (go_simp; done) | (go_simp; rfl) | (with_unfolding_all exact rfl)⟩, ?_⟩
   go_frame
   refine ⟨.bool true, .inl ⟨by with_unfolding_all rfl, fun w' _ => by first | (go_simp; done) | (go_simp; rfl) | (with_unfolding_all exact rfl)⟩, ?_⟩
   go_frame
   unfold wpPure
   refine wpAnyC_on [8] kR (by simp) ?_
   simp only [List.forall_mem_cons, List.not_mem_nil, false_implies, implies_true, and_true]
   refine wpOp_of_list (by rw [List.getElem?_toArray]; rfl) ?_
   ((with_reducible refine wpList_stoR (us := #[.int .i64 0, fnV 107, fnV 108]) 1 wU wU (hSy) wU kR wU wU ?_); intro wa hSa)
   have hka := (hSa.blk 0 rfl).1
   refine ⟨⟨bnext hbd hSa.b, hka⟩, ?_⟩
   go_frame
   refine wpAnyC_rest [9] [_] rfl (by simp only [List.map_cons, List.map_nil, List.getElem?_toArray]; rfl) kR kR kR (⟨bnext hbd hSa.b, hka⟩) ?_
   refine ⟨.bool true, .inl ⟨by with_unfolding_all rfl, fun w' _ => by first | (go_simp; done) | (go_simp; rfl) | (with_unfolding_all exact rfl)⟩, ?_⟩
   go_frame
   unfold wpPure
   refine of_wpList_nil (P := Tryz.prog) (ops := #[]) ?_
   have f1 := bnext hbd hSa.b
   have f2 := (hSa.blk 1 rfl).1
   clear hSz hSa hSy hkl
   revert f1 f2
   generalize w1.heap.size = G8
   intro f1 f2
   exact key k G8 wa ⟨f1, f2⟩
 case k =>
  rintro k P8 w3 ⟨hb3, q8⟩
  clear hc0 hbd
  have q3 := (hb3.block B0 hlt0).trans q0
  have t3 := bnext hb0 hb3
  clear hb0 hb3 q0 hlt0
  simp only [fnV] at q8
  go_wp2_with (first | (with_reducible refine wpList_ldB F_str wU wU (by assumption) wU ?_) | (with_reducible refine wpList_ldB F_int wU wU (by assumption) wU ?_))
  refine wp_region_qt 33 kR kR ?_
  simp only [List.take_succ_cons, List.take_zero, List.drop_succ_cons, List.drop_zero]
  repeat (first | ((with_reducible refine wpQ_skip wU ?_); (try simp only [Act.put, pA, pB, pC])) | ((refine wpB_call (.int .i64 0) wU (fun w' => ?_) (fun w' hw' => HW.out 13 w') ?_); (focus (go_simp; done)); (try simp only [Act.put, pA, pB, pC])) | ((refine wpB_call (.int .i64 0) wU (fun w' => ?_) (fun w' hw' => HW.out 1 w') ?_); (focus (go_simp; done)); (try simp only [Act.put, pA, pB, pC])) | ((refine wpB_call (.int .i64 0) wU (fun w' => ?_) (fun w' hw' => HW.out 3 w') ?_); (focus (go_simp; done)); (try simp only [Act.put, pA, pB, pC])) | ((refine wpB_call (.bool false) wU (fun w' => ?_) (fun w' hw' => HO.out w') ?_); (focus (go_simp; done)); (try simp only [Act.put, pA, pB, pC])) | ((with_reducible refine wpB_load (v := .int .i64 x) F_int wU wU (by assumption) wU ?_); (try simp only [Act.put, pA, pB, pC])) | ((with_reducible refine wpB_load (v := .int .i64 p) F_int wU wU (by assumption) wU ?_); (try simp only [Act.put, pA, pB, pC])) | ((with_reducible refine wpB_load (v := .int .i64 0) F_int wU wU (by assumption) wU ?_); (try simp only [Act.put, pA, pB, pC])) | (((refine wpQ_oneG ?_ wU (fun w' => ?_) ?_); rotate_left; (go_simp; rfl); (try simp only [Act.put, pA, pB, pC])); first | rw [e1] | rw [e0] | rw [d1] | rw [d3] | skip) |  ((with_reducible refine wpB_load (by first | exact F_int | fail) wU wU (by assumption) wU ?_); (try simp only [Act.put, pA, pB, pC])) | ((with_reducible refine wpB_loadS (n := 2) (us := #[_, _]) (by fail) kR wU wU (by assumption) wU wU ?_); (try simp only [Act.put, pA, pB, pC])) | ((with_reducible refine wpB_loadS (n := 4) (us := #[_, _, _, _]) (by fail) kR wU wU (by assumption) wU wU ?_); (try simp only [Act.put, pA, pB, pC])) | ((refine wpQ_oneG ?_ wU (fun w' => ?_) ?_); rotate_left; (go_simp; rfl); (try simp only [Act.put, pA, pB, pC])))
  refine wpQuiet_nil ?_
  intro w4 hb4
  have q4 := (hb4.block B0 (Array.getElem?_eq_some_iff.1 q3).1).trans q3
  have p4 := (hb4.block P8 (Array.getElem?_eq_some_iff.1 q8).1).trans q8
  have t4 := bnext t3 hb4
  clear t3 hb4 q3 q8
  go_wp2_with fail
  have b5 := bal (Below.refl w4.heap.size w4) (.cells #[.int .i64 0, .int .i64 0, .int .i64 0, .int .i64 0] 28)
  have HR5 : Ints (w4.alloc (.cells #[.int .i64 0, .int .i64 0, .int .i64 0, .int .i64 0] 28)) (some ⟨w4.heap.size, 0, none⟩) 4 [0, 0, 0, 0] := reps_newN (w := w4) cIntS [0, 0, 0, 0] 4 rfl (by decide) #[.int .i64 0, .int .i64 0, .int .i64 0, .int .i64 0] (0, 0) rfl rfl
  obtain ⟨w5, hw5⟩ : ∃ w5, w5 = w4.alloc (.cells #[.int .i64 0, .int .i64 0, .int .i64 0, .int .i64 0] 28) := ⟨_, rfl⟩
  rw [← hw5] at b5 HR5 ⊢
  refine (bfirst_any _ _ [0, 0, 0, 0] _ HR5).mono ?_
  rintro e w5' ⟨rfl, rfl⟩
  have q5 := (b5.block B0 (Array.getElem?_eq_some_iff.1 q4).1).trans q4
  have p5 := (b5.block P8 (Array.getElem?_eq_some_iff.1 p4).1).trans p4
  have t5 := bnext t4 b5
  have e9 : firstE [0, 0, 0, 0] = 0 := rfl
  rw [e9]
  clear hw5 HR5 b5 t4 q4 p4 e9
  go_wp2_with (first | (with_reducible refine wpList_ldB (v := .int .i64 p) F_int wU wU (by assumption) wU ?_) | (with_reducible refine wpList_ldB (v := .int .i64 0) F_int wU wU (by assumption) wU ?_) | (with_reducible refine wpList_ldB F_fit wU wU (by assumption) wU ?_))
  refine (HF.out w5 (hS.below t5)).mono ?_
  rintro e w6 ⟨rfl, b6⟩
  have q6 := (b6.block B0 (Array.getElem?_eq_some_iff.1 q5).1).trans q5
  have p6 := (b6.block P8 (Array.getElem?_eq_some_iff.1 p5).1).trans p5
  have t6 := bnext t5 b6
  clear t5 q5 p5 b6
  have g1 : w6.cell? ⟨B0, 1, none⟩ = some (.int .i64 p) := by simp [World.cell?, q6]
  have g2 : w6.cell? ⟨P8, 0, none⟩ = some (.int .i64 0) := by simp [World.cell?, p6]
  have g3 : w6.cell? ⟨P8, 2, none⟩ = some (.func (.func 108) #[] #[]) := by simp [World.cell?, p6]
  go_wp2_with fail
  refine wp_regionK (C := Below (w6).heap.size (w6)) [0, 2, 3, 4, 5, 6, 7, 8, 9, 10, 11, 12] [_, _, _, _, _, _, _, _, _, _, _, _] 5 (by simp only [List.map_cons, List.map_nil, List.getElem?_toArray]; rfl) rfl kR kR kR ((Below.refl _ _).drew) ?_
  refine ⟨.slice a l.length c, yieldsK_val wU (fun w' => by first | (go_simp; done) | (go_simp; rfl)), ?_⟩
  go_frame
  refine ⟨.pointer (some ⟨B0, 1, none⟩), yieldsK_val wU (fun w' => by first | (go_simp; done) | (go_simp; rfl)), ?_⟩
  go_frame
  refine ⟨_, yieldsK_cell F_int (g1) wU wU, ?_⟩
  go_frame
  refine ⟨.pointer (some ⟨B0, 1, none⟩), yieldsK_val wU (fun w' => by first | (go_simp; done) | (go_simp; rfl)), ?_⟩
  go_frame
  refine ⟨_, yieldsK_cell F_int (g1) wU wU, ?_⟩
  go_frame
  refine ⟨.pointer (some ⟨P8, 0, none⟩), yieldsK_val wU (fun w' => by first | (go_simp; done) | (go_simp; rfl)), ?_⟩
  go_frame
  refine ⟨_, yieldsK_cell F_int (g2) wU wU, ?_⟩
  go_frame
  refine ⟨.int .i64 p, yieldsK_val wU (fun w' => by first | (go_simp; done) | (go_simp; rfl)), ?_⟩
  go_frame
  refine ⟨.pointer (some ⟨P8, 2, none⟩), yieldsK_val wU (fun w' => by first | (go_simp; done) | (go_simp; rfl)), ?_⟩
  go_frame
  refine ⟨_, yieldsK_cell F_mak (g3) wU wU, ?_⟩
  go_frame
  refine ⟨.slice ad 0 (c - p), yieldsK_val wU (fun w' => by first | (go_simp; done) | (go_simp; rfl)), ?_⟩
  go_frame
  refine ⟨.agg #[.string kIns, .int .i64 p, .int .i64 x], yieldsK_blk A_move kR q6 rfl wU wU, ?_⟩
  go_frame
  unfold wpPureK
  have hVd : ({ w6 with drawn := w6.drawn + 1 } : World) = w6.drew := rfl
  rw [hVd]
  have b7 : Below w6.heap.size w6 w6.drew := (Below.refl _ _).drew
  obtain ⟨w7, hw7⟩ : ∃ w7, w7 = w6.drew := ⟨_, rfl⟩
  rw [← hw7] at b7 ⊢
  have t7 := bnext t6 b7
  clear hVd hw7 q6 p6 g1 g2 g3
  refine wpAnyC_on [1] kR (by simp) ?_
  simp only [List.forall_mem_cons, List.not_mem_nil, false_implies, implies_true, and_true]
  refine wpOp_call (f := 40) (args := #[.slice a l.length c]) (by rw [List.getElem?_toArray]; rfl) wU (by first | (go_simp; done) | (simp [execOp, Act.eval, Result.andThen]; done) | (simp [execOp, Act.eval, Result.andThen]; rfl)) ?_
  refine (Clone_any a c l _ (hS.below t7) (by omega) hz).mono ?_
  rintro e w8 ⟨v8, rfl, ho8, b8⟩
  obtain ⟨G, cp, rfl⟩ := own_some ho8 hz
  refine ⟨_, rfl, bnext b7 b8, ?_⟩
  go_frame
  refine wpAnyC_on [13] kR (by simp) ?_
  simp only [List.forall_mem_cons, List.not_mem_nil, false_implies, implies_true, and_true]
  refine wpOp_call (f := 108) (args := #[.slice ad 0 (c - p), .agg #[.string kIns, .int .i64 p, .int .i64 x]]) (by rw [List.getElem?_toArray]; rfl) wU (by first | (go_simp; done) | (simp [execOp, Act.eval, Result.andThen]; done) | (simp [execOp, Act.eval, Result.andThen]; rfl)) ?_
  refine (HM.out _ (hS.below (bnext t7 b8))).mono ?_
  rintro e w9 ⟨H9, c9, rfl, ho9, b9⟩
  refine ⟨_, rfl, bnext (bnext b7 b8) b9, ?_⟩
  go_frame
  have hS9 := ((SL.ofOwn ho8 b8).call (SL.ofOwn ho9 b9)).pick [1, 0] (by decide) [pOwn cInt 1 3 (.slice (some ⟨G, 0, none⟩) l.length cp) l, pOwn cInt 1 3 (.slice (some ⟨H9, 0, none⟩) 2 c9) ([x, -x])] rfl
  clear ho8 b8 b9
  refine wpAnyC_on [14] kR (by simp) ?_
  simp only [List.forall_mem_cons, List.not_mem_nil, false_implies, implies_true, and_true]
  refine wpOp_call (f := 102) (args := #[.slice (some ⟨G, 0, none⟩) l.length cp, .int .i64 p, .int .i64 p, .slice (some ⟨H9, 0, none⟩) 2 c9]) (by rw [List.getElem?_toArray]; rfl) wU (by first | (go_simp; done) | (simp [execOp, Act.eval, Result.andThen]; done) | (simp [execOp, Act.eval, Result.andThen]; rfl)) ?_
  refine (HR.out hS9).mono ?_
  rintro e w10 ⟨v10, rfl, hS10⟩
  refine ⟨_, rfl, bnext b7 hS10.b, ?_⟩
  go_frame
  refine wpAnyC_rest [15, 16] [_, _] rfl (by simp only [List.map_cons, List.map_nil, List.getElem?_toArray]; rfl) kR kR kR (bnext b7 hS10.b) ?_
  refine ⟨v10, .inl ⟨by with_unfolding_all rfl, fun w' _ => by first | (go_simp; done) | (go_simp; rfl) | (with_unfolding_all exact rfl)⟩, ?_⟩
  go_frame
  refine ⟨.int .i64 0, .inl ⟨by with_unfolding_all rfl, fun w' _ => by first | (go_simp; done) | (go_simp; rfl) | (with_unfolding_all exact rfl)⟩, ?_⟩
  go_frame
  unfold wpPure
  refine of_wpList_nil (P := Tryz.prog) (ops := #[]) ?_
  go_wp2_with fail
  go_ret2
  exact ⟨v10, rfl, (hS10.own 0 rfl).mono t7.size, bnext t7 hS10.b⟩
theorem ap_can (n p : Nat) (a : Option Addr) (c : Nat) (l : List Int) (w : World) (hS : Ints w a c l) (hl : l.length ≤ 900) (hz : 0 < l.length) (hn : 1 ≤ n ∧ n ≤ 12) (hr : ∀ y ∈ l, -1000 ≤ y ∧ y ≤ 1000 ∧ y ≠ 0) (hp : p + 2 ≤ l.length) (hfit : atD 0 l (p : Int) = -atD 0 l ((p + 1 : Nat) : Int)) :
  Calls Tryz.prog 82 #[.int .i64 n, .slice a l.length c, .agg #[.string kCan, .int .i64 p, .int .i64 0]] w fun r w' => ∃ v, r = .returned (.tuple #[v, .int .i64 0]) ∧ OwnI w.heap.size w' v (l.take p ++ ([] ++ l.drop (p + 2))) ∧ Below w.heap.size w w' := by
 have hkd : (kCan.toList == [105, 110, 115, 101, 114, 116]) = false := by decide +kernel
 have CW : ∀ (e : Int) W, Calls Tryz.prog 39 #[.bool false, .int .i64 e] W fun r w' => r = .returned (.int .i64 0) ∧ Below W.heap.size W w' := fun e W => calls_below (bwhen_any false e W)
 have HW := hid CW
 have hcap := hS.le
 have hmx := hS.max
 obtain ⟨Q, hQ⟩ : ∃ Q, Q = p + 2 := ⟨_, rfl⟩
 obtain ⟨D, hD⟩ : ∃ D, D = l.length - 2 := ⟨_, rfl⟩
 obtain ⟨ad, hcut⟩ := cutW (a := a) (c := c) (n := l.length) (p := p) (q := Q) (by omega) (by omega) hcap (D := 2) (by omega)
 have q1 := fun V => (hcut V).1
 have CI := fun V (h : Ints V a c l) => (hcut V).2 l rfl h
 have e1 : IntKind.i64.wrap ((l.length : Int) - 2) = (D : Int) := by rw [IntWalk.i64_in _ (by omega)]; omega
 have e2 : IntKind.i64.wrap ((p : Int) + 2) = (Q : Int) := by rw [IntWalk.i64_in _ (by omega)]; omega
 have e0 : IntKind.i64.wrap (l.length : Int) = ((l.length : Nat) : Int) := IntWalk.i64_in _ (by omega)
 have e3 : IntKind.i64.wrap (p : Int) = (p : Int) := IntWalk.i64_in _ (by omega)
 have d1 : decide ((D : Int) < (p : Int)) = false := decide_eq_false (by omega)
 have d2 : decide (D < p) = false := decide_eq_false (by omega)
 have d3 : decide ((p : Int) < 0) = false := decide_eq_false (by omega)
 have r0 := hr (atD 0 l (p : Int)) (atD_mem (by omega))
 have r1 := hr (atD 0 l ((p + 1 : Nat) : Int)) (atD_mem (by omega))
 have hsg : (l.take Q).drop p = [atD 0 l (p : Int), atD 0 l ((p + 1 : Nat) : Int)] := by rw [hQ]; exact seg2 (by omega)
 have CI2 : ∀ V, Ints V a c l → Ints V ad (c - p) [atD 0 l (p : Int), atD 0 l ((p + 1 : Nat) : Int)] := fun V h => by rw [← hsg]; exact CI V h
 obtain ⟨X0, hX0⟩ : ∃ x, x = atD 0 l (p : Int) := ⟨_, rfl⟩
 rw [← hX0] at hfit r0 CI2
 try rw [← hX0]
 obtain ⟨X1, hX1⟩ : ∃ x, x = atD 0 l ((p + 1 : Nat) : Int) := ⟨_, rfl⟩
 rw [← hX1] at hfit r1 CI2
 try rw [← hX1]
 rw [show p + 2 = Q from hQ.symm]
 have HF : Hid (∀ W, Ints W a c l → Calls Tryz.prog 109 #[.slice ad 2 (c - p)] W fun r w' => r = .returned (.bool true) ∧ Below W.heap.size W w') := hid fun W h => by
  have h3 := kd3_any ad (c - p) X0 X1 W (CI2 W h) ⟨r1.1, r1.2.1⟩
  rwa [show (X0 == -X1) = true by simpa using hfit] at h3
 have HM := hid (fun W (h : Ints W a c l) => kd4_any (.slice ad 2 (c - p)) _ W kCan p 0 rfl)
 have HR : Hid (∀ {B : Nat} {w0 W : World} {G cp : Nat}, SL B w0 W [pOwn cInt 1 3 (.slice (some ⟨G, 0, none⟩) l.length cp) l, pOwn cInt 1 3 (.slice none 0 0) ([])] → Calls Tryz.prog 102 #[.slice (some ⟨G, 0, none⟩) l.length cp, .int .i64 p, .int .i64 Q, .slice none 0 0] W fun r w' => ∃ v, r = .returned v ∧ SL B w0 w' [pOwn cInt 1 3 v (l.take p ++ ([] ++ l.drop Q))]) := hid fun h => repl_any h rfl rfl (by omega) (by omega) (by omega) (.inr ⟨rfl, rfl, rfl⟩)
 clear CW hcut CI CI2 hsg hfit hQ hD hX0 r0 hX1 r1
 have hb0 := bal (Below.refl w.heap.size w) (.cells #[.string kCan, .int .i64 p, .int .i64 0] 84)
 have q0 := heap_alloc_new w (.cells #[.string kCan, .int .i64 p, .int .i64 0] 84)
 obtain ⟨B0, hB0⟩ : ∃ B, B = w.heap.size := ⟨_, rfl⟩
 obtain ⟨w0, hw0⟩ : ∃ w0, w0 = w.alloc (.cells #[.string kCan, .int .i64 p, .int .i64 0] 84) := ⟨_, rfl⟩
 rw [← hw0] at hb0 q0
 rw [← hB0] at q0
 go_enter Tryz.func82, Tryz.ntmps82
 go_wp2_with fail
 rw [← hB0, ← hw0]
 clear hB0 hw0
 have hlt0 : B0 < w0.heap.size := (Array.getElem?_eq_some_iff.1 q0).1
 have hc0 : w0.cell? ⟨B0, 0, none⟩ = some (.string kCan) := by simp [World.cell?, q0]
 refine wp_regionK (C := Below (w0).heap.size (w0)) [1, 2] [_, _] 8 (by simp only [List.map_cons, List.map_nil, List.getElem?_toArray]; rfl) rfl kR kR kR ((Below.refl _ _).drew) ?_
 refine ⟨.pointer (some ⟨B0, 0, none⟩), yieldsK_val wU (fun w' => by first | (go_simp; done) | (go_simp; rfl)), ?_⟩
 go_frame
 refine ⟨_, yieldsK_cell F_str (hc0) wU wU, ?_⟩
 go_frame
 unfold wpPureK
 have hVd : ({ w0 with drawn := w0.drawn + 1 } : World) = w0.drew := rfl
 rw [hVd]
 have hbd : Below w0.heap.size w0 w0.drew := (Below.refl _ _).drew
 obtain ⟨w1, hw1⟩ : ∃ w1, w1 = w0.drew := ⟨_, rfl⟩
 rw [← hw1] at hbd ⊢
 clear hVd hw1
 refine wpAnyC_on [0, 7] kR (by simp) ?_
 simp only [List.forall_mem_cons, List.not_mem_nil, false_implies, implies_true, and_true]
 apply bothT (F := fun _ Q V => Below w0.heap.size w0 V ∧ V.heap[Q]? = some (.cells #[.int .i64 2, fnV 109, fnV 110] 140))
 case h =>
  intro key
  constructor
  ·refine wpOp_call (f := 101) (args := #[]) (by rw [List.getElem?_toArray]; rfl) wU (by first | (go_simp; done) | (simp [execOp, Act.eval, Result.andThen]; done) | (simp [execOp, Act.eval, Result.andThen]; rfl)) ?_
   refine (kinds_any _).mono ?_
   rintro e w2 ⟨k, rfl, hk, hkl, b2⟩
   have hb2 := bnext hbd b2
   have hkz : k < w2.heap.size := (Array.getElem?_eq_some_iff.1 hk).1
   refine ⟨_, rfl, hb2, ?_⟩
   go_frame
   refine wpAnyC_sub (C' := fun W => Below w0.heap.size w0 W ∧ W.heap[k]? = some mapK) (fun _ h => h.1) _ _ _ _ ?_
   refine wpAnyC_pure (g := 3) kR (fun c a w h => h) (⟨hb2, hk⟩) [3, 4, 5, 6] [_, _, _, _] _ _ (by simp only [List.map_cons, List.map_nil, List.getElem?_toArray]; rfl) kR ?_
   refine ⟨.tuple #[kV 2 109 110, .bool true], .inl ⟨by with_unfolding_all rfl, fun W hW => by simp [execOp, Act.eval, Act.put, lookK (i := 1) (s := kCan) (v := kV 2 109 110) hW.2 wU, Result.andThen]⟩, ?_⟩
   go_frame
   refine ⟨.tuple #[kV 2 109 110, .bool true], .inl ⟨by with_unfolding_all rfl, fun w' _ => by with_unfolding_all exact rfl⟩, ?_⟩
   go_frame
   refine ⟨kV 2 109 110, .inl ⟨by with_unfolding_all rfl, fun w' _ => by first | (go_simp; done) | (go_simp; rfl) | (with_unfolding_all exact rfl)⟩, ?_⟩
   go_frame
   refine ⟨.bool true, .inl ⟨by with_unfolding_all rfl, fun w' _ => by first | (go_simp; done) | (go_simp; rfl) | (with_unfolding_all exact rfl)⟩, ?_⟩
   go_frame
   unfold wpPure
   refine wpAnyC_on [7] kR (by simp) ?_
   simp only [List.forall_mem_cons, List.not_mem_nil, false_implies, implies_true, and_true]
   have hSz := (SL.nil w2).box (.cells #[.int .i64 0, .nilFunc, .nilFunc] 140)
   refine wpOp_value (v := .pointer (some ⟨w2.heap.size, 0, none⟩)) (w' := w2.alloc (.cells #[.int .i64 0, .nilFunc, .nilFunc] 140)) (by rw [List.getElem?_toArray]; rfl) wU (by first | (go_simp; done) | (go_simp; rfl) | (simp [execOp, Act.eval, Result.andThen]; done)) ?_
   refine ⟨⟨bal hb2 _, by rw [hSz.b.block k hkz]; exact hk⟩, ?_⟩
   go_frame
   refine wpAnyC_on [8] kR (by simp) ?_
   simp only [List.forall_mem_cons, List.not_mem_nil, false_implies, implies_true, and_true]
   refine wpOp_of_list (by rw [List.getElem?_toArray]; rfl) ?_
   ((with_reducible refine wpList_stoR (us := #[.int .i64 2, fnV 109, fnV 110]) 0 wU wU (hSz) wU kR wU wU ?_); intro wa hSa)
   refine ⟨⟨bnext hb2 hSa.b, by rw [hSa.b.block k hkz]; exact hk⟩, ?_⟩
   go_frame
   refine wpAnyC_rest [9] [_] rfl (by simp only [List.map_cons, List.map_nil, List.getElem?_toArray]; rfl) kR kR kR (⟨bnext hb2 hSa.b, (by rw [hSa.b.block k hkz]; exact hk)⟩) ?_
   refine ⟨.bool true, .inl ⟨by with_unfolding_all rfl, fun w' _ => by first | (go_simp; done) | (go_simp; rfl) | (with_unfolding_all exact rfl)⟩, ?_⟩
   go_frame
   unfold wpPure
   refine of_wpList_nil (P := Tryz.prog) (ops := #[]) ?_
   have f1 := bnext hb2 hSa.b
   have f2 := (hSa.blk 0 rfl).1
   clear hSz hSa
   revert f1 f2
   generalize w2.heap.size = G8
   intro f1 f2
   exact key k G8 wa ⟨f1, f2⟩
  ·have hSz := (SL.nil w1).box (.cells #[.int .i64 0, .nilFunc, .nilFunc] 140)
   refine wpOp_value (v := .pointer (some ⟨w1.heap.size, 0, none⟩)) (w' := w1.alloc (.cells #[.int .i64 0, .nilFunc, .nilFunc] 140)) (by rw [List.getElem?_toArray]; rfl) wU (by first | (go_simp; done) | (go_simp; rfl) | (simp [execOp, Act.eval, Result.andThen]; done)) ?_
   refine ⟨bal hbd _, ?_⟩
   go_frame
   refine wpAnyC_on [0] kR (by simp) ?_
   simp only [List.forall_mem_cons, List.not_mem_nil, false_implies, implies_true, and_true]
   refine wpOp_call (f := 101) (args := #[]) (by rw [List.getElem?_toArray]; rfl) wU (by first | (go_simp; done) | (simp [execOp, Act.eval, Result.andThen]; done) | (simp [execOp, Act.eval, Result.andThen]; rfl)) ?_
   refine (kinds_any _).mono ?_
   rintro e w2 ⟨k, rfl, hk, hkl, b2⟩
   have hb2 := bnext (bal hbd (.cells #[.int .i64 0, .nilFunc, .nilFunc] 140)) b2
   have hkz : k < w2.heap.size := (Array.getElem?_eq_some_iff.1 hk).1
   refine ⟨_, rfl, hb2, ?_⟩
   go_frame
   have hSy := hSz.call ((SL.nil _).new (pBlk k mapK) (grown_of_below b2) (b := some k) ⟨rfl, hk⟩ (fun j hj => by cases hj; exact hkl))
   refine wpAnyC_sub (C' := fun W => Below w0.heap.size w0 W ∧ W.heap[k]? = some mapK) (fun _ h => h.1) _ _ _ _ ?_
   refine wpAnyC_pure (g := 2) kR (fun c a w h => h) (⟨hb2, hk⟩) [3, 4, 5, 6] [_, _, _, _] _ _ (by simp only [List.map_cons, List.map_nil, List.getElem?_toArray]; rfl) kR ?_
   refine ⟨.tuple #[kV 2 109 110, .bool true], .inl ⟨by with_unfolding_all rfl, fun W hW => by simp [execOp, Act.eval, Act.put, lookK (i := 1) (s := kCan) (v := kV 2 109 110) hW.2 wU, Result.andThen]⟩, ?_⟩
   go_frame
   refine ⟨.tuple #[kV 2 109 110, .bool true], .inl ⟨by with_unfolding_all rfl, fun w' _ => by with_unfolding_all exact rfl⟩, ?_⟩
   go_frame
   refine ⟨kV 2 109 110, .inl ⟨by with_unfolding_all rfl, fun w' _ => by first | (go_simp; done) | (go_simp; rfl) | (with_unfolding_all exact rfl)⟩, ?_⟩
   go_frame
   refine ⟨.bool true, .inl ⟨by with_unfolding_all rfl, fun w' _ => by first | (go_simp; done) | (go_simp; rfl) | (with_unfolding_all exact rfl)⟩, ?_⟩
   go_frame
   unfold wpPure
   refine wpAnyC_on [8] kR (by simp) ?_
   simp only [List.forall_mem_cons, List.not_mem_nil, false_implies, implies_true, and_true]
   refine wpOp_of_list (by rw [List.getElem?_toArray]; rfl) ?_
   ((with_reducible refine wpList_stoR (us := #[.int .i64 2, fnV 109, fnV 110]) 1 wU wU (hSy) wU kR wU wU ?_); intro wa hSa)
   have hka := (hSa.blk 0 rfl).1
   refine ⟨⟨bnext hbd hSa.b, hka⟩, ?_⟩
   go_frame
   refine wpAnyC_rest [9] [_] rfl (by simp only [List.map_cons, List.map_nil, List.getElem?_toArray]; rfl) kR kR kR (⟨bnext hbd hSa.b, hka⟩) ?_
   refine ⟨.bool true, .inl ⟨by with_unfolding_all rfl, fun w' _ => by first | (go_simp; done) | (go_simp; rfl) | (with_unfolding_all exact rfl)⟩, ?_⟩
   go_frame
   unfold wpPure
   refine of_wpList_nil (P := Tryz.prog) (ops := #[]) ?_
   have f1 := bnext hbd hSa.b
   have f2 := (hSa.blk 1 rfl).1
   clear hSz hSa hSy hkl
   revert f1 f2
   generalize w1.heap.size = G8
   intro f1 f2
   exact key k G8 wa ⟨f1, f2⟩
 case k =>
  rintro k P8 w3 ⟨hb3, q8⟩
  clear hc0 hbd
  have q3 := (hb3.block B0 hlt0).trans q0
  have t3 := bnext hb0 hb3
  clear hb0 hb3 q0 hlt0
  simp only [fnV] at q8
  go_wp2_with (first | (with_reducible refine wpList_ldB F_str wU wU (by assumption) wU ?_) | (with_reducible refine wpList_ldB F_int wU wU (by assumption) wU ?_))
  refine wp_region_qt 33 kR kR ?_
  simp only [List.take_succ_cons, List.take_zero, List.drop_succ_cons, List.drop_zero]
  repeat (first | ((with_reducible refine wpQ_skip wU ?_); (try simp only [Act.put, pA, pB, pC])) | ((refine wpB_call (.int .i64 0) wU (fun w' => ?_) (fun w' hw' => HW.out 13 w') ?_); (focus (go_simp; done)); (try simp only [Act.put, pA, pB, pC])) | ((refine wpB_call (.int .i64 0) wU (fun w' => ?_) (fun w' hw' => HW.out 1 w') ?_); (focus (go_simp; done)); (try simp only [Act.put, pA, pB, pC])) | ((refine wpB_call (.int .i64 0) wU (fun w' => ?_) (fun w' hw' => HW.out 3 w') ?_); (focus (go_simp; done)); (try simp only [Act.put, pA, pB, pC])) | ((refine wpB_call (.bool false) wU (fun w' => ?_) (fun w' hw' => HO.out w') ?_); (focus (go_simp; done)); (try simp only [Act.put, pA, pB, pC])) | ((with_reducible refine wpB_load (v := .int .i64 x) F_int wU wU (by assumption) wU ?_); (try simp only [Act.put, pA, pB, pC])) | ((with_reducible refine wpB_load (v := .int .i64 p) F_int wU wU (by assumption) wU ?_); (try simp only [Act.put, pA, pB, pC])) | ((with_reducible refine wpB_load (v := .int .i64 2) F_int wU wU (by assumption) wU ?_); (try simp only [Act.put, pA, pB, pC])) | (((refine wpQ_oneG ?_ wU (fun w' => ?_) ?_); rotate_left; (go_simp; rfl); (try simp only [Act.put, pA, pB, pC])); first | rw [e1] | rw [e0] | rw [d1] | rw [d3] | skip) |  ((with_reducible refine wpB_load (by first | exact F_int | fail) wU wU (by assumption) wU ?_); (try simp only [Act.put, pA, pB, pC])) | ((with_reducible refine wpB_loadS (n := 2) (us := #[_, _]) (by fail) kR wU wU (by assumption) wU wU ?_); (try simp only [Act.put, pA, pB, pC])) | ((with_reducible refine wpB_loadS (n := 4) (us := #[_, _, _, _]) (by fail) kR wU wU (by assumption) wU wU ?_); (try simp only [Act.put, pA, pB, pC])) | ((refine wpQ_oneG ?_ wU (fun w' => ?_) ?_); rotate_left; (go_simp; rfl); (try simp only [Act.put, pA, pB, pC])))
  refine wpQuiet_nil ?_
  intro w4 hb4
  have q4 := (hb4.block B0 (Array.getElem?_eq_some_iff.1 q3).1).trans q3
  have p4 := (hb4.block P8 (Array.getElem?_eq_some_iff.1 q8).1).trans q8
  have t4 := bnext t3 hb4
  clear t3 hb4 q3 q8
  go_wp2_with fail
  have b5 := bal (Below.refl w4.heap.size w4) (.cells #[.int .i64 0, .int .i64 0, .int .i64 0, .int .i64 0] 28)
  have HR5 : Ints (w4.alloc (.cells #[.int .i64 0, .int .i64 0, .int .i64 0, .int .i64 0] 28)) (some ⟨w4.heap.size, 0, none⟩) 4 [0, 0, 0, 0] := reps_newN (w := w4) cIntS [0, 0, 0, 0] 4 rfl (by decide) #[.int .i64 0, .int .i64 0, .int .i64 0, .int .i64 0] (0, 0) rfl rfl
  obtain ⟨w5, hw5⟩ : ∃ w5, w5 = w4.alloc (.cells #[.int .i64 0, .int .i64 0, .int .i64 0, .int .i64 0] 28) := ⟨_, rfl⟩
  rw [← hw5] at b5 HR5 ⊢
  refine (bfirst_any _ _ [0, 0, 0, 0] _ HR5).mono ?_
  rintro e w5' ⟨rfl, rfl⟩
  have q5 := (b5.block B0 (Array.getElem?_eq_some_iff.1 q4).1).trans q4
  have p5 := (b5.block P8 (Array.getElem?_eq_some_iff.1 p4).1).trans p4
  have t5 := bnext t4 b5
  have e9 : firstE [0, 0, 0, 0] = 0 := rfl
  rw [e9]
  clear hw5 HR5 b5 t4 q4 p4 e9
  go_wp2_with (first | (with_reducible refine wpList_ldB (v := .int .i64 p) F_int wU wU (by assumption) wU ?_) | (with_reducible refine wpList_ldB (v := .int .i64 2) F_int wU wU (by assumption) wU ?_) | (with_reducible refine wpList_ldB F_fit wU wU (by assumption) wU ?_))
  refine (HF.out w5 (hS.below t5)).mono ?_
  rintro e w6 ⟨rfl, b6⟩
  have q6 := (b6.block B0 (Array.getElem?_eq_some_iff.1 q5).1).trans q5
  have p6 := (b6.block P8 (Array.getElem?_eq_some_iff.1 p5).1).trans p5
  have t6 := bnext t5 b6
  clear t5 q5 p5 b6
  have g1 : w6.cell? ⟨B0, 1, none⟩ = some (.int .i64 p) := by simp [World.cell?, q6]
  have g2 : w6.cell? ⟨P8, 0, none⟩ = some (.int .i64 2) := by simp [World.cell?, p6]
  have g3 : w6.cell? ⟨P8, 2, none⟩ = some (.func (.func 110) #[] #[]) := by simp [World.cell?, p6]
  go_wp2_with fail
  refine wp_regionK (C := Below (w6).heap.size (w6)) [0, 2, 3, 4, 5, 6, 7, 8, 9, 10, 11, 12] [_, _, _, _, _, _, _, _, _, _, _, _] 5 (by simp only [List.map_cons, List.map_nil, List.getElem?_toArray]; rfl) rfl kR kR kR ((Below.refl _ _).drew) ?_
  refine ⟨.slice a l.length c, yieldsK_val wU (fun w' => by first | (go_simp; done) | (go_simp; rfl)), ?_⟩
  go_frame
  refine ⟨.pointer (some ⟨B0, 1, none⟩), yieldsK_val wU (fun w' => by first | (go_simp; done) | (go_simp; rfl)), ?_⟩
  go_frame
  refine ⟨_, yieldsK_cell F_int (g1) wU wU, ?_⟩
  go_frame
  refine ⟨.pointer (some ⟨B0, 1, none⟩), yieldsK_val wU (fun w' => by first | (go_simp; done) | (go_simp; rfl)), ?_⟩
  go_frame
  refine ⟨_, yieldsK_cell F_int (g1) wU wU, ?_⟩
  go_frame
  refine ⟨.pointer (some ⟨P8, 0, none⟩), yieldsK_val wU (fun w' => by first | (go_simp; done) | (go_simp; rfl)), ?_⟩
  go_frame
  refine ⟨_, yieldsK_cell F_int (g2) wU wU, ?_⟩
  go_frame
  refine ⟨.int .i64 Q, yieldsK_val wU (fun w' => by first | (go_simp; done) | (go_simp; rfl)), ?_⟩
  go_frame
  refine ⟨.pointer (some ⟨P8, 2, none⟩), yieldsK_val wU (fun w' => by first | (go_simp; done) | (go_simp; rfl)), ?_⟩
  go_frame
  refine ⟨_, yieldsK_cell F_mak (g3) wU wU, ?_⟩
  go_frame
  refine ⟨.slice ad 2 (c - p), yieldsK_val wU (fun w' => by first | (go_simp; done) | (go_simp; rfl)), ?_⟩
  go_frame
  refine ⟨.agg #[.string kCan, .int .i64 p, .int .i64 0], yieldsK_blk A_move kR q6 rfl wU wU, ?_⟩
  go_frame
  unfold wpPureK
  have hVd : ({ w6 with drawn := w6.drawn + 1 } : World) = w6.drew := rfl
  rw [hVd]
  have b7 : Below w6.heap.size w6 w6.drew := (Below.refl _ _).drew
  obtain ⟨w7, hw7⟩ : ∃ w7, w7 = w6.drew := ⟨_, rfl⟩
  rw [← hw7] at b7 ⊢
  have t7 := bnext t6 b7
  clear hVd hw7 q6 p6 g1 g2 g3
  refine wpAnyC_on [1] kR (by simp) ?_
  simp only [List.forall_mem_cons, List.not_mem_nil, false_implies, implies_true, and_true]
  refine wpOp_call (f := 40) (args := #[.slice a l.length c]) (by rw [List.getElem?_toArray]; rfl) wU (by first | (go_simp; done) | (simp [execOp, Act.eval, Result.andThen]; done) | (simp [execOp, Act.eval, Result.andThen]; rfl)) ?_
  refine (Clone_any a c l _ (hS.below t7) (by omega) hz).mono ?_
  rintro e w8 ⟨v8, rfl, ho8, b8⟩
  obtain ⟨G, cp, rfl⟩ := own_some ho8 hz
  refine ⟨_, rfl, bnext b7 b8, ?_⟩
  go_frame
  refine wpAnyC_on [13] kR (by simp) ?_
  simp only [List.forall_mem_cons, List.not_mem_nil, false_implies, implies_true, and_true]
  refine wpOp_call (f := 110) (args := #[.slice ad 2 (c - p), .agg #[.string kCan, .int .i64 p, .int .i64 0]]) (by rw [List.getElem?_toArray]; rfl) wU (by first | (go_simp; done) | (simp [execOp, Act.eval, Result.andThen]; done) | (simp [execOp, Act.eval, Result.andThen]; rfl)) ?_
  refine (HM.out _ (hS.below (bnext t7 b8))).mono ?_
  rintro e w9 ⟨rfl, b9⟩
  refine ⟨_, rfl, bnext (bnext b7 b8) b9, ?_⟩
  go_frame
  have hS9 := ((SL.ofOwn ho8 b8).call ((SL.of_below b9).nilS (α := Int) (e := 3) cIntS)).pick [1, 0] (by decide) [pOwn cInt 1 3 (.slice (some ⟨G, 0, none⟩) l.length cp) l, pOwn cInt 1 3 (.slice none 0 0) ([])] rfl
  clear ho8 b8 b9
  refine wpAnyC_on [14] kR (by simp) ?_
  simp only [List.forall_mem_cons, List.not_mem_nil, false_implies, implies_true, and_true]
  refine wpOp_call (f := 102) (args := #[.slice (some ⟨G, 0, none⟩) l.length cp, .int .i64 p, .int .i64 Q, .slice none 0 0]) (by rw [List.getElem?_toArray]; rfl) wU (by first | (go_simp; done) | (simp [execOp, Act.eval, Result.andThen]; done) | (simp [execOp, Act.eval, Result.andThen]; rfl)) ?_
  refine (HR.out hS9).mono ?_
  rintro e w10 ⟨v10, rfl, hS10⟩
  refine ⟨_, rfl, bnext b7 hS10.b, ?_⟩
  go_frame
  refine wpAnyC_rest [15, 16] [_, _] rfl (by simp only [List.map_cons, List.map_nil, List.getElem?_toArray]; rfl) kR kR kR (bnext b7 hS10.b) ?_
  refine ⟨v10, .inl ⟨by with_unfolding_all rfl, fun w' _ => by first | (go_simp; done) | (go_simp; rfl) | (with_unfolding_all exact rfl)⟩, ?_⟩
  go_frame
  refine ⟨.int .i64 0, .inl ⟨by with_unfolding_all rfl, fun w' _ => by first | (go_simp; done) | (go_simp; rfl) | (with_unfolding_all exact rfl)⟩, ?_⟩
  go_frame
  unfold wpPure
  refine of_wpList_nil (P := Tryz.prog) (ops := #[]) ?_
  go_wp2_with fail
  go_ret2
  exact ⟨v10, rfl, (hS10.own 0 rfl).mono t7.size, bnext t7 hS10.b⟩
theorem ap_swp (n p : Nat) (a : Option Addr) (c : Nat) (l : List Int) (w : World) (hS : Ints w a c l) (hl : l.length ≤ 900) (hz : 0 < l.length) (hn : 1 ≤ n ∧ n ≤ 12) (hr : ∀ y ∈ l, -1000 ≤ y ∧ y ≤ 1000 ∧ y ≠ 0) (hp : p + 2 ≤ l.length) (hfit : 2 ≤ absI (absI (atD 0 l (p : Int)) - absI (atD 0 l ((p + 1 : Nat) : Int)))) :
  Calls Tryz.prog 82 #[.int .i64 n, .slice a l.length c, .agg #[.string kSwp, .int .i64 p, .int .i64 0]] w fun r w' => ∃ v, r = .returned (.tuple #[v, .int .i64 0]) ∧ OwnI w.heap.size w' v (l.take p ++ ([atD 0 l ((p + 1 : Nat) : Int), atD 0 l (p : Int)] ++ l.drop (p + 2))) ∧ Below w.heap.size w w' := by
 have hkd : (kSwp.toList == [105, 110, 115, 101, 114, 116]) = false := by decide +kernel
 have CW : ∀ (e : Int) W, Calls Tryz.prog 39 #[.bool false, .int .i64 e] W fun r w' => r = .returned (.int .i64 0) ∧ Below W.heap.size W w' := fun e W => calls_below (bwhen_any false e W)
 have HW := hid CW
 have hcap := hS.le
 have hmx := hS.max
 obtain ⟨Q, hQ⟩ : ∃ Q, Q = p + 2 := ⟨_, rfl⟩
 obtain ⟨D, hD⟩ : ∃ D, D = l.length - 2 := ⟨_, rfl⟩
 obtain ⟨ad, hcut⟩ := cutW (a := a) (c := c) (n := l.length) (p := p) (q := Q) (by omega) (by omega) hcap (D := 2) (by omega)
 have q1 := fun V => (hcut V).1
 have CI := fun V (h : Ints V a c l) => (hcut V).2 l rfl h
 have e1 : IntKind.i64.wrap ((l.length : Int) - 2) = (D : Int) := by rw [IntWalk.i64_in _ (by omega)]; omega
 have e2 : IntKind.i64.wrap ((p : Int) + 2) = (Q : Int) := by rw [IntWalk.i64_in _ (by omega)]; omega
 have e0 : IntKind.i64.wrap (l.length : Int) = ((l.length : Nat) : Int) := IntWalk.i64_in _ (by omega)
 have e3 : IntKind.i64.wrap (p : Int) = (p : Int) := IntWalk.i64_in _ (by omega)
 have d1 : decide ((D : Int) < (p : Int)) = false := decide_eq_false (by omega)
 have d2 : decide (D < p) = false := decide_eq_false (by omega)
 have d3 : decide ((p : Int) < 0) = false := decide_eq_false (by omega)
 have r0 := hr (atD 0 l (p : Int)) (atD_mem (by omega))
 have r1 := hr (atD 0 l ((p + 1 : Nat) : Int)) (atD_mem (by omega))
 have hsg : (l.take Q).drop p = [atD 0 l (p : Int), atD 0 l ((p + 1 : Nat) : Int)] := by rw [hQ]; exact seg2 (by omega)
 have CI2 : ∀ V, Ints V a c l → Ints V ad (c - p) [atD 0 l (p : Int), atD 0 l ((p + 1 : Nat) : Int)] := fun V h => by rw [← hsg]; exact CI V h
 obtain ⟨X0, hX0⟩ : ∃ x, x = atD 0 l (p : Int) := ⟨_, rfl⟩
 rw [← hX0] at hfit r0 CI2
 try rw [← hX0]
 obtain ⟨X1, hX1⟩ : ∃ x, x = atD 0 l ((p + 1 : Nat) : Int) := ⟨_, rfl⟩
 rw [← hX1] at hfit r1 CI2
 try rw [← hX1]
 rw [show p + 2 = Q from hQ.symm]
 have HF : Hid (∀ W, Ints W a c l → Calls Tryz.prog 111 #[.slice ad 2 (c - p)] W fun r w' => r = .returned (.bool true) ∧ Below W.heap.size W w') := hid fun W h => by
  have h3 := kd5_any ad (c - p) X0 X1 W (CI2 W h) ⟨r0.1, r0.2.1⟩ ⟨r1.1, r1.2.1⟩
  rwa [decide_eq_true hfit] at h3
 have HM := hid (fun W (h : Ints W a c l) => kd6_any ad (c - p) X0 X1 _ W (CI2 W h) kSwp p 0 rfl)
 have HR : Hid (∀ {B : Nat} {w0 W : World} {G cp H mc : Nat}, SL B w0 W [pOwn cInt 1 3 (.slice (some ⟨G, 0, none⟩) l.length cp) l, pOwn cInt 1 3 (.slice (some ⟨H, 0, none⟩) 2 mc) ([X1, X0])] → Calls Tryz.prog 102 #[.slice (some ⟨G, 0, none⟩) l.length cp, .int .i64 p, .int .i64 Q, .slice (some ⟨H, 0, none⟩) 2 mc] W fun r w' => ∃ v, r = .returned v ∧ SL B w0 w' [pOwn cInt 1 3 v (l.take p ++ ([X1, X0] ++ l.drop Q))]) := hid fun h => repl_any h rfl rfl (by omega) (by omega) (by omega) (.inl (by omega))
 clear CW hcut CI CI2 hsg hfit hQ hD hX0 r0 hX1 r1
 have hb0 := bal (Below.refl w.heap.size w) (.cells #[.string kSwp, .int .i64 p, .int .i64 0] 84)
 have q0 := heap_alloc_new w (.cells #[.string kSwp, .int .i64 p, .int .i64 0] 84)
 obtain ⟨B0, hB0⟩ : ∃ B, B = w.heap.size := ⟨_, rfl⟩
 obtain ⟨w0, hw0⟩ : ∃ w0, w0 = w.alloc (.cells #[.string kSwp, .int .i64 p, .int .i64 0] 84) := ⟨_, rfl⟩
 rw [← hw0] at hb0 q0
 rw [← hB0] at q0
 go_enter Tryz.func82, Tryz.ntmps82
 go_wp2_with fail
 rw [← hB0, ← hw0]
 clear hB0 hw0
 have hlt0 : B0 < w0.heap.size := (Array.getElem?_eq_some_iff.1 q0).1
 have hc0 : w0.cell? ⟨B0, 0, none⟩ = some (.string kSwp) := by simp [World.cell?, q0]
 refine wp_regionK (C := Below (w0).heap.size (w0)) [1, 2] [_, _] 8 (by simp only [List.map_cons, List.map_nil, List.getElem?_toArray]; rfl) rfl kR kR kR ((Below.refl _ _).drew) ?_
 refine ⟨.pointer (some ⟨B0, 0, none⟩), yieldsK_val wU (fun w' => by first | (go_simp; done) | (go_simp; rfl)), ?_⟩
 go_frame
 refine ⟨_, yieldsK_cell F_str (hc0) wU wU, ?_⟩
 go_frame
 unfold wpPureK
 have hVd : ({ w0 with drawn := w0.drawn + 1 } : World) = w0.drew := rfl
 rw [hVd]
 have hbd : Below w0.heap.size w0 w0.drew := (Below.refl _ _).drew
 obtain ⟨w1, hw1⟩ : ∃ w1, w1 = w0.drew := ⟨_, rfl⟩
 rw [← hw1] at hbd ⊢
 clear hVd hw1
 refine wpAnyC_on [0, 7] kR (by simp) ?_
 simp only [List.forall_mem_cons, List.not_mem_nil, false_implies, implies_true, and_true]
 apply bothT (F := fun _ Q V => Below w0.heap.size w0 V ∧ V.heap[Q]? = some (.cells #[.int .i64 2, fnV 111, fnV 112] 140))
 case h =>
  intro key
  constructor
  ·refine wpOp_call (f := 101) (args := #[]) (by rw [List.getElem?_toArray]; rfl) wU (by first | (go_simp; done) | (simp [execOp, Act.eval, Result.andThen]; done) | (simp [execOp, Act.eval, Result.andThen]; rfl)) ?_
   refine (kinds_any _).mono ?_
   rintro e w2 ⟨k, rfl, hk, hkl, b2⟩
   have hb2 := bnext hbd b2
   have hkz : k < w2.heap.size := (Array.getElem?_eq_some_iff.1 hk).1
   refine ⟨_, rfl, hb2, ?_⟩
   go_frame
   refine wpAnyC_sub (C' := fun W => Below w0.heap.size w0 W ∧ W.heap[k]? = some mapK) (fun _ h => h.1) _ _ _ _ ?_
   refine wpAnyC_pure (g := 3) kR (fun c a w h => h) (⟨hb2, hk⟩) [3, 4, 5, 6] [_, _, _, _] _ _ (by simp only [List.map_cons, List.map_nil, List.getElem?_toArray]; rfl) kR ?_
   refine ⟨.tuple #[kV 2 111 112, .bool true], .inl ⟨by with_unfolding_all rfl, fun W hW => by simp [execOp, Act.eval, Act.put, lookK (i := 2) (s := kSwp) (v := kV 2 111 112) hW.2 wU, Result.andThen]⟩, ?_⟩
   go_frame
   refine ⟨.tuple #[kV 2 111 112, .bool true], .inl ⟨by with_unfolding_all rfl, fun w' _ => by with_unfolding_all exact rfl⟩, ?_⟩
   go_frame
   refine ⟨kV 2 111 112, .inl ⟨by with_unfolding_all rfl, fun w' _ => by first | (go_simp; done) | (go_simp; rfl) | (with_unfolding_all exact rfl)⟩, ?_⟩
   go_frame
   refine ⟨.bool true, .inl ⟨by with_unfolding_all rfl, fun w' _ => by first | (go_simp; done) | (go_simp; rfl) | (with_unfolding_all exact rfl)⟩, ?_⟩
   go_frame
   unfold wpPure
   refine wpAnyC_on [7] kR (by simp) ?_
   simp only [List.forall_mem_cons, List.not_mem_nil, false_implies, implies_true, and_true]
   have hSz := (SL.nil w2).box (.cells #[.int .i64 0, .nilFunc, .nilFunc] 140)
   refine wpOp_value (v := .pointer (some ⟨w2.heap.size, 0, none⟩)) (w' := w2.alloc (.cells #[.int .i64 0, .nilFunc, .nilFunc] 140)) (by rw [List.getElem?_toArray]; rfl) wU (by first | (go_simp; done) | (go_simp; rfl) | (simp [execOp, Act.eval, Result.andThen]; done)) ?_
   refine ⟨⟨bal hb2 _, by rw [hSz.b.block k hkz]; exact hk⟩, ?_⟩
   go_frame
   refine wpAnyC_on [8] kR (by simp) ?_
   simp only [List.forall_mem_cons, List.not_mem_nil, false_implies, implies_true, and_true]
   refine wpOp_of_list (by rw [List.getElem?_toArray]; rfl) ?_
   ((with_reducible refine wpList_stoR (us := #[.int .i64 2, fnV 111, fnV 112]) 0 wU wU (hSz) wU kR wU wU ?_); intro wa hSa)
   refine ⟨⟨bnext hb2 hSa.b, by rw [hSa.b.block k hkz]; exact hk⟩, ?_⟩
   go_frame
   refine wpAnyC_rest [9] [_] rfl (by simp only [List.map_cons, List.map_nil, List.getElem?_toArray]; rfl) kR kR kR (⟨bnext hb2 hSa.b, (by rw [hSa.b.block k hkz]; exact hk)⟩) ?_
   refine ⟨.bool true, .inl ⟨by with_unfolding_all rfl, fun w' _ => by first | (go_simp; done) | (go_simp; rfl) | (with_unfolding_all exact rfl)⟩, ?_⟩
   go_frame
   unfold wpPure
   refine of_wpList_nil (P := Tryz.prog) (ops := #[]) ?_
   have f1 := bnext hb2 hSa.b
   have f2 := (hSa.blk 0 rfl).1
   clear hSz hSa
   revert f1 f2
   generalize w2.heap.size = G8
   intro f1 f2
   exact key k G8 wa ⟨f1, f2⟩
  ·have hSz := (SL.nil w1).box (.cells #[.int .i64 0, .nilFunc, .nilFunc] 140)
   refine wpOp_value (v := .pointer (some ⟨w1.heap.size, 0, none⟩)) (w' := w1.alloc (.cells #[.int .i64 0, .nilFunc, .nilFunc] 140)) (by rw [List.getElem?_toArray]; rfl) wU (by first | (go_simp; done) | (go_simp; rfl) | (simp [execOp, Act.eval, Result.andThen]; done)) ?_
   refine ⟨bal hbd _, ?_⟩
   go_frame
   refine wpAnyC_on [0] kR (by simp) ?_
   simp only [List.forall_mem_cons, List.not_mem_nil, false_implies, implies_true, and_true]
   refine wpOp_call (f := 101) (args := #[]) (by rw [List.getElem?_toArray]; rfl) wU (by first | (go_simp; done) | (simp [execOp, Act.eval, Result.andThen]; done) | (simp [execOp, Act.eval, Result.andThen]; rfl)) ?_
   refine (kinds_any _).mono ?_
   rintro e w2 ⟨k, rfl, hk, hkl, b2⟩
   have hb2 := bnext (bal hbd (.cells #[.int .i64 0, .nilFunc, .nilFunc] 140)) b2
   have hkz : k < w2.heap.size := (Array.getElem?_eq_some_iff.1 hk).1
   refine ⟨_, rfl, hb2, ?_⟩
   go_frame
   have hSy := hSz.call ((SL.nil _).new (pBlk k mapK) (grown_of_below b2) (b := some k) ⟨rfl, hk⟩ (fun j hj => by cases hj; exact hkl))
   refine wpAnyC_sub (C' := fun W => Below w0.heap.size w0 W ∧ W.heap[k]? = some mapK) (fun _ h => h.1) _ _ _ _ ?_
   refine wpAnyC_pure (g := 2) kR (fun c a w h => h) (⟨hb2, hk⟩) [3, 4, 5, 6] [_, _, _, _] _ _ (by simp only [List.map_cons, List.map_nil, List.getElem?_toArray]; rfl) kR ?_
   refine ⟨.tuple #[kV 2 111 112, .bool true], .inl ⟨by with_unfolding_all rfl, fun W hW => by simp [execOp, Act.eval, Act.put, lookK (i := 2) (s := kSwp) (v := kV 2 111 112) hW.2 wU, Result.andThen]⟩, ?_⟩
   go_frame
   refine ⟨.tuple #[kV 2 111 112, .bool true], .inl ⟨by with_unfolding_all rfl, fun w' _ => by with_unfolding_all exact rfl⟩, ?_⟩
   go_frame
   refine ⟨kV 2 111 112, .inl ⟨by with_unfolding_all rfl, fun w' _ => by first | (go_simp; done) | (go_simp; rfl) | (with_unfolding_all exact rfl)⟩, ?_⟩
   go_frame
   refine ⟨.bool true, .inl ⟨by with_unfolding_all rfl, fun w' _ => by first | (go_simp; done) | (go_simp; rfl) | (with_unfolding_all exact rfl)⟩, ?_⟩
   go_frame
   unfold wpPure
   refine wpAnyC_on [8] kR (by simp) ?_
   simp only [List.forall_mem_cons, List.not_mem_nil, false_implies, implies_true, and_true]
   refine wpOp_of_list (by rw [List.getElem?_toArray]; rfl) ?_
   ((with_reducible refine wpList_stoR (us := #[.int .i64 2, fnV 111, fnV 112]) 1 wU wU (hSy) wU kR wU wU ?_); intro wa hSa)
   have hka := (hSa.blk 0 rfl).1
   refine ⟨⟨bnext hbd hSa.b, hka⟩, ?_⟩
   go_frame
   refine wpAnyC_rest [9] [_] rfl (by simp only [List.map_cons, List.map_nil, List.getElem?_toArray]; rfl) kR kR kR (⟨bnext hbd hSa.b, hka⟩) ?_
   refine ⟨.bool true, .inl ⟨by with_unfolding_all rfl, fun w' _ => by first | (go_simp; done) | (go_simp; rfl) | (with_unfolding_all exact rfl)⟩, ?_⟩
   go_frame
   unfold wpPure
   refine of_wpList_nil (P := Tryz.prog) (ops := #[]) ?_
   have f1 := bnext hbd hSa.b
   have f2 := (hSa.blk 1 rfl).1
   clear hSz hSa hSy hkl
   revert f1 f2
   generalize w1.heap.size = G8
   intro f1 f2
   exact key k G8 wa ⟨f1, f2⟩
 case k =>
  rintro k P8 w3 ⟨hb3, q8⟩
  clear hc0 hbd
  have q3 := (hb3.block B0 hlt0).trans q0
  have t3 := bnext hb0 hb3
  clear hb0 hb3 q0 hlt0
  simp only [fnV] at q8
  go_wp2_with (first | (with_reducible refine wpList_ldB F_str wU wU (by assumption) wU ?_) | (with_reducible refine wpList_ldB F_int wU wU (by assumption) wU ?_))
  refine wp_region_qt 33 kR kR ?_
  simp only [List.take_succ_cons, List.take_zero, List.drop_succ_cons, List.drop_zero]
  repeat (first | ((with_reducible refine wpQ_skip wU ?_); (try simp only [Act.put, pA, pB, pC])) | ((refine wpB_call (.int .i64 0) wU (fun w' => ?_) (fun w' hw' => HW.out 13 w') ?_); (focus (go_simp; done)); (try simp only [Act.put, pA, pB, pC])) | ((refine wpB_call (.int .i64 0) wU (fun w' => ?_) (fun w' hw' => HW.out 1 w') ?_); (focus (go_simp; done)); (try simp only [Act.put, pA, pB, pC])) | ((refine wpB_call (.int .i64 0) wU (fun w' => ?_) (fun w' hw' => HW.out 3 w') ?_); (focus (go_simp; done)); (try simp only [Act.put, pA, pB, pC])) | ((refine wpB_call (.bool false) wU (fun w' => ?_) (fun w' hw' => HO.out w') ?_); (focus (go_simp; done)); (try simp only [Act.put, pA, pB, pC])) | ((with_reducible refine wpB_load (v := .int .i64 x) F_int wU wU (by assumption) wU ?_); (try simp only [Act.put, pA, pB, pC])) | ((with_reducible refine wpB_load (v := .int .i64 p) F_int wU wU (by assumption) wU ?_); (try simp only [Act.put, pA, pB, pC])) | ((with_reducible refine wpB_load (v := .int .i64 2) F_int wU wU (by assumption) wU ?_); (try simp only [Act.put, pA, pB, pC])) | (((refine wpQ_oneG ?_ wU (fun w' => ?_) ?_); rotate_left; (go_simp; rfl); (try simp only [Act.put, pA, pB, pC])); first | rw [e1] | rw [e0] | rw [d1] | rw [d3] | skip) |  ((with_reducible refine wpB_load (by first | exact F_int | fail) wU wU (by assumption) wU ?_); (try simp only [Act.put, pA, pB, pC])) | ((with_reducible refine wpB_loadS (n := 2) (us := #[_, _]) (by fail) kR wU wU (by assumption) wU wU ?_); (try simp only [Act.put, pA, pB, pC])) | ((with_reducible refine wpB_loadS (n := 4) (us := #[_, _, _, _]) (by fail) kR wU wU (by assumption) wU wU ?_); (try simp only [Act.put, pA, pB, pC])) | ((refine wpQ_oneG ?_ wU (fun w' => ?_) ?_); rotate_left; (go_simp; rfl); (try simp only [Act.put, pA, pB, pC])))
  refine wpQuiet_nil ?_
  intro w4 hb4
  have q4 := (hb4.block B0 (Array.getElem?_eq_some_iff.1 q3).1).trans q3
  have p4 := (hb4.block P8 (Array.getElem?_eq_some_iff.1 q8).1).trans q8
  have t4 := bnext t3 hb4
  clear t3 hb4 q3 q8
  go_wp2_with fail
  have b5 := bal (Below.refl w4.heap.size w4) (.cells #[.int .i64 0, .int .i64 0, .int .i64 0, .int .i64 0] 28)
  have HR5 : Ints (w4.alloc (.cells #[.int .i64 0, .int .i64 0, .int .i64 0, .int .i64 0] 28)) (some ⟨w4.heap.size, 0, none⟩) 4 [0, 0, 0, 0] := reps_newN (w := w4) cIntS [0, 0, 0, 0] 4 rfl (by decide) #[.int .i64 0, .int .i64 0, .int .i64 0, .int .i64 0] (0, 0) rfl rfl
  obtain ⟨w5, hw5⟩ : ∃ w5, w5 = w4.alloc (.cells #[.int .i64 0, .int .i64 0, .int .i64 0, .int .i64 0] 28) := ⟨_, rfl⟩
  rw [← hw5] at b5 HR5 ⊢
  refine (bfirst_any _ _ [0, 0, 0, 0] _ HR5).mono ?_
  rintro e w5' ⟨rfl, rfl⟩
  have q5 := (b5.block B0 (Array.getElem?_eq_some_iff.1 q4).1).trans q4
  have p5 := (b5.block P8 (Array.getElem?_eq_some_iff.1 p4).1).trans p4
  have t5 := bnext t4 b5
  have e9 : firstE [0, 0, 0, 0] = 0 := rfl
  rw [e9]
  clear hw5 HR5 b5 t4 q4 p4 e9
  go_wp2_with (first | (with_reducible refine wpList_ldB (v := .int .i64 p) F_int wU wU (by assumption) wU ?_) | (with_reducible refine wpList_ldB (v := .int .i64 2) F_int wU wU (by assumption) wU ?_) | (with_reducible refine wpList_ldB F_fit wU wU (by assumption) wU ?_))
  refine (HF.out w5 (hS.below t5)).mono ?_
  rintro e w6 ⟨rfl, b6⟩
  have q6 := (b6.block B0 (Array.getElem?_eq_some_iff.1 q5).1).trans q5
  have p6 := (b6.block P8 (Array.getElem?_eq_some_iff.1 p5).1).trans p5
  have t6 := bnext t5 b6
  clear t5 q5 p5 b6
  have g1 : w6.cell? ⟨B0, 1, none⟩ = some (.int .i64 p) := by simp [World.cell?, q6]
  have g2 : w6.cell? ⟨P8, 0, none⟩ = some (.int .i64 2) := by simp [World.cell?, p6]
  have g3 : w6.cell? ⟨P8, 2, none⟩ = some (.func (.func 112) #[] #[]) := by simp [World.cell?, p6]
  go_wp2_with fail
  refine wp_regionK (C := Below (w6).heap.size (w6)) [0, 2, 3, 4, 5, 6, 7, 8, 9, 10, 11, 12] [_, _, _, _, _, _, _, _, _, _, _, _] 5 (by simp only [List.map_cons, List.map_nil, List.getElem?_toArray]; rfl) rfl kR kR kR ((Below.refl _ _).drew) ?_
  refine ⟨.slice a l.length c, yieldsK_val wU (fun w' => by first | (go_simp; done) | (go_simp; rfl)), ?_⟩
  go_frame
  refine ⟨.pointer (some ⟨B0, 1, none⟩), yieldsK_val wU (fun w' => by first | (go_simp; done) | (go_simp; rfl)), ?_⟩
  go_frame
  refine ⟨_, yieldsK_cell F_int (g1) wU wU, ?_⟩
  go_frame
  refine ⟨.pointer (some ⟨B0, 1, none⟩), yieldsK_val wU (fun w' => by first | (go_simp; done) | (go_simp; rfl)), ?_⟩
  go_frame
  refine ⟨_, yieldsK_cell F_int (g1) wU wU, ?_⟩
  go_frame
  refine ⟨.pointer (some ⟨P8, 0, none⟩), yieldsK_val wU (fun w' => by first | (go_simp; done) | (go_simp; rfl)), ?_⟩
  go_frame
  refine ⟨_, yieldsK_cell F_int (g2) wU wU, ?_⟩
  go_frame
  refine ⟨.int .i64 Q, yieldsK_val wU (fun w' => by first | (go_simp; done) | (go_simp; rfl)), ?_⟩
  go_frame
  refine ⟨.pointer (some ⟨P8, 2, none⟩), yieldsK_val wU (fun w' => by first | (go_simp; done) | (go_simp; rfl)), ?_⟩
  go_frame
  refine ⟨_, yieldsK_cell F_mak (g3) wU wU, ?_⟩
  go_frame
  refine ⟨.slice ad 2 (c - p), yieldsK_val wU (fun w' => by first | (go_simp; done) | (go_simp; rfl)), ?_⟩
  go_frame
  refine ⟨.agg #[.string kSwp, .int .i64 p, .int .i64 0], yieldsK_blk A_move kR q6 rfl wU wU, ?_⟩
  go_frame
  unfold wpPureK
  have hVd : ({ w6 with drawn := w6.drawn + 1 } : World) = w6.drew := rfl
  rw [hVd]
  have b7 : Below w6.heap.size w6 w6.drew := (Below.refl _ _).drew
  obtain ⟨w7, hw7⟩ : ∃ w7, w7 = w6.drew := ⟨_, rfl⟩
  rw [← hw7] at b7 ⊢
  have t7 := bnext t6 b7
  clear hVd hw7 q6 p6 g1 g2 g3
  refine wpAnyC_on [1] kR (by simp) ?_
  simp only [List.forall_mem_cons, List.not_mem_nil, false_implies, implies_true, and_true]
  refine wpOp_call (f := 40) (args := #[.slice a l.length c]) (by rw [List.getElem?_toArray]; rfl) wU (by first | (go_simp; done) | (simp [execOp, Act.eval, Result.andThen]; done) | (simp [execOp, Act.eval, Result.andThen]; rfl)) ?_
  refine (Clone_any a c l _ (hS.below t7) (by omega) hz).mono ?_
  rintro e w8 ⟨v8, rfl, ho8, b8⟩
  obtain ⟨G, cp, rfl⟩ := own_some ho8 hz
  refine ⟨_, rfl, bnext b7 b8, ?_⟩
  go_frame
  refine wpAnyC_on [13] kR (by simp) ?_
  simp only [List.forall_mem_cons, List.not_mem_nil, false_implies, implies_true, and_true]
  refine wpOp_call (f := 112) (args := #[.slice ad 2 (c - p), .agg #[.string kSwp, .int .i64 p, .int .i64 0]]) (by rw [List.getElem?_toArray]; rfl) wU (by first | (go_simp; done) | (simp [execOp, Act.eval, Result.andThen]; done) | (simp [execOp, Act.eval, Result.andThen]; rfl)) ?_
  refine (HM.out _ (hS.below (bnext t7 b8))).mono ?_
  rintro e w9 ⟨H9, c9, rfl, ho9, b9⟩
  refine ⟨_, rfl, bnext (bnext b7 b8) b9, ?_⟩
  go_frame
  have hS9 := ((SL.ofOwn ho8 b8).call (SL.ofOwn ho9 b9)).pick [1, 0] (by decide) [pOwn cInt 1 3 (.slice (some ⟨G, 0, none⟩) l.length cp) l, pOwn cInt 1 3 (.slice (some ⟨H9, 0, none⟩) 2 c9) ([X1, X0])] rfl
  clear ho8 b8 b9
  refine wpAnyC_on [14] kR (by simp) ?_
  simp only [List.forall_mem_cons, List.not_mem_nil, false_implies, implies_true, and_true]
  refine wpOp_call (f := 102) (args := #[.slice (some ⟨G, 0, none⟩) l.length cp, .int .i64 p, .int .i64 Q, .slice (some ⟨H9, 0, none⟩) 2 c9]) (by rw [List.getElem?_toArray]; rfl) wU (by first | (go_simp; done) | (simp [execOp, Act.eval, Result.andThen]; done) | (simp [execOp, Act.eval, Result.andThen]; rfl)) ?_
  refine (HR.out hS9).mono ?_
  rintro e w10 ⟨v10, rfl, hS10⟩
  refine ⟨_, rfl, bnext b7 hS10.b, ?_⟩
  go_frame
  refine wpAnyC_rest [15, 16] [_, _] rfl (by simp only [List.map_cons, List.map_nil, List.getElem?_toArray]; rfl) kR kR kR (bnext b7 hS10.b) ?_
  refine ⟨v10, .inl ⟨by with_unfolding_all rfl, fun w' _ => by first | (go_simp; done) | (go_simp; rfl) | (with_unfolding_all exact rfl)⟩, ?_⟩
  go_frame
  refine ⟨.int .i64 0, .inl ⟨by with_unfolding_all rfl, fun w' _ => by first | (go_simp; done) | (go_simp; rfl) | (with_unfolding_all exact rfl)⟩, ?_⟩
  go_frame
  unfold wpPure
  refine of_wpList_nil (P := Tryz.prog) (ops := #[]) ?_
  go_wp2_with fail
  go_ret2
  exact ⟨v10, rfl, (hS10.own 0 rfl).mono t7.size, bnext t7 hS10.b⟩
theorem ap_tur (n p : Nat) (a : Option Addr) (c : Nat) (l : List Int) (w : World) (hS : Ints w a c l) (hl : l.length ≤ 900) (hz : 0 < l.length) (hn : 1 ≤ n ∧ n ≤ 12) (hr : ∀ y ∈ l, -1000 ≤ y ∧ y ≤ 1000 ∧ y ≠ 0) (hp : p + 3 ≤ l.length) (hfit : turnB (atD 0 l (p : Int)) (atD 0 l ((p + 1 : Nat) : Int)) (atD 0 l ((p + 2 : Nat) : Int)) = true) :
  Calls Tryz.prog 82 #[.int .i64 n, .slice a l.length c, .agg #[.string kTur, .int .i64 p, .int .i64 0]] w fun r w' => ∃ v, r = .returned (.tuple #[v, .int .i64 0]) ∧ OwnI w.heap.size w' v (l.take p ++ (turnL (atD 0 l (p : Int)) (atD 0 l ((p + 1 : Nat) : Int)) (atD 0 l ((p + 2 : Nat) : Int)) ++ l.drop (p + 3))) ∧ Below w.heap.size w w' := by
 have hkd : (kTur.toList == [105, 110, 115, 101, 114, 116]) = false := by decide +kernel
 have CW : ∀ (e : Int) W, Calls Tryz.prog 39 #[.bool false, .int .i64 e] W fun r w' => r = .returned (.int .i64 0) ∧ Below W.heap.size W w' := fun e W => calls_below (bwhen_any false e W)
 have HW := hid CW
 have hcap := hS.le
 have hmx := hS.max
 obtain ⟨Q, hQ⟩ : ∃ Q, Q = p + 3 := ⟨_, rfl⟩
 obtain ⟨D, hD⟩ : ∃ D, D = l.length - 3 := ⟨_, rfl⟩
 obtain ⟨ad, hcut⟩ := cutW (a := a) (c := c) (n := l.length) (p := p) (q := Q) (by omega) (by omega) hcap (D := 3) (by omega)
 have q1 := fun V => (hcut V).1
 have CI := fun V (h : Ints V a c l) => (hcut V).2 l rfl h
 have e1 : IntKind.i64.wrap ((l.length : Int) - 3) = (D : Int) := by rw [IntWalk.i64_in _ (by omega)]; omega
 have e2 : IntKind.i64.wrap ((p : Int) + 3) = (Q : Int) := by rw [IntWalk.i64_in _ (by omega)]; omega
 have e0 : IntKind.i64.wrap (l.length : Int) = ((l.length : Nat) : Int) := IntWalk.i64_in _ (by omega)
 have e3 : IntKind.i64.wrap (p : Int) = (p : Int) := IntWalk.i64_in _ (by omega)
 have d1 : decide ((D : Int) < (p : Int)) = false := decide_eq_false (by omega)
 have d2 : decide (D < p) = false := decide_eq_false (by omega)
 have d3 : decide ((p : Int) < 0) = false := decide_eq_false (by omega)
 have r0 := hr (atD 0 l (p : Int)) (atD_mem (by omega))
 have r1 := hr (atD 0 l ((p + 1 : Nat) : Int)) (atD_mem (by omega))
 have r2 := hr (atD 0 l ((p + 2 : Nat) : Int)) (atD_mem (by omega))
 have hsg : (l.take Q).drop p = [atD 0 l (p : Int), atD 0 l ((p + 1 : Nat) : Int), atD 0 l ((p + 2 : Nat) : Int)] := by rw [hQ]; exact seg3 (by omega)
 have CI2 : ∀ V, Ints V a c l → Ints V ad (c - p) [atD 0 l (p : Int), atD 0 l ((p + 1 : Nat) : Int), atD 0 l ((p + 2 : Nat) : Int)] := fun V h => by rw [← hsg]; exact CI V h
 obtain ⟨X0, hX0⟩ : ∃ x, x = atD 0 l (p : Int) := ⟨_, rfl⟩
 rw [← hX0] at hfit r0 CI2
 try rw [← hX0]
 obtain ⟨X1, hX1⟩ : ∃ x, x = atD 0 l ((p + 1 : Nat) : Int) := ⟨_, rfl⟩
 rw [← hX1] at hfit r1 CI2
 try rw [← hX1]
 obtain ⟨X2, hX2⟩ : ∃ x, x = atD 0 l ((p + 2 : Nat) : Int) := ⟨_, rfl⟩
 rw [← hX2] at hfit r2 CI2
 try rw [← hX2]
 rw [show p + 3 = Q from hQ.symm]
 have HF : Hid (∀ W, Ints W a c l → Calls Tryz.prog 113 #[.slice ad 3 (c - p)] W fun r w' => r = .returned (.bool true) ∧ Below W.heap.size W w') := hid fun W h => by
  have h3 := btTurns_any ad (c - p) X0 X1 X2 W (CI2 W h) r0 r1 r2 hfit
  exact h3
 have HM := hid (fun W (h : Ints W a c l) => btTurned_any ad (c - p) X0 X1 X2 _ W (CI2 W h) r0.2.2 r1 r2.2.2 kTur p 0 rfl)
 have HR : Hid (∀ {B : Nat} {w0 W : World} {G cp H mc : Nat}, SL B w0 W [pOwn cInt 1 3 (.slice (some ⟨G, 0, none⟩) l.length cp) l, pOwn cInt 1 3 (.slice (some ⟨H, 0, none⟩) 3 mc) (turnL X0 X1 X2)] → Calls Tryz.prog 102 #[.slice (some ⟨G, 0, none⟩) l.length cp, .int .i64 p, .int .i64 Q, .slice (some ⟨H, 0, none⟩) 3 mc] W fun r w' => ∃ v, r = .returned v ∧ SL B w0 w' [pOwn cInt 1 3 v (l.take p ++ (turnL X0 X1 X2 ++ l.drop Q))]) := hid fun h => repl_any h rfl (turnL_len _ _ _) (by omega) (by omega) (by omega) (.inl (by omega))
 clear CW hcut CI CI2 hsg hfit hQ hD hX0 r0 hX1 r1 hX2 r2
 have hb0 := bal (Below.refl w.heap.size w) (.cells #[.string kTur, .int .i64 p, .int .i64 0] 84)
 have q0 := heap_alloc_new w (.cells #[.string kTur, .int .i64 p, .int .i64 0] 84)
 obtain ⟨B0, hB0⟩ : ∃ B, B = w.heap.size := ⟨_, rfl⟩
 obtain ⟨w0, hw0⟩ : ∃ w0, w0 = w.alloc (.cells #[.string kTur, .int .i64 p, .int .i64 0] 84) := ⟨_, rfl⟩
 rw [← hw0] at hb0 q0
 rw [← hB0] at q0
 go_enter Tryz.func82, Tryz.ntmps82
 go_wp2_with fail
 rw [← hB0, ← hw0]
 clear hB0 hw0
 have hlt0 : B0 < w0.heap.size := (Array.getElem?_eq_some_iff.1 q0).1
 have hc0 : w0.cell? ⟨B0, 0, none⟩ = some (.string kTur) := by simp [World.cell?, q0]
 refine wp_regionK (C := Below (w0).heap.size (w0)) [1, 2] [_, _] 8 (by simp only [List.map_cons, List.map_nil, List.getElem?_toArray]; rfl) rfl kR kR kR ((Below.refl _ _).drew) ?_
 refine ⟨.pointer (some ⟨B0, 0, none⟩), yieldsK_val wU (fun w' => by first | (go_simp; done) | (go_simp; rfl)), ?_⟩
 go_frame
 refine ⟨_, yieldsK_cell F_str (hc0) wU wU, ?_⟩
 go_frame
 unfold wpPureK
 have hVd : ({ w0 with drawn := w0.drawn + 1 } : World) = w0.drew := rfl
 rw [hVd]
 have hbd : Below w0.heap.size w0 w0.drew := (Below.refl _ _).drew
 obtain ⟨w1, hw1⟩ : ∃ w1, w1 = w0.drew := ⟨_, rfl⟩
 rw [← hw1] at hbd ⊢
 clear hVd hw1
 refine wpAnyC_on [0, 7] kR (by simp) ?_
 simp only [List.forall_mem_cons, List.not_mem_nil, false_implies, implies_true, and_true]
 apply bothT (F := fun _ Q V => Below w0.heap.size w0 V ∧ V.heap[Q]? = some (.cells #[.int .i64 3, fnV 113, fnV 114] 140))
 case h =>
  intro key
  constructor
  ·refine wpOp_call (f := 101) (args := #[]) (by rw [List.getElem?_toArray]; rfl) wU (by first | (go_simp; done) | (simp [execOp, Act.eval, Result.andThen]; done) | (simp [execOp, Act.eval, Result.andThen]; rfl)) ?_
   refine (kinds_any _).mono ?_
   rintro e w2 ⟨k, rfl, hk, hkl, b2⟩
   have hb2 := bnext hbd b2
   have hkz : k < w2.heap.size := (Array.getElem?_eq_some_iff.1 hk).1
   refine ⟨_, rfl, hb2, ?_⟩
   go_frame
   refine wpAnyC_sub (C' := fun W => Below w0.heap.size w0 W ∧ W.heap[k]? = some mapK) (fun _ h => h.1) _ _ _ _ ?_
   refine wpAnyC_pure (g := 3) kR (fun c a w h => h) (⟨hb2, hk⟩) [3, 4, 5, 6] [_, _, _, _] _ _ (by simp only [List.map_cons, List.map_nil, List.getElem?_toArray]; rfl) kR ?_
   refine ⟨.tuple #[kV 3 113 114, .bool true], .inl ⟨by with_unfolding_all rfl, fun W hW => by simp [execOp, Act.eval, Act.put, lookK (i := 3) (s := kTur) (v := kV 3 113 114) hW.2 wU, Result.andThen]⟩, ?_⟩
   go_frame
   refine ⟨.tuple #[kV 3 113 114, .bool true], .inl ⟨by with_unfolding_all rfl, fun w' _ => by with_unfolding_all exact rfl⟩, ?_⟩
   go_frame
   refine ⟨kV 3 113 114, .inl ⟨by with_unfolding_all rfl, fun w' _ => by first | (go_simp; done) | (go_simp; rfl) | (with_unfolding_all exact rfl)⟩, ?_⟩
   go_frame
   refine ⟨.bool true, .inl ⟨by with_unfolding_all rfl, fun w' _ => by first | (go_simp; done) | (go_simp; rfl) | (with_unfolding_all exact rfl)⟩, ?_⟩
   go_frame
   unfold wpPure
   refine wpAnyC_on [7] kR (by simp) ?_
   simp only [List.forall_mem_cons, List.not_mem_nil, false_implies, implies_true, and_true]
   have hSz := (SL.nil w2).box (.cells #[.int .i64 0, .nilFunc, .nilFunc] 140)
   refine wpOp_value (v := .pointer (some ⟨w2.heap.size, 0, none⟩)) (w' := w2.alloc (.cells #[.int .i64 0, .nilFunc, .nilFunc] 140)) (by rw [List.getElem?_toArray]; rfl) wU (by first | (go_simp; done) | (go_simp; rfl) | (simp [execOp, Act.eval, Result.andThen]; done)) ?_
   refine ⟨⟨bal hb2 _, by rw [hSz.b.block k hkz]; exact hk⟩, ?_⟩
   go_frame
   refine wpAnyC_on [8] kR (by simp) ?_
   simp only [List.forall_mem_cons, List.not_mem_nil, false_implies, implies_true, and_true]
   refine wpOp_of_list (by rw [List.getElem?_toArray]; rfl) ?_
   ((with_reducible refine wpList_stoR (us := #[.int .i64 3, fnV 113, fnV 114]) 0 wU wU (hSz) wU kR wU wU ?_); intro wa hSa)
   refine ⟨⟨bnext hb2 hSa.b, by rw [hSa.b.block k hkz]; exact hk⟩, ?_⟩
   go_frame
   refine wpAnyC_rest [9] [_] rfl (by simp only [List.map_cons, List.map_nil, List.getElem?_toArray]; rfl) kR kR kR (⟨bnext hb2 hSa.b, (by rw [hSa.b.block k hkz]; exact hk)⟩) ?_
   refine ⟨.bool true, .inl ⟨by with_unfolding_all rfl, fun w' _ => by first | (go_simp; done) | (go_simp; rfl) | (with_unfolding_all exact rfl)⟩, ?_⟩
   go_frame
   unfold wpPure
   refine of_wpList_nil (P := Tryz.prog) (ops := #[]) ?_
   have f1 := bnext hb2 hSa.b
   have f2 := (hSa.blk 0 rfl).1
   clear hSz hSa
   revert f1 f2
   generalize w2.heap.size = G8
   intro f1 f2
   exact key k G8 wa ⟨f1, f2⟩
  ·have hSz := (SL.nil w1).box (.cells #[.int .i64 0, .nilFunc, .nilFunc] 140)
   refine wpOp_value (v := .pointer (some ⟨w1.heap.size, 0, none⟩)) (w' := w1.alloc (.cells #[.int .i64 0, .nilFunc, .nilFunc] 140)) (by rw [List.getElem?_toArray]; rfl) wU (by first | (go_simp; done) | (go_simp; rfl) | (simp [execOp, Act.eval, Result.andThen]; done)) ?_
   refine ⟨bal hbd _, ?_⟩
   go_frame
   refine wpAnyC_on [0] kR (by simp) ?_
   simp only [List.forall_mem_cons, List.not_mem_nil, false_implies, implies_true, and_true]
   refine wpOp_call (f := 101) (args := #[]) (by rw [List.getElem?_toArray]; rfl) wU (by first | (go_simp; done) | (simp [execOp, Act.eval, Result.andThen]; done) | (simp [execOp, Act.eval, Result.andThen]; rfl)) ?_
   refine (kinds_any _).mono ?_
   rintro e w2 ⟨k, rfl, hk, hkl, b2⟩
   have hb2 := bnext (bal hbd (.cells #[.int .i64 0, .nilFunc, .nilFunc] 140)) b2
   have hkz : k < w2.heap.size := (Array.getElem?_eq_some_iff.1 hk).1
   refine ⟨_, rfl, hb2, ?_⟩
   go_frame
   have hSy := hSz.call ((SL.nil _).new (pBlk k mapK) (grown_of_below b2) (b := some k) ⟨rfl, hk⟩ (fun j hj => by cases hj; exact hkl))
   refine wpAnyC_sub (C' := fun W => Below w0.heap.size w0 W ∧ W.heap[k]? = some mapK) (fun _ h => h.1) _ _ _ _ ?_
   refine wpAnyC_pure (g := 2) kR (fun c a w h => h) (⟨hb2, hk⟩) [3, 4, 5, 6] [_, _, _, _] _ _ (by simp only [List.map_cons, List.map_nil, List.getElem?_toArray]; rfl) kR ?_
   refine ⟨.tuple #[kV 3 113 114, .bool true], .inl ⟨by with_unfolding_all rfl, fun W hW => by simp [execOp, Act.eval, Act.put, lookK (i := 3) (s := kTur) (v := kV 3 113 114) hW.2 wU, Result.andThen]⟩, ?_⟩
   go_frame
   refine ⟨.tuple #[kV 3 113 114, .bool true], .inl ⟨by with_unfolding_all rfl, fun w' _ => by with_unfolding_all exact rfl⟩, ?_⟩
   go_frame
   refine ⟨kV 3 113 114, .inl ⟨by with_unfolding_all rfl, fun w' _ => by first | (go_simp; done) | (go_simp; rfl) | (with_unfolding_all exact rfl)⟩, ?_⟩
   go_frame
   refine ⟨.bool true, .inl ⟨by with_unfolding_all rfl, fun w' _ => by first | (go_simp; done) | (go_simp; rfl) | (with_unfolding_all exact rfl)⟩, ?_⟩
   go_frame
   unfold wpPure
   refine wpAnyC_on [8] kR (by simp) ?_
   simp only [List.forall_mem_cons, List.not_mem_nil, false_implies, implies_true, and_true]
   refine wpOp_of_list (by rw [List.getElem?_toArray]; rfl) ?_
   ((with_reducible refine wpList_stoR (us := #[.int .i64 3, fnV 113, fnV 114]) 1 wU wU (hSy) wU kR wU wU ?_); intro wa hSa)
   have hka := (hSa.blk 0 rfl).1
   refine ⟨⟨bnext hbd hSa.b, hka⟩, ?_⟩
   go_frame
   refine wpAnyC_rest [9] [_] rfl (by simp only [List.map_cons, List.map_nil, List.getElem?_toArray]; rfl) kR kR kR (⟨bnext hbd hSa.b, hka⟩) ?_
   refine ⟨.bool true, .inl ⟨by with_unfolding_all rfl, fun w' _ => by first | (go_simp; done) | (go_simp; rfl) | (with_unfolding_all exact rfl)⟩, ?_⟩
   go_frame
   unfold wpPure
   refine of_wpList_nil (P := Tryz.prog) (ops := #[]) ?_
   have f1 := bnext hbd hSa.b
   have f2 := (hSa.blk 1 rfl).1
   clear hSz hSa hSy hkl
   revert f1 f2
   generalize w1.heap.size = G8
   intro f1 f2
   exact key k G8 wa ⟨f1, f2⟩
 case k =>
  rintro k P8 w3 ⟨hb3, q8⟩
  clear hc0 hbd
  have q3 := (hb3.block B0 hlt0).trans q0
  have t3 := bnext hb0 hb3
  clear hb0 hb3 q0 hlt0
  simp only [fnV] at q8
  go_wp2_with (first | (with_reducible refine wpList_ldB F_str wU wU (by assumption) wU ?_) | (with_reducible refine wpList_ldB F_int wU wU (by assumption) wU ?_))
  refine wp_region_qt 33 kR kR ?_
  simp only [List.take_succ_cons, List.take_zero, List.drop_succ_cons, List.drop_zero]
  repeat (first | ((with_reducible refine wpQ_skip wU ?_); (try simp only [Act.put, pA, pB, pC])) | ((refine wpB_call (.int .i64 0) wU (fun w' => ?_) (fun w' hw' => HW.out 13 w') ?_); (focus (go_simp; done)); (try simp only [Act.put, pA, pB, pC])) | ((refine wpB_call (.int .i64 0) wU (fun w' => ?_) (fun w' hw' => HW.out 1 w') ?_); (focus (go_simp; done)); (try simp only [Act.put, pA, pB, pC])) | ((refine wpB_call (.int .i64 0) wU (fun w' => ?_) (fun w' hw' => HW.out 3 w') ?_); (focus (go_simp; done)); (try simp only [Act.put, pA, pB, pC])) | ((refine wpB_call (.bool false) wU (fun w' => ?_) (fun w' hw' => HO.out w') ?_); (focus (go_simp; done)); (try simp only [Act.put, pA, pB, pC])) | ((with_reducible refine wpB_load (v := .int .i64 x) F_int wU wU (by assumption) wU ?_); (try simp only [Act.put, pA, pB, pC])) | ((with_reducible refine wpB_load (v := .int .i64 p) F_int wU wU (by assumption) wU ?_); (try simp only [Act.put, pA, pB, pC])) | ((with_reducible refine wpB_load (v := .int .i64 3) F_int wU wU (by assumption) wU ?_); (try simp only [Act.put, pA, pB, pC])) | (((refine wpQ_oneG ?_ wU (fun w' => ?_) ?_); rotate_left; (go_simp; rfl); (try simp only [Act.put, pA, pB, pC])); first | rw [e1] | rw [e0] | rw [d1] | rw [d3] | skip) |  ((with_reducible refine wpB_load (by first | exact F_int | fail) wU wU (by assumption) wU ?_); (try simp only [Act.put, pA, pB, pC])) | ((with_reducible refine wpB_loadS (n := 2) (us := #[_, _]) (by fail) kR wU wU (by assumption) wU wU ?_); (try simp only [Act.put, pA, pB, pC])) | ((with_reducible refine wpB_loadS (n := 4) (us := #[_, _, _, _]) (by fail) kR wU wU (by assumption) wU wU ?_); (try simp only [Act.put, pA, pB, pC])) | ((refine wpQ_oneG ?_ wU (fun w' => ?_) ?_); rotate_left; (go_simp; rfl); (try simp only [Act.put, pA, pB, pC])))
  refine wpQuiet_nil ?_
  intro w4 hb4
  have q4 := (hb4.block B0 (Array.getElem?_eq_some_iff.1 q3).1).trans q3
  have p4 := (hb4.block P8 (Array.getElem?_eq_some_iff.1 q8).1).trans q8
  have t4 := bnext t3 hb4
  clear t3 hb4 q3 q8
  go_wp2_with fail
  have b5 := bal (Below.refl w4.heap.size w4) (.cells #[.int .i64 0, .int .i64 0, .int .i64 0, .int .i64 0] 28)
  have HR5 : Ints (w4.alloc (.cells #[.int .i64 0, .int .i64 0, .int .i64 0, .int .i64 0] 28)) (some ⟨w4.heap.size, 0, none⟩) 4 [0, 0, 0, 0] := reps_newN (w := w4) cIntS [0, 0, 0, 0] 4 rfl (by decide) #[.int .i64 0, .int .i64 0, .int .i64 0, .int .i64 0] (0, 0) rfl rfl
  obtain ⟨w5, hw5⟩ : ∃ w5, w5 = w4.alloc (.cells #[.int .i64 0, .int .i64 0, .int .i64 0, .int .i64 0] 28) := ⟨_, rfl⟩
  rw [← hw5] at b5 HR5 ⊢
  refine (bfirst_any _ _ [0, 0, 0, 0] _ HR5).mono ?_
  rintro e w5' ⟨rfl, rfl⟩
  have q5 := (b5.block B0 (Array.getElem?_eq_some_iff.1 q4).1).trans q4
  have p5 := (b5.block P8 (Array.getElem?_eq_some_iff.1 p4).1).trans p4
  have t5 := bnext t4 b5
  have e9 : firstE [0, 0, 0, 0] = 0 := rfl
  rw [e9]
  clear hw5 HR5 b5 t4 q4 p4 e9
  go_wp2_with (first | (with_reducible refine wpList_ldB (v := .int .i64 p) F_int wU wU (by assumption) wU ?_) | (with_reducible refine wpList_ldB (v := .int .i64 3) F_int wU wU (by assumption) wU ?_) | (with_reducible refine wpList_ldB F_fit wU wU (by assumption) wU ?_))
  refine (HF.out w5 (hS.below t5)).mono ?_
  rintro e w6 ⟨rfl, b6⟩
  have q6 := (b6.block B0 (Array.getElem?_eq_some_iff.1 q5).1).trans q5
  have p6 := (b6.block P8 (Array.getElem?_eq_some_iff.1 p5).1).trans p5
  have t6 := bnext t5 b6
  clear t5 q5 p5 b6
  have g1 : w6.cell? ⟨B0, 1, none⟩ = some (.int .i64 p) := by simp [World.cell?, q6]
  have g2 : w6.cell? ⟨P8, 0, none⟩ = some (.int .i64 3) := by simp [World.cell?, p6]
  have g3 : w6.cell? ⟨P8, 2, none⟩ = some (.func (.func 114) #[] #[]) := by simp [World.cell?, p6]
  go_wp2_with fail
  refine wp_regionK (C := Below (w6).heap.size (w6)) [0, 2, 3, 4, 5, 6, 7, 8, 9, 10, 11, 12] [_, _, _, _, _, _, _, _, _, _, _, _] 5 (by simp only [List.map_cons, List.map_nil, List.getElem?_toArray]; rfl) rfl kR kR kR ((Below.refl _ _).drew) ?_
  refine ⟨.slice a l.length c, yieldsK_val wU (fun w' => by first | (go_simp; done) | (go_simp; rfl)), ?_⟩
  go_frame
  refine ⟨.pointer (some ⟨B0, 1, none⟩), yieldsK_val wU (fun w' => by first | (go_simp; done) | (go_simp; rfl)), ?_⟩
  go_frame
  refine ⟨_, yieldsK_cell F_int (g1) wU wU, ?_⟩
  go_frame
  refine ⟨.pointer (some ⟨B0, 1, none⟩), yieldsK_val wU (fun w' => by first | (go_simp; done) | (go_simp; rfl)), ?_⟩
  go_frame
  refine ⟨_, yieldsK_cell F_int (g1) wU wU, ?_⟩
  go_frame
  refine ⟨.pointer (some ⟨P8, 0, none⟩), yieldsK_val wU (fun w' => by first | (go_simp; done) | (go_simp; rfl)), ?_⟩
  go_frame
  refine ⟨_, yieldsK_cell F_int (g2) wU wU, ?_⟩
  go_frame
  refine ⟨.int .i64 Q, yieldsK_val wU (fun w' => by first | (go_simp; done) | (go_simp; rfl)), ?_⟩
  go_frame
  refine ⟨.pointer (some ⟨P8, 2, none⟩), yieldsK_val wU (fun w' => by first | (go_simp; done) | (go_simp; rfl)), ?_⟩
  go_frame
  refine ⟨_, yieldsK_cell F_mak (g3) wU wU, ?_⟩
  go_frame
  refine ⟨.slice ad 3 (c - p), yieldsK_val wU (fun w' => by first | (go_simp; done) | (go_simp; rfl)), ?_⟩
  go_frame
  refine ⟨.agg #[.string kTur, .int .i64 p, .int .i64 0], yieldsK_blk A_move kR q6 rfl wU wU, ?_⟩
  go_frame
  unfold wpPureK
  have hVd : ({ w6 with drawn := w6.drawn + 1 } : World) = w6.drew := rfl
  rw [hVd]
  have b7 : Below w6.heap.size w6 w6.drew := (Below.refl _ _).drew
  obtain ⟨w7, hw7⟩ : ∃ w7, w7 = w6.drew := ⟨_, rfl⟩
  rw [← hw7] at b7 ⊢
  have t7 := bnext t6 b7
  clear hVd hw7 q6 p6 g1 g2 g3
  refine wpAnyC_on [1] kR (by simp) ?_
  simp only [List.forall_mem_cons, List.not_mem_nil, false_implies, implies_true, and_true]
  refine wpOp_call (f := 40) (args := #[.slice a l.length c]) (by rw [List.getElem?_toArray]; rfl) wU (by first | (go_simp; done) | (simp [execOp, Act.eval, Result.andThen]; done) | (simp [execOp, Act.eval, Result.andThen]; rfl)) ?_
  refine (Clone_any a c l _ (hS.below t7) (by omega) hz).mono ?_
  rintro e w8 ⟨v8, rfl, ho8, b8⟩
  obtain ⟨G, cp, rfl⟩ := own_some ho8 hz
  refine ⟨_, rfl, bnext b7 b8, ?_⟩
  go_frame
  refine wpAnyC_on [13] kR (by simp) ?_
  simp only [List.forall_mem_cons, List.not_mem_nil, false_implies, implies_true, and_true]
  refine wpOp_call (f := 114) (args := #[.slice ad 3 (c - p), .agg #[.string kTur, .int .i64 p, .int .i64 0]]) (by rw [List.getElem?_toArray]; rfl) wU (by first | (go_simp; done) | (simp [execOp, Act.eval, Result.andThen]; done) | (simp [execOp, Act.eval, Result.andThen]; rfl)) ?_
  refine (HM.out _ (hS.below (bnext t7 b8))).mono ?_
  rintro e w9 ⟨H9, c9, rfl, ho9, b9⟩
  refine ⟨_, rfl, bnext (bnext b7 b8) b9, ?_⟩
  go_frame
  have hS9 := ((SL.ofOwn ho8 b8).call (SL.ofOwn ho9 b9)).pick [1, 0] (by decide) [pOwn cInt 1 3 (.slice (some ⟨G, 0, none⟩) l.length cp) l, pOwn cInt 1 3 (.slice (some ⟨H9, 0, none⟩) 3 c9) (turnL X0 X1 X2)] rfl
  clear ho8 b8 b9
  refine wpAnyC_on [14] kR (by simp) ?_
  simp only [List.forall_mem_cons, List.not_mem_nil, false_implies, implies_true, and_true]
  refine wpOp_call (f := 102) (args := #[.slice (some ⟨G, 0, none⟩) l.length cp, .int .i64 p, .int .i64 Q, .slice (some ⟨H9, 0, none⟩) 3 c9]) (by rw [List.getElem?_toArray]; rfl) wU (by first | (go_simp; done) | (simp [execOp, Act.eval, Result.andThen]; done) | (simp [execOp, Act.eval, Result.andThen]; rfl)) ?_
  refine (HR.out hS9).mono ?_
  rintro e w10 ⟨v10, rfl, hS10⟩
  refine ⟨_, rfl, bnext b7 hS10.b, ?_⟩
  go_frame
  refine wpAnyC_rest [15, 16] [_, _] rfl (by simp only [List.map_cons, List.map_nil, List.getElem?_toArray]; rfl) kR kR kR (bnext b7 hS10.b) ?_
  refine ⟨v10, .inl ⟨by with_unfolding_all rfl, fun w' _ => by first | (go_simp; done) | (go_simp; rfl) | (with_unfolding_all exact rfl)⟩, ?_⟩
  go_frame
  refine ⟨.int .i64 0, .inl ⟨by with_unfolding_all rfl, fun w' _ => by first | (go_simp; done) | (go_simp; rfl) | (with_unfolding_all exact rfl)⟩, ?_⟩
  go_frame
  unfold wpPure
  refine of_wpList_nil (P := Tryz.prog) (ops := #[]) ?_
  go_wp2_with fail
  go_ret2
  exact ⟨v10, rfl, (hS10.own 0 rfl).mono t7.size, bnext t7 hS10.b⟩
end Go.Proofs.YtdeoogbiipodmaaGreat
