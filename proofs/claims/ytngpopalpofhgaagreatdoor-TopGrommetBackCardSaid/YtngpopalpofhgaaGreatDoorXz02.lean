/- Contracts and plain facts that the claim uses (RlA PlB PnA Lib1 PaA PaB PrA). Conditions: as each one states. -/
import Derived.RangeFuncNested
import Derived.RangeFuncBound
import Derived.RangeFuncCalls
import Derived.RangeFuncLeaves
import Derived.RangeFuncFrom
import Derived.Shelf.Abstract
import Derived.Shelf.RegionOpen
import Derived.WalkKit
import Derived.OwnWalkIn
import Derived.TacticsInMore
import Derived.LoopNIn
import Derived.LoopIn
import Derived.Test.YtngpopalpofhgaaGreatDoorProg
import Derived.WalkSpells
import Derived.Maps.AppendAt
import Derived.Deep.Quiet
import Derived.Maps.Own
import Derived.Maps.OwnSet
import Derived.Maps.Views
import Derived.WalkLawsBesides
import Derived.Laws.EntriesVeiled
import Derived.Deep.QuietTactic
import Derived.BigQuiet
import Derived.StillTail
import Derived.Laws.Tables
import Derived.Deep.RegionHeld3
import Derived.Shelf.Strings.Trim
import Derived.Shelf.Strings.SlTrimAscii
import Derived.Shelf.Strings.Repeat
import Derived.Shelf.Strings.OnBuilder
import Derived.Shelf.Strconv.Itoa1
import Derived.Shelf.Strconv.Itoa3
import Derived.Shelf.LaysM
import Derived.Ground.Names2Prog
import Derived.Lib.OthersKept
import Derived.Deep.AppendLies
import Derived.Deep.RegionHeldLaw
import Derived.Deep.RegionLaw
import Derived.Test.YtngpopalpofhgaaGreatDoorXz01
set_option linter.all false

namespace Go.Proofs.YtngpopalpofhgaaGreatDoor
open Go.RowKit
section
variable {P : Program} {ops : Array Oper} {md : Region.Mode} {C : World → Prop}

def wpAnyLQ (P : Program) (md : Region.Mode) (ops : Array Oper) (C : World → Prop) (n : Nat) (L : Array Bool → Act → Prop) : Nat → Array Bool → Act → Prop
 | 0, listed, a => L listed a
 | f + 1, listed, a =>
  Region.ready md ops listed ≠ [] ∧ ∀ i ∈ Region.ready md ops listed, i < n ∧ qOp P ops C i (wpAnyLQ P md ops C n L f (listed.setIfInBounds i true)) a

theorem wpAny_of_headQ {n g : Nat} {L : Array Bool → Act → Prop} {Q' : Exit → Act → World → Prop} (hL : ∀ listed a w, C w → L listed a → wpAny P md ops Q' g listed a w) :
  ∀ (f : Nat) (listed : Array Bool) (a : Act) (w : World), C w → wpAnyLQ P md ops C n L f listed a → wpAny P md ops Q' (f + g) listed a w
 | 0, listed, a, w, hw, h => by rw [Nat.zero_add]; exact hL _ _ _ hw h
 | f + 1, listed, a, w, hw, h => by
   rw [show f + 1 + g = (f + g) + 1 by omega]
   exact ⟨fun h0 => absurd h0 h.1, fun i hi => wpOp_of_qOp hw (fun a' w' hw' h' => wpAny_of_headQ hL f _ a' w' hw' h') (h.2 i hi).2⟩

theorem wpAnyLQ_first {n i : Nat} {oi : Oper} {v : Value} {L : Array Bool → Act → Prop} (hi : ops[i]? = some oi) (hsel : ∀ (j : Nat) (o : Oper) cs b, ops[j]? = some o → o.op ≠ .select cs b)
  (hs : Region.sinkB md ops n = true) (hc : Region.chainB md ops n = true) (hn : n < ops.size) (hin : i < n)
  (hdone : ∀ listed a, L listed a → ∀ j ∈ Region.ready md ops listed, n ≤ j) :
  ∀ (f : Nat) (listed : Array Bool) (a : Act), HeadInv md ops n listed →
   (∀ j oj, ops[j]? = some oj → j ≠ i → listed.getD j true = false → (∀ e ∈ oj.after, Region.binds md e = true → e.on ≠ i) → oi.apart ops oj = true) →
   i ∈ Region.ready md ops listed → YieldsIn P ops C oi v a →
   wpAnyLQ P md ops C n L f (listed.setIfInBounds i true) (a.put oi.dst v) → wpAnyLQ P md ops C n L (f + 1) listed a := by
 intro f
 induction f with
 | zero =>
  intro listed a inv _ hr hy H
  have hun := (mem_ready.1 hr).1
  refine ⟨fun h => (by rw [h] at hr; cases hr), fun j hj => ?_⟩
  have hjn : j < n := by
   rcases Nat.lt_or_ge j n with h | h
   ·exact h
   ·exact absurd hj (tail_waits hs hc hn inv _ i rfl hin hun j h)
  refine ⟨hjn, ?_⟩
  by_cases hji : j = i
  ·subst hji; exact hy.qOp hi H
  ·have := hdone _ _ H j (ready_mono hj hji)
   omega
 | succ f ih =>
  intro listed a inv hfree hr hy H
  have hun := (mem_ready.1 hr).1
  refine ⟨fun h => (by rw [h] at hr; cases hr), fun j hj => ?_⟩
  have hjn : j < n := by
   rcases Nat.lt_or_ge j n with h | h
   ·exact h
   ·exact absurd hj (tail_waits hs hc hn inv _ i rfl hin hun j h)
  refine ⟨hjn, ?_⟩
  by_cases hji : j = i
  ·subst hji; exact hy.qOp hi H
  ·have h1 := (H.2 j (ready_mono hj hji)).2
   obtain ⟨hjun, oj, hoj, hall⟩ := mem_ready.1 hj
   have hnot : ∀ e ∈ oj.after, Region.binds md e = true → e.on ≠ i := fun e he hb heq => by
    have h1 := hall e he hb
    rw [heq, getD_both hun] at h1
    cases h1
   have h2 := qOp_put hoj (hfree j oj hoj hji hjun hnot) (fun cs b => hsel i oi cs b hi) (fun cs b => hsel j oj cs b hoj) hy h1
   have hfree' : ∀ k ok, ops[k]? = some ok → k ≠ i → (listed.setIfInBounds j true).getD k true = false →
     (∀ e ∈ ok.after, Region.binds md e = true → e.on ≠ i) → oi.apart ops ok = true := fun k ok hk hki hun hno => by
    refine hfree k ok hk hki ?_ hno
    by_cases hjk : j = k
    ·subst hjk; exact hjun
    ·rw [getD_set_ne true hjk] at hun; exact hun
   refine qOp_mono (fun a' h3 => ih (listed.setIfInBounds j true) a' (inv.set hj hjn) hfree' (ready_mono hr (Ne.symm hji)) h3.1 ?_) h2
   rw [Array.setIfInBounds_comm _ _ hji]
   exact h3.2

theorem wpAnyLQ_lex {n g : Nat} {Lq : Act → Prop} (hsel : Region.noSelect ops = true) (hs : Region.sinkB md ops n = true) (hc : Region.chainB md ops n = true) (hn : n < ops.size) :
  ∀ (l : List Oper) (k : Nat) (listed : Array Bool) (a : Act), (∀ j, j < l.length → l[j]? = ops[k + j]?) → k + l.length = n → HeadInv md ops n listed →
  Region.lexHead md ops g l.length k listed = true → wpQuiet P ops C Lq l a →
  wpAnyLQ P md ops C n (fun listed' a' => Region.seqB md ops g n listed' = true ∧ Lq a') l.length listed a
 | [], k, listed, a, _, hk, _, hB, h => by
   have : k = n := by simpa using hk
   subst this
   exact ⟨by simpa [Region.lexHead] using hB, h⟩
 | o :: l, k, listed, a, hl, hk, inv, hB, h => by
   have h0 : ops[k]? = some o := by simpa using (hl 0 (by simp)).symm
   simp only [List.length_cons, Region.lexHead, Bool.and_eq_true] at hB
   obtain ⟨⟨hr, hf⟩, hB'⟩ := hB
   have hkn : k < n := by simp only [List.length_cons] at hk; omega
   have hr' : k ∈ Region.ready md ops listed := by simpa using hr
   have hst : qOp P ops C k (wpQuiet P ops C Lq l) a := by unfold qOp; simp only [h0]; exact h
   obtain ⟨v, hy, hK⟩ := yieldsIn_of_qOp h0 hst
   exact wpAnyLQ_first h0 (Region.noSelect_spec hsel) hs hc hn hkn (fun listed' a' hL => seqB_ready hL.1) l.length listed a inv (Region.free_spec h0 hf) hr' hy
     (wpAnyLQ_lex hsel hs hc hn l (k + 1) _ _ (fun j hj => by have := hl (j + 1) (by simp; omega); simpa [Nat.add_assoc, Nat.add_comm 1 j] using this) (by simp only [List.length_cons] at hk; omega) (inv.set hr' hkn) hB' hK)

theorem wp_region_quiet_tail {id : Nat} {Q : Exit → Act → World → Prop} {a : Act} {w : World} {l : List Oper} (n : Nat) (hm : P.follows .mixedOrders = true) (hB : Region.lexTailB .any l.toArray n = true) (hC : C { w with drawn := w.drawn + 1 })
  (h : wpQuiet P l.toArray C (fun a' => ∀ w', C w' → wpList P l.toArray Q (l.drop n) a' w') (l.take n) a) : (Code.region id l.toArray true).wp P Q a w := by
 simp only [Region.lexTailB, Bool.and_eq_true, decide_eq_true_eq] at hB
 obtain ⟨⟨⟨⟨hsel, hn⟩, hs⟩, hc⟩, hlex⟩ := hB
 have hn' : n < l.length := by simpa using hn
 have htl : (l.take n).length = n := by simp; omega
 have hdl : (l.drop n).length = l.toArray.size - n := by simp
 have inv0 : HeadInv .any l.toArray n (Array.replicate l.toArray.size false) :=
  ⟨by simp, fun j oj _ hl => (by rw [getD_replicate_false] at hl; cases hl), fun t _ ht => getD_in (by simpa using ht) (getD_replicate_false _ _)⟩
 have H := wpAnyLQ_lex (md := .any) (g := l.toArray.size - n) hsel hs hc hn (l.take n) 0 _ a (fun j hj => by
  have hj' : j < n := by rw [htl] at hj; exact hj
  simp [hj']) (by simpa using htl) inv0 (by rw [htl]; exact hlex) h
 refine wp_region_any hm ?_
 have := wpAny_of_headQ (C := C) (Q' := Q) (g := l.toArray.size - n) (fun listed a' w' hw' hL => by
  have := wpAny_of_seq (md := .any) (Q' := Q) (l.drop n) n listed a' w' (fun j => by simp [List.getElem?_drop]) (by rw [hdl]; exact hL.1) (hL.2 w' hw')
  rwa [hdl] at this) _ _ _ _ hC H
 rw [htl, show n + (l.toArray.size - n) = l.toArray.size by omega] at this
 exact this
/-- .. in the class 'nothing below has turned'. -/
theorem wp_region_qt {id : Nat} {Q : Exit → Act → World → Prop} {a : Act} {w : World} {l : List Oper} (n : Nat) (hm : P.follows .mixedOrders = true) (hB : Region.lexTailB .any l.toArray n = true)
  (h : wpQuiet P l.toArray (Below w.heap.size w) (fun a' => ∀ w', Below w.heap.size w w' → wpList P l.toArray Q (l.drop n) a' w') (l.take n) a) : (Code.region id l.toArray true).wp P Q a w :=
 wp_region_quiet_tail n hm hB (Below.refl _ _).drew h
end
section
variable {P : Program} {ops : Array Oper} {Qa : Act → Prop} {w : World} {rest : List Oper} {a : Act} {ty : TypeId} {p : String} {af : Array Edge} {g : Option (Nat × Bool)} {d : Tmp}
theorem wpB_load {e : TypeId} {s : Operand} {b o : Nat} {cs : Array Value} {T : TypeId} {fr : Nat × Nat} {v : Value} (hF : Flat P e) (hg : Region.wanted (⟨some d, .load e s, ty, p, af, g⟩ : Oper) (yielded ops a.tmps) = true) (hs : a.eval s = .pointer (some ⟨b, o, none⟩))
  (hb : w.heap[b]? = some (.cells cs T fr)) (hv : cs[o]? = some v) (h : wpQuiet P ops (Below w.heap.size w) Qa rest (a.put (some d) v)) : wpQuiet P ops (Below w.heap.size w) Qa (⟨some d, .load e s, ty, p, af, g⟩ :: rest) a := by
 refine wpQ_inG v hg (fun w' hw' => ?_) h
 have hc : w'.cell? ⟨b, o, none⟩ = some v := by simp [World.cell?, hw'.block b (Array.getElem?_eq_some_iff.1 hb).1, hb, hv]
 simp [execOp, hs, run_loadAt_cell w' hF hc, Result.andThen]
theorem wpB_loadS {e : TypeId} {s : Operand} {b o n : Nat} {cs us : Array Value} {T : TypeId} {fr : Nat × Nat} (hF : Aggr P e) (hn : (P.info? e).map (·.size) = some n) (hg : Region.wanted (⟨some d, .load e s, ty, p, af, g⟩ : Oper) (yielded ops a.tmps) = true) (hs : a.eval s = .pointer (some ⟨b, o, none⟩))
  (hb : w.heap[b]? = some (.cells cs T fr)) (hv : (cs.toList.drop o).take n = us.toList) (hz : us.size = n) (h : wpQuiet P ops (Below w.heap.size w) Qa rest (a.put (some d) (.agg us))) : wpQuiet P ops (Below w.heap.size w) Qa (⟨some d, .load e s, ty, p, af, g⟩ :: rest) a := by
 refine wpQ_inG (.agg us) hg (fun w' hw' => ?_) h
 obtain ⟨i, hi, hs2⟩ : ∃ i, P.info? e = some i ∧ i.size = n := by
  cases hi : P.info? e with
  | none => rw [hi] at hn; cases hn
  | some i => rw [hi] at hn; exact ⟨i, rfl, by simpa using hn⟩
 have := run_loadAt_agg (a := ⟨b, o, none⟩) w' hF hi (cs := us.toList) (by simp [hs2, hz]) (fun j v hj => by
  have hj2 : us[j]? = some v := by simpa using hj
  have hjn : j < n := by rw [← hz]; exact (Array.getElem?_eq_some_iff.1 hj2).1
  have hcs : cs[o + j]? = some v := by
   have : us.toList[j]? = some v := by simpa using hj
   rw [← hv, List.getElem?_take, if_pos hjn, List.getElem?_drop] at this
   simpa using this
  rw [Addr.add_z]
  simp [World.cell?, hw'.block b (Array.getElem?_eq_some_iff.1 hb).1, hb, hcs])
 rw [Array.toArray_toList] at this
 simp [execOp, hs, this, Result.andThen]
theorem wpB_call {o : Oper} {f : FuncId} {args : Array Value} (v : Value) (hg : Region.wanted o (yielded ops a.tmps) = true) (hr : ∀ w', (execOp a.eval o).run P w' = .ok (.enter f args) w')
   (hcall : ∀ w', Below w.heap.size w w' → Calls P f args w' fun e w'' => e = .returned v ∧ Below w'.heap.size w' w'')
   (h : wpQuiet P ops (Below w.heap.size w) Qa rest (a.put o.dst v)) : wpQuiet P ops (Below w.heap.size w) Qa (o :: rest) a := by
 unfold wpQuiet
 rw [if_pos hg]
 refine ⟨v, fun w' hw' => ?_, h⟩
 unfold Oper.quietAt
 rw [hr w']
 exact ⟨rfl, (hcall w' hw').mono fun e w'' ⟨he, hb⟩ => ⟨he, bnext hw' hb⟩⟩
theorem calls_below {f : FuncId} {args : Array Value} {v : Value} (h : Calls P f args w fun e w' => e = .returned v ∧ w = w') : Calls P f args w fun e w' => e = .returned v ∧ Below w.heap.size w w' :=
 h.mono fun _ _ ⟨h1, h2⟩ => ⟨h1, h2 ▸ Below.refl _ _⟩
end

section
variable {P : Program} {ops : Array Oper} {Q : Exit → Act → World → Prop} {w w0 : World} {rest : List Oper} {a : Act} {ty : TypeId} {p : String} {af : Array Edge} {g : Option (Nat × Bool)} {B : Nat} {L : List Pc}
theorem wpList_ldB {d : Option Tmp} {e : TypeId} {s : Operand} {b o : Nat} {cs : Array Value} {T : TypeId} {fr : Nat × Nat} {v : Value} (hF : Flat P e) (hg : Region.wanted (⟨d, .load e s, ty, p, af, g⟩ : Oper) (yielded ops a.tmps) = true) (hs : a.eval s = .pointer (some ⟨b, o, none⟩))
  (hb : w.heap[b]? = some (.cells cs T fr)) (hv : cs[o]? = some v) (h : wpList P ops Q rest (a.put d v) w) : wpList P ops Q (⟨d, .load e s, ty, p, af, g⟩ :: rest) a w := by
 refine wpList_step fun K hK => ?_
 rw [if_pos hg]
 have hc : w.cell? ⟨b, o, none⟩ = some v := by simp [World.cell?, hb, hv]
 unfold Oper.wp
 simp [execOp, hs, run_loadAt_cell w hF hc, Result.andThen]
 exact hK _ _ h
theorem wpList_ldS {d : Option Tmp} {e : TypeId} {s : Operand} {b o n : Nat} {cs us : Array Value} {T : TypeId} {fr : Nat × Nat} (hF : Aggr P e) (hn : (P.info? e).map (·.size) = some n) (hg : Region.wanted (⟨d, .load e s, ty, p, af, g⟩ : Oper) (yielded ops a.tmps) = true) (hs : a.eval s = .pointer (some ⟨b, o, none⟩))
  (hb : w.heap[b]? = some (.cells cs T fr)) (hv : (cs.toList.drop o).take n = us.toList) (hz : us.size = n) (h : wpList P ops Q rest (a.put d (.agg us)) w) : wpList P ops Q (⟨d, .load e s, ty, p, af, g⟩ :: rest) a w := by
 refine wpList_step fun K hK => ?_
 rw [if_pos hg]
 obtain ⟨i, hi, hs2⟩ : ∃ i, P.info? e = some i ∧ i.size = n := by
  cases hi : P.info? e with
  | none => rw [hi] at hn; cases hn
  | some i => rw [hi] at hn; exact ⟨i, rfl, by simpa using hn⟩
 have := run_loadAt_agg (a := ⟨b, o, none⟩) w hF hi (cs := us.toList) (by simp [hs2, hz]) (fun j v hj => by
  have hj2 : us[j]? = some v := by simpa using hj
  have hjn : j < n := by rw [← hz]; exact (Array.getElem?_eq_some_iff.1 hj2).1
  have hcs : cs[o + j]? = some v := by
   have : us.toList[j]? = some v := by simpa using hj
   rw [← hv, List.getElem?_take, if_pos hjn, List.getElem?_drop] at this
   simpa using this
  rw [Addr.add_z]
  simp [World.cell?, hb, hcs])
 rw [Array.toArray_toList] at this
 unfold Oper.wp
 simp [execOp, hs, this, Result.andThen]
 exact hK _ _ h
theorem SL.setRow {k : Nat} {old : Array Value} {T : TypeId} {fr : Nat × Nat} (h : SL B w0 w L) (i : Nat) (hi : L[i]? = some (pBlk k (.cells old T fr))) (us : Array Value) : SL B w0 (w.setRow k us) (L.set i (pBlk k (.cells us T fr))) := by
 obtain ⟨b, ⟨rfl, h1⟩, h3, h4⟩ := h.upd i hi
 refine h4 _ _ (some k) ⟨rfl, rfl, rfl, by simp [World.setRow], fun m hm hne => ?_⟩ ⟨rfl, setRow_heap w k old us T fr h1⟩ (.inl rfl)
 simp only [World.setRow, Array.getElem?_modify]
 rw [if_neg (fun e => hne (by rw [e]))]
theorem wpList_stoR {e : TypeId} {x y : Operand} {k : Nat} {old us : Array Value} {T : TypeId} (i : Nat)
  (hx : a.eval x = .pointer (some ⟨k, 0, none⟩)) (hy : a.eval y = .agg us) (hS : SL B w0 w L) (hi : L[i]? = some (pBlk k (.cells old T (0, 0)))) (hz : (P.info? e).map (·.size) = some us.size) (ho : old.size = us.size) (h1 : us.all (·.oneCell') = true)
  (hK : ∀ w', SL B w0 w' (L.set i (pBlk k (.cells us T (0, 0)))) → wpList P ops Q rest (a.put none undef) w') : wpList P ops Q (⟨none, .store e x y, ty, p, af, none⟩ :: rest) a w := by
 refine wpList_plain rfl fun K hK' => ?_
 have := run_storeVar_row (P := P) w k T e old us (hS.blk i hi).1 hz ho h1
 unfold Oper.wp
 simp only [execOp, hx, hy, Instr.storeAt, Instr.sureAddr, Sem.run_bind, Sem.run_pure, Result.andThen_ok, this]
 exact hK' _ _ (hK _ (hS.setRow i hi us))
theorem results_cell {fn : Func} {tmps : Array Value} {t T k : Nat} {us : Array Value} {T' : TypeId} {fr : Nat × Nat} (h : fn.results = #[.cell t T]) (ht : tmps.getD t undef = .pointer (some ⟨k, 0, none⟩)) (hu : Aggr P T) (hz : (P.info? T).map (·.size) = some us.size) (hb : w.heap[k]? = some (.cells us T' fr)) :
  (results fn tmps).run P w = .ok (.agg us) w := by
 obtain ⟨d, hd, hdd⟩ := hu
 have := run_loadVar_row (P := P) w k T' T us fr d hb hd (by cases d <;> first | exact hdd | rfl | cases hdd) hz
 simp only [Array.getD_eq_getD_getElem?] at ht
 simp [results, h, ht, asAddr, this]
end
end Go.Proofs.YtngpopalpofhgaaGreatDoor

namespace Go.Proofs.YtngpopalpofhgaaGreatDoor
open Go.RowKit
section
variable {P : Program} {ops : Array Oper} {Q : Exit → Act → World → Prop} {md : Region.Mode} {C : World → Prop}

/-- the same value in every world of the class, the world left alone. -/
def YieldsC (P : Program) (ops : Array Oper) (C : World → Prop) (o : Oper) (v : Value) (a : Act) : Prop :=
 (Region.wanted o (yielded ops a.tmps) = true ∧ ∀ w, C w → (execOp a.eval o).run P w = .ok (.value v) w) ∨
 (Region.wanted o (yielded ops a.tmps) = false ∧ v = undef)
theorem YieldsC.wpOp {i : Nat} {o : Oper} {v : Value} {a : Act} (hi : ops[i]? = some o) (hy : YieldsC P ops C o v a)
  {K : Act → World → Prop} {w : World} (hC : C w) (h : K (a.put o.dst v) w) : wpOp P ops Q i K a w := by
 unfold Go.wpOp
 simp only [hi]
 rcases hy with ⟨hw, hv⟩ | ⟨hw, rfl⟩
 ·simp only [hw, if_true, Oper.wp, hv w hC, Oper.upon]; exact .inl h
 ·simp only [hw, Bool.false_eq_true, if_false]; exact h
theorem YieldsC.of_same {o : Oper} {v : Value} {a a' : Act} (hy : YieldsC P ops C o v a) (he : execOp a'.eval o = execOp a.eval o)
  (hw : Region.wanted o (yielded ops a'.tmps) = Region.wanted o (yielded ops a.tmps)) : YieldsC P ops C o v a' := by
 unfold YieldsC at *
 rw [he, hw]
 exact hy

theorem wpOp_putC {j : Nat} {oi oj : Oper} {v : Value} (hj : ops[j]? = some oj) (hap : oi.apart ops oj = true)
  (hsi : ∀ cs b, oi.op ≠ .select cs b) (hsj : ∀ cs b, oj.op ≠ .select cs b)
  (hQ : ∀ c a w, ¬ Q (.panic c) a w) {K : Act → World → Prop} {a : Act} {w : World}
  (hy : YieldsC P ops C oi v a) (h : wpOp P ops Q j K (a.put oi.dst v) w) :
  wpOp P ops Q j (fun a' w' => YieldsC P ops C oi v a' ∧ K (a'.put oi.dst v) w') a w := by
 obtain ⟨h1, h2, h3⟩ := Oper.apart_spec hap
 have keep : ∀ (a : Act), YieldsC P ops C oi v a → ∀ u, YieldsC P ops C oi v (a.put oj.dst u) := fun a hy u =>
  hy.of_same (execOp_put oi hsi a oj.dst u h3) (wanted_put oi a oj.dst u h3)
 have keepD : ∀ d, YieldsC P ops C oi v { a with defers := d :: a.defers } := fun d => hy.of_same rfl rfl
 unfold wpOp at *
 simp only [hj] at *
 rw [wanted_put oj a oi.dst v h1] at h
 split
 ·rename_i hw
  simp only [hw, if_true] at h
  rcases h with h | ⟨hasks, hlets⟩
  case inr => exact .inr ⟨by unfold Oper.asks at *; rw [execOp_put oj hsj a oi.dst v h1] at hasks; exact hasks, hlets⟩
  refine .inl ?_
  unfold Oper.wp at *
  rw [execOp_put oj hsj a oi.dst v h1] at h
  generalize (execOp a.eval oj).run P w = r at *
  cases r with
  | ok n w' =>
   cases n <;> simp only [Oper.upon] at h ⊢
   case value u => exact ⟨keep a hy u, by rw [← Act.put_comm a v u h2]; exact h⟩
   case skip => exact ⟨keep a hy _, by rw [← Act.put_comm a v undef h2]; exact h⟩
   case defer d =>
    refine ⟨keep _ (keepD d) _, ?_⟩
    rw [← Act.put_comm _ v undef h2, ← Act.put_defers]
    exact h
   case enter f args =>
    refine Calls.mono h fun e w'' he => ?_
    cases e with
    | returned u => exact ⟨keep a hy u, by rw [← Act.put_comm a v u h2]; exact he⟩
    | panicked c => exact absurd he (hQ _ _ _)
    | outgrown => exact he
   case row row args => exact Rows.mono h fun u w'' he => ⟨keep a hy u, by rw [← Act.put_comm a v u h2]; exact he⟩
  | halt x w' =>
   cases x <;> simp only [Oper.upon] at h ⊢
   case panic u => exact absurd h (hQ _ _ _)
 ·rename_i hw
  simp only [hw] at h
  exact ⟨keep a hy _, by rw [← Act.put_comm a v undef h2]; exact h⟩

/-- whatever order is picked; the class is kept. -/
def wpAnyC (P : Program) (md : Region.Mode) (ops : Array Oper) (C : World → Prop) (Q : Exit → Act → World → Prop) : Nat → Array Bool → Act → World → Prop
 | 0, listed, a, w => Region.ready md ops listed = [] ∧ Q .normal a w
 | fuel + 1, listed, a, w =>
  (Region.ready md ops listed = [] → Q .normal a w) ∧
  ∀ i ∈ Region.ready md ops listed, wpOp P ops Q i (fun a' w' => C w' ∧ wpAnyC P md ops C Q fuel (listed.setIfInBounds i true) a' w') a w
theorem wpAny_of_C : ∀ (fuel : Nat) (listed : Array Bool) (a : Act) (w : World), wpAnyC P md ops C Q fuel listed a w → wpAny P md ops Q fuel listed a w
 | 0, _, _, _, h => h
 | fuel + 1, _, _, _, h => ⟨h.1, fun i hi => wpOp_mono (fun _ _ h' => wpAny_of_C fuel _ _ _ h'.2) (h.2 i hi)⟩

theorem wpAnyC_first {i : Nat} {oi : Oper} {v : Value} (hi : ops[i]? = some oi) (hsel : ∀ (j : Nat) (o : Oper) cs b, ops[j]? = some o → o.op ≠ .select cs b) (hQ : ∀ c a w, ¬ Q (.panic c) a w) :
  ∀ (fuel : Nat) (listed : Array Bool) (a : Act) (w : World), C w →
   (∀ j oj, ops[j]? = some oj → j ≠ i → listed.getD j true = false → (∀ e ∈ oj.after, Region.binds md e = true → e.on ≠ i) → oi.apart ops oj = true) →
   i ∈ Region.ready md ops listed → YieldsC P ops C oi v a →
   wpAnyC P md ops C Q fuel (listed.setIfInBounds i true) (a.put oi.dst v) w → wpAnyC P md ops C Q (fuel + 1) listed a w := by
 intro fuel
 induction fuel with
 | zero =>
  intro listed a w hC _ hr hy H
  refine ⟨fun h => (by rw [h] at hr; cases hr), fun j hj => ?_⟩
  by_cases hji : j = i
  ·subst hji; exact hy.wpOp hi hC ⟨hC, H⟩
  ·have := ready_mono hj hji
   rw [H.1] at this
   cases this
 | succ fuel ih =>
  intro listed a w hC hfree hr hy H
  refine ⟨fun h => (by rw [h] at hr; cases hr), fun j hj => ?_⟩
  by_cases hji : j = i
  ·subst hji; exact hy.wpOp hi hC ⟨hC, H⟩
  ·have h1 := H.2 j (ready_mono hj hji)
   obtain ⟨hjun, oj, hoj, hall⟩ := mem_ready.1 hj
   have hnot : ∀ e ∈ oj.after, Region.binds md e = true → e.on ≠ i := fun e he hb heq => by
    have h1 := hall e he hb
    have h0 := (mem_ready.1 hr).1
    rw [heq, getD_both h0] at h1
    cases h1
   have h2 := wpOp_putC hoj (hfree j oj hoj hji hjun hnot) (fun cs b => hsel i oi cs b hi) (fun cs b => hsel j oj cs b hoj) hQ hy h1
   have hfree' : ∀ k ok, ops[k]? = some ok → k ≠ i → (listed.setIfInBounds j true).getD k true = false →
     (∀ e ∈ ok.after, Region.binds md e = true → e.on ≠ i) → oi.apart ops ok = true := fun k ok hk hki hun hno => by
    refine hfree k ok hk hki ?_ hno
    by_cases hjk : j = k
    ·subst hjk; exact hjun
    ·rw [getD_set_ne true hjk] at hun; exact hun
   refine wpOp_mono (fun a' w' h3 => ⟨h3.2.1, ih (listed.setIfInBounds j true) a' w' h3.2.1 hfree' (ready_mono hr (Ne.symm hji)) h3.1 ?_⟩) h2
   rw [Array.setIfInBounds_comm _ _ hji]
   exact h3.2.2

/-- these operations may come first, in this order. -/
def Region.firstB (md : Region.Mode) (ops : Array Oper) : List Nat → Array Bool → Bool
 | [], _ => true
 | q :: qs, listed => (Region.ready md ops listed).contains q && Region.free md ops listed q && Region.firstB md ops qs (listed.setIfInBounds q true)
def listAll (listed : Array Bool) (qs : List Nat) : Array Bool := qs.foldl (fun l q => l.setIfInBounds q true) listed
/-- the walk of those. -/
def wpPure (P : Program) (ops : Array Oper) (C : World → Prop) (K : Act → Prop) : List Oper → Act → Prop
 | [], a => K a
 | o :: r, a => ∃ v, YieldsC P ops C o v a ∧ wpPure P ops C K r (a.put o.dst v)
theorem wpAnyC_pure (hsel : Region.noSelect ops = true) (hQ : ∀ c a w, ¬ Q (.panic c) a w) {w : World} (hC : C w) {g : Nat} : ∀ (qs : List Nat) (l : List Oper) (listed : Array Bool) (a : Act), qs.map (fun i => ops[i]?) = l.map some →
  Region.firstB md ops qs listed = true → wpPure P ops C (fun a' => wpAnyC P md ops C Q g (listAll listed qs) a' w) l a → wpAnyC P md ops C Q (g + qs.length) listed a w
 | [], [], listed, a, _, _, h => h
 | [], _ :: _, _, _, hm, _, _ => by cases hm
 | _ :: _, [], _, _, hm, _, _ => by cases hm
 | q :: qs, o :: l, listed, a, hm, hB, h => by
   simp only [List.map_cons, List.cons.injEq] at hm
   simp only [Region.firstB, Bool.and_eq_true] at hB
   obtain ⟨v, hy, hK⟩ := h
   exact wpAnyC_first hm.1 (Region.noSelect_spec hsel) hQ (g + qs.length) listed a w hC (Region.free_spec hm.1 hB.1.2) (by simpa using hB.1.1) hy
     (wpAnyC_pure hsel hQ hC qs l _ _ hm.2 hB.2 hK)

end
end Go.Proofs.YtngpopalpofhgaaGreatDoor

namespace Go.Proofs.YtngpopalpofhgaaGreatDoor
open Go.RowKit
set_option maxHeartbeats 400000
set_option maxRecDepth 100000

end Go.Proofs.YtngpopalpofhgaaGreatDoor

namespace Go.Proofs.YtngpopalpofhgaaGreatDoor
open Go.RowKit
set_option maxHeartbeats 400000
set_option maxRecDepth 100000

/-- where a thread stands last in the first k slots. -/
def plc (t : List Int) : Nat → Int → Int
 | 0, _ => 0
 | k + 1, x => if x = atD 0 t k then k else plc t k x
def goes (l t : List Int) (i : Nat) : Int := if atD 0 l i != 0 then plc t t.length (atD 0 l i) else i
theorem atD_mem {l : List Int} {k : Nat} (h : k < l.length) : atD 0 l k ∈ l := by simp [atD, h]
end Go.Proofs.YtngpopalpofhgaaGreatDoor

namespace Go.Proofs.YtngpopalpofhgaaGreatDoor
open Go.RowKit
set_option maxHeartbeats 400000
set_option maxRecDepth 100000

theorem ext_atD {l m : List Int} (h : l.length = m.length) (he : ∀ j : Int, 0 ≤ j → j < l.length → atD 0 l j = atD 0 m j) : l = m := by
 apply List.ext_getElem h
 intro i h1 h2
 have := he i (by omega) (by omega)
 simpa [atD, h1, h2] using this
theorem atD_set {l : List Int} {i j x : Int} (h0 : 0 ≤ i) (h1 : i < l.length) (hj : 0 ≤ j) : atD 0 (l.set i.toNat x) j = if j = i then x else atD 0 l j := by
 unfold atD
 rw [List.getD_eq_getElem?_getD, List.getElem?_set]
 by_cases h : j = i
 ·subst h; simp [show j.toNat < l.length by omega]
 ·rw [if_neg h, if_neg (by omega), List.getD_eq_getElem?_getD]
end Go.Proofs.YtngpopalpofhgaaGreatDoor

namespace Go.Proofs.YtngpopalpofhgaaGreatDoor
open Go.RowKit
set_option maxHeartbeats 400000
set_option maxRecDepth 100000

end Go.Proofs.YtngpopalpofhgaaGreatDoor

namespace Go.Proofs.YtngpopalpofhgaaGreatDoor
open Go.RowKit
set_option maxHeartbeats 400000
set_option maxRecDepth 100000

def matE (x y : Int) : Int := if x < 2 ∨ y < 2 ∨ 100 < x ∨ 100 < y then 3 else 0
theorem checkMat_any (x y : Int) (w : World) :
  Calls Tryz.prog 85 #[.int .i64 x, .int .i64 y] w fun r w' => r = .returned (.int .i64 (matE x y)) ∧ w = w' := by
 by_cases h1 : min x y < 2
 ·have e : matE x y = 3 := by unfold matE; rw [if_pos (by omega)]
  rw [e]
  go_enter Tryz.func85, Tryz.ntmps85
  go_wp2_with (go_at_call 86; refine (when_any _ _ _).mono ?_; rintro e w' ⟨rfl, rfl⟩)
  all_goals
   go_ret
   exact ⟨rfl, rfl⟩
 by_cases h2 : 100 < max x y
 ·have e : matE x y = 3 := by unfold matE; rw [if_pos (by omega)]
  rw [e]
  go_enter Tryz.func85, Tryz.ntmps85
  go_wp2_with (go_at_call 86; refine (when_any _ _ _).mono ?_; rintro e w' ⟨rfl, rfl⟩)
  all_goals
   go_ret
   exact ⟨rfl, rfl⟩
 ·have e : matE x y = 0 := by unfold matE; rw [if_neg (by omega)]
  rw [e]
  go_enter Tryz.func85, Tryz.ntmps85
  go_wp2_with (go_at_call 86; refine (when_any _ _ _).mono ?_; rintro e w' ⟨rfl, rfl⟩)
  all_goals
   go_ret
   exact ⟨rfl, rfl⟩
theorem matE_zero {x y : Int} (h : matE x y = 0) : 2 ≤ x ∧ x ≤ 100 ∧ 2 ≤ y ∧ y ≤ 100 := by
 unfold matE at h; split at h <;> omega

theorem gcd_step {a b : Int} (ha : 0 ≤ a) (hb : 0 ≤ b) : Int.gcd b (a % b) = Int.gcd a b := by
 obtain ⟨m, rfl⟩ := Int.eq_ofNat_of_zero_le ha
 obtain ⟨n, rfl⟩ := Int.eq_ofNat_of_zero_le hb
 show Nat.gcd n (m % n) = Nat.gcd m n
 rw [Nat.gcd_comm m n, Nat.gcd_rec n m, Nat.gcd_comm]
theorem strands_any (x y : Int) (w : World) (hx : 0 ≤ x) (hx2 : x ≤ 1048576) (hy : 0 ≤ y) (hy2 : y ≤ 1048576) :
  Calls Tryz.prog 89 #[.int .i64 x, .int .i64 y] w fun r w' => r = .returned (.int .i64 (Int.gcd x y)) ∧ Below w.heap.size w w' := by
 go_enter Tryz.func89, Tryz.ntmps89
 go_wp2
 go_loopw [0, 1] (fun p q wr => ∃ a b : Int, p = .int .i64 a ∧ q = .int .i64 b ∧ 0 ≤ a ∧ a ≤ 1048576 ∧ 0 ≤ b ∧ b ≤ 1048576 ∧ Int.gcd a b = Int.gcd x y ∧ Below w.heap.size w wr) (fun _ q _ => (intOf q).toNat)
 case atStart => exact ⟨x, y, rfl, rfl, hx, hx2, hy, hy2, rfl, Below.refl _ _⟩
 case round =>
  obtain ⟨a, b, rfl, rfl, ha, ha2, hb, hb2, hg, hbr⟩ := hrel
  have HG := hid hg; clear hg
  by_cases hlt : 0 < b
  ·have hm0 := Int.emod_nonneg a (by omega : b ≠ 0)
   have hm1 := Int.emod_lt_of_pos a hlt
   have hne : ¬ b = 0 := by omega
   have hwr : IntKind.i64.wrap (a.tmod b) = a % b := by rw [Int.tmod_eq_emod_of_nonneg ha]; exact IntWalk.i64_in _ (by omega)
   go_wp2_with fail
   refine wp_region_quiet_lit kR kR ?_
   repeat (first | fail | quiet_step (fail))
   refine wpQuiet_nil ?_
   intro w2 hb2
   replace hb2 := below_drewN hb2
   clear hwr
   go_wp2_with fail
   rw [Int.tmod_eq_emod_of_nonneg (b := b) ha]
   refine ⟨⟨b, a % b, rfl, rfl, by omega, by omega, by omega, by omega, ?_, bnext hbr hb2⟩, by simp [intOf]; omega⟩
   rw [← HG.out, gcd_step ha hb]
  ·have : b = 0 := by omega
   subst this
   have hfin : a = Int.gcd x y := by
    rw [← HG.out, Int.gcd_zero]; omega
   have HF := hid hfin; clear hfin
   go_wp2_with fail
   go_ret
   exact ⟨by rw [← HF.out]; rfl, hbr⟩

theorem Strands_any (x y : Int) (w : World) :
  Calls Tryz.prog 38 #[.int .i64 x, .int .i64 y] w fun r w' => r = .returned (.tuple #[.int .i64 (if matE x y = 0 then Int.gcd x y else 0), .int .i64 (matE x y)]) ∧ Below w.heap.size w w' := by
 have hc := checkMat_any x y w
 by_cases h : matE x y = 0
 ·obtain ⟨h1, h2, h3, h4⟩ := matE_zero h
  rw [if_pos h, h]
  rw [h] at hc
  have HC := hid hc; clear hc h
  go_enter Tryz.func38, Tryz.ntmps38
  go_wp2_with fail
  refine HC.out.mono ?_
  rintro e w1 ⟨rfl, rfl⟩
  go_wp2_with fail
  refine (strands_any x y w (by omega) (by omega) (by omega) (by omega)).mono ?_
  rintro e w1 ⟨rfl, hb⟩
  go_wp2_with fail
  go_ret2
  exact ⟨rfl, hb⟩
 ·rw [if_neg h]
  have hne : (matE x y != 0) = true := by simpa using h
  have HC := hid hc; clear hc h
  go_enter Tryz.func38, Tryz.ntmps38
  go_wp2_with fail
  refine HC.out.mono ?_
  rintro e w1 ⟨rfl, rfl⟩
  go_wp2_with fail
  go_ret2
  exact ⟨rfl, Below.refl _ _⟩

def absI (n : Int) : Int := if 0 ≤ n then n else -n
end Go.Proofs.YtngpopalpofhgaaGreatDoor

namespace Go.Proofs.YtngpopalpofhgaaGreatDoor
open Go.RowKit
set_option maxHeartbeats 400000
set_option maxRecDepth 100000

end Go.Proofs.YtngpopalpofhgaaGreatDoor

namespace Go.Proofs
open Go.Shelf
def Tryz.lays160_ren : Go.Shelf.Ren := ⟨fun | 160 => 114 | 232 => 163 | 231 => 162 | 227 => 164 | 234 => 166 | 233 => 165 | 236 => 168 | 235 => 167 | 228 => 212 | 271 => 215 | 151 => 214 | 197 => 213 | 120 => 240 | 152 => 239 | 260 => 238 | 137 => 255 | 119 => 256 | 224 => 257 | 225 => 258 | 217 => 268 | 266 => 273 | n => n, fun | 9 => 9 | 4 => 4 | 3 => 3 | 5 => 5 | 117 => 206 | 116 => 205 | 0 => 0 | 124 => 209 | 21 => 21 | 105 => 247 | 46 => 172 | 119 => 274 | 139 => 277 | 138 => 276 | n => n, fun | 3 => 1 | 4 => 2 | n => n⟩
theorem Tryz.lays160 : Go.Proofs.Lays.n160 Tryz.prog Tryz.lays160_ren := {
 mixed := by kernel_rfl
 f119 := Tryz.func256.trans (congrArg some (by kernel_rfl))
 f120 := Tryz.func240.trans (congrArg some (by kernel_rfl))
 f137 := Tryz.func255.trans (congrArg some (by kernel_rfl))
 f151 := Tryz.func214.trans (congrArg some (by kernel_rfl))
 f152 := Tryz.func239.trans (congrArg some (by kernel_rfl))
 f160 := Tryz.func114.trans (congrArg some (by kernel_rfl))
 f197 := Tryz.func213.trans (congrArg some (by kernel_rfl))
 f217 := Tryz.func268.trans (congrArg some (by kernel_rfl))
 f224 := Tryz.func257.trans (congrArg some (by kernel_rfl))
 f225 := Tryz.func258.trans (congrArg some (by kernel_rfl))
 f227 := Tryz.func164.trans (congrArg some (by kernel_rfl))
 f228 := Tryz.func212.trans (congrArg some (by kernel_rfl))
 f231 := Tryz.func162.trans (congrArg some (by kernel_rfl))
 f232 := Tryz.func163.trans (congrArg some (by kernel_rfl))
 f233 := Tryz.func165.trans (congrArg some (by kernel_rfl))
 f234 := Tryz.func166.trans (congrArg some (by kernel_rfl))
 f235 := Tryz.func167.trans (congrArg some (by kernel_rfl))
 f236 := Tryz.func168.trans (congrArg some (by kernel_rfl))
 f260 := Tryz.func238.trans (congrArg some (by kernel_rfl))
 f266 := Tryz.func273.trans (congrArg some (by kernel_rfl))
 f271 := Tryz.func215.trans (congrArg some (by kernel_rfl))
 t0 := Tryz.underlying0
 a0 := Tryz.isAgg0
 z0 := Tryz.sizeOf0
 v0 := Tryz.zeroValue0
 t3 := Tryz.underlying3
 a3 := Tryz.isAgg3
 z3 := Tryz.sizeOf3
 v3 := Tryz.zeroValue3
 t4 := Tryz.underlying4
 a4 := Tryz.isAgg4
 z4 := Tryz.sizeOf4
 v4 := Tryz.zeroValue4
 t5 := Tryz.underlying5
 a5 := Tryz.isAgg5
 z5 := Tryz.sizeOf5
 v5 := Tryz.zeroValue5
 t9 := Tryz.underlying9
 a9 := Tryz.isAgg9
 z9 := Tryz.sizeOf9
 v9 := Tryz.zeroValue9
 t21 := Tryz.underlying21
 a21 := Tryz.isAgg21
 z21 := Tryz.sizeOf21
 v21 := Tryz.zeroValue21
 t46 := Tryz.underlying172
 a46 := Tryz.isAgg172
 z46 := Tryz.sizeOf172
 v46 := Tryz.zeroValue172
 t105 := Tryz.underlying247
 a105 := Tryz.isAgg247
 z105 := Tryz.sizeOf247
 v105 := Tryz.zeroValue247
 t116 := Tryz.underlying205
 a116 := Tryz.isAgg205
 z116 := Tryz.sizeOf205
 t117 := Tryz.underlying206
 a117 := Tryz.isAgg206
 z117 := Tryz.sizeOf206
 v117 := Tryz.zeroValue206
 t119 := Tryz.underlying274
 a119 := Tryz.isAgg274
 z119 := Tryz.sizeOf274
 t124 := Tryz.underlying209
 a124 := Tryz.isAgg209
 z124 := Tryz.sizeOf209
 v124 := Tryz.zeroValue209
 t138 := Tryz.underlying276
 a138 := Tryz.isAgg276
 z138 := Tryz.sizeOf276
 v138 := Tryz.zeroValue276
 t139 := Tryz.underlying277
 a139 := Tryz.isAgg277
 z139 := Tryz.sizeOf277
 v139 := Tryz.zeroValue277
 g3 := by kernel_rfl
 g4 := by kernel_rfl }
def Tryz.lays212_ren : Go.Shelf.Ren := ⟨fun | 212 => 139 | 263 => 187 | 264 => 188 | n => n, fun | 46 => 172 | 51 => 224 | 146 => 225 | 53 => 227 | 148 => 228 | n => n, fun | n => n⟩
theorem Tryz.lays212 : Go.Proofs.Lays.n212 Tryz.prog Tryz.lays212_ren := {
 mixed := by kernel_rfl
 f212 := Tryz.func139.trans (congrArg some (by kernel_rfl))
 f263 := Tryz.func187.trans (congrArg some (by kernel_rfl))
 f264 := Tryz.func188.trans (congrArg some (by kernel_rfl))
 t46 := Tryz.underlying172
 a46 := Tryz.isAgg172
 z46 := Tryz.sizeOf172
 v46 := Tryz.zeroValue172
 t51 := Tryz.underlying224
 a51 := Tryz.isAgg224
 z51 := Tryz.sizeOf224
 v51 := Tryz.zeroValue224
 t53 := Tryz.underlying227
 a53 := Tryz.isAgg227
 z53 := Tryz.sizeOf227
 v53 := Tryz.zeroValue227
 t146 := Tryz.underlying225
 a146 := Tryz.isAgg225
 z146 := Tryz.sizeOf225
 v146 := Tryz.zeroValue225
 t148 := Tryz.underlying228
 a148 := Tryz.isAgg228
 z148 := Tryz.sizeOf228
 v148 := Tryz.zeroValue228 }
open Go.RowKit Go.Lib in
/-- math/bits.Mul: "Mul returns the full-width product of x and y": on a machine of 64 bits: Mul64's. (LAID: no walk: one application.) -/
theorem Tryz.bits_Mul (x y : Nat) (hx : x < 18446744073709551616) (hy : y < 18446744073709551616) (w : World) :
  Calls Tryz.prog 139 #[.int .u64 x, .int .u64 y] w fun e w' => e = .returned (.tuple #[.int .u64 ((x * y / 18446744073709551616 : Nat) : Int), .int .u64 ((x * y % 18446744073709551616 : Nat) : Int)]) ∧ w' = w := Any.bits_Mul Tryz.lays212 x y hx hy w
def Tryz.lays105_ren : Go.Shelf.Ren := ⟨fun | 105 => 90 | 212 => 139 | 99 => 140 | 165 => 141 | 166 => 142 | 170 => 143 | 169 => 144 | 263 => 187 | 264 => 188 | 206 => 189 | 240 => 190 | 241 => 191 | 276 => 224 | 277 => 225 | n => n, fun | 9 => 9 | 3 => 3 | 4 => 4 | 20 => 20 | 0 => 0 | 46 => 172 | 109 => 173 | 5 => 5 | 72 => 178 | 76 => 181 | 51 => 224 | 146 => 225 | 53 => 227 | 148 => 228 | 70 => 176 | 37 => 91 | 75 => 180 | 127 => 230 | 164 => 254 | 80 => 183 | n => n, fun | n => n⟩
theorem Tryz.lays105 : Go.Proofs.Lays.n105 Tryz.prog Tryz.lays105_ren := {
 mixed := by kernel_rfl
 f99 := Tryz.func140.trans (congrArg some (by kernel_rfl))
 f105 := Tryz.func90.trans (congrArg some (by kernel_rfl))
 f165 := Tryz.func141.trans (congrArg some (by kernel_rfl))
 f166 := Tryz.func142.trans (congrArg some (by kernel_rfl))
 f169 := Tryz.func144.trans (congrArg some (by kernel_rfl))
 f170 := Tryz.func143.trans (congrArg some (by kernel_rfl))
 f206 := Tryz.func189.trans (congrArg some (by kernel_rfl))
 f212 := Tryz.func139.trans (congrArg some (by kernel_rfl))
 f240 := Tryz.func190.trans (congrArg some (by kernel_rfl))
 f241 := Tryz.func191.trans (congrArg some (by kernel_rfl))
 f263 := Tryz.func187.trans (congrArg some (by kernel_rfl))
 f264 := Tryz.func188.trans (congrArg some (by kernel_rfl))
 f276 := Tryz.func224.trans (congrArg some (by kernel_rfl))
 f277 := Tryz.func225.trans (congrArg some (by kernel_rfl))
 t0 := Tryz.underlying0
 a0 := Tryz.isAgg0
 z0 := Tryz.sizeOf0
 v0 := Tryz.zeroValue0
 t3 := Tryz.underlying3
 a3 := Tryz.isAgg3
 z3 := Tryz.sizeOf3
 v3 := Tryz.zeroValue3
 t4 := Tryz.underlying4
 a4 := Tryz.isAgg4
 z4 := Tryz.sizeOf4
 v4 := Tryz.zeroValue4
 t5 := Tryz.underlying5
 a5 := Tryz.isAgg5
 z5 := Tryz.sizeOf5
 v5 := Tryz.zeroValue5
 t9 := Tryz.underlying9
 a9 := Tryz.isAgg9
 z9 := Tryz.sizeOf9
 v9 := Tryz.zeroValue9
 t20 := Tryz.underlying20
 a20 := Tryz.isAgg20
 z20 := Tryz.sizeOf20
 v20 := Tryz.zeroValue20
 t37 := Tryz.underlying91
 a37 := Tryz.isAgg91
 z37 := Tryz.sizeOf91
 v37 := Tryz.zeroValue91
 t46 := Tryz.underlying172
 a46 := Tryz.isAgg172
 z46 := Tryz.sizeOf172
 v46 := Tryz.zeroValue172
 t51 := Tryz.underlying224
 a51 := Tryz.isAgg224
 z51 := Tryz.sizeOf224
 v51 := Tryz.zeroValue224
 t53 := Tryz.underlying227
 a53 := Tryz.isAgg227
 z53 := Tryz.sizeOf227
 v53 := Tryz.zeroValue227
 t70 := Tryz.underlying176
 a70 := Tryz.isAgg176
 z70 := Tryz.sizeOf176
 v70 := Tryz.zeroValue176
 t72 := Tryz.underlying178
 a72 := Tryz.isAgg178
 z72 := Tryz.sizeOf178
 v72 := Tryz.zeroValue178
 t75 := Tryz.underlying180
 a75 := Tryz.isAgg180
 z75 := Tryz.sizeOf180
 v75 := Tryz.zeroValue180
 t76 := Tryz.underlying181
 a76 := Tryz.isAgg181
 z76 := Tryz.sizeOf181
 v76 := Tryz.zeroValue181
 t109 := Tryz.underlying173
 a109 := Tryz.isAgg173
 z109 := Tryz.sizeOf173
 v109 := Tryz.zeroValue173
 t127 := Tryz.underlying230
 a127 := Tryz.isAgg230
 z127 := Tryz.sizeOf230
 v127 := Tryz.zeroValue230
 t146 := Tryz.underlying225
 a146 := Tryz.isAgg225
 z146 := Tryz.sizeOf225
 v146 := Tryz.zeroValue225
 t148 := Tryz.underlying228
 a148 := Tryz.isAgg228
 z148 := Tryz.sizeOf228
 v148 := Tryz.zeroValue228
 t164 := Tryz.underlying254
 a164 := Tryz.isAgg254
 z164 := Tryz.sizeOf254
 v164 := Tryz.zeroValue254 }
theorem Tryz.Builder_Extra_105 : Builder.Extra Tryz.prog Tryz.lays105_ren := {
 sizeBuilder := by kernel_rfl
 liesBuilder := by kernel_rfl
 t5 := Tryz.underlying5
 a5 := Tryz.isAgg5
 z5 := Tryz.sizeOf5
 v5 := Tryz.zeroValue5
 infoByte := by kernel_rfl
 cellsByte := by kernel_rfl
 sizeByte := by kernel_rfl
 neB5 := by decide }
open Go.RowKit Go.Lib in
/-- **strings.Repeat: count ≥ 0, the result within one allocation: count copies of s.** (LAID: no walk: one application.) -/
theorem Tryz.strings_Repeat (s : ByteArray) (c : Nat) (w : World) (hc : c ≤ 9223372036854775807) (hlen : s.size * c ≤ 140737488355328) :
  Calls Tryz.prog 90 #[.string s, .int .i64 c] w fun e w' => e = .returned (.string ⟨(Lib.repeatL s.data.toList c).toArray⟩) ∧ Below w.heap.size w w' := Any.strings_Repeat Tryz.lays105 Tryz.Builder_Extra_105 s c w hc hlen

end Go.Proofs

namespace Go.Proofs.YtngpopalpofhgaaGreatDoor
open Go.RowKit
set_option maxHeartbeats 400000
set_option maxRecDepth 100000

structure PassV where
 f : Int
 t : Int
 way : ByteArray
instance : Inhabited PassV := ⟨⟨0, 0, ByteArray.empty⟩⟩
def pass0 : PassV := ⟨0, 0, ByteArray.empty⟩
def cPass (p : PassV) : Value := .agg #[.int .i64 p.f, .int .i64 p.t, .string p.way]
attribute [go_sem] cPass
theorem cPass1 (x : PassV) : cPass x = .agg (cPass x).cells := rfl
theorem cPassS (x : PassV) : (cPass x).cells.size = 3 := rfl
theorem cPassO (x : PassV) : ∀ u ∈ (cPass x).cells.toList, u.oneCell' = true := by
 intro u hu; simp [cPass, Value.cells] at hu; rcases hu with rfl | rfl | rfl <;> rfl
abbrev PassesR (w : World) (a : Option Addr) (cap : Nat) (l : List PassV) : Prop := Reps cPass 3 w a cap l
theorem E_passes : ETy Tryz.prog 32 57 (.agg #[.int .i64 0, .int .i64 0, .string ⟨#[]⟩]) 3 32 := ⟨Tryz.underlying32, by kernel_rfl, rfl, by decide⟩
theorem F_pass : Aggr Tryz.prog 57 := ⟨_, Tryz.underlying57, rfl⟩

def byteAt (s : ByteArray) (k : Nat) : Int := if h : k < s.size then ((s[k]'h).toNat : Int) else 0
theorem byteAt_in {s : ByteArray} {k : Nat} (h : k < s.size) : byteAt s k = ((s[k]'h).toNat : Int) := by simp [byteAt, h]

theorem wpList_nextS {P : Program} {ops : Array Oper} {rest : List Oper} {a : Act} {Q : Exit → Act → World → Prop} {d : Option Tmp} {ty : TypeId} {p : String} {x : Operand} {af : Array Edge} {w : World} (k : Nat) (s : ByteArray) (pos : Nat)
  (hk : w.heap[k]? = some (.stringIter s pos)) (h : pos < s.size) (ha : byteAt s pos < 128) (hx : a.eval x = .pointer (some ⟨k, 0, none⟩))
  (hK : ∀ w', w'.heap[k]? = some (.stringIter s (pos + 1)) → w.grownBy w' (some k) → w.heap.size ≤ w'.heap.size → wpList P ops Q rest (a.put d (.tuple #[.bool true, .int .i64 pos, .int .i32 (byteAt s pos)])) w') :
  wpList P ops Q (⟨d, .next x true, ty, p, af, none⟩ :: rest) a w := by
 refine wpList_plain rfl fun K hK' => ?_
 rw [byteAt_in h] at ha
 have hrun := Lib.run_next_ascii_at (P := P) w k s pos ty hk h (by omega)
 unfold Oper.wp
 simp only [execOp, hx]
 simp [hrun, Result.andThen]
 refine hK' _ _ ?_
 have := hK _ (Lib.iterAt_heap w k s pos (pos + 1) hk) ⟨rfl, rfl, rfl, by rw [Lib.iterAt_size]; exact Nat.le_refl _, fun i _ hi => Lib.iterAt_other w k i s (pos + 1) (by simpa using hi)⟩ (by rw [Lib.iterAt_size]; exact Nat.le_refl _)
 rw [byteAt_in h] at this
 exact this
theorem wpList_endS {P : Program} {ops : Array Oper} {rest : List Oper} {a : Act} {Q : Exit → Act → World → Prop} {d : Option Tmp} {ty : TypeId} {p : String} {x : Operand} {af : Array Edge} {w : World} (k : Nat) (s : ByteArray) (pos : Nat)
  (hk : w.heap[k]? = some (.stringIter s pos)) (h : ¬ pos < s.size) (hx : a.eval x = .pointer (some ⟨k, 0, none⟩))
  (hK : wpList P ops Q rest (a.put d (.tuple #[.bool false])) w) :
  wpList P ops Q (⟨d, .next x true, ty, p, af, none⟩ :: rest) a w := by
 refine wpList_plain rfl fun K hK' => ?_
 have hrun := Lib.run_next_end_at (P := P) w k s pos ty hk h
 unfold Oper.wp
 simp only [execOp, hx]
 simp [hrun, Result.andThen]
 exact hK' _ _ hK

/-- how far a pass goes. -/
def distP (p : PassV) : Int := if p.f ≤ p.t then p.t - p.f else p.f - p.t
theorem distance_any (p : PassV) (w : World) (h1 : 1 ≤ p.f) (h2 : p.f ≤ 12) (h3 : 1 ≤ p.t) (h4 : p.t ≤ 12) :
  Calls Tryz.prog 115 #[.agg #[.int .i64 p.f, .int .i64 p.t, .string p.way]] w fun r w' => r = .returned (.int .i64 (distP p)) ∧ Below w.heap.size w w' := by
 have hmx : max (p.t - p.f) (p.f - p.t) = distP p := by unfold distP; split <;> omega
 go_enter Tryz.func115, Tryz.ntmps115
 go_wp2
 all_goals
  go_ret
  exact ⟨by first | rfl | (rw [show distP p = p.f - p.t by unfold distP; split <;> omega]; rfl) | (rw [show distP p = p.t - p.f by unfold distP; split <;> omega]; rfl) | (rw [← hmx]; rfl) | simp [hmx], bal (Below.refl _ _) _⟩
end Go.Proofs.YtngpopalpofhgaaGreatDoor

namespace Go.Proofs.YtngpopalpofhgaaGreatDoor
open Go.RowKit
set_option maxHeartbeats 400000
set_option maxRecDepth 100000

def posOf (w : World) (k : Nat) : Nat := match w.heap[k]? with | some (.stringIter _ p) => p | _ => 0
theorem posOf_eq {w : World} {k p : Nat} {s : ByteArray} (h : w.heap[k]? = some (.stringIter s p)) : posOf w k = p := by simp [posOf, h]

def letterAt (p : PassV) (k : Nat) : Int :=
 if byteAt p.way k == 117 then -(if p.t < p.f then (k : Int) + 1 - p.f else p.f + k) else (if p.t < p.f then (k : Int) + 1 - p.f else p.f + k)
def lettersK (p : PassV) (k : Nat) : List Int := (List.range k).map (letterAt p)
def lettersL (p : PassV) : List Int := lettersK p p.way.size
theorem lettersK_succ (p : PassV) (k : Nat) : lettersK p (k + 1) = lettersK p k ++ [letterAt p k] := by simp [lettersK, List.range_succ]
theorem lettersK_len (p : PassV) (k : Nat) : (lettersK p k).length = k := by simp [lettersK]

theorem letters_any (p : PassV) (w : World) (h1 : 1 ≤ p.f) (h2 : p.f ≤ 12) (h3 : 1 ≤ p.t) (h4 : p.t ≤ 12) (hz : p.way.size ≤ 64) (hA : ∀ k, k < p.way.size → byteAt p.way k < 128) :
  Calls Tryz.prog 50 #[.agg #[.int .i64 p.f, .int .i64 p.t, .string p.way]] w fun r w' => ∃ v, r = .returned v ∧ OwnI w.heap.size w' v (lettersL p) ∧ Below w.heap.size w w' := by
 go_enter Tryz.func50, Tryz.ntmps50
 go_wp2_with fail
 go_loopw [3, 4, 5, 6] (fun v _ _ _ wr => ∃ k : Nat, k ≤ p.way.size ∧ wr.heap[w.heap.size + 1]? = some (.stringIter p.way k) ∧ OwnI (w.heap.size + 2) wr v (lettersK p k) ∧ wr.cell? ⟨w.heap.size, 0, none⟩ = some (.int .i64 p.f) ∧ wr.cell? ⟨w.heap.size, 1, none⟩ = some (.int .i64 p.t) ∧ Below w.heap.size w wr ∧ w.heap.size + 2 ≤ wr.heap.size)
  (fun _ _ _ _ wr => p.way.size - posOf wr (w.heap.size + 1))
 case atStart =>
  refine ⟨0, by omega, ?_, own_nil cIntS, ?_, ?_, ?_, ?_⟩
  ·have := World.iter_heap (w.alloc (.cells #[.int .i64 p.f, .int .i64 p.t, .string p.way] 57)) p.way 0
   simpa using this
  ·simp [World.iter, go_sem]
  ·simp [World.iter, go_sem]
  ·exact bal (bal (Below.refl _ _) _) _
  ·simp [World.iter]
 case round =>
  obtain ⟨k, hk, hit, hO, hc0, hc1, hbr, hsz⟩ := hrel
  have hlen := lettersK_len p k
  have hle : (lettersK p k).length ≤ 64 := by omega
  have HLEN := hid hlen; clear hlen
  have hpos := posOf_eq hit
  have HPOS := hid hpos; clear hpos
  have HIT := hid hit; clear hit
  by_cases hlt : k < p.way.size
  ·have hasc := hA k hlt
   have HASC := hid hasc; clear hasc
   have hsu := lettersK_succ p k
   have HSU := hid hsu; clear hsu
   by_cases hu : byteAt p.way k = 117
   ·have hub : (byteAt p.way k == 117) = true := by rw [hu]; rfl
    have HU := hid hu; clear hu
    by_cases hd : p.t < p.f
    ·have hL : letterAt p k = -((k : Int) + 1 - p.f) := by rw [letterAt, hub, if_pos rfl, if_pos hd]
     have HL := hid hL; clear hL
     go_wp2_with (first | (((with_reducible refine wpList_nextS (w.heap.size + 1) (p.way) (k) (HIT.out) (hlt) (HASC.out) wU ?_); intro w2 hi2 hg2 hs2); have hd0 := hg2.cell hc0 (by simp); have hd1 := hg2.cell hc1 (by simp); have ho2 := hO.kept hg2 (.inr (fun e => by have := (hO.lt _ e).1; omega)); have HI2 := hid hi2; clear hi2) | ((with_reducible refine wpList_app (l := (lettersK p k)) (ys := [(-((k : Int) + 1 - p.f))]) E_ints wU wU ((ho2).alloc _) (reps_new1 cIntS ((-((k : Int) + 1 - p.f))) _ _ (by simp) rfl) cIntO (by simp; omega) (by first | omega | (simp; omega)) (by simp; omega) ?_); intro v3 w3 ho3 hg3 hat3))
     have hb2 := hbr.grown hg2 (by omega) (fun j hj => by cases hj; omega)
     have hi3 : w3.heap[w.heap.size + 1]? = some (.stringIter p.way (k + 1)) := (hg3.block _ (by simp; omega) (fun e => by have := (ho2.lt _ e.symm).1; omega)).trans ((Below.heap_alloc _ _ _ (by omega)).trans HI2.out)
     have q0 := hg3.cell (((Below.refl _ _).alloc (Nat.le_refl _) (.cells #[.int .i64 (-((k : Int) + 1 - p.f))] 3)).cell (p := ⟨w.heap.size, 0, none⟩) (by simp; omega) |>.trans hd0) (fun e => by have := (ho2.lt _ e.symm).1; simp at this; omega)
     have q1 := hg3.cell (((Below.refl _ _).alloc (Nat.le_refl _) (.cells #[.int .i64 (-((k : Int) + 1 - p.f))] 3)).cell (p := ⟨w.heap.size, 1, none⟩) (by simp; omega) |>.trans hd1) (fun e => by have := (ho2.lt _ e.symm).1; simp at this; omega)
     have b3 := below_own' (bal hb2 (.cells #[.int .i64 (-((k : Int) + 1 - p.f))] 3)) hg3 (ho2.alloc _) (by omega) (by simp; omega)
     have z3 := hg3.size
     simp at z3
     exact ⟨⟨k + 1, by omega, hi3, by rw [HSU.out, HL.out]; exact ho3, q0, q1, b3, by omega⟩, by rw [posOf_eq hi3, HPOS.out]; omega⟩
    ·have hL : letterAt p k = -(p.f + (k : Int)) := by rw [letterAt, hub, if_pos rfl, if_neg hd]
     have HL := hid hL; clear hL
     go_wp2_with (first | (((with_reducible refine wpList_nextS (w.heap.size + 1) (p.way) (k) (HIT.out) (hlt) (HASC.out) wU ?_); intro w2 hi2 hg2 hs2); have hd0 := hg2.cell hc0 (by simp); have hd1 := hg2.cell hc1 (by simp); have ho2 := hO.kept hg2 (.inr (fun e => by have := (hO.lt _ e).1; omega)); have HI2 := hid hi2; clear hi2) | ((with_reducible refine wpList_app (l := (lettersK p k)) (ys := [(-(p.f + (k : Int)))]) E_ints wU wU ((ho2).alloc _) (reps_new1 cIntS ((-(p.f + (k : Int)))) _ _ (by simp) rfl) cIntO (by simp; omega) (by first | omega | (simp; omega)) (by simp; omega) ?_); intro v3 w3 ho3 hg3 hat3))
     have hb2 := hbr.grown hg2 (by omega) (fun j hj => by cases hj; omega)
     have hi3 : w3.heap[w.heap.size + 1]? = some (.stringIter p.way (k + 1)) := (hg3.block _ (by simp; omega) (fun e => by have := (ho2.lt _ e.symm).1; omega)).trans ((Below.heap_alloc _ _ _ (by omega)).trans HI2.out)
     have q0 := hg3.cell (((Below.refl _ _).alloc (Nat.le_refl _) (.cells #[.int .i64 (-(p.f + (k : Int)))] 3)).cell (p := ⟨w.heap.size, 0, none⟩) (by simp; omega) |>.trans hd0) (fun e => by have := (ho2.lt _ e.symm).1; simp at this; omega)
     have q1 := hg3.cell (((Below.refl _ _).alloc (Nat.le_refl _) (.cells #[.int .i64 (-(p.f + (k : Int)))] 3)).cell (p := ⟨w.heap.size, 1, none⟩) (by simp; omega) |>.trans hd1) (fun e => by have := (ho2.lt _ e.symm).1; simp at this; omega)
     have b3 := below_own' (bal hb2 (.cells #[.int .i64 (-(p.f + (k : Int)))] 3)) hg3 (ho2.alloc _) (by omega) (by simp; omega)
     have z3 := hg3.size
     simp at z3
     exact ⟨⟨k + 1, by omega, hi3, by rw [HSU.out, HL.out]; exact ho3, q0, q1, b3, by omega⟩, by rw [posOf_eq hi3, HPOS.out]; omega⟩
   ·have hub : (byteAt p.way k == 117) = false := by simpa using hu
    clear hu
    by_cases hd : p.t < p.f
    ·have hL : letterAt p k = ((k : Int) + 1 - p.f) := by rw [letterAt, hub, if_neg (by simp), if_pos hd]
     have HL := hid hL; clear hL
     go_wp2_with (first | (((with_reducible refine wpList_nextS (w.heap.size + 1) (p.way) (k) (HIT.out) (hlt) (HASC.out) wU ?_); intro w2 hi2 hg2 hs2); have hd0 := hg2.cell hc0 (by simp); have hd1 := hg2.cell hc1 (by simp); have ho2 := hO.kept hg2 (.inr (fun e => by have := (hO.lt _ e).1; omega)); have HI2 := hid hi2; clear hi2) | ((with_reducible refine wpList_app (l := (lettersK p k)) (ys := [(((k : Int) + 1 - p.f))]) E_ints wU wU ((ho2).alloc _) (reps_new1 cIntS ((((k : Int) + 1 - p.f))) _ _ (by simp) rfl) cIntO (by simp; omega) (by first | omega | (simp; omega)) (by simp; omega) ?_); intro v3 w3 ho3 hg3 hat3))
     have hb2 := hbr.grown hg2 (by omega) (fun j hj => by cases hj; omega)
     have hi3 : w3.heap[w.heap.size + 1]? = some (.stringIter p.way (k + 1)) := (hg3.block _ (by simp; omega) (fun e => by have := (ho2.lt _ e.symm).1; omega)).trans ((Below.heap_alloc _ _ _ (by omega)).trans HI2.out)
     have q0 := hg3.cell (((Below.refl _ _).alloc (Nat.le_refl _) (.cells #[.int .i64 (((k : Int) + 1 - p.f))] 3)).cell (p := ⟨w.heap.size, 0, none⟩) (by simp; omega) |>.trans hd0) (fun e => by have := (ho2.lt _ e.symm).1; simp at this; omega)
     have q1 := hg3.cell (((Below.refl _ _).alloc (Nat.le_refl _) (.cells #[.int .i64 (((k : Int) + 1 - p.f))] 3)).cell (p := ⟨w.heap.size, 1, none⟩) (by simp; omega) |>.trans hd1) (fun e => by have := (ho2.lt _ e.symm).1; simp at this; omega)
     have b3 := below_own' (bal hb2 (.cells #[.int .i64 (((k : Int) + 1 - p.f))] 3)) hg3 (ho2.alloc _) (by omega) (by simp; omega)
     have z3 := hg3.size
     simp at z3
     exact ⟨⟨k + 1, by omega, hi3, by rw [HSU.out, HL.out]; exact ho3, q0, q1, b3, by omega⟩, by rw [posOf_eq hi3, HPOS.out]; omega⟩
    ·have hL : letterAt p k = (p.f + (k : Int)) := by rw [letterAt, hub, if_neg (by simp), if_neg hd]
     have HL := hid hL; clear hL
     go_wp2_with (first | (((with_reducible refine wpList_nextS (w.heap.size + 1) (p.way) (k) (HIT.out) (hlt) (HASC.out) wU ?_); intro w2 hi2 hg2 hs2); have hd0 := hg2.cell hc0 (by simp); have hd1 := hg2.cell hc1 (by simp); have ho2 := hO.kept hg2 (.inr (fun e => by have := (hO.lt _ e).1; omega)); have HI2 := hid hi2; clear hi2) | ((with_reducible refine wpList_app (l := (lettersK p k)) (ys := [((p.f + (k : Int)))]) E_ints wU wU ((ho2).alloc _) (reps_new1 cIntS (((p.f + (k : Int)))) _ _ (by simp) rfl) cIntO (by simp; omega) (by first | omega | (simp; omega)) (by simp; omega) ?_); intro v3 w3 ho3 hg3 hat3))
     have hb2 := hbr.grown hg2 (by omega) (fun j hj => by cases hj; omega)
     have hi3 : w3.heap[w.heap.size + 1]? = some (.stringIter p.way (k + 1)) := (hg3.block _ (by simp; omega) (fun e => by have := (ho2.lt _ e.symm).1; omega)).trans ((Below.heap_alloc _ _ _ (by omega)).trans HI2.out)
     have q0 := hg3.cell (((Below.refl _ _).alloc (Nat.le_refl _) (.cells #[.int .i64 ((p.f + (k : Int)))] 3)).cell (p := ⟨w.heap.size, 0, none⟩) (by simp; omega) |>.trans hd0) (fun e => by have := (ho2.lt _ e.symm).1; simp at this; omega)
     have q1 := hg3.cell (((Below.refl _ _).alloc (Nat.le_refl _) (.cells #[.int .i64 ((p.f + (k : Int)))] 3)).cell (p := ⟨w.heap.size, 1, none⟩) (by simp; omega) |>.trans hd1) (fun e => by have := (ho2.lt _ e.symm).1; simp at this; omega)
     have b3 := below_own' (bal hb2 (.cells #[.int .i64 ((p.f + (k : Int)))] 3)) hg3 (ho2.alloc _) (by omega) (by simp; omega)
     have z3 := hg3.size
     simp at z3
     exact ⟨⟨k + 1, by omega, hi3, by rw [HSU.out, HL.out]; exact ho3, q0, q1, b3, by omega⟩, by rw [posOf_eq hi3, HPOS.out]; omega⟩
  ·have : k = p.way.size := by omega
   subst this
   go_wp2_with (with_reducible refine wpList_endS (w.heap.size + 1) (p.way) (p.way.size) (HIT.out) (hlt) wU ?_)
   go_ret
   exact ⟨_, rfl, hO.mono (by omega), hbr⟩
end Go.Proofs.YtngpopalpofhgaaGreatDoor

namespace Go.Proofs.YtngpopalpofhgaaGreatDoor
open Go.RowKit
set_option maxHeartbeats 400000
set_option maxRecDepth 100000

end Go.Proofs.YtngpopalpofhgaaGreatDoor

namespace Go.Proofs.YtngpopalpofhgaaGreatDoor
open Go.RowKit
set_option maxHeartbeats 1000000
set_option maxRecDepth 100000

def whenV (b : Bool) (e : Int) : Int := if b then e else 0
@[go_sem] theorem whenV_true (e : Int) : whenV true e = e := rfl
@[go_sem] theorem whenV_false (e : Int) : whenV false e = 0 := rfl
theorem whenV_any (b : Bool) (e : Int) (w : World) :
  Calls Tryz.prog 86 #[.bool b, .int .i64 e] w fun r w' => r = .returned (.int .i64 (whenV b e)) ∧ w = w' := when_any b e w
def firstV (l : List Int) : Int := firstE l
theorem firstV_any (a : Option Addr) (cap : Nat) (l : List Int) (w : World) (h : Ints w a cap l) :
  Calls Tryz.prog 84 #[.slice a l.length cap] w fun r w' => r = .returned (.int .i64 (firstV l)) ∧ w = w' := first_any a cap l w h
theorem bytes_empty (x : ByteArray) : x.toList.isEmpty = decide (x = ⟨#[]⟩) := by
 rw [Bool.eq_iff_iff, List.isEmpty_iff, decide_eq_true_iff, ByteArray.toList_eq]
 constructor
 ·intro h
  have := Array.toList_eq_nil_iff.1 h
  cases x; simp_all
 ·rintro rfl; rfl

theorem pass_eql (f t : Int) (y : ByteArray) (w : World) : (binOp .eql 57 (.agg #[.int .i64 f, .int .i64 t, .string y]) (.agg #[.int .i64 f, .int .i64 f, .string y])).run Tryz.prog w = .ok (.bool (t == f)) w := by
 by_cases h : t = f
 ·subst h; simp [go_sem]
 ·have : (t == f) = false := by simpa using h
  rw [this]; simp [go_sem, h]
attribute [local go_sem ↓] pass_eql

theorem distanceW_any (p : PassV) (w : World) :
  Calls Tryz.prog 115 #[.agg #[.int .i64 p.f, .int .i64 p.t, .string p.way]] w fun r w' => ∃ d : Int, r = .returned (.int .i64 d) ∧ Below w.heap.size w w' := by
 go_enter Tryz.func115, Tryz.ntmps115
 go_wp2
 all_goals
  go_ret
  exact ⟨_, rfl, bal (Below.refl _ _) _⟩

/-- what is left of a text of ways. -/
def trimOU (s : ByteArray) : ByteArray := ⟨(Lib.trimS s.data.toList [111, 117]).toArray⟩
theorem trimOU_any (s : ByteArray) (w : World) (hs : s.size ≤ 9223372036854775807) :
  Calls Tryz.prog 114 #[.string s, .string ⟨#[111, 117]⟩] w fun e w' => e = .returned (.string (trimOU s)) ∧ Below w.heap.size w w' :=
 Any.strings_Trim_laid Tryz.lays160 kR s ⟨#[111, 117]⟩ w hs (by decide) (ascii_of_all (by decide))

/-- the error of a pass. -/
def passE (n : Int) (p : PassV) : Int :=
 if p.f < 1 ∨ p.t < 1 ∨ n < p.f ∨ n < p.t then 3 else if p.t = p.f then 9 else if (p.way.size : Int) ≠ distP p then 2 else if trimOU p.way ≠ ⟨#[]⟩ then 1 else 0
theorem passE_first (n : Int) (p : PassV) (h1 : 1 ≤ p.f) (h2 : 1 ≤ p.t) (h3 : p.f ≤ n) (h4 : p.t ≤ n) :
  passE n p = firstV [0, whenV (p.t == p.f) 9, whenV ((p.way.size : Int) != distP p) 2, whenV (!(trimOU p.way).toList.isEmpty) 1] := by
 unfold passE firstV whenV
 rw [if_neg (by omega), bytes_empty]
 simp only [firstE_cons, firstE_nil]
 by_cases a1 : p.t = p.f <;> by_cases a2 : (p.way.size : Int) = distP p <;> by_cases a3 : trimOU p.way = ⟨#[]⟩ <;> simp [a1, a2, a3]
def passesGo (n : Int) : List PassV → Int
 | [] => 0
 | p :: r => if passE n p ≠ 0 then passE n p else passesGo n r
def passesE (n : Int) (l : List PassV) : Int := if n < 2 ∨ 12 < n then 3 else if 1000 < l.length then 5 else passesGo n l

theorem passesGo_step (n : Int) (l : List PassV) (k : Nat) (h : k < l.length) : passesGo n (l.drop k) = if passE n (atD pass0 l k) ≠ 0 then passE n (atD pass0 l k) else passesGo n (l.drop (k + 1)) := by
 have e2 : atD pass0 l k = l[k] := by simp [atD, h]
 rw [List.drop_eq_getElem_cons h, passesGo, e2]

theorem held_below {H H0 : Nat} {p : PassV} {w0 W W' : World} (h : W.cell? ⟨H, 0, none⟩ = some (.int .i64 p.f) ∧ W.cell? ⟨H, 1, none⟩ = some (.int .i64 p.t) ∧ W.cell? ⟨H, 2, none⟩ = some (.string p.way) ∧ Below H0 w0 W ∧ H < H0 ∧ H0 ≤ W.heap.size) (hb : Below W.heap.size W W') :
  W'.cell? ⟨H, 0, none⟩ = some (.int .i64 p.f) ∧ W'.cell? ⟨H, 1, none⟩ = some (.int .i64 p.t) ∧ W'.cell? ⟨H, 2, none⟩ = some (.string p.way) ∧ Below H0 w0 W' ∧ H < H0 ∧ H0 ≤ W'.heap.size := by
 obtain ⟨h1, h2, h3, h4, h5, h6⟩ := h
 have hz := hb.size
 exact ⟨(hb.cell (by show H < _; omega)).trans h1, (hb.cell (by show H < _; omega)).trans h2, (hb.cell (by show H < _; omega)).trans h3, h4.trans (hb.mono h6), h5, by omega⟩
theorem held_alloc {H H0 : Nat} {p : PassV} {w0 W : World} (h : W.cell? ⟨H, 0, none⟩ = some (.int .i64 p.f) ∧ W.cell? ⟨H, 1, none⟩ = some (.int .i64 p.t) ∧ W.cell? ⟨H, 2, none⟩ = some (.string p.way) ∧ Below H0 w0 W ∧ H < H0 ∧ H0 ≤ W.heap.size) (o : Obj) :
  (W.alloc o).cell? ⟨H, 0, none⟩ = some (.int .i64 p.f) ∧ (W.alloc o).cell? ⟨H, 1, none⟩ = some (.int .i64 p.t) ∧ (W.alloc o).cell? ⟨H, 2, none⟩ = some (.string p.way) ∧ Below H0 w0 (W.alloc o) ∧ H < H0 ∧ H0 ≤ (W.alloc o).heap.size :=
 held_below h ((Below.refl _ _).alloc (Nat.le_refl _) o)
theorem held_drew {H H0 : Nat} {p : PassV} {w0 W : World} (h : W.cell? ⟨H, 0, none⟩ = some (.int .i64 p.f) ∧ W.cell? ⟨H, 1, none⟩ = some (.int .i64 p.t) ∧ W.cell? ⟨H, 2, none⟩ = some (.string p.way) ∧ Below H0 w0 W ∧ H < H0 ∧ H0 ≤ W.heap.size) :
  W.drew.cell? ⟨H, 0, none⟩ = some (.int .i64 p.f) ∧ W.drew.cell? ⟨H, 1, none⟩ = some (.int .i64 p.t) ∧ W.drew.cell? ⟨H, 2, none⟩ = some (.string p.way) ∧ Below H0 w0 W.drew ∧ H < H0 ∧ H0 ≤ W.drew.heap.size :=
 held_below h (Below.refl _ _).drew
theorem held_start {H : Nat} {p : PassV} {wr w2 : World} {o : Obj} (hH : wr.heap.size = H) (ho : o = .cells #[.int .i64 p.f, .int .i64 p.t, .string p.way] 57) (hb : Below (wr.alloc o).heap.size (wr.alloc o) w2) :
  w2.cell? ⟨H, 0, none⟩ = some (.int .i64 p.f) ∧ w2.cell? ⟨H, 1, none⟩ = some (.int .i64 p.t) ∧ w2.cell? ⟨H, 2, none⟩ = some (.string p.way) ∧ Below (H + 1) w2 w2 ∧ H < H + 1 ∧ H + 1 ≤ w2.heap.size := by
 subst hH; subst ho
 have hz := hb.size
 simp at hz
 refine ⟨(hb.cell (by simp)).trans ?_, (hb.cell (by simp)).trans ?_, (hb.cell (by simp)).trans ?_, Below.refl _ _, by omega, hz⟩ <;> simp [go_sem]

theorem held_end {H H0 : Nat} {p : PassV} {w wr w2 W : World} {o : Obj} (hH : wr.heap.size = H) (hbr : Below w.heap.size w wr) (hb2 : Below (wr.alloc o).heap.size (wr.alloc o) w2) (h : W.cell? ⟨H, 0, none⟩ = some (.int .i64 p.f) ∧ W.cell? ⟨H, 1, none⟩ = some (.int .i64 p.t) ∧ W.cell? ⟨H, 2, none⟩ = some (.string p.way) ∧ Below H0 w2 W ∧ H < H0 ∧ H0 ≤ W.heap.size) : Below w.heap.size w W := by
 have hz := hbr.size
 exact (bnext (bal hbr o) hb2).trans (h.2.2.2.1.mono (by omega))

theorem CheckPasses_any (n : Int) (a : Option Addr) (cap : Nat) (l : List PassV) (w : World) (hS : PassesR w a cap l) (hl : l.length ≤ 1048576) (hw : ∀ p ∈ l, p.way.size ≤ 1048576) :
  Calls Tryz.prog 49 #[.int .i64 n, .slice a l.length cap] w fun r w' => r = .returned (.int .i64 (passesE n l)) ∧ Below w.heap.size w w' := by
 have hcap := hS.le
 have hm := hS.max
 by_cases h1 : n < 2
 ·have e : passesE n l = 3 := by unfold passesE; rw [if_pos (.inl h1)]
  rw [e]
  clear e
  go_enter Tryz.func49, Tryz.ntmps49
  go_wp2_with (first | (go_at_call 86; refine (when_any _ _ _).mono ?_; rintro e w' ⟨rfl, rfl⟩) | (go_at_call 84; refine (first_any _ _ [_, _] _ (reps_newN cIntS [_, _] 2 rfl (by decide) _ _ (by simp) rfl)).mono ?_; rintro e w' ⟨rfl, rfl⟩))
  all_goals
   go_ret
   exact ⟨rfl, bal (Below.refl _ _) _⟩
 by_cases h2 : 12 < n
 ·have e : passesE n l = 3 := by unfold passesE; rw [if_pos (.inr h2)]
  rw [e]
  clear e
  go_enter Tryz.func49, Tryz.ntmps49
  go_wp2_with (first | (go_at_call 86; refine (when_any _ _ _).mono ?_; rintro e w' ⟨rfl, rfl⟩) | (go_at_call 84; refine (first_any _ _ [_, _] _ (reps_newN cIntS [_, _] 2 rfl (by decide) _ _ (by simp) rfl)).mono ?_; rintro e w' ⟨rfl, rfl⟩))
  all_goals
   go_ret
   exact ⟨rfl, bal (Below.refl _ _) _⟩
 by_cases h3 : 1000 < l.length
 ·have e : passesE n l = 5 := by unfold passesE; rw [if_neg (by omega), if_pos h3]
  rw [e]
  clear e
  go_enter Tryz.func49, Tryz.ntmps49
  go_wp2_with (first | (go_at_call 86; refine (when_any _ _ _).mono ?_; rintro e w' ⟨rfl, rfl⟩) | (go_at_call 84; refine (first_any _ _ [_, _] _ (reps_newN cIntS [_, _] 2 rfl (by decide) _ _ (by simp) rfl)).mono ?_; rintro e w' ⟨rfl, rfl⟩))
  all_goals
   go_ret
   exact ⟨rfl, bal (Below.refl _ _) _⟩
 have e : passesE n l = passesGo n l := by unfold passesE; rw [if_neg (by omega), if_neg h3]
 have HE := hid e; clear e
 have HW := hid hw; clear hw
 go_enter Tryz.func49, Tryz.ntmps49
 go_wp2_with (first | (go_at_call 86; refine (when_any _ _ _).mono ?_; rintro e w' ⟨rfl, rfl⟩) | (go_at_call 84; refine (first_any _ _ [_, _] _ (reps_newN cIntS [_, _] 2 rfl (by decide) _ _ (by simp) rfl)).mono ?_; rintro e w' ⟨rfl, rfl⟩))
 go_loopw [7, 8, 9, 10, 29] (fun _ _ _ _ i wr => ∃ k : Nat, k ≤ l.length ∧ i = .int .i64 k ∧ passesGo n (l.drop k) = passesE n l ∧ Below w.heap.size w wr) (fun _ _ _ _ i _ => l.length - (intOf i).toNat)
 case atStart => exact ⟨0, by omega, rfl, HE.out.symm, bal (Below.refl _ _) _⟩
 case round =>
  obtain ⟨k, hk, rfl, hf, hbr⟩ := hrel
  have hSr := hS.below hbr
  by_cases hlt : k < l.length
  ·have hs := passesGo_step n l k hlt
   rw [hf] at hs
   have hwy := HW.out (atD pass0 l k) (by simp [atD, hlt])
   have HS := hid hs; clear hs hf
   obtain ⟨q, hq⟩ : ∃ q, ((atD pass0 l k).t == (atD pass0 l k).f) = q := ⟨_, rfl⟩
   by_cases b1 : min (atD pass0 l k).f (atD pass0 l k).t < 1
   ·have hE : passE n (atD pass0 l k) = 3 := by unfold passE; rw [if_pos (by omega)]
    have HE2 := hid hE; clear hE
    have hF : ∀ x y z, firstV [3, x, y, z] = 3 := fun _ _ _ => rfl
    go_wp2_with (first | (with_reducible refine wpList_idxS _ pass0 E_passes F_pass cPass1 wU wU (hSr) oD oD (fun _ => wU) (fun _ => ?_)) | (go_at_call 114; refine (trimOU_any _ _ (by omega)).mono ?_; rintro e w2 ⟨rfl, hb2⟩))
    have hst := held_start (p := atD pass0 l k) (wr := wr) rfl rfl hb2
    go_region_held3 (fun W => W.cell? ⟨wr.heap.size, 0, none⟩ = some (.int .i64 (atD pass0 l k).f) ∧ W.cell? ⟨wr.heap.size, 1, none⟩ = some (.int .i64 (atD pass0 l k).t) ∧ W.cell? ⟨wr.heap.size, 2, none⟩ = some (.string (atD pass0 l k).way) ∧ Below (wr.heap.size + 1) w2 W ∧ wr.heap.size < wr.heap.size + 1 ∧ wr.heap.size + 1 ≤ W.heap.size)
      (first | assumption | exact held_alloc ‹_› _ | exact held_drew ‹_› | exact held_below ‹_› ‹_›)
      (first | (go_at_call 86; refine (whenV_any _ _ _).mono ?_; rintro e w' ⟨rfl, rfl⟩) | (go_at_call 115; refine (distanceW_any (atD pass0 l k) _).mono ?_; rintro e w5 ⟨d5, rfl, hb5⟩) | (go_at_call 84; refine (firstV_any _ _ [_, _, _, _] _ (reps_newN cIntS [_, _, _, _] 4 rfl (by decide) _ _ (by simp) rfl)).mono ?_; rintro e w' ⟨rfl, rfl⟩))
    clear hst
    have hb9 := held_end (p := atD pass0 l k) rfl hbr hb2 ‹_›
    go_wp2_with fail
    go_ret
    exact ⟨by have := HS.out; rw [HE2.out, if_pos (by omega)] at this; rw [this]; rfl, hb9⟩
   by_cases b2 : n < max (atD pass0 l k).f (atD pass0 l k).t
   ·have hE : passE n (atD pass0 l k) = 3 := by unfold passE; rw [if_pos (by omega)]
    have HE2 := hid hE; clear hE
    have hF : ∀ x y z, firstV [3, x, y, z] = 3 := fun _ _ _ => rfl
    go_wp2_with (first | (with_reducible refine wpList_idxS _ pass0 E_passes F_pass cPass1 wU wU (hSr) oD oD (fun _ => wU) (fun _ => ?_)) | (go_at_call 114; refine (trimOU_any _ _ (by omega)).mono ?_; rintro e w2 ⟨rfl, hb2⟩))
    have hst := held_start (p := atD pass0 l k) (wr := wr) rfl rfl hb2
    go_region_held3 (fun W => W.cell? ⟨wr.heap.size, 0, none⟩ = some (.int .i64 (atD pass0 l k).f) ∧ W.cell? ⟨wr.heap.size, 1, none⟩ = some (.int .i64 (atD pass0 l k).t) ∧ W.cell? ⟨wr.heap.size, 2, none⟩ = some (.string (atD pass0 l k).way) ∧ Below (wr.heap.size + 1) w2 W ∧ wr.heap.size < wr.heap.size + 1 ∧ wr.heap.size + 1 ≤ W.heap.size)
      (first | assumption | exact held_alloc ‹_› _ | exact held_drew ‹_› | exact held_below ‹_› ‹_›)
      (first | (go_at_call 86; refine (whenV_any _ _ _).mono ?_; rintro e w' ⟨rfl, rfl⟩) | (go_at_call 115; refine (distanceW_any (atD pass0 l k) _).mono ?_; rintro e w5 ⟨d5, rfl, hb5⟩) | (go_at_call 84; refine (firstV_any _ _ [_, _, _, _] _ (reps_newN cIntS [_, _, _, _] 4 rfl (by decide) _ _ (by simp) rfl)).mono ?_; rintro e w' ⟨rfl, rfl⟩))
    clear hst
    have hb9 := held_end (p := atD pass0 l k) rfl hbr hb2 ‹_›
    go_wp2_with fail
    go_ret
    exact ⟨by have := HS.out; rw [HE2.out, if_pos (by omega)] at this; rw [this]; rfl, hb9⟩
   have hP := passE_first n (atD pass0 l k) (by omega) (by omega) (by omega) (by omega)
   rw [hq] at hP
   by_cases hE : passE n (atD pass0 l k) = 0
   ·have HE2 := hid hE
    rw [hE] at hP
    have hF := hP.symm
    clear hP hE
    go_wp2_with (first | (with_reducible refine wpList_idxS _ pass0 E_passes F_pass cPass1 wU wU (hSr) oD oD (fun _ => wU) (fun _ => ?_)) | (go_at_call 114; refine (trimOU_any _ _ (by omega)).mono ?_; rintro e w2 ⟨rfl, hb2⟩))
    have hst := held_start (p := atD pass0 l k) (wr := wr) rfl rfl hb2
    go_region_held3 (fun W => W.cell? ⟨wr.heap.size, 0, none⟩ = some (.int .i64 (atD pass0 l k).f) ∧ W.cell? ⟨wr.heap.size, 1, none⟩ = some (.int .i64 (atD pass0 l k).t) ∧ W.cell? ⟨wr.heap.size, 2, none⟩ = some (.string (atD pass0 l k).way) ∧ Below (wr.heap.size + 1) w2 W ∧ wr.heap.size < wr.heap.size + 1 ∧ wr.heap.size + 1 ≤ W.heap.size)
      (first | assumption | exact held_alloc ‹_› _ | exact held_drew ‹_› | exact held_below ‹_› ‹_›)
      (first | (go_at_call 86; refine (whenV_any _ _ _).mono ?_; rintro e w' ⟨rfl, rfl⟩) | (go_at_call 115; refine (distance_any (atD pass0 l k) _ (by omega) (by omega) (by omega) (by omega)).mono ?_; rintro e w5 ⟨rfl, hb5⟩) | (go_at_call 84; refine (firstV_any _ _ [_, _, _, _] _ (reps_newN cIntS [_, _, _, _] 4 rfl (by decide) _ _ (by simp) rfl)).mono ?_; rintro e w' ⟨rfl, rfl⟩))
    clear hst
    have hb9 := held_end (p := atD pass0 l k) rfl hbr hb2 ‹_›
    go_wp2_with fail
    exact ⟨⟨k + 1, by omega, by go_num, by have := HS.out; rw [HE2.out] at this; exact this.symm, hb9⟩, by simp [intOf]; omega⟩
   ·obtain ⟨E, hEd⟩ : ∃ E, E = passE n (atD pass0 l k) := ⟨_, rfl⟩
    rw [← hEd] at hP hE
    have hF := hP.symm
    have hne : (E != 0) = true := by simpa using hE
    have HE2 := hid hEd.symm
    clear hP hEd
    go_wp2_with (first | (with_reducible refine wpList_idxS _ pass0 E_passes F_pass cPass1 wU wU (hSr) oD oD (fun _ => wU) (fun _ => ?_)) | (go_at_call 114; refine (trimOU_any _ _ (by omega)).mono ?_; rintro e w2 ⟨rfl, hb2⟩))
    have hst := held_start (p := atD pass0 l k) (wr := wr) rfl rfl hb2
    go_region_held3 (fun W => W.cell? ⟨wr.heap.size, 0, none⟩ = some (.int .i64 (atD pass0 l k).f) ∧ W.cell? ⟨wr.heap.size, 1, none⟩ = some (.int .i64 (atD pass0 l k).t) ∧ W.cell? ⟨wr.heap.size, 2, none⟩ = some (.string (atD pass0 l k).way) ∧ Below (wr.heap.size + 1) w2 W ∧ wr.heap.size < wr.heap.size + 1 ∧ wr.heap.size + 1 ≤ W.heap.size)
      (first | assumption | exact held_alloc ‹_› _ | exact held_drew ‹_› | exact held_below ‹_› ‹_›)
      (first | (go_at_call 86; refine (whenV_any _ _ _).mono ?_; rintro e w' ⟨rfl, rfl⟩) | (go_at_call 115; refine (distance_any (atD pass0 l k) _ (by omega) (by omega) (by omega) (by omega)).mono ?_; rintro e w5 ⟨rfl, hb5⟩) | (go_at_call 84; refine (firstV_any _ _ [_, _, _, _] _ (reps_newN cIntS [_, _, _, _] 4 rfl (by decide) _ _ (by simp) rfl)).mono ?_; rintro e w' ⟨rfl, rfl⟩))
    clear hst
    have hb9 := held_end (p := atD pass0 l k) rfl hbr hb2 ‹_›
    go_wp2_with fail
    go_ret
    exact ⟨by have := HS.out; rw [HE2.out, if_pos (by omega)] at this; rw [this]; rfl, hb9⟩
  ·have : k = l.length := by omega
   subst this
   rw [List.drop_length] at hf
   have HF := hid hf; clear hf
   go_wp2_with fail
   go_ret
   exact ⟨by rw [← HF.out]; rfl, hbr⟩
end Go.Proofs.YtngpopalpofhgaaGreatDoor

namespace Go.Proofs.YtngpopalpofhgaaGreatDoor
open Go.RowKit
set_option maxHeartbeats 1000000
set_option maxRecDepth 100000

theorem dropWhile_nil_all {α : Type} (q : α → Bool) : ∀ l : List α, l.dropWhile q = [] → ∀ x ∈ l, q x = true
 | [], _ => by simp
 | x :: r, h => by
   rw [List.dropWhile_cons] at h
   split at h
   · next hx =>
     intro y hy
     rcases List.mem_cons.1 hy with rfl | hy
     · exact hx
     · exact dropWhile_nil_all q r h y hy
   · cases h
theorem trimS_nil {l cs : List UInt8} (h : Lib.trimS l cs = []) : ∀ x ∈ l, cs.contains x = true := by
 unfold Lib.trimS Lib.trimLeftS at h
 have h1 := dropWhile_nil_all _ _ h
 unfold Lib.trimRightS at h1 h
 generalize hd : l.reverse.dropWhile (cs.contains ·) = d at *
 match d, hd with
 | [], hd => intro x hx; exact dropWhile_nil_all _ _ hd x (by simpa using hx)
 | y :: r, hd =>
  exfalso
  have hy : cs.contains y = true := h1 y (by simp)
  have := List.head?_dropWhile_not (cs.contains ·) l.reverse
  rw [hd] at this
  simp at this
  simp at hy
  exact this hy
theorem trimOU_nil {s : ByteArray} (h : trimOU s = ⟨#[]⟩) : ∀ k, k < s.size → byteAt s k = 111 ∨ byteAt s k = 117 := by
 intro k hk
 have h1 : Lib.trimS s.data.toList [111, 117] = [] := by
  unfold trimOU at h
  injection h with h
  simpa using h
 have h2 := trimS_nil h1 (s[k]'hk) (by rw [ByteArray.getElem_eq_getElem_data]; simp)
 rw [byteAt_in hk]
 simp at h2
 rcases h2 with h2 | h2 <;> rw [h2] <;> simp

theorem passesGo_zero {n : Int} : ∀ {l : List PassV}, passesGo n l = 0 → ∀ p ∈ l, passE n p = 0
 | [], _ => by simp
 | p :: r, h => by
   rw [passesGo] at h
   split at h
   · next h1 => exact absurd h h1
   · next h1 =>
     intro q hq
     rcases List.mem_cons.1 hq with rfl | hq
     · simpa using h1
     · exact passesGo_zero h q hq
theorem passE_zero {n : Int} {p : PassV} (h : passE n p = 0) : 1 ≤ p.f ∧ p.f ≤ n ∧ 1 ≤ p.t ∧ p.t ≤ n ∧ p.t ≠ p.f ∧ (p.way.size : Int) = distP p ∧ ∀ k, k < p.way.size → byteAt p.way k = 111 ∨ byteAt p.way k = 117 := by
 unfold passE at h
 split at h
 ·omega
 ·split at h
  ·omega
  ·split at h
   ·omega
   ·split at h
    ·omega
    ·next h1 h2 h3 h4 => exact ⟨by omega, by omega, by omega, by omega, h2, by omega, trimOU_nil (by simpa using h4)⟩
theorem passesE_zero {n : Int} {l : List PassV} (h : passesE n l = 0) : 2 ≤ n ∧ n ≤ 12 ∧ l.length ≤ 1000 ∧ ∀ p ∈ l, passE n p = 0 := by
 unfold passesE at h
 split at h
 ·omega
 ·split at h
  ·omega
  ·exact ⟨by omega, by omega, by omega, passesGo_zero h⟩
theorem passE_small {n : Int} {p : PassV} (hn : n ≤ 12) (h : passE n p = 0) : p.f ≤ 12 ∧ p.t ≤ 12 ∧ p.way.size ≤ 11 ∧ ∀ k, k < p.way.size → byteAt p.way k < 128 := by
 obtain ⟨h1, h2, h3, h4, h5, h6, h7⟩ := passE_zero h
 refine ⟨by omega, by omega, ?_, fun k hk => by have := h7 k hk; omega⟩
 unfold distP at h6
 split at h6 <;> omega

def lettersAll (l : List PassV) : List Int := l.flatMap lettersL
theorem lettersL_len (p : PassV) : (lettersL p).length = p.way.size := lettersK_len p _
theorem lettersAll_step (l : List PassV) (k : Nat) (h : k < l.length) : lettersAll (l.take (k + 1)) = lettersAll (l.take k) ++ lettersL (atD pass0 l k) := by
 have e2 : atD pass0 l k = l[k] := by simp [atD, h]
 unfold lettersAll
 rw [List.take_succ_eq_append_getElem h, e2, List.flatMap_append, List.flatMap_singleton]
def wordErr (n : Int) (l : List PassV) : Int := if passesE n l ≠ 0 then passesE n l else if 200 < (lettersAll l).length then 5 else 0
def wordL (n : Int) (l : List PassV) : List Int := if wordErr n l = 0 then lettersAll l else []

theorem Word_any (n : Int) (a : Option Addr) (cap : Nat) (l : List PassV) (w : World) (hS : PassesR w a cap l) (hl : l.length ≤ 1048576) (hw : ∀ p ∈ l, p.way.size ≤ 1048576) :
  Calls Tryz.prog 12 #[.int .i64 n, .slice a l.length cap] w fun r w' => RetLE w (wordL n l) (wordErr n l) r w' := by
 have hcap := hS.le
 have hm := hS.max
 have hc := CheckPasses_any n a cap l w hS hl hw
 by_cases h : passesE n l = 0
 ·rw [h] at hc
  obtain ⟨hn1, hn2, hl2, hall⟩ := passesE_zero h
  have eE : wordErr n l = if 200 < (lettersAll l).length then 5 else 0 := by simp [wordErr, h]
  have HE := hid eE; have HC := hid hc; have HA := hid hall
  clear eE hc hall h hw
  go_enter Tryz.func12, Tryz.ntmps12
  go_wp2_with fail
  refine HC.out.mono ?_
  rintro e w1 ⟨rfl, hb1⟩
  go_wp2_with fail
  go_loopw [7, 9, 18] (fun v _ i wr => ∃ k : Nat, k ≤ l.length ∧ i = .int .i64 k ∧ OwnI w.heap.size wr v (lettersAll (l.take k)) ∧ (lettersAll (l.take k)).length ≤ 11 * k ∧ Below w.heap.size w wr) (fun _ _ i _ => l.length - (intOf i).toNat)
  case atStart => exact ⟨0, by omega, rfl, own_nil cIntS, by simp [lettersAll], hb1⟩
  case round =>
   obtain ⟨k, hk, rfl, hO, hlen, hbr⟩ := hrel
   have hSr := hS.below hbr
   by_cases hlt : k < l.length
   ·have hs := lettersAll_step l k hlt
    have HS := hid hs; clear hs
    obtain ⟨z1, z2, z3, z4⟩ := passE_small hn2 (HA.out (atD pass0 l k) (by simp [atD, hlt]))
    obtain ⟨y1, y2, y3, y4, _, _, _⟩ := passE_zero (HA.out (atD pass0 l k) (by simp [atD, hlt]))
    have hlt3 := fun w => letters_any (atD pass0 l k) w y1 z1 y3 z2 (by omega) z4
    have hle : (lettersL (atD pass0 l k)).length ≤ 11 := by rw [lettersL_len]; exact z3
    have HLT := hid hlt3; clear hlt3 z4
    have hbs := hbr.size
    go_wp2_with (with_reducible refine wpList_idxS _ pass0 E_passes F_pass cPass1 wU wU (hSr) oD oD (fun _ => wU) (fun _ => ?_))
    refine (HLT.out _).mono ?_
    rintro e w2 ⟨v2, rfl, ho2, hb2⟩
    obtain ⟨a2, cap2, rfl, hr2, _, _⟩ := ho2.reps
    have hO2 := ((hO.alloc (.cells #[.int .i64 (atD pass0 l k).f, .int .i64 (atD pass0 l k).t, .string (atD pass0 l k).way] 57)).below hb2)
    have hbr2 := bnext (bal hbr (.cells #[.int .i64 (atD pass0 l k).f, .int .i64 (atD pass0 l k).t, .string (atD pass0 l k).way] 57)) hb2
    have hbs2 := hbr2.size
    go_wp2_with ((with_reducible refine wpList_app (B := w.heap.size) (l := lettersAll (l.take k)) (ys := lettersL (atD pass0 l k)) E_ints wU wU hO2 hr2 cIntO (by omega) (by omega) (by omega) ?_); intro v3 w3 ho3 hg3 _)
    refine ⟨⟨k + 1, by omega, by go_num, by rw [HS.out]; exact ho3, by rw [HS.out, List.length_append]; omega, below_own hbr2 hg3 hO2 (Nat.le_refl _)⟩, by simp [intOf]; omega⟩
   ·have : k = l.length := by omega
    subst this
    rw [List.take_length] at hO hlen
    obtain ⟨ao, capo, rfl, hro, _, _⟩ := hO.reps
    by_cases hlong : 200 < (lettersAll l).length
    ·have e1 : wordErr n l = 5 := by rw [HE.out, if_pos hlong]
     have e2 : wordL n l = [] := by rw [wordL, e1]; rfl
     have E1 := hid e1; have E2 := hid e2
     clear e1 e2
     go_wp2_with fail
     go_ret2
     rw [E1.out, E2.out]
     exact RetLE.none rfl hbr
    ·have e1 : wordErr n l = 0 := by rw [HE.out, if_neg hlong]
     have e2 : wordL n l = lettersAll l := by rw [wordL, e1]; rfl
     have E1 := hid e1; have E2 := hid e2
     clear e1 e2
     go_wp2_with fail
     go_ret2
     rw [E1.out, E2.out]
     exact RetLE.own _ rfl hO (Nat.le_refl _) hbr
 ·have e1 : wordErr n l = passesE n l := by simp [wordErr, h]
  have e2 : wordL n l = [] := by rw [wordL, e1, if_neg h]
  rw [e1, e2]
  obtain ⟨q, hq⟩ : ∃ q, q = passesE n l := ⟨_, rfl⟩
  rw [← hq] at hc h ⊢
  have hne : (q != 0) = true := by simpa using h
  have HC := hid hc
  clear hc hq e1 e2 hw
  go_enter Tryz.func12, Tryz.ntmps12
  go_wp2_with fail
  refine HC.out.mono ?_
  rintro e w1 ⟨rfl, hb1⟩
  go_wp2_with fail
  go_ret2
  exact RetLE.none rfl hb1
end Go.Proofs.YtngpopalpofhgaaGreatDoor

namespace Go.Proofs.YtngpopalpofhgaaGreatDoor
open Go.RowKit
set_option maxHeartbeats 1000000
set_option maxRecDepth 100000

/-- two neighbours exchanged. -/
def swapL (st : List Int) (k : Int) : List Int := (st.set (k - 1).toNat (atD 0 st k)).set k.toNat (atD 0 st (k - 1))
end Go.Proofs.YtngpopalpofhgaaGreatDoor

namespace Go.Proofs.YtngpopalpofhgaaGreatDoor
open Go.RowKit
set_option maxHeartbeats 1000000
set_option maxRecDepth 100000

theorem swapL_len (st : List Int) (k : Int) : (swapL st k).length = st.length := by simp [swapL]
end Go.Proofs.YtngpopalpofhgaaGreatDoor
