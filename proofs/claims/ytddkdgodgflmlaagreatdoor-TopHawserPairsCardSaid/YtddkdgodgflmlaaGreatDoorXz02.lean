/- Contracts and plain facts that the claim uses (SnA RlA McA Rp1 NuA TxA SpA). Conditions: as each one states. -/
import Derived.Test.YtddkdgodgflmlaaGreatDoorProg
import Derived.WalkKit
import Derived.WalkSpells
import Derived.Maps.AppendAt
import Derived.Deep.Quiet
import Derived.Maps.Own
import Derived.Maps.OwnSet
import Derived.Maps.Views
import Derived.WalkLawsBesides
import Derived.Laws.EntriesVeiled
import Derived.Deep.QuietTactic
import Derived.BigQuiet
import Derived.Shelf.Strings.Trim
import Derived.Shelf.Strings.SlTrimAscii
import Derived.Shelf.Strings.Repeat
import Derived.Shelf.Strings.OnBuilder
import Derived.Shelf.Strconv.Itoa1
import Derived.Shelf.Strconv.Itoa3
import Derived.Shelf.LaysM
import Derived.Ground.Names2Prog
import Derived.Lib.OthersKept
import Derived.Deep.RegionHeld3
import Derived.Deep.AppendLies
import Derived.Deep.RegionHeldLaw
import Derived.Deep.RegionLaw
import Derived.RangeFuncNested
import Derived.RangeFuncBound
import Derived.RangeFuncCalls
import Derived.RangeFuncLeaves
import Derived.RangeFuncFrom
import Derived.Shelf.Abstract
import Derived.Shelf.RegionOpen
import Derived.OwnWalkIn
import Derived.TacticsInMore
import Derived.LoopNIn
import Derived.LoopIn
import Derived.StillTail
import Derived.Laws.Tables
import Derived.Laws.CopyOwn
import Derived.IntWalk
import Derived.BigRegion
import Derived.ChangeAlike
import Derived.Shelf.Bits.Mul64
import Derived.Lib.ItoaLen
import Derived.Lib.ItoaMem
import Derived.Test.YtddkdgodgflmlaaGreatDoorXz01
set_option linter.all false

namespace Go.Proofs.YtddkdgodgflmlaaGreatDoor
open Go.RowKit
set_option maxHeartbeats 1000000
set_option maxRecDepth 100000

abbrev OwnPs (B : Nat) (w : World) (v : Value) (l : List PassV) : Prop := Own cPass 3 B 86 w v l
/-- A list of passes and an error came back. -/
def RetPsE (W : World) (L : List PassV) (e : Int) (r : Ending) (w' : World) : Prop :=
 ∃ a cap, r = .returned (.tuple #[.slice a L.length cap, .int .i64 e]) ∧ PassesR w' a cap L ∧ (∀ b, a = some b → W.heap.size ≤ b.block) ∧ Below W.heap.size W w'
theorem passesR_nil (w : World) : PassesR w none 0 [] := ⟨cPassS, Nat.le_refl _, Nat.zero_le _, fun _ => rfl, fun j u hu => by simp at hu⟩
theorem RetPsE.none {W w' : World} {e : Int} {r : Ending} (h1 : r = .returned (.tuple #[.slice none 0 0, .int .i64 e])) (h4 : Below W.heap.size W w') : RetPsE W [] e r w' :=
 ⟨.none, 0, h1, passesR_nil _, (fun _ h => by cases h), h4⟩
theorem RetPsE.own {W w' : World} {L : List PassV} {e : Int} {r : Ending} {B : Nat} (v : Value) (h1 : r = .returned (.tuple #[v, .int .i64 e])) (h2 : OwnPs B w' v L) (hB : W.heap.size ≤ B) (h4 : Below W.heap.size W w') : RetPsE W L e r w' := by
 obtain ⟨a, cap, rfl, hr, hf, _⟩ := h2.reps
 exact ⟨a, cap, h1, hr, fun b hb => Nat.le_trans hB (hf b hb).1, h4⟩

end Go.Proofs.YtddkdgodgflmlaaGreatDoor

namespace Go.Proofs.YtddkdgodgflmlaaGreatDoor
open Go.RowKit
set_option maxHeartbeats 1000000
set_option maxRecDepth 100000

abbrev Strs (w : World) (a : Option Addr) (cap : Nat) (l : List ByteArray) : Prop := Reps cStr 1 w a cap l
abbrev OwnS (B : Nat) (w : World) (v : Value) (l : List ByteArray) : Prop := Own cStr 1 B 9 w v l
/-- A list of strings and an error came back. -/
def RetSE (W : World) (L : List ByteArray) (e : Int) (r : Ending) (w' : World) : Prop :=
 ∃ a cap, r = .returned (.tuple #[.slice a L.length cap, .int .i64 e]) ∧ Strs w' a cap L ∧ (∀ b, a = some b → W.heap.size ≤ b.block) ∧ Below W.heap.size W w'
theorem strs_nil (w : World) : Strs w none 0 [] := ⟨cStrS, Nat.le_refl _, Nat.zero_le _, fun _ => rfl, fun j u hu => by simp at hu⟩
theorem RetSE.none {W w' : World} {e : Int} {r : Ending} (h1 : r = .returned (.tuple #[.slice none 0 0, .int .i64 e])) (h4 : Below W.heap.size W w') : RetSE W [] e r w' :=
 ⟨.none, 0, h1, strs_nil _, (fun _ h => by cases h), h4⟩
theorem RetSE.own {W w' : World} {L : List ByteArray} {e : Int} {r : Ending} {B : Nat} (v : Value) (h1 : r = .returned (.tuple #[v, .int .i64 e])) (h2 : OwnS B w' v L) (hB : W.heap.size ≤ B) (h4 : Below W.heap.size W w') : RetSE W L e r w' := by
 obtain ⟨a, cap, rfl, hr, hf, _⟩ := h2.reps
 exact ⟨a, cap, h1, hr, fun b hb => Nat.le_trans hB (hf b hb).1, h4⟩

end Go.Proofs.YtddkdgodgflmlaaGreatDoor

namespace Go.Proofs.YtddkdgodgflmlaaGreatDoor
open Go.RowKit
section
variable {P : Program} {ops : Array Oper} {md : Region.Mode} {C : World → Prop}

def wpAnyLQ (P : Program) (md : Region.Mode) (ops : Array Oper) (C : World → Prop) (n : Nat) (L : Array Bool → Act → Prop) : Nat → Array Bool → Act → Prop
 | 0, listed, a => L listed a
 | f + 1, listed, a =>
  Region.ready md ops listed ≠ [] ∧ ∀ i ∈ Region.ready md ops listed, i < n ∧ qOp P ops C i (wpAnyLQ P md ops C n L f (listed.setIfInBounds i true)) a

theorem wpAny_of_headQ {n g : Nat} {L : Array Bool → Act → Prop} {Q' : Exit → Act → World → Prop} (hL : ∀ listed a w, C w → L listed a → wpAny P md ops Q' g listed a w) :
  ∀ (f : Nat) (listed : Array Bool) (a : Act) (w : World), C w → wpAnyLQ P md ops C n L f listed a → wpAny P md ops Q' (f + g) listed a w
 | 0, listed, a, w, hw, h => by rw [Nat.zero_add]; exact hL _ _ _ hw h
 | f + 1, listed, a, w, hw, h => by
   rw [show f + 1 + g = (f + g) + 1 by omega]
   exact ⟨fun h0 => absurd h0 h.1, fun i hi => wpOp_of_qOp hw (fun a' w' hw' h' => wpAny_of_headQ hL f _ a' w' hw' h') (h.2 i hi).2⟩

theorem wpAnyLQ_first {n i : Nat} {oi : Oper} {v : Value} {L : Array Bool → Act → Prop} (hi : ops[i]? = some oi) (hsel : ∀ (j : Nat) (o : Oper) cs b, ops[j]? = some o → o.op ≠ .select cs b)
  (hs : Region.sinkB md ops n = true) (hc : Region.chainB md ops n = true) (hn : n < ops.size) (hin : i < n)
  (hdone : ∀ listed a, L listed a → ∀ j ∈ Region.ready md ops listed, n ≤ j) :
  ∀ (f : Nat) (listed : Array Bool) (a : Act), HeadInv md ops n listed →
   (∀ j oj, ops[j]? = some oj → j ≠ i → listed.getD j true = false → (∀ e ∈ oj.after, Region.binds md e = true → e.on ≠ i) → oi.apart ops oj = true) →
   i ∈ Region.ready md ops listed → YieldsIn P ops C oi v a →
   wpAnyLQ P md ops C n L f (listed.setIfInBounds i true) (a.put oi.dst v) → wpAnyLQ P md ops C n L (f + 1) listed a := by
 intro f
 induction f with
 | zero =>
  intro listed a inv _ hr hy H
  have hun := (mem_ready.1 hr).1
  refine ⟨fun h => (by rw [h] at hr; cases hr), fun j hj => ?_⟩
  have hjn : j < n := by
   rcases Nat.lt_or_ge j n with h | h
   ·exact h
   ·exact absurd hj (tail_waits hs hc hn inv _ i rfl hin hun j h)
  refine ⟨hjn, ?_⟩
  by_cases hji : j = i
  ·subst hji; exact hy.qOp hi H
  ·have := hdone _ _ H j (ready_mono hj hji)
   omega
 | succ f ih =>
  intro listed a inv hfree hr hy H
  have hun := (mem_ready.1 hr).1
  refine ⟨fun h => (by rw [h] at hr; cases hr), fun j hj => ?_⟩
  have hjn : j < n := by
   rcases Nat.lt_or_ge j n with h | h
   ·exact h
   ·exact absurd hj (tail_waits hs hc hn inv _ i rfl hin hun j h)
  refine ⟨hjn, ?_⟩
  by_cases hji : j = i
  ·subst hji; exact hy.qOp hi H
  ·have h1 := (H.2 j (ready_mono hj hji)).2
   obtain ⟨hjun, oj, hoj, hall⟩ := mem_ready.1 hj
   have hnot : ∀ e ∈ oj.after, Region.binds md e = true → e.on ≠ i := fun e he hb heq => by
    have h1 := hall e he hb
    rw [heq, getD_both hun] at h1
    cases h1
   have h2 := qOp_put hoj (hfree j oj hoj hji hjun hnot) (fun cs b => hsel i oi cs b hi) (fun cs b => hsel j oj cs b hoj) hy h1
   have hfree' : ∀ k ok, ops[k]? = some ok → k ≠ i → (listed.setIfInBounds j true).getD k true = false →
     (∀ e ∈ ok.after, Region.binds md e = true → e.on ≠ i) → oi.apart ops ok = true := fun k ok hk hki hun hno => by
    refine hfree k ok hk hki ?_ hno
    by_cases hjk : j = k
    ·subst hjk; exact hjun
    ·rw [getD_set_ne true hjk] at hun; exact hun
   refine qOp_mono (fun a' h3 => ih (listed.setIfInBounds j true) a' (inv.set hj hjn) hfree' (ready_mono hr (Ne.symm hji)) h3.1 ?_) h2
   rw [Array.setIfInBounds_comm _ _ hji]
   exact h3.2

theorem wpAnyLQ_lex {n g : Nat} {Lq : Act → Prop} (hsel : Region.noSelect ops = true) (hs : Region.sinkB md ops n = true) (hc : Region.chainB md ops n = true) (hn : n < ops.size) :
  ∀ (l : List Oper) (k : Nat) (listed : Array Bool) (a : Act), (∀ j, j < l.length → l[j]? = ops[k + j]?) → k + l.length = n → HeadInv md ops n listed →
  Region.lexHead md ops g l.length k listed = true → wpQuiet P ops C Lq l a →
  wpAnyLQ P md ops C n (fun listed' a' => Region.seqB md ops g n listed' = true ∧ Lq a') l.length listed a
 | [], k, listed, a, _, hk, _, hB, h => by
   have : k = n := by simpa using hk
   subst this
   exact ⟨by simpa [Region.lexHead] using hB, h⟩
 | o :: l, k, listed, a, hl, hk, inv, hB, h => by
   have h0 : ops[k]? = some o := by simpa using (hl 0 (by simp)).symm
   simp only [List.length_cons, Region.lexHead, Bool.and_eq_true] at hB
   obtain ⟨⟨hr, hf⟩, hB'⟩ := hB
   have hkn : k < n := by simp only [List.length_cons] at hk; omega
   have hr' : k ∈ Region.ready md ops listed := by simpa using hr
   have hst : qOp P ops C k (wpQuiet P ops C Lq l) a := by unfold qOp; simp only [h0]; exact h
   obtain ⟨v, hy, hK⟩ := yieldsIn_of_qOp h0 hst
   exact wpAnyLQ_first h0 (Region.noSelect_spec hsel) hs hc hn hkn (fun listed' a' hL => seqB_ready hL.1) l.length listed a inv (Region.free_spec h0 hf) hr' hy
     (wpAnyLQ_lex hsel hs hc hn l (k + 1) _ _ (fun j hj => by have := hl (j + 1) (by simp; omega); simpa [Nat.add_assoc, Nat.add_comm 1 j] using this) (by simp only [List.length_cons] at hk; omega) (inv.set hr' hkn) hB' hK)

theorem wp_region_quiet_tail {id : Nat} {Q : Exit → Act → World → Prop} {a : Act} {w : World} {l : List Oper} (n : Nat) (hm : P.follows .mixedOrders = true) (hB : Region.lexTailB .any l.toArray n = true) (hC : C { w with drawn := w.drawn + 1 })
  (h : wpQuiet P l.toArray C (fun a' => ∀ w', C w' → wpList P l.toArray Q (l.drop n) a' w') (l.take n) a) : (Code.region id l.toArray true).wp P Q a w := by
 simp only [Region.lexTailB, Bool.and_eq_true, decide_eq_true_eq] at hB
 obtain ⟨⟨⟨⟨hsel, hn⟩, hs⟩, hc⟩, hlex⟩ := hB
 have hn' : n < l.length := by simpa using hn
 have htl : (l.take n).length = n := by simp; omega
 have hdl : (l.drop n).length = l.toArray.size - n := by simp
 have inv0 : HeadInv .any l.toArray n (Array.replicate l.toArray.size false) :=
  ⟨by simp, fun j oj _ hl => (by rw [getD_replicate_false] at hl; cases hl), fun t _ ht => getD_in (by simpa using ht) (getD_replicate_false _ _)⟩
 have H := wpAnyLQ_lex (md := .any) (g := l.toArray.size - n) hsel hs hc hn (l.take n) 0 _ a (fun j hj => by
  have hj' : j < n := by rw [htl] at hj; exact hj
  simp [hj']) (by simpa using htl) inv0 (by rw [htl]; exact hlex) h
 refine wp_region_any hm ?_
 have := wpAny_of_headQ (C := C) (Q' := Q) (g := l.toArray.size - n) (fun listed a' w' hw' hL => by
  have := wpAny_of_seq (md := .any) (Q' := Q) (l.drop n) n listed a' w' (fun j => by simp [List.getElem?_drop]) (by rw [hdl]; exact hL.1) (hL.2 w' hw')
  rwa [hdl] at this) _ _ _ _ hC H
 rw [htl, show n + (l.toArray.size - n) = l.toArray.size by omega] at this
 exact this
/-- .. in the class 'nothing below has turned'. -/
theorem wp_region_qt {id : Nat} {Q : Exit → Act → World → Prop} {a : Act} {w : World} {l : List Oper} (n : Nat) (hm : P.follows .mixedOrders = true) (hB : Region.lexTailB .any l.toArray n = true)
  (h : wpQuiet P l.toArray (Below w.heap.size w) (fun a' => ∀ w', Below w.heap.size w w' → wpList P l.toArray Q (l.drop n) a' w') (l.take n) a) : (Code.region id l.toArray true).wp P Q a w :=
 wp_region_quiet_tail n hm hB (Below.refl _ _).drew h
end
section
variable {P : Program} {ops : Array Oper} {Qa : Act → Prop} {w : World} {rest : List Oper} {a : Act} {ty : TypeId} {p : String} {af : Array Edge} {g : Option (Nat × Bool)} {d : Tmp}
theorem wpB_load {e : TypeId} {s : Operand} {b o : Nat} {cs : Array Value} {T : TypeId} {fr : Nat × Nat} {v : Value} (hF : Flat P e) (hg : Region.wanted (⟨some d, .load e s, ty, p, af, g⟩ : Oper) (yielded ops a.tmps) = true) (hs : a.eval s = .pointer (some ⟨b, o, none⟩))
  (hb : w.heap[b]? = some (.cells cs T fr)) (hv : cs[o]? = some v) (h : wpQuiet P ops (Below w.heap.size w) Qa rest (a.put (some d) v)) : wpQuiet P ops (Below w.heap.size w) Qa (⟨some d, .load e s, ty, p, af, g⟩ :: rest) a := by
 refine wpQ_inG v hg (fun w' hw' => ?_) h
 have hc : w'.cell? ⟨b, o, none⟩ = some v := by simp [World.cell?, hw'.block b (Array.getElem?_eq_some_iff.1 hb).1, hb, hv]
 simp [execOp, hs, run_loadAt_cell w' hF hc, Result.andThen]
theorem wpB_loadS {e : TypeId} {s : Operand} {b o n : Nat} {cs us : Array Value} {T : TypeId} {fr : Nat × Nat} (hF : Aggr P e) (hn : (P.info? e).map (·.size) = some n) (hg : Region.wanted (⟨some d, .load e s, ty, p, af, g⟩ : Oper) (yielded ops a.tmps) = true) (hs : a.eval s = .pointer (some ⟨b, o, none⟩))
  (hb : w.heap[b]? = some (.cells cs T fr)) (hv : (cs.toList.drop o).take n = us.toList) (hz : us.size = n) (h : wpQuiet P ops (Below w.heap.size w) Qa rest (a.put (some d) (.agg us))) : wpQuiet P ops (Below w.heap.size w) Qa (⟨some d, .load e s, ty, p, af, g⟩ :: rest) a := by
 refine wpQ_inG (.agg us) hg (fun w' hw' => ?_) h
 obtain ⟨i, hi, hs2⟩ : ∃ i, P.info? e = some i ∧ i.size = n := by
  cases hi : P.info? e with
  | none => rw [hi] at hn; cases hn
  | some i => rw [hi] at hn; exact ⟨i, rfl, by simpa using hn⟩
 have := run_loadAt_agg (a := ⟨b, o, none⟩) w' hF hi (cs := us.toList) (by simp [hs2, hz]) (fun j v hj => by
  have hj2 : us[j]? = some v := by simpa using hj
  have hjn : j < n := by rw [← hz]; exact (Array.getElem?_eq_some_iff.1 hj2).1
  have hcs : cs[o + j]? = some v := by
   have : us.toList[j]? = some v := by simpa using hj
   rw [← hv, List.getElem?_take, if_pos hjn, List.getElem?_drop] at this
   simpa using this
  rw [Addr.add_z]
  simp [World.cell?, hw'.block b (Array.getElem?_eq_some_iff.1 hb).1, hb, hcs])
 rw [Array.toArray_toList] at this
 simp [execOp, hs, this, Result.andThen]
theorem wpB_call {o : Oper} {f : FuncId} {args : Array Value} (v : Value) (hg : Region.wanted o (yielded ops a.tmps) = true) (hr : ∀ w', (execOp a.eval o).run P w' = .ok (.enter f args) w')
   (hcall : ∀ w', Below w.heap.size w w' → Calls P f args w' fun e w'' => e = .returned v ∧ Below w'.heap.size w' w'')
   (h : wpQuiet P ops (Below w.heap.size w) Qa rest (a.put o.dst v)) : wpQuiet P ops (Below w.heap.size w) Qa (o :: rest) a := by
 unfold wpQuiet
 rw [if_pos hg]
 refine ⟨v, fun w' hw' => ?_, h⟩
 unfold Oper.quietAt
 rw [hr w']
 exact ⟨rfl, (hcall w' hw').mono fun e w'' ⟨he, hb⟩ => ⟨he, bnext hw' hb⟩⟩
theorem calls_below {f : FuncId} {args : Array Value} {v : Value} (h : Calls P f args w fun e w' => e = .returned v ∧ w = w') : Calls P f args w fun e w' => e = .returned v ∧ Below w.heap.size w w' :=
 h.mono fun _ _ ⟨h1, h2⟩ => ⟨h1, h2 ▸ Below.refl _ _⟩
end

section
variable {P : Program} {ops : Array Oper} {Q : Exit → Act → World → Prop} {w w0 : World} {rest : List Oper} {a : Act} {ty : TypeId} {p : String} {af : Array Edge} {g : Option (Nat × Bool)} {B : Nat} {L : List Pc}
theorem wpList_ldB {d : Option Tmp} {e : TypeId} {s : Operand} {b o : Nat} {cs : Array Value} {T : TypeId} {fr : Nat × Nat} {v : Value} (hF : Flat P e) (hg : Region.wanted (⟨d, .load e s, ty, p, af, g⟩ : Oper) (yielded ops a.tmps) = true) (hs : a.eval s = .pointer (some ⟨b, o, none⟩))
  (hb : w.heap[b]? = some (.cells cs T fr)) (hv : cs[o]? = some v) (h : wpList P ops Q rest (a.put d v) w) : wpList P ops Q (⟨d, .load e s, ty, p, af, g⟩ :: rest) a w := by
 refine wpList_step fun K hK => ?_
 rw [if_pos hg]
 have hc : w.cell? ⟨b, o, none⟩ = some v := by simp [World.cell?, hb, hv]
 unfold Oper.wp
 simp [execOp, hs, run_loadAt_cell w hF hc, Result.andThen]
 exact hK _ _ h
theorem wpList_ldS {d : Option Tmp} {e : TypeId} {s : Operand} {b o n : Nat} {cs us : Array Value} {T : TypeId} {fr : Nat × Nat} (hF : Aggr P e) (hn : (P.info? e).map (·.size) = some n) (hg : Region.wanted (⟨d, .load e s, ty, p, af, g⟩ : Oper) (yielded ops a.tmps) = true) (hs : a.eval s = .pointer (some ⟨b, o, none⟩))
  (hb : w.heap[b]? = some (.cells cs T fr)) (hv : (cs.toList.drop o).take n = us.toList) (hz : us.size = n) (h : wpList P ops Q rest (a.put d (.agg us)) w) : wpList P ops Q (⟨d, .load e s, ty, p, af, g⟩ :: rest) a w := by
 refine wpList_step fun K hK => ?_
 rw [if_pos hg]
 obtain ⟨i, hi, hs2⟩ : ∃ i, P.info? e = some i ∧ i.size = n := by
  cases hi : P.info? e with
  | none => rw [hi] at hn; cases hn
  | some i => rw [hi] at hn; exact ⟨i, rfl, by simpa using hn⟩
 have := run_loadAt_agg (a := ⟨b, o, none⟩) w hF hi (cs := us.toList) (by simp [hs2, hz]) (fun j v hj => by
  have hj2 : us[j]? = some v := by simpa using hj
  have hjn : j < n := by rw [← hz]; exact (Array.getElem?_eq_some_iff.1 hj2).1
  have hcs : cs[o + j]? = some v := by
   have : us.toList[j]? = some v := by simpa using hj
   rw [← hv, List.getElem?_take, if_pos hjn, List.getElem?_drop] at this
   simpa using this
  rw [Addr.add_z]
  simp [World.cell?, hb, hcs])
 rw [Array.toArray_toList] at this
 unfold Oper.wp
 simp [execOp, hs, this, Result.andThen]
 exact hK _ _ h
theorem SL.setRow {k : Nat} {old : Array Value} {T : TypeId} {fr : Nat × Nat} (h : SL B w0 w L) (i : Nat) (hi : L[i]? = some (pBlk k (.cells old T fr))) (us : Array Value) : SL B w0 (w.setRow k us) (L.set i (pBlk k (.cells us T fr))) := by
 obtain ⟨b, ⟨rfl, h1⟩, h3, h4⟩ := h.upd i hi
 refine h4 _ _ (some k) ⟨rfl, rfl, rfl, by simp [World.setRow], fun m hm hne => ?_⟩ ⟨rfl, setRow_heap w k old us T fr h1⟩ (.inl rfl)
 simp only [World.setRow, Array.getElem?_modify]
 rw [if_neg (fun e => hne (by rw [e]))]
theorem wpList_stoR {e : TypeId} {x y : Operand} {k : Nat} {old us : Array Value} {T : TypeId} (i : Nat)
  (hx : a.eval x = .pointer (some ⟨k, 0, none⟩)) (hy : a.eval y = .agg us) (hS : SL B w0 w L) (hi : L[i]? = some (pBlk k (.cells old T (0, 0)))) (hz : (P.info? e).map (·.size) = some us.size) (ho : old.size = us.size) (h1 : us.all (·.oneCell') = true)
  (hK : ∀ w', SL B w0 w' (L.set i (pBlk k (.cells us T (0, 0)))) → wpList P ops Q rest (a.put none undef) w') : wpList P ops Q (⟨none, .store e x y, ty, p, af, none⟩ :: rest) a w := by
 refine wpList_plain rfl fun K hK' => ?_
 have := run_storeVar_row (P := P) w k T e old us (hS.blk i hi).1 hz ho h1
 unfold Oper.wp
 simp only [execOp, hx, hy, Instr.storeAt, Instr.sureAddr, Sem.run_bind, Sem.run_pure, Result.andThen_ok, this]
 exact hK' _ _ (hK _ (hS.setRow i hi us))
theorem results_cell {fn : Func} {tmps : Array Value} {t T k : Nat} {us : Array Value} {T' : TypeId} {fr : Nat × Nat} (h : fn.results = #[.cell t T]) (ht : tmps.getD t undef = .pointer (some ⟨k, 0, none⟩)) (hu : Aggr P T) (hz : (P.info? T).map (·.size) = some us.size) (hb : w.heap[k]? = some (.cells us T' fr)) :
  (results fn tmps).run P w = .ok (.agg us) w := by
 obtain ⟨d, hd, hdd⟩ := hu
 have := run_loadVar_row (P := P) w k T' T us fr d hb hd (by cases d <;> first | exact hdd | rfl | cases hdd) hz
 simp only [Array.getD_eq_getD_getElem?] at ht
 simp [results, h, ht, asAddr, this]
theorem results_cell2 {fn : Func} {tmps : Array Value} {t T k t2 k2 : Nat} {us us2 : Array Value} {T' T2' : TypeId} {fr fr2 : Nat × Nat} (h : fn.results = #[.cell t T, .cell t2 T]) (ht : tmps.getD t undef = .pointer (some ⟨k, 0, none⟩)) (ht2 : tmps.getD t2 undef = .pointer (some ⟨k2, 0, none⟩)) (hu : Aggr P T) (hz : (P.info? T).map (·.size) = some us.size) (hz2 : (P.info? T).map (·.size) = some us2.size)
  (hb : w.heap[k]? = some (.cells us T' fr)) (hb2 : w.heap[k2]? = some (.cells us2 T2' fr2)) :
  (results fn tmps).run P w = .ok (.tuple #[.agg us, .agg us2]) w := by
 obtain ⟨d, hd, hdd⟩ := hu
 have := run_loadVar_row (P := P) w k T' T us fr d hb hd (by cases d <;> first | exact hdd | rfl | cases hdd) hz
 have h2 := run_loadVar_row (P := P) w k2 T2' T us2 fr2 d hb2 hd (by cases d <;> first | exact hdd | rfl | cases hdd) hz2
 simp only [Array.getD_eq_getD_getElem?] at ht ht2
 simp [results, h, ht, ht2, asAddr, this, h2]
end
end Go.Proofs.YtddkdgodgflmlaaGreatDoor

namespace Go.Proofs.YtddkdgodgflmlaaGreatDoor
open Go.RowKit
section
variable {P : Program} {ops : Array Oper} {Q : Exit → Act → World → Prop} {md : Region.Mode} {C : World → Prop}

end
end Go.Proofs.YtddkdgodgflmlaaGreatDoor

namespace Go.Proofs.YtddkdgodgflmlaaGreatDoor
open Go.RowKit
set_option maxHeartbeats 400000
set_option maxRecDepth 100000

def permGo (n : Nat) : List Int → List Int → Int
 | _, [] => 0
 | seen, x :: r => if x < 0 ∨ n ≤ x ∨ x ∈ seen then 15 else permGo n (seen ++ [x]) r
def permE (l : List Int) : Int := if 256 < l.length then 5 else permGo l.length [] l

theorem permGo_step (n : Nat) (l : List Int) (k : Nat) (h : k < l.length) : permGo n (l.take k) (l.drop k) =
  if atD 0 l k < 0 ∨ n ≤ atD 0 l k ∨ atD 0 l k ∈ l.take k then 15 else permGo n (l.take (k + 1)) (l.drop (k + 1)) := by
 have e : l.drop k = l[k] :: l.drop (k + 1) := List.drop_eq_getElem_cons h
 have e2 : atD 0 l k = l[k] := by simp [atD, h]
 rw [e, e2, permGo, List.take_succ_eq_append_getElem h]

theorem CheckPerm_any (a : Option Addr) (cap : Nat) (l : List Int) (w : World) (hS : Ints w a cap l) (hI : ∀ x ∈ l, InI x) :
  Calls Tryz.prog 59 #[.slice a l.length cap] w fun r w' => r = .returned (.int .i64 (permE l)) ∧ Below w.heap.size w w' := by
 have hcap := hS.le
 have hm := hS.max
 have hmm := @run_makeMap Tryz.prog
 by_cases h64 : 256 < l.length
 ·have hs : permE l = 5 := by simp [permE, h64]
  have HS := hid hs; clear hs
  go_enter Tryz.func59, Tryz.ntmps59
  go_wp2
  go_ret
  exact ⟨by rw [HS.out]; rfl, Below.refl _ _⟩
 have hs : permE l = permGo l.length [] l := by simp [permE, h64]
 have HS := hid hs; clear hs
 go_enter Tryz.func59, Tryz.ntmps59
 go_wp2
 go_loopw [5, 12] (fun _ i wr => ∃ k : Nat, k ≤ l.length ∧ i = .int .i64 k ∧ MapB wr w.heap.size k (fun x => decide (x ∈ l.take k)) ∧ Below w.heap.size w wr ∧ permGo l.length (l.take k) (l.drop k) = permE l) (fun _ i _ => l.length - (intOf i).toNat)
 case atStart =>
  refine ⟨0, by omega, rfl, ?_, bal (Below.refl _ _) _, by simp [HS.out]⟩
  have := mapB_made w
  simpa using this
 case round =>
  obtain ⟨k, hk, rfl, hmap, hb, hgo⟩ := hrel
  have hmlt := hmap.lt
  have hR := hS.below hb
  have hnk : k < maxLen := by unfold maxLen; omega
  by_cases hlt : k < l.length
  ·have hstep := permGo_step l.length l k hlt
   have hin : InI (atD 0 l k) := hI _ (by simp [atD, hlt])
   rw [hgo] at hstep
   have hT : l.take (k + 1) = l.take k ++ [atD 0 l k] := by rw [List.take_succ_eq_append_getElem hlt]; simp [atD, hlt]
   have HT := hid hT; clear hT
   have HG := hid hgo; clear hgo
   have HT2 := hid hstep; clear hstep
   have HI := hid hin; clear hin
   by_cases c1 : atD 0 l k < 0
   ·go_wp2_with (first | (with_reducible refine wpList_idx _ 0 E_ints F_int cInt1 wU wU (hR) oD oD (fun _ => wU) (fun _ => ?_)) | (with_reducible refine wpList_lookB wU wU (hmap) (HI.out) wU ?_))
    all_goals
     go_ret
     exact ⟨by rw [HT2.out, if_pos (.inl c1)]; rfl, hb⟩
   by_cases c2 : (l.length : Int) ≤ atD 0 l k
   ·go_wp2_with (first | (with_reducible refine wpList_idx _ 0 E_ints F_int cInt1 wU wU (hR) oD oD (fun _ => wU) (fun _ => ?_)) | (with_reducible refine wpList_lookB wU wU (hmap) (HI.out) wU ?_))
    all_goals
     go_ret
     exact ⟨by rw [HT2.out, if_pos (.inr (.inl c2))]; rfl, hb⟩
   by_cases c4 : atD 0 l k ∈ l.take k
   ·have hd : decide (atD 0 l k ∈ l.take k) = true := by simpa using c4
    have HC := hid c4; clear c4
    go_wp2_with (first | (with_reducible refine wpList_idx _ 0 E_ints F_int cInt1 wU wU (hR) oD oD (fun _ => wU) (fun _ => ?_)) | (with_reducible refine wpList_lookB wU wU (hmap) (HI.out) wU ?_))
    go_ret
    exact ⟨by rw [HT2.out, if_pos (.inr (.inr HC.out))]; rfl, hb⟩
   ·have hd : decide (atD 0 l k ∈ l.take k) = false := by simpa using c4
    have HC := hid c4; clear c4
    go_wp2_with (first | (with_reducible refine wpList_idx _ 0 E_ints F_int cInt1 wU wU (hR) oD oD (fun _ => wU) (fun _ => ?_)) | (with_reducible refine wpList_lookB wU wU (hmap) (HI.out) wU ?_) | ((with_reducible refine wpList_putB wU wU wU (hmap) (HI.out) (hnk) ?_); intro w1 hm1 hg1))
    have e : (fun x => if x = atD 0 l k then true else decide (x ∈ l.take k)) = (fun x => decide (x ∈ l.take (k + 1))) := by
     funext x
     rw [HT.out]
     by_cases e : x = atD 0 l k <;> simp [e]
    rw [e] at hm1
    go_roundw
    case rel => exact ⟨k + 1, by omega, by go_num, hm1, hb.grown hg1 hb.size (fun j hj => by cases hj; omega), by rw [HT2.out, if_neg (by rintro (h | h | h); exact c1 h; exact c2 h; exact HC.out h)]⟩
    case measure => simp [intOf]; omega
  ·have : k = l.length := by omega
   subst this
   have e : permGo l.length (l.take l.length) (l.drop l.length) = 0 := by simp [permGo]
   rw [e] at hgo
   have HG := hid hgo; clear hgo e
   go_wp2
   go_ret
   exact ⟨by rw [← HG.out]; rfl, hb⟩
end Go.Proofs.YtddkdgodgflmlaaGreatDoor

namespace Go.Proofs.YtddkdgodgflmlaaGreatDoor
open Go.RowKit

theorem php : ∀ (n : Nat) (f : Nat → Nat), (∀ k, k ≤ n → f k < n) → ∃ a b, a < b ∧ b ≤ n ∧ f a = f b
 | 0, f, h => absurd (h 0 (Nat.le_refl _)) (by omega)
 | n + 1, f, h => by
   by_cases hex : ∃ a, a ≤ n ∧ f a = f (n + 1)
   · obtain ⟨a, ha, e⟩ := hex
     exact ⟨a, n + 1, by omega, by omega, e⟩
   · have hne : ∀ a, a ≤ n → f a ≠ f (n + 1) := fun a ha e => hex ⟨a, ha, e⟩
     obtain ⟨a, b, h1, h2, h3⟩ := php n (fun k => if f (n + 1) < f k then f k - 1 else f k) (fun k hk => by
       have h1 := h k (by omega); have h2 := h (n + 1) (by omega); have h3 := hne k hk
       split <;> omega)
     refine ⟨a, b, h1, by omega, ?_⟩
     have ha := hne a (by omega); have hb := hne b h2
     split at h3 <;> split at h3 <;> omega

theorem nodup_ne {l : List Int} (h : l.Nodup) {a b : Nat} (hab : a < b) (hb : b < l.length) : atD 0 l a ≠ atD 0 l b := by
 have := (List.pairwise_iff_getElem.1 h) a b (by omega) hb hab
 simpa [atD, hb, show a < l.length by omega] using this

theorem nodup_le (n : Nat) (l : List Int) (hn : l.Nodup) (hr : ∀ x ∈ l, 0 ≤ x ∧ x < n) : l.length ≤ n := by
 rcases Nat.lt_or_ge n l.length with h | h
 ·obtain ⟨a, b, h1, h2, h3⟩ := php n (fun k => (atD 0 l k).toNat) (fun k hk => by
   have := hr (atD 0 l k) (by simp [atD, show k < l.length by omega])
   omega)
  have ha := hr (atD 0 l a) (by simp [atD, show a < l.length by omega])
  have hb := hr (atD 0 l b) (by simp [atD, show b < l.length by omega])
  exact absurd (by omega) (nodup_ne hn h1 (by omega))
 ·exact h

/-- a permutation of 0 .. n - 1. -/
structure IsP (p : List Int) : Prop where
 rng : ∀ x : Int, 0 ≤ x → x < p.length → 0 ≤ atD 0 p x ∧ atD 0 p x < p.length
 inj : ∀ x y : Int, 0 ≤ x → x < p.length → 0 ≤ y → y < p.length → atD 0 p x = atD 0 p y → x = y

theorem permGo_zero (n : Nat) : ∀ (r seen : List Int), permGo n seen r = 0 → (∀ x ∈ r, 0 ≤ x ∧ x < n ∧ x ∉ seen) ∧ r.Nodup
 | [], _, _ => by simp
 | x :: r, seen, h => by
   rw [permGo] at h
   split at h
   · omega
   · rename_i hc
     obtain ⟨h1, h2⟩ := permGo_zero n r _ h
     have hx : 0 ≤ x ∧ x < n ∧ x ∉ seen := ⟨by omega, by omega, fun e => hc (.inr (.inr e))⟩
     refine ⟨fun y hy => ?_, List.nodup_cons.2 ⟨fun e => (h1 x e).2.2 (by simp), h2⟩⟩
     rcases List.mem_cons.1 hy with rfl | hy
     · exact hx
     · obtain ⟨a, b, c⟩ := h1 y hy
       exact ⟨a, b, fun e => c (List.mem_append_left _ e)⟩

theorem permE_zero {p : List Int} (h : permE p = 0) : p.length ≤ 256 ∧ (∀ x ∈ p, 0 ≤ x ∧ x < p.length) ∧ p.Nodup := by
 unfold permE at h
 split at h
 ·omega
 ·obtain ⟨h1, h2⟩ := permGo_zero _ _ _ h
  exact ⟨by omega, fun x hx => ⟨(h1 x hx).1, (h1 x hx).2.1⟩, h2⟩

theorem atD_memZ {l : List Int} {x : Int} (h0 : 0 ≤ x) (h1 : x < l.length) : atD 0 l x ∈ l := by
 have : x.toNat < l.length := by omega
 simp [atD, this]

theorem isP_of {p : List Int} (h : permE p = 0) : IsP p := by
 obtain ⟨_, h1, h2⟩ := permE_zero h
 refine ⟨fun x a b => h1 _ (atD_memZ a b), fun x y a b c d e => ?_⟩
 have ex : atD 0 p x = atD 0 p (x.toNat : Int) := by rw [Int.toNat_of_nonneg a]
 have ey : atD 0 p y = atD 0 p (y.toNat : Int) := by rw [Int.toNat_of_nonneg c]
 rw [ex, ey] at e
 rcases Nat.lt_trichotomy x.toNat y.toNat with k | k | k
 ·exact absurd e (nodup_ne h2 k (by omega))
 ·omega
 ·exact absurd e.symm (nodup_ne h2 k (by omega))

def itP (p : List Int) (i : Int) : Nat → Int
 | 0 => i
 | k + 1 => atD 0 p (itP p i k)
theorem itP_add (p : List Int) (i : Int) (b : Nat) : ∀ a : Nat, itP p i (a + b) = itP p (itP p i b) a
 | 0 => by simp [itP]
 | a + 1 => by
   have : a + 1 + b = (a + b) + 1 := by omega
   rw [this, itP, itP, itP_add p i b a]

section
variable {p : List Int} (hp : IsP p)
include hp
theorem itP_rng {i : Int} (h0 : 0 ≤ i) (h1 : i < p.length) : ∀ k, 0 ≤ itP p i k ∧ itP p i k < p.length
 | 0 => ⟨h0, h1⟩
 | k + 1 => hp.rng _ (itP_rng h0 h1 k).1 (itP_rng h0 h1 k).2
theorem itP_inj {x y : Int} (hx : 0 ≤ x) (hx1 : x < p.length) (hy : 0 ≤ y) (hy1 : y < p.length) : ∀ k, itP p x k = itP p y k → x = y
 | 0, h => h
 | k + 1, h => itP_inj hx hx1 hy hy1 k (hp.inj _ _ (itP_rng hp hx hx1 k).1 (itP_rng hp hx hx1 k).2 (itP_rng hp hy hy1 k).1 (itP_rng hp hy hy1 k).2 h)
theorem itP_back {i : Int} (h0 : 0 ≤ i) (h1 : i < p.length) : ∃ d, 0 < d ∧ d ≤ p.length ∧ itP p i d = i := by
 obtain ⟨a, b, hab, hb, he⟩ := php p.length (fun k => (itP p i k).toNat) (fun k _ => by have := itP_rng hp h0 h1 k; omega)
 have ra := itP_rng hp h0 h1 a
 have rb := itP_rng hp h0 h1 b
 have e : itP p i a = itP p i b := by omega
 have e2 : itP p i b = itP p (itP p i (b - a)) a := by rw [← itP_add]; congr 1; omega
 rw [e2] at e
 have rd := itP_rng hp h0 h1 (b - a)
 exact ⟨b - a, by omega, by omega, (itP_inj hp h0 h1 rd.1 rd.2 a e).symm⟩
end

theorem leastN (q : Nat → Prop) : ∀ d, q d → ∃ m, m ≤ d ∧ q m ∧ ∀ j, j < m → ¬ q j := by
 intro d
 induction d using Nat.strongRecOn with
 | _ d ih =>
  intro h
  by_cases hex : ∃ j, j < d ∧ q j
  ·obtain ⟨j, hj, hq⟩ := hex
   obtain ⟨m, h1, h2, h3⟩ := ih j hj hq
   exact ⟨m, by omega, h2, h3⟩
  ·exact ⟨d, Nat.le_refl _, h, fun j hj hq => hex ⟨j, hj, hq⟩⟩

/-- d is the least number of steps above 0 after which i comes again. -/
structure Ord (p : List Int) (i : Int) (d : Nat) : Prop where
 pos : 0 < d
 le : d ≤ p.length
 back : itP p i d = i
 min : ∀ j, 0 < j → j < d → itP p i j ≠ i

theorem ord_ex {p : List Int} (hp : IsP p) {i : Int} (h0 : 0 ≤ i) (h1 : i < p.length) : ∃ d, Ord p i d := by
 obtain ⟨d, a, b, c⟩ := itP_back hp h0 h1
 obtain ⟨m, h2, ⟨h3, h4⟩, h5⟩ := leastN (fun d => 0 < d ∧ itP p i d = i) d ⟨a, c⟩
 exact ⟨m, h3, by omega, h4, fun j hj hjm e => h5 j hjm ⟨hj, e⟩⟩

def orbGo (p : List Int) (i : Int) : Nat → Int → List Int
 | 0, _ => []
 | f + 1, x => x :: (if atD 0 p x = i then [] else orbGo p i f (atD 0 p x))
def orb (p : List Int) (i : Int) : List Int := orbGo p i p.length i

theorem orbGo_eq {p : List Int} {i : Int} {d : Nat} (h : Ord p i d) : ∀ (f k : Nat), k < d → d ≤ k + f → orbGo p i f (itP p i k) = (List.range' k (d - k)).map (itP p i)
 | 0, k, h1, h2 => by omega
 | f + 1, k, h1, h2 => by
   rw [orbGo]
   have e : d - k = (d - (k + 1)) + 1 := by omega
   rw [e, List.range'_succ, List.map_cons]
   congr 1
   by_cases hk : k + 1 = d
   · have e2 : atD 0 p (itP p i k) = i := by have := h.back; rw [← hk] at this; exact this
     rw [if_pos e2, hk]; simp
   · have hne : atD 0 p (itP p i k) ≠ i := h.min (k + 1) (by omega) (by omega)
     rw [if_neg hne]
     exact orbGo_eq h f (k + 1) (by omega) (by omega)
theorem orb_eq {p : List Int} {i : Int} {d : Nat} (h : Ord p i d) : orb p i = (List.range d).map (itP p i) := by
 have := orbGo_eq h p.length 0 h.pos (by have := h.le; omega)
 rw [orb, List.range_eq_range']; simpa [itP] using this
theorem orb_len {p : List Int} {i : Int} {d : Nat} (h : Ord p i d) : (orb p i).length = d := by rw [orb_eq h]; simp

theorem orb_nodup {p : List Int} (hp : IsP p) {i : Int} (h0 : 0 ≤ i) (h1 : i < p.length) {d : Nat} (h : Ord p i d) : (orb p i).Nodup := by
 rw [orb_eq h, List.Nodup, List.pairwise_map, List.pairwise_iff_getElem]
 intro a b ha hb hab
 simp at ha hb ⊢
 intro e
 have e2 : itP p i b = itP p (itP p i (b - a)) a := by rw [← itP_add]; congr 1; omega
 rw [e2] at e
 have rd := itP_rng hp h0 h1 (b - a)
 exact h.min (b - a) (by omega) (by omega) (itP_inj hp h0 h1 rd.1 rd.2 a e).symm

/-- the cycles that the first k places have. -/
def cycK (p : List Int) : Nat → List (List Int)
 | 0 => []
 | k + 1 => if (k : Int) ∈ (cycK p k).flatten then cycK p k else cycK p k ++ [orb p k]

theorem cycK_ok {p : List Int} (hp : IsP p) : ∀ k, k ≤ p.length → (cycK p k).flatten.Nodup ∧ (∀ x ∈ (cycK p k).flatten, 0 ≤ x ∧ x < p.length) ∧ (∀ x ∈ (cycK p k).flatten, atD 0 p x ∈ (cycK p k).flatten)
 | 0, _ => by simp [cycK]
 | k + 1, hk => by
   obtain ⟨h1, h2, h3⟩ := cycK_ok hp k (by omega)
   rw [cycK]
   split
   · exact ⟨h1, h2, h3⟩
   · rename_i hnot
     have hk0 : (0 : Int) ≤ k := by omega
     have hk1 : (k : Int) < p.length := by omega
     obtain ⟨d, hd⟩ := ord_ex hp hk0 hk1
     have hmem : ∀ x, x ∈ orb p k ↔ ∃ j, j < d ∧ itP p k j = x := by intro x; rw [orb_eq hd]; simp
     have hcl : ∀ m (x : Int), x ∈ (cycK p k).flatten → itP p x m ∈ (cycK p k).flatten := by
       intro m
       induction m with
       | zero => intro x hx; exact hx
       | succ m ih => intro x hx; exact h3 _ (ih x hx)
     rw [List.flatten_append]
     simp only [List.flatten_cons, List.flatten_nil, List.append_nil]
     refine ⟨List.nodup_append.2 ⟨h1, orb_nodup hp hk0 hk1 hd, ?_⟩, ?_, ?_⟩
     · intro x hx y hy e
       subst e
       obtain ⟨j, hj, rfl⟩ := (hmem _).1 hy
       have := hcl (d - j) _ hx
       rw [← itP_add, show d - j + j = d by omega, hd.back] at this
       exact hnot this
     · intro x hx
       rcases List.mem_append.1 hx with h | h
       · exact h2 x h
       · obtain ⟨j, hj, rfl⟩ := (hmem _).1 h
         exact itP_rng hp hk0 hk1 j
     · intro x hx
       rcases List.mem_append.1 hx with h | h
       · exact List.mem_append_left _ (h3 x h)
       · obtain ⟨j, hj, rfl⟩ := (hmem _).1 h
         refine List.mem_append_right _ ((hmem _).2 ?_)
         by_cases e : j + 1 = d
         · exact ⟨0, hd.pos, by have := hd.back; rw [← e] at this; exact this.symm⟩
         · exact ⟨j + 1, by omega, rfl⟩

theorem cycK_len (p : List Int) : ∀ k, (cycK p k).length ≤ k
 | 0 => by simp [cycK]
 | k + 1 => by have := cycK_len p k; rw [cycK]; split <;> simp <;> omega
theorem cycK_sum {p : List Int} (hp : IsP p) {k : Nat} (hk : k ≤ p.length) : ((cycK p k).map List.length).sum ≤ p.length := by
 obtain ⟨h1, h2, _⟩ := cycK_ok hp k hk
 rw [← List.length_flatten]
 exact nodup_le p.length _ h1 h2
theorem cycK_pos {p : List Int} (hp : IsP p) : ∀ {k : Nat}, k ≤ p.length → ∀ l ∈ cycK p k, 0 < l.length
 | 0, _, l, h => by simp [cycK] at h
 | k + 1, hk, l, h => by
   rw [cycK] at h
   split at h
   · exact cycK_pos hp (by omega) l h
   · rcases List.mem_append.1 h with h | h
     · exact cycK_pos hp (by omega) l h
     · obtain ⟨d, hd⟩ := ord_ex hp (i := (k : Int)) (by omega) (by omega)
       simp at h
       rw [h, orb_len hd]; exact hd.pos

/-- the least common multiple, as it is computed. -/
def lcmF (o n : Nat) : Nat := o / Nat.gcd o n * n
def perF (ls : List Nat) : Nat := ls.foldl lcmF 1
theorem perF_snoc (ls : List Nat) (n : Nat) : perF (ls ++ [n]) = lcmF (perF ls) n := by simp [perF]
theorem cube_le : ∀ k : Nat, k ^ 3 ≤ 3 ^ k
 | 0 => by decide
 | 1 => by decide
 | 2 => by decide
 | 3 => by decide
 | k + 4 => by
   have ih := cube_le (k + 3)
   have e : 3 ^ (k + 4) = 3 * 3 ^ (k + 3) := by rw [show k + 4 = (k + 3) + 1 by omega, Nat.pow_succ]; omega
   rw [e]
   refine Nat.le_trans ?_ (Nat.mul_le_mul_left 3 ih)
   have h := Nat.pow_le_pow_left (show 3 * (k + 4) ≤ 4 * (k + 3) by omega) 3
   rw [Nat.mul_pow, Nat.mul_pow] at h
   omega
theorem lcmF_le (o n : Nat) : lcmF o n ≤ o * n := Nat.mul_le_mul_right n (Nat.div_le_self _ _)
theorem perGo_le : ∀ (ls : List Nat) (o s : Nat), o ^ 3 ≤ 3 ^ s → (ls.foldl lcmF o) ^ 3 ≤ 3 ^ (s + ls.sum)
 | [], o, s, h => by simpa using h
 | n :: r, o, s, h => by
   have h2 : (lcmF o n) ^ 3 ≤ 3 ^ (s + n) := by
     refine Nat.le_trans (Nat.pow_le_pow_left (lcmF_le o n) 3) ?_
     rw [Nat.mul_pow, Nat.pow_add]
     exact Nat.mul_le_mul h (cube_le n)
   have := perGo_le r (lcmF o n) (s + n) h2
   simpa [Nat.add_assoc] using this
theorem perF_cube (ls : List Nat) : (perF ls) ^ 3 ≤ 3 ^ ls.sum := by
 have := perGo_le ls 1 0 (by decide)
 simpa [perF] using this
theorem perF_lt (ls : List Nat) (h : ls.sum ≤ 64) : perF ls < 34359738368 := by
 have h1 := perF_cube ls
 have h2 : 3 ^ ls.sum ≤ 3 ^ 64 := Nat.pow_le_pow_right (by decide) h
 rcases Nat.lt_or_ge (perF ls) 34359738368 with h3 | h3
 ·exact h3
 ·have h4 := Nat.pow_le_pow_left h3 3
  have h5 : (34359738368 : Nat) ^ 3 > 3 ^ 64 := by decide
  omega
theorem lcmF_pos {o n : Nat} (ho : 0 < o) (hn : 0 < n) : 0 < lcmF o n := by
 unfold lcmF
 have hg : 0 < Nat.gcd o n := Nat.gcd_pos_of_pos_left _ ho
 have := Nat.div_pos (Nat.le_of_dvd ho (Nat.gcd_dvd_left o n)) hg
 exact Nat.mul_pos this hn
theorem perF_pos : ∀ (ls : List Nat) (o : Nat), 0 < o → (∀ n ∈ ls, 0 < n) → 0 < ls.foldl lcmF o
 | [], o, h, _ => h
 | n :: r, o, h, hr => perF_pos r _ (lcmF_pos h (hr n (by simp))) (fun m hm => hr m (by simp [hm]))
def periodN (p : List Int) : Nat := perF ((cycK p p.length).map List.length)
end Go.Proofs.YtddkdgodgflmlaaGreatDoor

namespace Go.Proofs.YtddkdgodgflmlaaGreatDoor
open Go.RowKit
set_option maxHeartbeats 1000000
set_option maxRecDepth 100000

/-- the first m numbers of a list that goes round and round. -/
def cyc (l : List Int) (m : Nat) : List Int := (List.range m).map fun j => l.getD (j % l.length) 0
theorem cyc_len (l : List Int) (m : Nat) : (cyc l m).length = m := by simp [cyc]
theorem cyc_take (l : List Int) {m k : Nat} (h : k ≤ m) : (cyc l m).take k = cyc l k := by
 unfold cyc; rw [← List.map_take, List.take_range, Nat.min_eq_left h]
/-- what is laid so far: a block of N numbers of which the first m are those of cyc. -/
def Laid (w : World) (g N m : Nat) (l : List Int) : Prop :=
 ∃ cur : List Value, w.heap[g]? = some (.cells cur.toArray 3 (0, 0)) ∧ cur.length = N ∧ cur.take m = (cyc l m).map cInt ∧ m ≤ N
theorem Laid.own {w : World} {g N : Nat} {l : List Int} {B : Nat} (h : Laid w g N N l) (hB : B ≤ g) (hN : N ≤ 1048576) : OwnI B w (.slice (some ⟨g, 0, none⟩) N N) (cyc l N) := by
 obtain ⟨cur, h1, h2, h3, _⟩ := h
 have e : ((cyc l N).flatMap fun x => (cInt x).cells.toList) = (cyc l N).map cInt := by
  generalize cyc l N = L
  induction L with
  | nil => rfl
  | cons x r ih => rw [List.flatMap_cons, ih]; rfl
 refine ⟨cIntS, ?_⟩
 rw [cyc_len, e, ← h3]
 refine ⟨by simp [h2], .inr ⟨g, N, cur.toArray, rfl, hB, h1, Nat.le_refl _, by unfold maxLen; omega, by simp [h2], by simp⟩⟩
theorem Laid.cell {w : World} {g N m : Nat} {l : List Int} (h : Laid w g N m l) (j k : Nat) (hk : k ≤ m) (v : Value) (hv : ((cyc l k).map cInt)[j]? = some v) : w.cell? ((⟨g, 0, none⟩ : Addr).add j) = some v := by
 obtain ⟨cur, h1, h2, h3, h4⟩ := h
 rw [Addr.add_z, Nat.zero_add, cell_of_row _ _ _ _ _ _ h1]
 have hj : j < k := by
  have := (List.getElem?_eq_some_iff.1 hv).1
  simpa [cyc] using this
 rw [← cyc_take l hk, List.map_take, ← h3] at hv
 rw [List.getElem?_take, List.getElem?_take] at hv
 rw [if_pos hj, if_pos (by omega)] at hv
 simpa using hv

end Go.Proofs.YtddkdgodgflmlaaGreatDoor

namespace Go.Proofs.YtddkdgodgflmlaaGreatDoor
open Go.RowKit
set_option maxHeartbeats 1000000
set_option maxRecDepth 100000

theorem F_u64s : Flat Tryz.prog 99 := ⟨_, Tryz.underlying99, rfl⟩
theorem A_int : Aggr Tryz.prog 101 := ⟨_, Tryz.underlying101, rfl⟩
theorem A_frac : Aggr Tryz.prog 103 := ⟨_, Tryz.underlying103, rfl⟩
theorem new_at {X : World} {o : Obj} {k : Nat} (hk : X.heap.size = k) : (X.alloc o).heap[k]? = some o := by subst hk; exact heap_alloc_new X o
/-- a small integer, a small fraction. -/
abbrev iV (n : Int) : Value := .agg #[.int .i64 n, .slice none 0 0]
abbrev fV (p q : Int) : Value := .agg #[.int .i64 p, .slice none 0 0, .int .i64 q, .slice none 0 0]

theorem Of_any (n : Int) (w : World) :
  Calls Tryz.prog 114 #[.int .i64 n] w fun r w' => r = .returned (iV n) ∧ Below w.heap.size w w' := by
 go_enter Tryz.func114, Tryz.ntmps114
 go_wp2
 exact bodyPost_ret (v := iV n) (by simp [results, Tryz.f114, go_sem]) rfl ⟨rfl, bal (Below.refl _ _) _⟩
theorem Whole_any (n : Int) (w : World) :
  Calls Tryz.prog 62 #[iV n] w fun r w' => r = .returned (fV n 1) ∧ Below w.heap.size w w' := by
 go_enter Tryz.func62, Tryz.ntmps62
 go_wp2
 have hS := ((SL.nil w).box (.cells #[.int .i64 n, .slice none 0 0] 101)).box (.cells #[.int .i64 0, .slice none 0 0, .int .i64 0, .slice none 0 0] 103)
 simp only [World.size_alloc] at hS
 have q0 := (hS.blk 1 rfl).1
 refine wp_region_qt 3 kR kR ?_
 simp only [List.take_succ_cons, List.take_zero, List.drop_succ_cons, List.drop_zero]
 repeat (first | ((refine wpB_call (iV 1) wU (fun w' => ?_) (fun w' hw' => Of_any 1 w') ?_); (focus (go_simp; done)); (try simp only [Act.put, pA, pB, pC])) |  ((with_reducible refine wpB_load (by first | exact F_int | exact F_u64s) wU wU (by assumption) wU ?_); (try simp only [Act.put, pA, pB, pC])) | ((with_reducible refine wpB_loadS (n := 2) (us := #[_, _]) A_int kR wU wU (by assumption) wU wU ?_); (try simp only [Act.put, pA, pB, pC])) | ((with_reducible refine wpB_loadS (n := 4) (us := #[_, _, _, _]) A_frac kR wU wU (by assumption) wU wU ?_); (try simp only [Act.put, pA, pB, pC])) | ((refine wpQ_oneG ?_ wU (fun w' => ?_) ?_); rotate_left; (go_simp; rfl); (try simp only [Act.put, pA, pB, pC])))
 refine wpQuiet_nil ?_
 intro w1 hb1
 replace hS := hS.mono hb1
 go_wp2_with ((with_reducible refine wpList_stoR (us := #[.int .i64 n, .slice none 0 0, .int .i64 1, .slice none 0 0]) 0 wU wU (hS) wU kR wU wU ?_); intro w2 hS2)
 exact bodyPost_ret (results_cell rfl rfl A_frac kR (hS2.blk 0 rfl).1) rfl ⟨rfl, hS2.b⟩

theorem F_any (n : Int) (w : World) :
  Calls Tryz.prog 61 #[.int .i64 n] w fun r w' => r = .returned (fV n 1) ∧ Below w.heap.size w w' := by
 go_enter Tryz.func61, Tryz.ntmps61
 go_wp2_with fail
 refine (Of_any n _).mono ?_
 rintro e w1 ⟨rfl, hb1⟩
 go_wp2_with fail
 refine (Whole_any n _).mono ?_
 rintro e w2 ⟨rfl, hb2⟩
 have hS := (((SL.nil w).box (.cells #[.int .i64 0, .slice none 0 0, .int .i64 0, .slice none 0 0] 103)).mono hb1).mono hb2
 go_wp2_with ((with_reducible refine wpList_stoR (us := #[.int .i64 n, .slice none 0 0, .int .i64 1, .slice none 0 0]) 0 wU wU (hS) wU kR wU wU ?_); intro w3 hS2)
 exact bodyPost_ret (results_cell rfl rfl A_frac kR (hS2.blk 0 rfl).1) rfl ⟨rfl, hS2.b⟩

def sgn (n : Int) : Int := if n < 0 then -1 else if n = 0 then 0 else 1
theorem Sign_any (n : Int) (w : World) :
  Calls Tryz.prog 152 #[iV n] w fun r w' => r = .returned (.int .i64 (sgn n)) ∧ Below w.heap.size w w' := by
 rcases Int.lt_trichotomy n 0 with h | h | h
 ·have hs : sgn n = -1 := by simp [sgn, h]
  rw [hs]; clear hs
  have h2 : n ≤ -1 := by omega
  go_enter Tryz.func152, Tryz.ntmps152
  go_wp2
  go_ret
  exact ⟨by simp; omega, bal (Below.refl _ _) _⟩
 ·subst h
  go_enter Tryz.func152, Tryz.ntmps152
  go_wp2
  go_ret
  exact ⟨by simp [sgn]; decide, bal (Below.refl _ _) _⟩
 ·have hs : sgn n = 1 := by simp [sgn]; omega
  rw [hs]; clear hs
  have h2 : 1 ≤ n := by omega
  go_enter Tryz.func152, Tryz.ntmps152
  go_wp2
  go_ret
  exact ⟨by simp; omega, bal (Below.refl _ _) _⟩

theorem Abs_any (n : Int) (w : World) (h : 0 ≤ n) :
  Calls Tryz.prog 179 #[iV n] w fun r w' => r = .returned (iV n) ∧ Below w.heap.size w w' := by
 go_enter Tryz.func179, Tryz.ntmps179
 go_wp2
 exact bodyPost_ret (results_cell rfl rfl A_int kR (new_at (by simp))) rfl ⟨rfl, bal (bal (Below.refl _ _) _) _⟩

theorem DivMod_any (x y : Int) (w : World) (h0 : 0 ≤ x) (h1 : x ≤ 4611686018427387904) (h2 : 0 < y) (h3 : y ≤ 4611686018427387904) :
  Calls Tryz.prog 180 #[iV x, iV y] w fun r w' => r = .returned (.tuple #[iV (x / y), iV (x % y)]) ∧ Below w.heap.size w w' := by
 have heq := fun (w : World) (a : Option Addr) (n c : Nat) => Lib.run_eql_slice_nil (P := Tryz.prog) w 99 195 a n c 0 0 Tryz.underlying99
 have hmin : (x != -9223372036854775808) = true := by simp; omega
 go_enter Tryz.func180, Tryz.ntmps180
 go_wp2
 have hq0 : 0 ≤ x / y := Int.ediv_nonneg h0 (by omega)
 have hq1 : x / y ≤ x := Int.ediv_le_self y h0
 have hr0 : 0 ≤ x % y := Int.emod_nonneg x (by omega)
 have hr1 : x % y < y := Int.emod_lt_of_pos x h2
 have e1 : x.tdiv y = x / y := Int.tdiv_eq_ediv_of_nonneg h0
 have e2 : x.tmod y = x % y := Int.tmod_eq_emod_of_nonneg h0
 have e3 : IntKind.i64.wrap (x / y) = x / y := IntWalk.i64_in _ (by omega)
 have hy : ¬ y = 0 := by omega
 refine wp_region_quiet_lit kR kR ?_
 repeat (first  | quiet_step (fail))
 refine wpQuiet_nil ?_
 intro w1 hb1
 replace hb1 := below_drewN hb1
 have hS := ((((SL.nil w).box (.cells #[.int .i64 x, .slice none 0 0] 101)).box (.cells #[.int .i64 y, .slice none 0 0] 101)).box (.cells #[.int .i64 0, .slice none 0 0] 101)).box (.cells #[.int .i64 0, .slice none 0 0] 101)
 simp only [World.size_alloc] at hS
 replace hS := hS.mono hb1
 clear e1 e2 e3
 go_wp2_with (first | ((with_reducible refine wpList_stoR (us := #[.int .i64 (x / y), .slice none 0 0]) 1 wU wU (hS) wU kR wU wU ?_); intro w2 hS2) | ((with_reducible refine wpList_stoR (us := #[.int .i64 (x % y), .slice none 0 0]) 0 wU wU (hS2) wU kR wU wU ?_); intro w3 hS3))
 exact bodyPost_ret (results_cell2 rfl rfl rfl A_int kR kR (hS3.blk 1 rfl).1 (hS3.blk 0 rfl).1) rfl ⟨rfl, hS3.b⟩

theorem Quo_any (x y : Int) (w : World) (h0 : 0 ≤ x) (h1 : x ≤ 4611686018427387904) (h2 : 0 < y) (h3 : y ≤ 4611686018427387904) :
  Calls Tryz.prog 155 #[iV x, iV y] w fun r w' => r = .returned (iV (x / y)) ∧ Below w.heap.size w w' := by
 have hs : sgn y = 1 := by simp [sgn]; omega
 have HS1 := fun w => Sign_any y w
 rw [hs] at HS1
 have HSG := hid HS1; clear HS1 hs
 go_enter Tryz.func155, Tryz.ntmps155
 go_wp2_with fail
 have hS := (((SL.nil w).box (.cells #[.int .i64 x, .slice none 0 0] 101)).box (.cells #[.int .i64 y, .slice none 0 0] 101)).box (.cells #[.int .i64 0, .slice none 0 0] 101)
 simp only [World.size_alloc] at hS
 refine (HSG.out _).mono ?_
 rintro e w1 ⟨rfl, hb1⟩
 replace hS := hS.mono hb1
 have q1 := (hS.blk 1 rfl).1
 have q2 := (hS.blk 2 rfl).1
 go_wp2_with (first | (with_reducible refine wpList_ldB (by first | exact F_int | exact F_u64s) wU wU (by assumption) wU ?_) | (with_reducible refine wpList_ldS (n := 2) (us := #[_, _]) A_int kR wU wU (by assumption) wU wU ?_))
 refine (DivMod_any x y _ h0 h1 h2 h3).mono ?_
 rintro e w2 ⟨rfl, hb2⟩
 replace hS := hS.mono hb2
 clear q1 q2
 go_wp2_with ((with_reducible refine wpList_stoR (us := #[.int .i64 (x / y), .slice none 0 0]) 0 wU wU (((hS.al _).al _)) wU kR wU wU ?_); intro w3 hS3)
 exact bodyPost_ret (results_cell rfl rfl A_int kR (hS3.blk 0 rfl).1) rfl ⟨rfl, hS3.b⟩

theorem Gcd_any (x y : Int) (w : World) (h0 : 0 ≤ x) (h1 : x ≤ 4611686018427387904) (h2 : 0 ≤ y) (h3 : y ≤ 4611686018427387904) :
  Calls Tryz.prog 154 #[iV x, iV y] w fun r w' => r = .returned (iV (Int.gcd x y)) ∧ Below w.heap.size w w' := by
 go_enter Tryz.func154, Tryz.ntmps154
 go_wp2_with fail
 have hS := (((SL.nil w).box (.cells #[.int .i64 x, .slice none 0 0] 101)).box (.cells #[.int .i64 y, .slice none 0 0] 101)).box (.cells #[.int .i64 0, .slice none 0 0] 101)
 simp only [World.size_alloc] at hS
 have q1 := (hS.blk 1 rfl).1
 have q2 := (hS.blk 2 rfl).1
 refine wp_region_qt 4 kR kR ?_
 simp only [List.take_succ_cons, List.take_zero, List.drop_succ_cons, List.drop_zero]
 repeat (first | ((refine wpB_call (iV x) wU (fun w' => ?_) (fun w' hw' => Abs_any x w' h0) ?_); (focus (go_simp; done)); (try simp only [Act.put, pA, pB, pC])) | ((refine wpB_call (iV y) wU (fun w' => ?_) (fun w' hw' => Abs_any y w' h2) ?_); (focus (go_simp; done)); (try simp only [Act.put, pA, pB, pC])) |  ((with_reducible refine wpB_load (by first | exact F_int | exact F_u64s) wU wU (by assumption) wU ?_); (try simp only [Act.put, pA, pB, pC])) | ((with_reducible refine wpB_loadS (n := 2) (us := #[_, _]) A_int kR wU wU (by assumption) wU wU ?_); (try simp only [Act.put, pA, pB, pC])) | ((with_reducible refine wpB_loadS (n := 4) (us := #[_, _, _, _]) A_frac kR wU wU (by assumption) wU wU ?_); (try simp only [Act.put, pA, pB, pC])) | ((refine wpQ_oneG ?_ wU (fun w' => ?_) ?_); rotate_left; (go_simp; rfl); (try simp only [Act.put, pA, pB, pC])))
 refine wpQuiet_nil ?_
 intro w1 hb1
 replace hS := hS.mono hb1
 clear q1 q2
 go_wp2_with (first | ((with_reducible refine wpList_stoR (us := #[.int .i64 x, .slice none 0 0]) 2 wU wU (hS) wU kR wU wU ?_); intro w2 hS2) | ((with_reducible refine wpList_stoR (us := #[.int .i64 y, .slice none 0 0]) 1 wU wU (hS2) wU kR wU wU ?_); intro w3 hS3))
 go_frame
 obtain ⟨H, hH⟩ : ∃ H, H = w.heap.size := ⟨_, rfl⟩
 rw [← hH] at hS3 ⊢
 have HH := hid hH; clear hH
 clear hS2 hS
 have hS3 : SL H w w3 [pBlk (H + 1 + 1) (.cells #[.int .i64 0, .slice none 0 0] 101), pBlk (H + 1) (.cells #[.int .i64 y, .slice none 0 0] 101), pBlk H (.cells #[.int .i64 x, .slice none 0 0] 101)] := hS3
 go_loopg [] y.toNat (fun g wr => ∃ a b : Int, g = b.toNat ∧ 0 ≤ a ∧ a ≤ 4611686018427387904 ∧ 0 ≤ b ∧ b ≤ 4611686018427387904 ∧ Aside (Int.gcd a b = Int.gcd x y) ∧
   SL H w wr [pBlk (H + 1 + 1) (.cells #[.int .i64 0, .slice none 0 0] 101), pBlk (H + 1) (.cells #[.int .i64 b, .slice none 0 0] 101), pBlk H (.cells #[.int .i64 a, .slice none 0 0] 101)])
 case atStart => exact ⟨x, y, rfl, h0, h1, h2, h3, rfl, hS3⟩
 case round =>
  obtain ⟨a, b, hg, ha0, ha1, hb0, hb1', HG, hSr⟩ := hrel
  have HGK := hid hg; clear hg
  clear hS3
  have q1 := (hSr.blk 1 rfl).1
  have q2 := (hSr.blk 2 rfl).1
  by_cases hz : b = 0
  ·subst hz
   have HSG := hid (fun w => Sign_any 0 w)
   go_wp2_with (with_reducible refine wpList_ldS (n := 2) (us := #[_, _]) A_int kR wU wU (by assumption) wU wU ?_)
   refine (HSG.out _).mono ?_
   rintro e w4 ⟨rfl, hb4⟩
   replace hSr := hSr.mono hb4
   clear q1 q2
   have q2 := (hSr.blk 2 rfl).1
   have hs0 : sgn 0 = 0 := by decide
   go_wp2_with (first | (with_reducible refine wpList_ldS (n := 2) (us := #[_, _]) A_int kR wU wU (by assumption) wU wU ?_) | ((with_reducible refine wpList_stoR (us := #[.int .i64 a, .slice none 0 0]) 0 wU wU (hSr) wU kR wU wU ?_); intro w5 hS5))
   refine bodyPost_ret (results_cell rfl rfl A_int kR (hS5.blk 0 rfl).1) rfl ⟨?_, by rw [← HH.out]; exact hS5.b⟩
   rw [← HG.out, Int.gcd_zero_right, Int.natAbs_of_nonneg ha0]
  ·have hs : sgn b = 1 := by simp [sgn]; omega
   have HS1 := fun w => Sign_any b w
   rw [hs] at HS1
   have HSG := hid HS1; clear HS1 hs
   have hbp : 0 < b := by omega
   go_wp2_with (with_reducible refine wpList_ldS (n := 2) (us := #[_, _]) A_int kR wU wU (by assumption) wU wU ?_)
   refine (HSG.out _).mono ?_
   rintro e w4 ⟨rfl, hb4⟩
   replace hSr := hSr.mono hb4
   clear q1 q2
   have q1 := (hSr.blk 1 rfl).1
   have q2 := (hSr.blk 2 rfl).1
   go_wp2_with (with_reducible refine wpList_ldS (n := 2) (us := #[_, _]) A_int kR wU wU (by assumption) wU wU ?_)
   refine (DivMod_any a b _ ha0 ha1 hbp hb1').mono ?_
   rintro e w5 ⟨rfl, hb5⟩
   replace hSr := hSr.mono hb5
   clear q1 q2
   go_wp2_with fail
   replace hSr := (hSr.box (.cells #[.int .i64 (a / b), .slice none 0 0] 101)).box (.cells #[.int .i64 (a % b), .slice none 0 0] 101)
   simp only [World.size_alloc] at hSr
   have hr0 : 0 ≤ a % b := Int.emod_nonneg a (by omega)
   have hr1 : a % b < b := Int.emod_lt_of_pos a hbp
   have n1 := hSr.apart 0 4 (by decide) rfl rfl blk_at blk_at
   have n2 := hSr.apart 0 3 (by decide) rfl rfl blk_at blk_at
   obtain ⟨K, hK⟩ : ∃ K, K = w5.heap.size + 1 := ⟨_, rfl⟩
   rw [← hK] at hSr n1 n2 ⊢
   clear hK
   obtain ⟨W6, hW6⟩ : ∃ W6, W6 = (w5.alloc (.cells #[.int .i64 (a / b), .slice none 0 0] 101)).alloc (.cells #[.int .i64 (a % b), .slice none 0 0] 101) := ⟨_, rfl⟩
   rw [← hW6] at hSr ⊢
   clear hW6
   have c0 := hSr.cell 4 rfl 0 rfl
   have c1 := hSr.cell 4 rfl 1 rfl
   have c2 := hSr.cell 3 rfl 0 rfl
   have c3 := hSr.cell 3 rfl 1 rfl
   have c4 := hSr.cell 0 rfl 0 rfl
   have c5 := hSr.cell 0 rfl 1 rfl
   have f0 := hSr.frozen 4 rfl 0
   have f1 := hSr.frozen 4 rfl 1
   have f2 := hSr.frozen 3 rfl 0
   have f3 := hSr.frozen 3 rfl 1
   go_region
   have hS9 := ((((hSr.set 4 rfl 0 (.int .i64 b)).set 4 rfl 1 (.slice none 0 0)).set 3 rfl 0 (.int .i64 (a % b))).set 3 rfl 1 (.slice none 0 0)).drew
   go_wp2
   go_roundg ((a % b).toNat)
   case measure => rw [HGK.out]; omega
   case rel => exact ⟨b, a % b, rfl, hb0, hb1', hr0, by omega, by show _ = _; rw [← HG.out]; exact gcd_step ha0 hb0, hS9.pick [2, 3, 4] (by decide) _ rfl⟩

/-- the quotient of two small numbers. -/
theorem Make_any (x y : Int) (w : World) (h0 : 0 ≤ x) (h1 : x ≤ 4611686018427387904) (h2 : 0 < y) (h3 : y ≤ 4611686018427387904) :
  Calls Tryz.prog 116 #[iV x, iV y] w fun r w' => r = .returned (fV (x / Int.gcd x y) (y / Int.gcd x y)) ∧ Below w.heap.size w w' := by
 have hs : sgn y = 1 := by simp [sgn]; omega
 have HS1 := fun w => Sign_any y w
 rw [hs] at HS1
 have HSG := hid HS1; clear HS1 hs
 have heq := fun (w : World) (a : Option Addr) (n c : Nat) => Lib.run_eql_slice_nil (P := Tryz.prog) w 99 195 a n c 0 0 Tryz.underlying99
 by_cases hy : y = 1
 ·subst hy
  have e : Int.gcd x 1 = 1 := by simp
  rw [e]
  clear e
  go_enter Tryz.func116, Tryz.ntmps116
  go_wp2_with fail
  have hS := (((SL.nil w).box (.cells #[.int .i64 x, .slice none 0 0] 101)).box (.cells #[.int .i64 1, .slice none 0 0] 101)).box (.cells #[.int .i64 0, .slice none 0 0, .int .i64 0, .slice none 0 0] 103)
  simp only [World.size_alloc] at hS
  refine (HSG.out _).mono ?_
  rintro e w1 ⟨rfl, hb1⟩
  replace hS := hS.mono hb1
  have q1 := (hS.blk 1 rfl).1
  have q2 := (hS.blk 2 rfl).1
  go_wp2_with (first | (with_reducible refine wpList_ldB (by first | exact F_int | exact F_u64s) wU wU (by assumption) wU ?_) | (with_reducible refine wpList_ldS (n := 2) (us := #[_, _]) A_int kR wU wU (by assumption) wU wU ?_) | ((with_reducible refine wpList_stoR (us := #[.int .i64 x, .slice none 0 0, .int .i64 1, .slice none 0 0]) 0 wU wU (hS) wU kR wU wU ?_); intro w2 hS2))
  refine bodyPost_ret (results_cell rfl rfl A_frac kR (hS2.blk 0 rfl).1) rfl ⟨?_, hS2.b⟩
  simp
 ·have hne : (y == 1) = false := by simpa using hy
  have hg0 : 0 < Int.gcd x y := Int.gcd_pos_of_ne_zero_right _ (by omega)
  have hg1 : (Int.gcd x y : Int) ≤ y := Int.le_of_dvd h2 (Int.gcd_dvd_right ..)
  obtain ⟨g, hg⟩ : ∃ g : Int, g = Int.gcd x y := ⟨_, rfl⟩
  have hG := fun w => Gcd_any x y w h0 h1 (by omega) h3
  rw [← hg] at hG ⊢
  have hg0' : 0 < g := by omega
  have hg1' : g ≤ y := by omega
  have HG := hid hG; clear hG
  clear hg hg0 hg1
  go_enter Tryz.func116, Tryz.ntmps116
  go_wp2_with fail
  have hS := (((SL.nil w).box (.cells #[.int .i64 x, .slice none 0 0] 101)).box (.cells #[.int .i64 y, .slice none 0 0] 101)).box (.cells #[.int .i64 0, .slice none 0 0, .int .i64 0, .slice none 0 0] 103)
  simp only [World.size_alloc] at hS
  refine (HSG.out _).mono ?_
  rintro e w1 ⟨rfl, hb1⟩
  replace hS := hS.mono hb1
  have q1 := (hS.blk 1 rfl).1
  have q2 := (hS.blk 2 rfl).1
  go_wp2_with (first | (with_reducible refine wpList_ldB (by first | exact F_int | exact F_u64s) wU wU (by assumption) wU ?_) | (with_reducible refine wpList_ldS (n := 2) (us := #[_, _]) A_int kR wU wU (by assumption) wU wU ?_))
  refine (HG.out _).mono ?_
  rintro e w2 ⟨rfl, hb2⟩
  replace hS := hS.mono hb2
  clear q1 q2
  go_wp2_with fail
  replace hS := hS.box (.cells #[.int .i64 g, .slice none 0 0] 101)
  have q0 := (hS.blk 0 rfl).1
  have q1 := (hS.blk 2 rfl).1
  have q2 := (hS.blk 3 rfl).1
  refine wp_region_qt 7 kR kR ?_
  simp only [List.take_succ_cons, List.take_zero, List.drop_succ_cons, List.drop_zero]
  repeat (first | ((refine wpB_call (iV (x / g)) wU (fun w' => ?_) (fun w' hw' => Quo_any x g w' h0 h1 hg0' (by omega)) ?_); (focus (go_simp; done)); (try simp only [Act.put, pA, pB, pC])) | ((refine wpB_call (iV (y / g)) wU (fun w' => ?_) (fun w' hw' => Quo_any y g w' (by omega) h3 hg0' (by omega)) ?_); (focus (go_simp; done)); (try simp only [Act.put, pA, pB, pC])) |  ((with_reducible refine wpB_load (by first | exact F_int | exact F_u64s) wU wU (by assumption) wU ?_); (try simp only [Act.put, pA, pB, pC])) | ((with_reducible refine wpB_loadS (n := 2) (us := #[_, _]) A_int kR wU wU (by assumption) wU wU ?_); (try simp only [Act.put, pA, pB, pC])) | ((with_reducible refine wpB_loadS (n := 4) (us := #[_, _, _, _]) A_frac kR wU wU (by assumption) wU wU ?_); (try simp only [Act.put, pA, pB, pC])) | ((refine wpQ_oneG ?_ wU (fun w' => ?_) ?_); rotate_left; (go_simp; rfl); (try simp only [Act.put, pA, pB, pC])))
  refine wpQuiet_nil ?_
  intro w3 hb3
  replace hS := hS.mono hb3
  clear q0 q1 q2
  go_wp2_with ((with_reducible refine wpList_stoR (us := #[.int .i64 (x / g), .slice none 0 0, .int .i64 (y / g), .slice none 0 0]) 1 wU wU (hS) wU kR wU wU ?_); intro w4 hS2)
  exact bodyPost_ret (results_cell rfl rfl A_frac kR (hS2.blk 1 rfl).1) rfl ⟨rfl, hS2.b⟩
end Go.Proofs.YtddkdgodgflmlaaGreatDoor

namespace Go.Proofs.YtddkdgodgflmlaaGreatDoor
open Go.RowKit Go.Shelf
set_option maxHeartbeats 1000000
set_option maxRecDepth 100000

theorem Inv_any (p q : Int) (w : World) (h0 : 0 < p) (h1 : p ≤ 4611686018427387904) (h2 : 0 ≤ q) (h3 : q ≤ 4611686018427387904) :
  Calls Tryz.prog 115 #[fV p q] w fun r w' => r = .returned (fV (q / Int.gcd q p) (p / Int.gcd q p)) ∧ Below w.heap.size w w' := by
 have HM := hid (fun w => Make_any q p w h2 h3 h0 h1)
 obtain ⟨g, hg⟩ : ∃ g : Int, g = Int.gcd q p := ⟨_, rfl⟩
 rw [← hg] at HM ⊢
 clear hg
 go_enter Tryz.func115, Tryz.ntmps115
 go_wp2_with fail
 refine (HM.out _).mono ?_
 rintro e w1 ⟨rfl, hb1⟩
 have hS := ((SL.nil w).box (.cells #[.int .i64 p, .slice none 0 0, .int .i64 q, .slice none 0 0] 103)).box (.cells #[.int .i64 0, .slice none 0 0, .int .i64 0, .slice none 0 0] 103)
 simp only [World.size_alloc] at hS
 replace hS := hS.mono hb1
 go_wp2_with ((with_reducible refine wpList_stoR (us := #[.int .i64 (q / g), .slice none 0 0, .int .i64 (p / g), .slice none 0 0]) 0 wU wU (hS) wU kR wU wU ?_); intro w4 hS2)
 exact bodyPost_ret (results_cell rfl rfl A_frac kR (hS2.blk 0 rfl).1) rfl ⟨rfl, hS2.b⟩

theorem nsize_any (n : Int) (w : World) (h0 : 0 ≤ n) (h1 : n ≤ 4611686018427387904) :
  Calls Tryz.prog 157 #[.int .i64 n] w fun r w' => r = .returned (.int .u64 n) ∧ w = w' := by
 go_enter Tryz.func157, Tryz.ntmps157
 go_wp2
 go_ret
 exact ⟨by congr 2 <;> omega, rfl⟩
theorem mul64_any (x y : Int) (hx : 0 ≤ x) (hy : 0 ≤ y) (h : x * y ≤ 4611686018427387904) (hx2 : x ≤ 4611686018427387904) (hy2 : y ≤ 4611686018427387904) (w : World) :
  Calls Tryz.prog 156 #[.int .u64 x, .int .u64 y] w fun e w' => e = .returned (.tuple #[.int .u64 0, .int .u64 (x * y)]) ∧ w = w' := by
 obtain ⟨a, rfl⟩ := Int.eq_ofNat_of_zero_le hx
 obtain ⟨b, rfl⟩ := Int.eq_ofNat_of_zero_le hy
 have h' : a * b ≤ 4611686018427387904 := by have : ((a * b : Nat) : Int) ≤ 4611686018427387904 := by rw [Int.natCast_mul]; exact h
                                             omega
 refine (Any.bits_Mul64 { Tryz.lays212 with } a b (by omega) (by omega) w).mono ?_
 rintro e w' ⟨rfl, rfl⟩
 have e1 : a * b / 18446744073709551616 = 0 := Nat.div_eq_of_lt (by omega)
 have e2 : a * b % 18446744073709551616 = a * b := Nat.mod_eq_of_lt (by omega)
 rw [e1, e2]
 exact ⟨by rw [Int.natCast_mul]; rfl, rfl⟩

theorem IMul_any (x y : Int) (w : World) (h0 : 0 ≤ x) (h1 : x ≤ 4611686018427387904) (h2 : 0 ≤ y) (h3 : y ≤ 4611686018427387904) (h : x * y ≤ 4611686018427387904) :
  Calls Tryz.prog 117 #[iV x, iV y] w fun r w' => r = .returned (iV (x * y)) ∧ Below w.heap.size w w' := by
 have hp0 : 0 ≤ x * y := Int.mul_nonneg h0 h2
 have HM := hid (mul64_any x y h0 h2 h h1 h3)
 obtain ⟨z, hz⟩ : ∃ z, z = x * y := ⟨_, rfl⟩
 rw [← hz] at HM h hp0 ⊢
 clear hz
 have hx : decide (x < 0) = false := by simp; omega
 have hy : decide (y < 0) = false := by simp; omega
 have heq := fun (w : World) (a : Option Addr) (n c : Nat) => Lib.run_eql_slice_nil (P := Tryz.prog) w 99 195 a n c 0 0 Tryz.underlying99
 go_enter Tryz.func117, Tryz.ntmps117
 go_wp2
 have hS := (((SL.nil w).box (.cells #[.int .i64 x, .slice none 0 0] 101)).box (.cells #[.int .i64 y, .slice none 0 0] 101)).box (.cells #[.int .i64 0, .slice none 0 0] 101)
 simp only [World.size_alloc] at hS
 have q1 := (hS.blk 1 rfl).1
 have q2 := (hS.blk 2 rfl).1
 refine wp_region_q kR kR ?_
 repeat (first | ((refine wpB_call (.int .u64 x) wU (fun w' => ?_) (fun w' hw' => calls_below (nsize_any x w' h0 h1)) ?_); (focus (go_simp; done)); (try simp only [Act.put, pA, pB, pC])) | ((refine wpB_call (.int .u64 y) wU (fun w' => ?_) (fun w' hw' => calls_below (nsize_any y w' h2 h3)) ?_); (focus (go_simp; done)); (try simp only [Act.put, pA, pB, pC])) | ((refine wpB_call (.tuple #[.int .u64 0, .int .u64 z]) wU (fun w' => ?_) (fun w' hw' => calls_below (HM.out w')) ?_); (focus (go_simp; done)); (try simp only [Act.put, pA, pB, pC])) |  ((with_reducible refine wpB_load (by first | exact F_int | exact F_u64s) wU wU (by assumption) wU ?_); (try simp only [Act.put, pA, pB, pC])) | ((with_reducible refine wpB_loadS (n := 2) (us := #[_, _]) A_int kR wU wU (by assumption) wU wU ?_); (try simp only [Act.put, pA, pB, pC])) | ((with_reducible refine wpB_loadS (n := 4) (us := #[_, _, _, _]) A_frac kR wU wU (by assumption) wU wU ?_); (try simp only [Act.put, pA, pB, pC])) | ((refine wpQ_oneG ?_ wU (fun w' => ?_) ?_); rotate_left; (go_simp; rfl); (try simp only [Act.put, pA, pB, pC])))
 refine wpQuiet_nil ?_
 intro w1 hb1
 replace hS := hS.mono hb1
 clear q1 q2
 have q1 := (hS.blk 1 rfl).1
 have q2 := (hS.blk 2 rfl).1
 go_wp2_with (first | (with_reducible refine wpList_ldB (by first | exact F_int | exact F_u64s) wU wU (by assumption) wU ?_) | ((with_reducible refine wpList_stoR (us := #[.int .i64 z, .slice none 0 0]) 0 wU wU (hS) wU kR wU wU ?_); intro w2 hS2))
 exact bodyPost_ret (results_cell rfl rfl A_int kR (hS2.blk 0 rfl).1) rfl ⟨rfl, hS2.b⟩

theorem FMul_any (a b c d : Int) (w : World) (a0 : 0 ≤ a) (a1 : a ≤ 4611686018427387904) (b0 : 0 < b) (b1 : b ≤ 4611686018427387904) (c0 : 0 ≤ c) (c1 : c ≤ 4611686018427387904) (d0 : 0 < d) (d1 : d ≤ 4611686018427387904) (hac : a * c ≤ 4611686018427387904) (hbd : b * d ≤ 4611686018427387904) :
  Calls Tryz.prog 64 #[fV a b, fV c d] w fun r w' => r = .returned (fV (a * c / Int.gcd (a * c) (b * d)) (b * d / Int.gcd (a * c) (b * d))) ∧ Below w.heap.size w w' := by
 have m0 : 0 ≤ a * c := Int.mul_nonneg a0 c0
 have m1 : 0 < b * d := Int.mul_pos b0 d0
 have HM := hid (fun w => Make_any (a * c) (b * d) w m0 hac m1 hbd)
 have HA := hid (fun w => IMul_any a c w a0 a1 c0 c1 hac)
 have HB := hid (fun w => IMul_any b d w (by omega) b1 (by omega) d1 hbd)
 obtain ⟨x, hx⟩ : ∃ x, x = a * c / Int.gcd (a * c) (b * d) := ⟨_, rfl⟩
 obtain ⟨y, hy⟩ : ∃ y, y = b * d / Int.gcd (a * c) (b * d) := ⟨_, rfl⟩
 rw [← hx, ← hy] at HM
 rw [← hx, ← hy]
 clear hx hy
 obtain ⟨p, hp⟩ : ∃ p, p = a * c := ⟨_, rfl⟩
 obtain ⟨q, hq⟩ : ∃ q, q = b * d := ⟨_, rfl⟩
 rw [← hp] at HM HA
 rw [← hq] at HM HB
 clear hp hq m0 m1 hac hbd
 go_enter Tryz.func64, Tryz.ntmps64
 go_wp2
 have hS := (((SL.nil w).box (.cells #[.int .i64 a, .slice none 0 0, .int .i64 b, .slice none 0 0] 103)).box (.cells #[.int .i64 c, .slice none 0 0, .int .i64 d, .slice none 0 0] 103)).box (.cells #[.int .i64 0, .slice none 0 0, .int .i64 0, .slice none 0 0] 103)
 simp only [World.size_alloc] at hS
 have q1 := (hS.blk 1 rfl).1
 have q2 := (hS.blk 2 rfl).1
 refine wp_region_qt 11 kR kR ?_
 simp only [List.take_succ_cons, List.take_zero, List.drop_succ_cons, List.drop_zero]
 repeat (first | ((refine wpB_call (iV p) wU (fun w' => ?_) (fun w' hw' => HA.out w') ?_); (focus (go_simp; done)); (try simp only [Act.put, pA, pB, pC])) | ((refine wpB_call (iV q) wU (fun w' => ?_) (fun w' hw' => HB.out w') ?_); (focus (go_simp; done)); (try simp only [Act.put, pA, pB, pC])) | ((refine wpB_call (fV x y) wU (fun w' => ?_) (fun w' hw' => HM.out w') ?_); (focus (go_simp; done)); (try simp only [Act.put, pA, pB, pC])) |  ((with_reducible refine wpB_load (by first | exact F_int | exact F_u64s) wU wU (by assumption) wU ?_); (try simp only [Act.put, pA, pB, pC])) | ((with_reducible refine wpB_loadS (n := 2) (us := #[_, _]) A_int kR wU wU (by assumption) wU wU ?_); (try simp only [Act.put, pA, pB, pC])) | ((with_reducible refine wpB_loadS (n := 4) (us := #[_, _, _, _]) A_frac kR wU wU (by assumption) wU wU ?_); (try simp only [Act.put, pA, pB, pC])) | ((refine wpQ_oneG ?_ wU (fun w' => ?_) ?_); rotate_left; (go_simp; rfl); (try simp only [Act.put, pA, pB, pC])))
 refine wpQuiet_nil ?_
 intro w1 hb1
 replace hS := hS.mono hb1
 go_wp2_with ((with_reducible refine wpList_stoR (us := #[.int .i64 x, .slice none 0 0, .int .i64 y, .slice none 0 0]) 0 wU wU (hS) wU kR wU wU ?_); intro w2 hS2)
 exact bodyPost_ret (results_cell rfl rfl A_frac kR (hS2.blk 0 rfl).1) rfl ⟨rfl, hS2.b⟩
end Go.Proofs.YtddkdgodgflmlaaGreatDoor

namespace Go.Proofs.YtddkdgodgflmlaaGreatDoor
open Go.RowKit
set_option maxHeartbeats 1000000
set_option maxRecDepth 100000

def itoaB (n : Int) : ByteArray := ⟨(Lib.itoa n).toArray⟩
/-- from a world on, Itoa answers at n. -/
def ItoaOk (w : World) (n : Int) : Prop := ∀ w', Below w.heap.size w w' → Calls Tryz.prog 185 #[.int .i64 n] w' fun e w'' => e = .returned (.string (itoaB n)) ∧ Below w'.heap.size w' w''
theorem ItoaOk.below {w w' : World} {n : Int} (h : ItoaOk w n) (hb : Below w.heap.size w w') : ItoaOk w' n := fun W hW => h W (bnext hb hW)
theorem itoaOk_small (w : World) (n : Int) (h0 : 0 ≤ n) (h1 : n < 100) : ItoaOk w n := by
 intro w' _
 obtain ⟨m, rfl⟩ : ∃ m : Nat, n = m := ⟨n.toNat, by omega⟩
 refine (Tryz.strconv_Itoa_small m (by omega) w').mono ?_
 rintro e w'' ⟨rfl, rfl⟩
 exact ⟨rfl, Below.refl _ _⟩

def badM (m : Int × Int) : Prop := m.1 < 0 ∨ m.2 < 0 ∨ 999999999 < m.1 ∨ 999999999 < m.2
instance (m : Int × Int) : Decidable (badM m) := inferInstanceAs (Decidable (_ ∨ _ ∨ _ ∨ _))
end Go.Proofs.YtddkdgodgflmlaaGreatDoor

namespace Go.Proofs.YtddkdgodgflmlaaGreatDoor
open Go.RowKit
set_option maxHeartbeats 1000000
set_option maxRecDepth 100000

end Go.Proofs.YtddkdgodgflmlaaGreatDoor

namespace Go.Proofs.YtddkdgodgflmlaaGreatDoor
open Go.RowKit Go.Shelf
attribute [local go_sem] Oper.semAt_some
set_option maxHeartbeats 2000000
set_option maxRecDepth 100000

abbrev Slot (n : Nat) := { x : Int // 0 ≤ x ∧ x < n }
def slotV {n : Nat} (x : Slot n) : Array Value := #[.int .i64 x.1]

/-- this block is as it was. -/
def KeepAt (b : Nat) (A B : World) : Prop := B.heap[b]? = A.heap[b]?
theorem KeepAt.cell {b o : Nat} {A B : World} (h : KeepAt b A B) : B.cell? ⟨b, o, none⟩ = A.cell? ⟨b, o, none⟩ := World.cell?_of_block (w := A) h

end Go.Proofs.YtddkdgodgflmlaaGreatDoor

namespace Go.Proofs.YtddkdgodgflmlaaGreatDoor
open Go.RowKit Go.Shelf
attribute [local go_sem] Oper.semAt_some
set_option maxHeartbeats 2000000
set_option maxRecDepth 100000

end Go.Proofs.YtddkdgodgflmlaaGreatDoor
