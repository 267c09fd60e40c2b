/- Contracts and plain facts that the claim uses (SlA PaA PaB SnA Ps1 RlA McA Rp1 TxA SpA CyA LtA RlB RG). Conditions: as each one states. -/
import Derived.RangeFuncNested
import Derived.RangeFuncBound
import Derived.RangeFuncCalls
import Derived.RangeFuncLeaves
import Derived.RangeFuncFrom
import Derived.Shelf.Abstract
import Derived.Shelf.RegionOpen
import Derived.WalkKit
import Derived.OwnWalkIn
import Derived.TacticsInMore
import Derived.LoopNIn
import Derived.LoopIn
import Derived.Test.YtdeoogbiipodmaaGreatProg
import Derived.WalkSpells
import Derived.Maps.AppendAt
import Derived.Deep.Quiet
import Derived.Maps.Own
import Derived.Maps.OwnSet
import Derived.Maps.Views
import Derived.WalkLawsBesides
import Derived.Laws.EntriesVeiled
import Derived.Deep.QuietTactic
import Derived.BigQuiet
import Derived.Lib.OthersKept
import Derived.Shelf.Strings.Trim
import Derived.Shelf.Strings.SlTrimAscii
import Derived.Shelf.Strings.Repeat
import Derived.Shelf.Strings.OnBuilder
import Derived.Shelf.Strconv.Itoa1
import Derived.Shelf.Strconv.Itoa3
import Derived.Shelf.LaysM
import Derived.Ground.Names2Prog
import Derived.Deep.RegionHeld3
import Derived.Deep.AppendLies
import Derived.Deep.RegionHeldLaw
import Derived.Deep.RegionLaw
import Derived.StillTail
import Derived.Laws.Tables
import Derived.Laws.CopyOwn
import Derived.IntWalk
import Derived.Lib.ItoaLen
import Derived.Lib.ItoaMem
import Derived.Sort.LoopGhostIn
import Derived.BigRegion
import Derived.ChangeAlike
import Derived.Shelf.Bits.Mul64
import Derived.Maps.RangeWalk
import Derived.Test.YtdeoogbiipodmaaGreatXz01
set_option linter.all false

namespace Go.Proofs.YtdeoogbiipodmaaGreat
open Go.RowKit
set_option maxHeartbeats 1000000
set_option maxRecDepth 100000

def markOf (D : Nat) : Deferred := { target := .collected D, args := #[] }
/-- what stays true when blocks that are no cells, from B on, turn. -/
def Stays (B : Nat) (I : World → Prop) : Prop := ∀ (W : World) (r : Nat) (o o' : Obj), I W → B ≤ r → W.heap[r]? = some o → o.isCells = false → I (W.putObj r o')
/-- the marks that a frame bears. -/
def Marks (B : Nat) (ds : List Deferred) (w : World) : Prop := ∃ Ds : List Nat, ds = Ds.map markOf ∧ Ds.Nodup ∧ ∀ D ∈ Ds, B ≤ D ∧ w.heap[D]? = some (.deferred (some []))

theorem marks_leave {P : Program} {F : Fence} {n B : Nat} {fn : Func} {tmps : Array Value} {R : Ending → World → Prop} {v : Value} {I : World → Prop} (hI : Stays B I) (hres : ∀ W, (results fn tmps).run P W = .ok v W) (hR : ∀ W, I W → R (.returned v) W) :
  ∀ (Ds : List Nat) (w : World), I w → Ds.Nodup → (∀ D ∈ Ds, B ≤ D ∧ w.heap[D]? = some (.deferred (some []))) → LeavesInM F n P fn tmps R (Ds.map markOf) .returning w
 | [], w, h, _, _ => ⟨v, hres w, hR w h⟩
 | D :: Ds, w, h, hn, hD => by
   obtain ⟨hB, hd⟩ := hD D List.mem_cons_self
   refine ⟨by simp, .inl ⟨D, w.putObj D (.deferred none), rfl, run_takeDeferred hd, ?_⟩⟩
   refine marks_leave hI hres hR Ds _ (hI w D _ _ h hB hd rfl) (List.nodup_cons.1 hn).2 (fun E hE => ?_)
   have hne : E ≠ D := fun e => (List.nodup_cons.1 hn).1 (e ▸ hE)
   obtain ⟨h1, h2⟩ := hD E (List.mem_cons_of_mem _ hE)
   exact ⟨h1, by rw [World.putObj_heap_other hne]; exact h2⟩
theorem Marks.leave {P : Program} {F : Fence} {n B : Nat} {fn : Func} {tmps : Array Value} {R : Ending → World → Prop} {v : Value} {I : World → Prop} {ds : List Deferred} {w : World} (h : Marks B ds w) (hI : Stays B I) (hres : ∀ W, (results fn tmps).run P W = .ok v W) (hR : ∀ W, I W → R (.returned v) W) (h0 : I w) :
  LeavesInM F n P fn tmps R ds .returning w := by
 obtain ⟨Ds, rfl, hn, hD⟩ := h
 exact marks_leave hI hres hR Ds w h0 hn hD
end Go.Proofs.YtdeoogbiipodmaaGreat

namespace Go.Proofs.YtdeoogbiipodmaaGreat
open Go.RowKit
set_option maxRecDepth 100000

/-- what is known of one block (none: of no block). -/
structure Pc where
 P : World → Option Nat → Prop
 lt : ∀ w k, P w (some k) → k < w.heap.size
 loc : ∀ w w' row b, P w b → w.grownBy w' row → (∀ k, b = some k → row ≠ some k) → P w' b

/-- from w0 on, below block B nothing has turned, and these pieces are held, each in a block of its own from B on. -/
def SL (B : Nat) (w0 w : World) (L : List Pc) : Prop :=
 Below B w0 w ∧ B ≤ w.heap.size ∧ ∃ f : Nat → Option Nat, (∀ i p, L[i]? = some p → p.P w (f i) ∧ ∀ k, f i = some k → B ≤ k) ∧
  ∀ i j k, i < j → j < L.length → f i = some k → f j ≠ some k

theorem grown_of_below {w w' : World} (h : Below w.heap.size w w') : w.grownBy w' none := ⟨h.os, h.tape, h.output, h.size, fun k hk _ => h.block k hk⟩

section
variable {B : Nat} {w0 w w' : World} {L K : List Pc}
theorem SL.nil (w : World) : SL w.heap.size w w [] := ⟨Below.refl _ _, Nat.le_refl _, fun _ => none, fun i p h => by simp at h, fun i j k _ hj => by simp at hj⟩
theorem SL.b (h : SL B w0 w L) : Below B w0 w := h.1
theorem SL.z (h : SL B w0 w L) : B ≤ w.heap.size := h.2.1
theorem SL.grow (h : SL B w0 w L) (hg : w.grownBy w' none) : SL B w0 w' L := by
 obtain ⟨hb, hz, f, h1, h2⟩ := h
 refine ⟨hb.grown hg hz (fun k e => by cases e), Nat.le_trans hz hg.size, f, fun i p hi => ⟨p.loc _ _ _ _ (h1 i p hi).1 hg (fun k _ e => by cases e), (h1 i p hi).2⟩, h2⟩
theorem SL.mono (h : SL B w0 w L) (hb : Below w.heap.size w w') : SL B w0 w' L := h.grow (grown_of_below hb)
theorem SL.al (h : SL B w0 w L) (o : Obj) : SL B w0 (w.alloc o) L := h.grow (World.grownBy_alloc w o none)
theorem SL.drew (h : SL B w0 w L) : SL B w0 w.drew L := h.mono (Below.refl _ _).drew

theorem SL.new (h : SL B w0 w L) (p : Pc) {b : Option Nat} (hg : w.grownBy w' none) (hp : p.P w' b) (hb : ∀ k, b = some k → w.heap.size ≤ k) : SL B w0 w' (p :: L) := by
 have h' := h.grow hg
 have hz0 := h.z
 obtain ⟨_, _, f0, g1, g2⟩ := h
 obtain ⟨hb0, hz, _⟩ := h'
 refine ⟨hb0, hz, fun i => match i with | 0 => b | i + 1 => f0 i, ?_, ?_⟩
 ·intro i q hi
  cases i with
  | zero => simp at hi; subst hi; exact ⟨hp, fun k e => Nat.le_trans hz0 (hb k e)⟩
  | succ i =>
   have := g1 i q (by simpa using hi)
   exact ⟨q.loc _ _ _ _ this.1 hg (fun k _ e => by cases e), this.2⟩
 ·intro i j k hij hj hi hjk
  cases j with
  | zero => omega
  | succ j =>
   cases i with
   | zero =>
    have hj' : j < L.length := by simpa using hj
    have := (g1 j L[j] (List.getElem?_eq_getElem hj')).1
    have e : f0 j = some k := hjk
    rw [e] at this
    have l1 := L[j].lt _ _ this
    have l2 := hb k hi
    omega
   | succ i => exact g2 i j k (by omega) (by simpa using hj) hi hjk

theorem SL.upd (h : SL B w0 w L) (i : Nat) {p : Pc} (hi : L[i]? = some p) : ∃ b, p.P w b ∧ (∀ k, b = some k → B ≤ k) ∧
  ∀ (w' : World) (q : Pc) (b' : Option Nat), w.grownBy w' b → q.P w' b' → (b' = b ∨ ∀ k, b' = some k → w.heap.size ≤ k) → SL B w0 w' (L.set i q) := by
 obtain ⟨hb, hz, f, h1, h2⟩ := h
 have hil : i < L.length := (List.getElem?_eq_some_iff.1 hi).1
 refine ⟨f i, (h1 i p hi).1, (h1 i p hi).2, fun w' q b' hg hq hb' => ?_⟩
 have fresh : ∀ j k, j < L.length → f j = some k → k < w.heap.size := fun j k hj e => by
  have := (h1 j L[j] (List.getElem?_eq_getElem hj)).1
  rw [e] at this
  exact L[j].lt _ _ this
 refine ⟨hb.grown hg hz (fun k e => (h1 i p hi).2 k e), Nat.le_trans hz hg.size, fun j => if j = i then b' else f j, ?_, ?_⟩
 ·intro j r hj
  by_cases e : j = i
  ·subst e
   rw [List.getElem?_set_self hil] at hj
   cases hj
   simp only [if_true]
   refine ⟨hq, fun k e => ?_⟩
   rcases hb' with rfl | hb'
   ·exact (h1 j p hi).2 k e
   ·exact Nat.le_trans hz (hb' k e)
  ·rw [List.getElem?_set_ne (fun e' => e e'.symm)] at hj
   simp only [if_neg e]
   refine ⟨r.loc _ _ _ _ (h1 j r hj).1 hg (fun k hk hrow => ?_), (h1 j r hj).2⟩
   have hjl : j < L.length := (List.getElem?_eq_some_iff.1 hj).1
   rcases Nat.lt_or_gt_of_ne e with l | l
   ·exact h2 j i k l hil hk hrow
   ·exact h2 i j k l hjl hrow hk
 ·intro j m k hjm hm hj hmk
  rw [List.length_set] at hm
  by_cases e1 : j = i
  ·subst e1
   have e2 : m ≠ j := by omega
   simp only [if_true] at hj
   simp only [if_neg e2] at hmk
   rcases hb' with rfl | hb'
   ·exact h2 j m k hjm hm hj hmk
   ·have := hb' k hj; have := fresh m k hm hmk; omega
  ·simp only [if_neg e1] at hj
   by_cases e2 : m = i
   ·subst e2
    simp only [if_true] at hmk
    rcases hb' with rfl | hb'
    ·exact h2 j m k hjm hil hj hmk
    ·have := hb' k hmk; have := fresh j k (by omega) hj; omega
   ·simp only [if_neg e2] at hmk
    exact h2 j m k hjm hm hj hmk

theorem SL.call (h : SL B w0 w L) (hk : SL w.heap.size w w' K) : SL B w0 w' (K ++ L) := by
 have h' := h.mono hk.b
 have hkb := hk.b
 have hz := h'.z
 have hz0 := h.z
 obtain ⟨_, _, f, h1, h2⟩ := h
 obtain ⟨_, _, g, g1, g2⟩ := hk
 have fresh : ∀ j k, j < L.length → f j = some k → k < w.heap.size := fun j k hj e => by
  have := (h1 j L[j] (List.getElem?_eq_getElem hj)).1
  rw [e] at this
  exact L[j].lt _ _ this
 obtain ⟨hb0, _, _⟩ := h'
 refine ⟨hb0, hz, fun i => if i < K.length then g i else f (i - K.length), ?_, ?_⟩
 ·intro i p hi
  by_cases e : i < K.length
  ·simp only [if_pos e]
   rw [List.getElem?_append_left e] at hi
   exact ⟨(g1 i p hi).1, fun k hk => Nat.le_trans hz0 ((g1 i p hi).2 k hk)⟩
  ·simp only [if_neg e]
   rw [List.getElem?_append_right (by omega)] at hi
   exact ⟨p.loc _ _ _ _ (h1 _ p hi).1 (grown_of_below hkb) (fun k _ e => by cases e), (h1 _ p hi).2⟩
 ·intro i j k hij hj hi hjk
  rw [List.length_append] at hj
  by_cases e1 : i < K.length
  ·simp only [if_pos e1] at hi
   by_cases e2 : j < K.length
   ·simp only [if_pos e2] at hjk; exact g2 i j k hij e2 hi hjk
   ·simp only [if_neg e2] at hjk
    have a1 := (g1 i K[i] (List.getElem?_eq_getElem e1)).2 k hi
    have a2 := fresh _ k (by omega) hjk
    omega
  ·have e2 : ¬ j < K.length := by omega
   simp only [if_neg e1] at hi
   simp only [if_neg e2] at hjk
   exact h2 _ _ k (by omega) (by omega) hi hjk

/-- some of the pieces, in another order. -/
theorem SL.pick (h : SL B w0 w L) (is : List Nat) (hn : is.Nodup) (K : List Pc) (hK : is.map (fun i => L[i]?) = K.map some) : SL B w0 w K := by
 obtain ⟨hb, hz, f, h1, h2⟩ := h
 have hlen : is.length = K.length := by have := congrArg List.length hK; simpa using this
 have hat : ∀ j (hj : j < K.length), ∃ i, is[j]? = some i ∧ L[i]? = some K[j] := fun j hj => by
  have hj' : j < is.length := by omega
  refine ⟨is[j], List.getElem?_eq_getElem hj', ?_⟩
  have := congrArg (fun l : List (Option Pc) => l[j]?) hK
  simpa [hj, hj'] using this
 refine ⟨hb, hz, fun j => (is[j]?).bind f, ?_, ?_⟩
 ·intro j p hj
  have hjl : j < K.length := (List.getElem?_eq_some_iff.1 hj).1
  obtain ⟨i, e1, e2⟩ := hat j hjl
  have e3 : K[j] = p := by have := hj; rw [List.getElem?_eq_getElem hjl] at this; simpa using this
  rw [e3] at e2
  simp only [e1, Option.bind_some]
  exact h1 i p e2
 ·intro i j k hij hj hi hjk
  obtain ⟨i', e1, e2⟩ := hat i (by omega)
  obtain ⟨j', e3, e4⟩ := hat j hj
  simp only [e1, Option.bind_some] at hi
  simp only [e3, Option.bind_some] at hjk
  have hil : i' < L.length := (List.getElem?_eq_some_iff.1 e2).1
  have hjl : j' < L.length := (List.getElem?_eq_some_iff.1 e4).1
  have hne : i' ≠ j' := by
   have a := (List.getElem?_eq_some_iff.1 e1)
   have b := (List.getElem?_eq_some_iff.1 e3)
   obtain ⟨a1, a2⟩ := a
   obtain ⟨b1, b2⟩ := b
   have := (List.pairwise_iff_getElem.1 hn) i j a1 b1 hij
   rw [a2, b2] at this
   exact this
  rcases Nat.lt_or_gt_of_ne hne with l | l
  ·exact h2 i' j' k l hjl hi hjk
  ·exact h2 j' i' k l hil hjk hi
theorem SL.tail {p : Pc} (h : SL B w0 w (p :: L)) : SL B w0 w L := by
 obtain ⟨hb, hz, f, h1, h2⟩ := h
 exact ⟨hb, hz, fun i => f (i + 1), fun i p hi => h1 (i + 1) p (by simpa using hi), fun i j k hij hj => h2 (i + 1) (j + 1) k (by omega) (by simpa using hj)⟩
theorem SL.empty (h : SL B w0 w L) : SL B w0 w [] := ⟨h.1, h.2.1, fun _ => .none, fun i p h => by simp at h, fun i j k _ hj => by simp at hj⟩
theorem SL.one (h : SL B w0 w L) (i : Nat) {p : Pc} (hi : L[i]? = some p) : SL B w0 w [p] := h.pick [i] (by simp) [p] (by simp [hi])
theorem SL.of_below (hb : Below w.heap.size w w') : SL w.heap.size w w' [] := (SL.nil w).mono hb
end

theorem Own.rebase {α : Type} {c : α → Value} {sz B B' : Nat} {e : TypeId} {w : World} {v : Value} {l : List α} (h : Own c sz B e w v l) (hb : ∀ k, v.ownBlock = some k → B' ≤ k) : Own c sz B' e w v l := by
 obtain ⟨h1, h2, h3⟩ := h
 refine ⟨h1, h2, ?_⟩
 rcases h3 with h3 | ⟨g, cap, cur, hv, hB, r⟩
 ·exact .inl h3
 ·exact .inr ⟨g, cap, cur, hv, hb g (by rw [hv]; rfl), r⟩
def pOwn {α : Type} (c : α → Value) (sz : Nat) (e : TypeId) (v : Value) (l : List α) : Pc where
 P w b := Own c sz 0 e w v l ∧ v.ownBlock = b
 lt w k h := (h.1.lt k h.2).2
 loc w w' row b h hg hne := ⟨h.1.kept hg (by
  cases hb : v.ownBlock with
  | none => exact .inl rfl
  | some k => exact .inr (fun e => hne k (by rw [← h.2, hb]) e.symm)), h.2⟩
def pBlk (k : Nat) (o : Obj) : Pc where
 P w b := b = some k ∧ w.heap[k]? = some o
 lt w j h := by obtain ⟨h1, h2⟩ := h; cases h1; exact (Array.getElem?_eq_some_iff.1 h2).1
 loc w w' row b h hg hne := ⟨h.1, by rw [hg.block k (Array.getElem?_eq_some_iff.1 h.2).1 (fun e => hne k h.1 e.symm)]; exact h.2⟩
section
variable {B : Nat} {w0 w w' : World} {L : List Pc} {α : Type} {c : α → Value} {sz : Nat} {e : TypeId} {v : Value} {l : List α}
theorem SL.own (h : SL B w0 w L) (i : Nat) (hi : L[i]? = some (pOwn c sz e v l)) : Own c sz B e w v l := by
 obtain ⟨b, ⟨h1, h2⟩, h3, _⟩ := h.upd i hi
 exact h1.rebase (fun k hk => h3 k (by rw [← h2, hk]))
theorem SL.slice (h : SL B w0 w L) (i : Nat) (hi : L[i]? = some (pOwn c sz e v l)) : ∃ a cap, v = .slice a l.length cap ∧ Reps c sz w a cap l := by
 obtain ⟨a, cap, h1, h2, _⟩ := (h.own i hi).reps
 exact ⟨a, cap, h1, h2⟩
/-- what an owned slice is, read. -/
theorem SL.rd {a : Option Addr} {n cap : Nat} (h : SL B w0 w L) (i : Nat) (hi : L[i]? = some (pOwn c sz e (.slice a n cap) l)) : Reps c sz w a cap l := by
 obtain ⟨a', cap', h1, h2⟩ := h.slice i hi
 simp only [Value.slice.injEq] at h1
 obtain ⟨rfl, _, rfl⟩ := h1
 exact h2
theorem SL.blk {k : Nat} {o : Obj} (h : SL B w0 w L) (i : Nat) (hi : L[i]? = some (pBlk k o)) : w.heap[k]? = some o ∧ B ≤ k ∧ k < w.heap.size := by
 obtain ⟨b, ⟨rfl, h1⟩, h3, _⟩ := h.upd i hi
 exact ⟨h1, h3 k rfl, (Array.getElem?_eq_some_iff.1 h1).1⟩
theorem SL.cell {k : Nat} {cs : Array Value} {fr : Nat × Nat} (h : SL B w0 w L) (i : Nat) (hi : L[i]? = some (pBlk k (.cells cs e fr))) (j : Nat) {u : Value} (hu : cs[j]? = some u) : w.cell? ⟨k, j, none⟩ = some u := by
 simp [World.cell?, (h.blk i hi).1, hu]
theorem SL.frozen {k : Nat} {cs : Array Value} (h : SL B w0 w L) (i : Nat) (hi : L[i]? = some (pBlk k (.cells cs e (0, 0)))) (j : Nat) : w.frozen? ⟨k, j, none⟩ = false := by
 simp [World.frozen?, (h.blk i hi).1]
theorem SL.box (h : SL B w0 w L) (o : Obj) : SL B w0 (w.alloc o) (pBlk w.heap.size o :: L) :=
 h.new _ (b := some w.heap.size) (World.grownBy_alloc w o .none) ⟨rfl, heap_alloc_new w o⟩ (fun k e => by cases e; exact Nat.le_refl _)
theorem SL.nilS (h : SL B w0 w L) (hc : ∀ x : α, (c x).cells.size = sz) : SL B w0 w (pOwn c sz e (.slice .none 0 0) [] :: L) :=
 h.new _ (b := .none) (World.grownBy.refl w _) ⟨own_nil hc, rfl⟩ (fun k e => by cases e)
theorem SL.ofOwn (ho : Own c sz w.heap.size e w' v l) (hb : Below w.heap.size w w') : SL w.heap.size w w' [pOwn c sz e v l] :=
 (SL.nil w).new _ (grown_of_below hb) (b := v.ownBlock) ⟨ho.mono (Nat.zero_le _), rfl⟩ (fun k hk => (ho.lt k hk).1)
theorem SL.set {k : Nat} {cs : Array Value} {fr : Nat × Nat} (h : SL B w0 w L) (i : Nat) (hi : L[i]? = some (pBlk k (.cells cs e fr))) (j : Nat) (u : Value) :
  SL B w0 (w.setCell ⟨k, j, none⟩ u) (L.set i (pBlk k (.cells (cs.setIfInBounds j u) e fr))) := by
 obtain ⟨b, ⟨rfl, h1⟩, h3, h4⟩ := h.upd i hi
 refine h4 _ _ (some k) ⟨rfl, rfl, rfl, by simp [World.setCell], fun m hm hne => Below.heap_setCell _ _ _ _ (fun e => hne (by rw [e]))⟩ ⟨rfl, ?_⟩ (.inl rfl)
 simp [World.setCell, Array.getElem?_modify, h1]
end

section
variable {P : Program} {ops : Array Oper} {rest : List Oper} {a : Act} {Q : Exit → Act → World → Prop} {α : Type} {c : α → Value} {sz bytes B : Nat} {t e : TypeId} {z v : Value} {w0 w : World} {L : List Pc} {l : List α}
theorem wpList_pushL {d : Option Tmp} {ty : TypeId} {p : String} {s x : Operand} {af : Array Edge} {H n cp : Nat} {y : α} {cs : Array Value} {fr : Nat × Nat} (i : Nat) (E : ETy P t e z sz bytes)
   (hs : a.eval s = v) (hx : a.eval x = .slice (some ⟨H, 0, none⟩) n cp) (hS : SL B w0 w L) (hi : L[i]? = some (pOwn c sz e v l)) (h1 : ∀ x, ∀ u ∈ (c x).cells.toList, u.oneCell' = true)
   (hn : n = 1 ∧ cp = 1) (hH : w.heap.size = H) (hcs : cs.toList = (c y).cells.toList) (hb : (l.length + 1) * bytes ≤ 140737488355328) (hm : l.length + 1 ≤ 9223372036854775807)
   (hK : ∀ v' w', SL B w0 w' (L.set i (pOwn c sz e v' (l ++ [y]))) → wpList P ops Q rest (a.put d v') w') :
   wpList P ops Q (⟨d, .call { callee := .builtin .append, args := #[s, x], argTypes := #[t, t] }, ty, p, af, none⟩ :: rest) a (w.alloc (.cells cs e fr)) := by
 obtain ⟨rfl, rfl⟩ := hn
 have hS' := hS.al (.cells cs e fr)
 have hc := (hS.own i hi).1
 obtain ⟨b, ⟨h2, h3⟩, h4, h5⟩ := hS'.upd i hi
 refine wpList_app (l := l) (ys := [y]) (ad := some ⟨H, 0, none⟩) (cap := 1) E hs hx h2 (reps_new1 hc y cs fr hH hcs) h1 (by simpa using hb) (Nat.zero_le _) (by simpa using hm) ?_
 intro v' w' ho hg hat
 refine hK v' w' (h5 w' _ v'.ownBlock (h3 ▸ hg) ⟨ho, rfl⟩ ?_)
 rcases hat with hat | hat
 ·exact .inl (hat.trans h3)
 ·exact .inr (fun k hk => by rw [hat] at hk; cases hk; exact Nat.le_refl _)
theorem wpList_storeL {d1 : Tmp} {ty1 ty2 : TypeId} {p1 p2 : String} {s x y : Operand} {af1 af2 : Array Edge} {ad : Option Addr} {n cap : Nat} {k : Int} {u : α} (i : Nat)
   (E : ETy P t e z 1 bytes) (hc1 : ∀ x, (c x).cells = #[c x]) (hsto : ∀ (u : α) (w : World) (p : Addr), (w.cell? p).isSome = true → w.frozen? p = false → (Instr.storeAt e (.pointer (some p)) (c u)).run P w = .ok () (w.setCell p (c u)))
   (hs : a.eval s = .slice ad n cap) (hx : a.eval x = .int .i64 k) (hS : SL B w0 w L) (hi : L[i]? = some (pOwn c 1 e (.slice ad n cap) l)) (h0 : 0 ≤ k) (hk : k < l.length)
   (hd : ∀ p, (a.put (some d1) p).eval (.tmp d1) = p) (hy : ∀ p, (a.put (some d1) p).eval y = c u)
   (hK : ∀ p w', SL B w0 w' (L.set i (pOwn c 1 e (.slice ad n cap) (l.set k.toNat u))) → wpList P ops Q rest ((a.put (some d1) p).put none undef) w') :
   wpList P ops Q (⟨some d1, .indexAddr t s x, ty1, p1, af1, none⟩ :: ⟨none, .store e (.tmp d1) y, ty2, p2, af2, none⟩ :: rest) a w := by
 obtain ⟨a', cap', e1, _⟩ := hS.slice i hi
 simp only [Value.slice.injEq] at e1
 obtain ⟨rfl, rfl, rfl⟩ := e1
 obtain ⟨b, ⟨h2, h3⟩, h4, h5⟩ := hS.upd i hi
 refine wpList_store (l := l) (B := 0) u E hc1 (hsto u) hs hx h2 h0 hk hd hy (fun p w' ho hg => hK p w' (h5 w' _ b (h3 ▸ hg) ⟨ho, h3⟩ (.inl rfl)))
theorem wpList_makeL {d : Option Tmp} {ty : TypeId} {p : String} {x y : Operand} {af : Array Edge} (n : Nat) (z0 : α)
  (E : ETy P t e (c z0) 1 bytes) (hc : ∀ x, (c x).cells = #[c x]) (hx : a.eval x = .int .i64 n) (hy : a.eval y = .int .i64 n) (hb : bytes * n ≤ 281474976710656) (hm : n ≤ 9223372036854775807) (hS : SL B w0 w L)
  (hK : ∀ ad w', SL B w0 w' (pOwn c 1 e (.slice ad n n) (List.replicate n z0) :: L) → wpList P ops Q rest (a.put d (.slice ad n n)) w') :
  wpList P ops Q (⟨d, .makeSlice t x y, ty, p, af, none⟩ :: rest) a w := by
 refine wpList_make1 n z0 E hc hx hy hb hm (Nat.le_refl _) (fun w' ho hg => hK _ w' ?_)
 exact hS.new _ (b := some w.heap.size) hg ⟨ho.mono (Nat.zero_le _), rfl⟩ (fun k e => by cases e; exact Nat.le_refl _)
end
section
variable {ops : Array Oper} {rest : List Oper} {a : Act} {Q : Exit → Act → World → Prop} {d : Option Tmp} {ty : TypeId} {p : String} {m x y : Operand} {af : Array Edge} {b n B : Nat} {k : Int} {w0 w : World} {L : List Pc}
end
end Go.Proofs.YtdeoogbiipodmaaGreat

namespace Go.Proofs.YtdeoogbiipodmaaGreat
open Go.RowKit
set_option maxRecDepth 100000

section
variable {B : Nat} {w0 w w' : World} {L K : List Pc}
theorem SL.weaken (h : SL B w0 w L) (i : Nat) {p : Pc} (hi : L[i]? = some p) (q : Pc) (hq : ∀ b, p.P w b → q.P w b) : SL B w0 w (L.set i q) := by
 obtain ⟨b, h1, h3, h4⟩ := h.upd i hi
 exact h4 w q b (World.grownBy.refl w _) (hq b h1) (.inl rfl)
theorem SL.comm (h : SL B w0 w (K ++ L)) : SL B w0 w (L ++ K) := by
 obtain ⟨hb, hz, f, h1, h2⟩ := h
 refine ⟨hb, hz, fun i => if i < L.length then f (K.length + i) else f (i - L.length), ?_, ?_⟩
 ·intro i p hi
  by_cases e : i < L.length
  ·simp only [if_pos e]
   rw [List.getElem?_append_left e] at hi
   exact h1 _ p (by rw [List.getElem?_append_right (by omega)]; simpa using hi)
  ·simp only [if_neg e]
   rw [List.getElem?_append_right (by omega)] at hi
   have hl := (List.getElem?_eq_some_iff.1 hi).1
   exact h1 _ p (by rw [List.getElem?_append_left hl]; exact hi)
 ·intro i j k hij hj hi hjk
  rw [List.length_append] at hj
  by_cases e1 : i < L.length
  ·simp only [if_pos e1] at hi
   by_cases e2 : j < L.length
   ·simp only [if_pos e2] at hjk
    exact h2 _ _ k (by omega) (by rw [List.length_append]; omega) hi hjk
   ·simp only [if_neg e2] at hjk
    exact h2 _ _ k (show j - L.length < K.length + i by omega) (by rw [List.length_append]; omega) hjk hi
  ·have e2 : ¬ j < L.length := by omega
   simp only [if_neg e1] at hi
   simp only [if_neg e2] at hjk
   exact h2 _ _ k (by omega) (by rw [List.length_append]; omega) hi hjk

/-- the blocks of the pieces. -/
def SLok (w : World) (B : Nat) (f : Nat → Option Nat) (L : List Pc) : Prop := (∀ i p, L[i]? = some p → p.P w (f i) ∧ ∀ k, f i = some k → B ≤ k) ∧ ∀ i j k, i < j → j < L.length → f i = some k → f j ≠ some k
theorem SLok.cons {f : Nat → Option Nat} {p : Pc} (hp : p.P w (f 0) ∧ ∀ k, f 0 = some k → B ≤ k) (h : SLok w B (fun i => f (i + 1)) L) (hne : ∀ j k, j < L.length → f 0 = some k → f (j + 1) ≠ some k) : SLok w B f (p :: L) := by
 refine ⟨fun i q hi => ?_, fun i j k hij hj hi => ?_⟩
 ·cases i with
  | zero => simp at hi; subst hi; exact hp
  | succ i => exact h.1 i q (by simpa using hi)
 ·cases j with
  | zero => omega
  | succ j =>
   cases i with
   | zero => exact hne j k (by simpa using hj) hi
   | succ i => exact h.2 i j k (by omega) (by simpa using hj) hi
theorem SLok.uncons {f : Nat → Option Nat} {p : Pc} (h : SLok w B f (p :: L)) : (p.P w (f 0) ∧ ∀ k, f 0 = some k → B ≤ k) ∧ SLok w B (fun i => f (i + 1)) L ∧ ∀ j k, j < L.length → f 0 = some k → f (j + 1) ≠ some k :=
 ⟨h.1 0 p rfl, ⟨fun i q hi => h.1 (i + 1) q (by simpa using hi), fun i j k hij hj => h.2 (i + 1) (j + 1) k (by omega) (by simpa using hj)⟩, fun j k hj => h.2 0 (j + 1) k (by omega) (by simpa using hj)⟩
theorem SLok.perm : ∀ {L L' : List Pc}, L.Perm L' → ∀ f, SLok w B f L → ∃ f', SLok w B f' L' ∧ ∀ i k, i < L'.length → f' i = some k → ∃ j, j < L.length ∧ f j = some k := by
 intro L L' hp
 induction hp with
 | nil => intro f h; exact ⟨f, h, fun i k hi => by simp at hi⟩
 | cons x _ ih =>
  intro f h
  obtain ⟨h1, h2, h3⟩ := h.uncons
  obtain ⟨g, g1, g2⟩ := ih _ h2
  refine ⟨fun i => match i with | 0 => f 0 | i + 1 => g i, SLok.cons h1 g1 (fun j k hj hk e => ?_), fun i k hi hk => ?_⟩
  ·obtain ⟨j', hj', e'⟩ := g2 j k hj e
   exact h3 j' k hj' hk e'
  ·cases i with
   | zero => exact ⟨0, by simp, hk⟩
   | succ i =>
    obtain ⟨j', hj', e'⟩ := g2 i k (by simpa using hi) hk
    exact ⟨j' + 1, by simpa using hj', e'⟩
 | swap x y l =>
  intro f h
  obtain ⟨h1, h2, h3⟩ := h.uncons
  obtain ⟨h4, h5, h6⟩ := h2.uncons
  refine ⟨fun i => match i with | 0 => f 1 | 1 => f 0 | i + 2 => f (i + 2), SLok.cons h4 (SLok.cons h1 h5 (fun j k hj hk => ?_)) (fun j k hj hk e => ?_), fun i k hi hk => ?_⟩
  ·exact h3 (j + 1) k (by simpa using hj) hk
  ·cases j with
   | zero => exact h3 0 k (by simp) e hk
   | succ j => exact h6 j k (by simpa using hj) hk e
  ·match i with
   | 0 => exact ⟨1, by simp, hk⟩
   | 1 => exact ⟨0, by simp, hk⟩
   | i + 2 => exact ⟨i + 2, by simpa using hi, hk⟩
 | trans _ _ ih1 ih2 =>
  intro f h
  obtain ⟨g, g1, g2⟩ := ih1 f h
  obtain ⟨g', g3, g4⟩ := ih2 g g1
  refine ⟨g', g3, fun i k hi hk => ?_⟩
  obtain ⟨j, hj, e⟩ := g4 i k hi hk
  exact g2 j k hj e
theorem SL.perm (h : SL B w0 w L) (hp : L.Perm K) : SL B w0 w K := by
 obtain ⟨hb, hz, f, h1⟩ := h
 obtain ⟨g, g1, _⟩ := SLok.perm hp f h1
 exact ⟨hb, hz, g, g1⟩
/-- two pieces lie in different blocks. -/
theorem SL.apart (h : SL B w0 w L) (i j : Nat) (hij : i ≠ j) {p q : Pc} (hi : L[i]? = some p) (hj : L[j]? = some q) {k k' : Nat} (hp : ∀ b, p.P w b → b = some k) (hq : ∀ b, q.P w b → b = some k') : k ≠ k' := by
 obtain ⟨_, _, f, h1, h2⟩ := h
 have e1 := hp _ (h1 i p hi).1
 have e2 := hq _ (h1 j q hj).1
 have hil := (List.getElem?_eq_some_iff.1 hi).1
 have hjl := (List.getElem?_eq_some_iff.1 hj).1
 rintro rfl
 rcases Nat.lt_or_gt_of_ne hij with l | l
 ·exact h2 i j k l hjl e1 e2
 ·exact h2 j i k l hil e2 e1

/-- some of the pieces of the front, in another order. -/
theorem SL.pickA {M : List Pc} (h : SL B w0 w (K ++ M)) (is : List Nat) (hn : is.Nodup) (hl : ∀ i ∈ is, i < K.length) (K' : List Pc) (hK : is.map (fun i => K[i]?) = K'.map some) : SL B w0 w (K' ++ M) := by
 refine h.pick (is ++ List.range' K.length M.length) ?_ _ ?_
 ·refine List.nodup_append.2 ⟨hn, List.nodup_range' , ?_⟩
  intro a ha b hb e
  subst e
  have := hl a ha
  simp at hb
  omega
 ·rw [List.map_append, List.map_append]
  congr 1
  ·rw [← hK]
   refine List.map_congr_left fun i hi => ?_
   rw [List.getElem?_append_left (hl i hi)]
  ·apply List.ext_getElem
   ·simp
   ·intro i h1 h2
    have h3 : i < M.length := by simpa using h2
    simp [h3]

/-- a piece that a turn of a block that is no cells, from B on, does not touch. -/
def Pc.okT (B : Nat) (p : Pc) : Prop := ∀ W k, p.P W (some k) → k < B ∨ ∃ o : Obj, W.heap[k]? = some o ∧ o.isCells = true
theorem SL.turn {C : Nat} {row : Option Nat} (h : SL B w0 w L) (hB : B ≤ C) (hL : ∀ p ∈ L, p.okT C) (hg : w.grownBy w' row) (hr : ∀ r, row = some r → C ≤ r ∧ ∃ o : Obj, w.heap[r]? = some o ∧ o.isCells = false) : SL B w0 w' L := by
 obtain ⟨hb, hz, f, h1, h2⟩ := h
 refine ⟨hb.grown hg hz (fun k e => Nat.le_trans hB (hr k e).1), Nat.le_trans hz hg.size, f, fun i p hi => ⟨p.loc _ _ _ _ (h1 i p hi).1 hg (fun k hk e => ?_), (h1 i p hi).2⟩, h2⟩
 obtain ⟨h3, o, h4, h5⟩ := hr k e
 have h6 := (h1 i p hi).1
 rw [hk] at h6
 rcases hL p (List.mem_of_getElem? hi) w k h6 with h7 | ⟨o', h7, h8⟩
 ·omega
 ·rw [h4] at h7; cases h7; rw [h5] at h8; cases h8
end

section
variable {α : Type} {c : α → Value} {sz : Nat} {e : TypeId} {v : Value} {l : List α} {B : Nat} {W0 w : World} {L : List Pc}
theorem own_isCells {C : Nat} (h : Own c sz C e w v l) {k : Nat} (hk : v.ownBlock = some k) : ∃ o : Obj, w.heap[k]? = some o ∧ o.isCells = true := by
 obtain ⟨_, _, h3⟩ := h
 rcases h3 with ⟨rfl, _⟩ | ⟨g, cap, cur, rfl, _, hg, _⟩
 ·cases hk
 ·cases hk; exact ⟨_, hg, rfl⟩
theorem okT_own : (pOwn c sz e v l).okT B := fun W k h => .inr (own_isCells h.1 h.2)
theorem okT_cells {k : Nat} {cs : Array Value} {fr : Nat × Nat} : (pBlk k (.cells cs e fr)).okT B := fun W j h => .inr ⟨_, by obtain ⟨h1, h2⟩ := h; cases h1; exact h2, rfl⟩
/-- a slice that was there at W0, or an owned one. -/
def pSrc {α : Type} (c : α → Value) (sz : Nat) (e : TypeId) (W0 : World) (v : Value) (l : List α) : Pc where
 P w b := (b = none ∧ ∃ a cap, v = .slice a l.length cap ∧ Reps c sz W0 a cap l) ∨ (Own c sz 0 e w v l ∧ v.ownBlock = b)
 lt w k h := by
  rcases h with ⟨h, _⟩ | h
  ·cases h
  ·exact (h.1.lt k h.2).2
 loc w w' row b h hg hne := by
  rcases h with h | h
  ·exact .inl h
  ·exact .inr ((pOwn c sz e v l).loc w w' row b h hg hne)
theorem SL.src (h : SL W0.heap.size W0 w L) (i : Nat) (hi : L[i]? = some (pSrc c sz e W0 v l)) : ∃ a cap, v = .slice a l.length cap ∧ Reps c sz w a cap l := by
 obtain ⟨b, h1, _, _⟩ := h.upd i hi
 rcases h1 with ⟨_, a, cap, rfl, hR⟩ | h1
 ·exact ⟨a, cap, rfl, hR.below h.b⟩
 ·obtain ⟨a, cap, h2, h3, _⟩ := h1.1.reps
  exact ⟨a, cap, h2, h3⟩
theorem SL.newSrc {a : Option Addr} {cap : Nat} (h : SL B W0 w L) (hR : Reps c sz W0 a cap l) : SL B W0 w (pSrc c sz e W0 (.slice a l.length cap) l :: L) :=
 h.new _ (b := none) (World.grownBy.refl w _) (.inl ⟨rfl, a, cap, rfl, hR⟩) (fun k e => by cases e)

theorem SL.setOwn {ad : Option Addr} {n cap : Nat} (h : SL B W0 w L) (hc1 : ∀ x, (c x).cells = #[c x]) (i : Nat) (hi : L[i]? = some (pOwn c 1 e (.slice ad n cap) l)) (k : Int) (h0 : 0 ≤ k) (hk : k < l.length) (x : α) :
  ∃ g, ad = some ⟨g, 0, none⟩ ∧ n = l.length ∧ w.cell? ⟨g, k.toNat, none⟩ = l[k.toNat]?.map c ∧ w.frozen? ⟨g, k.toNat, none⟩ = false ∧ SL B W0 (w.setCell ⟨g, k.toNat, none⟩ (c x)) (L.set i (pOwn c 1 e (.slice ad n cap) (l.set k.toNat x))) := by
 obtain ⟨a', cap', e1, hR⟩ := h.slice i hi
 simp only [Value.slice.injEq] at e1
 obtain ⟨rfl, rfl, rfl⟩ := e1
 obtain ⟨b, ⟨h2, h3⟩, h4, h5⟩ := h.upd i hi
 obtain ⟨g, rfl, _, hcs, hfr, ho, hg⟩ := own_store hc1 h2 x k h0 hk
 refine ⟨g, rfl, rfl, ?_, hfr, h5 _ _ (some g) (by rw [← h3]; exact hg) ⟨ho, rfl⟩ (.inl (by rw [← h3]; rfl))⟩
 have hkl : k.toNat < l.length := by omega
 obtain ⟨b1, o1, e1, hc⟩ := hR.cells (by decide) (l[k.toNat]) k.toNat hkl
 cases e1
 have := hc 0 (c (l.getD k.toNat l[k.toNat])) (by rw [hc1]; rfl)
 simpa [hkl] using this

theorem wpListIn_pushL {F : Fence} {n' : Nat} {P : Program} {ops : Array Oper} {rest : List Oper} {a : Act} {Q : Exit → Act → World → Prop} {bytes : Nat} {t : TypeId} {z : Value} {w0 : World} {d : Option Tmp} {ty : TypeId} {p : String} {s x : Operand} {af : Array Edge} {H n cp : Nat} {y : α} {cs : Array Value} {fr : Nat × Nat} (i : Nat) (E : ETy P t e z sz bytes)
   (hs : a.eval s = v) (hx : a.eval x = .slice (some ⟨H, 0, none⟩) n cp) (hS : SL B w0 w L) (hi : L[i]? = some (pOwn c sz e v l)) (h1 : ∀ x, ∀ u ∈ (c x).cells.toList, u.oneCell' = true)
   (hn : n = 1 ∧ cp = 1) (hH : w.heap.size = H) (hcs : cs.toList = (c y).cells.toList) (hb : (l.length + 1) * bytes ≤ 140737488355328) (hm : l.length + 1 ≤ 9223372036854775807)
   (hK : ∀ v' w', SL B w0 w' (L.set i (pOwn c sz e v' (l ++ [y]))) → w.grownBy w' v.ownBlock → (v'.ownBlock = v.ownBlock ∨ v'.ownBlock = some (w.heap.size + 1)) → wpListIn F n' P ops Q rest (a.put d v') w') :
   wpListIn F n' P ops Q (⟨d, .call { callee := .builtin .append, args := #[s, x], argTypes := #[t, t] }, ty, p, af, none⟩ :: rest) a (w.alloc (.cells cs e fr)) := by
 obtain ⟨rfl, rfl⟩ := hn
 have hS' := hS.al (.cells cs e fr)
 have hc := (hS.own i hi).1
 obtain ⟨b, ⟨h2, h3⟩, h4, h5⟩ := hS'.upd i hi
 refine wpListIn_plain rfl fun K hK' => ?_
 obtain ⟨v', w', r1, r2, r3, r4⟩ := run_app ty E h2 (reps_new1 (e := e) hc y cs fr hH hcs) h1 (by simpa using hb) (by simpa using hm) (Nat.zero_le _)
 unfold Oper.wpIn
 refine ⟨?_, ?_⟩
 ·simp [Oper.about, resolve, Target.leads, Sem.run_pure]
 ·rw [Oper.semAt_plain F _ _ (by intro c hc'; cases hc')]
  have r1' : (Builtin.append_ #[t, t] ty #[v, .slice (some ⟨H, 0, none⟩) 1 1]).run P (w.alloc (.cells cs e fr)) = .ok v' w' := r1
  simp only [execOp, resolve, invoke, builtin, Sem.run_bind, Sem.run_pure, Result.andThen_ok, List.map_toArray, List.map_cons, List.map_nil, hs, hx, r1']
  refine hK' _ _ (hK v' w' (h5 w' _ v'.ownBlock (h3 ▸ r3) ⟨r2, rfl⟩ ?_) ((World.grownBy_alloc w _ _).trans r3) ?_)
  ·rcases r4 with hat | hat
   ·exact .inl (hat.trans h3)
   ·exact .inr (fun k hk => by rw [hat] at hk; cases hk; exact Nat.le_refl _)
  ·rcases r4 with hat | hat
   ·exact .inl hat
   ·exact .inr (by rw [hat]; simp)

end
def pMark (D : Nat) : Pc := pBlk D (.deferred (some []))
theorem SL.addMark {B C D : Nat} {w0 w : World} {L : List Pc} (h : SL B w0 w L) (hL : ∀ p ∈ L, p.okT C) (hB : B ≤ C) (hC : C ≤ D) (hD : w.heap[D]? = some (.deferred (some []))) : SL B w0 w (pMark D :: L) := by
 obtain ⟨hb, hz, f, h1, h2⟩ := h
 have hne : ∀ j, j < L.length → f j ≠ some D := fun j hj e => by
  have h6 := (h1 j L[j] (List.getElem?_eq_getElem hj)).1
  rw [e] at h6
  rcases hL L[j] (List.getElem_mem hj) w D h6 with h7 | ⟨o', h7, h8⟩
  ·omega
  ·rw [hD] at h7; cases h7; cases h8
 refine ⟨hb, hz, fun i => match i with | 0 => some D | i + 1 => f i, ?_, ?_⟩
 ·intro i p hi
  cases i with
  | zero => simp at hi; subst hi; exact ⟨⟨rfl, hD⟩, fun k e => by cases e; omega⟩
  | succ i => exact h1 i p (by simpa using hi)
 ·intro i j k hij hj hi hjk
  cases j with
  | zero => omega
  | succ j =>
   cases i with
   | zero => cases hi; exact hne j (by simpa using hj) hjk
   | succ i => exact h2 i j k (by omega) (by simpa using hj) hi hjk
theorem SL.leave {P : Program} {F : Fence} {n B : Nat} {fn : Func} {tmps : Array Value} {R : Ending → World → Prop} {w0 : World} {L : List Pc} (hR : ∀ W, SL B w0 W L → ∃ v, (results fn tmps).run P W = .ok v W ∧ R (.returned v) W) :
  ∀ (Ds : List Nat) (w : World), SL B w0 w (Ds.map pMark ++ L) → LeavesInM F n P fn tmps R (Ds.map markOf) .returning w
 | [], w, h => by
   obtain ⟨v, h1, h2⟩ := hR w h
   exact ⟨v, h1, h2⟩
 | D :: Ds, w, h => by
   have hd := (h.blk 0 rfl).1
   refine ⟨by simp, .inl ⟨D, w.putObj D (.deferred none), rfl, run_takeDeferred hd, ?_⟩⟩
   refine SL.leave hR Ds _ ?_
   obtain ⟨b, ⟨rfl, h1⟩, h3, h4⟩ := h.upd 0 (p := pMark D) rfl
   have h5 := h4 (w.putObj D (.deferred none)) (pBlk D (.deferred none)) (some D) (grownBy_putObj' w D (.deferred none)) ⟨rfl, World.putObj_heap_same (Array.getElem?_eq_some_iff.1 h1).1⟩ (.inl rfl)
   exact h5.tail
end Go.Proofs.YtdeoogbiipodmaaGreat

namespace Go.Proofs.YtdeoogbiipodmaaGreat
open Go.RowKit
set_option maxHeartbeats 400000
set_option maxRecDepth 100000

structure PassV where
 f : Int
 t : Int
 way : ByteArray
instance : Inhabited PassV := ⟨⟨0, 0, ByteArray.empty⟩⟩
def cPass (p : PassV) : Value := .agg #[.int .i64 p.f, .int .i64 p.t, .string p.way]
attribute [go_sem] cPass
theorem cPassS (x : PassV) : (cPass x).cells.size = 3 := rfl
abbrev PassesR (w : World) (a : Option Addr) (cap : Nat) (l : List PassV) : Prop := Reps cPass 3 w a cap l
end Go.Proofs.YtdeoogbiipodmaaGreat

namespace Go.Proofs.YtdeoogbiipodmaaGreat
open Go.RowKit
set_option maxHeartbeats 400000
set_option maxRecDepth 100000

end Go.Proofs.YtdeoogbiipodmaaGreat

namespace Go.Proofs.YtdeoogbiipodmaaGreat
open Go.RowKit
set_option maxHeartbeats 400000
set_option maxRecDepth 100000

end Go.Proofs.YtdeoogbiipodmaaGreat

namespace Go.Proofs.YtdeoogbiipodmaaGreat
open Go.RowKit
set_option maxHeartbeats 1000000
set_option maxRecDepth 100000

def whenV (b : Bool) (e : Int) : Int := if b then e else 0
@[go_sem] theorem whenV_true (e : Int) : whenV true e = e := rfl
@[go_sem] theorem whenV_false (e : Int) : whenV false e = 0 := rfl
end Go.Proofs.YtdeoogbiipodmaaGreat

namespace Go.Proofs.YtdeoogbiipodmaaGreat
open Go.RowKit
set_option maxHeartbeats 1000000
set_option maxRecDepth 100000

end Go.Proofs.YtdeoogbiipodmaaGreat

namespace Go.Proofs.YtdeoogbiipodmaaGreat
open Go.RowKit
set_option maxHeartbeats 1000000
set_option maxRecDepth 100000

/-- A list of passes and an error came back. -/
def RetPsE (W : World) (L : List PassV) (e : Int) (r : Ending) (w' : World) : Prop :=
 ∃ a cap, r = .returned (.tuple #[.slice a L.length cap, .int .i64 e]) ∧ PassesR w' a cap L ∧ (∀ b, a = some b → W.heap.size ≤ b.block) ∧ Below W.heap.size W w'
theorem passesR_nil (w : World) : PassesR w none 0 [] := ⟨cPassS, Nat.le_refl _, Nat.zero_le _, fun _ => rfl, fun j u hu => by simp at hu⟩
theorem RetPsE.none {W w' : World} {e : Int} {r : Ending} (h1 : r = .returned (.tuple #[.slice none 0 0, .int .i64 e])) (h4 : Below W.heap.size W w') : RetPsE W [] e r w' :=
 ⟨.none, 0, h1, passesR_nil _, (fun _ h => by cases h), h4⟩
end Go.Proofs.YtdeoogbiipodmaaGreat

namespace Go.Proofs.YtdeoogbiipodmaaGreat
open Go.RowKit
set_option maxHeartbeats 1000000
set_option maxRecDepth 100000

abbrev Strs (w : World) (a : Option Addr) (cap : Nat) (l : List ByteArray) : Prop := Reps cStr 1 w a cap l
abbrev OwnS (B : Nat) (w : World) (v : Value) (l : List ByteArray) : Prop := Own cStr 1 B 9 w v l
/-- A list of strings and an error came back. -/
def RetSE (W : World) (L : List ByteArray) (e : Int) (r : Ending) (w' : World) : Prop :=
 ∃ a cap, r = .returned (.tuple #[.slice a L.length cap, .int .i64 e]) ∧ Strs w' a cap L ∧ (∀ b, a = some b → W.heap.size ≤ b.block) ∧ Below W.heap.size W w'
theorem strs_nil (w : World) : Strs w none 0 [] := ⟨cStrS, Nat.le_refl _, Nat.zero_le _, fun _ => rfl, fun j u hu => by simp at hu⟩
theorem RetSE.none {W w' : World} {e : Int} {r : Ending} (h1 : r = .returned (.tuple #[.slice none 0 0, .int .i64 e])) (h4 : Below W.heap.size W w') : RetSE W [] e r w' :=
 ⟨.none, 0, h1, strs_nil _, (fun _ h => by cases h), h4⟩
theorem RetSE.own {W w' : World} {L : List ByteArray} {e : Int} {r : Ending} {B : Nat} (v : Value) (h1 : r = .returned (.tuple #[v, .int .i64 e])) (h2 : OwnS B w' v L) (hB : W.heap.size ≤ B) (h4 : Below W.heap.size W w') : RetSE W L e r w' := by
 obtain ⟨a, cap, rfl, hr, hf, _⟩ := h2.reps
 exact ⟨a, cap, h1, hr, fun b hb => Nat.le_trans hB (hf b hb).1, h4⟩

end Go.Proofs.YtdeoogbiipodmaaGreat

namespace Go.Proofs.YtdeoogbiipodmaaGreat
open Go.RowKit
set_option maxHeartbeats 1000000
set_option maxRecDepth 100000

theorem atD_take {r : List Int} {c k : Nat} (h : k < c) : atD 0 (r.take c) k = atD 0 r k := by
 unfold atD
 rw [List.getD_eq_getElem?_getD, List.getD_eq_getElem?_getD, List.getElem?_take]
 simp [h]
end Go.Proofs.YtdeoogbiipodmaaGreat

namespace Go.Proofs.YtdeoogbiipodmaaGreat
open Go.RowKit
section
variable {P : Program} {ops : Array Oper} {md : Region.Mode} {C : World → Prop}

def wpAnyLQ (P : Program) (md : Region.Mode) (ops : Array Oper) (C : World → Prop) (n : Nat) (L : Array Bool → Act → Prop) : Nat → Array Bool → Act → Prop
 | 0, listed, a => L listed a
 | f + 1, listed, a =>
  Region.ready md ops listed ≠ [] ∧ ∀ i ∈ Region.ready md ops listed, i < n ∧ qOp P ops C i (wpAnyLQ P md ops C n L f (listed.setIfInBounds i true)) a

theorem wpAny_of_headQ {n g : Nat} {L : Array Bool → Act → Prop} {Q' : Exit → Act → World → Prop} (hL : ∀ listed a w, C w → L listed a → wpAny P md ops Q' g listed a w) :
  ∀ (f : Nat) (listed : Array Bool) (a : Act) (w : World), C w → wpAnyLQ P md ops C n L f listed a → wpAny P md ops Q' (f + g) listed a w
 | 0, listed, a, w, hw, h => by rw [Nat.zero_add]; exact hL _ _ _ hw h
 | f + 1, listed, a, w, hw, h => by
   rw [show f + 1 + g = (f + g) + 1 by omega]
   exact ⟨fun h0 => absurd h0 h.1, fun i hi => wpOp_of_qOp hw (fun a' w' hw' h' => wpAny_of_headQ hL f _ a' w' hw' h') (h.2 i hi).2⟩

theorem wpAnyLQ_first {n i : Nat} {oi : Oper} {v : Value} {L : Array Bool → Act → Prop} (hi : ops[i]? = some oi) (hsel : ∀ (j : Nat) (o : Oper) cs b, ops[j]? = some o → o.op ≠ .select cs b)
  (hs : Region.sinkB md ops n = true) (hc : Region.chainB md ops n = true) (hn : n < ops.size) (hin : i < n)
  (hdone : ∀ listed a, L listed a → ∀ j ∈ Region.ready md ops listed, n ≤ j) :
  ∀ (f : Nat) (listed : Array Bool) (a : Act), HeadInv md ops n listed →
   (∀ j oj, ops[j]? = some oj → j ≠ i → listed.getD j true = false → (∀ e ∈ oj.after, Region.binds md e = true → e.on ≠ i) → oi.apart ops oj = true) →
   i ∈ Region.ready md ops listed → YieldsIn P ops C oi v a →
   wpAnyLQ P md ops C n L f (listed.setIfInBounds i true) (a.put oi.dst v) → wpAnyLQ P md ops C n L (f + 1) listed a := by
 intro f
 induction f with
 | zero =>
  intro listed a inv _ hr hy H
  have hun := (mem_ready.1 hr).1
  refine ⟨fun h => (by rw [h] at hr; cases hr), fun j hj => ?_⟩
  have hjn : j < n := by
   rcases Nat.lt_or_ge j n with h | h
   ·exact h
   ·exact absurd hj (tail_waits hs hc hn inv _ i rfl hin hun j h)
  refine ⟨hjn, ?_⟩
  by_cases hji : j = i
  ·subst hji; exact hy.qOp hi H
  ·have := hdone _ _ H j (ready_mono hj hji)
   omega
 | succ f ih =>
  intro listed a inv hfree hr hy H
  have hun := (mem_ready.1 hr).1
  refine ⟨fun h => (by rw [h] at hr; cases hr), fun j hj => ?_⟩
  have hjn : j < n := by
   rcases Nat.lt_or_ge j n with h | h
   ·exact h
   ·exact absurd hj (tail_waits hs hc hn inv _ i rfl hin hun j h)
  refine ⟨hjn, ?_⟩
  by_cases hji : j = i
  ·subst hji; exact hy.qOp hi H
  ·have h1 := (H.2 j (ready_mono hj hji)).2
   obtain ⟨hjun, oj, hoj, hall⟩ := mem_ready.1 hj
   have hnot : ∀ e ∈ oj.after, Region.binds md e = true → e.on ≠ i := fun e he hb heq => by
    have h1 := hall e he hb
    rw [heq, getD_both hun] at h1
    cases h1
   have h2 := qOp_put hoj (hfree j oj hoj hji hjun hnot) (fun cs b => hsel i oi cs b hi) (fun cs b => hsel j oj cs b hoj) hy h1
   have hfree' : ∀ k ok, ops[k]? = some ok → k ≠ i → (listed.setIfInBounds j true).getD k true = false →
     (∀ e ∈ ok.after, Region.binds md e = true → e.on ≠ i) → oi.apart ops ok = true := fun k ok hk hki hun hno => by
    refine hfree k ok hk hki ?_ hno
    by_cases hjk : j = k
    ·subst hjk; exact hjun
    ·rw [getD_set_ne true hjk] at hun; exact hun
   refine qOp_mono (fun a' h3 => ih (listed.setIfInBounds j true) a' (inv.set hj hjn) hfree' (ready_mono hr (Ne.symm hji)) h3.1 ?_) h2
   rw [Array.setIfInBounds_comm _ _ hji]
   exact h3.2

theorem wpAnyLQ_lex {n g : Nat} {Lq : Act → Prop} (hsel : Region.noSelect ops = true) (hs : Region.sinkB md ops n = true) (hc : Region.chainB md ops n = true) (hn : n < ops.size) :
  ∀ (l : List Oper) (k : Nat) (listed : Array Bool) (a : Act), (∀ j, j < l.length → l[j]? = ops[k + j]?) → k + l.length = n → HeadInv md ops n listed →
  Region.lexHead md ops g l.length k listed = true → wpQuiet P ops C Lq l a →
  wpAnyLQ P md ops C n (fun listed' a' => Region.seqB md ops g n listed' = true ∧ Lq a') l.length listed a
 | [], k, listed, a, _, hk, _, hB, h => by
   have : k = n := by simpa using hk
   subst this
   exact ⟨by simpa [Region.lexHead] using hB, h⟩
 | o :: l, k, listed, a, hl, hk, inv, hB, h => by
   have h0 : ops[k]? = some o := by simpa using (hl 0 (by simp)).symm
   simp only [List.length_cons, Region.lexHead, Bool.and_eq_true] at hB
   obtain ⟨⟨hr, hf⟩, hB'⟩ := hB
   have hkn : k < n := by simp only [List.length_cons] at hk; omega
   have hr' : k ∈ Region.ready md ops listed := by simpa using hr
   have hst : qOp P ops C k (wpQuiet P ops C Lq l) a := by unfold qOp; simp only [h0]; exact h
   obtain ⟨v, hy, hK⟩ := yieldsIn_of_qOp h0 hst
   exact wpAnyLQ_first h0 (Region.noSelect_spec hsel) hs hc hn hkn (fun listed' a' hL => seqB_ready hL.1) l.length listed a inv (Region.free_spec h0 hf) hr' hy
     (wpAnyLQ_lex hsel hs hc hn l (k + 1) _ _ (fun j hj => by have := hl (j + 1) (by simp; omega); simpa [Nat.add_assoc, Nat.add_comm 1 j] using this) (by simp only [List.length_cons] at hk; omega) (inv.set hr' hkn) hB' hK)

theorem wp_region_quiet_tail {id : Nat} {Q : Exit → Act → World → Prop} {a : Act} {w : World} {l : List Oper} (n : Nat) (hm : P.follows .mixedOrders = true) (hB : Region.lexTailB .any l.toArray n = true) (hC : C { w with drawn := w.drawn + 1 })
  (h : wpQuiet P l.toArray C (fun a' => ∀ w', C w' → wpList P l.toArray Q (l.drop n) a' w') (l.take n) a) : (Code.region id l.toArray true).wp P Q a w := by
 simp only [Region.lexTailB, Bool.and_eq_true, decide_eq_true_eq] at hB
 obtain ⟨⟨⟨⟨hsel, hn⟩, hs⟩, hc⟩, hlex⟩ := hB
 have hn' : n < l.length := by simpa using hn
 have htl : (l.take n).length = n := by simp; omega
 have hdl : (l.drop n).length = l.toArray.size - n := by simp
 have inv0 : HeadInv .any l.toArray n (Array.replicate l.toArray.size false) :=
  ⟨by simp, fun j oj _ hl => (by rw [getD_replicate_false] at hl; cases hl), fun t _ ht => getD_in (by simpa using ht) (getD_replicate_false _ _)⟩
 have H := wpAnyLQ_lex (md := .any) (g := l.toArray.size - n) hsel hs hc hn (l.take n) 0 _ a (fun j hj => by
  have hj' : j < n := by rw [htl] at hj; exact hj
  simp [hj']) (by simpa using htl) inv0 (by rw [htl]; exact hlex) h
 refine wp_region_any hm ?_
 have := wpAny_of_headQ (C := C) (Q' := Q) (g := l.toArray.size - n) (fun listed a' w' hw' hL => by
  have := wpAny_of_seq (md := .any) (Q' := Q) (l.drop n) n listed a' w' (fun j => by simp [List.getElem?_drop]) (by rw [hdl]; exact hL.1) (hL.2 w' hw')
  rwa [hdl] at this) _ _ _ _ hC H
 rw [htl, show n + (l.toArray.size - n) = l.toArray.size by omega] at this
 exact this
/-- .. in the class 'nothing below has turned'. -/
theorem wp_region_qt {id : Nat} {Q : Exit → Act → World → Prop} {a : Act} {w : World} {l : List Oper} (n : Nat) (hm : P.follows .mixedOrders = true) (hB : Region.lexTailB .any l.toArray n = true)
  (h : wpQuiet P l.toArray (Below w.heap.size w) (fun a' => ∀ w', Below w.heap.size w w' → wpList P l.toArray Q (l.drop n) a' w') (l.take n) a) : (Code.region id l.toArray true).wp P Q a w :=
 wp_region_quiet_tail n hm hB (Below.refl _ _).drew h
end
section
variable {P : Program} {ops : Array Oper} {Qa : Act → Prop} {w : World} {rest : List Oper} {a : Act} {ty : TypeId} {p : String} {af : Array Edge} {g : Option (Nat × Bool)} {d : Tmp}
theorem wpB_load {e : TypeId} {s : Operand} {b o : Nat} {cs : Array Value} {T : TypeId} {fr : Nat × Nat} {v : Value} (hF : Flat P e) (hg : Region.wanted (⟨some d, .load e s, ty, p, af, g⟩ : Oper) (yielded ops a.tmps) = true) (hs : a.eval s = .pointer (some ⟨b, o, none⟩))
  (hb : w.heap[b]? = some (.cells cs T fr)) (hv : cs[o]? = some v) (h : wpQuiet P ops (Below w.heap.size w) Qa rest (a.put (some d) v)) : wpQuiet P ops (Below w.heap.size w) Qa (⟨some d, .load e s, ty, p, af, g⟩ :: rest) a := by
 refine wpQ_inG v hg (fun w' hw' => ?_) h
 have hc : w'.cell? ⟨b, o, none⟩ = some v := by simp [World.cell?, hw'.block b (Array.getElem?_eq_some_iff.1 hb).1, hb, hv]
 simp [execOp, hs, run_loadAt_cell w' hF hc, Result.andThen]
theorem wpB_loadS {e : TypeId} {s : Operand} {b o n : Nat} {cs us : Array Value} {T : TypeId} {fr : Nat × Nat} (hF : Aggr P e) (hn : (P.info? e).map (·.size) = some n) (hg : Region.wanted (⟨some d, .load e s, ty, p, af, g⟩ : Oper) (yielded ops a.tmps) = true) (hs : a.eval s = .pointer (some ⟨b, o, none⟩))
  (hb : w.heap[b]? = some (.cells cs T fr)) (hv : (cs.toList.drop o).take n = us.toList) (hz : us.size = n) (h : wpQuiet P ops (Below w.heap.size w) Qa rest (a.put (some d) (.agg us))) : wpQuiet P ops (Below w.heap.size w) Qa (⟨some d, .load e s, ty, p, af, g⟩ :: rest) a := by
 refine wpQ_inG (.agg us) hg (fun w' hw' => ?_) h
 obtain ⟨i, hi, hs2⟩ : ∃ i, P.info? e = some i ∧ i.size = n := by
  cases hi : P.info? e with
  | none => rw [hi] at hn; cases hn
  | some i => rw [hi] at hn; exact ⟨i, rfl, by simpa using hn⟩
 have := run_loadAt_agg (a := ⟨b, o, none⟩) w' hF hi (cs := us.toList) (by simp [hs2, hz]) (fun j v hj => by
  have hj2 : us[j]? = some v := by simpa using hj
  have hjn : j < n := by rw [← hz]; exact (Array.getElem?_eq_some_iff.1 hj2).1
  have hcs : cs[o + j]? = some v := by
   have : us.toList[j]? = some v := by simpa using hj
   rw [← hv, List.getElem?_take, if_pos hjn, List.getElem?_drop] at this
   simpa using this
  rw [Addr.add_z]
  simp [World.cell?, hw'.block b (Array.getElem?_eq_some_iff.1 hb).1, hb, hcs])
 rw [Array.toArray_toList] at this
 simp [execOp, hs, this, Result.andThen]
theorem wpB_call {o : Oper} {f : FuncId} {args : Array Value} (v : Value) (hg : Region.wanted o (yielded ops a.tmps) = true) (hr : ∀ w', (execOp a.eval o).run P w' = .ok (.enter f args) w')
   (hcall : ∀ w', Below w.heap.size w w' → Calls P f args w' fun e w'' => e = .returned v ∧ Below w'.heap.size w' w'')
   (h : wpQuiet P ops (Below w.heap.size w) Qa rest (a.put o.dst v)) : wpQuiet P ops (Below w.heap.size w) Qa (o :: rest) a := by
 unfold wpQuiet
 rw [if_pos hg]
 refine ⟨v, fun w' hw' => ?_, h⟩
 unfold Oper.quietAt
 rw [hr w']
 exact ⟨rfl, (hcall w' hw').mono fun e w'' ⟨he, hb⟩ => ⟨he, bnext hw' hb⟩⟩
theorem calls_below {f : FuncId} {args : Array Value} {v : Value} (h : Calls P f args w fun e w' => e = .returned v ∧ w = w') : Calls P f args w fun e w' => e = .returned v ∧ Below w.heap.size w w' :=
 h.mono fun _ _ ⟨h1, h2⟩ => ⟨h1, h2 ▸ Below.refl _ _⟩
end

section
variable {P : Program} {ops : Array Oper} {Q : Exit → Act → World → Prop} {w w0 : World} {rest : List Oper} {a : Act} {ty : TypeId} {p : String} {af : Array Edge} {g : Option (Nat × Bool)} {B : Nat} {L : List Pc}
theorem wpList_ldB {d : Option Tmp} {e : TypeId} {s : Operand} {b o : Nat} {cs : Array Value} {T : TypeId} {fr : Nat × Nat} {v : Value} (hF : Flat P e) (hg : Region.wanted (⟨d, .load e s, ty, p, af, g⟩ : Oper) (yielded ops a.tmps) = true) (hs : a.eval s = .pointer (some ⟨b, o, none⟩))
  (hb : w.heap[b]? = some (.cells cs T fr)) (hv : cs[o]? = some v) (h : wpList P ops Q rest (a.put d v) w) : wpList P ops Q (⟨d, .load e s, ty, p, af, g⟩ :: rest) a w := by
 refine wpList_step fun K hK => ?_
 rw [if_pos hg]
 have hc : w.cell? ⟨b, o, none⟩ = some v := by simp [World.cell?, hb, hv]
 unfold Oper.wp
 simp [execOp, hs, run_loadAt_cell w hF hc, Result.andThen]
 exact hK _ _ h
theorem wpList_ldS {d : Option Tmp} {e : TypeId} {s : Operand} {b o n : Nat} {cs us : Array Value} {T : TypeId} {fr : Nat × Nat} (hF : Aggr P e) (hn : (P.info? e).map (·.size) = some n) (hg : Region.wanted (⟨d, .load e s, ty, p, af, g⟩ : Oper) (yielded ops a.tmps) = true) (hs : a.eval s = .pointer (some ⟨b, o, none⟩))
  (hb : w.heap[b]? = some (.cells cs T fr)) (hv : (cs.toList.drop o).take n = us.toList) (hz : us.size = n) (h : wpList P ops Q rest (a.put d (.agg us)) w) : wpList P ops Q (⟨d, .load e s, ty, p, af, g⟩ :: rest) a w := by
 refine wpList_step fun K hK => ?_
 rw [if_pos hg]
 obtain ⟨i, hi, hs2⟩ : ∃ i, P.info? e = some i ∧ i.size = n := by
  cases hi : P.info? e with
  | none => rw [hi] at hn; cases hn
  | some i => rw [hi] at hn; exact ⟨i, rfl, by simpa using hn⟩
 have := run_loadAt_agg (a := ⟨b, o, none⟩) w hF hi (cs := us.toList) (by simp [hs2, hz]) (fun j v hj => by
  have hj2 : us[j]? = some v := by simpa using hj
  have hjn : j < n := by rw [← hz]; exact (Array.getElem?_eq_some_iff.1 hj2).1
  have hcs : cs[o + j]? = some v := by
   have : us.toList[j]? = some v := by simpa using hj
   rw [← hv, List.getElem?_take, if_pos hjn, List.getElem?_drop] at this
   simpa using this
  rw [Addr.add_z]
  simp [World.cell?, hb, hcs])
 rw [Array.toArray_toList] at this
 unfold Oper.wp
 simp [execOp, hs, this, Result.andThen]
 exact hK _ _ h
theorem SL.setRow {k : Nat} {old : Array Value} {T : TypeId} {fr : Nat × Nat} (h : SL B w0 w L) (i : Nat) (hi : L[i]? = some (pBlk k (.cells old T fr))) (us : Array Value) : SL B w0 (w.setRow k us) (L.set i (pBlk k (.cells us T fr))) := by
 obtain ⟨b, ⟨rfl, h1⟩, h3, h4⟩ := h.upd i hi
 refine h4 _ _ (some k) ⟨rfl, rfl, rfl, by simp [World.setRow], fun m hm hne => ?_⟩ ⟨rfl, setRow_heap w k old us T fr h1⟩ (.inl rfl)
 simp only [World.setRow, Array.getElem?_modify]
 rw [if_neg (fun e => hne (by rw [e]))]
theorem wpList_stoR {e : TypeId} {x y : Operand} {k : Nat} {old us : Array Value} {T : TypeId} (i : Nat)
  (hx : a.eval x = .pointer (some ⟨k, 0, none⟩)) (hy : a.eval y = .agg us) (hS : SL B w0 w L) (hi : L[i]? = some (pBlk k (.cells old T (0, 0)))) (hz : (P.info? e).map (·.size) = some us.size) (ho : old.size = us.size) (h1 : us.all (·.oneCell') = true)
  (hK : ∀ w', SL B w0 w' (L.set i (pBlk k (.cells us T (0, 0)))) → wpList P ops Q rest (a.put none undef) w') : wpList P ops Q (⟨none, .store e x y, ty, p, af, none⟩ :: rest) a w := by
 refine wpList_plain rfl fun K hK' => ?_
 have := run_storeVar_row (P := P) w k T e old us (hS.blk i hi).1 hz ho h1
 unfold Oper.wp
 simp only [execOp, hx, hy, Instr.storeAt, Instr.sureAddr, Sem.run_bind, Sem.run_pure, Result.andThen_ok, this]
 exact hK' _ _ (hK _ (hS.setRow i hi us))
theorem results_cell {fn : Func} {tmps : Array Value} {t T k : Nat} {us : Array Value} {T' : TypeId} {fr : Nat × Nat} (h : fn.results = #[.cell t T]) (ht : tmps.getD t undef = .pointer (some ⟨k, 0, none⟩)) (hu : Aggr P T) (hz : (P.info? T).map (·.size) = some us.size) (hb : w.heap[k]? = some (.cells us T' fr)) :
  (results fn tmps).run P w = .ok (.agg us) w := by
 obtain ⟨d, hd, hdd⟩ := hu
 have := run_loadVar_row (P := P) w k T' T us fr d hb hd (by cases d <;> first | exact hdd | rfl | cases hdd) hz
 simp only [Array.getD_eq_getD_getElem?] at ht
 simp [results, h, ht, asAddr, this]
end
end Go.Proofs.YtdeoogbiipodmaaGreat

namespace Go.Proofs.YtdeoogbiipodmaaGreat
open Go.RowKit
section
variable {P : Program} {ops : Array Oper} {Q : Exit → Act → World → Prop} {md : Region.Mode} {C : World → Prop}

/-- the same value in every world of the class, the world left alone. -/
def YieldsC (P : Program) (ops : Array Oper) (C : World → Prop) (o : Oper) (v : Value) (a : Act) : Prop :=
 (Region.wanted o (yielded ops a.tmps) = true ∧ ∀ w, C w → (execOp a.eval o).run P w = .ok (.value v) w) ∨
 (Region.wanted o (yielded ops a.tmps) = false ∧ v = undef)
theorem YieldsC.wpOp {i : Nat} {o : Oper} {v : Value} {a : Act} (hi : ops[i]? = some o) (hy : YieldsC P ops C o v a)
  {K : Act → World → Prop} {w : World} (hC : C w) (h : K (a.put o.dst v) w) : wpOp P ops Q i K a w := by
 unfold Go.wpOp
 simp only [hi]
 rcases hy with ⟨hw, hv⟩ | ⟨hw, rfl⟩
 ·simp only [hw, if_true, Oper.wp, hv w hC, Oper.upon]; exact .inl h
 ·simp only [hw, Bool.false_eq_true, if_false]; exact h
theorem YieldsC.of_same {o : Oper} {v : Value} {a a' : Act} (hy : YieldsC P ops C o v a) (he : execOp a'.eval o = execOp a.eval o)
  (hw : Region.wanted o (yielded ops a'.tmps) = Region.wanted o (yielded ops a.tmps)) : YieldsC P ops C o v a' := by
 unfold YieldsC at *
 rw [he, hw]
 exact hy

theorem wpOp_putC {j : Nat} {oi oj : Oper} {v : Value} (hj : ops[j]? = some oj) (hap : oi.apart ops oj = true)
  (hsi : ∀ cs b, oi.op ≠ .select cs b) (hsj : ∀ cs b, oj.op ≠ .select cs b)
  (hQ : ∀ c a w, ¬ Q (.panic c) a w) {K : Act → World → Prop} {a : Act} {w : World}
  (hy : YieldsC P ops C oi v a) (h : wpOp P ops Q j K (a.put oi.dst v) w) :
  wpOp P ops Q j (fun a' w' => YieldsC P ops C oi v a' ∧ K (a'.put oi.dst v) w') a w := by
 obtain ⟨h1, h2, h3⟩ := Oper.apart_spec hap
 have keep : ∀ (a : Act), YieldsC P ops C oi v a → ∀ u, YieldsC P ops C oi v (a.put oj.dst u) := fun a hy u =>
  hy.of_same (execOp_put oi hsi a oj.dst u h3) (wanted_put oi a oj.dst u h3)
 have keepD : ∀ d, YieldsC P ops C oi v { a with defers := d :: a.defers } := fun d => hy.of_same rfl rfl
 unfold wpOp at *
 simp only [hj] at *
 rw [wanted_put oj a oi.dst v h1] at h
 split
 ·rename_i hw
  simp only [hw, if_true] at h
  rcases h with h | ⟨hasks, hlets⟩
  case inr => exact .inr ⟨by unfold Oper.asks at *; rw [execOp_put oj hsj a oi.dst v h1] at hasks; exact hasks, hlets⟩
  refine .inl ?_
  unfold Oper.wp at *
  rw [execOp_put oj hsj a oi.dst v h1] at h
  generalize (execOp a.eval oj).run P w = r at *
  cases r with
  | ok n w' =>
   cases n <;> simp only [Oper.upon] at h ⊢
   case value u => exact ⟨keep a hy u, by rw [← Act.put_comm a v u h2]; exact h⟩
   case skip => exact ⟨keep a hy _, by rw [← Act.put_comm a v undef h2]; exact h⟩
   case defer d =>
    refine ⟨keep _ (keepD d) _, ?_⟩
    rw [← Act.put_comm _ v undef h2, ← Act.put_defers]
    exact h
   case enter f args =>
    refine Calls.mono h fun e w'' he => ?_
    cases e with
    | returned u => exact ⟨keep a hy u, by rw [← Act.put_comm a v u h2]; exact he⟩
    | panicked c => exact absurd he (hQ _ _ _)
    | outgrown => exact he
   case row row args => exact Rows.mono h fun u w'' he => ⟨keep a hy u, by rw [← Act.put_comm a v u h2]; exact he⟩
  | halt x w' =>
   cases x <;> simp only [Oper.upon] at h ⊢
   case panic u => exact absurd h (hQ _ _ _)
 ·rename_i hw
  simp only [hw] at h
  exact ⟨keep a hy _, by rw [← Act.put_comm a v undef h2]; exact h⟩

/-- whatever order is picked; the class is kept. -/
def wpAnyC (P : Program) (md : Region.Mode) (ops : Array Oper) (C : World → Prop) (Q : Exit → Act → World → Prop) : Nat → Array Bool → Act → World → Prop
 | 0, listed, a, w => Region.ready md ops listed = [] ∧ Q .normal a w
 | fuel + 1, listed, a, w =>
  (Region.ready md ops listed = [] → Q .normal a w) ∧
  ∀ i ∈ Region.ready md ops listed, wpOp P ops Q i (fun a' w' => C w' ∧ wpAnyC P md ops C Q fuel (listed.setIfInBounds i true) a' w') a w
theorem wpAny_of_C : ∀ (fuel : Nat) (listed : Array Bool) (a : Act) (w : World), wpAnyC P md ops C Q fuel listed a w → wpAny P md ops Q fuel listed a w
 | 0, _, _, _, h => h
 | fuel + 1, _, _, _, h => ⟨h.1, fun i hi => wpOp_mono (fun _ _ h' => wpAny_of_C fuel _ _ _ h'.2) (h.2 i hi)⟩

theorem wpAnyC_first {i : Nat} {oi : Oper} {v : Value} (hi : ops[i]? = some oi) (hsel : ∀ (j : Nat) (o : Oper) cs b, ops[j]? = some o → o.op ≠ .select cs b) (hQ : ∀ c a w, ¬ Q (.panic c) a w) :
  ∀ (fuel : Nat) (listed : Array Bool) (a : Act) (w : World), C w →
   (∀ j oj, ops[j]? = some oj → j ≠ i → listed.getD j true = false → (∀ e ∈ oj.after, Region.binds md e = true → e.on ≠ i) → oi.apart ops oj = true) →
   i ∈ Region.ready md ops listed → YieldsC P ops C oi v a →
   wpAnyC P md ops C Q fuel (listed.setIfInBounds i true) (a.put oi.dst v) w → wpAnyC P md ops C Q (fuel + 1) listed a w := by
 intro fuel
 induction fuel with
 | zero =>
  intro listed a w hC _ hr hy H
  refine ⟨fun h => (by rw [h] at hr; cases hr), fun j hj => ?_⟩
  by_cases hji : j = i
  ·subst hji; exact hy.wpOp hi hC ⟨hC, H⟩
  ·have := ready_mono hj hji
   rw [H.1] at this
   cases this
 | succ fuel ih =>
  intro listed a w hC hfree hr hy H
  refine ⟨fun h => (by rw [h] at hr; cases hr), fun j hj => ?_⟩
  by_cases hji : j = i
  ·subst hji; exact hy.wpOp hi hC ⟨hC, H⟩
  ·have h1 := H.2 j (ready_mono hj hji)
   obtain ⟨hjun, oj, hoj, hall⟩ := mem_ready.1 hj
   have hnot : ∀ e ∈ oj.after, Region.binds md e = true → e.on ≠ i := fun e he hb heq => by
    have h1 := hall e he hb
    have h0 := (mem_ready.1 hr).1
    rw [heq, getD_both h0] at h1
    cases h1
   have h2 := wpOp_putC hoj (hfree j oj hoj hji hjun hnot) (fun cs b => hsel i oi cs b hi) (fun cs b => hsel j oj cs b hoj) hQ hy h1
   have hfree' : ∀ k ok, ops[k]? = some ok → k ≠ i → (listed.setIfInBounds j true).getD k true = false →
     (∀ e ∈ ok.after, Region.binds md e = true → e.on ≠ i) → oi.apart ops ok = true := fun k ok hk hki hun hno => by
    refine hfree k ok hk hki ?_ hno
    by_cases hjk : j = k
    ·subst hjk; exact hjun
    ·rw [getD_set_ne true hjk] at hun; exact hun
   refine wpOp_mono (fun a' w' h3 => ⟨h3.2.1, ih (listed.setIfInBounds j true) a' w' h3.2.1 hfree' (ready_mono hr (Ne.symm hji)) h3.1 ?_⟩) h2
   rw [Array.setIfInBounds_comm _ _ hji]
   exact h3.2.2

/-- these operations may come first, in this order. -/
def Region.firstB (md : Region.Mode) (ops : Array Oper) : List Nat → Array Bool → Bool
 | [], _ => true
 | q :: qs, listed => (Region.ready md ops listed).contains q && Region.free md ops listed q && Region.firstB md ops qs (listed.setIfInBounds q true)
def listAll (listed : Array Bool) (qs : List Nat) : Array Bool := qs.foldl (fun l q => l.setIfInBounds q true) listed
/-- the walk of those. -/
def wpPure (P : Program) (ops : Array Oper) (C : World → Prop) (K : Act → Prop) : List Oper → Act → Prop
 | [], a => K a
 | o :: r, a => ∃ v, YieldsC P ops C o v a ∧ wpPure P ops C K r (a.put o.dst v)
theorem wpAnyC_pure (hsel : Region.noSelect ops = true) (hQ : ∀ c a w, ¬ Q (.panic c) a w) {w : World} (hC : C w) {g : Nat} : ∀ (qs : List Nat) (l : List Oper) (listed : Array Bool) (a : Act), qs.map (fun i => ops[i]?) = l.map some →
  Region.firstB md ops qs listed = true → wpPure P ops C (fun a' => wpAnyC P md ops C Q g (listAll listed qs) a' w) l a → wpAnyC P md ops C Q (g + qs.length) listed a w
 | [], [], listed, a, _, _, h => h
 | [], _ :: _, _, _, hm, _, _ => by cases hm
 | _ :: _, [], _, _, hm, _, _ => by cases hm
 | q :: qs, o :: l, listed, a, hm, hB, h => by
   simp only [List.map_cons, List.cons.injEq] at hm
   simp only [Region.firstB, Bool.and_eq_true] at hB
   obtain ⟨v, hy, hK⟩ := h
   exact wpAnyC_first hm.1 (Region.noSelect_spec hsel) hQ (g + qs.length) listed a w hC (Region.free_spec hm.1 hB.1.2) (by simpa using hB.1.1) hy
     (wpAnyC_pure hsel hQ hC qs l _ _ hm.2 hB.2 hK)

end
end Go.Proofs.YtdeoogbiipodmaaGreat

namespace Go.Proofs.YtdeoogbiipodmaaGreat
open Go.RowKit
set_option maxHeartbeats 400000
set_option maxRecDepth 100000

end Go.Proofs.YtdeoogbiipodmaaGreat

namespace Go.Proofs.YtdeoogbiipodmaaGreat
open Go.RowKit

theorem php : ∀ (n : Nat) (f : Nat → Nat), (∀ k, k ≤ n → f k < n) → ∃ a b, a < b ∧ b ≤ n ∧ f a = f b
 | 0, f, h => absurd (h 0 (Nat.le_refl _)) (by omega)
 | n + 1, f, h => by
   by_cases hex : ∃ a, a ≤ n ∧ f a = f (n + 1)
   · obtain ⟨a, ha, e⟩ := hex
     exact ⟨a, n + 1, by omega, by omega, e⟩
   · have hne : ∀ a, a ≤ n → f a ≠ f (n + 1) := fun a ha e => hex ⟨a, ha, e⟩
     obtain ⟨a, b, h1, h2, h3⟩ := php n (fun k => if f (n + 1) < f k then f k - 1 else f k) (fun k hk => by
       have h1 := h k (by omega); have h2 := h (n + 1) (by omega); have h3 := hne k hk
       split <;> omega)
     refine ⟨a, b, h1, by omega, ?_⟩
     have ha := hne a (by omega); have hb := hne b h2
     split at h3 <;> split at h3 <;> omega

theorem nodup_ne {l : List Int} (h : l.Nodup) {a b : Nat} (hab : a < b) (hb : b < l.length) : atD 0 l a ≠ atD 0 l b := by
 have := (List.pairwise_iff_getElem.1 h) a b (by omega) hb hab
 simpa [atD, hb, show a < l.length by omega] using this

/-- a permutation of 0 .. n - 1. -/
structure IsP (p : List Int) : Prop where
 rng : ∀ x : Int, 0 ≤ x → x < p.length → 0 ≤ atD 0 p x ∧ atD 0 p x < p.length
 inj : ∀ x y : Int, 0 ≤ x → x < p.length → 0 ≤ y → y < p.length → atD 0 p x = atD 0 p y → x = y

theorem atD_memZ {l : List Int} {x : Int} (h0 : 0 ≤ x) (h1 : x < l.length) : atD 0 l x ∈ l := by
 have : x.toNat < l.length := by omega
 simp [atD, this]

def itP (p : List Int) (i : Int) : Nat → Int
 | 0 => i
 | k + 1 => atD 0 p (itP p i k)
theorem itP_add (p : List Int) (i : Int) (b : Nat) : ∀ a : Nat, itP p i (a + b) = itP p (itP p i b) a
 | 0 => by simp [itP]
 | a + 1 => by
   have : a + 1 + b = (a + b) + 1 := by omega
   rw [this, itP, itP, itP_add p i b a]

section
variable {p : List Int} (hp : IsP p)
include hp
theorem itP_rng {i : Int} (h0 : 0 ≤ i) (h1 : i < p.length) : ∀ k, 0 ≤ itP p i k ∧ itP p i k < p.length
 | 0 => ⟨h0, h1⟩
 | k + 1 => hp.rng _ (itP_rng h0 h1 k).1 (itP_rng h0 h1 k).2
theorem itP_inj {x y : Int} (hx : 0 ≤ x) (hx1 : x < p.length) (hy : 0 ≤ y) (hy1 : y < p.length) : ∀ k, itP p x k = itP p y k → x = y
 | 0, h => h
 | k + 1, h => itP_inj hx hx1 hy hy1 k (hp.inj _ _ (itP_rng hp hx hx1 k).1 (itP_rng hp hx hx1 k).2 (itP_rng hp hy hy1 k).1 (itP_rng hp hy hy1 k).2 h)
theorem itP_back {i : Int} (h0 : 0 ≤ i) (h1 : i < p.length) : ∃ d, 0 < d ∧ d ≤ p.length ∧ itP p i d = i := by
 obtain ⟨a, b, hab, hb, he⟩ := php p.length (fun k => (itP p i k).toNat) (fun k _ => by have := itP_rng hp h0 h1 k; omega)
 have ra := itP_rng hp h0 h1 a
 have rb := itP_rng hp h0 h1 b
 have e : itP p i a = itP p i b := by omega
 have e2 : itP p i b = itP p (itP p i (b - a)) a := by rw [← itP_add]; congr 1; omega
 rw [e2] at e
 have rd := itP_rng hp h0 h1 (b - a)
 exact ⟨b - a, by omega, by omega, (itP_inj hp h0 h1 rd.1 rd.2 a e).symm⟩
end

theorem leastN (q : Nat → Prop) : ∀ d, q d → ∃ m, m ≤ d ∧ q m ∧ ∀ j, j < m → ¬ q j := by
 intro d
 induction d using Nat.strongRecOn with
 | _ d ih =>
  intro h
  by_cases hex : ∃ j, j < d ∧ q j
  ·obtain ⟨j, hj, hq⟩ := hex
   obtain ⟨m, h1, h2, h3⟩ := ih j hj hq
   exact ⟨m, by omega, h2, h3⟩
  ·exact ⟨d, Nat.le_refl _, h, fun j hj hq => hex ⟨j, hj, hq⟩⟩

/-- d is the least number of steps above 0 after which i comes again. -/
structure Ord (p : List Int) (i : Int) (d : Nat) : Prop where
 pos : 0 < d
 le : d ≤ p.length
 back : itP p i d = i
 min : ∀ j, 0 < j → j < d → itP p i j ≠ i

theorem ord_ex {p : List Int} (hp : IsP p) {i : Int} (h0 : 0 ≤ i) (h1 : i < p.length) : ∃ d, Ord p i d := by
 obtain ⟨d, a, b, c⟩ := itP_back hp h0 h1
 obtain ⟨m, h2, ⟨h3, h4⟩, h5⟩ := leastN (fun d => 0 < d ∧ itP p i d = i) d ⟨a, c⟩
 exact ⟨m, h3, by omega, h4, fun j hj hjm e => h5 j hjm ⟨hj, e⟩⟩

end Go.Proofs.YtdeoogbiipodmaaGreat

namespace Go.Proofs.YtdeoogbiipodmaaGreat
open Go.RowKit
set_option maxHeartbeats 1000000
set_option maxRecDepth 100000

/-- the first m numbers of a list that goes round and round. -/
def cyc (l : List Int) (m : Nat) : List Int := (List.range m).map fun j => l.getD (j % l.length) 0
theorem cyc_len (l : List Int) (m : Nat) : (cyc l m).length = m := by simp [cyc]
theorem cyc_take (l : List Int) {m k : Nat} (h : k ≤ m) : (cyc l m).take k = cyc l k := by
 unfold cyc; rw [← List.map_take, List.take_range, Nat.min_eq_left h]
/-- what is laid so far: a block of N numbers of which the first m are those of cyc. -/
def Laid (w : World) (g N m : Nat) (l : List Int) : Prop :=
 ∃ cur : List Value, w.heap[g]? = some (.cells cur.toArray 3 (0, 0)) ∧ cur.length = N ∧ cur.take m = (cyc l m).map cInt ∧ m ≤ N
theorem Laid.own {w : World} {g N : Nat} {l : List Int} {B : Nat} (h : Laid w g N N l) (hB : B ≤ g) (hN : N ≤ 1048576) : OwnI B w (.slice (some ⟨g, 0, none⟩) N N) (cyc l N) := by
 obtain ⟨cur, h1, h2, h3, _⟩ := h
 have e : ((cyc l N).flatMap fun x => (cInt x).cells.toList) = (cyc l N).map cInt := by
  generalize cyc l N = L
  induction L with
  | nil => rfl
  | cons x r ih => rw [List.flatMap_cons, ih]; rfl
 refine ⟨cIntS, ?_⟩
 rw [cyc_len, e, ← h3]
 refine ⟨by simp [h2], .inr ⟨g, N, cur.toArray, rfl, hB, h1, Nat.le_refl _, by unfold maxLen; omega, by simp [h2], by simp⟩⟩
theorem Laid.cell {w : World} {g N m : Nat} {l : List Int} (h : Laid w g N m l) (j k : Nat) (hk : k ≤ m) (v : Value) (hv : ((cyc l k).map cInt)[j]? = some v) : w.cell? ((⟨g, 0, none⟩ : Addr).add j) = some v := by
 obtain ⟨cur, h1, h2, h3, h4⟩ := h
 rw [Addr.add_z, Nat.zero_add, cell_of_row _ _ _ _ _ _ h1]
 have hj : j < k := by
  have := (List.getElem?_eq_some_iff.1 hv).1
  simpa [cyc] using this
 rw [← cyc_take l hk, List.map_take, ← h3] at hv
 rw [List.getElem?_take, List.getElem?_take] at hv
 rw [if_pos hj, if_pos (by omega)] at hv
 simpa using hv

end Go.Proofs.YtdeoogbiipodmaaGreat

namespace Go.Proofs.YtdeoogbiipodmaaGreat
open Go.RowKit
set_option maxHeartbeats 1000000
set_option maxRecDepth 100000

def badM (m : Int × Int) : Prop := m.1 < 0 ∨ m.2 < 0 ∨ 999999999 < m.1 ∨ 999999999 < m.2
instance (m : Int × Int) : Decidable (badM m) := inferInstanceAs (Decidable (_ ∨ _ ∨ _ ∨ _))
end Go.Proofs.YtdeoogbiipodmaaGreat

namespace Go.Proofs.YtdeoogbiipodmaaGreat
open Go.RowKit
set_option maxHeartbeats 1000000
set_option maxRecDepth 100000

end Go.Proofs.YtdeoogbiipodmaaGreat

namespace Go.Proofs.YtdeoogbiipodmaaGreat
open Go.RowKit Go.Shelf
attribute [local go_sem] Oper.semAt_some
set_option maxHeartbeats 2000000
set_option maxRecDepth 100000

abbrev Slot (n : Nat) := { x : Int // 0 ≤ x ∧ x < n }
/-- this block is as it was. -/
def KeepAt (b : Nat) (A B : World) : Prop := B.heap[b]? = A.heap[b]?
theorem KeepAt.cell {b o : Nat} {A B : World} (h : KeepAt b A B) : B.cell? ⟨b, o, none⟩ = A.cell? ⟨b, o, none⟩ := World.cell?_of_block (w := A) h

end Go.Proofs.YtdeoogbiipodmaaGreat

namespace Go.Proofs.YtdeoogbiipodmaaGreat
open Go.RowKit Go.Shelf
attribute [local go_sem] Oper.semAt_some
set_option maxHeartbeats 2000000
set_option maxRecDepth 100000

end Go.Proofs.YtdeoogbiipodmaaGreat

namespace Go.Proofs.YtdeoogbiipodmaaGreat
open Go.RowKit Go.Shelf
attribute [local go_sem] Oper.semAt_some
set_option maxHeartbeats 2000000
set_option maxRecDepth 100000

/-- what the iterator must find again. -/
structure CyKeep (bi bp : Nat) (a : Option Addr) (A B : World) : Prop where
 i : KeepAt bi A B
 p : KeepAt bp A B
 s : ∀ b, a = some b → KeepAt b.block A B
theorem CyKeep.trans {bi bp : Nat} {a : Option Addr} {A B C : World} (h : CyKeep bi bp a A B) (k : CyKeep bi bp a B C) : CyKeep bi bp a A C :=
 ⟨Eq.trans k.i h.i, Eq.trans k.p h.p, fun b e => Eq.trans (k.s b e) (h.s b e)⟩

section
variable {p : List Int} (hp : IsP p) {i : Int} (h0 : 0 ≤ i) (h1 : i < p.length)
end

end Go.Proofs.YtdeoogbiipodmaaGreat

namespace Go.Proofs.YtdeoogbiipodmaaGreat
open Go.RowKit Go.Shelf
attribute [local go_sem] Oper.semAt_some
set_option maxHeartbeats 2000000
set_option maxRecDepth 100000

abbrev SlH := Option Addr × Nat × Nat
abbrev cSl (x : SlH) : Value := .slice x.1 x.2.1 x.2.2
theorem cSl1 (x : SlH) : (cSl x).cells = #[cSl x] := rfl
theorem cSlS (x : SlH) : (cSl x).cells.size = 1 := rfl
theorem cSlO (x : SlH) : ∀ u ∈ (cSl x).cells.toList, u.oneCell' = true := by intro u hu; simp [cSl, Value.cells] at hu; subst hu; rfl
theorem E_sls : ETy Tryz.prog 31 22 (.slice none 0 0) 1 24 := ⟨Tryz.underlying31, by kernel_rfl, rfl, by decide⟩
def inP (q : SlH × List Int) : Pc := pOwn cInt 1 3 (cSl q.1) q.2
theorem KeepAt.trans {b : Nat} {A B C : World} (h : KeepAt b A B) (k : KeepAt b B C) : KeepAt b A C := Eq.trans k h
theorem KeepAt.set {b : Nat} {A : World} {x : Addr} {v : Value} (h : b ≠ x.block) : KeepAt b A (A.setCell x v) := Below.heap_setCell _ _ _ _ h

end Go.Proofs.YtdeoogbiipodmaaGreat

namespace Go.Proofs.YtdeoogbiipodmaaGreat
open Go.RowKit Go.Maps
set_option maxRecDepth 100000

section
variable {P : Program} {ops : Array Oper} {Q : Exit → Act → World → Prop} {md : Region.Mode} {C : World → Prop}
theorem wpAnyC_on {fuel : Nat} {listed : Array Bool} {a : Act} {w : World} (is : List Nat) (hr : Region.ready md ops listed = is) (hne : is ≠ []) (h : ∀ i ∈ is, wpOp P ops Q i (fun a' w' => C w' ∧ wpAnyC P md ops C Q fuel (listed.setIfInBounds i true) a' w') a w) : wpAnyC P md ops C Q (fuel + 1) listed a w :=
 ⟨fun h => absurd (hr ▸ h) hne, fun i hi => h i (hr ▸ hi)⟩
theorem wpOp_value {i : Nat} {o : Oper} {v : Value} {a : Act} {w w' : World} (hi : ops[i]? = some o) (hw : Region.wanted o (yielded ops a.tmps) = true) (hrun : (execOp a.eval o).run P w = .ok (.value v) w') {K : Act → World → Prop} (h : K (a.put o.dst v) w') : wpOp P ops Q i K a w := by
 unfold wpOp
 simp only [hi, hw, if_true, Oper.wp, hrun, Oper.upon]
 exact .inl h
end
theorem of_wpList_nil {P : Program} {ops : Array Oper} {Q : Exit → Act → World → Prop} {a : Act} {w : World} (h : wpList P ops Q [] a w) : Q .normal a w := h
theorem MapI.le {w : World} {b n n' : Nat} {f : Int → Int} (h : MapI w b n f) (hn : n ≤ n') : MapI w b n' f := by
 obtain ⟨D, h1, h2⟩ := h; exact ⟨D, h1.mono hn, h2⟩
end Go.Proofs.YtdeoogbiipodmaaGreat

namespace Go.Proofs.YtdeoogbiipodmaaGreat
open Go.RowKit Go.Maps
set_option maxHeartbeats 1000000
set_option maxRecDepth 100000

end Go.Proofs.YtdeoogbiipodmaaGreat

namespace Go.Proofs.YtdeoogbiipodmaaGreat
open Go.RowKit
section
variable {P : Program} {ops : Array Oper} {Q : Exit → Act → World → Prop} {C : World → Prop}
theorem wpOp_call {i : Nat} {o : Oper} {f : FuncId} {args : Array Value} {a : Act} {w : World} (hi : ops[i]? = some o) (hw : Region.wanted o (yielded ops a.tmps) = true) (hrun : (execOp a.eval o).run P w = .ok (.enter f args) w) {K : Act → World → Prop}
   (h : Calls P f args w fun e w' => ∃ v, e = .returned v ∧ K (a.put o.dst v) w') : wpOp P ops Q i K a w := by
 unfold wpOp
 simp only [hi, hw, if_true, Oper.wp, hrun, Oper.upon]
 refine .inl (h.mono ?_)
 rintro e w' ⟨v, rfl, hK⟩
 exact hK
/-- what is left gives the same in every world of the class: in any order. -/
theorem wpAnyC_rest {md : Region.Mode} {w : World} {listed : Array Bool} {a : Act} {n : Nat} (qs : List Nat) (lo : List Oper) (hn : n = qs.length) (hlo : qs.map (fun i => ops[i]?) = lo.map some) (hsel : Region.noSelect ops = true) (hB : Region.firstB md ops qs listed = true)
   (hr : Region.ready md ops (listAll listed qs) = []) (hC : C w) (h : wpPure P ops C (fun a' => Q .normal a' w) lo a) : wpAnyC P md ops C (NoPanic Q) n listed a w := by
 subst hn
 have := wpAnyC_pure (g := 0) hsel (fun c a w h => h) hC qs lo listed a hlo hB (C := C) (Q := NoPanic Q) (P := P) (md := md)
 rw [Nat.zero_add] at this
 refine this ?_
 clear this
 revert h
 have : ∀ (l : List Oper) (a : Act), wpPure P ops C (fun a' => Q .normal a' w) l a → wpPure P ops C (fun a' => wpAnyC P md ops C (NoPanic Q) 0 (listAll listed qs) a' w) l a := by
  intro l
  induction l with
  | nil => intro a h; exact ⟨hr, h⟩
  | cons o r ih => intro a ⟨v, hy, hk⟩; exact ⟨v, hy, ih _ hk⟩
 exact this lo a
end
end Go.Proofs.YtdeoogbiipodmaaGreat

namespace Go.Proofs.YtdeoogbiipodmaaGreat
open Go.RowKit
section
variable {P : Program} {ops : Array Oper} {Q : Exit → Act → World → Prop} {md : Region.Mode} {C : World → Prop}

/-- the same value in every world of the class, the world left alone. -/
def YieldsK (P : Program) (ops : Array Oper) (C : World → Prop) (o : Oper) (v : Value) (a : Act) : Prop :=
 (Region.wanted o (yielded ops a.tmps) = true ∧ ∀ w, C w → (execOp a.eval o).run P w = .ok (.value v) w) ∨
 (Region.wanted o (yielded ops a.tmps) = false ∧ v = undef) ∨
 (Region.wanted o (yielded ops a.tmps) = true ∧ ∃ (f : FuncId) (args : Array Value), (∀ w, C w → (execOp a.eval o).run P w = .ok (.enter f args) w) ∧ ∀ w, C w → Calls P f args w fun e w' => e = .returned v ∧ w = w')
theorem YieldsK.wpOp {i : Nat} {o : Oper} {v : Value} {a : Act} (hi : ops[i]? = some o) (hy : YieldsK P ops C o v a)
  {K : Act → World → Prop} {w : World} (hC : C w) (h : K (a.put o.dst v) w) : wpOp P ops Q i K a w := by
 unfold Go.wpOp
 simp only [hi]
 rcases hy with ⟨hw, hv⟩ | ⟨hw, rfl⟩ | ⟨hw, f, args, hr, hc⟩
 ·simp only [hw, if_true, Oper.wp, hv w hC, Oper.upon]; exact .inl h
 ·simp only [hw, Bool.false_eq_true, if_false]; exact h
 ·simp only [hw, if_true, Oper.wp, hr w hC, Oper.upon]
  refine .inl ((hc w hC).mono ?_)
  rintro e w' ⟨rfl, rfl⟩
  exact h
theorem YieldsK.of_same {o : Oper} {v : Value} {a a' : Act} (hy : YieldsK P ops C o v a) (he : execOp a'.eval o = execOp a.eval o)
  (hw : Region.wanted o (yielded ops a'.tmps) = Region.wanted o (yielded ops a.tmps)) : YieldsK P ops C o v a' := by
 unfold YieldsK at *
 rw [he, hw]
 exact hy

theorem wpOp_putK {j : Nat} {oi oj : Oper} {v : Value} (hj : ops[j]? = some oj) (hap : oi.apart ops oj = true)
  (hsi : ∀ cs b, oi.op ≠ .select cs b) (hsj : ∀ cs b, oj.op ≠ .select cs b)
  (hQ : ∀ c a w, ¬ Q (.panic c) a w) {K : Act → World → Prop} {a : Act} {w : World}
  (hy : YieldsK P ops C oi v a) (h : wpOp P ops Q j K (a.put oi.dst v) w) :
  wpOp P ops Q j (fun a' w' => YieldsK P ops C oi v a' ∧ K (a'.put oi.dst v) w') a w := by
 obtain ⟨h1, h2, h3⟩ := Oper.apart_spec hap
 have keep : ∀ (a : Act), YieldsK P ops C oi v a → ∀ u, YieldsK P ops C oi v (a.put oj.dst u) := fun a hy u =>
  hy.of_same (execOp_put oi hsi a oj.dst u h3) (wanted_put oi a oj.dst u h3)
 have keepD : ∀ d, YieldsK P ops C oi v { a with defers := d :: a.defers } := fun d => hy.of_same rfl rfl
 unfold wpOp at *
 simp only [hj] at *
 rw [wanted_put oj a oi.dst v h1] at h
 split
 ·rename_i hw
  simp only [hw, if_true] at h
  rcases h with h | ⟨hasks, hlets⟩
  case inr => exact .inr ⟨by unfold Oper.asks at *; rw [execOp_put oj hsj a oi.dst v h1] at hasks; exact hasks, hlets⟩
  refine .inl ?_
  unfold Oper.wp at *
  rw [execOp_put oj hsj a oi.dst v h1] at h
  generalize (execOp a.eval oj).run P w = r at *
  cases r with
  | ok n w' =>
   cases n <;> simp only [Oper.upon] at h ⊢
   case value u => exact ⟨keep a hy u, by rw [← Act.put_comm a v u h2]; exact h⟩
   case skip => exact ⟨keep a hy _, by rw [← Act.put_comm a v undef h2]; exact h⟩
   case defer d =>
    refine ⟨keep _ (keepD d) _, ?_⟩
    rw [← Act.put_comm _ v undef h2, ← Act.put_defers]
    exact h
   case enter f args =>
    refine Calls.mono h fun e w'' he => ?_
    cases e with
    | returned u => exact ⟨keep a hy u, by rw [← Act.put_comm a v u h2]; exact he⟩
    | panicked c => exact absurd he (hQ _ _ _)
    | outgrown => exact he
   case row row args => exact Rows.mono h fun u w'' he => ⟨keep a hy u, by rw [← Act.put_comm a v u h2]; exact he⟩
  | halt x w' =>
   cases x <;> simp only [Oper.upon] at h ⊢
   case panic u => exact absurd h (hQ _ _ _)
 ·rename_i hw
  simp only [hw] at h
  exact ⟨keep a hy _, by rw [← Act.put_comm a v undef h2]; exact h⟩

theorem wpAnyK_first {i : Nat} {oi : Oper} {v : Value} (hi : ops[i]? = some oi) (hsel : ∀ (j : Nat) (o : Oper) cs b, ops[j]? = some o → o.op ≠ .select cs b) (hQ : ∀ c a w, ¬ Q (.panic c) a w) :
  ∀ (fuel : Nat) (listed : Array Bool) (a : Act) (w : World), C w →
   (∀ j oj, ops[j]? = some oj → j ≠ i → listed.getD j true = false → (∀ e ∈ oj.after, Region.binds md e = true → e.on ≠ i) → oi.apart ops oj = true) →
   i ∈ Region.ready md ops listed → YieldsK P ops C oi v a →
   wpAnyC P md ops C Q fuel (listed.setIfInBounds i true) (a.put oi.dst v) w → wpAnyC P md ops C Q (fuel + 1) listed a w := by
 intro fuel
 induction fuel with
 | zero =>
  intro listed a w hC _ hr hy H
  refine ⟨fun h => (by rw [h] at hr; cases hr), fun j hj => ?_⟩
  by_cases hji : j = i
  ·subst hji; exact hy.wpOp hi hC ⟨hC, H⟩
  ·have := ready_mono hj hji
   rw [H.1] at this
   cases this
 | succ fuel ih =>
  intro listed a w hC hfree hr hy H
  refine ⟨fun h => (by rw [h] at hr; cases hr), fun j hj => ?_⟩
  by_cases hji : j = i
  ·subst hji; exact hy.wpOp hi hC ⟨hC, H⟩
  ·have h1 := H.2 j (ready_mono hj hji)
   obtain ⟨hjun, oj, hoj, hall⟩ := mem_ready.1 hj
   have hnot : ∀ e ∈ oj.after, Region.binds md e = true → e.on ≠ i := fun e he hb heq => by
    have h1 := hall e he hb
    have h0 := (mem_ready.1 hr).1
    rw [heq, getD_both h0] at h1
    cases h1
   have h2 := wpOp_putK hoj (hfree j oj hoj hji hjun hnot) (fun cs b => hsel i oi cs b hi) (fun cs b => hsel j oj cs b hoj) hQ hy h1
   have hfree' : ∀ k ok, ops[k]? = some ok → k ≠ i → (listed.setIfInBounds j true).getD k true = false →
     (∀ e ∈ ok.after, Region.binds md e = true → e.on ≠ i) → oi.apart ops ok = true := fun k ok hk hki hun hno => by
    refine hfree k ok hk hki ?_ hno
    by_cases hjk : j = k
    ·subst hjk; exact hjun
    ·rw [getD_set_ne true hjk] at hun; exact hun
   refine wpOp_mono (fun a' w' h3 => ⟨h3.2.1, ih (listed.setIfInBounds j true) a' w' h3.2.1 hfree' (ready_mono hr (Ne.symm hji)) h3.1 ?_⟩) h2
   rw [Array.setIfInBounds_comm _ _ hji]
   exact h3.2.2

/-- the walk of those. -/
def wpPureK (P : Program) (ops : Array Oper) (C : World → Prop) (K : Act → Prop) : List Oper → Act → Prop
 | [], a => K a
 | o :: r, a => ∃ v, YieldsK P ops C o v a ∧ wpPureK P ops C K r (a.put o.dst v)
theorem wpAnyK_pure (hsel : Region.noSelect ops = true) (hQ : ∀ c a w, ¬ Q (.panic c) a w) {w : World} (hC : C w) {g : Nat} : ∀ (qs : List Nat) (l : List Oper) (listed : Array Bool) (a : Act), qs.map (fun i => ops[i]?) = l.map some →
  Region.firstB md ops qs listed = true → wpPureK P ops C (fun a' => wpAnyC P md ops C Q g (listAll listed qs) a' w) l a → wpAnyC P md ops C Q (g + qs.length) listed a w
 | [], [], listed, a, _, _, h => h
 | [], _ :: _, _, _, hm, _, _ => by cases hm
 | _ :: _, [], _, _, hm, _, _ => by cases hm
 | q :: qs, o :: l, listed, a, hm, hB, h => by
   simp only [List.map_cons, List.cons.injEq] at hm
   simp only [Region.firstB, Bool.and_eq_true] at hB
   obtain ⟨v, hy, hK⟩ := h
   exact wpAnyK_first hm.1 (Region.noSelect_spec hsel) hQ (g + qs.length) listed a w hC (Region.free_spec hm.1 hB.1.2) (by simpa using hB.1.1) hy
     (wpAnyK_pure hsel hQ hC qs l _ _ hm.2 hB.2 hK)

theorem wp_regionK {id : Nat} {Q : Exit → Act → World → Prop} {a : Act} {w : World} {l : List Oper} (qs : List Nat) (lo : List Oper) (g : Nat) (hlo : qs.map (fun i => l.toArray[i]?) = lo.map some) (hg : g + qs.length = l.length) (hm : P.follows .mixedOrders = true)
  (hsel : Region.noSelect l.toArray = true) (hB : Region.firstB .any l.toArray qs (Array.replicate l.length false) = true) (hC : C { w with drawn := w.drawn + 1 })
  (h : wpPureK P l.toArray C (fun a' => wpAnyC P .any l.toArray C (NoPanic Q) g (listAll (Array.replicate l.length false) qs) a' { w with drawn := w.drawn + 1 }) lo a) : (Code.region id l.toArray true).wp P Q a w := by
 refine wp_region_noPanic (wp_region_any hm ?_)
 have := wpAnyK_pure (md := .any) hsel (fun c a w h => h) hC qs lo _ a hlo hB h
 rw [hg] at this
 simpa using wpAny_of_C _ _ _ _ this
theorem wpOp_of_list {i : Nat} {o : Oper} (hi : ops[i]? = some o) {K : Act → World → Prop} {a : Act} {w : World}
  (h : wpList P ops (fun e a' w' => match e with | .normal => K a' w' | e => NoPanic Q e a' w') [o] a w) : wpOp P ops (NoPanic Q) i K a w := by
 unfold wpOp
 simp only [hi]
 unfold wpList at h
 split at h
 ·next hw =>
  rw [if_pos hw]
  rcases h with h | ⟨h1, h2⟩
  ·left; exact h
  ·right; exact ⟨h1, h2⟩
 ·next hw =>
  rw [if_neg hw]
  exact h
end
section
variable {P : Program} {ops : Array Oper} {w : World} {a : Act} {ty : TypeId} {p : String} {af : Array Edge} {g : Option (Nat × Bool)} {d : Tmp}
theorem yieldsK_val {C : World → Prop} {o : Oper} {v : Value} (hg : Region.wanted o (yielded ops a.tmps) = true) (h : ∀ w, (execOp a.eval o).run P w = .ok (.value v) w) : YieldsK P ops C o v a := .inl ⟨hg, fun w _ => h w⟩
end
end Go.Proofs.YtdeoogbiipodmaaGreat

namespace Go.Proofs.YtdeoogbiipodmaaGreat

end Go.Proofs.YtdeoogbiipodmaaGreat

namespace Go.Proofs.YtdeoogbiipodmaaGreat
open Go.RowKit
set_option maxHeartbeats 1000000
set_option maxRecDepth 100000

def idL (n : Nat) : List Int := (List.range n).map fun (i : Nat) => (i : Int)
theorem idL_succ (n : Nat) : idL (n + 1) = idL n ++ [(n : Int)] := by simp [idL, List.range_succ]
theorem idL_len (n : Nat) : (idL n).length = n := by simp [idL]
end Go.Proofs.YtdeoogbiipodmaaGreat
