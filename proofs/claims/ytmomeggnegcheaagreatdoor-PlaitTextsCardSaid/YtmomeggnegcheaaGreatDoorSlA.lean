/- Plain laws for functions that range over functions: leaving with many marks. Conditions: none beyond each statement's own. Plain laws on what a call owns: a list of pieces of memory, each in a block of its own. Conditions: none beyond each statement's own. Plain laws on what a call owns, more: a slice that came in or is owned; marks of range-over-function statements; leaving. Conditions: none beyond each statement's own. -/
import Derived.RangeFuncNested
import Derived.RangeFuncBound
import Derived.RangeFuncCalls
import Derived.RangeFuncLeaves
import Derived.RangeFuncFrom
import Derived.Shelf.Abstract
import Derived.Shelf.RegionOpen
import Derived.WalkKit
import Derived.OwnWalkIn
import Derived.TacticsInMore
import Derived.LoopNIn
import Derived.LoopIn
import Derived.Test.YtmomeggnegcheaaGreatDoorQA
import Derived.Test.YtmomeggnegcheaaGreatDoorTyA
import Derived.Test.YtmomeggnegcheaaGreatDoorPlA
set_option linter.all false
/- Plain laws for functions that range over functions: leaving with many marks. Conditions: none beyond each statement's own. -/
namespace Go.Proofs.YtmomeggnegcheaaGreatDoor
open Go.RowKit
set_option maxHeartbeats 1000000
set_option maxRecDepth 100000

def markOf (D : Nat) : Deferred := { target := .collected D, args := #[] }
/-- what stays true when blocks that are no cells, from B on, turn. -/
def Stays (B : Nat) (I : World → Prop) : Prop := ∀ (W : World) (r : Nat) (o o' : Obj), I W → B ≤ r → W.heap[r]? = some o → o.isCells = false → I (W.putObj r o')
/-- the marks that a frame bears. -/
def Marks (B : Nat) (ds : List Deferred) (w : World) : Prop := ∃ Ds : List Nat, ds = Ds.map markOf ∧ Ds.Nodup ∧ ∀ D ∈ Ds, B ≤ D ∧ w.heap[D]? = some (.deferred (some []))

theorem marks_leave {P : Program} {F : Fence} {n B : Nat} {fn : Func} {tmps : Array Value} {R : Ending → World → Prop} {v : Value} {I : World → Prop} (hI : Stays B I) (hres : ∀ W, (results fn tmps).run P W = .ok v W) (hR : ∀ W, I W → R (.returned v) W) :
    ∀ (Ds : List Nat) (w : World), I w → Ds.Nodup → (∀ D ∈ Ds, B ≤ D ∧ w.heap[D]? = some (.deferred (some []))) → LeavesInM F n P fn tmps R (Ds.map markOf) .returning w
  | [], w, h, _, _ => ⟨v, hres w, hR w h⟩
  | D :: Ds, w, h, hn, hD => by
    obtain ⟨hB, hd⟩ := hD D List.mem_cons_self
    refine ⟨by simp, .inl ⟨D, w.putObj D (.deferred none), rfl, run_takeDeferred hd, ?_⟩⟩
    refine marks_leave hI hres hR Ds _ (hI w D _ _ h hB hd rfl) (List.nodup_cons.1 hn).2 (fun E hE => ?_)
    have hne : E ≠ D := fun e => (List.nodup_cons.1 hn).1 (e ▸ hE)
    obtain ⟨h1, h2⟩ := hD E (List.mem_cons_of_mem _ hE)
    exact ⟨h1, by rw [World.putObj_heap_other hne]; exact h2⟩
theorem Marks.leave {P : Program} {F : Fence} {n B : Nat} {fn : Func} {tmps : Array Value} {R : Ending → World → Prop} {v : Value} {I : World → Prop} {ds : List Deferred} {w : World} (h : Marks B ds w) (hI : Stays B I) (hres : ∀ W, (results fn tmps).run P W = .ok v W) (hR : ∀ W, I W → R (.returned v) W) (h0 : I w) :
    LeavesInM F n P fn tmps R ds .returning w := by
  obtain ⟨Ds, rfl, hn, hD⟩ := h
  exact marks_leave hI hres hR Ds w h0 hn hD
end Go.Proofs.YtmomeggnegcheaaGreatDoor

/- Plain laws on what a call owns: a list of pieces of memory, each in a block of its own. Conditions: none beyond each statement's own. -/
namespace Go.Proofs.YtmomeggnegcheaaGreatDoor
open Go.RowKit
set_option maxRecDepth 100000

/-- what is known of one block (none: of no block). -/
structure Pc where
  P : World → Option Nat → Prop
  lt : ∀ w k, P w (some k) → k < w.heap.size
  loc : ∀ w w' row b, P w b → w.grownBy w' row → (∀ k, b = some k → row ≠ some k) → P w' b

/-- from w0 on, below block B nothing has turned, and these pieces are held, each in a block of its own from B on. -/
def SL (B : Nat) (w0 w : World) (L : List Pc) : Prop :=
  Below B w0 w ∧ B ≤ w.heap.size ∧ ∃ f : Nat → Option Nat, (∀ i p, L[i]? = some p → p.P w (f i) ∧ ∀ k, f i = some k → B ≤ k) ∧
    ∀ i j k, i < j → j < L.length → f i = some k → f j ≠ some k

theorem grown_of_below {w w' : World} (h : Below w.heap.size w w') : w.grownBy w' none := ⟨h.os, h.tape, h.output, h.size, fun k hk _ => h.block k hk⟩

section
variable {B : Nat} {w0 w w' : World} {L K : List Pc}
theorem SL.nil (w : World) : SL w.heap.size w w [] := ⟨Below.refl _ _, Nat.le_refl _, fun _ => none, fun i p h => by simp at h, fun i j k _ hj => by simp at hj⟩
theorem SL.b (h : SL B w0 w L) : Below B w0 w := h.1
theorem SL.z (h : SL B w0 w L) : B ≤ w.heap.size := h.2.1
theorem SL.grow (h : SL B w0 w L) (hg : w.grownBy w' none) : SL B w0 w' L := by
  obtain ⟨hb, hz, f, h1, h2⟩ := h
  refine ⟨hb.grown hg hz (fun k e => by cases e), Nat.le_trans hz hg.size, f, fun i p hi => ⟨p.loc _ _ _ _ (h1 i p hi).1 hg (fun k _ e => by cases e), (h1 i p hi).2⟩, h2⟩
theorem SL.mono (h : SL B w0 w L) (hb : Below w.heap.size w w') : SL B w0 w' L := h.grow (grown_of_below hb)
theorem SL.al (h : SL B w0 w L) (o : Obj) : SL B w0 (w.alloc o) L := h.grow (World.grownBy_alloc w o none)
theorem SL.drew (h : SL B w0 w L) : SL B w0 w.drew L := h.mono (Below.refl _ _).drew

theorem SL.new (h : SL B w0 w L) (p : Pc) {b : Option Nat} (hg : w.grownBy w' none) (hp : p.P w' b) (hb : ∀ k, b = some k → w.heap.size ≤ k) : SL B w0 w' (p :: L) := by
  have h' := h.grow hg
  have hz0 := h.z
  obtain ⟨_, _, f0, g1, g2⟩ := h
  obtain ⟨hb0, hz, _⟩ := h'
  refine ⟨hb0, hz, fun i => match i with | 0 => b | i + 1 => f0 i, ?_, ?_⟩
  · intro i q hi
    cases i with
    | zero => simp at hi; subst hi; exact ⟨hp, fun k e => Nat.le_trans hz0 (hb k e)⟩
    | succ i =>
      have := g1 i q (by simpa using hi)
      exact ⟨q.loc _ _ _ _ this.1 hg (fun k _ e => by cases e), this.2⟩
  · intro i j k hij hj hi hjk
    cases j with
    | zero => omega
    | succ j =>
      cases i with
      | zero =>
        have hj' : j < L.length := by simpa using hj
        have := (g1 j L[j] (List.getElem?_eq_getElem hj')).1
        have e : f0 j = some k := hjk
        rw [e] at this
        have l1 := L[j].lt _ _ this
        have l2 := hb k hi
        omega
      | succ i => exact g2 i j k (by omega) (by simpa using hj) hi hjk

theorem SL.upd (h : SL B w0 w L) (i : Nat) {p : Pc} (hi : L[i]? = some p) : ∃ b, p.P w b ∧ (∀ k, b = some k → B ≤ k) ∧
    ∀ (w' : World) (q : Pc) (b' : Option Nat), w.grownBy w' b → q.P w' b' → (b' = b ∨ ∀ k, b' = some k → w.heap.size ≤ k) → SL B w0 w' (L.set i q) := by
  obtain ⟨hb, hz, f, h1, h2⟩ := h
  have hil : i < L.length := (List.getElem?_eq_some_iff.1 hi).1
  refine ⟨f i, (h1 i p hi).1, (h1 i p hi).2, fun w' q b' hg hq hb' => ?_⟩
  have fresh : ∀ j k, j < L.length → f j = some k → k < w.heap.size := fun j k hj e => by
    have := (h1 j L[j] (List.getElem?_eq_getElem hj)).1
    rw [e] at this
    exact L[j].lt _ _ this
  refine ⟨hb.grown hg hz (fun k e => (h1 i p hi).2 k e), Nat.le_trans hz hg.size, fun j => if j = i then b' else f j, ?_, ?_⟩
  · intro j r hj
    by_cases e : j = i
    · subst e
      rw [List.getElem?_set_self hil] at hj
      cases hj
      simp only [if_true]
      refine ⟨hq, fun k e => ?_⟩
      rcases hb' with rfl | hb'
      · exact (h1 j p hi).2 k e
      · exact Nat.le_trans hz (hb' k e)
    · rw [List.getElem?_set_ne (fun e' => e e'.symm)] at hj
      simp only [if_neg e]
      refine ⟨r.loc _ _ _ _ (h1 j r hj).1 hg (fun k hk hrow => ?_), (h1 j r hj).2⟩
      have hjl : j < L.length := (List.getElem?_eq_some_iff.1 hj).1
      rcases Nat.lt_or_gt_of_ne e with l | l
      · exact h2 j i k l hil hk hrow
      · exact h2 i j k l hjl hrow hk
  · intro j m k hjm hm hj hmk
    rw [List.length_set] at hm
    by_cases e1 : j = i
    · subst e1
      have e2 : m ≠ j := by omega
      simp only [if_true] at hj
      simp only [if_neg e2] at hmk
      rcases hb' with rfl | hb'
      · exact h2 j m k hjm hm hj hmk
      · have := hb' k hj; have := fresh m k hm hmk; omega
    · simp only [if_neg e1] at hj
      by_cases e2 : m = i
      · subst e2
        simp only [if_true] at hmk
        rcases hb' with rfl | hb'
        · exact h2 j m k hjm hil hj hmk
        · have := hb' k hmk; have := fresh j k (by omega) hj; omega
      · simp only [if_neg e2] at hmk
        exact h2 j m k hjm hm hj hmk

theorem SL.call (h : SL B w0 w L) (hk : SL w.heap.size w w' K) : SL B w0 w' (K ++ L) := by
  have h' := h.mono hk.b
  have hkb := hk.b
  have hz := h'.z
  have hz0 := h.z
  obtain ⟨_, _, f, h1, h2⟩ := h
  obtain ⟨_, _, g, g1, g2⟩ := hk
  have fresh : ∀ j k, j < L.length → f j = some k → k < w.heap.size := fun j k hj e => by
    have := (h1 j L[j] (List.getElem?_eq_getElem hj)).1
    rw [e] at this
    exact L[j].lt _ _ this
  obtain ⟨hb0, _, _⟩ := h'
  refine ⟨hb0, hz, fun i => if i < K.length then g i else f (i - K.length), ?_, ?_⟩
  · intro i p hi
    by_cases e : i < K.length
    · simp only [if_pos e]
      rw [List.getElem?_append_left e] at hi
      exact ⟨(g1 i p hi).1, fun k hk => Nat.le_trans hz0 ((g1 i p hi).2 k hk)⟩
    · simp only [if_neg e]
      rw [List.getElem?_append_right (by omega)] at hi
      exact ⟨p.loc _ _ _ _ (h1 _ p hi).1 (grown_of_below hkb) (fun k _ e => by cases e), (h1 _ p hi).2⟩
  · intro i j k hij hj hi hjk
    rw [List.length_append] at hj
    by_cases e1 : i < K.length
    · simp only [if_pos e1] at hi
      by_cases e2 : j < K.length
      · simp only [if_pos e2] at hjk; exact g2 i j k hij e2 hi hjk
      · simp only [if_neg e2] at hjk
        have a1 := (g1 i K[i] (List.getElem?_eq_getElem e1)).2 k hi
        have a2 := fresh _ k (by omega) hjk
        omega
    · have e2 : ¬ j < K.length := by omega
      simp only [if_neg e1] at hi
      simp only [if_neg e2] at hjk
      exact h2 _ _ k (by omega) (by omega) hi hjk

/-- some of the pieces, in another order. -/
theorem SL.pick (h : SL B w0 w L) (is : List Nat) (hn : is.Nodup) (K : List Pc) (hK : is.map (fun i => L[i]?) = K.map some) : SL B w0 w K := by
  obtain ⟨hb, hz, f, h1, h2⟩ := h
  have hlen : is.length = K.length := by have := congrArg List.length hK; simpa using this
  have hat : ∀ j (hj : j < K.length), ∃ i, is[j]? = some i ∧ L[i]? = some K[j] := fun j hj => by
    have hj' : j < is.length := by omega
    refine ⟨is[j], List.getElem?_eq_getElem hj', ?_⟩
    have := congrArg (fun l : List (Option Pc) => l[j]?) hK
    simpa [hj, hj'] using this
  refine ⟨hb, hz, fun j => (is[j]?).bind f, ?_, ?_⟩
  · intro j p hj
    have hjl : j < K.length := (List.getElem?_eq_some_iff.1 hj).1
    obtain ⟨i, e1, e2⟩ := hat j hjl
    have e3 : K[j] = p := by have := hj; rw [List.getElem?_eq_getElem hjl] at this; simpa using this
    rw [e3] at e2
    simp only [e1, Option.bind_some]
    exact h1 i p e2
  · intro i j k hij hj hi hjk
    obtain ⟨i', e1, e2⟩ := hat i (by omega)
    obtain ⟨j', e3, e4⟩ := hat j hj
    simp only [e1, Option.bind_some] at hi
    simp only [e3, Option.bind_some] at hjk
    have hil : i' < L.length := (List.getElem?_eq_some_iff.1 e2).1
    have hjl : j' < L.length := (List.getElem?_eq_some_iff.1 e4).1
    have hne : i' ≠ j' := by
      have a := (List.getElem?_eq_some_iff.1 e1)
      have b := (List.getElem?_eq_some_iff.1 e3)
      obtain ⟨a1, a2⟩ := a
      obtain ⟨b1, b2⟩ := b
      have := (List.pairwise_iff_getElem.1 hn) i j a1 b1 hij
      rw [a2, b2] at this
      exact this
    rcases Nat.lt_or_gt_of_ne hne with l | l
    · exact h2 i' j' k l hjl hi hjk
    · exact h2 j' i' k l hil hjk hi
theorem SL.tail {p : Pc} (h : SL B w0 w (p :: L)) : SL B w0 w L := by
  obtain ⟨hb, hz, f, h1, h2⟩ := h
  exact ⟨hb, hz, fun i => f (i + 1), fun i p hi => h1 (i + 1) p (by simpa using hi), fun i j k hij hj => h2 (i + 1) (j + 1) k (by omega) (by simpa using hj)⟩
theorem SL.empty (h : SL B w0 w L) : SL B w0 w [] := ⟨h.1, h.2.1, fun _ => .none, fun i p h => by simp at h, fun i j k _ hj => by simp at hj⟩
theorem SL.one (h : SL B w0 w L) (i : Nat) {p : Pc} (hi : L[i]? = some p) : SL B w0 w [p] := h.pick [i] (by simp) [p] (by simp [hi])
theorem SL.of_below (hb : Below w.heap.size w w') : SL w.heap.size w w' [] := (SL.nil w).mono hb
end

/-! owned slices -/
theorem Own.rebase {α : Type} {c : α → Value} {sz B B' : Nat} {e : TypeId} {w : World} {v : Value} {l : List α} (h : Own c sz B e w v l) (hb : ∀ k, v.ownBlock = some k → B' ≤ k) : Own c sz B' e w v l := by
  obtain ⟨h1, h2, h3⟩ := h
  refine ⟨h1, h2, ?_⟩
  rcases h3 with h3 | ⟨g, cap, cur, hv, hB, r⟩
  · exact .inl h3
  · exact .inr ⟨g, cap, cur, hv, hb g (by rw [hv]; rfl), r⟩
def pOwn {α : Type} (c : α → Value) (sz : Nat) (e : TypeId) (v : Value) (l : List α) : Pc where
  P w b := Own c sz 0 e w v l ∧ v.ownBlock = b
  lt w k h := (h.1.lt k h.2).2
  loc w w' row b h hg hne := ⟨h.1.kept hg (by
    cases hb : v.ownBlock with
    | none => exact .inl rfl
    | some k => exact .inr (fun e => hne k (by rw [← h.2, hb]) e.symm)), h.2⟩
def pBlk (k : Nat) (o : Obj) : Pc where
  P w b := b = some k ∧ w.heap[k]? = some o
  lt w j h := by obtain ⟨h1, h2⟩ := h; cases h1; exact (Array.getElem?_eq_some_iff.1 h2).1
  loc w w' row b h hg hne := ⟨h.1, by rw [hg.block k (Array.getElem?_eq_some_iff.1 h.2).1 (fun e => hne k h.1 e.symm)]; exact h.2⟩
def pMapI (k n : Nat) (g : Int → Int) : Pc where
  P w b := b = some k ∧ MapI w k n g
  lt w j h := by obtain ⟨h1, h2⟩ := h; cases h1; exact h2.lt
  loc w w' row b h hg hne := ⟨h.1, h.2.kept hg (fun e => hne k h.1 e.symm)⟩
def pMapB (k n : Nat) (g : Int → Bool) : Pc where
  P w b := b = some k ∧ MapB w k n g
  lt w j h := by obtain ⟨h1, h2⟩ := h; cases h1; exact h2.lt
  loc w w' row b h hg hne := ⟨h.1, h.2.kept hg (fun e => hne k h.1 e.symm)⟩

section
variable {B : Nat} {w0 w w' : World} {L : List Pc} {α : Type} {c : α → Value} {sz : Nat} {e : TypeId} {v : Value} {l : List α}
theorem SL.own (h : SL B w0 w L) (i : Nat) (hi : L[i]? = some (pOwn c sz e v l)) : Own c sz B e w v l := by
  obtain ⟨b, ⟨h1, h2⟩, h3, _⟩ := h.upd i hi
  exact h1.rebase (fun k hk => h3 k (by rw [← h2, hk]))
theorem SL.slice (h : SL B w0 w L) (i : Nat) (hi : L[i]? = some (pOwn c sz e v l)) : ∃ a cap, v = .slice a l.length cap ∧ Reps c sz w a cap l := by
  obtain ⟨a, cap, h1, h2, _⟩ := (h.own i hi).reps
  exact ⟨a, cap, h1, h2⟩
/-- what an owned slice is, read. -/
theorem SL.rd {a : Option Addr} {n cap : Nat} (h : SL B w0 w L) (i : Nat) (hi : L[i]? = some (pOwn c sz e (.slice a n cap) l)) : Reps c sz w a cap l := by
  obtain ⟨a', cap', h1, h2⟩ := h.slice i hi
  simp only [Value.slice.injEq] at h1
  obtain ⟨rfl, _, rfl⟩ := h1
  exact h2
theorem SL.blk {k : Nat} {o : Obj} (h : SL B w0 w L) (i : Nat) (hi : L[i]? = some (pBlk k o)) : w.heap[k]? = some o ∧ B ≤ k ∧ k < w.heap.size := by
  obtain ⟨b, ⟨rfl, h1⟩, h3, _⟩ := h.upd i hi
  exact ⟨h1, h3 k rfl, (Array.getElem?_eq_some_iff.1 h1).1⟩
theorem SL.cell {k : Nat} {cs : Array Value} {fr : Nat × Nat} (h : SL B w0 w L) (i : Nat) (hi : L[i]? = some (pBlk k (.cells cs e fr))) (j : Nat) {u : Value} (hu : cs[j]? = some u) : w.cell? ⟨k, j, none⟩ = some u := by
  simp [World.cell?, (h.blk i hi).1, hu]
theorem SL.frozen {k : Nat} {cs : Array Value} (h : SL B w0 w L) (i : Nat) (hi : L[i]? = some (pBlk k (.cells cs e (0, 0)))) (j : Nat) : w.frozen? ⟨k, j, none⟩ = false := by
  simp [World.frozen?, (h.blk i hi).1]
theorem SL.mapI {k n : Nat} {g : Int → Int} (h : SL B w0 w L) (i : Nat) (hi : L[i]? = some (pMapI k n g)) : MapI w k n g := by
  obtain ⟨b, ⟨_, h1⟩, _⟩ := h.upd i hi
  exact h1
theorem SL.mapB {k n : Nat} {g : Int → Bool} (h : SL B w0 w L) (i : Nat) (hi : L[i]? = some (pMapB k n g)) : MapB w k n g := by
  obtain ⟨b, ⟨_, h1⟩, _⟩ := h.upd i hi
  exact h1
theorem SL.box (h : SL B w0 w L) (o : Obj) : SL B w0 (w.alloc o) (pBlk w.heap.size o :: L) :=
  h.new _ (b := some w.heap.size) (World.grownBy_alloc w o .none) ⟨rfl, heap_alloc_new w o⟩ (fun k e => by cases e; exact Nat.le_refl _)
theorem SL.nilS (h : SL B w0 w L) (hc : ∀ x : α, (c x).cells.size = sz) : SL B w0 w (pOwn c sz e (.slice .none 0 0) [] :: L) :=
  h.new _ (b := .none) (World.grownBy.refl w _) ⟨own_nil hc, rfl⟩ (fun k e => by cases e)
theorem SL.ofOwn (ho : Own c sz w.heap.size e w' v l) (hb : Below w.heap.size w w') : SL w.heap.size w w' [pOwn c sz e v l] :=
  (SL.nil w).new _ (grown_of_below hb) (b := v.ownBlock) ⟨ho.mono (Nat.zero_le _), rfl⟩ (fun k hk => (ho.lt k hk).1)
theorem SL.set {k : Nat} {cs : Array Value} {fr : Nat × Nat} (h : SL B w0 w L) (i : Nat) (hi : L[i]? = some (pBlk k (.cells cs e fr))) (j : Nat) (u : Value) :
    SL B w0 (w.setCell ⟨k, j, none⟩ u) (L.set i (pBlk k (.cells (cs.setIfInBounds j u) e fr))) := by
  obtain ⟨b, ⟨rfl, h1⟩, h3, h4⟩ := h.upd i hi
  refine h4 _ _ (some k) ⟨rfl, rfl, rfl, by simp [World.setCell], fun m hm hne => Below.heap_setCell _ _ _ _ (fun e => hne (by rw [e]))⟩ ⟨rfl, ?_⟩ (.inl rfl)
  simp [World.setCell, Array.getElem?_modify, h1]
end

/-! the operations -/
section
variable {P : Program} {ops : Array Oper} {rest : List Oper} {a : Act} {Q : Exit → Act → World → Prop} {α : Type} {c : α → Value} {sz bytes B : Nat} {t e : TypeId} {z v : Value} {w0 w : World} {L : List Pc} {l : List α}
theorem wpList_pushL {d : Option Tmp} {ty : TypeId} {p : String} {s x : Operand} {af : Array Edge} {H n cp : Nat} {y : α} {cs : Array Value} {fr : Nat × Nat} (i : Nat) (E : ETy P t e z sz bytes)
   (hs : a.eval s = v) (hx : a.eval x = .slice (some ⟨H, 0, none⟩) n cp) (hS : SL B w0 w L) (hi : L[i]? = some (pOwn c sz e v l)) (h1 : ∀ x, ∀ u ∈ (c x).cells.toList, u.oneCell' = true)
   (hn : n = 1 ∧ cp = 1) (hH : w.heap.size = H) (hcs : cs.toList = (c y).cells.toList) (hb : (l.length + 1) * bytes ≤ 140737488355328) (hm : l.length + 1 ≤ 9223372036854775807)
   (hK : ∀ v' w', SL B w0 w' (L.set i (pOwn c sz e v' (l ++ [y]))) → wpList P ops Q rest (a.put d v') w') :
   wpList P ops Q (⟨d, .call { callee := .builtin .append, args := #[s, x], argTypes := #[t, t] }, ty, p, af, none⟩ :: rest) a (w.alloc (.cells cs e fr)) := by
  obtain ⟨rfl, rfl⟩ := hn
  have hS' := hS.al (.cells cs e fr)
  have hc := (hS.own i hi).1
  obtain ⟨b, ⟨h2, h3⟩, h4, h5⟩ := hS'.upd i hi
  refine wpList_app (l := l) (ys := [y]) (ad := some ⟨H, 0, none⟩) (cap := 1) E hs hx h2 (reps_new1 hc y cs fr hH hcs) h1 (by simpa using hb) (Nat.zero_le _) (by simpa using hm) ?_
  intro v' w' ho hg hat
  refine hK v' w' (h5 w' _ v'.ownBlock (h3 ▸ hg) ⟨ho, rfl⟩ ?_)
  rcases hat with hat | hat
  · exact .inl (hat.trans h3)
  · exact .inr (fun k hk => by rw [hat] at hk; cases hk; exact Nat.le_refl _)
theorem wpList_appL {d : Option Tmp} {ty : TypeId} {p : String} {s x : Operand} {af : Array Edge} {ad : Option Addr} {n cap : Nat} {ys : List α} (i : Nat) (E : ETy P t e z sz bytes)
   (hs : a.eval s = v) (hx : a.eval x = .slice ad n cap) (hS : SL B w0 w L) (hi : L[i]? = some (pOwn c sz e v l)) (hR : Reps c sz w ad cap ys) (hn : n = ys.length) (h1 : ∀ x, ∀ u ∈ (c x).cells.toList, u.oneCell' = true)
   (hb : (l.length + ys.length) * bytes ≤ 140737488355328) (hm : l.length + ys.length ≤ 9223372036854775807)
   (hK : ∀ v' w', SL B w0 w' (L.set i (pOwn c sz e v' (l ++ ys))) → wpList P ops Q rest (a.put d v') w') :
   wpList P ops Q (⟨d, .call { callee := .builtin .append, args := #[s, x], argTypes := #[t, t] }, ty, p, af, none⟩ :: rest) a w := by
  subst hn
  obtain ⟨b, ⟨h2, h3⟩, h4, h5⟩ := hS.upd i hi
  refine wpList_app (l := l) (ys := ys) (ad := ad) (cap := cap) E hs hx h2 hR h1 hb (Nat.zero_le _) hm ?_
  intro v' w' ho hg hat
  refine hK v' w' (h5 w' _ v'.ownBlock (h3 ▸ hg) ⟨ho, rfl⟩ ?_)
  rcases hat with hat | hat
  · exact .inl (hat.trans h3)
  · exact .inr (fun k hk => by rw [hat] at hk; cases hk; exact Nat.le_refl _)
theorem wpList_storeL {d1 : Tmp} {ty1 ty2 : TypeId} {p1 p2 : String} {s x y : Operand} {af1 af2 : Array Edge} {ad : Option Addr} {n cap : Nat} {k : Int} {u : α} (i : Nat)
   (E : ETy P t e z 1 bytes) (hc1 : ∀ x, (c x).cells = #[c x]) (hsto : ∀ (u : α) (w : World) (p : Addr), (w.cell? p).isSome = true → w.frozen? p = false → (Instr.storeAt e (.pointer (some p)) (c u)).run P w = .ok () (w.setCell p (c u)))
   (hs : a.eval s = .slice ad n cap) (hx : a.eval x = .int .i64 k) (hS : SL B w0 w L) (hi : L[i]? = some (pOwn c 1 e (.slice ad n cap) l)) (h0 : 0 ≤ k) (hk : k < l.length)
   (hd : ∀ p, (a.put (some d1) p).eval (.tmp d1) = p) (hy : ∀ p, (a.put (some d1) p).eval y = c u)
   (hK : ∀ p w', SL B w0 w' (L.set i (pOwn c 1 e (.slice ad n cap) (l.set k.toNat u))) → wpList P ops Q rest ((a.put (some d1) p).put none undef) w') :
   wpList P ops Q (⟨some d1, .indexAddr t s x, ty1, p1, af1, none⟩ :: ⟨none, .store e (.tmp d1) y, ty2, p2, af2, none⟩ :: rest) a w := by
  obtain ⟨a', cap', e1, _⟩ := hS.slice i hi
  simp only [Value.slice.injEq] at e1
  obtain ⟨rfl, rfl, rfl⟩ := e1
  obtain ⟨b, ⟨h2, h3⟩, h4, h5⟩ := hS.upd i hi
  refine wpList_store (l := l) (B := 0) u E hc1 (hsto u) hs hx h2 h0 hk hd hy (fun p w' ho hg => hK p w' (h5 w' _ b (h3 ▸ hg) ⟨ho, h3⟩ (.inl rfl)))
theorem wpList_makeL {d : Option Tmp} {ty : TypeId} {p : String} {x y : Operand} {af : Array Edge} (n : Nat) (z0 : α)
    (E : ETy P t e (c z0) 1 bytes) (hc : ∀ x, (c x).cells = #[c x]) (hx : a.eval x = .int .i64 n) (hy : a.eval y = .int .i64 n) (hb : bytes * n ≤ 281474976710656) (hm : n ≤ 9223372036854775807) (hS : SL B w0 w L)
    (hK : ∀ ad w', SL B w0 w' (pOwn c 1 e (.slice ad n n) (List.replicate n z0) :: L) → wpList P ops Q rest (a.put d (.slice ad n n)) w') :
    wpList P ops Q (⟨d, .makeSlice t x y, ty, p, af, none⟩ :: rest) a w := by
  refine wpList_make1 n z0 E hc hx hy hb hm (Nat.le_refl _) (fun w' ho hg => hK _ w' ?_)
  exact hS.new _ (b := some w.heap.size) hg ⟨ho.mono (Nat.zero_le _), rfl⟩ (fun k e => by cases e; exact Nat.le_refl _)
end
section
variable {ops : Array Oper} {rest : List Oper} {a : Act} {Q : Exit → Act → World → Prop} {d : Option Tmp} {ty : TypeId} {p : String} {m x y : Operand} {af : Array Edge} {b n B : Nat} {k : Int} {w0 w : World} {L : List Pc}
theorem wpList_putBL {f : Int → Bool} {v : Bool} (i : Nat) (hm : a.eval m = .map (some b)) (hx : a.eval x = .int .i64 k) (hy : a.eval y = .bool v) (hS : SL B w0 w L) (hi : L[i]? = some (pMapB b n f)) (hk : InI k) (hn : n < maxLen)
   (hK : ∀ w', SL B w0 w' (L.set i (pMapB b (n + 1) (fun x => if x = k then v else f x))) → wpList Tryz.prog ops Q rest (a.put d undef) w') :
   wpList Tryz.prog ops Q (⟨d, .mapUpdate 162 m x y, ty, p, af, none⟩ :: rest) a w := by
  obtain ⟨o, ⟨rfl, h2⟩, h4, h5⟩ := hS.upd i hi
  exact wpList_putB hm hx hy h2 hk hn (fun w' h1 hg => hK w' (h5 w' _ (some b) hg ⟨rfl, h1⟩ (.inl rfl)))
theorem wpList_putIL {f : Int → Int} {v : Int} (i : Nat) (hm : a.eval m = .map (some b)) (hx : a.eval x = .int .i64 k) (hy : a.eval y = .int .i64 v) (hS : SL B w0 w L) (hi : L[i]? = some (pMapI b n f)) (hk : InI k) (hv : InI v) (hn : n < maxLen)
   (hK : ∀ w', SL B w0 w' (L.set i (pMapI b (n + 1) (fun x => if x = k then v else f x))) → wpList Tryz.prog ops Q rest (a.put d undef) w') :
   wpList Tryz.prog ops Q (⟨d, .mapUpdate 50 m x y, ty, p, af, none⟩ :: rest) a w := by
  obtain ⟨o, ⟨rfl, h2⟩, h4, h5⟩ := hS.upd i hi
  exact wpList_putI hm hx hy h2 hk hv hn (fun w' h1 hg => hK w' (h5 w' _ (some b) hg ⟨rfl, h1⟩ (.inl rfl)))
end
end Go.Proofs.YtmomeggnegcheaaGreatDoor

/- Plain laws on what a call owns, more: a slice that came in or is owned; marks of range-over-function statements; leaving. Conditions: none beyond each statement's own. -/
namespace Go.Proofs.YtmomeggnegcheaaGreatDoor
open Go.RowKit
set_option maxRecDepth 100000

section
variable {B : Nat} {w0 w w' : World} {L K : List Pc}
theorem SL.weaken (h : SL B w0 w L) (i : Nat) {p : Pc} (hi : L[i]? = some p) (q : Pc) (hq : ∀ b, p.P w b → q.P w b) : SL B w0 w (L.set i q) := by
  obtain ⟨b, h1, h3, h4⟩ := h.upd i hi
  exact h4 w q b (World.grownBy.refl w _) (hq b h1) (.inl rfl)
theorem SL.comm (h : SL B w0 w (K ++ L)) : SL B w0 w (L ++ K) := by
  obtain ⟨hb, hz, f, h1, h2⟩ := h
  refine ⟨hb, hz, fun i => if i < L.length then f (K.length + i) else f (i - L.length), ?_, ?_⟩
  · intro i p hi
    by_cases e : i < L.length
    · simp only [if_pos e]
      rw [List.getElem?_append_left e] at hi
      exact h1 _ p (by rw [List.getElem?_append_right (by omega)]; simpa using hi)
    · simp only [if_neg e]
      rw [List.getElem?_append_right (by omega)] at hi
      have hl := (List.getElem?_eq_some_iff.1 hi).1
      exact h1 _ p (by rw [List.getElem?_append_left hl]; exact hi)
  · intro i j k hij hj hi hjk
    rw [List.length_append] at hj
    by_cases e1 : i < L.length
    · simp only [if_pos e1] at hi
      by_cases e2 : j < L.length
      · simp only [if_pos e2] at hjk
        exact h2 _ _ k (by omega) (by rw [List.length_append]; omega) hi hjk
      · simp only [if_neg e2] at hjk
        exact h2 _ _ k (show j - L.length < K.length + i by omega) (by rw [List.length_append]; omega) hjk hi
    · have e2 : ¬ j < L.length := by omega
      simp only [if_neg e1] at hi
      simp only [if_neg e2] at hjk
      exact h2 _ _ k (by omega) (by rw [List.length_append]; omega) hi hjk

/-- the blocks of the pieces. -/
def SLok (w : World) (B : Nat) (f : Nat → Option Nat) (L : List Pc) : Prop := (∀ i p, L[i]? = some p → p.P w (f i) ∧ ∀ k, f i = some k → B ≤ k) ∧ ∀ i j k, i < j → j < L.length → f i = some k → f j ≠ some k
theorem SLok.cons {f : Nat → Option Nat} {p : Pc} (hp : p.P w (f 0) ∧ ∀ k, f 0 = some k → B ≤ k) (h : SLok w B (fun i => f (i + 1)) L) (hne : ∀ j k, j < L.length → f 0 = some k → f (j + 1) ≠ some k) : SLok w B f (p :: L) := by
  refine ⟨fun i q hi => ?_, fun i j k hij hj hi => ?_⟩
  · cases i with
    | zero => simp at hi; subst hi; exact hp
    | succ i => exact h.1 i q (by simpa using hi)
  · cases j with
    | zero => omega
    | succ j =>
      cases i with
      | zero => exact hne j k (by simpa using hj) hi
      | succ i => exact h.2 i j k (by omega) (by simpa using hj) hi
theorem SLok.uncons {f : Nat → Option Nat} {p : Pc} (h : SLok w B f (p :: L)) : (p.P w (f 0) ∧ ∀ k, f 0 = some k → B ≤ k) ∧ SLok w B (fun i => f (i + 1)) L ∧ ∀ j k, j < L.length → f 0 = some k → f (j + 1) ≠ some k :=
  ⟨h.1 0 p rfl, ⟨fun i q hi => h.1 (i + 1) q (by simpa using hi), fun i j k hij hj => h.2 (i + 1) (j + 1) k (by omega) (by simpa using hj)⟩, fun j k hj => h.2 0 (j + 1) k (by omega) (by simpa using hj)⟩
theorem SLok.perm : ∀ {L L' : List Pc}, L.Perm L' → ∀ f, SLok w B f L → ∃ f', SLok w B f' L' ∧ ∀ i k, i < L'.length → f' i = some k → ∃ j, j < L.length ∧ f j = some k := by
  intro L L' hp
  induction hp with
  | nil => intro f h; exact ⟨f, h, fun i k hi => by simp at hi⟩
  | cons x _ ih =>
    intro f h
    obtain ⟨h1, h2, h3⟩ := h.uncons
    obtain ⟨g, g1, g2⟩ := ih _ h2
    refine ⟨fun i => match i with | 0 => f 0 | i + 1 => g i, SLok.cons h1 g1 (fun j k hj hk e => ?_), fun i k hi hk => ?_⟩
    · obtain ⟨j', hj', e'⟩ := g2 j k hj e
      exact h3 j' k hj' hk e'
    · cases i with
      | zero => exact ⟨0, by simp, hk⟩
      | succ i =>
        obtain ⟨j', hj', e'⟩ := g2 i k (by simpa using hi) hk
        exact ⟨j' + 1, by simpa using hj', e'⟩
  | swap x y l =>
    intro f h
    obtain ⟨h1, h2, h3⟩ := h.uncons
    obtain ⟨h4, h5, h6⟩ := h2.uncons
    refine ⟨fun i => match i with | 0 => f 1 | 1 => f 0 | i + 2 => f (i + 2), SLok.cons h4 (SLok.cons h1 h5 (fun j k hj hk => ?_)) (fun j k hj hk e => ?_), fun i k hi hk => ?_⟩
    · exact h3 (j + 1) k (by simpa using hj) hk
    · cases j with
      | zero => exact h3 0 k (by simp) e hk
      | succ j => exact h6 j k (by simpa using hj) hk e
    · match i with
      | 0 => exact ⟨1, by simp, hk⟩
      | 1 => exact ⟨0, by simp, hk⟩
      | i + 2 => exact ⟨i + 2, by simpa using hi, hk⟩
  | trans _ _ ih1 ih2 =>
    intro f h
    obtain ⟨g, g1, g2⟩ := ih1 f h
    obtain ⟨g', g3, g4⟩ := ih2 g g1
    refine ⟨g', g3, fun i k hi hk => ?_⟩
    obtain ⟨j, hj, e⟩ := g4 i k hi hk
    exact g2 j k hj e
theorem SL.perm (h : SL B w0 w L) (hp : L.Perm K) : SL B w0 w K := by
  obtain ⟨hb, hz, f, h1⟩ := h
  obtain ⟨g, g1, _⟩ := SLok.perm hp f h1
  exact ⟨hb, hz, g, g1⟩
/-- two pieces lie in different blocks. -/
theorem SL.apart (h : SL B w0 w L) (i j : Nat) (hij : i ≠ j) {p q : Pc} (hi : L[i]? = some p) (hj : L[j]? = some q) {k k' : Nat} (hp : ∀ b, p.P w b → b = some k) (hq : ∀ b, q.P w b → b = some k') : k ≠ k' := by
  obtain ⟨_, _, f, h1, h2⟩ := h
  have e1 := hp _ (h1 i p hi).1
  have e2 := hq _ (h1 j q hj).1
  have hil := (List.getElem?_eq_some_iff.1 hi).1
  have hjl := (List.getElem?_eq_some_iff.1 hj).1
  rintro rfl
  rcases Nat.lt_or_gt_of_ne hij with l | l
  · exact h2 i j k l hjl e1 e2
  · exact h2 j i k l hil e2 e1

/-- some of the pieces of the front, in another order. -/
theorem SL.pickA {M : List Pc} (h : SL B w0 w (K ++ M)) (is : List Nat) (hn : is.Nodup) (hl : ∀ i ∈ is, i < K.length) (K' : List Pc) (hK : is.map (fun i => K[i]?) = K'.map some) : SL B w0 w (K' ++ M) := by
  refine h.pick (is ++ List.range' K.length M.length) ?_ _ ?_
  · refine List.nodup_append.2 ⟨hn, List.nodup_range' , ?_⟩
    intro a ha b hb e
    subst e
    have := hl a ha
    simp at hb
    omega
  · rw [List.map_append, List.map_append]
    congr 1
    · rw [← hK]
      refine List.map_congr_left fun i hi => ?_
      rw [List.getElem?_append_left (hl i hi)]
    · apply List.ext_getElem
      · simp
      · intro i h1 h2
        have h3 : i < M.length := by simpa using h2
        simp [h3]

/-- a piece that a turn of a block that is no cells, from B on, does not touch. -/
def Pc.okT (B : Nat) (p : Pc) : Prop := ∀ W k, p.P W (some k) → k < B ∨ ∃ o : Obj, W.heap[k]? = some o ∧ o.isCells = true
theorem SL.turn {C : Nat} {row : Option Nat} (h : SL B w0 w L) (hB : B ≤ C) (hL : ∀ p ∈ L, p.okT C) (hg : w.grownBy w' row) (hr : ∀ r, row = some r → C ≤ r ∧ ∃ o : Obj, w.heap[r]? = some o ∧ o.isCells = false) : SL B w0 w' L := by
  obtain ⟨hb, hz, f, h1, h2⟩ := h
  refine ⟨hb.grown hg hz (fun k e => Nat.le_trans hB (hr k e).1), Nat.le_trans hz hg.size, f, fun i p hi => ⟨p.loc _ _ _ _ (h1 i p hi).1 hg (fun k hk e => ?_), (h1 i p hi).2⟩, h2⟩
  obtain ⟨h3, o, h4, h5⟩ := hr k e
  have h6 := (h1 i p hi).1
  rw [hk] at h6
  rcases hL p (List.mem_of_getElem? hi) w k h6 with h7 | ⟨o', h7, h8⟩
  · omega
  · rw [h4] at h7; cases h7; rw [h5] at h8; cases h8
end

section
variable {α : Type} {c : α → Value} {sz : Nat} {e : TypeId} {v : Value} {l : List α} {B : Nat} {W0 w : World} {L : List Pc}
theorem own_isCells {C : Nat} (h : Own c sz C e w v l) {k : Nat} (hk : v.ownBlock = some k) : ∃ o : Obj, w.heap[k]? = some o ∧ o.isCells = true := by
  obtain ⟨_, _, h3⟩ := h
  rcases h3 with ⟨rfl, _⟩ | ⟨g, cap, cur, rfl, _, hg, _⟩
  · cases hk
  · cases hk; exact ⟨_, hg, rfl⟩
theorem okT_own : (pOwn c sz e v l).okT B := fun W k h => .inr (own_isCells h.1 h.2)
theorem okT_cells {k : Nat} {cs : Array Value} {fr : Nat × Nat} : (pBlk k (.cells cs e fr)).okT B := fun W j h => .inr ⟨_, by obtain ⟨h1, h2⟩ := h; cases h1; exact h2, rfl⟩
theorem okT_lt {k : Nat} {o : Obj} (h : k < B) : (pBlk k o).okT B := fun W j hj => by obtain ⟨h1, _⟩ := hj; cases h1; exact .inl h

/-- a slice that was there at W0, or an owned one. -/
def pSrc {α : Type} (c : α → Value) (sz : Nat) (e : TypeId) (W0 : World) (v : Value) (l : List α) : Pc where
  P w b := (b = none ∧ ∃ a cap, v = .slice a l.length cap ∧ Reps c sz W0 a cap l) ∨ (Own c sz 0 e w v l ∧ v.ownBlock = b)
  lt w k h := by
    rcases h with ⟨h, _⟩ | h
    · cases h
    · exact (h.1.lt k h.2).2
  loc w w' row b h hg hne := by
    rcases h with h | h
    · exact .inl h
    · exact .inr ((pOwn c sz e v l).loc w w' row b h hg hne)
theorem SL.src (h : SL W0.heap.size W0 w L) (i : Nat) (hi : L[i]? = some (pSrc c sz e W0 v l)) : ∃ a cap, v = .slice a l.length cap ∧ Reps c sz w a cap l := by
  obtain ⟨b, h1, _, _⟩ := h.upd i hi
  rcases h1 with ⟨_, a, cap, rfl, hR⟩ | h1
  · exact ⟨a, cap, rfl, hR.below h.b⟩
  · obtain ⟨a, cap, h2, h3, _⟩ := h1.1.reps
    exact ⟨a, cap, h2, h3⟩
theorem okT_src : (pSrc c sz e W0 v l).okT B := fun W k h => by
  rcases h with ⟨h, _⟩ | h
  · cases h
  · exact .inr (own_isCells h.1 h.2)
theorem SL.newSrc {a : Option Addr} {cap : Nat} (h : SL B W0 w L) (hR : Reps c sz W0 a cap l) : SL B W0 w (pSrc c sz e W0 (.slice a l.length cap) l :: L) :=
  h.new _ (b := none) (World.grownBy.refl w _) (.inl ⟨rfl, a, cap, rfl, hR⟩) (fun k e => by cases e)

theorem SL.setOwn {ad : Option Addr} {n cap : Nat} (h : SL B W0 w L) (hc1 : ∀ x, (c x).cells = #[c x]) (i : Nat) (hi : L[i]? = some (pOwn c 1 e (.slice ad n cap) l)) (k : Int) (h0 : 0 ≤ k) (hk : k < l.length) (x : α) :
    ∃ g, ad = some ⟨g, 0, none⟩ ∧ n = l.length ∧ w.cell? ⟨g, k.toNat, none⟩ = l[k.toNat]?.map c ∧ w.frozen? ⟨g, k.toNat, none⟩ = false ∧ SL B W0 (w.setCell ⟨g, k.toNat, none⟩ (c x)) (L.set i (pOwn c 1 e (.slice ad n cap) (l.set k.toNat x))) := by
  obtain ⟨a', cap', e1, hR⟩ := h.slice i hi
  simp only [Value.slice.injEq] at e1
  obtain ⟨rfl, rfl, rfl⟩ := e1
  obtain ⟨b, ⟨h2, h3⟩, h4, h5⟩ := h.upd i hi
  obtain ⟨g, rfl, _, hcs, hfr, ho, hg⟩ := own_store hc1 h2 x k h0 hk
  refine ⟨g, rfl, rfl, ?_, hfr, h5 _ _ (some g) (by rw [← h3]; exact hg) ⟨ho, rfl⟩ (.inl (by rw [← h3]; rfl))⟩
  have hkl : k.toNat < l.length := by omega
  obtain ⟨b1, o1, e1, hc⟩ := hR.cells (by decide) (l[k.toNat]) k.toNat hkl
  cases e1
  have := hc 0 (c (l.getD k.toNat l[k.toNat])) (by rw [hc1]; rfl)
  simpa [hkl] using this

theorem blk_at {k : Nat} {o : Obj} : ∀ b, (pBlk k o).P w b → b = some k := fun _ h => h.1
theorem own_at {g n cap : Nat} : ∀ b, (pOwn c sz e (.slice (some ⟨g, 0, none⟩) n cap) l).P w b → b = some g := fun _ h => h.2.symm

theorem SL.ne_own (h : SL B W0 w L) (i j : Nat) (hij : i ≠ j) {k : Nat} {o : Obj} (hi : L[i]? = some (pOwn c sz e v l)) (hj : L[j]? = some (pBlk k o)) : v.ownBlock ≠ some k := by
  intro hv
  exact h.apart i j hij hi hj (fun b hb => hb.2.symm.trans hv) blk_at rfl

theorem wpListIn_pushL {F : Fence} {n' : Nat} {P : Program} {ops : Array Oper} {rest : List Oper} {a : Act} {Q : Exit → Act → World → Prop} {bytes : Nat} {t : TypeId} {z : Value} {w0 : World} {d : Option Tmp} {ty : TypeId} {p : String} {s x : Operand} {af : Array Edge} {H n cp : Nat} {y : α} {cs : Array Value} {fr : Nat × Nat} (i : Nat) (E : ETy P t e z sz bytes)
   (hs : a.eval s = v) (hx : a.eval x = .slice (some ⟨H, 0, none⟩) n cp) (hS : SL B w0 w L) (hi : L[i]? = some (pOwn c sz e v l)) (h1 : ∀ x, ∀ u ∈ (c x).cells.toList, u.oneCell' = true)
   (hn : n = 1 ∧ cp = 1) (hH : w.heap.size = H) (hcs : cs.toList = (c y).cells.toList) (hb : (l.length + 1) * bytes ≤ 140737488355328) (hm : l.length + 1 ≤ 9223372036854775807)
   (hK : ∀ v' w', SL B w0 w' (L.set i (pOwn c sz e v' (l ++ [y]))) → w.grownBy w' v.ownBlock → (v'.ownBlock = v.ownBlock ∨ v'.ownBlock = some (w.heap.size + 1)) → wpListIn F n' P ops Q rest (a.put d v') w') :
   wpListIn F n' P ops Q (⟨d, .call { callee := .builtin .append, args := #[s, x], argTypes := #[t, t] }, ty, p, af, none⟩ :: rest) a (w.alloc (.cells cs e fr)) := by
  obtain ⟨rfl, rfl⟩ := hn
  have hS' := hS.al (.cells cs e fr)
  have hc := (hS.own i hi).1
  obtain ⟨b, ⟨h2, h3⟩, h4, h5⟩ := hS'.upd i hi
  refine wpListIn_plain rfl fun K hK' => ?_
  obtain ⟨v', w', r1, r2, r3, r4⟩ := run_app ty E h2 (reps_new1 (e := e) hc y cs fr hH hcs) h1 (by simpa using hb) (by simpa using hm) (Nat.zero_le _)
  unfold Oper.wpIn
  refine ⟨?_, ?_⟩
  · simp [Oper.about, resolve, Target.leads, Sem.run_pure]
  · rw [Oper.semAt_plain F _ _ (by intro c hc'; cases hc')]
    have r1' : (Builtin.append_ #[t, t] ty #[v, .slice (some ⟨H, 0, none⟩) 1 1]).run P (w.alloc (.cells cs e fr)) = .ok v' w' := r1
    simp only [execOp, resolve, invoke, builtin, Sem.run_bind, Sem.run_pure, Result.andThen_ok, List.map_toArray, List.map_cons, List.map_nil, hs, hx, r1']
    refine hK' _ _ (hK v' w' (h5 w' _ v'.ownBlock (h3 ▸ r3) ⟨r2, rfl⟩ ?_) ((World.grownBy_alloc w _ _).trans r3) ?_)
    · rcases r4 with hat | hat
      · exact .inl (hat.trans h3)
      · exact .inr (fun k hk => by rw [hat] at hk; cases hk; exact Nat.le_refl _)
    · rcases r4 with hat | hat
      · exact .inl hat
      · exact .inr (by rw [hat]; simp)

end
/-! marks -/
def pMark (D : Nat) : Pc := pBlk D (.deferred (some []))
theorem SL.addMark {B C D : Nat} {w0 w : World} {L : List Pc} (h : SL B w0 w L) (hL : ∀ p ∈ L, p.okT C) (hB : B ≤ C) (hC : C ≤ D) (hD : w.heap[D]? = some (.deferred (some []))) : SL B w0 w (pMark D :: L) := by
  obtain ⟨hb, hz, f, h1, h2⟩ := h
  have hne : ∀ j, j < L.length → f j ≠ some D := fun j hj e => by
    have h6 := (h1 j L[j] (List.getElem?_eq_getElem hj)).1
    rw [e] at h6
    rcases hL L[j] (List.getElem_mem hj) w D h6 with h7 | ⟨o', h7, h8⟩
    · omega
    · rw [hD] at h7; cases h7; cases h8
  refine ⟨hb, hz, fun i => match i with | 0 => some D | i + 1 => f i, ?_, ?_⟩
  · intro i p hi
    cases i with
    | zero => simp at hi; subst hi; exact ⟨⟨rfl, hD⟩, fun k e => by cases e; omega⟩
    | succ i => exact h1 i p (by simpa using hi)
  · intro i j k hij hj hi hjk
    cases j with
    | zero => omega
    | succ j =>
      cases i with
      | zero => cases hi; exact hne j (by simpa using hj) hjk
      | succ i => exact h2 i j k (by omega) (by simpa using hj) hi hjk
theorem SL.leave {P : Program} {F : Fence} {n B : Nat} {fn : Func} {tmps : Array Value} {R : Ending → World → Prop} {w0 : World} {L : List Pc} (hR : ∀ W, SL B w0 W L → ∃ v, (results fn tmps).run P W = .ok v W ∧ R (.returned v) W) :
    ∀ (Ds : List Nat) (w : World), SL B w0 w (Ds.map pMark ++ L) → LeavesInM F n P fn tmps R (Ds.map markOf) .returning w
  | [], w, h => by
    obtain ⟨v, h1, h2⟩ := hR w h
    exact ⟨v, h1, h2⟩
  | D :: Ds, w, h => by
    have hd := (h.blk 0 rfl).1
    refine ⟨by simp, .inl ⟨D, w.putObj D (.deferred none), rfl, run_takeDeferred hd, ?_⟩⟩
    refine SL.leave hR Ds _ ?_
    obtain ⟨b, ⟨rfl, h1⟩, h3, h4⟩ := h.upd 0 (p := pMark D) rfl
    have h5 := h4 (w.putObj D (.deferred none)) (pBlk D (.deferred none)) (some D) (grownBy_putObj' w D (.deferred none)) ⟨rfl, World.putObj_heap_same (Array.getElem?_eq_some_iff.1 h1).1⟩ (.inl rfl)
    exact h5.tail
theorem SL.leave' {P : Program} {F : Fence} {n B : Nat} {fn : Func} {tmps : Array Value} {R : Ending → World → Prop} {w0 w : World} {L : List Pc} {Ds : List Nat} (h : SL B w0 w (L ++ Ds.map pMark)) (hR : ∀ W, SL B w0 W L → ∃ v, (results fn tmps).run P W = .ok v W ∧ R (.returned v) W) :
    LeavesInM F n P fn tmps R (Ds.map markOf) .returning w := SL.leave hR Ds w h.comm
end Go.Proofs.YtmomeggnegcheaaGreatDoor
