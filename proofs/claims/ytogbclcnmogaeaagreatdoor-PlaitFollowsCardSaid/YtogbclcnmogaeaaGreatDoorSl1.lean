/- Plain laws on what a call owns: a list of pieces of memory, each in a block of its own. Conditions: none beyond each statement's own. -/
import Derived.Test.YtogbclcnmogaeaaGreatDoorTyA
import Derived.Test.YtogbclcnmogaeaaGreatDoorPlA
set_option linter.all false
namespace Go.Proofs.YtogbclcnmogaeaaGreatDoor
open Go.RowKit
set_option maxRecDepth 100000

/-- what is known of one block (none: of no block). -/
structure Pc where
  P : World → Option Nat → Prop
  lt : ∀ w k, P w (some k) → k < w.heap.size
  loc : ∀ w w' row b, P w b → w.grownBy w' row → (∀ k, b = some k → row ≠ some k) → P w' b

/-- from w0 on, below block B nothing has turned, and these pieces are held, each in a block of its own from B on. -/
def SL (B : Nat) (w0 w : World) (L : List Pc) : Prop :=
  Below B w0 w ∧ B ≤ w.heap.size ∧ ∃ f : Nat → Option Nat, (∀ i p, L[i]? = some p → p.P w (f i) ∧ ∀ k, f i = some k → B ≤ k) ∧
    ∀ i j k, i < j → j < L.length → f i = some k → f j ≠ some k

theorem grown_of_below {w w' : World} (h : Below w.heap.size w w') : w.grownBy w' none := ⟨h.os, h.tape, h.output, h.size, fun k hk _ => h.block k hk⟩

section
variable {B : Nat} {w0 w w' : World} {L K : List Pc}
theorem SL.nil (w : World) : SL w.heap.size w w [] := ⟨Below.refl _ _, Nat.le_refl _, fun _ => none, fun i p h => by simp at h, fun i j k _ hj => by simp at hj⟩
theorem SL.b (h : SL B w0 w L) : Below B w0 w := h.1
theorem SL.z (h : SL B w0 w L) : B ≤ w.heap.size := h.2.1
theorem SL.grow (h : SL B w0 w L) (hg : w.grownBy w' none) : SL B w0 w' L := by
  obtain ⟨hb, hz, f, h1, h2⟩ := h
  refine ⟨hb.grown hg hz (fun k e => by cases e), Nat.le_trans hz hg.size, f, fun i p hi => ⟨p.loc _ _ _ _ (h1 i p hi).1 hg (fun k _ e => by cases e), (h1 i p hi).2⟩, h2⟩
theorem SL.mono (h : SL B w0 w L) (hb : Below w.heap.size w w') : SL B w0 w' L := h.grow (grown_of_below hb)
theorem SL.al (h : SL B w0 w L) (o : Obj) : SL B w0 (w.alloc o) L := h.grow (World.grownBy_alloc w o none)
theorem SL.drew (h : SL B w0 w L) : SL B w0 w.drew L := h.mono (Below.refl _ _).drew

theorem SL.new (h : SL B w0 w L) (p : Pc) {b : Option Nat} (hg : w.grownBy w' none) (hp : p.P w' b) (hb : ∀ k, b = some k → w.heap.size ≤ k) : SL B w0 w' (p :: L) := by
  have h' := h.grow hg
  have hz0 := h.z
  obtain ⟨_, _, f0, g1, g2⟩ := h
  obtain ⟨hb0, hz, _⟩ := h'
  refine ⟨hb0, hz, fun i => match i with | 0 => b | i + 1 => f0 i, ?_, ?_⟩
  · intro i q hi
    cases i with
    | zero => simp at hi; subst hi; exact ⟨hp, fun k e => Nat.le_trans hz0 (hb k e)⟩
    | succ i =>
      have := g1 i q (by simpa using hi)
      exact ⟨q.loc _ _ _ _ this.1 hg (fun k _ e => by cases e), this.2⟩
  · intro i j k hij hj hi hjk
    cases j with
    | zero => omega
    | succ j =>
      cases i with
      | zero =>
        have hj' : j < L.length := by simpa using hj
        have := (g1 j L[j] (List.getElem?_eq_getElem hj')).1
        have e : f0 j = some k := hjk
        rw [e] at this
        have l1 := L[j].lt _ _ this
        have l2 := hb k hi
        omega
      | succ i => exact g2 i j k (by omega) (by simpa using hj) hi hjk

theorem SL.upd (h : SL B w0 w L) (i : Nat) {p : Pc} (hi : L[i]? = some p) : ∃ b, p.P w b ∧ (∀ k, b = some k → B ≤ k) ∧
    ∀ (w' : World) (q : Pc) (b' : Option Nat), w.grownBy w' b → q.P w' b' → (b' = b ∨ ∀ k, b' = some k → w.heap.size ≤ k) → SL B w0 w' (L.set i q) := by
  obtain ⟨hb, hz, f, h1, h2⟩ := h
  have hil : i < L.length := (List.getElem?_eq_some_iff.1 hi).1
  refine ⟨f i, (h1 i p hi).1, (h1 i p hi).2, fun w' q b' hg hq hb' => ?_⟩
  have fresh : ∀ j k, j < L.length → f j = some k → k < w.heap.size := fun j k hj e => by
    have := (h1 j L[j] (List.getElem?_eq_getElem hj)).1
    rw [e] at this
    exact L[j].lt _ _ this
  refine ⟨hb.grown hg hz (fun k e => (h1 i p hi).2 k e), Nat.le_trans hz hg.size, fun j => if j = i then b' else f j, ?_, ?_⟩
  · intro j r hj
    by_cases e : j = i
    · subst e
      rw [List.getElem?_set_self hil] at hj
      cases hj
      simp only [if_true]
      refine ⟨hq, fun k e => ?_⟩
      rcases hb' with rfl | hb'
      · exact (h1 j p hi).2 k e
      · exact Nat.le_trans hz (hb' k e)
    · rw [List.getElem?_set_ne (fun e' => e e'.symm)] at hj
      simp only [if_neg e]
      refine ⟨r.loc _ _ _ _ (h1 j r hj).1 hg (fun k hk hrow => ?_), (h1 j r hj).2⟩
      have hjl : j < L.length := (List.getElem?_eq_some_iff.1 hj).1
      rcases Nat.lt_or_gt_of_ne e with l | l
      · exact h2 j i k l hil hk hrow
      · exact h2 i j k l hjl hrow hk
  · intro j m k hjm hm hj hmk
    rw [List.length_set] at hm
    by_cases e1 : j = i
    · subst e1
      have e2 : m ≠ j := by omega
      simp only [if_true] at hj
      simp only [if_neg e2] at hmk
      rcases hb' with rfl | hb'
      · exact h2 j m k hjm hm hj hmk
      · have := hb' k hj; have := fresh m k hm hmk; omega
    · simp only [if_neg e1] at hj
      by_cases e2 : m = i
      · subst e2
        simp only [if_true] at hmk
        rcases hb' with rfl | hb'
        · exact h2 j m k hjm hil hj hmk
        · have := hb' k hmk; have := fresh j k (by omega) hj; omega
      · simp only [if_neg e2] at hmk
        exact h2 j m k hjm hm hj hmk

theorem SL.call (h : SL B w0 w L) (hk : SL w.heap.size w w' K) : SL B w0 w' (K ++ L) := by
  have h' := h.mono hk.b
  have hkb := hk.b
  have hz := h'.z
  have hz0 := h.z
  obtain ⟨_, _, f, h1, h2⟩ := h
  obtain ⟨_, _, g, g1, g2⟩ := hk
  have fresh : ∀ j k, j < L.length → f j = some k → k < w.heap.size := fun j k hj e => by
    have := (h1 j L[j] (List.getElem?_eq_getElem hj)).1
    rw [e] at this
    exact L[j].lt _ _ this
  obtain ⟨hb0, _, _⟩ := h'
  refine ⟨hb0, hz, fun i => if i < K.length then g i else f (i - K.length), ?_, ?_⟩
  · intro i p hi
    by_cases e : i < K.length
    · simp only [if_pos e]
      rw [List.getElem?_append_left e] at hi
      exact ⟨(g1 i p hi).1, fun k hk => Nat.le_trans hz0 ((g1 i p hi).2 k hk)⟩
    · simp only [if_neg e]
      rw [List.getElem?_append_right (by omega)] at hi
      exact ⟨p.loc _ _ _ _ (h1 _ p hi).1 (grown_of_below hkb) (fun k _ e => by cases e), (h1 _ p hi).2⟩
  · intro i j k hij hj hi hjk
    rw [List.length_append] at hj
    by_cases e1 : i < K.length
    · simp only [if_pos e1] at hi
      by_cases e2 : j < K.length
      · simp only [if_pos e2] at hjk; exact g2 i j k hij e2 hi hjk
      · simp only [if_neg e2] at hjk
        have a1 := (g1 i K[i] (List.getElem?_eq_getElem e1)).2 k hi
        have a2 := fresh _ k (by omega) hjk
        omega
    · have e2 : ¬ j < K.length := by omega
      simp only [if_neg e1] at hi
      simp only [if_neg e2] at hjk
      exact h2 _ _ k (by omega) (by omega) hi hjk

/-- some of the pieces, in another order. -/
theorem SL.pick (h : SL B w0 w L) (is : List Nat) (hn : is.Nodup) (K : List Pc) (hK : is.map (fun i => L[i]?) = K.map some) : SL B w0 w K := by
  obtain ⟨hb, hz, f, h1, h2⟩ := h
  have hlen : is.length = K.length := by have := congrArg List.length hK; simpa using this
  have hat : ∀ j (hj : j < K.length), ∃ i, is[j]? = some i ∧ L[i]? = some K[j] := fun j hj => by
    have hj' : j < is.length := by omega
    refine ⟨is[j], List.getElem?_eq_getElem hj', ?_⟩
    have := congrArg (fun l : List (Option Pc) => l[j]?) hK
    simpa [hj, hj'] using this
  refine ⟨hb, hz, fun j => (is[j]?).bind f, ?_, ?_⟩
  · intro j p hj
    have hjl : j < K.length := (List.getElem?_eq_some_iff.1 hj).1
    obtain ⟨i, e1, e2⟩ := hat j hjl
    have e3 : K[j] = p := by have := hj; rw [List.getElem?_eq_getElem hjl] at this; simpa using this
    rw [e3] at e2
    simp only [e1, Option.bind_some]
    exact h1 i p e2
  · intro i j k hij hj hi hjk
    obtain ⟨i', e1, e2⟩ := hat i (by omega)
    obtain ⟨j', e3, e4⟩ := hat j hj
    simp only [e1, Option.bind_some] at hi
    simp only [e3, Option.bind_some] at hjk
    have hil : i' < L.length := (List.getElem?_eq_some_iff.1 e2).1
    have hjl : j' < L.length := (List.getElem?_eq_some_iff.1 e4).1
    have hne : i' ≠ j' := by
      have a := (List.getElem?_eq_some_iff.1 e1)
      have b := (List.getElem?_eq_some_iff.1 e3)
      obtain ⟨a1, a2⟩ := a
      obtain ⟨b1, b2⟩ := b
      have := (List.pairwise_iff_getElem.1 hn) i j a1 b1 hij
      rw [a2, b2] at this
      exact this
    rcases Nat.lt_or_gt_of_ne hne with l | l
    · exact h2 i' j' k l hjl hi hjk
    · exact h2 j' i' k l hil hjk hi
theorem SL.tail {p : Pc} (h : SL B w0 w (p :: L)) : SL B w0 w L := by
  obtain ⟨hb, hz, f, h1, h2⟩ := h
  exact ⟨hb, hz, fun i => f (i + 1), fun i p hi => h1 (i + 1) p (by simpa using hi), fun i j k hij hj => h2 (i + 1) (j + 1) k (by omega) (by simpa using hj)⟩
theorem SL.empty (h : SL B w0 w L) : SL B w0 w [] := ⟨h.1, h.2.1, fun _ => .none, fun i p h => by simp at h, fun i j k _ hj => by simp at hj⟩
theorem SL.one (h : SL B w0 w L) (i : Nat) {p : Pc} (hi : L[i]? = some p) : SL B w0 w [p] := h.pick [i] (by simp) [p] (by simp [hi])
theorem SL.of_below (hb : Below w.heap.size w w') : SL w.heap.size w w' [] := (SL.nil w).mono hb
end

/-! owned slices -/
theorem Own.rebase {α : Type} {c : α → Value} {sz B B' : Nat} {e : TypeId} {w : World} {v : Value} {l : List α} (h : Own c sz B e w v l) (hb : ∀ k, v.ownBlock = some k → B' ≤ k) : Own c sz B' e w v l := by
  obtain ⟨h1, h2, h3⟩ := h
  refine ⟨h1, h2, ?_⟩
  rcases h3 with h3 | ⟨g, cap, cur, hv, hB, r⟩
  · exact .inl h3
  · exact .inr ⟨g, cap, cur, hv, hb g (by rw [hv]; rfl), r⟩
def pOwn {α : Type} (c : α → Value) (sz : Nat) (e : TypeId) (v : Value) (l : List α) : Pc where
  P w b := Own c sz 0 e w v l ∧ v.ownBlock = b
  lt w k h := (h.1.lt k h.2).2
  loc w w' row b h hg hne := ⟨h.1.kept hg (by
    cases hb : v.ownBlock with
    | none => exact .inl rfl
    | some k => exact .inr (fun e => hne k (by rw [← h.2, hb]) e.symm)), h.2⟩
def pBlk (k : Nat) (o : Obj) : Pc where
  P w b := b = some k ∧ w.heap[k]? = some o
  lt w j h := by obtain ⟨h1, h2⟩ := h; cases h1; exact (Array.getElem?_eq_some_iff.1 h2).1
  loc w w' row b h hg hne := ⟨h.1, by rw [hg.block k (Array.getElem?_eq_some_iff.1 h.2).1 (fun e => hne k h.1 e.symm)]; exact h.2⟩
def pMapI (k n : Nat) (g : Int → Int) : Pc where
  P w b := b = some k ∧ MapI w k n g
  lt w j h := by obtain ⟨h1, h2⟩ := h; cases h1; exact h2.lt
  loc w w' row b h hg hne := ⟨h.1, h.2.kept hg (fun e => hne k h.1 e.symm)⟩
def pMapB (k n : Nat) (g : Int → Bool) : Pc where
  P w b := b = some k ∧ MapB w k n g
  lt w j h := by obtain ⟨h1, h2⟩ := h; cases h1; exact h2.lt
  loc w w' row b h hg hne := ⟨h.1, h.2.kept hg (fun e => hne k h.1 e.symm)⟩

section
variable {B : Nat} {w0 w w' : World} {L : List Pc} {α : Type} {c : α → Value} {sz : Nat} {e : TypeId} {v : Value} {l : List α}
theorem SL.own (h : SL B w0 w L) (i : Nat) (hi : L[i]? = some (pOwn c sz e v l)) : Own c sz B e w v l := by
  obtain ⟨b, ⟨h1, h2⟩, h3, _⟩ := h.upd i hi
  exact h1.rebase (fun k hk => h3 k (by rw [← h2, hk]))
theorem SL.slice (h : SL B w0 w L) (i : Nat) (hi : L[i]? = some (pOwn c sz e v l)) : ∃ a cap, v = .slice a l.length cap ∧ Reps c sz w a cap l := by
  obtain ⟨a, cap, h1, h2, _⟩ := (h.own i hi).reps
  exact ⟨a, cap, h1, h2⟩
/-- what an owned slice is, read. -/
theorem SL.rd {a : Option Addr} {n cap : Nat} (h : SL B w0 w L) (i : Nat) (hi : L[i]? = some (pOwn c sz e (.slice a n cap) l)) : Reps c sz w a cap l := by
  obtain ⟨a', cap', h1, h2⟩ := h.slice i hi
  simp only [Value.slice.injEq] at h1
  obtain ⟨rfl, _, rfl⟩ := h1
  exact h2
theorem SL.blk {k : Nat} {o : Obj} (h : SL B w0 w L) (i : Nat) (hi : L[i]? = some (pBlk k o)) : w.heap[k]? = some o ∧ B ≤ k ∧ k < w.heap.size := by
  obtain ⟨b, ⟨rfl, h1⟩, h3, _⟩ := h.upd i hi
  exact ⟨h1, h3 k rfl, (Array.getElem?_eq_some_iff.1 h1).1⟩
theorem SL.cell {k : Nat} {cs : Array Value} {fr : Nat × Nat} (h : SL B w0 w L) (i : Nat) (hi : L[i]? = some (pBlk k (.cells cs e fr))) (j : Nat) {u : Value} (hu : cs[j]? = some u) : w.cell? ⟨k, j, none⟩ = some u := by
  simp [World.cell?, (h.blk i hi).1, hu]
theorem SL.frozen {k : Nat} {cs : Array Value} (h : SL B w0 w L) (i : Nat) (hi : L[i]? = some (pBlk k (.cells cs e (0, 0)))) (j : Nat) : w.frozen? ⟨k, j, none⟩ = false := by
  simp [World.frozen?, (h.blk i hi).1]
theorem SL.mapI {k n : Nat} {g : Int → Int} (h : SL B w0 w L) (i : Nat) (hi : L[i]? = some (pMapI k n g)) : MapI w k n g := by
  obtain ⟨b, ⟨_, h1⟩, _⟩ := h.upd i hi
  exact h1
theorem SL.mapB {k n : Nat} {g : Int → Bool} (h : SL B w0 w L) (i : Nat) (hi : L[i]? = some (pMapB k n g)) : MapB w k n g := by
  obtain ⟨b, ⟨_, h1⟩, _⟩ := h.upd i hi
  exact h1
theorem SL.box (h : SL B w0 w L) (o : Obj) : SL B w0 (w.alloc o) (pBlk w.heap.size o :: L) :=
  h.new _ (b := some w.heap.size) (World.grownBy_alloc w o .none) ⟨rfl, heap_alloc_new w o⟩ (fun k e => by cases e; exact Nat.le_refl _)
theorem SL.nilS (h : SL B w0 w L) (hc : ∀ x : α, (c x).cells.size = sz) : SL B w0 w (pOwn c sz e (.slice .none 0 0) [] :: L) :=
  h.new _ (b := .none) (World.grownBy.refl w _) ⟨own_nil hc, rfl⟩ (fun k e => by cases e)
theorem SL.ofOwn (ho : Own c sz w.heap.size e w' v l) (hb : Below w.heap.size w w') : SL w.heap.size w w' [pOwn c sz e v l] :=
  (SL.nil w).new _ (grown_of_below hb) (b := v.ownBlock) ⟨ho.mono (Nat.zero_le _), rfl⟩ (fun k hk => (ho.lt k hk).1)
theorem SL.set {k : Nat} {cs : Array Value} {fr : Nat × Nat} (h : SL B w0 w L) (i : Nat) (hi : L[i]? = some (pBlk k (.cells cs e fr))) (j : Nat) (u : Value) :
    SL B w0 (w.setCell ⟨k, j, none⟩ u) (L.set i (pBlk k (.cells (cs.setIfInBounds j u) e fr))) := by
  obtain ⟨b, ⟨rfl, h1⟩, h3, h4⟩ := h.upd i hi
  refine h4 _ _ (some k) ⟨rfl, rfl, rfl, by simp [World.setCell], fun m hm hne => Below.heap_setCell _ _ _ _ (fun e => hne (by rw [e]))⟩ ⟨rfl, ?_⟩ (.inl rfl)
  simp [World.setCell, Array.getElem?_modify, h1]
end

/-! the operations -/
section
variable {P : Program} {ops : Array Oper} {rest : List Oper} {a : Act} {Q : Exit → Act → World → Prop} {α : Type} {c : α → Value} {sz bytes B : Nat} {t e : TypeId} {z v : Value} {w0 w : World} {L : List Pc} {l : List α}
theorem wpList_pushL {d : Option Tmp} {ty : TypeId} {p : String} {s x : Operand} {af : Array Edge} {H n cp : Nat} {y : α} {cs : Array Value} {fr : Nat × Nat} (i : Nat) (E : ETy P t e z sz bytes)
   (hs : a.eval s = v) (hx : a.eval x = .slice (some ⟨H, 0, none⟩) n cp) (hS : SL B w0 w L) (hi : L[i]? = some (pOwn c sz e v l)) (h1 : ∀ x, ∀ u ∈ (c x).cells.toList, u.oneCell' = true)
   (hn : n = 1 ∧ cp = 1) (hH : w.heap.size = H) (hcs : cs.toList = (c y).cells.toList) (hb : (l.length + 1) * bytes ≤ 140737488355328) (hm : l.length + 1 ≤ 9223372036854775807)
   (hK : ∀ v' w', SL B w0 w' (L.set i (pOwn c sz e v' (l ++ [y]))) → wpList P ops Q rest (a.put d v') w') :
   wpList P ops Q (⟨d, .call { callee := .builtin .append, args := #[s, x], argTypes := #[t, t] }, ty, p, af, none⟩ :: rest) a (w.alloc (.cells cs e fr)) := by
  obtain ⟨rfl, rfl⟩ := hn
  have hS' := hS.al (.cells cs e fr)
  have hc := (hS.own i hi).1
  obtain ⟨b, ⟨h2, h3⟩, h4, h5⟩ := hS'.upd i hi
  refine wpList_app (l := l) (ys := [y]) (ad := some ⟨H, 0, none⟩) (cap := 1) E hs hx h2 (reps_new1 hc y cs fr hH hcs) h1 (by simpa using hb) (Nat.zero_le _) (by simpa using hm) ?_
  intro v' w' ho hg hat
  refine hK v' w' (h5 w' _ v'.ownBlock (h3 ▸ hg) ⟨ho, rfl⟩ ?_)
  rcases hat with hat | hat
  · exact .inl (hat.trans h3)
  · exact .inr (fun k hk => by rw [hat] at hk; cases hk; exact Nat.le_refl _)
theorem wpList_appL {d : Option Tmp} {ty : TypeId} {p : String} {s x : Operand} {af : Array Edge} {ad : Option Addr} {n cap : Nat} {ys : List α} (i : Nat) (E : ETy P t e z sz bytes)
   (hs : a.eval s = v) (hx : a.eval x = .slice ad n cap) (hS : SL B w0 w L) (hi : L[i]? = some (pOwn c sz e v l)) (hR : Reps c sz w ad cap ys) (hn : n = ys.length) (h1 : ∀ x, ∀ u ∈ (c x).cells.toList, u.oneCell' = true)
   (hb : (l.length + ys.length) * bytes ≤ 140737488355328) (hm : l.length + ys.length ≤ 9223372036854775807)
   (hK : ∀ v' w', SL B w0 w' (L.set i (pOwn c sz e v' (l ++ ys))) → wpList P ops Q rest (a.put d v') w') :
   wpList P ops Q (⟨d, .call { callee := .builtin .append, args := #[s, x], argTypes := #[t, t] }, ty, p, af, none⟩ :: rest) a w := by
  subst hn
  obtain ⟨b, ⟨h2, h3⟩, h4, h5⟩ := hS.upd i hi
  refine wpList_app (l := l) (ys := ys) (ad := ad) (cap := cap) E hs hx h2 hR h1 hb (Nat.zero_le _) hm ?_
  intro v' w' ho hg hat
  refine hK v' w' (h5 w' _ v'.ownBlock (h3 ▸ hg) ⟨ho, rfl⟩ ?_)
  rcases hat with hat | hat
  · exact .inl (hat.trans h3)
  · exact .inr (fun k hk => by rw [hat] at hk; cases hk; exact Nat.le_refl _)
theorem wpList_storeL {d1 : Tmp} {ty1 ty2 : TypeId} {p1 p2 : String} {s x y : Operand} {af1 af2 : Array Edge} {ad : Option Addr} {n cap : Nat} {k : Int} {u : α} (i : Nat)
   (E : ETy P t e z 1 bytes) (hc1 : ∀ x, (c x).cells = #[c x]) (hsto : ∀ (u : α) (w : World) (p : Addr), (w.cell? p).isSome = true → w.frozen? p = false → (Instr.storeAt e (.pointer (some p)) (c u)).run P w = .ok () (w.setCell p (c u)))
   (hs : a.eval s = .slice ad n cap) (hx : a.eval x = .int .i64 k) (hS : SL B w0 w L) (hi : L[i]? = some (pOwn c 1 e (.slice ad n cap) l)) (h0 : 0 ≤ k) (hk : k < l.length)
   (hd : ∀ p, (a.put (some d1) p).eval (.tmp d1) = p) (hy : ∀ p, (a.put (some d1) p).eval y = c u)
   (hK : ∀ p w', SL B w0 w' (L.set i (pOwn c 1 e (.slice ad n cap) (l.set k.toNat u))) → wpList P ops Q rest ((a.put (some d1) p).put none undef) w') :
   wpList P ops Q (⟨some d1, .indexAddr t s x, ty1, p1, af1, none⟩ :: ⟨none, .store e (.tmp d1) y, ty2, p2, af2, none⟩ :: rest) a w := by
  obtain ⟨a', cap', e1, _⟩ := hS.slice i hi
  simp only [Value.slice.injEq] at e1
  obtain ⟨rfl, rfl, rfl⟩ := e1
  obtain ⟨b, ⟨h2, h3⟩, h4, h5⟩ := hS.upd i hi
  refine wpList_store (l := l) (B := 0) u E hc1 (hsto u) hs hx h2 h0 hk hd hy (fun p w' ho hg => hK p w' (h5 w' _ b (h3 ▸ hg) ⟨ho, h3⟩ (.inl rfl)))
theorem wpList_makeL {d : Option Tmp} {ty : TypeId} {p : String} {x y : Operand} {af : Array Edge} (n : Nat) (z0 : α)
    (E : ETy P t e (c z0) 1 bytes) (hc : ∀ x, (c x).cells = #[c x]) (hx : a.eval x = .int .i64 n) (hy : a.eval y = .int .i64 n) (hb : bytes * n ≤ 281474976710656) (hm : n ≤ 9223372036854775807) (hS : SL B w0 w L)
    (hK : ∀ ad w', SL B w0 w' (pOwn c 1 e (.slice ad n n) (List.replicate n z0) :: L) → wpList P ops Q rest (a.put d (.slice ad n n)) w') :
    wpList P ops Q (⟨d, .makeSlice t x y, ty, p, af, none⟩ :: rest) a w := by
  refine wpList_make1 n z0 E hc hx hy hb hm (Nat.le_refl _) (fun w' ho hg => hK _ w' ?_)
  exact hS.new _ (b := some w.heap.size) hg ⟨ho.mono (Nat.zero_le _), rfl⟩ (fun k e => by cases e; exact Nat.le_refl _)
end
section
variable {ops : Array Oper} {rest : List Oper} {a : Act} {Q : Exit → Act → World → Prop} {d : Option Tmp} {ty : TypeId} {p : String} {m x y : Operand} {af : Array Edge} {b n B : Nat} {k : Int} {w0 w : World} {L : List Pc}
theorem wpList_putBL {f : Int → Bool} {v : Bool} (i : Nat) (hm : a.eval m = .map (some b)) (hx : a.eval x = .int .i64 k) (hy : a.eval y = .bool v) (hS : SL B w0 w L) (hi : L[i]? = some (pMapB b n f)) (hk : InI k) (hn : n < maxLen)
   (hK : ∀ w', SL B w0 w' (L.set i (pMapB b (n + 1) (fun x => if x = k then v else f x))) → wpList Tryz.prog ops Q rest (a.put d undef) w') :
   wpList Tryz.prog ops Q (⟨d, .mapUpdate 147 m x y, ty, p, af, none⟩ :: rest) a w := by
  obtain ⟨o, ⟨rfl, h2⟩, h4, h5⟩ := hS.upd i hi
  exact wpList_putB hm hx hy h2 hk hn (fun w' h1 hg => hK w' (h5 w' _ (some b) hg ⟨rfl, h1⟩ (.inl rfl)))
theorem wpList_putIL {f : Int → Int} {v : Int} (i : Nat) (hm : a.eval m = .map (some b)) (hx : a.eval x = .int .i64 k) (hy : a.eval y = .int .i64 v) (hS : SL B w0 w L) (hi : L[i]? = some (pMapI b n f)) (hk : InI k) (hv : InI v) (hn : n < maxLen)
   (hK : ∀ w', SL B w0 w' (L.set i (pMapI b (n + 1) (fun x => if x = k then v else f x))) → wpList Tryz.prog ops Q rest (a.put d undef) w') :
   wpList Tryz.prog ops Q (⟨d, .mapUpdate 128 m x y, ty, p, af, none⟩ :: rest) a w := by
  obtain ⟨o, ⟨rfl, h2⟩, h4, h5⟩ := hS.upd i hi
  exact wpList_putI hm hx hy h2 hk hv hn (fun w' h1 hg => hK w' (h5 w' _ (some b) hg ⟨rfl, h1⟩ (.inl rfl)))
end
end Go.Proofs.YtogbclcnmogaeaaGreatDoor
