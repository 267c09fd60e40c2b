/- Plain laws on what a call owns, more: a slice that came in or is owned; marks of range-over-function statements; leaving. Conditions: none beyond each statement's own. -/
import Derived.Test.YtogbclcnmogaeaaGreatDoorSl1
import Derived.Test.YtogbclcnmogaeaaGreatDoorRf1
set_option linter.all false
namespace Go.Proofs.YtogbclcnmogaeaaGreatDoor
open Go.RowKit
set_option maxRecDepth 100000

section
variable {B : Nat} {w0 w w' : World} {L K : List Pc}
theorem SL.weaken (h : SL B w0 w L) (i : Nat) {p : Pc} (hi : L[i]? = some p) (q : Pc) (hq : ∀ b, p.P w b → q.P w b) : SL B w0 w (L.set i q) := by
  obtain ⟨b, h1, h3, h4⟩ := h.upd i hi
  exact h4 w q b (World.grownBy.refl w _) (hq b h1) (.inl rfl)
theorem SL.comm (h : SL B w0 w (K ++ L)) : SL B w0 w (L ++ K) := by
  obtain ⟨hb, hz, f, h1, h2⟩ := h
  refine ⟨hb, hz, fun i => if i < L.length then f (K.length + i) else f (i - L.length), ?_, ?_⟩
  · intro i p hi
    by_cases e : i < L.length
    · simp only [if_pos e]
      rw [List.getElem?_append_left e] at hi
      exact h1 _ p (by rw [List.getElem?_append_right (by omega)]; simpa using hi)
    · simp only [if_neg e]
      rw [List.getElem?_append_right (by omega)] at hi
      have hl := (List.getElem?_eq_some_iff.1 hi).1
      exact h1 _ p (by rw [List.getElem?_append_left hl]; exact hi)
  · intro i j k hij hj hi hjk
    rw [List.length_append] at hj
    by_cases e1 : i < L.length
    · simp only [if_pos e1] at hi
      by_cases e2 : j < L.length
      · simp only [if_pos e2] at hjk
        exact h2 _ _ k (by omega) (by rw [List.length_append]; omega) hi hjk
      · simp only [if_neg e2] at hjk
        exact h2 _ _ k (show j - L.length < K.length + i by omega) (by rw [List.length_append]; omega) hjk hi
    · have e2 : ¬ j < L.length := by omega
      simp only [if_neg e1] at hi
      simp only [if_neg e2] at hjk
      exact h2 _ _ k (by omega) (by rw [List.length_append]; omega) hi hjk

/-- the blocks of the pieces. -/
def SLok (w : World) (B : Nat) (f : Nat → Option Nat) (L : List Pc) : Prop := (∀ i p, L[i]? = some p → p.P w (f i) ∧ ∀ k, f i = some k → B ≤ k) ∧ ∀ i j k, i < j → j < L.length → f i = some k → f j ≠ some k
theorem SLok.cons {f : Nat → Option Nat} {p : Pc} (hp : p.P w (f 0) ∧ ∀ k, f 0 = some k → B ≤ k) (h : SLok w B (fun i => f (i + 1)) L) (hne : ∀ j k, j < L.length → f 0 = some k → f (j + 1) ≠ some k) : SLok w B f (p :: L) := by
  refine ⟨fun i q hi => ?_, fun i j k hij hj hi => ?_⟩
  · cases i with
    | zero => simp at hi; subst hi; exact hp
    | succ i => exact h.1 i q (by simpa using hi)
  · cases j with
    | zero => omega
    | succ j =>
      cases i with
      | zero => exact hne j k (by simpa using hj) hi
      | succ i => exact h.2 i j k (by omega) (by simpa using hj) hi
theorem SLok.uncons {f : Nat → Option Nat} {p : Pc} (h : SLok w B f (p :: L)) : (p.P w (f 0) ∧ ∀ k, f 0 = some k → B ≤ k) ∧ SLok w B (fun i => f (i + 1)) L ∧ ∀ j k, j < L.length → f 0 = some k → f (j + 1) ≠ some k :=
  ⟨h.1 0 p rfl, ⟨fun i q hi => h.1 (i + 1) q (by simpa using hi), fun i j k hij hj => h.2 (i + 1) (j + 1) k (by omega) (by simpa using hj)⟩, fun j k hj => h.2 0 (j + 1) k (by omega) (by simpa using hj)⟩
theorem SLok.perm : ∀ {L L' : List Pc}, L.Perm L' → ∀ f, SLok w B f L → ∃ f', SLok w B f' L' ∧ ∀ i k, i < L'.length → f' i = some k → ∃ j, j < L.length ∧ f j = some k := by
  intro L L' hp
  induction hp with
  | nil => intro f h; exact ⟨f, h, fun i k hi => by simp at hi⟩
  | cons x _ ih =>
    intro f h
    obtain ⟨h1, h2, h3⟩ := h.uncons
    obtain ⟨g, g1, g2⟩ := ih _ h2
    refine ⟨fun i => match i with | 0 => f 0 | i + 1 => g i, SLok.cons h1 g1 (fun j k hj hk e => ?_), fun i k hi hk => ?_⟩
    · obtain ⟨j', hj', e'⟩ := g2 j k hj e
      exact h3 j' k hj' hk e'
    · cases i with
      | zero => exact ⟨0, by simp, hk⟩
      | succ i =>
        obtain ⟨j', hj', e'⟩ := g2 i k (by simpa using hi) hk
        exact ⟨j' + 1, by simpa using hj', e'⟩
  | swap x y l =>
    intro f h
    obtain ⟨h1, h2, h3⟩ := h.uncons
    obtain ⟨h4, h5, h6⟩ := h2.uncons
    refine ⟨fun i => match i with | 0 => f 1 | 1 => f 0 | i + 2 => f (i + 2), SLok.cons h4 (SLok.cons h1 h5 (fun j k hj hk => ?_)) (fun j k hj hk e => ?_), fun i k hi hk => ?_⟩
    · exact h3 (j + 1) k (by simpa using hj) hk
    · cases j with
      | zero => exact h3 0 k (by simp) e hk
      | succ j => exact h6 j k (by simpa using hj) hk e
    · match i with
      | 0 => exact ⟨1, by simp, hk⟩
      | 1 => exact ⟨0, by simp, hk⟩
      | i + 2 => exact ⟨i + 2, by simpa using hi, hk⟩
  | trans _ _ ih1 ih2 =>
    intro f h
    obtain ⟨g, g1, g2⟩ := ih1 f h
    obtain ⟨g', g3, g4⟩ := ih2 g g1
    refine ⟨g', g3, fun i k hi hk => ?_⟩
    obtain ⟨j, hj, e⟩ := g4 i k hi hk
    exact g2 j k hj e
theorem SL.perm (h : SL B w0 w L) (hp : L.Perm K) : SL B w0 w K := by
  obtain ⟨hb, hz, f, h1⟩ := h
  obtain ⟨g, g1, _⟩ := SLok.perm hp f h1
  exact ⟨hb, hz, g, g1⟩
/-- two pieces lie in different blocks. -/
theorem SL.apart (h : SL B w0 w L) (i j : Nat) (hij : i ≠ j) {p q : Pc} (hi : L[i]? = some p) (hj : L[j]? = some q) {k k' : Nat} (hp : ∀ b, p.P w b → b = some k) (hq : ∀ b, q.P w b → b = some k') : k ≠ k' := by
  obtain ⟨_, _, f, h1, h2⟩ := h
  have e1 := hp _ (h1 i p hi).1
  have e2 := hq _ (h1 j q hj).1
  have hil := (List.getElem?_eq_some_iff.1 hi).1
  have hjl := (List.getElem?_eq_some_iff.1 hj).1
  rintro rfl
  rcases Nat.lt_or_gt_of_ne hij with l | l
  · exact h2 i j k l hjl e1 e2
  · exact h2 j i k l hil e2 e1

/-- some of the pieces of the front, in another order. -/
theorem SL.pickA {M : List Pc} (h : SL B w0 w (K ++ M)) (is : List Nat) (hn : is.Nodup) (hl : ∀ i ∈ is, i < K.length) (K' : List Pc) (hK : is.map (fun i => K[i]?) = K'.map some) : SL B w0 w (K' ++ M) := by
  refine h.pick (is ++ List.range' K.length M.length) ?_ _ ?_
  · refine List.nodup_append.2 ⟨hn, List.nodup_range' , ?_⟩
    intro a ha b hb e
    subst e
    have := hl a ha
    simp at hb
    omega
  · rw [List.map_append, List.map_append]
    congr 1
    · rw [← hK]
      refine List.map_congr_left fun i hi => ?_
      rw [List.getElem?_append_left (hl i hi)]
    · apply List.ext_getElem
      · simp
      · intro i h1 h2
        have h3 : i < M.length := by simpa using h2
        simp [h3]

/-- a piece that a turn of a block that is no cells, from B on, does not touch. -/
def Pc.okT (B : Nat) (p : Pc) : Prop := ∀ W k, p.P W (some k) → k < B ∨ ∃ o : Obj, W.heap[k]? = some o ∧ o.isCells = true
theorem SL.turn {C : Nat} {row : Option Nat} (h : SL B w0 w L) (hB : B ≤ C) (hL : ∀ p ∈ L, p.okT C) (hg : w.grownBy w' row) (hr : ∀ r, row = some r → C ≤ r ∧ ∃ o : Obj, w.heap[r]? = some o ∧ o.isCells = false) : SL B w0 w' L := by
  obtain ⟨hb, hz, f, h1, h2⟩ := h
  refine ⟨hb.grown hg hz (fun k e => Nat.le_trans hB (hr k e).1), Nat.le_trans hz hg.size, f, fun i p hi => ⟨p.loc _ _ _ _ (h1 i p hi).1 hg (fun k hk e => ?_), (h1 i p hi).2⟩, h2⟩
  obtain ⟨h3, o, h4, h5⟩ := hr k e
  have h6 := (h1 i p hi).1
  rw [hk] at h6
  rcases hL p (List.mem_of_getElem? hi) w k h6 with h7 | ⟨o', h7, h8⟩
  · omega
  · rw [h4] at h7; cases h7; rw [h5] at h8; cases h8
end

section
variable {α : Type} {c : α → Value} {sz : Nat} {e : TypeId} {v : Value} {l : List α} {B : Nat} {W0 w : World} {L : List Pc}
theorem own_isCells {C : Nat} (h : Own c sz C e w v l) {k : Nat} (hk : v.ownBlock = some k) : ∃ o : Obj, w.heap[k]? = some o ∧ o.isCells = true := by
  obtain ⟨_, _, h3⟩ := h
  rcases h3 with ⟨rfl, _⟩ | ⟨g, cap, cur, rfl, _, hg, _⟩
  · cases hk
  · cases hk; exact ⟨_, hg, rfl⟩
theorem okT_own : (pOwn c sz e v l).okT B := fun W k h => .inr (own_isCells h.1 h.2)
theorem okT_cells {k : Nat} {cs : Array Value} {fr : Nat × Nat} : (pBlk k (.cells cs e fr)).okT B := fun W j h => .inr ⟨_, by obtain ⟨h1, h2⟩ := h; cases h1; exact h2, rfl⟩
theorem okT_lt {k : Nat} {o : Obj} (h : k < B) : (pBlk k o).okT B := fun W j hj => by obtain ⟨h1, _⟩ := hj; cases h1; exact .inl h

/-- a slice that was there at W0, or an owned one. -/
def pSrc {α : Type} (c : α → Value) (sz : Nat) (e : TypeId) (W0 : World) (v : Value) (l : List α) : Pc where
  P w b := (b = none ∧ ∃ a cap, v = .slice a l.length cap ∧ Reps c sz W0 a cap l) ∨ (Own c sz 0 e w v l ∧ v.ownBlock = b)
  lt w k h := by
    rcases h with ⟨h, _⟩ | h
    · cases h
    · exact (h.1.lt k h.2).2
  loc w w' row b h hg hne := by
    rcases h with h | h
    · exact .inl h
    · exact .inr ((pOwn c sz e v l).loc w w' row b h hg hne)
theorem SL.src (h : SL W0.heap.size W0 w L) (i : Nat) (hi : L[i]? = some (pSrc c sz e W0 v l)) : ∃ a cap, v = .slice a l.length cap ∧ Reps c sz w a cap l := by
  obtain ⟨b, h1, _, _⟩ := h.upd i hi
  rcases h1 with ⟨_, a, cap, rfl, hR⟩ | h1
  · exact ⟨a, cap, rfl, hR.below h.b⟩
  · obtain ⟨a, cap, h2, h3, _⟩ := h1.1.reps
    exact ⟨a, cap, h2, h3⟩
theorem okT_src : (pSrc c sz e W0 v l).okT B := fun W k h => by
  rcases h with ⟨h, _⟩ | h
  · cases h
  · exact .inr (own_isCells h.1 h.2)
theorem SL.newSrc {a : Option Addr} {cap : Nat} (h : SL B W0 w L) (hR : Reps c sz W0 a cap l) : SL B W0 w (pSrc c sz e W0 (.slice a l.length cap) l :: L) :=
  h.new _ (b := none) (World.grownBy.refl w _) (.inl ⟨rfl, a, cap, rfl, hR⟩) (fun k e => by cases e)

theorem SL.setOwn {ad : Option Addr} {n cap : Nat} (h : SL B W0 w L) (hc1 : ∀ x, (c x).cells = #[c x]) (i : Nat) (hi : L[i]? = some (pOwn c 1 e (.slice ad n cap) l)) (k : Int) (h0 : 0 ≤ k) (hk : k < l.length) (x : α) :
    ∃ g, ad = some ⟨g, 0, none⟩ ∧ n = l.length ∧ w.cell? ⟨g, k.toNat, none⟩ = l[k.toNat]?.map c ∧ w.frozen? ⟨g, k.toNat, none⟩ = false ∧ SL B W0 (w.setCell ⟨g, k.toNat, none⟩ (c x)) (L.set i (pOwn c 1 e (.slice ad n cap) (l.set k.toNat x))) := by
  obtain ⟨a', cap', e1, hR⟩ := h.slice i hi
  simp only [Value.slice.injEq] at e1
  obtain ⟨rfl, rfl, rfl⟩ := e1
  obtain ⟨b, ⟨h2, h3⟩, h4, h5⟩ := h.upd i hi
  obtain ⟨g, rfl, _, hcs, hfr, ho, hg⟩ := own_store hc1 h2 x k h0 hk
  refine ⟨g, rfl, rfl, ?_, hfr, h5 _ _ (some g) (by rw [← h3]; exact hg) ⟨ho, rfl⟩ (.inl (by rw [← h3]; rfl))⟩
  have hkl : k.toNat < l.length := by omega
  obtain ⟨b1, o1, e1, hc⟩ := hR.cells (by decide) (l[k.toNat]) k.toNat hkl
  cases e1
  have := hc 0 (c (l.getD k.toNat l[k.toNat])) (by rw [hc1]; rfl)
  simpa [hkl] using this

theorem blk_at {k : Nat} {o : Obj} : ∀ b, (pBlk k o).P w b → b = some k := fun _ h => h.1
theorem own_at {g n cap : Nat} : ∀ b, (pOwn c sz e (.slice (some ⟨g, 0, none⟩) n cap) l).P w b → b = some g := fun _ h => h.2.symm

theorem SL.ne_own (h : SL B W0 w L) (i j : Nat) (hij : i ≠ j) {k : Nat} {o : Obj} (hi : L[i]? = some (pOwn c sz e v l)) (hj : L[j]? = some (pBlk k o)) : v.ownBlock ≠ some k := by
  intro hv
  exact h.apart i j hij hi hj (fun b hb => hb.2.symm.trans hv) blk_at rfl

theorem wpListIn_pushL {F : Fence} {n' : Nat} {P : Program} {ops : Array Oper} {rest : List Oper} {a : Act} {Q : Exit → Act → World → Prop} {bytes : Nat} {t : TypeId} {z : Value} {w0 : World} {d : Option Tmp} {ty : TypeId} {p : String} {s x : Operand} {af : Array Edge} {H n cp : Nat} {y : α} {cs : Array Value} {fr : Nat × Nat} (i : Nat) (E : ETy P t e z sz bytes)
   (hs : a.eval s = v) (hx : a.eval x = .slice (some ⟨H, 0, none⟩) n cp) (hS : SL B w0 w L) (hi : L[i]? = some (pOwn c sz e v l)) (h1 : ∀ x, ∀ u ∈ (c x).cells.toList, u.oneCell' = true)
   (hn : n = 1 ∧ cp = 1) (hH : w.heap.size = H) (hcs : cs.toList = (c y).cells.toList) (hb : (l.length + 1) * bytes ≤ 140737488355328) (hm : l.length + 1 ≤ 9223372036854775807)
   (hK : ∀ v' w', SL B w0 w' (L.set i (pOwn c sz e v' (l ++ [y]))) → w.grownBy w' v.ownBlock → (v'.ownBlock = v.ownBlock ∨ v'.ownBlock = some (w.heap.size + 1)) → wpListIn F n' P ops Q rest (a.put d v') w') :
   wpListIn F n' P ops Q (⟨d, .call { callee := .builtin .append, args := #[s, x], argTypes := #[t, t] }, ty, p, af, none⟩ :: rest) a (w.alloc (.cells cs e fr)) := by
  obtain ⟨rfl, rfl⟩ := hn
  have hS' := hS.al (.cells cs e fr)
  have hc := (hS.own i hi).1
  obtain ⟨b, ⟨h2, h3⟩, h4, h5⟩ := hS'.upd i hi
  refine wpListIn_plain rfl fun K hK' => ?_
  obtain ⟨v', w', r1, r2, r3, r4⟩ := run_app ty E h2 (reps_new1 (e := e) hc y cs fr hH hcs) h1 (by simpa using hb) (by simpa using hm) (Nat.zero_le _)
  unfold Oper.wpIn
  refine ⟨?_, ?_⟩
  · simp [Oper.about, resolve, Target.leads, Sem.run_pure]
  · rw [Oper.semAt_plain F _ _ (by intro c hc'; cases hc')]
    have r1' : (Builtin.append_ #[t, t] ty #[v, .slice (some ⟨H, 0, none⟩) 1 1]).run P (w.alloc (.cells cs e fr)) = .ok v' w' := r1
    simp only [execOp, resolve, invoke, builtin, Sem.run_bind, Sem.run_pure, Result.andThen_ok, List.map_toArray, List.map_cons, List.map_nil, hs, hx, r1']
    refine hK' _ _ (hK v' w' (h5 w' _ v'.ownBlock (h3 ▸ r3) ⟨r2, rfl⟩ ?_) ((World.grownBy_alloc w _ _).trans r3) ?_)
    · rcases r4 with hat | hat
      · exact .inl (hat.trans h3)
      · exact .inr (fun k hk => by rw [hat] at hk; cases hk; exact Nat.le_refl _)
    · rcases r4 with hat | hat
      · exact .inl hat
      · exact .inr (by rw [hat]; simp)

end
/-! marks -/
def pMark (D : Nat) : Pc := pBlk D (.deferred (some []))
theorem SL.addMark {B C D : Nat} {w0 w : World} {L : List Pc} (h : SL B w0 w L) (hL : ∀ p ∈ L, p.okT C) (hB : B ≤ C) (hC : C ≤ D) (hD : w.heap[D]? = some (.deferred (some []))) : SL B w0 w (pMark D :: L) := by
  obtain ⟨hb, hz, f, h1, h2⟩ := h
  have hne : ∀ j, j < L.length → f j ≠ some D := fun j hj e => by
    have h6 := (h1 j L[j] (List.getElem?_eq_getElem hj)).1
    rw [e] at h6
    rcases hL L[j] (List.getElem_mem hj) w D h6 with h7 | ⟨o', h7, h8⟩
    · omega
    · rw [hD] at h7; cases h7; cases h8
  refine ⟨hb, hz, fun i => match i with | 0 => some D | i + 1 => f i, ?_, ?_⟩
  · intro i p hi
    cases i with
    | zero => simp at hi; subst hi; exact ⟨⟨rfl, hD⟩, fun k e => by cases e; omega⟩
    | succ i => exact h1 i p (by simpa using hi)
  · intro i j k hij hj hi hjk
    cases j with
    | zero => omega
    | succ j =>
      cases i with
      | zero => cases hi; exact hne j (by simpa using hj) hjk
      | succ i => exact h2 i j k (by omega) (by simpa using hj) hi hjk
theorem SL.leave {P : Program} {F : Fence} {n B : Nat} {fn : Func} {tmps : Array Value} {R : Ending → World → Prop} {w0 : World} {L : List Pc} (hR : ∀ W, SL B w0 W L → ∃ v, (results fn tmps).run P W = .ok v W ∧ R (.returned v) W) :
    ∀ (Ds : List Nat) (w : World), SL B w0 w (Ds.map pMark ++ L) → LeavesInM F n P fn tmps R (Ds.map markOf) .returning w
  | [], w, h => by
    obtain ⟨v, h1, h2⟩ := hR w h
    exact ⟨v, h1, h2⟩
  | D :: Ds, w, h => by
    have hd := (h.blk 0 rfl).1
    refine ⟨by simp, .inl ⟨D, w.putObj D (.deferred none), rfl, run_takeDeferred hd, ?_⟩⟩
    refine SL.leave hR Ds _ ?_
    obtain ⟨b, ⟨rfl, h1⟩, h3, h4⟩ := h.upd 0 (p := pMark D) rfl
    have h5 := h4 (w.putObj D (.deferred none)) (pBlk D (.deferred none)) (some D) (grownBy_putObj' w D (.deferred none)) ⟨rfl, World.putObj_heap_same (Array.getElem?_eq_some_iff.1 h1).1⟩ (.inl rfl)
    exact h5.tail
theorem SL.leave' {P : Program} {F : Fence} {n B : Nat} {fn : Func} {tmps : Array Value} {R : Ending → World → Prop} {w0 w : World} {L : List Pc} {Ds : List Nat} (h : SL B w0 w (L ++ Ds.map pMark)) (hR : ∀ W, SL B w0 W L → ∃ v, (results fn tmps).run P W = .ok v W ∧ R (.returned v) W) :
    LeavesInM F n P fn tmps R (Ds.map markOf) .returning w := SL.leave hR Ds w h.comm
end Go.Proofs.YtogbclcnmogaeaaGreatDoor
