/- Plain laws on slices in memory for the walks: reading, appending, storing. Conditions: none beyond each statement's own. Plain laws on slices that a call owns: append, store, make. Conditions: none beyond each statement's own. -/
import Derived.WalkKit
import Derived.WalkSpells
import Derived.Maps.AppendAt
import Derived.Deep.Quiet
set_option linter.all false
/- Plain laws on slices in memory for the walks: reading, appending, storing. Conditions: none beyond each statement's own. -/
namespace Go.Proofs.YtmomeggnegcheaaGreatDoor
open Go.RowKit
theorem hid {p : Prop} (h : p) : Hid p := h

/-- A slice's cells, flattened. -/
def Sl (w : World) (a : Option Addr) (n cap : Nat) (xs : List Value) : Prop :=
  n ≤ cap ∧ cap ≤ maxLen ∧ (a = none → cap = 0) ∧ ∀ j u, xs[j]? = some u → ∃ b o, a = some ⟨b, o, none⟩ ∧ w.cell? ⟨b, o + j, none⟩ = some u

theorem Sl.below {w w' : World} {a n cap xs} (h : Sl w a n cap xs) (hb : Below w.heap.size w w') : Sl w' a n cap xs := by
  obtain ⟨h1, h2, h3, h5⟩ := h
  refine ⟨h1, h2, h3, fun j u hj => ?_⟩
  obtain ⟨b, o, e, hc⟩ := h5 j u hj
  exact ⟨b, o, e, (hb.cell (World.block_lt_of_cell? w _ hc)).trans hc⟩

theorem Sl.grown {w w' : World} {row : Option Nat} {a n cap xs} (h : Sl w a n cap xs) (hg : w.grownBy w' row) (hne : ∀ b, a = some b → some b.block ≠ row) : Sl w' a n cap xs := by
  obtain ⟨h1, h2, h3, h5⟩ := h
  refine ⟨h1, h2, h3, fun j u hj => ?_⟩
  obtain ⟨b, o, e, hc⟩ := h5 j u hj
  exact ⟨b, o, e, hg.cell hc (by simpa using hne _ e)⟩

/-- The type facts of a slice type t over an element type e. -/
structure ETy (P : Program) (t e : TypeId) (z : Value) (size bytes : Nat) : Prop where
  und : P.underlying t = some (.slice e)
  inf : (P.info? e).map (fun i => (i.zero, i.size, i.bytes)) = some (some z, size, bytes)
  cel : z.cells.size = size
  pos : 0 < size
def Flat (P : Program) (e : TypeId) : Prop := ∃ d, P.underlying e = some d ∧ (match d with | .struct _ | .array _ _ => true | _ => false) = false
def Aggr (P : Program) (e : TypeId) : Prop := ∃ d, P.underlying e = some d ∧ (match d with | .struct _ | .array _ _ => true | _ => false) = true

/-- The elements l, each read as the value c x of sz cells. -/
def Reps {α : Type} (c : α → Value) (sz : Nat) (w : World) (a : Option Addr) (cap : Nat) (l : List α) : Prop :=
  (∀ x, (c x).cells.size = sz) ∧ Sl w a l.length cap (l.flatMap fun x => (c x).cells.toList)
def Own {α : Type} (c : α → Value) (sz B : Nat) (e : TypeId) (w : World) (v : Value) (l : List α) : Prop :=
  (∀ x, (c x).cells.size = sz) ∧ w.ownsRow B e sz v l.length (l.flatMap fun x => (c x).cells.toList)
/-- The element at an index, d where there is none. -/
def atD {α : Type} (d : α) (l : List α) (i : Int) : α := l.getD i.toNat d

section
variable {α : Type} {c : α → Value} {sz : Nat} {w w' : World} {a : Option Addr} {cap : Nat} {l : List α}
theorem Reps.below (h : Reps c sz w a cap l) (hb : Below w.heap.size w w') : Reps c sz w' a cap l := ⟨h.1, h.2.below hb⟩
theorem Reps.grown {row : Option Nat} (h : Reps c sz w a cap l) (hg : w.grownBy w' row) (hne : ∀ b, a = some b → some b.block ≠ row) : Reps c sz w' a cap l := ⟨h.1, h.2.grown hg hne⟩
theorem Reps.alloc (h : Reps c sz w a cap l) (o : Obj) : Reps c sz (w.alloc o) a cap l := h.below ((Below.refl _ _).alloc (Nat.le_refl _) _)
theorem Reps.drew (h : Reps c sz w a cap l) : Reps c sz w.drew a cap l := h
theorem Reps.le (h : Reps c sz w a cap l) : l.length ≤ cap := h.2.1
theorem Reps.max (h : Reps c sz w a cap l) : cap ≤ 9223372036854775807 := by have := h.2.2.1; unfold maxLen at this; omega
end

theorem bnext {W w w1 : World} (h : Below W.heap.size W w) (h1 : Below w.heap.size w w1) : Below W.heap.size W w1 := h.trans (h1.mono h.size)
theorem bal {W w : World} (h : Below W.heap.size W w) (o : Obj) : Below W.heap.size W (w.alloc o) := h.alloc h.size o

theorem Addr.add_z (b o k : Nat) : (⟨b, o, none⟩ : Addr).add k = ⟨b, o + k, none⟩ := by
  unfold Addr.add; split <;> simp_all

theorem flat_get {α : Type} (g : α → List Value) (sz : Nat) (hg : ∀ x, (g x).length = sz) (d : α) : ∀ (l : List α) (k j : Nat), k < l.length → j < sz → (l.flatMap g)[k * sz + j]? = (g (l.getD k d))[j]?
  | [], k, j, hk, _ => by simp at hk
  | x :: r, 0, j, _, hj => by
    have : j < (g x).length := by rw [hg]; exact hj
    simp [List.getElem?_append, this]
  | x :: r, k + 1, j, hk, hj => by
    have h1 : ¬ (k + 1) * sz + j < (g x).length := by rw [hg, Nat.add_mul]; omega
    have h2 : (k + 1) * sz + j - (g x).length = k * sz + j := by rw [hg, Nat.add_mul]; omega
    rw [List.flatMap_cons, List.getElem?_append, if_neg h1, h2, flat_get g sz hg d r k j (by simpa using hk) hj]
    simp

theorem flat_len {α : Type} (g : α → List Value) (sz : Nat) (hg : ∀ x, (g x).length = sz) : ∀ l : List α, (l.flatMap g).length = l.length * sz
  | [] => by simp
  | x :: r => by rw [List.flatMap_cons, List.length_append, hg, flat_len g sz hg r, List.length_cons, Nat.add_mul]; omega

theorem Reps.cells {α : Type} {c : α → Value} {sz : Nat} {w : World} {a : Option Addr} {cap : Nat} {l : List α} (h : Reps c sz w a cap l) (hp : 0 < sz) (d : α) (k : Nat) (hk : k < l.length) :
    ∃ b o, a = some ⟨b, o, none⟩ ∧ ∀ j u, (c (l.getD k d)).cells.toList[j]? = some u → w.cell? ⟨b, o + k * sz + j, none⟩ = some u := by
  have hg : ∀ x, ((c x).cells.toList).length = sz := fun x => by simpa using h.1 x
  have h0 : ∃ u, (c (l.getD k d)).cells.toList[0]? = some u := by
    have := hg (l.getD k d)
    exact ⟨_, List.getElem?_eq_getElem (by omega)⟩
  obtain ⟨u0, hu0⟩ := h0
  have e0 := flat_get (fun x => (c x).cells.toList) sz hg d l k 0 hk hp
  obtain ⟨b, o, rfl, _⟩ := h.2.2.2.2 _ u0 (e0.trans hu0)
  refine ⟨b, o, rfl, fun j u hu => ?_⟩
  have hj : j < sz := by
    have := (List.getElem?_eq_some_iff.1 hu).1
    rw [hg] at this; exact this
  have e := flat_get (fun x => (c x).cells.toList) sz hg d l k j hk hj
  obtain ⟨b', o', e', hc⟩ := h.2.2.2.2 _ u (e.trans hu)
  simp only [Option.some.injEq, Addr.mk.injEq, and_true] at e'
  obtain ⟨rfl, rfl⟩ := e'
  rw [Nat.add_assoc]; exact hc

theorem run_loadAt_cell {P : Program} (w : World) {e : TypeId} {a : Addr} {v : Value} (hu : Flat P e) (hc : w.cell? a = some v) :
   (Instr.loadAt e (.pointer (some a))).run P w = .ok v w := by
  obtain ⟨d, hu, hd⟩ := hu
  have hagg : (isAgg e).run P w = .ok false w := by
    unfold isAgg
    rw [Sem.run_bind, run_underlying hu w]
    cases d <;> simp_all
  simp [Instr.loadAt, Instr.sureAddr, loadVar, Sem.run_bind, hagg, hc]

theorem run_loadAt_agg {P : Program} (w : World) {e : TypeId} {a : Addr} {cs : List Value} {i : TypeInfo} (hu : Aggr P e)
   (hi : P.info? e = some i) (hs : i.size = cs.length) (hc : ∀ j v, cs[j]? = some v → w.cell? (a.add j) = some v) :
   (Instr.loadAt e (.pointer (some a))).run P w = .ok (.agg cs.toArray) w := by
  obtain ⟨d, hu, hd⟩ := hu
  have hagg : (isAgg e).run P w = .ok true w := by
    unfold isAgg
    rw [Sem.run_bind, run_underlying hu w]
    cases d <;> simp_all
  have hl := run_loadCells_list (P := P) w a cs hc
  simp [Instr.loadAt, Instr.sureAddr, loadVar, Sem.run_bind, hagg, sizeOf, typeInfo, hi, hs, hl]

theorem run_indexAt_sl {P : Program} (w : World) {t e : TypeId} {z : Value} {size bytes : Nat} {a : Addr} {n cap : Nat} {k : Int} (E : ETy P t e z size bytes) (h0 : 0 ≤ k) (hk : k < n) :
   (Instr.indexAt t (.slice (some a) n cap) (.int .i64 k)).run P w = .ok (.pointer (some (a.add (k.toNat * size)))) w := by
  obtain ⟨i, hi, _, hs, _⟩ := info_parts E.inf
  have he : P.elem t = e := by simp [Program.elem, E.und]
  rw [run_indexAt_slice _ _ _ _ _ _ _ (by rw [he]; exact E.und), if_pos ⟨h0, hk⟩, he]
  simp [sizeOf, typeInfo, hi, hs]

/-- indexAddr and load of an element of one cell. -/
theorem run_idx_flat {P : Program} {α : Type} {c : α → Value} {sz bytes : Nat} {t e : TypeId} {z : Value} {w : World} {a : Option Addr} {cap : Nat} {l : List α} (d : α) {k : Int}
   (E : ETy P t e z sz bytes) (hF : Flat P e) (hR : Reps c sz w a cap l) (hc : ∀ x, (c x).cells = #[c x]) (h0 : 0 ≤ k) (hlt : k < l.length) :
   ∃ p, (Instr.indexAt t (.slice a l.length cap) (.int .i64 k)).run P w = .ok (.pointer (some p)) w ∧ (Instr.loadAt e (.pointer (some p))).run P w = .ok (c (atD d l k)) w := by
  have hkl : k.toNat < l.length := by omega
  obtain ⟨b, o, rfl, hcs⟩ := hR.cells E.pos d k.toNat hkl
  refine ⟨_, run_indexAt_sl w E h0 hlt, run_loadAt_cell w hF ?_⟩
  rw [Addr.add_z]
  have := hcs 0 (c (atD d l k)) (by rw [show l.getD k.toNat d = atD d l k from rfl, hc]; rfl)
  exact this

/-- .. of a struct. -/
theorem run_idx_agg {P : Program} {α : Type} {c : α → Value} {sz bytes : Nat} {t e : TypeId} {z : Value} {w : World} {a : Option Addr} {cap : Nat} {l : List α} (d : α) {k : Int}
   (E : ETy P t e z sz bytes) (hF : Aggr P e) (hR : Reps c sz w a cap l) (hc : ∀ x, c x = .agg (c x).cells) (h0 : 0 ≤ k) (hlt : k < l.length) :
   ∃ p, (Instr.indexAt t (.slice a l.length cap) (.int .i64 k)).run P w = .ok (.pointer (some p)) w ∧ (Instr.loadAt e (.pointer (some p))).run P w = .ok (c (atD d l k)) w := by
  have hkl : k.toNat < l.length := by omega
  obtain ⟨b, o, rfl, hcs⟩ := hR.cells E.pos d k.toNat hkl
  obtain ⟨i, hi, _, hs, _⟩ := info_parts E.inf
  refine ⟨_, run_indexAt_sl w E h0 hlt, ?_⟩
  rw [run_loadAt_agg w hF hi (cs := (c (atD d l k)).cells.toList) (by rw [hs]; simpa using (hR.1 _).symm) ?_]
  · rw [Array.toArray_toList, ← hc]
  · intro j v hv
    rw [Addr.add_z, Addr.add_z]
    exact hcs j v hv

section
variable {P : Program} {ops : Array Oper} {rest : List Oper} {a : Act} {Q : Exit → Act → World → Prop} {α : Type} {c : α → Value} {sz bytes : Nat} {t e : TypeId} {z : Value} {ad : Option Addr} {cap : Nat} {l : List α} {k : Int}
  {d1 d2 : Tmp} {ty1 ty2 : TypeId} {p1 p2 : String} {s x : Operand} {af1 af2 : Array Edge}

theorem wpList_two (w : World) (v1 v2 : Value) {o1 o2 : Oper} (h1 : o1.guard = none) (h2 : o2.guard = none) (hr1 : (execOp a.eval o1).run P w = .ok (.value v1) w)
   (hr2 : (execOp (a.put o1.dst v1).eval o2).run P w = .ok (.value v2) w) (hK : wpList P ops Q rest ((a.put o1.dst v1).put o2.dst v2) w) : wpList P ops Q (o1 :: o2 :: rest) a w := by
  refine wpList_plain h1 fun K hK' => ?_
  unfold Oper.wp
  rw [hr1]
  refine hK' _ _ (wpList_plain h2 fun K2 hK2 => ?_)
  unfold Oper.wp
  rw [hr2]
  exact hK2 _ _ hK

theorem exec_two {w : World} {pa : Addr} {v : Value} (hd : ∀ p, (a.put (some d1) p).eval (.tmp d1) = p)
   (hs : a.eval s = .slice ad l.length cap) (hx : a.eval x = .int .i64 k) (hr1 : (Instr.indexAt t (.slice ad l.length cap) (.int .i64 k)).run P w = .ok (.pointer (some pa)) w) (hr2 : (Instr.loadAt e (.pointer (some pa))).run P w = .ok v w) :
   (execOp a.eval ⟨some d1, .indexAddr t s x, ty1, p1, af1, none⟩).run P w = .ok (.value (.pointer (some pa))) w ∧
   (execOp (a.put (some d1) (.pointer (some pa))).eval ⟨some d2, .load e (.tmp d1), ty2, p2, af2, none⟩).run P w = .ok (.value v) w := by
  constructor
  · simp [execOp, hs, hx, hr1, Result.andThen]
  · simp [execOp, hd, hr2, Result.andThen]

theorem wpList_idx (w : World) (d : α) (E : ETy P t e z sz bytes) (hF : Flat P e) (hc : ∀ x, (c x).cells = #[c x])
   (hs : a.eval s = .slice ad l.length cap) (hx : a.eval x = .int .i64 k) (hR : Reps c sz w ad cap l) (h0 : 0 ≤ k) (hlt : k < l.length) (hd : ∀ p, (a.put (some d1) p).eval (.tmp d1) = p)
   (hK : ∀ p, wpList P ops Q rest ((a.put (some d1) p).put (some d2) (c (atD d l k))) w) :
   wpList P ops Q (⟨some d1, .indexAddr t s x, ty1, p1, af1, none⟩ :: ⟨some d2, .load e (.tmp d1), ty2, p2, af2, none⟩ :: rest) a w := by
  obtain ⟨p, hr1, hr2⟩ := run_idx_flat d E hF hR hc h0 hlt
  obtain ⟨q1, q2⟩ := exec_two (p1 := p1) (p2 := p2) (af1 := af1) (af2 := af2) (ty1 := ty1) (ty2 := ty2) (d2 := d2) hd hs hx hr1 hr2
  exact wpList_two w _ _ rfl rfl q1 q2 (hK _)

theorem wpList_idxS (w : World) (d : α) (E : ETy P t e z sz bytes) (hF : Aggr P e) (hc : ∀ x, c x = .agg (c x).cells)
   (hs : a.eval s = .slice ad l.length cap) (hx : a.eval x = .int .i64 k) (hR : Reps c sz w ad cap l) (h0 : 0 ≤ k) (hlt : k < l.length) (hd : ∀ p, (a.put (some d1) p).eval (.tmp d1) = p)
   (hK : ∀ p, wpList P ops Q rest ((a.put (some d1) p).put (some d2) (c (atD d l k))) w) :
   wpList P ops Q (⟨some d1, .indexAddr t s x, ty1, p1, af1, none⟩ :: ⟨some d2, .load e (.tmp d1), ty2, p2, af2, none⟩ :: rest) a w := by
  obtain ⟨p, hr1, hr2⟩ := run_idx_agg d E hF hR hc h0 hlt
  obtain ⟨q1, q2⟩ := exec_two (p1 := p1) (p2 := p2) (af1 := af1) (af2 := af2) (ty1 := ty1) (ty2 := ty2) (d2 := d2) hd hs hx hr1 hr2
  exact wpList_two w _ _ rfl rfl q1 q2 (hK _)

/-! regions that draw their order and only read: in every world of the class 'Below w.heap.size w' -/
theorem wp_region_q {id : Nat} {w : World} {lo : List Oper} (hm : P.follows .mixedOrders = true) (hB : Region.lexB .any lo.toArray = true)
    (h : wpQuiet P lo.toArray (Below w.heap.size w) (fun a' => ∀ w', Below w.heap.size w w' → Q .normal a' w') lo a) : (Code.region id lo.toArray true).wp P Q a w :=
  wp_region_quiet (C := Below w.heap.size w) hm hB ((Below.refl _ _).drew) (by simpa using h)

theorem wpQ_one {C : World → Prop} {Qa : Act → Prop} {o : Oper} (v : Value) (hg : o.guard = none) (hr : ∀ w', (execOp a.eval o).run P w' = .ok (.value v) w') (h : wpQuiet P ops C Qa rest (a.put o.dst v)) : wpQuiet P ops C Qa (o :: rest) a := by
  unfold wpQuiet
  rw [if_pos (by simp [Region.wanted, hg])]
  refine ⟨v, fun w' _ => ?_, h⟩
  unfold Oper.quietAt
  rw [hr w']
  exact ⟨rfl, rfl⟩

theorem wpQ_oneG {C : World → Prop} {Qa : Act → Prop} {o : Oper} (v : Value) (hg : Region.wanted o (yielded ops a.tmps) = true) (hr : ∀ w', (execOp a.eval o).run P w' = .ok (.value v) w') (h : wpQuiet P ops C Qa rest (a.put o.dst v)) : wpQuiet P ops C Qa (o :: rest) a := by
  unfold wpQuiet
  rw [if_pos hg]
  refine ⟨v, fun w' _ => ?_, h⟩
  unfold Oper.quietAt
  rw [hr w']
  exact ⟨rfl, rfl⟩

theorem wpQ_skip {C : World → Prop} {Qa : Act → Prop} {o : Oper} (hg : Region.wanted o (yielded ops a.tmps) = false) (h : wpQuiet P ops C Qa rest (a.put o.dst undef)) : wpQuiet P ops C Qa (o :: rest) a := by
  unfold wpQuiet
  rw [if_neg (by simp [hg])]
  exact h

theorem wpQ_in {C : World → Prop} {Qa : Act → Prop} {o : Oper} (v : Value) (hg : o.guard = none) (hr : ∀ w', C w' → (execOp a.eval o).run P w' = .ok (.value v) w') (h : wpQuiet P ops C Qa rest (a.put o.dst v)) : wpQuiet P ops C Qa (o :: rest) a := by
  unfold wpQuiet
  rw [if_pos (by simp [Region.wanted, hg])]
  refine ⟨v, fun w' hw' => ?_, h⟩
  unfold Oper.quietAt
  rw [hr w' hw']
  exact ⟨rfl, rfl⟩

/-- The two operations' values are the same in every world of the class. -/
theorem wpQ_idx {Qa : Act → Prop} {W w : World} (d : α) (E : ETy P t e z sz bytes) (hF : Flat P e) (hc : ∀ x, (c x).cells = #[c x])
   (hs : a.eval s = .slice ad l.length cap) (hx : a.eval x = .int .i64 k) (hR : Reps c sz W ad cap l) (hW : Below W.heap.size W w) (h0 : 0 ≤ k) (hlt : k < l.length) (hd : ∀ p, (a.put (some d1) p).eval (.tmp d1) = p)
   (hK : ∀ p, wpQuiet P ops (Below w.heap.size w) Qa rest ((a.put (some d1) p).put (some d2) (c (atD d l k)))) :
   wpQuiet P ops (Below w.heap.size w) Qa (⟨some d1, .indexAddr t s x, ty1, p1, af1, none⟩ :: ⟨some d2, .load e (.tmp d1), ty2, p2, af2, none⟩ :: rest) a := by
  have hkl : k.toNat < l.length := by omega
  obtain ⟨b, o, rfl, hcs⟩ := hR.cells E.pos d k.toNat hkl
  have hcell := hcs 0 (c (atD d l k)) (by rw [show l.getD k.toNat d = atD d l k from rfl, hc]; rfl)
  refine wpQ_in (.pointer (some ((⟨b, o, none⟩ : Addr).add (k.toNat * sz)))) rfl (fun w' hw' => ?_) (wpQ_in (c (atD d l k)) rfl (fun w' hw' => ?_) (hK _))
  · have h1 := run_indexAt_sl (P := P) (a := ⟨b, o, none⟩) (cap := cap) w' E h0 hlt
    simp [execOp, hs, hx, h1, Result.andThen]
  · have h2 := run_loadAt_cell (P := P) w' (a := (⟨b, o, none⟩ : Addr).add (k.toNat * sz)) (v := c (atD d l k)) hF (by
      rw [Addr.add_z]
      have hb := bnext hW hw'
      exact (hb.cell (World.block_lt_of_cell? W _ hcell)).trans hcell)
    simp [execOp, hd, h2, Result.andThen]

/-- A call in such a region whose value is known and that changes nothing below. -/
theorem wpQ_call {Qa : Act → Prop} {w : World} {o : Oper} {f : FuncId} {args : Array Value} (v : Value) (hg : o.guard = none) (hr : ∀ w', (execOp a.eval o).run P w' = .ok (.enter f args) w')
   (hcall : ∀ w', Below w.heap.size w w' → Calls P f args w' fun e w'' => e = .returned v ∧ Below w'.heap.size w' w'')
   (h : wpQuiet P ops (Below w.heap.size w) Qa rest (a.put o.dst v)) : wpQuiet P ops (Below w.heap.size w) Qa (o :: rest) a := by
  unfold wpQuiet
  rw [if_pos (by simp [Region.wanted, hg])]
  refine ⟨v, fun w' hw' => ?_, h⟩
  unfold Oper.quietAt
  rw [hr w']
  exact ⟨rfl, (hcall w' hw').mono fun e w'' ⟨he, hb⟩ => ⟨he, bnext hw' hb⟩⟩
end
end Go.Proofs.YtmomeggnegcheaaGreatDoor

/- Plain laws on slices that a call owns: append, store, make. Conditions: none beyond each statement's own. -/
namespace Go.Proofs.YtmomeggnegcheaaGreatDoor
open Go.RowKit

section
variable {P : Program} {α : Type} {c : α → Value} {sz bytes B : Nat} {t e : TypeId} {z v : Value} {w w' : World} {l : List α}

theorem own_nil (hc : ∀ x, (c x).cells.size = sz) : Own c sz B e w (.slice none 0 0) [] := ⟨hc, World.ownsRow_nil _ _ _ _⟩
theorem Own.alloc (h : Own c sz B e w v l) (o : Obj) : Own c sz B e (w.alloc o) v l := ⟨h.1, h.2.alloc o⟩
theorem Own.drew (h : Own c sz B e w v l) : Own c sz B e w.drew v l := h
theorem Own.lt (h : Own c sz B e w v l) : ∀ k, v.ownBlock = some k → B ≤ k ∧ k < w.heap.size := h.2.lt
theorem Own.kept {row : Option Nat} (h : Own c sz B e w v l) (hg : w.grownBy w' row) (hne : v.ownBlock = none ∨ v.ownBlock ≠ row) : Own c sz B e w' v l := ⟨h.1, h.2.kept hg hne⟩
theorem Own.below (h : Own c sz B e w v l) (hb : Below w.heap.size w w') : Own c sz B e w' v l := by
  obtain ⟨h1, h2, h3⟩ := h
  refine ⟨h1, h2, ?_⟩
  rcases h3 with h3 | ⟨g, cap, cur, hv, hB, hg, r⟩
  · exact .inl h3
  · exact .inr ⟨g, cap, cur, hv, hB, by rw [hb.block g ((Array.getElem?_eq_some_iff.1 hg).1)]; exact hg, r⟩
theorem Own.mono (h : Own c sz B e w v l) {B' : Nat} (hB : B' ≤ B) : Own c sz B' e w v l := by
  obtain ⟨h1, h2, h3⟩ := h
  refine ⟨h1, h2, ?_⟩
  rcases h3 with h3 | ⟨g, cap, cur, hv, hg, r⟩
  · exact .inl h3
  · exact .inr ⟨g, cap, cur, hv, by omega, r⟩
/-- An owned slice can be read; where it lies. -/
theorem Own.reps (h : Own c sz B e w v l) : ∃ a cap, v = .slice a l.length cap ∧ Reps c sz w a cap l ∧ (∀ b, a = some b → B ≤ b.block ∧ b.block < w.heap.size) ∧ v.ownBlock = a.map (·.block) := by
  obtain ⟨h1, h2, h3⟩ := h
  rcases h3 with ⟨rfl, h3⟩ | ⟨g, cap, cur, rfl, hB, hg, hnc, hcm, hs, ht⟩
  · have : l = [] := List.eq_nil_of_length_eq_zero h3
    subst this
    exact ⟨none, 0, rfl, ⟨h1, Nat.le_refl _, Nat.zero_le _, fun _ => rfl, fun j u hu => by simp at hu⟩, (fun _ hb => by cases hb), rfl⟩
  · refine ⟨_, cap, rfl, ⟨h1, hnc, hcm, (fun hb => by cases hb), fun j u hu => ⟨g, 0, rfl, ?_⟩⟩, fun b hb => ?_, rfl⟩
    · rw [Nat.zero_add, cell_of_row w g j cur e (0, 0) hg]
      have hj : j < l.length * sz := by
        have := (List.getElem?_eq_some_iff.1 hu).1
        rw [h2] at this; exact this
      rw [← ht, List.getElem?_take, if_pos hj] at hu
      simpa using hu
    · cases hb; exact ⟨hB, (Array.getElem?_eq_some_iff.1 hg).1⟩

theorem below_own {W : World} (h : Below W.heap.size W w) (hg : w.grownBy w' v.ownBlock) (ho : Own c sz B e w v l) (hB : W.heap.size ≤ B) : Below W.heap.size W w' :=
  h.grown hg h.size (fun k hk => Nat.le_trans hB (ho.lt k hk).1)
theorem below_own' {B' : Nat} {W : World} (h : Below B' W w) (hg : w.grownBy w' v.ownBlock) (ho : Own c sz B e w v l) (hB : B' ≤ B) (hw : B' ≤ w.heap.size) : Below B' W w' :=
  h.grown hg hw (fun k hk => Nat.le_trans hB (ho.lt k hk).1)

/-- 'append(dst, src...)', src whatever it is. -/
theorem run_app (ty : TypeId) (E : ETy P t e z sz bytes) (hO : Own c sz B e w v l) {a : Option Addr} {cap : Nat} {ys : List α} (hR : Reps c sz w a cap ys) (h1 : ∀ x, ∀ u ∈ (c x).cells.toList, u.oneCell' = true)
   (hb : (l.length + ys.length) * bytes ≤ 140737488355328) (hm : l.length + ys.length ≤ 9223372036854775807) (hB : B ≤ w.heap.size) :
   ∃ v' w', (Builtin.append_ #[t, t] ty #[v, .slice a ys.length cap]).run P w = .ok v' w' ∧ Own c sz B e w' v' (l ++ ys) ∧ w.grownBy w' v.ownBlock ∧ (v'.ownBlock = v.ownBlock ∨ v'.ownBlock = some w.heap.size) := by
  obtain ⟨i, hi, hz, hs, hby⟩ := info_parts E.inf
  cases a with
  | none =>
    have hc0 := hR.2.2.2.1 rfl
    have hl := hR.le
    have : ys = [] := List.eq_nil_of_length_eq_zero (by omega)
    subst this; subst hc0
    exact ⟨v, w, run_append_owned_none w B t ty e i sz E.und hi v _ _ hO.2, by simpa using hO, World.grownBy.refl w _, .inl rfl⟩
  | some ad =>
    have hlen : (ys.flatMap fun x => (c x).cells.toList).length = ys.length * sz := flat_len _ sz (fun x => by simpa using hR.1 x) ys
    obtain ⟨v', w', r1, r2, r3, _, r5⟩ := run_append_own_at (P := P) w B t ty e i z sz bytes E.und hi hz hs hby E.cel E.pos v l.length _ hO.2 ad ys.length cap _ hlen
      (fun j u hu => by
        obtain ⟨b, o, e1, hc⟩ := hR.2.2.2.2 j u hu
        cases e1; rw [Addr.add_z]; exact hc)
      (fun u hu => by
        obtain ⟨x, _, hx⟩ := List.mem_flatMap.1 hu
        exact h1 x u hx)
      (by unfold maxLen; omega) hb hB
    exact ⟨v', w', r1, ⟨hO.1, by simpa using r2⟩, r3, r5⟩

theorem wpList_app {ops : Array Oper} {rest : List Oper} {a : Act} {Q : Exit → Act → World → Prop} {d : Option Tmp} {ty : TypeId} {p : String} {s x : Operand} {af : Array Edge} {ad : Option Addr} {cap : Nat} {ys : List α} (E : ETy P t e z sz bytes)
   (hs : a.eval s = v) (hx : a.eval x = .slice ad ys.length cap) (hO : Own c sz B e w v l) (hR : Reps c sz w ad cap ys) (h1 : ∀ x, ∀ u ∈ (c x).cells.toList, u.oneCell' = true)
   (hb : (l.length + ys.length) * bytes ≤ 140737488355328) (hB : B ≤ w.heap.size) (hm : l.length + ys.length ≤ 9223372036854775807)
   (hK : ∀ v' w', Own c sz B e w' v' (l ++ ys) → w.grownBy w' v.ownBlock → (v'.ownBlock = v.ownBlock ∨ v'.ownBlock = some w.heap.size) → wpList P ops Q rest (a.put d v') w') :
   wpList P ops Q (⟨d, .call { callee := .builtin .append, args := #[s, x], argTypes := #[t, t] }, ty, p, af, none⟩ :: rest) a w := by
  refine wpList_plain rfl fun K hK' => ?_
  obtain ⟨v', w', r1, r2, r3, r4⟩ := run_app ty E hO hR h1 hb hm hB
  unfold Oper.wp execOp
  simp only [resolve, invoke, builtin, Sem.run_bind, Sem.run_pure, Result.andThen_ok, List.map_toArray, List.map_cons, List.map_nil, hs, hx, r1]
  exact hK' _ _ (hK v' w' r2 r3 r4)

theorem sl_new (cs : Array Value) (n : Nat) (fr : Nat × Nat) (hn : n ≤ maxLen) : Sl (w.alloc (.cells cs e fr)) (some ⟨w.heap.size, 0, none⟩) n n cs.toList := by
  refine ⟨Nat.le_refl _, hn, (fun h => by cases h), fun j u hu => ⟨w.heap.size, 0, rfl, ?_⟩⟩
  rw [Nat.zero_add, cell_of_row _ w.heap.size j cs e fr (heap_alloc_new w _)]
  simpa using hu

theorem reps_new1 (hc : ∀ x, (c x).cells.size = sz) (y : α) (cs : Array Value) (fr : Nat × Nat) {H : Nat} (hH : w.heap.size = H) (h : cs.toList = (c y).cells.toList) : Reps c sz (w.alloc (.cells cs e fr)) (some ⟨H, 0, none⟩) 1 [y] := by
  subst hH
  exact ⟨hc, by simpa [h] using sl_new (w := w) (e := e) cs 1 fr (by decide)⟩
theorem reps_newN (hc : ∀ x, (c x).cells.size = sz) (ys : List α) (n : Nat) (hn : n = ys.length) (hm : n ≤ maxLen) (cs : Array Value) (fr : Nat × Nat) {H : Nat} (hH : w.heap.size = H) (h : cs.toList = ys.flatMap fun x => (c x).cells.toList) : Reps c sz (w.alloc (.cells cs e fr)) (some ⟨H, 0, none⟩) n ys := by
  subst hH
  subst hn
  exact ⟨hc, by rw [← h]; exact sl_new (w := w) (e := e) cs _ fr hm⟩

theorem set_flat1 (hc1 : ∀ x, (c x).cells = #[c x]) (x : α) : ∀ (l : List α) (k : Nat), (l.flatMap fun x => (c x).cells.toList).set k (c x) = (l.set k x).flatMap fun x => (c x).cells.toList := by
  intro l k
  have h : ∀ l : List α, (l.flatMap fun x => (c x).cells.toList) = l.map c := fun l => by
    induction l with
    | nil => rfl
    | cons y r ih => rw [List.flatMap_cons, ih, hc1]; simp
  rw [h, h, List.map_set]

/-- a store of an element of one cell into an owned slice. -/
theorem own_store {a : Option Addr} {cap : Nat} (hc1 : ∀ x, (c x).cells = #[c x]) (hO : Own c 1 B e w (.slice a l.length cap) l) (x : α) (k : Int) (h0 : 0 ≤ k) (hk : k < l.length) :
   ∃ g, a = some ⟨g, 0, none⟩ ∧ B ≤ g ∧ (w.cell? ⟨g, k.toNat, none⟩).isSome = true ∧ w.frozen? ⟨g, k.toNat, none⟩ = false ∧
     Own c 1 B e (w.setCell ⟨g, k.toNat, none⟩ (c x)) (.slice a l.length cap) (l.set k.toNat x) ∧ w.grownBy (w.setCell ⟨g, k.toNat, none⟩ (c x)) (some g) := by
  obtain ⟨h1, h2⟩ := hO
  rcases h2.2 with ⟨h3, h4⟩ | ⟨g, cap', cur, hv, hB, hg, r⟩
  · omega
  · simp only [Value.slice.injEq, true_and] at hv
    obtain ⟨rfl, rfl⟩ := hv
    have hs := h2.stored k.toNat (c x)
    have hca := h2.cellAt k.toNat (by omega)
    refine ⟨g, rfl, hB, ?_, h2.frozenAt _, ⟨h1, ?_⟩, hs.2⟩
    · rw [hca, List.getElem?_eq_getElem (by rw [h2.1]; omega)]; rfl
    · rw [List.length_set, ← set_flat1 hc1]; exact hs.1

theorem wpList_store {ops : Array Oper} {rest : List Oper} {a : Act} {Q : Exit → Act → World → Prop} {d1 : Tmp} {ty1 ty2 : TypeId} {p1 p2 : String} {s x y : Operand} {af1 af2 : Array Edge} {ad : Option Addr} {cap : Nat} {k : Int} (u : α)
   (E : ETy P t e z 1 bytes) (hc1 : ∀ x, (c x).cells = #[c x]) (hsto : ∀ (w : World) (p : Addr), (w.cell? p).isSome = true → w.frozen? p = false → (Instr.storeAt e (.pointer (some p)) (c u)).run P w = .ok () (w.setCell p (c u)))
   (hs : a.eval s = .slice ad l.length cap) (hx : a.eval x = .int .i64 k) (hO : Own c 1 B e w (.slice ad l.length cap) l) (h0 : 0 ≤ k) (hk : k < l.length)
   (hd : ∀ p, (a.put (some d1) p).eval (.tmp d1) = p) (hy : ∀ p, (a.put (some d1) p).eval y = c u)
   (hK : ∀ p w', Own c 1 B e w' (.slice ad l.length cap) (l.set k.toNat u) → w.grownBy w' (Value.slice ad l.length cap).ownBlock → wpList P ops Q rest ((a.put (some d1) p).put none undef) w') :
   wpList P ops Q (⟨some d1, .indexAddr t s x, ty1, p1, af1, none⟩ :: ⟨none, .store e (.tmp d1) y, ty2, p2, af2, none⟩ :: rest) a w := by
  obtain ⟨g, rfl, hB, hcell, hfr, hO', hg⟩ := own_store hc1 hO u k h0 hk
  refine wpList_plain rfl fun K hK' => ?_
  have h1 := run_indexAt_sl (P := P) (a := ⟨g, 0, none⟩) (cap := cap) w E h0 hk
  unfold Oper.wp
  simp only [execOp, hs, hx]
  simp [h1, Result.andThen]
  refine hK' _ _ (wpList_plain rfl fun K2 hK2 => ?_)
  unfold Oper.wp
  simp only [execOp, hd, hy]
  have h2 := hsto w ⟨g, k.toNat, none⟩ hcell hfr
  rw [Addr.add_z, Nat.zero_add]
  simp [h2, Result.andThen]
  exact hK2 _ _ (hK _ _ hO' hg)

theorem run_bounds {n cap i j : Nat} {lo hi : Option Value} (hlo : lo = some (.int .i64 i) ∨ lo = none ∧ i = 0) (hhi : hi = some (.int .i64 j) ∨ hi = none ∧ j = n) (hij : i ≤ j) (hj : j ≤ cap) :
   (Instr.sliceBounds true n cap lo hi none).run P w = .ok (i, j, cap) w := by
  have q0 : (0 : Int) ≤ (i : Int) := by omega
  have q1 : (0 : Int) ≤ (j : Int) := by omega
  have b1 : ∀ m : Nat, (m : Int) ≤ j ∨ True := fun _ => .inr trivial
  have r1 : ∀ c, (Instr.sliceBound (.int .i64 i) j c).run P w = .ok i w := fun c => by rw [run_sliceBound _ _ _ _ _ q0 (by omega)]; simp
  have r2 : ∀ c, (Instr.sliceBound (.int .i64 j) cap c).run P w = .ok j w := fun c => by rw [run_sliceBound _ _ _ _ _ q1 (by omega)]; simp
  rcases hlo with rfl | ⟨rfl, rfl⟩ <;> rcases hhi with rfl | ⟨rfl, rfl⟩ <;> simp [Instr.sliceBounds, r1, r2]

/-- 's[lo:hi]' of a readable slice. -/
theorem run_cut {a : Option Addr} {cap : Nat} (E : ETy P t e z sz bytes) (hR : Reps c sz w a cap l) (lo hi : Option Value) (i j : Nat) (hlo : lo = some (.int .i64 i) ∨ lo = none ∧ i = 0) (hhi : hi = some (.int .i64 j) ∨ hi = none ∧ j = l.length) (hij : i ≤ j) (hj : j ≤ l.length) :
   ∃ a', (Instr.sliceAt t (.slice a l.length cap) lo hi none).run P w = .ok (.slice a' (j - i) (cap - i)) w ∧ Reps c sz w a' (cap - i) ((l.take j).drop i) ∧ (∀ b, a' = some b → ∃ b0, a = some b0 ∧ b.block = b0.block) := by
  have hle := hR.le
  obtain ⟨inf, hinf, _, hs, _⟩ := info_parts E.inf
  have hlen : ((l.take j).drop i).length = j - i := by simp; omega
  refine ⟨if cap = i then a else a.map (·.add (i * sz)), ?_, ⟨hR.1, ?_⟩, ?_⟩
  · simp [Instr.sliceAt, run_underlying E.und, Instr.slice, run_bounds hlo hhi hij (Nat.le_trans hj hle), sizeOf, typeInfo, hinf, hs]
  · obtain ⟨h1, h2, h3, h4⟩ := hR.2
    have hg : ∀ x, ((c x).cells.toList).length = sz := fun x => by simpa using hR.1 x
    have hdrop : ∀ (l : List α) (i : Nat), ((l.drop i).flatMap fun x => (c x).cells.toList) = (l.flatMap fun x => (c x).cells.toList).drop (i * sz) := by
      intro l
      induction l with
      | nil => intro i; simp
      | cons x r ih =>
        intro i
        cases i with
        | zero => simp
        | succ i => rw [List.drop_succ_cons, ih, List.flatMap_cons, List.drop_append, (show (c x).cells.toList.drop ((i + 1) * sz) = [] from List.drop_eq_nil_of_le (by rw [hg, Nat.add_mul]; omega)), List.nil_append, hg]; congr 1; rw [Nat.add_mul]; omega
    have htake : ∀ (l : List α) (j : Nat) (q : Nat) (u : Value), ((l.take j).flatMap fun x => (c x).cells.toList)[q]? = some u → (l.flatMap fun x => (c x).cells.toList)[q]? = some u := by
      intro l j q u hu
      rw [← List.take_append_drop j l, List.flatMap_append, List.getElem?_append_left]
      · exact hu
      · exact (List.getElem?_eq_some_iff.1 hu).1
    refine ⟨by omega, by omega, fun hn => ?_, fun q u hu => ?_⟩
    · split at hn
      · omega
      · cases a with
        | none => have := h3 rfl; omega
        | some b => cases hn
    · rw [hdrop, List.getElem?_drop] at hu
      have hu' := htake l j _ u hu
      obtain ⟨b, o, rfl, hc⟩ := h4 _ u hu'
      have hlt := (List.getElem?_eq_some_iff.1 hu').1
      rw [flat_len _ sz hg] at hlt
      have hci : ¬ cap = i := by
        intro hh
        have : l.length ≤ i := by omega
        have := Nat.mul_le_mul_right sz this
        omega
      rw [if_neg hci]
      exact ⟨b, o + i * sz, by simp [Addr.add_z], by rw [Nat.add_assoc]; exact hc⟩
  · intro b hb
    split at hb
    · exact ⟨b, hb, rfl⟩
    · cases a with
      | none => cases hb
      | some b0 => cases hb; exact ⟨b0, rfl, by simp [Addr.add]; split <;> rfl⟩
end
end Go.Proofs.YtmomeggnegcheaaGreatDoor
