/- Contracts and plain facts that the claim uses (MemA TyA PlA QA PlB PnA SmA). Conditions: as each one states. -/
import Derived.WalkKit
import Derived.WalkSpells
import Derived.Maps.AppendAt
import Derived.Deep.Quiet
import Derived.Test.YtdeoogbiipodmaaGreatProg
import Derived.Maps.Own
import Derived.Maps.OwnSet
import Derived.Maps.Views
import Derived.WalkLawsBesides
import Derived.Laws.EntriesVeiled
import Derived.Deep.QuietTactic
import Derived.BigQuiet
import Derived.Deep.RegionHeld3
import Derived.Deep.AppendLies
import Derived.Deep.RegionHeldLaw
import Derived.Deep.RegionLaw
set_option linter.all false

namespace Go.Proofs.YtdeoogbiipodmaaGreat
theorem pA {α : Type _} {l : List α} {i : Nat} {a : α} : l.toArray.setIfInBounds i a = (l.set i a).toArray := List.setIfInBounds_toArray ..
theorem pB {α : Type _} {a b : α} {l : List α} : (a :: l).set 0 b = b :: l := List.set_cons_zero ..
theorem pC {α : Type _} {a b : α} {l : List α} {n : Nat} : (a :: l).set (n + 1) b = a :: l.set n b := List.set_cons_succ ..
theorem wU {p : Prop} (h : p := by with_unfolding_all rfl) : p := h
theorem oD {p : Prop} (h : p := by first | omega | (simp; done)) : p := h
theorem kR {p : Prop} (h : p := by kernel_rfl) : p := h
open Go.RowKit
theorem hid {p : Prop} (h : p) : Hid p := h

/-- A slice's cells, flattened. -/
def Sl (w : World) (a : Option Addr) (n cap : Nat) (xs : List Value) : Prop :=
 n ≤ cap ∧ cap ≤ maxLen ∧ (a = none → cap = 0) ∧ ∀ j u, xs[j]? = some u → ∃ b o, a = some ⟨b, o, none⟩ ∧ w.cell? ⟨b, o + j, none⟩ = some u

theorem Sl.below {w w' : World} {a n cap xs} (h : Sl w a n cap xs) (hb : Below w.heap.size w w') : Sl w' a n cap xs := by
 obtain ⟨h1, h2, h3, h5⟩ := h
 refine ⟨h1, h2, h3, fun j u hj => ?_⟩
 obtain ⟨b, o, e, hc⟩ := h5 j u hj
 exact ⟨b, o, e, (hb.cell (World.block_lt_of_cell? w _ hc)).trans hc⟩

theorem Sl.grown {w w' : World} {row : Option Nat} {a n cap xs} (h : Sl w a n cap xs) (hg : w.grownBy w' row) (hne : ∀ b, a = some b → some b.block ≠ row) : Sl w' a n cap xs := by
 obtain ⟨h1, h2, h3, h5⟩ := h
 refine ⟨h1, h2, h3, fun j u hj => ?_⟩
 obtain ⟨b, o, e, hc⟩ := h5 j u hj
 exact ⟨b, o, e, hg.cell hc (by simpa using hne _ e)⟩

/-- The type facts of a slice type t over an element type e. -/
structure ETy (P : Program) (t e : TypeId) (z : Value) (size bytes : Nat) : Prop where
 und : P.underlying t = some (.slice e)
 inf : (P.info? e).map (fun i => (i.zero, i.size, i.bytes)) = some (some z, size, bytes)
 cel : z.cells.size = size
 pos : 0 < size
def Flat (P : Program) (e : TypeId) : Prop := ∃ d, P.underlying e = some d ∧ (match d with | .struct _ | .array _ _ => true | _ => false) = false
def Aggr (P : Program) (e : TypeId) : Prop := ∃ d, P.underlying e = some d ∧ (match d with | .struct _ | .array _ _ => true | _ => false) = true

/-- The elements l, each read as the value c x of sz cells. -/
def Reps {α : Type} (c : α → Value) (sz : Nat) (w : World) (a : Option Addr) (cap : Nat) (l : List α) : Prop :=
 (∀ x, (c x).cells.size = sz) ∧ Sl w a l.length cap (l.flatMap fun x => (c x).cells.toList)
def Own {α : Type} (c : α → Value) (sz B : Nat) (e : TypeId) (w : World) (v : Value) (l : List α) : Prop :=
 (∀ x, (c x).cells.size = sz) ∧ w.ownsRow B e sz v l.length (l.flatMap fun x => (c x).cells.toList)
/-- The element at an index, d where there is none. -/
def atD {α : Type} (d : α) (l : List α) (i : Int) : α := l.getD i.toNat d

section
variable {α : Type} {c : α → Value} {sz : Nat} {w w' : World} {a : Option Addr} {cap : Nat} {l : List α}
theorem Reps.below (h : Reps c sz w a cap l) (hb : Below w.heap.size w w') : Reps c sz w' a cap l := ⟨h.1, h.2.below hb⟩
theorem Reps.grown {row : Option Nat} (h : Reps c sz w a cap l) (hg : w.grownBy w' row) (hne : ∀ b, a = some b → some b.block ≠ row) : Reps c sz w' a cap l := ⟨h.1, h.2.grown hg hne⟩
theorem Reps.alloc (h : Reps c sz w a cap l) (o : Obj) : Reps c sz (w.alloc o) a cap l := h.below ((Below.refl _ _).alloc (Nat.le_refl _) _)
theorem Reps.drew (h : Reps c sz w a cap l) : Reps c sz w.drew a cap l := h
theorem Reps.le (h : Reps c sz w a cap l) : l.length ≤ cap := h.2.1
theorem Reps.max (h : Reps c sz w a cap l) : cap ≤ 9223372036854775807 := by have := h.2.2.1; unfold maxLen at this; omega
end

theorem bnext {W w w1 : World} (h : Below W.heap.size W w) (h1 : Below w.heap.size w w1) : Below W.heap.size W w1 := h.trans (h1.mono h.size)
theorem bal {W w : World} (h : Below W.heap.size W w) (o : Obj) : Below W.heap.size W (w.alloc o) := h.alloc h.size o

theorem Addr.add_z (b o k : Nat) : (⟨b, o, none⟩ : Addr).add k = ⟨b, o + k, none⟩ := by
 unfold Addr.add; split <;> simp_all

theorem flat_get {α : Type} (g : α → List Value) (sz : Nat) (hg : ∀ x, (g x).length = sz) (d : α) : ∀ (l : List α) (k j : Nat), k < l.length → j < sz → (l.flatMap g)[k * sz + j]? = (g (l.getD k d))[j]?
 | [], k, j, hk, _ => by simp at hk
 | x :: r, 0, j, _, hj => by
   have : j < (g x).length := by rw [hg]; exact hj
   simp [List.getElem?_append, this]
 | x :: r, k + 1, j, hk, hj => by
   have h1 : ¬ (k + 1) * sz + j < (g x).length := by rw [hg, Nat.add_mul]; omega
   have h2 : (k + 1) * sz + j - (g x).length = k * sz + j := by rw [hg, Nat.add_mul]; omega
   rw [List.flatMap_cons, List.getElem?_append, if_neg h1, h2, flat_get g sz hg d r k j (by simpa using hk) hj]
   simp

theorem flat_len {α : Type} (g : α → List Value) (sz : Nat) (hg : ∀ x, (g x).length = sz) : ∀ l : List α, (l.flatMap g).length = l.length * sz
 | [] => by simp
 | x :: r => by rw [List.flatMap_cons, List.length_append, hg, flat_len g sz hg r, List.length_cons, Nat.add_mul]; omega

theorem Reps.cells {α : Type} {c : α → Value} {sz : Nat} {w : World} {a : Option Addr} {cap : Nat} {l : List α} (h : Reps c sz w a cap l) (hp : 0 < sz) (d : α) (k : Nat) (hk : k < l.length) :
  ∃ b o, a = some ⟨b, o, none⟩ ∧ ∀ j u, (c (l.getD k d)).cells.toList[j]? = some u → w.cell? ⟨b, o + k * sz + j, none⟩ = some u := by
 have hg : ∀ x, ((c x).cells.toList).length = sz := fun x => by simpa using h.1 x
 have h0 : ∃ u, (c (l.getD k d)).cells.toList[0]? = some u := by
  have := hg (l.getD k d)
  exact ⟨_, List.getElem?_eq_getElem (by omega)⟩
 obtain ⟨u0, hu0⟩ := h0
 have e0 := flat_get (fun x => (c x).cells.toList) sz hg d l k 0 hk hp
 obtain ⟨b, o, rfl, _⟩ := h.2.2.2.2 _ u0 (e0.trans hu0)
 refine ⟨b, o, rfl, fun j u hu => ?_⟩
 have hj : j < sz := by
  have := (List.getElem?_eq_some_iff.1 hu).1
  rw [hg] at this; exact this
 have e := flat_get (fun x => (c x).cells.toList) sz hg d l k j hk hj
 obtain ⟨b', o', e', hc⟩ := h.2.2.2.2 _ u (e.trans hu)
 simp only [Option.some.injEq, Addr.mk.injEq, and_true] at e'
 obtain ⟨rfl, rfl⟩ := e'
 rw [Nat.add_assoc]; exact hc

theorem run_loadAt_cell {P : Program} (w : World) {e : TypeId} {a : Addr} {v : Value} (hu : Flat P e) (hc : w.cell? a = some v) :
   (Instr.loadAt e (.pointer (some a))).run P w = .ok v w := by
 obtain ⟨d, hu, hd⟩ := hu
 have hagg : (isAgg e).run P w = .ok false w := by
  unfold isAgg
  rw [Sem.run_bind, run_underlying hu w]
  cases d <;> simp_all
 simp [Instr.loadAt, Instr.sureAddr, loadVar, Sem.run_bind, hagg, hc]

theorem run_loadAt_agg {P : Program} (w : World) {e : TypeId} {a : Addr} {cs : List Value} {i : TypeInfo} (hu : Aggr P e)
   (hi : P.info? e = some i) (hs : i.size = cs.length) (hc : ∀ j v, cs[j]? = some v → w.cell? (a.add j) = some v) :
   (Instr.loadAt e (.pointer (some a))).run P w = .ok (.agg cs.toArray) w := by
 obtain ⟨d, hu, hd⟩ := hu
 have hagg : (isAgg e).run P w = .ok true w := by
  unfold isAgg
  rw [Sem.run_bind, run_underlying hu w]
  cases d <;> simp_all
 have hl := run_loadCells_list (P := P) w a cs hc
 simp [Instr.loadAt, Instr.sureAddr, loadVar, Sem.run_bind, hagg, sizeOf, typeInfo, hi, hs, hl]

theorem run_indexAt_sl {P : Program} (w : World) {t e : TypeId} {z : Value} {size bytes : Nat} {a : Addr} {n cap : Nat} {k : Int} (E : ETy P t e z size bytes) (h0 : 0 ≤ k) (hk : k < n) :
   (Instr.indexAt t (.slice (some a) n cap) (.int .i64 k)).run P w = .ok (.pointer (some (a.add (k.toNat * size)))) w := by
 obtain ⟨i, hi, _, hs, _⟩ := info_parts E.inf
 have he : P.elem t = e := by simp [Program.elem, E.und]
 rw [run_indexAt_slice _ _ _ _ _ _ _ (by rw [he]; exact E.und), if_pos ⟨h0, hk⟩, he]
 simp [sizeOf, typeInfo, hi, hs]

/-- indexAddr and load of an element of one cell. -/
theorem run_idx_flat {P : Program} {α : Type} {c : α → Value} {sz bytes : Nat} {t e : TypeId} {z : Value} {w : World} {a : Option Addr} {cap : Nat} {l : List α} (d : α) {k : Int}
   (E : ETy P t e z sz bytes) (hF : Flat P e) (hR : Reps c sz w a cap l) (hc : ∀ x, (c x).cells = #[c x]) (h0 : 0 ≤ k) (hlt : k < l.length) :
   ∃ p, (Instr.indexAt t (.slice a l.length cap) (.int .i64 k)).run P w = .ok (.pointer (some p)) w ∧ (Instr.loadAt e (.pointer (some p))).run P w = .ok (c (atD d l k)) w := by
 have hkl : k.toNat < l.length := by omega
 obtain ⟨b, o, rfl, hcs⟩ := hR.cells E.pos d k.toNat hkl
 refine ⟨_, run_indexAt_sl w E h0 hlt, run_loadAt_cell w hF ?_⟩
 rw [Addr.add_z]
 have := hcs 0 (c (atD d l k)) (by rw [show l.getD k.toNat d = atD d l k from rfl, hc]; rfl)
 exact this

/-- .. of a struct. -/
theorem run_idx_agg {P : Program} {α : Type} {c : α → Value} {sz bytes : Nat} {t e : TypeId} {z : Value} {w : World} {a : Option Addr} {cap : Nat} {l : List α} (d : α) {k : Int}
   (E : ETy P t e z sz bytes) (hF : Aggr P e) (hR : Reps c sz w a cap l) (hc : ∀ x, c x = .agg (c x).cells) (h0 : 0 ≤ k) (hlt : k < l.length) :
   ∃ p, (Instr.indexAt t (.slice a l.length cap) (.int .i64 k)).run P w = .ok (.pointer (some p)) w ∧ (Instr.loadAt e (.pointer (some p))).run P w = .ok (c (atD d l k)) w := by
 have hkl : k.toNat < l.length := by omega
 obtain ⟨b, o, rfl, hcs⟩ := hR.cells E.pos d k.toNat hkl
 obtain ⟨i, hi, _, hs, _⟩ := info_parts E.inf
 refine ⟨_, run_indexAt_sl w E h0 hlt, ?_⟩
 rw [run_loadAt_agg w hF hi (cs := (c (atD d l k)).cells.toList) (by rw [hs]; simpa using (hR.1 _).symm) ?_]
 ·rw [Array.toArray_toList, ← hc]
 ·intro j v hv
  rw [Addr.add_z, Addr.add_z]
  exact hcs j v hv

section
variable {P : Program} {ops : Array Oper} {rest : List Oper} {a : Act} {Q : Exit → Act → World → Prop} {α : Type} {c : α → Value} {sz bytes : Nat} {t e : TypeId} {z : Value} {ad : Option Addr} {cap : Nat} {l : List α} {k : Int}
 {d1 d2 : Tmp} {ty1 ty2 : TypeId} {p1 p2 : String} {s x : Operand} {af1 af2 : Array Edge}

theorem wpList_two (w : World) (v1 v2 : Value) {o1 o2 : Oper} (h1 : o1.guard = none) (h2 : o2.guard = none) (hr1 : (execOp a.eval o1).run P w = .ok (.value v1) w)
   (hr2 : (execOp (a.put o1.dst v1).eval o2).run P w = .ok (.value v2) w) (hK : wpList P ops Q rest ((a.put o1.dst v1).put o2.dst v2) w) : wpList P ops Q (o1 :: o2 :: rest) a w := by
 refine wpList_plain h1 fun K hK' => ?_
 unfold Oper.wp
 rw [hr1]
 refine hK' _ _ (wpList_plain h2 fun K2 hK2 => ?_)
 unfold Oper.wp
 rw [hr2]
 exact hK2 _ _ hK

theorem exec_two {w : World} {pa : Addr} {v : Value} (hd : ∀ p, (a.put (some d1) p).eval (.tmp d1) = p)
   (hs : a.eval s = .slice ad l.length cap) (hx : a.eval x = .int .i64 k) (hr1 : (Instr.indexAt t (.slice ad l.length cap) (.int .i64 k)).run P w = .ok (.pointer (some pa)) w) (hr2 : (Instr.loadAt e (.pointer (some pa))).run P w = .ok v w) :
   (execOp a.eval ⟨some d1, .indexAddr t s x, ty1, p1, af1, none⟩).run P w = .ok (.value (.pointer (some pa))) w ∧
   (execOp (a.put (some d1) (.pointer (some pa))).eval ⟨some d2, .load e (.tmp d1), ty2, p2, af2, none⟩).run P w = .ok (.value v) w := by
 constructor
 ·simp [execOp, hs, hx, hr1, Result.andThen]
 ·simp [execOp, hd, hr2, Result.andThen]

theorem wpList_idx (w : World) (d : α) (E : ETy P t e z sz bytes) (hF : Flat P e) (hc : ∀ x, (c x).cells = #[c x])
   (hs : a.eval s = .slice ad l.length cap) (hx : a.eval x = .int .i64 k) (hR : Reps c sz w ad cap l) (h0 : 0 ≤ k) (hlt : k < l.length) (hd : ∀ p, (a.put (some d1) p).eval (.tmp d1) = p)
   (hK : ∀ p, wpList P ops Q rest ((a.put (some d1) p).put (some d2) (c (atD d l k))) w) :
   wpList P ops Q (⟨some d1, .indexAddr t s x, ty1, p1, af1, none⟩ :: ⟨some d2, .load e (.tmp d1), ty2, p2, af2, none⟩ :: rest) a w := by
 obtain ⟨p, hr1, hr2⟩ := run_idx_flat d E hF hR hc h0 hlt
 obtain ⟨q1, q2⟩ := exec_two (p1 := p1) (p2 := p2) (af1 := af1) (af2 := af2) (ty1 := ty1) (ty2 := ty2) (d2 := d2) hd hs hx hr1 hr2
 exact wpList_two w _ _ rfl rfl q1 q2 (hK _)

theorem wpList_idxS (w : World) (d : α) (E : ETy P t e z sz bytes) (hF : Aggr P e) (hc : ∀ x, c x = .agg (c x).cells)
   (hs : a.eval s = .slice ad l.length cap) (hx : a.eval x = .int .i64 k) (hR : Reps c sz w ad cap l) (h0 : 0 ≤ k) (hlt : k < l.length) (hd : ∀ p, (a.put (some d1) p).eval (.tmp d1) = p)
   (hK : ∀ p, wpList P ops Q rest ((a.put (some d1) p).put (some d2) (c (atD d l k))) w) :
   wpList P ops Q (⟨some d1, .indexAddr t s x, ty1, p1, af1, none⟩ :: ⟨some d2, .load e (.tmp d1), ty2, p2, af2, none⟩ :: rest) a w := by
 obtain ⟨p, hr1, hr2⟩ := run_idx_agg d E hF hR hc h0 hlt
 obtain ⟨q1, q2⟩ := exec_two (p1 := p1) (p2 := p2) (af1 := af1) (af2 := af2) (ty1 := ty1) (ty2 := ty2) (d2 := d2) hd hs hx hr1 hr2
 exact wpList_two w _ _ rfl rfl q1 q2 (hK _)

theorem wp_region_q {id : Nat} {w : World} {lo : List Oper} (hm : P.follows .mixedOrders = true) (hB : Region.lexB .any lo.toArray = true)
  (h : wpQuiet P lo.toArray (Below w.heap.size w) (fun a' => ∀ w', Below w.heap.size w w' → Q .normal a' w') lo a) : (Code.region id lo.toArray true).wp P Q a w :=
 wp_region_quiet (C := Below w.heap.size w) hm hB ((Below.refl _ _).drew) (by simpa using h)

theorem wpQ_oneG {C : World → Prop} {Qa : Act → Prop} {o : Oper} (v : Value) (hg : Region.wanted o (yielded ops a.tmps) = true) (hr : ∀ w', (execOp a.eval o).run P w' = .ok (.value v) w') (h : wpQuiet P ops C Qa rest (a.put o.dst v)) : wpQuiet P ops C Qa (o :: rest) a := by
 unfold wpQuiet
 rw [if_pos hg]
 refine ⟨v, fun w' _ => ?_, h⟩
 unfold Oper.quietAt
 rw [hr w']
 exact ⟨rfl, rfl⟩

theorem wpQ_skip {C : World → Prop} {Qa : Act → Prop} {o : Oper} (hg : Region.wanted o (yielded ops a.tmps) = false) (h : wpQuiet P ops C Qa rest (a.put o.dst undef)) : wpQuiet P ops C Qa (o :: rest) a := by
 unfold wpQuiet
 rw [if_neg (by simp [hg])]
 exact h

theorem wpQ_in {C : World → Prop} {Qa : Act → Prop} {o : Oper} (v : Value) (hg : o.guard = none) (hr : ∀ w', C w' → (execOp a.eval o).run P w' = .ok (.value v) w') (h : wpQuiet P ops C Qa rest (a.put o.dst v)) : wpQuiet P ops C Qa (o :: rest) a := by
 unfold wpQuiet
 rw [if_pos (by simp [Region.wanted, hg])]
 refine ⟨v, fun w' hw' => ?_, h⟩
 unfold Oper.quietAt
 rw [hr w' hw']
 exact ⟨rfl, rfl⟩

end
end Go.Proofs.YtdeoogbiipodmaaGreat

namespace Go.Proofs.YtdeoogbiipodmaaGreat
open Go.RowKit

section
variable {P : Program} {α : Type} {c : α → Value} {sz bytes B : Nat} {t e : TypeId} {z v : Value} {w w' : World} {l : List α}

theorem own_nil (hc : ∀ x, (c x).cells.size = sz) : Own c sz B e w (.slice none 0 0) [] := ⟨hc, World.ownsRow_nil _ _ _ _⟩
theorem Own.alloc (h : Own c sz B e w v l) (o : Obj) : Own c sz B e (w.alloc o) v l := ⟨h.1, h.2.alloc o⟩
theorem Own.drew (h : Own c sz B e w v l) : Own c sz B e w.drew v l := h
theorem Own.lt (h : Own c sz B e w v l) : ∀ k, v.ownBlock = some k → B ≤ k ∧ k < w.heap.size := h.2.lt
theorem Own.kept {row : Option Nat} (h : Own c sz B e w v l) (hg : w.grownBy w' row) (hne : v.ownBlock = none ∨ v.ownBlock ≠ row) : Own c sz B e w' v l := ⟨h.1, h.2.kept hg hne⟩
theorem Own.below (h : Own c sz B e w v l) (hb : Below w.heap.size w w') : Own c sz B e w' v l := by
 obtain ⟨h1, h2, h3⟩ := h
 refine ⟨h1, h2, ?_⟩
 rcases h3 with h3 | ⟨g, cap, cur, hv, hB, hg, r⟩
 ·exact .inl h3
 ·exact .inr ⟨g, cap, cur, hv, hB, by rw [hb.block g ((Array.getElem?_eq_some_iff.1 hg).1)]; exact hg, r⟩
theorem Own.mono (h : Own c sz B e w v l) {B' : Nat} (hB : B' ≤ B) : Own c sz B' e w v l := by
 obtain ⟨h1, h2, h3⟩ := h
 refine ⟨h1, h2, ?_⟩
 rcases h3 with h3 | ⟨g, cap, cur, hv, hg, r⟩
 ·exact .inl h3
 ·exact .inr ⟨g, cap, cur, hv, by omega, r⟩
/-- An owned slice can be read; where it lies. -/
theorem Own.reps (h : Own c sz B e w v l) : ∃ a cap, v = .slice a l.length cap ∧ Reps c sz w a cap l ∧ (∀ b, a = some b → B ≤ b.block ∧ b.block < w.heap.size) ∧ v.ownBlock = a.map (·.block) := by
 obtain ⟨h1, h2, h3⟩ := h
 rcases h3 with ⟨rfl, h3⟩ | ⟨g, cap, cur, rfl, hB, hg, hnc, hcm, hs, ht⟩
 ·have : l = [] := List.eq_nil_of_length_eq_zero h3
  subst this
  exact ⟨none, 0, rfl, ⟨h1, Nat.le_refl _, Nat.zero_le _, fun _ => rfl, fun j u hu => by simp at hu⟩, (fun _ hb => by cases hb), rfl⟩
 ·refine ⟨_, cap, rfl, ⟨h1, hnc, hcm, (fun hb => by cases hb), fun j u hu => ⟨g, 0, rfl, ?_⟩⟩, fun b hb => ?_, rfl⟩
  ·rw [Nat.zero_add, cell_of_row w g j cur e (0, 0) hg]
   have hj : j < l.length * sz := by
    have := (List.getElem?_eq_some_iff.1 hu).1
    rw [h2] at this; exact this
   rw [← ht, List.getElem?_take, if_pos hj] at hu
   simpa using hu
  ·cases hb; exact ⟨hB, (Array.getElem?_eq_some_iff.1 hg).1⟩

/-- 'append(dst, src...)', src whatever it is. -/
theorem run_app (ty : TypeId) (E : ETy P t e z sz bytes) (hO : Own c sz B e w v l) {a : Option Addr} {cap : Nat} {ys : List α} (hR : Reps c sz w a cap ys) (h1 : ∀ x, ∀ u ∈ (c x).cells.toList, u.oneCell' = true)
   (hb : (l.length + ys.length) * bytes ≤ 140737488355328) (hm : l.length + ys.length ≤ 9223372036854775807) (hB : B ≤ w.heap.size) :
   ∃ v' w', (Builtin.append_ #[t, t] ty #[v, .slice a ys.length cap]).run P w = .ok v' w' ∧ Own c sz B e w' v' (l ++ ys) ∧ w.grownBy w' v.ownBlock ∧ (v'.ownBlock = v.ownBlock ∨ v'.ownBlock = some w.heap.size) := by
 obtain ⟨i, hi, hz, hs, hby⟩ := info_parts E.inf
 cases a with
 | none =>
  have hc0 := hR.2.2.2.1 rfl
  have hl := hR.le
  have : ys = [] := List.eq_nil_of_length_eq_zero (by omega)
  subst this; subst hc0
  exact ⟨v, w, run_append_owned_none w B t ty e i sz E.und hi v _ _ hO.2, by simpa using hO, World.grownBy.refl w _, .inl rfl⟩
 | some ad =>
  have hlen : (ys.flatMap fun x => (c x).cells.toList).length = ys.length * sz := flat_len _ sz (fun x => by simpa using hR.1 x) ys
  obtain ⟨v', w', r1, r2, r3, _, r5⟩ := run_append_own_at (P := P) w B t ty e i z sz bytes E.und hi hz hs hby E.cel E.pos v l.length _ hO.2 ad ys.length cap _ hlen
   (fun j u hu => by
    obtain ⟨b, o, e1, hc⟩ := hR.2.2.2.2 j u hu
    cases e1; rw [Addr.add_z]; exact hc)
   (fun u hu => by
    obtain ⟨x, _, hx⟩ := List.mem_flatMap.1 hu
    exact h1 x u hx)
   (by unfold maxLen; omega) hb hB
  exact ⟨v', w', r1, ⟨hO.1, by simpa using r2⟩, r3, r5⟩

theorem wpList_app {ops : Array Oper} {rest : List Oper} {a : Act} {Q : Exit → Act → World → Prop} {d : Option Tmp} {ty : TypeId} {p : String} {s x : Operand} {af : Array Edge} {ad : Option Addr} {cap : Nat} {ys : List α} (E : ETy P t e z sz bytes)
   (hs : a.eval s = v) (hx : a.eval x = .slice ad ys.length cap) (hO : Own c sz B e w v l) (hR : Reps c sz w ad cap ys) (h1 : ∀ x, ∀ u ∈ (c x).cells.toList, u.oneCell' = true)
   (hb : (l.length + ys.length) * bytes ≤ 140737488355328) (hB : B ≤ w.heap.size) (hm : l.length + ys.length ≤ 9223372036854775807)
   (hK : ∀ v' w', Own c sz B e w' v' (l ++ ys) → w.grownBy w' v.ownBlock → (v'.ownBlock = v.ownBlock ∨ v'.ownBlock = some w.heap.size) → wpList P ops Q rest (a.put d v') w') :
   wpList P ops Q (⟨d, .call { callee := .builtin .append, args := #[s, x], argTypes := #[t, t] }, ty, p, af, none⟩ :: rest) a w := by
 refine wpList_plain rfl fun K hK' => ?_
 obtain ⟨v', w', r1, r2, r3, r4⟩ := run_app ty E hO hR h1 hb hm hB
 unfold Oper.wp execOp
 simp only [resolve, invoke, builtin, Sem.run_bind, Sem.run_pure, Result.andThen_ok, List.map_toArray, List.map_cons, List.map_nil, hs, hx, r1]
 exact hK' _ _ (hK v' w' r2 r3 r4)

theorem sl_new (cs : Array Value) (n : Nat) (fr : Nat × Nat) (hn : n ≤ maxLen) : Sl (w.alloc (.cells cs e fr)) (some ⟨w.heap.size, 0, none⟩) n n cs.toList := by
 refine ⟨Nat.le_refl _, hn, (fun h => by cases h), fun j u hu => ⟨w.heap.size, 0, rfl, ?_⟩⟩
 rw [Nat.zero_add, cell_of_row _ w.heap.size j cs e fr (heap_alloc_new w _)]
 simpa using hu

theorem reps_new1 (hc : ∀ x, (c x).cells.size = sz) (y : α) (cs : Array Value) (fr : Nat × Nat) {H : Nat} (hH : w.heap.size = H) (h : cs.toList = (c y).cells.toList) : Reps c sz (w.alloc (.cells cs e fr)) (some ⟨H, 0, none⟩) 1 [y] := by
 subst hH
 exact ⟨hc, by simpa [h] using sl_new (w := w) (e := e) cs 1 fr (by decide)⟩
theorem reps_newN (hc : ∀ x, (c x).cells.size = sz) (ys : List α) (n : Nat) (hn : n = ys.length) (hm : n ≤ maxLen) (cs : Array Value) (fr : Nat × Nat) {H : Nat} (hH : w.heap.size = H) (h : cs.toList = ys.flatMap fun x => (c x).cells.toList) : Reps c sz (w.alloc (.cells cs e fr)) (some ⟨H, 0, none⟩) n ys := by
 subst hH
 subst hn
 exact ⟨hc, by rw [← h]; exact sl_new (w := w) (e := e) cs _ fr hm⟩

theorem set_flat1 (hc1 : ∀ x, (c x).cells = #[c x]) (x : α) : ∀ (l : List α) (k : Nat), (l.flatMap fun x => (c x).cells.toList).set k (c x) = (l.set k x).flatMap fun x => (c x).cells.toList := by
 intro l k
 have h : ∀ l : List α, (l.flatMap fun x => (c x).cells.toList) = l.map c := fun l => by
  induction l with
  | nil => rfl
  | cons y r ih => rw [List.flatMap_cons, ih, hc1]; simp
 rw [h, h, List.map_set]

/-- a store of an element of one cell into an owned slice. -/
theorem own_store {a : Option Addr} {cap : Nat} (hc1 : ∀ x, (c x).cells = #[c x]) (hO : Own c 1 B e w (.slice a l.length cap) l) (x : α) (k : Int) (h0 : 0 ≤ k) (hk : k < l.length) :
   ∃ g, a = some ⟨g, 0, none⟩ ∧ B ≤ g ∧ (w.cell? ⟨g, k.toNat, none⟩).isSome = true ∧ w.frozen? ⟨g, k.toNat, none⟩ = false ∧
     Own c 1 B e (w.setCell ⟨g, k.toNat, none⟩ (c x)) (.slice a l.length cap) (l.set k.toNat x) ∧ w.grownBy (w.setCell ⟨g, k.toNat, none⟩ (c x)) (some g) := by
 obtain ⟨h1, h2⟩ := hO
 rcases h2.2 with ⟨h3, h4⟩ | ⟨g, cap', cur, hv, hB, hg, r⟩
 ·omega
 ·simp only [Value.slice.injEq, true_and] at hv
  obtain ⟨rfl, rfl⟩ := hv
  have hs := h2.stored k.toNat (c x)
  have hca := h2.cellAt k.toNat (by omega)
  refine ⟨g, rfl, hB, ?_, h2.frozenAt _, ⟨h1, ?_⟩, hs.2⟩
  ·rw [hca, List.getElem?_eq_getElem (by rw [h2.1]; omega)]; rfl
  ·rw [List.length_set, ← set_flat1 hc1]; exact hs.1

theorem wpList_store {ops : Array Oper} {rest : List Oper} {a : Act} {Q : Exit → Act → World → Prop} {d1 : Tmp} {ty1 ty2 : TypeId} {p1 p2 : String} {s x y : Operand} {af1 af2 : Array Edge} {ad : Option Addr} {cap : Nat} {k : Int} (u : α)
   (E : ETy P t e z 1 bytes) (hc1 : ∀ x, (c x).cells = #[c x]) (hsto : ∀ (w : World) (p : Addr), (w.cell? p).isSome = true → w.frozen? p = false → (Instr.storeAt e (.pointer (some p)) (c u)).run P w = .ok () (w.setCell p (c u)))
   (hs : a.eval s = .slice ad l.length cap) (hx : a.eval x = .int .i64 k) (hO : Own c 1 B e w (.slice ad l.length cap) l) (h0 : 0 ≤ k) (hk : k < l.length)
   (hd : ∀ p, (a.put (some d1) p).eval (.tmp d1) = p) (hy : ∀ p, (a.put (some d1) p).eval y = c u)
   (hK : ∀ p w', Own c 1 B e w' (.slice ad l.length cap) (l.set k.toNat u) → w.grownBy w' (Value.slice ad l.length cap).ownBlock → wpList P ops Q rest ((a.put (some d1) p).put none undef) w') :
   wpList P ops Q (⟨some d1, .indexAddr t s x, ty1, p1, af1, none⟩ :: ⟨none, .store e (.tmp d1) y, ty2, p2, af2, none⟩ :: rest) a w := by
 obtain ⟨g, rfl, hB, hcell, hfr, hO', hg⟩ := own_store hc1 hO u k h0 hk
 refine wpList_plain rfl fun K hK' => ?_
 have h1 := run_indexAt_sl (P := P) (a := ⟨g, 0, none⟩) (cap := cap) w E h0 hk
 unfold Oper.wp
 simp only [execOp, hs, hx]
 simp [h1, Result.andThen]
 refine hK' _ _ (wpList_plain rfl fun K2 hK2 => ?_)
 unfold Oper.wp
 simp only [execOp, hd, hy]
 have h2 := hsto w ⟨g, k.toNat, none⟩ hcell hfr
 rw [Addr.add_z, Nat.zero_add]
 simp [h2, Result.andThen]
 exact hK2 _ _ (hK _ _ hO' hg)

end
end Go.Proofs.YtdeoogbiipodmaaGreat

namespace Go.Proofs.YtdeoogbiipodmaaGreat
open Go.RowKit

def cInt : Int → Value := Value.int .i64
def cBool : Bool → Value := Value.bool
def cStr : ByteArray → Value := Value.string
attribute [go_sem] cInt cBool cStr
theorem cInt1 (x : Int) : (cInt x).cells = #[cInt x] := rfl
theorem cIntS (x : Int) : (cInt x).cells.size = 1 := rfl
theorem cStrS (x : ByteArray) : (cStr x).cells.size = 1 := rfl
theorem cIntO (x : Int) : ∀ u ∈ (cInt x).cells.toList, u.oneCell' = true := by intro u hu; simp [cInt, Value.cells] at hu; subst hu; rfl

abbrev Ints (w : World) (a : Option Addr) (cap : Nat) (l : List Int) : Prop := Reps cInt 1 w a cap l
abbrev OwnI (B : Nat) (w : World) (v : Value) (l : List Int) : Prop := Own cInt 1 B 3 w v l

theorem E_ints : ETy Tryz.prog 22 3 (.int .i64 0) 1 8 := ⟨Tryz.underlying22, by kernel_rfl, rfl, by decide⟩
theorem F_int : Flat Tryz.prog 3 := ⟨_, Tryz.underlying3, rfl⟩
theorem E_errs : ETy Tryz.prog 118 28 (.int .i64 0) 1 8 := ⟨Tryz.underlying118, by kernel_rfl, rfl, by decide⟩
theorem F_err : Flat Tryz.prog 28 := ⟨_, Tryz.underlying28, rfl⟩

/-- A list of ints and an error came back. -/
def RetLE (W : World) (L : List Int) (e : Int) (r : Ending) (w' : World) : Prop :=
 ∃ a cap, r = .returned (.tuple #[.slice a L.length cap, .int .i64 e]) ∧ Ints w' a cap L ∧ (∀ b, a = some b → W.heap.size ≤ b.block) ∧ Below W.heap.size W w'
theorem RetLE.mk {W w' : World} {L : List Int} {e : Int} {r : Ending} (a : Option Addr) (cap : Nat) (h1 : r = .returned (.tuple #[.slice a L.length cap, .int .i64 e])) (h2 : Ints w' a cap L) (h3 : ∀ b, a = some b → W.heap.size ≤ b.block) (h4 : Below W.heap.size W w') : RetLE W L e r w' :=
 ⟨a, cap, h1, h2, h3, h4⟩
theorem ints_nil (w : World) : Ints w none 0 [] := ⟨cIntS, Nat.le_refl _, Nat.zero_le _, fun _ => rfl, fun j u hu => by simp at hu⟩
theorem RetLE.none {W w' : World} {e : Int} {r : Ending} (h1 : r = .returned (.tuple #[.slice none 0 0, .int .i64 e])) (h4 : Below W.heap.size W w') : RetLE W [] e r w' :=
 ⟨.none, 0, h1, ints_nil _, (fun _ h => by cases h), h4⟩
theorem RetLE.own {W w' : World} {L : List Int} {e : Int} {r : Ending} {B : Nat} (v : Value) (h1 : r = .returned (.tuple #[v, .int .i64 e])) (h2 : OwnI B w' v L) (hB : W.heap.size ≤ B) (h4 : Below W.heap.size W w') : RetLE W L e r w' := by
 obtain ⟨a, cap, rfl, hr, hf, _⟩ := h2.reps
 exact ⟨a, cap, h1, hr, fun b hb => Nat.le_trans hB (hf b hb).1, h4⟩
theorem RetLE.out {W w' : World} {L : List Int} {e : Int} {r : Ending} (h : RetLE W L e r w') : ∃ a cap, r = .returned (.tuple #[.slice a L.length cap, .int .i64 e]) ∧ Ints w' a cap L ∧ (∀ b, a = some b → W.heap.size ≤ b.block) ∧ Below W.heap.size W w' := h

def cPair (m : Int × Int) : Value := .agg #[.int .i64 m.1, .int .i64 m.2]
attribute [go_sem] cPair
theorem cPairS (x : Int × Int) : (cPair x).cells.size = 2 := rfl
abbrev Pairs (w : World) (a : Option Addr) (cap : Nat) (l : List (Int × Int)) : Prop := Reps cPair 2 w a cap l
end Go.Proofs.YtdeoogbiipodmaaGreat

namespace Go.Proofs.YtdeoogbiipodmaaGreat
open Go.RowKit
end Go.Proofs.YtdeoogbiipodmaaGreat

namespace Go.Proofs.YtdeoogbiipodmaaGreat
open Go.RowKit
set_option maxRecDepth 100000

theorem wpList_make1 {P : Program} {α : Type} {c : α → Value} {bytes B : Nat} {t e : TypeId} {w : World} {ops : Array Oper} {rest : List Oper} {a : Act} {Q : Exit → Act → World → Prop} {d : Option Tmp} {ty : TypeId} {p : String} {x y : Operand} {af : Array Edge} (n : Nat) (z0 : α)
  (E : ETy P t e (c z0) 1 bytes) (hc : ∀ x, (c x).cells = #[c x]) (hx : a.eval x = .int .i64 n) (hy : a.eval y = .int .i64 n) (hb : bytes * n ≤ 281474976710656) (hm : n ≤ 9223372036854775807) (hB : B ≤ w.heap.size)
  (hK : ∀ w', Own c 1 B e w' (.slice (some ⟨w.heap.size, 0, none⟩) n n) (List.replicate n z0) → w.grownBy w' none → wpList P ops Q rest (a.put d (.slice (some ⟨w.heap.size, 0, none⟩) n n)) w') :
  wpList P ops Q (⟨d, .makeSlice t x y, ty, p, af, none⟩ :: rest) a w := by
 obtain ⟨i, hi, hz, hs, hby⟩ := info_parts E.inf
 refine wpList_make_full w rfl x y t rfl B e i (c z0) 1 E.und hi hz hs .i64 .i64 n n n hx hy rfl rfl (by rw [hby]; exact hb) (by unfold maxLen; omega) hB (fun w' ho hg => hK w' ⟨fun u => by rw [hc]; rfl, ?_⟩ hg)
 have e1 : (madeCells (c z0).cells (n * 1)).toList = List.replicate n (c z0) := by rw [hc, Nat.mul_one]; exact toList_madeCells_one _ _
 have e2 : ((List.replicate n z0).flatMap fun x => (c x).cells.toList) = List.replicate n (c z0) := by
  have aux : ∀ m : Nat, ((List.replicate m z0).flatMap fun x => (c x).cells.toList) = List.replicate m (c z0) := by
   intro m
   induction m with
   | zero => rfl
   | succ m ih => rw [List.replicate_succ, List.flatMap_cons, ih, hc, List.replicate_succ]; rfl
  exact aux n
 rw [e2, List.length_replicate, ← e1]
 exact ho

theorem own_newN {α : Type} {c : α → Value} {sz B : Nat} {e : TypeId} {w : World} (hc : ∀ x, (c x).cells.size = sz) (ys : List α) (n : Nat) (hn : n = ys.length) (hm : n ≤ maxLen) (cs : Array Value) {H : Nat} (hH : w.heap.size = H) (hB : B ≤ H) (h : cs.toList = ys.flatMap fun x => (c x).cells.toList) :
  Own c sz B e (w.alloc (.cells cs e)) (.slice (some ⟨H, 0, none⟩) n n) ys := by
 subst hH
 subst hn
 have hl : (ys.flatMap fun x => (c x).cells.toList).length = ys.length * sz := flat_len _ sz (fun x => by simpa using hc x) ys
 refine ⟨hc, hl, .inr ⟨w.heap.size, ys.length, cs, rfl, hB, heap_alloc_new w _, Nat.le_refl _, hm, ?_, ?_⟩⟩
 ·rw [← hl, ← h]; simp
 ·rw [← hl, ← h]; exact List.take_of_length_le (by simp)
def lenV : Value → Nat | .slice _ n _ => n | _ => 0
theorem sto_int (u : Int) (w : World) (p : Addr) (h1 : (w.cell? p).isSome = true) (h2 : w.frozen? p = false) : (Instr.storeAt 3 (.pointer (some p)) (cInt u)).run Tryz.prog w = .ok () (w.setCell p (cInt u)) := by
 obtain ⟨v, hv⟩ := Option.isSome_iff_exists.1 h1
 simp [go_sem, hv, h2]
end Go.Proofs.YtdeoogbiipodmaaGreat

namespace Go.Proofs.YtdeoogbiipodmaaGreat
open Go.RowKit Go.Maps
set_option maxRecDepth 100000

theorem keyI : Keyed Tryz.prog 3 := int_keyed Tryz.underlying3
def InI (k : Int) : Prop := -9223372036854775808 ≤ k ∧ k ≤ 9223372036854775807
theorem InI.wf {k : Int} (h : InI k) : (Lit.int .i64 k).wf = true := by
 unfold InI at h
 exact WalkArith.wf_i64 (by omega)
theorem keyOfI {k : Int} (h : InI k) : keyOf Tryz.prog 3 (.int .i64 k) = some (.int .i64 k) := keyOf_int_mk Tryz.underlying3 h.wf

def MapB (w : World) (b n : Nat) (f : Int → Bool) : Prop :=
 ∃ D : DataW Unit, w.ownsMap Tryz.prog 3 (plainElem Tryz.prog 4) b n D ∧ ∀ k, InI k → D.atKey (.int .i64 k) (.lit (.bool false)) = .lit (.bool (f k))
def MapI (w : World) (b n : Nat) (f : Int → Int) : Prop :=
 ∃ D : DataW Unit, w.ownsMap Tryz.prog 3 (plainElem Tryz.prog 3) b n D ∧ ∀ k, InI k → D.atKey (.int .i64 k) (.lit (.int .i64 0)) = .lit (.int .i64 (f k))

theorem MapB.kept {w w' : World} {b n : Nat} {f : Int → Bool} {row : Option Nat} (h : MapB w b n f) (hg : w.grownBy w' row) (hne : some b ≠ row) : MapB w' b n f := by
 obtain ⟨D, h1, h2⟩ := h; exact ⟨D, h1.kept hg hne, h2⟩
theorem MapI.kept {w w' : World} {b n : Nat} {f : Int → Int} {row : Option Nat} (h : MapI w b n f) (hg : w.grownBy w' row) (hne : some b ≠ row) : MapI w' b n f := by
 obtain ⟨D, h1, h2⟩ := h; exact ⟨D, h1.kept hg hne, h2⟩
theorem MapB.below {w w' : World} {b n : Nat} {f : Int → Bool} (h : MapB w b n f) (hb : Below w.heap.size w w') : MapB w' b n f := by
 obtain ⟨D, h1, h2⟩ := h
 exact ⟨D, h1.kept (row := none) ⟨hb.os, hb.tape, hb.output, hb.size, fun k hk _ => hb.block k hk⟩ (by simp), h2⟩
theorem MapI.below {w w' : World} {b n : Nat} {f : Int → Int} (h : MapI w b n f) (hb : Below w.heap.size w w') : MapI w' b n f := by
 obtain ⟨D, h1, h2⟩ := h
 exact ⟨D, h1.kept (row := none) ⟨hb.os, hb.tape, hb.output, hb.size, fun k hk _ => hb.block k hk⟩ (by simp), h2⟩
theorem MapB.alloc {w : World} {b n : Nat} {f : Int → Bool} (h : MapB w b n f) (o : Obj) : MapB (w.alloc o) b n f := h.below ((Below.refl _ _).alloc (Nat.le_refl _) _)
theorem MapI.alloc {w : World} {b n : Nat} {f : Int → Int} (h : MapI w b n f) (o : Obj) : MapI (w.alloc o) b n f := h.below ((Below.refl _ _).alloc (Nat.le_refl _) _)
theorem MapB.lt {w : World} {b n : Nat} {f : Int → Bool} (h : MapB w b n f) : b < w.heap.size := by obtain ⟨D, h1, _⟩ := h; exact h1.lt
theorem MapI.lt {w : World} {b n : Nat} {f : Int → Int} (h : MapI w b n f) : b < w.heap.size := by obtain ⟨D, h1, _⟩ := h; exact h1.lt

theorem MapB.put {w : World} {b n : Nat} {f : Int → Bool} (h : MapB w b n f) {k : Int} (hk : InI k) (v : Bool) (hn : n < maxLen) :
   ∃ w', (Instr.mapUpdate 148 (.map (some b)) (.int .i64 k) (.bool v)).run Tryz.prog w = .ok () w' ∧ MapB w' b (n + 1) (fun x => if x = k then v else f x) ∧ w.grownBy w' (some b) := by
 obtain ⟨D, h1, h2⟩ := h
 obtain ⟨w', hrun, ho, hg⟩ := h1.update keyI Tryz.underlying148 hn (keyOfI hk) (plainElem_bool Tryz.underlying4 v)
 refine ⟨w', hrun, ⟨_, ho, fun j hj => ?_⟩, hg⟩
 by_cases e : j = k
 ·subst e
  rw [atKey_put_same h1.isMap (keyI.key (keyOfI hk))]; simp
 ·rw [atKey_put_other (by simpa using e), h2 j hj]; simp [e]

section
variable {ops : Array Oper} {rest : List Oper} {a : Act} {Q : Exit → Act → World → Prop} {d : Option Tmp} {ty : TypeId} {p : String} {m x y : Operand} {af : Array Edge} {g : Option (Nat × Bool)} {b n : Nat} {k : Int}
end
end Go.Proofs.YtdeoogbiipodmaaGreat

namespace Go.Proofs.YtdeoogbiipodmaaGreat
open Go.RowKit
set_option maxHeartbeats 400000
set_option maxRecDepth 100000

/-- the first error of a list. -/
def firstE (l : List Int) : Int := (l.find? (· != 0)).getD 0
theorem firstE_drop (l : List Int) (k : Nat) (h : k < l.length) : firstE (l.drop k) = if atD 0 l k != 0 then atD 0 l k else firstE (l.drop (k + 1)) := by
 have e : l.drop k = l[k] :: l.drop (k + 1) := List.drop_eq_getElem_cons h
 have e2 : atD 0 l k = l[k] := by simp [atD, h]
 rw [e, e2]
 simp only [firstE, List.find?_cons]
 cases h1 : (l[k] != 0) <;> simp
@[go_sem] theorem firstE_nil : firstE [] = 0 := rfl
@[go_sem] theorem firstE_cons (x : Int) (l : List Int) : firstE (x :: l) = if x = 0 then firstE l else x := by
 unfold firstE; rw [List.find?_cons]; by_cases h : x = 0
 ·simp [h]
 ·have : (x != 0) = true := by simpa using h
  rw [this]; simp [h]
theorem firstE_end (l : List Int) : firstE (l.drop l.length) = 0 := by simp [firstE]

end Go.Proofs.YtdeoogbiipodmaaGreat

namespace Go.Proofs.YtdeoogbiipodmaaGreat
open Go.RowKit
set_option maxHeartbeats 400000
set_option maxRecDepth 100000

end Go.Proofs.YtdeoogbiipodmaaGreat

namespace Go.Proofs.YtdeoogbiipodmaaGreat
open Go.RowKit
set_option maxHeartbeats 400000
set_option maxRecDepth 100000

def cFn (q : FuncId × Array Value) : Value := .func (.func q.1) #[] q.2
attribute [go_sem] cFn
@[go_sem] theorem atD_at0 {α : Type} (d x : α) (l : List α) : atD d (x :: l) 0 = x := rfl
@[go_sem] theorem atD_at1 {α : Type} (d x y : α) (l : List α) : atD d (x :: y :: l) 1 = y := rfl
@[go_sem] theorem atD_at2 {α : Type} (d x y z : α) (l : List α) : atD d (x :: y :: z :: l) 2 = z := rfl

end Go.Proofs.YtdeoogbiipodmaaGreat

namespace Go.Proofs.YtdeoogbiipodmaaGreat
open Go.RowKit
set_option maxHeartbeats 400000
set_option maxRecDepth 100000

def inB (l : List Int) (i : Int) : Bool := decide (0 ≤ i) && decide (i < l.length)
/-- the rule that refuses a move from f to t, or 0. -/
def legalN (l : List Int) (f t : Int) : Int := if inB l f && inB l t then if atD 0 l f != 0 then if atD 0 l t == 0 then 0 else 3 else 2 else 1

end Go.Proofs.YtdeoogbiipodmaaGreat

namespace Go.Proofs.YtdeoogbiipodmaaGreat
open Go.RowKit
set_option maxHeartbeats 400000
set_option maxRecDepth 100000

theorem own_made0 {α : Type} {c : α → Value} {sz B : Nat} {e : TypeId} (hc : ∀ x, (c x).cells.size = sz) (w : World) {H : Nat} (hH : w.heap.size = H) (hB : B ≤ H) : Own c sz B e (w.alloc (.cells #[] e)) (.slice (some ⟨H, 0, none⟩) 0 0) [] := by
 subst hH
 exact ⟨hc, World.ownsRow_made w #[] 0 hB (Nat.zero_le _) (by simp)⟩

/-- the list after a move. -/
def nextL (l : List Int) (f t : Int) : List Int := (l.set t.toNat (atD 0 l f)).set f.toNat 0

end Go.Proofs.YtdeoogbiipodmaaGreat

namespace Go.Proofs.YtdeoogbiipodmaaGreat
open Go.RowKit
set_option maxHeartbeats 400000
set_option maxRecDepth 100000

end Go.Proofs.YtdeoogbiipodmaaGreat

namespace Go.Proofs.YtdeoogbiipodmaaGreat
open Go.RowKit
set_option maxHeartbeats 400000
set_option maxRecDepth 100000

abbrev OwnP (B : Nat) (e : TypeId) (w : World) (v : Value) (l : List (Int × Int)) : Prop := Own cPair 2 B e w v l
end Go.Proofs.YtdeoogbiipodmaaGreat

namespace Go.Proofs.YtdeoogbiipodmaaGreat
open Go.RowKit
theorem below_drewN {w w1 : World} (h : ∃ n, w1 = w.drewN n) : Below w.heap.size w w1 := by
 obtain ⟨n, rfl⟩ := h
 exact ⟨rfl, rfl, rfl, Nat.le_refl _, fun _ _ => rfl⟩
section
variable {P : Program} {ops : Array Oper} {rest : List Oper} {a : Act} {α : Type} {c : α → Value} {sz bytes : Nat} {t e : TypeId} {z : Value} {ad : Option Addr} {cap : Nat} {l : List α} {k : Int}
 {d1 d2 : Tmp} {ty1 ty2 : TypeId} {p1 p2 : String} {s x : Operand} {af1 af2 : Array Edge} {Qa : Act → Prop} {w : World}
theorem wpQD_idx (d : α) (E : ETy P t e z sz bytes) (hF : Flat P e) (hc : ∀ x, (c x).cells = #[c x])
   (hs : a.eval s = .slice ad l.length cap) (hx : a.eval x = .int .i64 k) (hR : Reps c sz w ad cap l) (h0 : 0 ≤ k) (hlt : k < l.length) (hd : ∀ p, (a.put (some d1) p).eval (.tmp d1) = p)
   (hK : ∀ p, wpQuiet P ops (fun w' => ∃ n, w' = w.drewN n) Qa rest ((a.put (some d1) p).put (some d2) (c (atD d l k)))) :
   wpQuiet P ops (fun w' => ∃ n, w' = w.drewN n) Qa (⟨some d1, .indexAddr t s x, ty1, p1, af1, none⟩ :: ⟨some d2, .load e (.tmp d1), ty2, p2, af2, none⟩ :: rest) a := by
 have hkl : k.toNat < l.length := by omega
 obtain ⟨b, o, rfl, hcs⟩ := hR.cells E.pos d k.toNat hkl
 have hcell := hcs 0 (c (atD d l k)) (by rw [show l.getD k.toNat d = atD d l k from rfl, hc]; rfl)
 refine wpQ_in (.pointer (some ((⟨b, o, none⟩ : Addr).add (k.toNat * sz)))) rfl (fun w' hw' => ?_) (wpQ_in (c (atD d l k)) rfl (fun w' hw' => ?_) (hK _))
 ·have h1 := run_indexAt_sl (P := P) (a := ⟨b, o, none⟩) (cap := cap) w' E h0 hlt
  simp [execOp, hs, hx, h1, Result.andThen]
 ·have h2 := run_loadAt_cell (P := P) w' (a := (⟨b, o, none⟩ : Addr).add (k.toNat * sz)) (v := c (atD d l k)) hF (by
   rw [Addr.add_z]
   have hb := below_drewN hw'
   exact (hb.cell (World.block_lt_of_cell? w _ hcell)).trans hcell)
  simp [execOp, hd, h2, Result.andThen]
theorem wpList_idxN {Q : Exit → Act → World → Prop} {n : Nat} (w : World) (d : α) (E : ETy P t e z sz bytes) (hF : Flat P e) (hc : ∀ x, (c x).cells = #[c x])
   (hs : a.eval s = .slice ad n cap) (hx : a.eval x = .int .i64 k) (hR : Reps c sz w ad cap l) (hn : l.length = n) (h0 : 0 ≤ k) (hlt : k < n) (hd : ∀ p, (a.put (some d1) p).eval (.tmp d1) = p)
   (hK : ∀ p, wpList P ops Q rest ((a.put (some d1) p).put (some d2) (c (atD d l k))) w) :
   wpList P ops Q (⟨some d1, .indexAddr t s x, ty1, p1, af1, none⟩ :: ⟨some d2, .load e (.tmp d1), ty2, p2, af2, none⟩ :: rest) a w := by
 subst hn
 exact wpList_idx w d E hF hc hs hx hR h0 hlt hd hK
end
end Go.Proofs.YtdeoogbiipodmaaGreat

namespace Go.Proofs.YtdeoogbiipodmaaGreat
open Go.RowKit
section
variable {P : Program} {ops : Array Oper} {rest : List Oper} {a : Act} {α : Type} {c : α → Value} {sz bytes n : Nat} {t e : TypeId} {z : Value} {ad : Option Addr} {cap : Nat} {l : List α} {k : Int}
 {d1 d2 : Tmp} {ty1 ty2 : TypeId} {p1 p2 : String} {s x : Operand} {af1 af2 : Array Edge} {g1 g2 : Option (Nat × Bool)} {Qa : Act → Prop} {w : World}
theorem wpQ_inG {C : World → Prop} {o : Oper} (v : Value) (hg : Region.wanted o (yielded ops a.tmps) = true) (hr : ∀ w', C w' → (execOp a.eval o).run P w' = .ok (.value v) w') (h : wpQuiet P ops C Qa rest (a.put o.dst v)) : wpQuiet P ops C Qa (o :: rest) a := by
 unfold wpQuiet
 rw [if_pos hg]
 refine ⟨v, fun w' hw' => ?_, h⟩
 unfold Oper.quietAt
 rw [hr w' hw']
 exact ⟨rfl, rfl⟩
theorem wpList_idxG {Q : Exit → Act → World → Prop} (d : α) (E : ETy P t e z sz bytes) (hF : Flat P e) (hc : ∀ x, (c x).cells = #[c x])
   (hs : a.eval s = .slice ad n cap) (hx : a.eval x = .int .i64 k) (hR : Reps c sz w ad cap l) (hn : l.length = n) (h0 : 0 ≤ k) (hlt : k < n) (hd : ∀ p, (a.put (some d1) p).eval (.tmp d1) = p)
   (hw1 : Region.wanted ⟨some d1, .indexAddr t s x, ty1, p1, af1, g1⟩ (yielded ops a.tmps) = true) (hw2 : ∀ p, Region.wanted ⟨some d2, .load e (.tmp d1), ty2, p2, af2, g2⟩ (yielded ops (a.put (some d1) p).tmps) = true)
   (hK : ∀ p, wpList P ops Q rest ((a.put (some d1) p).put (some d2) (c (atD d l k))) w) :
   wpList P ops Q (⟨some d1, .indexAddr t s x, ty1, p1, af1, g1⟩ :: ⟨some d2, .load e (.tmp d1), ty2, p2, af2, g2⟩ :: rest) a w := by
 subst hn
 obtain ⟨p, hr1, hr2⟩ := run_idx_flat d E hF hR hc h0 hlt
 refine wpList_step fun K hK' => ?_
 rw [if_pos hw1]
 unfold Oper.wp
 simp only [execOp, hs, hx]
 simp [hr1, Result.andThen]
 refine hK' _ _ (wpList_step fun K2 hK2 => ?_)
 rw [if_pos (hw2 _)]
 unfold Oper.wp
 simp only [execOp, hd]
 simp [hr2, Result.andThen]
 exact hK2 _ _ (hK _)
end
end Go.Proofs.YtdeoogbiipodmaaGreat

namespace Go.Proofs.YtdeoogbiipodmaaGreat
open Go.RowKit
set_option maxHeartbeats 400000
set_option maxRecDepth 100000

end Go.Proofs.YtdeoogbiipodmaaGreat

namespace Go.Proofs.YtdeoogbiipodmaaGreat
open Go.RowKit
set_option maxHeartbeats 400000
set_option maxRecDepth 100000

/-- where a thread stands last in the first k slots. -/
def plc (t : List Int) : Nat → Int → Int
 | 0, _ => 0
 | k + 1, x => if x = atD 0 t k then k else plc t k x
def goes (l t : List Int) (i : Nat) : Int := if atD 0 l i != 0 then plc t t.length (atD 0 l i) else i
theorem atD_mem {l : List Int} {k : Nat} (h : k < l.length) : atD 0 l k ∈ l := by simp [atD, h]
end Go.Proofs.YtdeoogbiipodmaaGreat

namespace Go.Proofs.YtdeoogbiipodmaaGreat
open Go.RowKit
set_option maxHeartbeats 400000
set_option maxRecDepth 100000

theorem ext_atD {l m : List Int} (h : l.length = m.length) (he : ∀ j : Int, 0 ≤ j → j < l.length → atD 0 l j = atD 0 m j) : l = m := by
 apply List.ext_getElem h
 intro i h1 h2
 have := he i (by omega) (by omega)
 simpa [atD, h1, h2] using this
theorem atD_set {l : List Int} {i j x : Int} (h0 : 0 ≤ i) (h1 : i < l.length) (hj : 0 ≤ j) : atD 0 (l.set i.toNat x) j = if j = i then x else atD 0 l j := by
 unfold atD
 rw [List.getD_eq_getElem?_getD, List.getElem?_set]
 by_cases h : j = i
 ·subst h; simp [show j.toNat < l.length by omega]
 ·rw [if_neg h, if_neg (by omega), List.getD_eq_getElem?_getD]
end Go.Proofs.YtdeoogbiipodmaaGreat

namespace Go.Proofs.YtdeoogbiipodmaaGreat
open Go.RowKit
set_option maxHeartbeats 400000
set_option maxRecDepth 100000

end Go.Proofs.YtdeoogbiipodmaaGreat

namespace Go.Proofs.YtdeoogbiipodmaaGreat
open Go.RowKit
set_option maxHeartbeats 400000
set_option maxRecDepth 100000

def absI (n : Int) : Int := if 0 ≤ n then n else -n
end Go.Proofs.YtdeoogbiipodmaaGreat

namespace Go.Proofs.YtdeoogbiipodmaaGreat
open Go.RowKit
set_option maxHeartbeats 400000
set_option maxRecDepth 100000

end Go.Proofs.YtdeoogbiipodmaaGreat

namespace Go.Proofs.YtdeoogbiipodmaaGreat
open Go.RowKit
set_option maxHeartbeats 400000
set_option maxRecDepth 100000

theorem bwhen_any (b : Bool) (e : Int) (w : World) :
  Calls Tryz.prog 39 #[.bool b, .int .i64 e] w fun r w' => r = .returned (.int .i64 (if b then e else 0)) ∧ w = w' := by
 cases b
 ·go_enter Tryz.func39, Tryz.ntmps39
  go_wp2
  go_ret
  exact ⟨rfl, rfl⟩
 ·go_enter Tryz.func39, Tryz.ntmps39
  go_wp2
  go_ret
  exact ⟨rfl, rfl⟩

theorem bfirst_any (a : Option Addr) (cap : Nat) (l : List Int) (w : World) (h : Ints w a cap l) :
  Calls Tryz.prog 38 #[.slice a l.length cap] w fun r w' => r = .returned (.int .i64 (firstE l)) ∧ w = w' := by
 have hcap := h.le
 have hm := h.max
 go_enter Tryz.func38, Tryz.ntmps38
 go_wp2
 go_loop [7] (fun i => ∃ k : Nat, k ≤ l.length ∧ i = .int .i64 k ∧ firstE (l.drop k) = firstE l) (fun i => l.length - (intOf i).toNat)
 case atStart => exact ⟨0, by omega, rfl, by simp⟩
 case round =>
  obtain ⟨k, hk, rfl, hf⟩ := hrel
  by_cases hlt : k < l.length
  ·have hs := firstE_drop l k hlt
   have HF := hid hf; clear hf
   have HS := hid hs; clear hs
   go_wp2_with (with_reducible refine wpList_idx _ 0 E_errs F_err cInt1 wU wU (h) oD oD (fun _ => wU) (fun _ => ?_))
   ·go_ret
    have h1 : (atD 0 l k != 0) = true := by assumption
    refine ⟨?_, rfl⟩
    have := HS.out; rw [HF.out, h1, if_pos rfl] at this; rw [this]; rfl
   ·go_round
    case rel =>
     have h1 : (atD 0 l k != 0) = false := by assumption
     refine ⟨k + 1, by omega, by go_num, ?_⟩
     have := HS.out; rw [HF.out, h1] at this; exact this.symm
    case measure => simp [intOf]; omega
  ·have : k = l.length := by omega
   subst this
   rw [firstE_end] at hf
   have HF := hid hf; clear hf
   go_wp2
   go_ret
   exact ⟨by rw [← HF.out]; rfl, rfl⟩

def strandsE (n : Int) : Int := if n < 1 ∨ 12 < n then 3 else 0
theorem checkStrands_any (n : Int) (w : World) :
  Calls Tryz.prog 58 #[.int .i64 n] w fun r w' => r = .returned (.int .i64 (strandsE n)) ∧ w = w' := by
 by_cases h1 : n < 1
 ·have e : strandsE n = 3 := by unfold strandsE; rw [if_pos (by omega)]
  rw [e]
  go_enter Tryz.func58, Tryz.ntmps58
  go_wp2_with (go_at_call 39; refine (bwhen_any _ _ _).mono ?_; rintro e w' ⟨rfl, rfl⟩)
  go_ret
  exact ⟨rfl, rfl⟩
 by_cases h2 : 12 < n
 ·have e : strandsE n = 3 := by unfold strandsE; rw [if_pos (by omega)]
  rw [e]
  go_enter Tryz.func58, Tryz.ntmps58
  go_wp2_with (go_at_call 39; refine (bwhen_any _ _ _).mono ?_; rintro e w' ⟨rfl, rfl⟩)
  go_ret
  exact ⟨rfl, rfl⟩
 ·have e : strandsE n = 0 := by unfold strandsE; rw [if_neg (by omega)]
  rw [e]
  go_enter Tryz.func58, Tryz.ntmps58
  go_wp2_with (go_at_call 39; refine (bwhen_any _ _ _).mono ?_; rintro e w' ⟨rfl, rfl⟩)
  go_ret
  exact ⟨rfl, rfl⟩

def outB (n x : Int) : Bool := x == 0 || decide (x ≤ -n) || decide (n ≤ x)
theorem outside_any (n x : Int) (w : World) (h1 : 1 ≤ n) (h2 : n ≤ 12) :
  Calls Tryz.prog 61 #[.int .i64 n, .int .i64 x] w fun r w' => r = .returned (.bool (outB n x)) ∧ w = w' := by
 by_cases c1 : x = 0
 ·have e : outB n x = true := by simp [outB, c1]
  have hb : (x == 0) = true := by simpa using c1
  rw [e]
  clear c1 e
  go_enter Tryz.func61, Tryz.ntmps61
  go_wp2
  go_ret
  exact ⟨rfl, rfl⟩
 have hb : (x == 0) = false := by simpa using c1
 by_cases c2 : x ≤ -n
 ·have e : outB n x = true := by simp [outB, c2]
  rw [e]
  go_enter Tryz.func61, Tryz.ntmps61
  go_wp2
  go_ret
  exact ⟨rfl, rfl⟩
 by_cases c3 : n ≤ x
 ·have e : outB n x = true := by simp [outB, c3]
  rw [e]
  go_enter Tryz.func61, Tryz.ntmps61
  go_wp2
  go_ret
  exact ⟨rfl, rfl⟩
 ·have e : outB n x = false := by simp [outB, c1, c2, c3]
  rw [e]
  go_enter Tryz.func61, Tryz.ntmps61
  go_wp2
  go_ret
  exact ⟨rfl, rfl⟩

theorem outsideC_any (n x : Int) (b : Nat) (w : World) (h1 : 1 ≤ n) (h2 : n ≤ 12) (hc : w.cell? ⟨b, 0, none⟩ = some (.int .i64 n)) :
  Calls Tryz.prog 60 #[.int .i64 x, .pointer (some ⟨b, 0, none⟩)] w fun r w' => r = .returned (.bool (outB n x)) ∧ w = w' := by
 go_enter Tryz.func60, Tryz.ntmps60
 go_wp2_with (go_at_call 61; refine (outside_any n x _ h1 h2).mono ?_; rintro e w' ⟨rfl, rfl⟩)
 go_ret
 exact ⟨rfl, rfl⟩

/-- the place of the first letter from the k-th on that is outside. -/
def idxGo (n : Int) (l : List Int) : Nat → Nat → Int
 | _, 0 => -1
 | k, f + 1 => if outB n (atD 0 l k) then k else idxGo n l (k + 1) f
theorem idxO_any (n : Int) (b : Nat) (a : Option Addr) (cap : Nat) (l : List Int) (w : World) (hS : Ints w a cap l) (h1 : 1 ≤ n) (h2 : n ≤ 12) (hc : w.cell? ⟨b, 0, none⟩ = some (.int .i64 n)) :
  Calls Tryz.prog 92 #[.slice a l.length cap, .func (.func 60) #[] #[.pointer (some ⟨b, 0, none⟩)]] w fun r w' => r = .returned (.int .i64 (idxGo n l 0 l.length)) ∧ w = w' := by
 have hcap := hS.le
 have hm := hS.max
 go_enter Tryz.func92, Tryz.ntmps92
 go_wp2_with fail
 go_loop [8, 5] (fun i _ => ∃ k : Nat, k ≤ l.length ∧ i = .int .i64 k ∧ idxGo n l k (l.length - k) = idxGo n l 0 l.length) (fun i _ => l.length - (intOf i).toNat)
 case atStart => exact ⟨0, by omega, rfl, rfl⟩
 case round =>
  obtain ⟨k, hk, rfl, hf⟩ := hrel
  by_cases hlt : k < l.length
  ·have hs : idxGo n l k (l.length - k) = if outB n (atD 0 l k) then (k : Int) else idxGo n l (k + 1) (l.length - (k + 1)) := by
    rw [show l.length - k = (l.length - (k + 1)) + 1 by omega, idxGo]
   rw [hf] at hs
   have HS := hid hs; clear hs hf
   obtain ⟨q, hq⟩ : ∃ q, q = outB n (atD 0 l k) := ⟨_, rfl⟩
   have hc := outsideC_any n (atD 0 l k) b w h1 h2 hc
   rw [← hq] at hc
   have HQ := hid hq; clear hq
   have HC := hid hc; clear hc
   cases q
   ·go_wp2_with (first | (with_reducible refine wpList_idx _ 0 E_ints F_int cInt1 wU wU (hS) oD oD (fun _ => wU) (fun _ => ?_)) | (go_at_call 60; refine HC.out.mono ?_; rintro e w' ⟨rfl, rfl⟩))
    have h := HS.out
    rw [← HQ.out] at h
    refine ⟨⟨k + 1, by omega, by go_num, h.symm⟩, by simp [intOf]; omega⟩
   ·go_wp2_with (first | (with_reducible refine wpList_idx _ 0 E_ints F_int cInt1 wU wU (hS) oD oD (fun _ => wU) (fun _ => ?_)) | (go_at_call 60; refine HC.out.mono ?_; rintro e w' ⟨rfl, rfl⟩))
    have h := HS.out
    rw [← HQ.out] at h
    go_ret
    exact ⟨by rw [h]; rfl, rfl⟩
  ·have : k = l.length := by omega
   subst this
   rw [Nat.sub_self, idxGo] at hf
   have HF := hid hf; clear hf
   go_wp2_with fail
   go_ret
   exact ⟨by rw [← HF.out]; rfl, rfl⟩

theorem idxGo_neg (n : Int) (l : List Int) : ∀ (f k : Nat), (0 ≤ idxGo n l k f) ↔ ∃ j, k ≤ j ∧ j < k + f ∧ outB n (atD 0 l j) = true
 | 0, k => by
   simp only [idxGo]
   constructor
   · intro h; omega
   · rintro ⟨j, h1, h2, _⟩; omega
 | f + 1, k => by
   rw [idxGo]
   by_cases h : outB n (atD 0 l k) = true
   · rw [if_pos h]
     exact ⟨fun _ => ⟨k, by omega, by omega, h⟩, fun _ => by omega⟩
   · rw [if_neg h, idxGo_neg n l f (k + 1)]
     constructor
     · rintro ⟨j, h1, h2, h3⟩; exact ⟨j, by omega, by omega, h3⟩
     · rintro ⟨j, h1, h2, h3⟩
       rcases Nat.eq_or_lt_of_le h1 with e | e
       · subst e; exact absurd h3 h
       · exact ⟨j, by omega, by omega, h3⟩

theorem containsO_any (n : Int) (b : Nat) (a : Option Addr) (cap : Nat) (l : List Int) (w : World) (hS : Ints w a cap l) (h1 : 1 ≤ n) (h2 : n ≤ 12) (hc : w.cell? ⟨b, 0, none⟩ = some (.int .i64 n)) :
  Calls Tryz.prog 59 #[.slice a l.length cap, .func (.func 60) #[] #[.pointer (some ⟨b, 0, none⟩)]] w fun r w' => r = .returned (.bool (decide (0 ≤ idxGo n l 0 l.length))) ∧ w = w' := by
 go_enter Tryz.func59, Tryz.ntmps59
 go_wp2_with (go_at_call 92; refine (idxO_any n b a cap l _ hS h1 h2 hc).mono ?_; rintro e w' ⟨rfl, rfl⟩)
 go_ret
 exact ⟨rfl, rfl⟩

def wordE (n : Int) (l : List Int) : Int := if strandsE n ≠ 0 then 3 else if 200 < l.length then 5 else if 0 ≤ idxGo n l 0 l.length then 3 else 0
theorem CheckWord_any (n : Int) (a : Option Addr) (cap : Nat) (l : List Int) (w : World) (hS : Ints w a cap l) (hsm : l.length ≤ 1048576) :
  Calls Tryz.prog 26 #[.int .i64 n, .slice a l.length cap] w fun r w' => r = .returned (.int .i64 (wordE n l)) ∧ Below w.heap.size w w' := by
 have hcap := hS.le
 have hm := hS.max
 have hk := fun w => checkStrands_any n w
 by_cases h : strandsE n = 0
 ·have hn : 1 ≤ n ∧ n ≤ 12 := by unfold strandsE at h; split at h <;> omega
  rw [h] at hk
  have HK := hid hk; clear hk
  by_cases h2 : 200 < l.length
  ·have e : wordE n l = 5 := by simp [wordE, h, h2]
   rw [e]
   clear h e
   go_enter Tryz.func26, Tryz.ntmps26
   go_wp2_with (first | (go_at_call 58; refine (HK.out _).mono ?_; rintro e w' ⟨rfl, rfl⟩) | (go_at_call 39; refine (bwhen_any _ _ _).mono ?_; rintro e w' ⟨rfl, rfl⟩) | (go_at_call 38; refine (bfirst_any _ _ [_, _] _ (reps_newN cIntS [_, _] 2 rfl (by decide) _ _ (by simp) rfl)).mono ?_; rintro e w' ⟨rfl, rfl⟩))
   go_ret
   exact ⟨rfl, bal (bal (Below.refl _ _) _) _⟩
  ·have e : wordE n l = if 0 ≤ idxGo n l 0 l.length then 3 else 0 := by simp [wordE, h, h2]
   have hct := fun (w : World) (b : Nat) hS hc => containsO_any n b a cap l w hS hn.1 hn.2 hc
   obtain ⟨q, hq⟩ : ∃ q, q = decide (0 ≤ idxGo n l 0 l.length) := ⟨_, rfl⟩
   rw [← hq] at hct
   have e2 : wordE n l = if q then 3 else 0 := by rw [e, hq]; simp
   rw [e2]
   have HCT := hid hct
   clear h e e2 hq hct
   cases q
   all_goals
    go_enter Tryz.func26, Tryz.ntmps26
    go_wp2_with (first | (go_at_call 58; refine (HK.out _).mono ?_; rintro e w' ⟨rfl, rfl⟩) | (go_at_call 39; refine (bwhen_any _ _ _).mono ?_; rintro e w' ⟨rfl, rfl⟩) | (go_at_call 38; refine (bfirst_any _ _ [_, _] _ (reps_newN cIntS [_, _] 2 rfl (by decide) _ _ (by simp) rfl)).mono ?_; rintro e w' ⟨rfl, rfl⟩) | (go_at_call 59; refine (HCT.out _ _ ((hS.alloc _).alloc _) (by simp [go_sem])).mono ?_; rintro e w' ⟨rfl, rfl⟩))
    go_ret
    exact ⟨rfl, bal (bal (Below.refl _ _) _) _⟩
 ·have h3 : strandsE n = 3 := by unfold strandsE at *; split <;> simp_all
  have e : wordE n l = 3 := by simp [wordE, h3]
  rw [e]
  rw [h3] at hk
  have HK := hid hk; clear hk h h3 e
  go_enter Tryz.func26, Tryz.ntmps26
  go_wp2_with (first | (go_at_call 58; refine (HK.out _).mono ?_; rintro e w' ⟨rfl, rfl⟩) | (go_at_call 39; refine (bwhen_any _ _ _).mono ?_; rintro e w' ⟨rfl, rfl⟩) | (go_at_call 38; refine (bfirst_any _ _ [_, _] _ (reps_newN cIntS [_, _] 2 rfl (by decide) _ _ (by simp) rfl)).mono ?_; rintro e w' ⟨rfl, rfl⟩))
  all_goals
   go_ret
   exact ⟨rfl, bal (bal (Below.refl _ _) _) _⟩
end Go.Proofs.YtdeoogbiipodmaaGreat

namespace Go.Proofs.YtdeoogbiipodmaaGreat
open Go.RowKit
set_option maxHeartbeats 1000000
set_option maxRecDepth 100000

theorem drop_step {α : Type} [DecidableEq α] (d : α) (l m : List α) (h : l.length = m.length) (k : Nat) (hk : k < l.length) : decide (l.drop k = m.drop k) = (decide (atD d l k = atD d m k) && decide (l.drop (k + 1) = m.drop (k + 1))) := by
 have e2 : atD d l k = l[k] := by simp [atD, hk]
 have e3 : atD d m k = m[k] := by simp [atD, h ▸ hk]
 have hk2 : k < m.length := h ▸ hk
 rw [List.drop_eq_getElem_cons hk, List.drop_eq_getElem_cons hk2, e2, e3]
 rw [Bool.eq_iff_iff, Bool.and_eq_true, decide_eq_true_iff, decide_eq_true_iff, decide_eq_true_iff, List.cons.injEq]

theorem SameInts_any (a a2 : Option Addr) (cap cap2 : Nat) (l m : List Int) (w : World) (hS : Ints w a cap l) (hM : Ints w a2 cap2 m) (hl : l.length ≤ 1048576) :
  Calls Tryz.prog 19 #[.slice a l.length cap, .slice a2 m.length cap2] w fun r w' => r = .returned (.bool (decide (l = m))) ∧ Below w.heap.size w w' := by
 have hcap := hS.le
 have hm := hS.max
 have hcap2 := hM.le
 have hm2 := hM.max
 by_cases hlen : l.length = m.length
 ·have HL := hid hlen
  go_enter Tryz.func19, Tryz.ntmps19
  go_wp2_with fail
  go_loopw [5] (fun i wr => ∃ k : Nat, k ≤ l.length ∧ i = .int .i64 k ∧ decide (l.drop k = m.drop k) = decide (l = m) ∧ Below w.heap.size w wr) (fun i _ => l.length - (intOf i).toNat)
  case atStart => exact ⟨0, by omega, rfl, rfl, Below.refl _ _⟩
  case round =>
   obtain ⟨k, hk, rfl, hf, hbr⟩ := hrel
   by_cases hlt : k < l.length
   ·have hs := drop_step 0 l m HL.out k hlt
    rw [hf] at hs
    have HS := hid hs; clear hs hf
    have hx : (k : Int) < m.length := by rw [← HL.out]; omega
    have hS5 := hS.below hbr
    have hS6 := hM.below hbr
    clear hlen
    go_wp2_with fail
    refine wp_region_quiet_lit kR kR ?_
    repeat (first | ((with_reducible refine wpQD_idx 0 E_ints F_int cInt1 wU wU (hS5) oD oD (fun _ => wU) (fun _ => ?_)); (try simp only [Act.put, pA, pB, pC]); (try simp only [cInt])) | ((with_reducible refine wpQD_idx 0 E_ints F_int cInt1 wU wU (hS6) oD oD (fun _ => wU) (fun _ => ?_)); (try simp only [Act.put, pA, pB, pC]); (try simp only [cInt])) | quiet_step (fail))
    refine wpQuiet_nil ?_
    intro w5 hb5
    replace hb5 := below_drewN hb5
    have b5 := bnext hbr hb5
    go_wp2_with fail
    ·have hd : (atD 0 l k != atD 0 m k) = true := by assumption
     have h := HS.out
     rw [show decide (atD 0 l k = atD 0 m k) = false by simpa using hd, Bool.false_and] at h
     go_ret
     exact ⟨by rw [h]; rfl, b5⟩
    ·have hd : (atD 0 l k != atD 0 m k) = false := by assumption
     have h := HS.out
     rw [show decide (atD 0 l k = atD 0 m k) = true by simpa using hd, Bool.true_and] at h
     exact ⟨⟨k + 1, by omega, by go_num, h.symm, b5⟩, by simp [intOf]; omega⟩
   ·have : k = l.length := by omega
    subst this
    rw [List.drop_length, HL.out, List.drop_length] at hf
    have HF := hid hf; clear hf hlen
    go_wp2_with fail
    go_ret
    exact ⟨by rw [← HF.out]; rfl, hbr⟩
 ·have e : decide (l = m) = false := by
   simp only [decide_eq_false_iff_not]; intro e; exact hlen (by rw [e])
  rw [e]
  have hb : ((l.length : Int) != m.length) = true := by simp; omega
  clear e
  go_enter Tryz.func19, Tryz.ntmps19
  go_wp2_with fail
  go_ret
  exact ⟨rfl, Below.refl _ _⟩

/-- A list of pairs and an error came back. -/
def RetPE (W : World) (L : List (Int × Int)) (e : Int) (r : Ending) (w' : World) : Prop :=
 ∃ a cap, r = .returned (.tuple #[.slice a L.length cap, .int .i64 e]) ∧ Pairs w' a cap L ∧ (∀ b, a = some b → W.heap.size ≤ b.block) ∧ Below W.heap.size W w'
theorem pairs_nil (w : World) : Pairs w none 0 [] := ⟨cPairS, Nat.le_refl _, Nat.zero_le _, fun _ => rfl, fun j u hu => by simp at hu⟩
theorem RetPE.none {W w' : World} {e : Int} {r : Ending} (h1 : r = .returned (.tuple #[.slice none 0 0, .int .i64 e])) (h4 : Below W.heap.size W w') : RetPE W [] e r w' :=
 ⟨.none, 0, h1, pairs_nil _, (fun _ h => by cases h), h4⟩
theorem RetPE.own {W w' : World} {L : List (Int × Int)} {e : Int} {r : Ending} {B : Nat} {t : TypeId} (v : Value) (h1 : r = .returned (.tuple #[v, .int .i64 e])) (h2 : OwnP B t w' v L) (hB : W.heap.size ≤ B) (h4 : Below W.heap.size W w') : RetPE W L e r w' := by
 obtain ⟨a, cap, rfl, hr, hf, _⟩ := h2.reps
 exact ⟨a, cap, h1, hr, fun b hb => Nat.le_trans hB (hf b hb).1, h4⟩

/-- a word that CheckWord accepts fits the strands. -/
theorem wordE_fits {n : Int} {ws : List Int} (h : wordE n ws = 0) : 1 ≤ n ∧ n ≤ 12 ∧ ws.length ≤ 200 ∧ ∀ x ∈ ws, x ≠ 0 ∧ -n < x ∧ x < n := by
 unfold wordE strandsE at h
 split at h
 ·omega
 ·next h1 =>
  split at h
  ·omega
  ·split at h
   ·omega
   ·next h2 h3 =>
    have h1' : 1 ≤ n ∧ n ≤ 12 := by omega
    refine ⟨h1'.1, h1'.2, by omega, fun x hx => ?_⟩
    obtain ⟨j, hj, rfl⟩ := List.getElem_of_mem hx
    have h4 : ¬ outB n (atD 0 ws j) = true := fun h => by
     have := (idxGo_neg n ws ws.length 0).2 ⟨j, by omega, by omega, h⟩
     omega
    have e2 : atD 0 ws j = ws[j] := by simp [atD, hj]
    rw [e2] at h4
    simp only [outB, Bool.or_eq_true, beq_iff_eq, decide_eq_true_eq, not_or] at h4
    omega
end Go.Proofs.YtdeoogbiipodmaaGreat
