/- Contracts and plain facts that the claim uses (MemA TyA PlA QA SlA PlB RA PnA Lib1). Conditions: as each one states. -/
import Derived.WalkKit
import Derived.WalkSpells
import Derived.Maps.AppendAt
import Derived.Deep.Quiet
import Derived.Test.YtglpfpdomnllkaaGreatDoorProg
import Derived.Maps.Own
import Derived.Maps.OwnSet
import Derived.Maps.Views
import Derived.WalkLawsBesides
import Derived.Laws.EntriesVeiled
import Derived.Deep.QuietTactic
import Derived.BigQuiet
import Derived.RangeFuncNested
import Derived.RangeFuncBound
import Derived.RangeFuncCalls
import Derived.RangeFuncLeaves
import Derived.RangeFuncFrom
import Derived.Shelf.Abstract
import Derived.Shelf.RegionOpen
import Derived.OwnWalkIn
import Derived.TacticsInMore
import Derived.LoopNIn
import Derived.LoopIn
import Derived.Shelf.Strings.Trim
import Derived.Shelf.Strings.SlTrimAscii
import Derived.Shelf.Strings.Repeat
import Derived.Shelf.Strings.OnBuilder
import Derived.Shelf.Strconv.Itoa1
import Derived.Shelf.Strconv.Itoa3
import Derived.Shelf.LaysM
import Derived.Ground.Names2Prog
set_option linter.all false

namespace Go.Proofs.YtglpfpdomnllkaaGreatDoor
theorem pA {α : Type _} {l : List α} {i : Nat} {a : α} : l.toArray.setIfInBounds i a = (l.set i a).toArray := List.setIfInBounds_toArray ..
theorem pB {α : Type _} {a b : α} {l : List α} : (a :: l).set 0 b = b :: l := List.set_cons_zero ..
theorem pC {α : Type _} {a b : α} {l : List α} {n : Nat} : (a :: l).set (n + 1) b = a :: l.set n b := List.set_cons_succ ..
theorem wU {p : Prop} (h : p := by with_unfolding_all rfl) : p := h
theorem oD {p : Prop} (h : p := by first | omega | (simp; done)) : p := h
theorem kR {p : Prop} (h : p := by kernel_rfl) : p := h
open Go.RowKit
theorem hid {p : Prop} (h : p) : Hid p := h

/-- A slice's cells, flattened. -/
def Sl (w : World) (a : Option Addr) (n cap : Nat) (xs : List Value) : Prop :=
 n ≤ cap ∧ cap ≤ maxLen ∧ (a = none → cap = 0) ∧ ∀ j u, xs[j]? = some u → ∃ b o, a = some ⟨b, o, none⟩ ∧ w.cell? ⟨b, o + j, none⟩ = some u

theorem Sl.below {w w' : World} {a n cap xs} (h : Sl w a n cap xs) (hb : Below w.heap.size w w') : Sl w' a n cap xs := by
 obtain ⟨h1, h2, h3, h5⟩ := h
 refine ⟨h1, h2, h3, fun j u hj => ?_⟩
 obtain ⟨b, o, e, hc⟩ := h5 j u hj
 exact ⟨b, o, e, (hb.cell (World.block_lt_of_cell? w _ hc)).trans hc⟩

theorem Sl.grown {w w' : World} {row : Option Nat} {a n cap xs} (h : Sl w a n cap xs) (hg : w.grownBy w' row) (hne : ∀ b, a = some b → some b.block ≠ row) : Sl w' a n cap xs := by
 obtain ⟨h1, h2, h3, h5⟩ := h
 refine ⟨h1, h2, h3, fun j u hj => ?_⟩
 obtain ⟨b, o, e, hc⟩ := h5 j u hj
 exact ⟨b, o, e, hg.cell hc (by simpa using hne _ e)⟩

/-- The type facts of a slice type t over an element type e. -/
structure ETy (P : Program) (t e : TypeId) (z : Value) (size bytes : Nat) : Prop where
 und : P.underlying t = some (.slice e)
 inf : (P.info? e).map (fun i => (i.zero, i.size, i.bytes)) = some (some z, size, bytes)
 cel : z.cells.size = size
 pos : 0 < size
def Flat (P : Program) (e : TypeId) : Prop := ∃ d, P.underlying e = some d ∧ (match d with | .struct _ | .array _ _ => true | _ => false) = false
def Aggr (P : Program) (e : TypeId) : Prop := ∃ d, P.underlying e = some d ∧ (match d with | .struct _ | .array _ _ => true | _ => false) = true

/-- The elements l, each read as the value c x of sz cells. -/
def Reps {α : Type} (c : α → Value) (sz : Nat) (w : World) (a : Option Addr) (cap : Nat) (l : List α) : Prop :=
 (∀ x, (c x).cells.size = sz) ∧ Sl w a l.length cap (l.flatMap fun x => (c x).cells.toList)
def Own {α : Type} (c : α → Value) (sz B : Nat) (e : TypeId) (w : World) (v : Value) (l : List α) : Prop :=
 (∀ x, (c x).cells.size = sz) ∧ w.ownsRow B e sz v l.length (l.flatMap fun x => (c x).cells.toList)
/-- The element at an index, d where there is none. -/
def atD {α : Type} (d : α) (l : List α) (i : Int) : α := l.getD i.toNat d

section
variable {α : Type} {c : α → Value} {sz : Nat} {w w' : World} {a : Option Addr} {cap : Nat} {l : List α}
theorem Reps.below (h : Reps c sz w a cap l) (hb : Below w.heap.size w w') : Reps c sz w' a cap l := ⟨h.1, h.2.below hb⟩
theorem Reps.grown {row : Option Nat} (h : Reps c sz w a cap l) (hg : w.grownBy w' row) (hne : ∀ b, a = some b → some b.block ≠ row) : Reps c sz w' a cap l := ⟨h.1, h.2.grown hg hne⟩
theorem Reps.alloc (h : Reps c sz w a cap l) (o : Obj) : Reps c sz (w.alloc o) a cap l := h.below ((Below.refl _ _).alloc (Nat.le_refl _) _)
theorem Reps.drew (h : Reps c sz w a cap l) : Reps c sz w.drew a cap l := h
theorem Reps.le (h : Reps c sz w a cap l) : l.length ≤ cap := h.2.1
theorem Reps.max (h : Reps c sz w a cap l) : cap ≤ 9223372036854775807 := by have := h.2.2.1; unfold maxLen at this; omega
end

theorem bnext {W w w1 : World} (h : Below W.heap.size W w) (h1 : Below w.heap.size w w1) : Below W.heap.size W w1 := h.trans (h1.mono h.size)
theorem bal {W w : World} (h : Below W.heap.size W w) (o : Obj) : Below W.heap.size W (w.alloc o) := h.alloc h.size o

theorem Addr.add_z (b o k : Nat) : (⟨b, o, none⟩ : Addr).add k = ⟨b, o + k, none⟩ := by
 unfold Addr.add; split <;> simp_all

theorem flat_get {α : Type} (g : α → List Value) (sz : Nat) (hg : ∀ x, (g x).length = sz) (d : α) : ∀ (l : List α) (k j : Nat), k < l.length → j < sz → (l.flatMap g)[k * sz + j]? = (g (l.getD k d))[j]?
 | [], k, j, hk, _ => by simp at hk
 | x :: r, 0, j, _, hj => by
   have : j < (g x).length := by rw [hg]; exact hj
   simp [List.getElem?_append, this]
 | x :: r, k + 1, j, hk, hj => by
   have h1 : ¬ (k + 1) * sz + j < (g x).length := by rw [hg, Nat.add_mul]; omega
   have h2 : (k + 1) * sz + j - (g x).length = k * sz + j := by rw [hg, Nat.add_mul]; omega
   rw [List.flatMap_cons, List.getElem?_append, if_neg h1, h2, flat_get g sz hg d r k j (by simpa using hk) hj]
   simp

theorem flat_len {α : Type} (g : α → List Value) (sz : Nat) (hg : ∀ x, (g x).length = sz) : ∀ l : List α, (l.flatMap g).length = l.length * sz
 | [] => by simp
 | x :: r => by rw [List.flatMap_cons, List.length_append, hg, flat_len g sz hg r, List.length_cons, Nat.add_mul]; omega

theorem Reps.cells {α : Type} {c : α → Value} {sz : Nat} {w : World} {a : Option Addr} {cap : Nat} {l : List α} (h : Reps c sz w a cap l) (hp : 0 < sz) (d : α) (k : Nat) (hk : k < l.length) :
  ∃ b o, a = some ⟨b, o, none⟩ ∧ ∀ j u, (c (l.getD k d)).cells.toList[j]? = some u → w.cell? ⟨b, o + k * sz + j, none⟩ = some u := by
 have hg : ∀ x, ((c x).cells.toList).length = sz := fun x => by simpa using h.1 x
 have h0 : ∃ u, (c (l.getD k d)).cells.toList[0]? = some u := by
  have := hg (l.getD k d)
  exact ⟨_, List.getElem?_eq_getElem (by omega)⟩
 obtain ⟨u0, hu0⟩ := h0
 have e0 := flat_get (fun x => (c x).cells.toList) sz hg d l k 0 hk hp
 obtain ⟨b, o, rfl, _⟩ := h.2.2.2.2 _ u0 (e0.trans hu0)
 refine ⟨b, o, rfl, fun j u hu => ?_⟩
 have hj : j < sz := by
  have := (List.getElem?_eq_some_iff.1 hu).1
  rw [hg] at this; exact this
 have e := flat_get (fun x => (c x).cells.toList) sz hg d l k j hk hj
 obtain ⟨b', o', e', hc⟩ := h.2.2.2.2 _ u (e.trans hu)
 simp only [Option.some.injEq, Addr.mk.injEq, and_true] at e'
 obtain ⟨rfl, rfl⟩ := e'
 rw [Nat.add_assoc]; exact hc

theorem run_loadAt_cell {P : Program} (w : World) {e : TypeId} {a : Addr} {v : Value} (hu : Flat P e) (hc : w.cell? a = some v) :
   (Instr.loadAt e (.pointer (some a))).run P w = .ok v w := by
 obtain ⟨d, hu, hd⟩ := hu
 have hagg : (isAgg e).run P w = .ok false w := by
  unfold isAgg
  rw [Sem.run_bind, run_underlying hu w]
  cases d <;> simp_all
 simp [Instr.loadAt, Instr.sureAddr, loadVar, Sem.run_bind, hagg, hc]

theorem run_loadAt_agg {P : Program} (w : World) {e : TypeId} {a : Addr} {cs : List Value} {i : TypeInfo} (hu : Aggr P e)
   (hi : P.info? e = some i) (hs : i.size = cs.length) (hc : ∀ j v, cs[j]? = some v → w.cell? (a.add j) = some v) :
   (Instr.loadAt e (.pointer (some a))).run P w = .ok (.agg cs.toArray) w := by
 obtain ⟨d, hu, hd⟩ := hu
 have hagg : (isAgg e).run P w = .ok true w := by
  unfold isAgg
  rw [Sem.run_bind, run_underlying hu w]
  cases d <;> simp_all
 have hl := run_loadCells_list (P := P) w a cs hc
 simp [Instr.loadAt, Instr.sureAddr, loadVar, Sem.run_bind, hagg, sizeOf, typeInfo, hi, hs, hl]

theorem run_indexAt_sl {P : Program} (w : World) {t e : TypeId} {z : Value} {size bytes : Nat} {a : Addr} {n cap : Nat} {k : Int} (E : ETy P t e z size bytes) (h0 : 0 ≤ k) (hk : k < n) :
   (Instr.indexAt t (.slice (some a) n cap) (.int .i64 k)).run P w = .ok (.pointer (some (a.add (k.toNat * size)))) w := by
 obtain ⟨i, hi, _, hs, _⟩ := info_parts E.inf
 have he : P.elem t = e := by simp [Program.elem, E.und]
 rw [run_indexAt_slice _ _ _ _ _ _ _ (by rw [he]; exact E.und), if_pos ⟨h0, hk⟩, he]
 simp [sizeOf, typeInfo, hi, hs]

/-- indexAddr and load of an element of one cell. -/
theorem run_idx_flat {P : Program} {α : Type} {c : α → Value} {sz bytes : Nat} {t e : TypeId} {z : Value} {w : World} {a : Option Addr} {cap : Nat} {l : List α} (d : α) {k : Int}
   (E : ETy P t e z sz bytes) (hF : Flat P e) (hR : Reps c sz w a cap l) (hc : ∀ x, (c x).cells = #[c x]) (h0 : 0 ≤ k) (hlt : k < l.length) :
   ∃ p, (Instr.indexAt t (.slice a l.length cap) (.int .i64 k)).run P w = .ok (.pointer (some p)) w ∧ (Instr.loadAt e (.pointer (some p))).run P w = .ok (c (atD d l k)) w := by
 have hkl : k.toNat < l.length := by omega
 obtain ⟨b, o, rfl, hcs⟩ := hR.cells E.pos d k.toNat hkl
 refine ⟨_, run_indexAt_sl w E h0 hlt, run_loadAt_cell w hF ?_⟩
 rw [Addr.add_z]
 have := hcs 0 (c (atD d l k)) (by rw [show l.getD k.toNat d = atD d l k from rfl, hc]; rfl)
 exact this

/-- .. of a struct. -/
theorem run_idx_agg {P : Program} {α : Type} {c : α → Value} {sz bytes : Nat} {t e : TypeId} {z : Value} {w : World} {a : Option Addr} {cap : Nat} {l : List α} (d : α) {k : Int}
   (E : ETy P t e z sz bytes) (hF : Aggr P e) (hR : Reps c sz w a cap l) (hc : ∀ x, c x = .agg (c x).cells) (h0 : 0 ≤ k) (hlt : k < l.length) :
   ∃ p, (Instr.indexAt t (.slice a l.length cap) (.int .i64 k)).run P w = .ok (.pointer (some p)) w ∧ (Instr.loadAt e (.pointer (some p))).run P w = .ok (c (atD d l k)) w := by
 have hkl : k.toNat < l.length := by omega
 obtain ⟨b, o, rfl, hcs⟩ := hR.cells E.pos d k.toNat hkl
 obtain ⟨i, hi, _, hs, _⟩ := info_parts E.inf
 refine ⟨_, run_indexAt_sl w E h0 hlt, ?_⟩
 rw [run_loadAt_agg w hF hi (cs := (c (atD d l k)).cells.toList) (by rw [hs]; simpa using (hR.1 _).symm) ?_]
 ·rw [Array.toArray_toList, ← hc]
 ·intro j v hv
  rw [Addr.add_z, Addr.add_z]
  exact hcs j v hv

section
variable {P : Program} {ops : Array Oper} {rest : List Oper} {a : Act} {Q : Exit → Act → World → Prop} {α : Type} {c : α → Value} {sz bytes : Nat} {t e : TypeId} {z : Value} {ad : Option Addr} {cap : Nat} {l : List α} {k : Int}
 {d1 d2 : Tmp} {ty1 ty2 : TypeId} {p1 p2 : String} {s x : Operand} {af1 af2 : Array Edge}

theorem wpList_two (w : World) (v1 v2 : Value) {o1 o2 : Oper} (h1 : o1.guard = none) (h2 : o2.guard = none) (hr1 : (execOp a.eval o1).run P w = .ok (.value v1) w)
   (hr2 : (execOp (a.put o1.dst v1).eval o2).run P w = .ok (.value v2) w) (hK : wpList P ops Q rest ((a.put o1.dst v1).put o2.dst v2) w) : wpList P ops Q (o1 :: o2 :: rest) a w := by
 refine wpList_plain h1 fun K hK' => ?_
 unfold Oper.wp
 rw [hr1]
 refine hK' _ _ (wpList_plain h2 fun K2 hK2 => ?_)
 unfold Oper.wp
 rw [hr2]
 exact hK2 _ _ hK

theorem exec_two {w : World} {pa : Addr} {v : Value} (hd : ∀ p, (a.put (some d1) p).eval (.tmp d1) = p)
   (hs : a.eval s = .slice ad l.length cap) (hx : a.eval x = .int .i64 k) (hr1 : (Instr.indexAt t (.slice ad l.length cap) (.int .i64 k)).run P w = .ok (.pointer (some pa)) w) (hr2 : (Instr.loadAt e (.pointer (some pa))).run P w = .ok v w) :
   (execOp a.eval ⟨some d1, .indexAddr t s x, ty1, p1, af1, none⟩).run P w = .ok (.value (.pointer (some pa))) w ∧
   (execOp (a.put (some d1) (.pointer (some pa))).eval ⟨some d2, .load e (.tmp d1), ty2, p2, af2, none⟩).run P w = .ok (.value v) w := by
 constructor
 ·simp [execOp, hs, hx, hr1, Result.andThen]
 ·simp [execOp, hd, hr2, Result.andThen]

theorem wpList_idx (w : World) (d : α) (E : ETy P t e z sz bytes) (hF : Flat P e) (hc : ∀ x, (c x).cells = #[c x])
   (hs : a.eval s = .slice ad l.length cap) (hx : a.eval x = .int .i64 k) (hR : Reps c sz w ad cap l) (h0 : 0 ≤ k) (hlt : k < l.length) (hd : ∀ p, (a.put (some d1) p).eval (.tmp d1) = p)
   (hK : ∀ p, wpList P ops Q rest ((a.put (some d1) p).put (some d2) (c (atD d l k))) w) :
   wpList P ops Q (⟨some d1, .indexAddr t s x, ty1, p1, af1, none⟩ :: ⟨some d2, .load e (.tmp d1), ty2, p2, af2, none⟩ :: rest) a w := by
 obtain ⟨p, hr1, hr2⟩ := run_idx_flat d E hF hR hc h0 hlt
 obtain ⟨q1, q2⟩ := exec_two (p1 := p1) (p2 := p2) (af1 := af1) (af2 := af2) (ty1 := ty1) (ty2 := ty2) (d2 := d2) hd hs hx hr1 hr2
 exact wpList_two w _ _ rfl rfl q1 q2 (hK _)

theorem wpList_idxS (w : World) (d : α) (E : ETy P t e z sz bytes) (hF : Aggr P e) (hc : ∀ x, c x = .agg (c x).cells)
   (hs : a.eval s = .slice ad l.length cap) (hx : a.eval x = .int .i64 k) (hR : Reps c sz w ad cap l) (h0 : 0 ≤ k) (hlt : k < l.length) (hd : ∀ p, (a.put (some d1) p).eval (.tmp d1) = p)
   (hK : ∀ p, wpList P ops Q rest ((a.put (some d1) p).put (some d2) (c (atD d l k))) w) :
   wpList P ops Q (⟨some d1, .indexAddr t s x, ty1, p1, af1, none⟩ :: ⟨some d2, .load e (.tmp d1), ty2, p2, af2, none⟩ :: rest) a w := by
 obtain ⟨p, hr1, hr2⟩ := run_idx_agg d E hF hR hc h0 hlt
 obtain ⟨q1, q2⟩ := exec_two (p1 := p1) (p2 := p2) (af1 := af1) (af2 := af2) (ty1 := ty1) (ty2 := ty2) (d2 := d2) hd hs hx hr1 hr2
 exact wpList_two w _ _ rfl rfl q1 q2 (hK _)

theorem wp_region_q {id : Nat} {w : World} {lo : List Oper} (hm : P.follows .mixedOrders = true) (hB : Region.lexB .any lo.toArray = true)
  (h : wpQuiet P lo.toArray (Below w.heap.size w) (fun a' => ∀ w', Below w.heap.size w w' → Q .normal a' w') lo a) : (Code.region id lo.toArray true).wp P Q a w :=
 wp_region_quiet (C := Below w.heap.size w) hm hB ((Below.refl _ _).drew) (by simpa using h)

theorem wpQ_oneG {C : World → Prop} {Qa : Act → Prop} {o : Oper} (v : Value) (hg : Region.wanted o (yielded ops a.tmps) = true) (hr : ∀ w', (execOp a.eval o).run P w' = .ok (.value v) w') (h : wpQuiet P ops C Qa rest (a.put o.dst v)) : wpQuiet P ops C Qa (o :: rest) a := by
 unfold wpQuiet
 rw [if_pos hg]
 refine ⟨v, fun w' _ => ?_, h⟩
 unfold Oper.quietAt
 rw [hr w']
 exact ⟨rfl, rfl⟩

theorem wpQ_in {C : World → Prop} {Qa : Act → Prop} {o : Oper} (v : Value) (hg : o.guard = none) (hr : ∀ w', C w' → (execOp a.eval o).run P w' = .ok (.value v) w') (h : wpQuiet P ops C Qa rest (a.put o.dst v)) : wpQuiet P ops C Qa (o :: rest) a := by
 unfold wpQuiet
 rw [if_pos (by simp [Region.wanted, hg])]
 refine ⟨v, fun w' hw' => ?_, h⟩
 unfold Oper.quietAt
 rw [hr w' hw']
 exact ⟨rfl, rfl⟩

end
end Go.Proofs.YtglpfpdomnllkaaGreatDoor

namespace Go.Proofs.YtglpfpdomnllkaaGreatDoor
open Go.RowKit

section
variable {P : Program} {α : Type} {c : α → Value} {sz bytes B : Nat} {t e : TypeId} {z v : Value} {w w' : World} {l : List α}

theorem own_nil (hc : ∀ x, (c x).cells.size = sz) : Own c sz B e w (.slice none 0 0) [] := ⟨hc, World.ownsRow_nil _ _ _ _⟩
theorem Own.alloc (h : Own c sz B e w v l) (o : Obj) : Own c sz B e (w.alloc o) v l := ⟨h.1, h.2.alloc o⟩
theorem Own.drew (h : Own c sz B e w v l) : Own c sz B e w.drew v l := h
theorem Own.lt (h : Own c sz B e w v l) : ∀ k, v.ownBlock = some k → B ≤ k ∧ k < w.heap.size := h.2.lt
theorem Own.kept {row : Option Nat} (h : Own c sz B e w v l) (hg : w.grownBy w' row) (hne : v.ownBlock = none ∨ v.ownBlock ≠ row) : Own c sz B e w' v l := ⟨h.1, h.2.kept hg hne⟩
theorem Own.below (h : Own c sz B e w v l) (hb : Below w.heap.size w w') : Own c sz B e w' v l := by
 obtain ⟨h1, h2, h3⟩ := h
 refine ⟨h1, h2, ?_⟩
 rcases h3 with h3 | ⟨g, cap, cur, hv, hB, hg, r⟩
 ·exact .inl h3
 ·exact .inr ⟨g, cap, cur, hv, hB, by rw [hb.block g ((Array.getElem?_eq_some_iff.1 hg).1)]; exact hg, r⟩
theorem Own.mono (h : Own c sz B e w v l) {B' : Nat} (hB : B' ≤ B) : Own c sz B' e w v l := by
 obtain ⟨h1, h2, h3⟩ := h
 refine ⟨h1, h2, ?_⟩
 rcases h3 with h3 | ⟨g, cap, cur, hv, hg, r⟩
 ·exact .inl h3
 ·exact .inr ⟨g, cap, cur, hv, by omega, r⟩
/-- An owned slice can be read; where it lies. -/
theorem Own.reps (h : Own c sz B e w v l) : ∃ a cap, v = .slice a l.length cap ∧ Reps c sz w a cap l ∧ (∀ b, a = some b → B ≤ b.block ∧ b.block < w.heap.size) ∧ v.ownBlock = a.map (·.block) := by
 obtain ⟨h1, h2, h3⟩ := h
 rcases h3 with ⟨rfl, h3⟩ | ⟨g, cap, cur, rfl, hB, hg, hnc, hcm, hs, ht⟩
 ·have : l = [] := List.eq_nil_of_length_eq_zero h3
  subst this
  exact ⟨none, 0, rfl, ⟨h1, Nat.le_refl _, Nat.zero_le _, fun _ => rfl, fun j u hu => by simp at hu⟩, (fun _ hb => by cases hb), rfl⟩
 ·refine ⟨_, cap, rfl, ⟨h1, hnc, hcm, (fun hb => by cases hb), fun j u hu => ⟨g, 0, rfl, ?_⟩⟩, fun b hb => ?_, rfl⟩
  ·rw [Nat.zero_add, cell_of_row w g j cur e (0, 0) hg]
   have hj : j < l.length * sz := by
    have := (List.getElem?_eq_some_iff.1 hu).1
    rw [h2] at this; exact this
   rw [← ht, List.getElem?_take, if_pos hj] at hu
   simpa using hu
  ·cases hb; exact ⟨hB, (Array.getElem?_eq_some_iff.1 hg).1⟩

theorem below_own' {B' : Nat} {W : World} (h : Below B' W w) (hg : w.grownBy w' v.ownBlock) (ho : Own c sz B e w v l) (hB : B' ≤ B) (hw : B' ≤ w.heap.size) : Below B' W w' :=
 h.grown hg hw (fun k hk => Nat.le_trans hB (ho.lt k hk).1)

/-- 'append(dst, src...)', src whatever it is. -/
theorem run_app (ty : TypeId) (E : ETy P t e z sz bytes) (hO : Own c sz B e w v l) {a : Option Addr} {cap : Nat} {ys : List α} (hR : Reps c sz w a cap ys) (h1 : ∀ x, ∀ u ∈ (c x).cells.toList, u.oneCell' = true)
   (hb : (l.length + ys.length) * bytes ≤ 140737488355328) (hm : l.length + ys.length ≤ 9223372036854775807) (hB : B ≤ w.heap.size) :
   ∃ v' w', (Builtin.append_ #[t, t] ty #[v, .slice a ys.length cap]).run P w = .ok v' w' ∧ Own c sz B e w' v' (l ++ ys) ∧ w.grownBy w' v.ownBlock ∧ (v'.ownBlock = v.ownBlock ∨ v'.ownBlock = some w.heap.size) := by
 obtain ⟨i, hi, hz, hs, hby⟩ := info_parts E.inf
 cases a with
 | none =>
  have hc0 := hR.2.2.2.1 rfl
  have hl := hR.le
  have : ys = [] := List.eq_nil_of_length_eq_zero (by omega)
  subst this; subst hc0
  exact ⟨v, w, run_append_owned_none w B t ty e i sz E.und hi v _ _ hO.2, by simpa using hO, World.grownBy.refl w _, .inl rfl⟩
 | some ad =>
  have hlen : (ys.flatMap fun x => (c x).cells.toList).length = ys.length * sz := flat_len _ sz (fun x => by simpa using hR.1 x) ys
  obtain ⟨v', w', r1, r2, r3, _, r5⟩ := run_append_own_at (P := P) w B t ty e i z sz bytes E.und hi hz hs hby E.cel E.pos v l.length _ hO.2 ad ys.length cap _ hlen
   (fun j u hu => by
    obtain ⟨b, o, e1, hc⟩ := hR.2.2.2.2 j u hu
    cases e1; rw [Addr.add_z]; exact hc)
   (fun u hu => by
    obtain ⟨x, _, hx⟩ := List.mem_flatMap.1 hu
    exact h1 x u hx)
   (by unfold maxLen; omega) hb hB
  exact ⟨v', w', r1, ⟨hO.1, by simpa using r2⟩, r3, r5⟩

theorem wpList_app {ops : Array Oper} {rest : List Oper} {a : Act} {Q : Exit → Act → World → Prop} {d : Option Tmp} {ty : TypeId} {p : String} {s x : Operand} {af : Array Edge} {ad : Option Addr} {cap : Nat} {ys : List α} (E : ETy P t e z sz bytes)
   (hs : a.eval s = v) (hx : a.eval x = .slice ad ys.length cap) (hO : Own c sz B e w v l) (hR : Reps c sz w ad cap ys) (h1 : ∀ x, ∀ u ∈ (c x).cells.toList, u.oneCell' = true)
   (hb : (l.length + ys.length) * bytes ≤ 140737488355328) (hB : B ≤ w.heap.size) (hm : l.length + ys.length ≤ 9223372036854775807)
   (hK : ∀ v' w', Own c sz B e w' v' (l ++ ys) → w.grownBy w' v.ownBlock → (v'.ownBlock = v.ownBlock ∨ v'.ownBlock = some w.heap.size) → wpList P ops Q rest (a.put d v') w') :
   wpList P ops Q (⟨d, .call { callee := .builtin .append, args := #[s, x], argTypes := #[t, t] }, ty, p, af, none⟩ :: rest) a w := by
 refine wpList_plain rfl fun K hK' => ?_
 obtain ⟨v', w', r1, r2, r3, r4⟩ := run_app ty E hO hR h1 hb hm hB
 unfold Oper.wp execOp
 simp only [resolve, invoke, builtin, Sem.run_bind, Sem.run_pure, Result.andThen_ok, List.map_toArray, List.map_cons, List.map_nil, hs, hx, r1]
 exact hK' _ _ (hK v' w' r2 r3 r4)

theorem sl_new (cs : Array Value) (n : Nat) (fr : Nat × Nat) (hn : n ≤ maxLen) : Sl (w.alloc (.cells cs e fr)) (some ⟨w.heap.size, 0, none⟩) n n cs.toList := by
 refine ⟨Nat.le_refl _, hn, (fun h => by cases h), fun j u hu => ⟨w.heap.size, 0, rfl, ?_⟩⟩
 rw [Nat.zero_add, cell_of_row _ w.heap.size j cs e fr (heap_alloc_new w _)]
 simpa using hu

theorem reps_new1 (hc : ∀ x, (c x).cells.size = sz) (y : α) (cs : Array Value) (fr : Nat × Nat) {H : Nat} (hH : w.heap.size = H) (h : cs.toList = (c y).cells.toList) : Reps c sz (w.alloc (.cells cs e fr)) (some ⟨H, 0, none⟩) 1 [y] := by
 subst hH
 exact ⟨hc, by simpa [h] using sl_new (w := w) (e := e) cs 1 fr (by decide)⟩
theorem reps_newN (hc : ∀ x, (c x).cells.size = sz) (ys : List α) (n : Nat) (hn : n = ys.length) (hm : n ≤ maxLen) (cs : Array Value) (fr : Nat × Nat) {H : Nat} (hH : w.heap.size = H) (h : cs.toList = ys.flatMap fun x => (c x).cells.toList) : Reps c sz (w.alloc (.cells cs e fr)) (some ⟨H, 0, none⟩) n ys := by
 subst hH
 subst hn
 exact ⟨hc, by rw [← h]; exact sl_new (w := w) (e := e) cs _ fr hm⟩

theorem set_flat1 (hc1 : ∀ x, (c x).cells = #[c x]) (x : α) : ∀ (l : List α) (k : Nat), (l.flatMap fun x => (c x).cells.toList).set k (c x) = (l.set k x).flatMap fun x => (c x).cells.toList := by
 intro l k
 have h : ∀ l : List α, (l.flatMap fun x => (c x).cells.toList) = l.map c := fun l => by
  induction l with
  | nil => rfl
  | cons y r ih => rw [List.flatMap_cons, ih, hc1]; simp
 rw [h, h, List.map_set]

/-- a store of an element of one cell into an owned slice. -/
theorem own_store {a : Option Addr} {cap : Nat} (hc1 : ∀ x, (c x).cells = #[c x]) (hO : Own c 1 B e w (.slice a l.length cap) l) (x : α) (k : Int) (h0 : 0 ≤ k) (hk : k < l.length) :
   ∃ g, a = some ⟨g, 0, none⟩ ∧ B ≤ g ∧ (w.cell? ⟨g, k.toNat, none⟩).isSome = true ∧ w.frozen? ⟨g, k.toNat, none⟩ = false ∧
     Own c 1 B e (w.setCell ⟨g, k.toNat, none⟩ (c x)) (.slice a l.length cap) (l.set k.toNat x) ∧ w.grownBy (w.setCell ⟨g, k.toNat, none⟩ (c x)) (some g) := by
 obtain ⟨h1, h2⟩ := hO
 rcases h2.2 with ⟨h3, h4⟩ | ⟨g, cap', cur, hv, hB, hg, r⟩
 ·omega
 ·simp only [Value.slice.injEq, true_and] at hv
  obtain ⟨rfl, rfl⟩ := hv
  have hs := h2.stored k.toNat (c x)
  have hca := h2.cellAt k.toNat (by omega)
  refine ⟨g, rfl, hB, ?_, h2.frozenAt _, ⟨h1, ?_⟩, hs.2⟩
  ·rw [hca, List.getElem?_eq_getElem (by rw [h2.1]; omega)]; rfl
  ·rw [List.length_set, ← set_flat1 hc1]; exact hs.1

end
end Go.Proofs.YtglpfpdomnllkaaGreatDoor

namespace Go.Proofs.YtglpfpdomnllkaaGreatDoor
open Go.RowKit

def cInt : Int → Value := Value.int .i64
def cBool : Bool → Value := Value.bool
def cStr : ByteArray → Value := Value.string
attribute [go_sem] cInt cBool cStr
theorem cInt1 (x : Int) : (cInt x).cells = #[cInt x] := rfl
theorem cBool1 (x : Bool) : (cBool x).cells = #[cBool x] := rfl
theorem cIntS (x : Int) : (cInt x).cells.size = 1 := rfl
theorem cStrS (x : ByteArray) : (cStr x).cells.size = 1 := rfl
theorem cIntO (x : Int) : ∀ u ∈ (cInt x).cells.toList, u.oneCell' = true := by intro u hu; simp [cInt, Value.cells] at hu; subst hu; rfl

abbrev Ints (w : World) (a : Option Addr) (cap : Nat) (l : List Int) : Prop := Reps cInt 1 w a cap l
abbrev OwnI (B : Nat) (w : World) (v : Value) (l : List Int) : Prop := Own cInt 1 B 3 w v l

theorem E_ints : ETy Tryz.prog 22 3 (.int .i64 0) 1 8 := ⟨Tryz.underlying22, by kernel_rfl, rfl, by decide⟩
theorem F_int : Flat Tryz.prog 3 := ⟨_, Tryz.underlying3, rfl⟩
theorem E_errs : ETy Tryz.prog 90 26 (.int .i64 0) 1 8 := ⟨Tryz.underlying90, by kernel_rfl, rfl, by decide⟩
theorem F_err : Flat Tryz.prog 26 := ⟨_, Tryz.underlying26, rfl⟩

/-- A list of ints and an error came back. -/
def RetLE (W : World) (L : List Int) (e : Int) (r : Ending) (w' : World) : Prop :=
 ∃ a cap, r = .returned (.tuple #[.slice a L.length cap, .int .i64 e]) ∧ Ints w' a cap L ∧ (∀ b, a = some b → W.heap.size ≤ b.block) ∧ Below W.heap.size W w'
theorem RetLE.mk {W w' : World} {L : List Int} {e : Int} {r : Ending} (a : Option Addr) (cap : Nat) (h1 : r = .returned (.tuple #[.slice a L.length cap, .int .i64 e])) (h2 : Ints w' a cap L) (h3 : ∀ b, a = some b → W.heap.size ≤ b.block) (h4 : Below W.heap.size W w') : RetLE W L e r w' :=
 ⟨a, cap, h1, h2, h3, h4⟩
theorem ints_nil (w : World) : Ints w none 0 [] := ⟨cIntS, Nat.le_refl _, Nat.zero_le _, fun _ => rfl, fun j u hu => by simp at hu⟩
theorem RetLE.none {W w' : World} {e : Int} {r : Ending} (h1 : r = .returned (.tuple #[.slice none 0 0, .int .i64 e])) (h4 : Below W.heap.size W w') : RetLE W [] e r w' :=
 ⟨.none, 0, h1, ints_nil _, (fun _ h => by cases h), h4⟩
theorem RetLE.own {W w' : World} {L : List Int} {e : Int} {r : Ending} {B : Nat} (v : Value) (h1 : r = .returned (.tuple #[v, .int .i64 e])) (h2 : OwnI B w' v L) (hB : W.heap.size ≤ B) (h4 : Below W.heap.size W w') : RetLE W L e r w' := by
 obtain ⟨a, cap, rfl, hr, hf, _⟩ := h2.reps
 exact ⟨a, cap, h1, hr, fun b hb => Nat.le_trans hB (hf b hb).1, h4⟩
theorem RetLE.out {W w' : World} {L : List Int} {e : Int} {r : Ending} (h : RetLE W L e r w') : ∃ a cap, r = .returned (.tuple #[.slice a L.length cap, .int .i64 e]) ∧ Ints w' a cap L ∧ (∀ b, a = some b → W.heap.size ≤ b.block) ∧ Below W.heap.size W w' := h

def cPair (m : Int × Int) : Value := .agg #[.int .i64 m.1, .int .i64 m.2]
attribute [go_sem] cPair
theorem cPairS (x : Int × Int) : (cPair x).cells.size = 2 := rfl
abbrev Pairs (w : World) (a : Option Addr) (cap : Nat) (l : List (Int × Int)) : Prop := Reps cPair 2 w a cap l
end Go.Proofs.YtglpfpdomnllkaaGreatDoor

namespace Go.Proofs.YtglpfpdomnllkaaGreatDoor
open Go.RowKit
end Go.Proofs.YtglpfpdomnllkaaGreatDoor

namespace Go.Proofs.YtglpfpdomnllkaaGreatDoor
open Go.RowKit
set_option maxRecDepth 100000

theorem wpList_make1 {P : Program} {α : Type} {c : α → Value} {bytes B : Nat} {t e : TypeId} {w : World} {ops : Array Oper} {rest : List Oper} {a : Act} {Q : Exit → Act → World → Prop} {d : Option Tmp} {ty : TypeId} {p : String} {x y : Operand} {af : Array Edge} (n : Nat) (z0 : α)
  (E : ETy P t e (c z0) 1 bytes) (hc : ∀ x, (c x).cells = #[c x]) (hx : a.eval x = .int .i64 n) (hy : a.eval y = .int .i64 n) (hb : bytes * n ≤ 281474976710656) (hm : n ≤ 9223372036854775807) (hB : B ≤ w.heap.size)
  (hK : ∀ w', Own c 1 B e w' (.slice (some ⟨w.heap.size, 0, none⟩) n n) (List.replicate n z0) → w.grownBy w' none → wpList P ops Q rest (a.put d (.slice (some ⟨w.heap.size, 0, none⟩) n n)) w') :
  wpList P ops Q (⟨d, .makeSlice t x y, ty, p, af, none⟩ :: rest) a w := by
 obtain ⟨i, hi, hz, hs, hby⟩ := info_parts E.inf
 refine wpList_make_full w rfl x y t rfl B e i (c z0) 1 E.und hi hz hs .i64 .i64 n n n hx hy rfl rfl (by rw [hby]; exact hb) (by unfold maxLen; omega) hB (fun w' ho hg => hK w' ⟨fun u => by rw [hc]; rfl, ?_⟩ hg)
 have e1 : (madeCells (c z0).cells (n * 1)).toList = List.replicate n (c z0) := by rw [hc, Nat.mul_one]; exact toList_madeCells_one _ _
 have e2 : ((List.replicate n z0).flatMap fun x => (c x).cells.toList) = List.replicate n (c z0) := by
  have aux : ∀ m : Nat, ((List.replicate m z0).flatMap fun x => (c x).cells.toList) = List.replicate m (c z0) := by
   intro m
   induction m with
   | zero => rfl
   | succ m ih => rw [List.replicate_succ, List.flatMap_cons, ih, hc, List.replicate_succ]; rfl
  exact aux n
 rw [e2, List.length_replicate, ← e1]
 exact ho

theorem own_newN {α : Type} {c : α → Value} {sz B : Nat} {e : TypeId} {w : World} (hc : ∀ x, (c x).cells.size = sz) (ys : List α) (n : Nat) (hn : n = ys.length) (hm : n ≤ maxLen) (cs : Array Value) {H : Nat} (hH : w.heap.size = H) (hB : B ≤ H) (h : cs.toList = ys.flatMap fun x => (c x).cells.toList) :
  Own c sz B e (w.alloc (.cells cs e)) (.slice (some ⟨H, 0, none⟩) n n) ys := by
 subst hH
 subst hn
 have hl : (ys.flatMap fun x => (c x).cells.toList).length = ys.length * sz := flat_len _ sz (fun x => by simpa using hc x) ys
 refine ⟨hc, hl, .inr ⟨w.heap.size, ys.length, cs, rfl, hB, heap_alloc_new w _, Nat.le_refl _, hm, ?_, ?_⟩⟩
 ·rw [← hl, ← h]; simp
 ·rw [← hl, ← h]; exact List.take_of_length_le (by simp)
end Go.Proofs.YtglpfpdomnllkaaGreatDoor

namespace Go.Proofs.YtglpfpdomnllkaaGreatDoor
open Go.RowKit Go.Maps
set_option maxRecDepth 100000

theorem keyI : Keyed Tryz.prog 3 := int_keyed Tryz.underlying3
def InI (k : Int) : Prop := -9223372036854775808 ≤ k ∧ k ≤ 9223372036854775807
theorem InI.wf {k : Int} (h : InI k) : (Lit.int .i64 k).wf = true := by
 unfold InI at h
 exact WalkArith.wf_i64 (by omega)
theorem keyOfI {k : Int} (h : InI k) : keyOf Tryz.prog 3 (.int .i64 k) = some (.int .i64 k) := keyOf_int_mk Tryz.underlying3 h.wf

def MapB (w : World) (b n : Nat) (f : Int → Bool) : Prop :=
 ∃ D : DataW Unit, w.ownsMap Tryz.prog 3 (plainElem Tryz.prog 4) b n D ∧ ∀ k, InI k → D.atKey (.int .i64 k) (.lit (.bool false)) = .lit (.bool (f k))
def MapI (w : World) (b n : Nat) (f : Int → Int) : Prop :=
 ∃ D : DataW Unit, w.ownsMap Tryz.prog 3 (plainElem Tryz.prog 3) b n D ∧ ∀ k, InI k → D.atKey (.int .i64 k) (.lit (.int .i64 0)) = .lit (.int .i64 (f k))

theorem zeroB (w : World) : (zeroValue 4).run Tryz.prog w = .ok (.bool false) w := by kernel_rfl
theorem mapB_made (w : World) : MapB (w.alloc (.map #[] 0)) w.heap.size 0 (fun _ => false) :=
 ⟨.map [], World.ownsMap_made _ _ _ _, fun _ _ => rfl⟩
theorem MapB.kept {w w' : World} {b n : Nat} {f : Int → Bool} {row : Option Nat} (h : MapB w b n f) (hg : w.grownBy w' row) (hne : some b ≠ row) : MapB w' b n f := by
 obtain ⟨D, h1, h2⟩ := h; exact ⟨D, h1.kept hg hne, h2⟩
theorem MapI.kept {w w' : World} {b n : Nat} {f : Int → Int} {row : Option Nat} (h : MapI w b n f) (hg : w.grownBy w' row) (hne : some b ≠ row) : MapI w' b n f := by
 obtain ⟨D, h1, h2⟩ := h; exact ⟨D, h1.kept hg hne, h2⟩
theorem MapB.below {w w' : World} {b n : Nat} {f : Int → Bool} (h : MapB w b n f) (hb : Below w.heap.size w w') : MapB w' b n f := by
 obtain ⟨D, h1, h2⟩ := h
 exact ⟨D, h1.kept (row := none) ⟨hb.os, hb.tape, hb.output, hb.size, fun k hk _ => hb.block k hk⟩ (by simp), h2⟩
theorem MapI.below {w w' : World} {b n : Nat} {f : Int → Int} (h : MapI w b n f) (hb : Below w.heap.size w w') : MapI w' b n f := by
 obtain ⟨D, h1, h2⟩ := h
 exact ⟨D, h1.kept (row := none) ⟨hb.os, hb.tape, hb.output, hb.size, fun k hk _ => hb.block k hk⟩ (by simp), h2⟩
theorem MapB.alloc {w : World} {b n : Nat} {f : Int → Bool} (h : MapB w b n f) (o : Obj) : MapB (w.alloc o) b n f := h.below ((Below.refl _ _).alloc (Nat.le_refl _) _)
theorem MapI.alloc {w : World} {b n : Nat} {f : Int → Int} (h : MapI w b n f) (o : Obj) : MapI (w.alloc o) b n f := h.below ((Below.refl _ _).alloc (Nat.le_refl _) _)
theorem MapB.lt {w : World} {b n : Nat} {f : Int → Bool} (h : MapB w b n f) : b < w.heap.size := by obtain ⟨D, h1, _⟩ := h; exact h1.lt
theorem MapI.lt {w : World} {b n : Nat} {f : Int → Int} (h : MapI w b n f) : b < w.heap.size := by obtain ⟨D, h1, _⟩ := h; exact h1.lt

theorem plainElem_bool_inv {v : Value} {z : DataW Unit × List MemPlace} (h : plainElem Tryz.prog 4 v = some z) : ∃ a, v = .bool a ∧ z = (.lit (.bool a), []) := by
 unfold plainElem at h
 rw [Tryz.underlying4] at h
 cases v <;> simp at h
 exact ⟨_, rfl, h.symm⟩

theorem MapB.look {w : World} {b n : Nat} {f : Int → Bool} (h : MapB w b n f) {k : Int} (hk : InI k) : (Instr.lookup 145 (.map (some b)) (.int .i64 k) false).run Tryz.prog w = .ok (.bool (f k)) w := by
 obtain ⟨D, h1, h2⟩ := h
 obtain ⟨v, ps, hrun, hv⟩ := h1.lookup keyI Tryz.underlying145 (zeroB w) (plainElem_bool Tryz.underlying4 false) (keyOfI hk)
 obtain ⟨x, rfl, hx⟩ := plainElem_bool_inv hv
 rw [h2 k hk] at hx
 simp only [Prod.mk.injEq, DataW.lit.injEq, Lit.bool.injEq] at hx
 rw [hrun, hx.1]

theorem MapB.put {w : World} {b n : Nat} {f : Int → Bool} (h : MapB w b n f) {k : Int} (hk : InI k) (v : Bool) (hn : n < maxLen) :
   ∃ w', (Instr.mapUpdate 145 (.map (some b)) (.int .i64 k) (.bool v)).run Tryz.prog w = .ok () w' ∧ MapB w' b (n + 1) (fun x => if x = k then v else f x) ∧ w.grownBy w' (some b) := by
 obtain ⟨D, h1, h2⟩ := h
 obtain ⟨w', hrun, ho, hg⟩ := h1.update keyI Tryz.underlying145 hn (keyOfI hk) (plainElem_bool Tryz.underlying4 v)
 refine ⟨w', hrun, ⟨_, ho, fun j hj => ?_⟩, hg⟩
 by_cases e : j = k
 ·subst e
  rw [atKey_put_same h1.isMap (keyI.key (keyOfI hk))]; simp
 ·rw [atKey_put_other (by simpa using e), h2 j hj]; simp [e]

section
variable {ops : Array Oper} {rest : List Oper} {a : Act} {Q : Exit → Act → World → Prop} {d : Option Tmp} {ty : TypeId} {p : String} {m x y : Operand} {af : Array Edge} {g : Option (Nat × Bool)} {b n : Nat} {k : Int}
theorem wpList_lookB {w : World} {f : Int → Bool} (hm : a.eval m = .map (some b)) (hx : a.eval x = .int .i64 k) (h : MapB w b n f) (hk : InI k)
   (hg : Region.wanted (⟨d, .lookup 145 m x false, ty, p, af, g⟩ : Oper) (yielded ops a.tmps) = true) (hK : wpList Tryz.prog ops Q rest (a.put d (.bool (f k))) w) :
   wpList Tryz.prog ops Q (⟨d, .lookup 145 m x false, ty, p, af, g⟩ :: rest) a w := by
 refine wpList_step fun K hK' => ?_
 rw [if_pos hg]
 unfold Oper.wp
 simp [execOp, hm, hx, h.look hk, Result.andThen]
 exact hK' _ _ hK
theorem wpList_putB {w : World} {f : Int → Bool} {v : Bool} (hm : a.eval m = .map (some b)) (hx : a.eval x = .int .i64 k) (hy : a.eval y = .bool v) (h : MapB w b n f) (hk : InI k) (hn : n < maxLen)
   (hK : ∀ w', MapB w' b (n + 1) (fun x => if x = k then v else f x) → w.grownBy w' (some b) → wpList Tryz.prog ops Q rest (a.put d undef) w') :
   wpList Tryz.prog ops Q (⟨d, .mapUpdate 145 m x y, ty, p, af, none⟩ :: rest) a w := by
 refine wpList_plain rfl fun K hK' => ?_
 obtain ⟨w', hrun, h1, h2⟩ := h.put hk v hn
 unfold Oper.wp
 simp [execOp, hm, hx, hy, hrun, Result.andThen]
 exact hK' _ _ (hK w' h1 h2)
end
end Go.Proofs.YtglpfpdomnllkaaGreatDoor

namespace Go.Proofs.YtglpfpdomnllkaaGreatDoor
open Go.RowKit
set_option maxHeartbeats 400000
set_option maxRecDepth 100000

theorem when_any (b : Bool) (e : Int) (w : World) :
  Calls Tryz.prog 63 #[.bool b, .int .i64 e] w fun r w' => r = .returned (.int .i64 (if b then e else 0)) ∧ w = w' := by
 cases b
 ·go_enter Tryz.func63, Tryz.ntmps63
  go_wp2
  go_ret
  exact ⟨rfl, rfl⟩
 ·go_enter Tryz.func63, Tryz.ntmps63
  go_wp2
  go_ret
  exact ⟨rfl, rfl⟩

/-- the first error of a list. -/
def firstE (l : List Int) : Int := (l.find? (· != 0)).getD 0
theorem firstE_drop (l : List Int) (k : Nat) (h : k < l.length) : firstE (l.drop k) = if atD 0 l k != 0 then atD 0 l k else firstE (l.drop (k + 1)) := by
 have e : l.drop k = l[k] :: l.drop (k + 1) := List.drop_eq_getElem_cons h
 have e2 : atD 0 l k = l[k] := by simp [atD, h]
 rw [e, e2]
 simp only [firstE, List.find?_cons]
 cases h1 : (l[k] != 0) <;> simp
@[go_sem] theorem firstE_nil : firstE [] = 0 := rfl
@[go_sem] theorem firstE_cons (x : Int) (l : List Int) : firstE (x :: l) = if x = 0 then firstE l else x := by
 unfold firstE; rw [List.find?_cons]; by_cases h : x = 0
 ·simp [h]
 ·have : (x != 0) = true := by simpa using h
  rw [this]; simp [h]
theorem firstE_end (l : List Int) : firstE (l.drop l.length) = 0 := by simp [firstE]

theorem first_any (a : Option Addr) (cap : Nat) (l : List Int) (w : World) (h : Ints w a cap l) :
  Calls Tryz.prog 62 #[.slice a l.length cap] w fun r w' => r = .returned (.int .i64 (firstE l)) ∧ w = w' := by
 have hcap := h.le
 have hm := h.max
 go_enter Tryz.func62, Tryz.ntmps62
 go_wp2
 go_loop [7] (fun i => ∃ k : Nat, k ≤ l.length ∧ i = .int .i64 k ∧ firstE (l.drop k) = firstE l) (fun i => l.length - (intOf i).toNat)
 case atStart => exact ⟨0, by omega, rfl, by simp⟩
 case round =>
  obtain ⟨k, hk, rfl, hf⟩ := hrel
  by_cases hlt : k < l.length
  ·have hs := firstE_drop l k hlt
   have HF := hid hf; clear hf
   have HS := hid hs; clear hs
   go_wp2_with (with_reducible refine wpList_idx _ 0 E_errs F_err cInt1 wU wU (h) oD oD (fun _ => wU) (fun _ => ?_))
   ·go_ret
    have h1 : (atD 0 l k != 0) = true := by assumption
    refine ⟨?_, rfl⟩
    have := HS.out; rw [HF.out, h1, if_pos rfl] at this; rw [this]; rfl
   ·go_round
    case rel =>
     have h1 : (atD 0 l k != 0) = false := by assumption
     refine ⟨k + 1, by omega, by go_num, ?_⟩
     have := HS.out; rw [HF.out, h1] at this; exact this.symm
    case measure => simp [intOf]; omega
  ·have : k = l.length := by omega
   subst this
   rw [firstE_end] at hf
   have HF := hid hf; clear hf
   go_wp2
   go_ret
   exact ⟨by rw [← HF.out]; rfl, rfl⟩
end Go.Proofs.YtglpfpdomnllkaaGreatDoor

namespace Go.Proofs.YtglpfpdomnllkaaGreatDoor
open Go.RowKit
set_option maxHeartbeats 400000
set_option maxRecDepth 100000

def standGo : List Int → List Int → Int
 | _, [] => 0
 | seen, x :: r => if x < 0 ∨ 64 < x then 3 else if x ≠ 0 ∧ x ∈ seen then 9 else standGo (seen ++ [x]) r
def checkStand (l : List Int) : Int := if l.length < 4 then 2 else if 64 < l.length then 5 else standGo [] l

end Go.Proofs.YtglpfpdomnllkaaGreatDoor

namespace Go.Proofs.YtglpfpdomnllkaaGreatDoor
open Go.RowKit
set_option maxHeartbeats 400000
set_option maxRecDepth 100000

def cFn (q : FuncId × Array Value) : Value := .func (.func q.1) #[] q.2
attribute [go_sem] cFn
@[go_sem] theorem atD_at0 {α : Type} (d x : α) (l : List α) : atD d (x :: l) 0 = x := rfl
@[go_sem] theorem atD_at1 {α : Type} (d x y : α) (l : List α) : atD d (x :: y :: l) 1 = y := rfl
@[go_sem] theorem atD_at2 {α : Type} (d x y z : α) (l : List α) : atD d (x :: y :: z :: l) 2 = z := rfl

end Go.Proofs.YtglpfpdomnllkaaGreatDoor

namespace Go.Proofs.YtglpfpdomnllkaaGreatDoor
open Go.RowKit
set_option maxHeartbeats 400000
set_option maxRecDepth 100000

def inB (l : List Int) (i : Int) : Bool := decide (0 ≤ i) && decide (i < l.length)
/-- the rule that refuses a move from f to t, or 0. -/
def legalN (l : List Int) (f t : Int) : Int := if inB l f && inB l t then if atD 0 l f != 0 then if atD 0 l t == 0 then 0 else 3 else 2 else 1

end Go.Proofs.YtglpfpdomnllkaaGreatDoor

namespace Go.Proofs.YtglpfpdomnllkaaGreatDoor
open Go.RowKit
set_option maxHeartbeats 400000
set_option maxRecDepth 100000

/-- the list after a move. -/
def nextL (l : List Int) (f t : Int) : List Int := (l.set t.toNat (atD 0 l f)).set f.toNat 0

end Go.Proofs.YtglpfpdomnllkaaGreatDoor

namespace Go.Proofs.YtglpfpdomnllkaaGreatDoor
open Go.RowKit
set_option maxHeartbeats 400000
set_option maxRecDepth 100000

def manyE (n : Nat) : Int := if 1000 < n then 5 else 0
end Go.Proofs.YtglpfpdomnllkaaGreatDoor

namespace Go.Proofs.YtglpfpdomnllkaaGreatDoor
open Go.RowKit
set_option maxHeartbeats 400000
set_option maxRecDepth 100000

def replayGo : List Int → List (Int × Int) → Nat → List (Int × Int) → List Int × List (Int × Int)
 | s, [], _, aside => (s, aside)
 | s, m :: r, k, aside => if legalN s m.1 m.2 = 0 then replayGo (nextL s m.1 m.2) r (k + 1) aside else replayGo s r (k + 1) (aside ++ [((k : Int) + 1, legalN s m.1 m.2)])
def replayL (l : List Int) (ms : List (Int × Int)) : List Int × List (Int × Int) := replayGo l ms 0 []

theorem nextL_len (l : List Int) (f t : Int) : (nextL l f t).length = l.length := by simp [nextL]
abbrev OwnP (B : Nat) (e : TypeId) (w : World) (v : Value) (l : List (Int × Int)) : Prop := Own cPair 2 B e w v l
end Go.Proofs.YtglpfpdomnllkaaGreatDoor

namespace Go.Proofs.YtglpfpdomnllkaaGreatDoor
open Go.RowKit
theorem below_drewN {w w1 : World} (h : ∃ n, w1 = w.drewN n) : Below w.heap.size w w1 := by
 obtain ⟨n, rfl⟩ := h
 exact ⟨rfl, rfl, rfl, Nat.le_refl _, fun _ _ => rfl⟩
section
variable {P : Program} {ops : Array Oper} {rest : List Oper} {a : Act} {α : Type} {c : α → Value} {sz bytes : Nat} {t e : TypeId} {z : Value} {ad : Option Addr} {cap : Nat} {l : List α} {k : Int}
 {d1 d2 : Tmp} {ty1 ty2 : TypeId} {p1 p2 : String} {s x : Operand} {af1 af2 : Array Edge} {Qa : Act → Prop} {w : World}
theorem wpQD_idx (d : α) (E : ETy P t e z sz bytes) (hF : Flat P e) (hc : ∀ x, (c x).cells = #[c x])
   (hs : a.eval s = .slice ad l.length cap) (hx : a.eval x = .int .i64 k) (hR : Reps c sz w ad cap l) (h0 : 0 ≤ k) (hlt : k < l.length) (hd : ∀ p, (a.put (some d1) p).eval (.tmp d1) = p)
   (hK : ∀ p, wpQuiet P ops (fun w' => ∃ n, w' = w.drewN n) Qa rest ((a.put (some d1) p).put (some d2) (c (atD d l k)))) :
   wpQuiet P ops (fun w' => ∃ n, w' = w.drewN n) Qa (⟨some d1, .indexAddr t s x, ty1, p1, af1, none⟩ :: ⟨some d2, .load e (.tmp d1), ty2, p2, af2, none⟩ :: rest) a := by
 have hkl : k.toNat < l.length := by omega
 obtain ⟨b, o, rfl, hcs⟩ := hR.cells E.pos d k.toNat hkl
 have hcell := hcs 0 (c (atD d l k)) (by rw [show l.getD k.toNat d = atD d l k from rfl, hc]; rfl)
 refine wpQ_in (.pointer (some ((⟨b, o, none⟩ : Addr).add (k.toNat * sz)))) rfl (fun w' hw' => ?_) (wpQ_in (c (atD d l k)) rfl (fun w' hw' => ?_) (hK _))
 ·have h1 := run_indexAt_sl (P := P) (a := ⟨b, o, none⟩) (cap := cap) w' E h0 hlt
  simp [execOp, hs, hx, h1, Result.andThen]
 ·have h2 := run_loadAt_cell (P := P) w' (a := (⟨b, o, none⟩ : Addr).add (k.toNat * sz)) (v := c (atD d l k)) hF (by
   rw [Addr.add_z]
   have hb := below_drewN hw'
   exact (hb.cell (World.block_lt_of_cell? w _ hcell)).trans hcell)
  simp [execOp, hd, h2, Result.andThen]
theorem wpList_idxN {Q : Exit → Act → World → Prop} {n : Nat} (w : World) (d : α) (E : ETy P t e z sz bytes) (hF : Flat P e) (hc : ∀ x, (c x).cells = #[c x])
   (hs : a.eval s = .slice ad n cap) (hx : a.eval x = .int .i64 k) (hR : Reps c sz w ad cap l) (hn : l.length = n) (h0 : 0 ≤ k) (hlt : k < n) (hd : ∀ p, (a.put (some d1) p).eval (.tmp d1) = p)
   (hK : ∀ p, wpList P ops Q rest ((a.put (some d1) p).put (some d2) (c (atD d l k))) w) :
   wpList P ops Q (⟨some d1, .indexAddr t s x, ty1, p1, af1, none⟩ :: ⟨some d2, .load e (.tmp d1), ty2, p2, af2, none⟩ :: rest) a w := by
 subst hn
 exact wpList_idx w d E hF hc hs hx hR h0 hlt hd hK
end
end Go.Proofs.YtglpfpdomnllkaaGreatDoor

namespace Go.Proofs.YtglpfpdomnllkaaGreatDoor
open Go.RowKit
section
variable {P : Program} {ops : Array Oper} {rest : List Oper} {a : Act} {α : Type} {c : α → Value} {sz bytes n : Nat} {t e : TypeId} {z : Value} {ad : Option Addr} {cap : Nat} {l : List α} {k : Int}
 {d1 d2 : Tmp} {ty1 ty2 : TypeId} {p1 p2 : String} {s x : Operand} {af1 af2 : Array Edge} {g1 g2 : Option (Nat × Bool)} {Qa : Act → Prop} {w : World}
theorem wpQ_inG {C : World → Prop} {o : Oper} (v : Value) (hg : Region.wanted o (yielded ops a.tmps) = true) (hr : ∀ w', C w' → (execOp a.eval o).run P w' = .ok (.value v) w') (h : wpQuiet P ops C Qa rest (a.put o.dst v)) : wpQuiet P ops C Qa (o :: rest) a := by
 unfold wpQuiet
 rw [if_pos hg]
 refine ⟨v, fun w' hw' => ?_, h⟩
 unfold Oper.quietAt
 rw [hr w' hw']
 exact ⟨rfl, rfl⟩
end
end Go.Proofs.YtglpfpdomnllkaaGreatDoor

namespace Go.Proofs.YtglpfpdomnllkaaGreatDoor
open Go.RowKit
set_option maxHeartbeats 1000000
set_option maxRecDepth 100000

def markOf (D : Nat) : Deferred := { target := .collected D, args := #[] }
/-- what stays true when blocks that are no cells, from B on, turn. -/
def Stays (B : Nat) (I : World → Prop) : Prop := ∀ (W : World) (r : Nat) (o o' : Obj), I W → B ≤ r → W.heap[r]? = some o → o.isCells = false → I (W.putObj r o')
/-- the marks that a frame bears. -/
def Marks (B : Nat) (ds : List Deferred) (w : World) : Prop := ∃ Ds : List Nat, ds = Ds.map markOf ∧ Ds.Nodup ∧ ∀ D ∈ Ds, B ≤ D ∧ w.heap[D]? = some (.deferred (some []))

theorem marks_leave {P : Program} {F : Fence} {n B : Nat} {fn : Func} {tmps : Array Value} {R : Ending → World → Prop} {v : Value} {I : World → Prop} (hI : Stays B I) (hres : ∀ W, (results fn tmps).run P W = .ok v W) (hR : ∀ W, I W → R (.returned v) W) :
  ∀ (Ds : List Nat) (w : World), I w → Ds.Nodup → (∀ D ∈ Ds, B ≤ D ∧ w.heap[D]? = some (.deferred (some []))) → LeavesInM F n P fn tmps R (Ds.map markOf) .returning w
 | [], w, h, _, _ => ⟨v, hres w, hR w h⟩
 | D :: Ds, w, h, hn, hD => by
   obtain ⟨hB, hd⟩ := hD D List.mem_cons_self
   refine ⟨by simp, .inl ⟨D, w.putObj D (.deferred none), rfl, run_takeDeferred hd, ?_⟩⟩
   refine marks_leave hI hres hR Ds _ (hI w D _ _ h hB hd rfl) (List.nodup_cons.1 hn).2 (fun E hE => ?_)
   have hne : E ≠ D := fun e => (List.nodup_cons.1 hn).1 (e ▸ hE)
   obtain ⟨h1, h2⟩ := hD E (List.mem_cons_of_mem _ hE)
   exact ⟨h1, by rw [World.putObj_heap_other hne]; exact h2⟩
theorem Marks.leave {P : Program} {F : Fence} {n B : Nat} {fn : Func} {tmps : Array Value} {R : Ending → World → Prop} {v : Value} {I : World → Prop} {ds : List Deferred} {w : World} (h : Marks B ds w) (hI : Stays B I) (hres : ∀ W, (results fn tmps).run P W = .ok v W) (hR : ∀ W, I W → R (.returned v) W) (h0 : I w) :
  LeavesInM F n P fn tmps R ds .returning w := by
 obtain ⟨Ds, rfl, hn, hD⟩ := h
 exact marks_leave hI hres hR Ds w h0 hn hD
end Go.Proofs.YtglpfpdomnllkaaGreatDoor

namespace Go.Proofs.YtglpfpdomnllkaaGreatDoor
open Go.RowKit
set_option maxRecDepth 100000

/-- what is known of one block (none: of no block). -/
structure Pc where
 P : World → Option Nat → Prop
 lt : ∀ w k, P w (some k) → k < w.heap.size
 loc : ∀ w w' row b, P w b → w.grownBy w' row → (∀ k, b = some k → row ≠ some k) → P w' b

/-- from w0 on, below block B nothing has turned, and these pieces are held, each in a block of its own from B on. -/
def SL (B : Nat) (w0 w : World) (L : List Pc) : Prop :=
 Below B w0 w ∧ B ≤ w.heap.size ∧ ∃ f : Nat → Option Nat, (∀ i p, L[i]? = some p → p.P w (f i) ∧ ∀ k, f i = some k → B ≤ k) ∧
  ∀ i j k, i < j → j < L.length → f i = some k → f j ≠ some k

theorem grown_of_below {w w' : World} (h : Below w.heap.size w w') : w.grownBy w' none := ⟨h.os, h.tape, h.output, h.size, fun k hk _ => h.block k hk⟩

section
variable {B : Nat} {w0 w w' : World} {L K : List Pc}
theorem SL.nil (w : World) : SL w.heap.size w w [] := ⟨Below.refl _ _, Nat.le_refl _, fun _ => none, fun i p h => by simp at h, fun i j k _ hj => by simp at hj⟩
theorem SL.b (h : SL B w0 w L) : Below B w0 w := h.1
theorem SL.z (h : SL B w0 w L) : B ≤ w.heap.size := h.2.1
theorem SL.grow (h : SL B w0 w L) (hg : w.grownBy w' none) : SL B w0 w' L := by
 obtain ⟨hb, hz, f, h1, h2⟩ := h
 refine ⟨hb.grown hg hz (fun k e => by cases e), Nat.le_trans hz hg.size, f, fun i p hi => ⟨p.loc _ _ _ _ (h1 i p hi).1 hg (fun k _ e => by cases e), (h1 i p hi).2⟩, h2⟩
theorem SL.mono (h : SL B w0 w L) (hb : Below w.heap.size w w') : SL B w0 w' L := h.grow (grown_of_below hb)
theorem SL.al (h : SL B w0 w L) (o : Obj) : SL B w0 (w.alloc o) L := h.grow (World.grownBy_alloc w o none)
theorem SL.drew (h : SL B w0 w L) : SL B w0 w.drew L := h.mono (Below.refl _ _).drew

theorem SL.new (h : SL B w0 w L) (p : Pc) {b : Option Nat} (hg : w.grownBy w' none) (hp : p.P w' b) (hb : ∀ k, b = some k → w.heap.size ≤ k) : SL B w0 w' (p :: L) := by
 have h' := h.grow hg
 have hz0 := h.z
 obtain ⟨_, _, f0, g1, g2⟩ := h
 obtain ⟨hb0, hz, _⟩ := h'
 refine ⟨hb0, hz, fun i => match i with | 0 => b | i + 1 => f0 i, ?_, ?_⟩
 ·intro i q hi
  cases i with
  | zero => simp at hi; subst hi; exact ⟨hp, fun k e => Nat.le_trans hz0 (hb k e)⟩
  | succ i =>
   have := g1 i q (by simpa using hi)
   exact ⟨q.loc _ _ _ _ this.1 hg (fun k _ e => by cases e), this.2⟩
 ·intro i j k hij hj hi hjk
  cases j with
  | zero => omega
  | succ j =>
   cases i with
   | zero =>
    have hj' : j < L.length := by simpa using hj
    have := (g1 j L[j] (List.getElem?_eq_getElem hj')).1
    have e : f0 j = some k := hjk
    rw [e] at this
    have l1 := L[j].lt _ _ this
    have l2 := hb k hi
    omega
   | succ i => exact g2 i j k (by omega) (by simpa using hj) hi hjk

theorem SL.upd (h : SL B w0 w L) (i : Nat) {p : Pc} (hi : L[i]? = some p) : ∃ b, p.P w b ∧ (∀ k, b = some k → B ≤ k) ∧
  ∀ (w' : World) (q : Pc) (b' : Option Nat), w.grownBy w' b → q.P w' b' → (b' = b ∨ ∀ k, b' = some k → w.heap.size ≤ k) → SL B w0 w' (L.set i q) := by
 obtain ⟨hb, hz, f, h1, h2⟩ := h
 have hil : i < L.length := (List.getElem?_eq_some_iff.1 hi).1
 refine ⟨f i, (h1 i p hi).1, (h1 i p hi).2, fun w' q b' hg hq hb' => ?_⟩
 have fresh : ∀ j k, j < L.length → f j = some k → k < w.heap.size := fun j k hj e => by
  have := (h1 j L[j] (List.getElem?_eq_getElem hj)).1
  rw [e] at this
  exact L[j].lt _ _ this
 refine ⟨hb.grown hg hz (fun k e => (h1 i p hi).2 k e), Nat.le_trans hz hg.size, fun j => if j = i then b' else f j, ?_, ?_⟩
 ·intro j r hj
  by_cases e : j = i
  ·subst e
   rw [List.getElem?_set_self hil] at hj
   cases hj
   simp only [if_true]
   refine ⟨hq, fun k e => ?_⟩
   rcases hb' with rfl | hb'
   ·exact (h1 j p hi).2 k e
   ·exact Nat.le_trans hz (hb' k e)
  ·rw [List.getElem?_set_ne (fun e' => e e'.symm)] at hj
   simp only [if_neg e]
   refine ⟨r.loc _ _ _ _ (h1 j r hj).1 hg (fun k hk hrow => ?_), (h1 j r hj).2⟩
   have hjl : j < L.length := (List.getElem?_eq_some_iff.1 hj).1
   rcases Nat.lt_or_gt_of_ne e with l | l
   ·exact h2 j i k l hil hk hrow
   ·exact h2 i j k l hjl hrow hk
 ·intro j m k hjm hm hj hmk
  rw [List.length_set] at hm
  by_cases e1 : j = i
  ·subst e1
   have e2 : m ≠ j := by omega
   simp only [if_true] at hj
   simp only [if_neg e2] at hmk
   rcases hb' with rfl | hb'
   ·exact h2 j m k hjm hm hj hmk
   ·have := hb' k hj; have := fresh m k hm hmk; omega
  ·simp only [if_neg e1] at hj
   by_cases e2 : m = i
   ·subst e2
    simp only [if_true] at hmk
    rcases hb' with rfl | hb'
    ·exact h2 j m k hjm hil hj hmk
    ·have := hb' k hmk; have := fresh j k (by omega) hj; omega
   ·simp only [if_neg e2] at hmk
    exact h2 j m k hjm hm hj hmk

theorem SL.call (h : SL B w0 w L) (hk : SL w.heap.size w w' K) : SL B w0 w' (K ++ L) := by
 have h' := h.mono hk.b
 have hkb := hk.b
 have hz := h'.z
 have hz0 := h.z
 obtain ⟨_, _, f, h1, h2⟩ := h
 obtain ⟨_, _, g, g1, g2⟩ := hk
 have fresh : ∀ j k, j < L.length → f j = some k → k < w.heap.size := fun j k hj e => by
  have := (h1 j L[j] (List.getElem?_eq_getElem hj)).1
  rw [e] at this
  exact L[j].lt _ _ this
 obtain ⟨hb0, _, _⟩ := h'
 refine ⟨hb0, hz, fun i => if i < K.length then g i else f (i - K.length), ?_, ?_⟩
 ·intro i p hi
  by_cases e : i < K.length
  ·simp only [if_pos e]
   rw [List.getElem?_append_left e] at hi
   exact ⟨(g1 i p hi).1, fun k hk => Nat.le_trans hz0 ((g1 i p hi).2 k hk)⟩
  ·simp only [if_neg e]
   rw [List.getElem?_append_right (by omega)] at hi
   exact ⟨p.loc _ _ _ _ (h1 _ p hi).1 (grown_of_below hkb) (fun k _ e => by cases e), (h1 _ p hi).2⟩
 ·intro i j k hij hj hi hjk
  rw [List.length_append] at hj
  by_cases e1 : i < K.length
  ·simp only [if_pos e1] at hi
   by_cases e2 : j < K.length
   ·simp only [if_pos e2] at hjk; exact g2 i j k hij e2 hi hjk
   ·simp only [if_neg e2] at hjk
    have a1 := (g1 i K[i] (List.getElem?_eq_getElem e1)).2 k hi
    have a2 := fresh _ k (by omega) hjk
    omega
  ·have e2 : ¬ j < K.length := by omega
   simp only [if_neg e1] at hi
   simp only [if_neg e2] at hjk
   exact h2 _ _ k (by omega) (by omega) hi hjk

/-- some of the pieces, in another order. -/
theorem SL.pick (h : SL B w0 w L) (is : List Nat) (hn : is.Nodup) (K : List Pc) (hK : is.map (fun i => L[i]?) = K.map some) : SL B w0 w K := by
 obtain ⟨hb, hz, f, h1, h2⟩ := h
 have hlen : is.length = K.length := by have := congrArg List.length hK; simpa using this
 have hat : ∀ j (hj : j < K.length), ∃ i, is[j]? = some i ∧ L[i]? = some K[j] := fun j hj => by
  have hj' : j < is.length := by omega
  refine ⟨is[j], List.getElem?_eq_getElem hj', ?_⟩
  have := congrArg (fun l : List (Option Pc) => l[j]?) hK
  simpa [hj, hj'] using this
 refine ⟨hb, hz, fun j => (is[j]?).bind f, ?_, ?_⟩
 ·intro j p hj
  have hjl : j < K.length := (List.getElem?_eq_some_iff.1 hj).1
  obtain ⟨i, e1, e2⟩ := hat j hjl
  have e3 : K[j] = p := by have := hj; rw [List.getElem?_eq_getElem hjl] at this; simpa using this
  rw [e3] at e2
  simp only [e1, Option.bind_some]
  exact h1 i p e2
 ·intro i j k hij hj hi hjk
  obtain ⟨i', e1, e2⟩ := hat i (by omega)
  obtain ⟨j', e3, e4⟩ := hat j hj
  simp only [e1, Option.bind_some] at hi
  simp only [e3, Option.bind_some] at hjk
  have hil : i' < L.length := (List.getElem?_eq_some_iff.1 e2).1
  have hjl : j' < L.length := (List.getElem?_eq_some_iff.1 e4).1
  have hne : i' ≠ j' := by
   have a := (List.getElem?_eq_some_iff.1 e1)
   have b := (List.getElem?_eq_some_iff.1 e3)
   obtain ⟨a1, a2⟩ := a
   obtain ⟨b1, b2⟩ := b
   have := (List.pairwise_iff_getElem.1 hn) i j a1 b1 hij
   rw [a2, b2] at this
   exact this
  rcases Nat.lt_or_gt_of_ne hne with l | l
  ·exact h2 i' j' k l hjl hi hjk
  ·exact h2 j' i' k l hil hjk hi
theorem SL.tail {p : Pc} (h : SL B w0 w (p :: L)) : SL B w0 w L := by
 obtain ⟨hb, hz, f, h1, h2⟩ := h
 exact ⟨hb, hz, fun i => f (i + 1), fun i p hi => h1 (i + 1) p (by simpa using hi), fun i j k hij hj => h2 (i + 1) (j + 1) k (by omega) (by simpa using hj)⟩
theorem SL.empty (h : SL B w0 w L) : SL B w0 w [] := ⟨h.1, h.2.1, fun _ => .none, fun i p h => by simp at h, fun i j k _ hj => by simp at hj⟩
theorem SL.of_below (hb : Below w.heap.size w w') : SL w.heap.size w w' [] := (SL.nil w).mono hb
end

theorem Own.rebase {α : Type} {c : α → Value} {sz B B' : Nat} {e : TypeId} {w : World} {v : Value} {l : List α} (h : Own c sz B e w v l) (hb : ∀ k, v.ownBlock = some k → B' ≤ k) : Own c sz B' e w v l := by
 obtain ⟨h1, h2, h3⟩ := h
 refine ⟨h1, h2, ?_⟩
 rcases h3 with h3 | ⟨g, cap, cur, hv, hB, r⟩
 ·exact .inl h3
 ·exact .inr ⟨g, cap, cur, hv, hb g (by rw [hv]; rfl), r⟩
def pOwn {α : Type} (c : α → Value) (sz : Nat) (e : TypeId) (v : Value) (l : List α) : Pc where
 P w b := Own c sz 0 e w v l ∧ v.ownBlock = b
 lt w k h := (h.1.lt k h.2).2
 loc w w' row b h hg hne := ⟨h.1.kept hg (by
  cases hb : v.ownBlock with
  | none => exact .inl rfl
  | some k => exact .inr (fun e => hne k (by rw [← h.2, hb]) e.symm)), h.2⟩
def pBlk (k : Nat) (o : Obj) : Pc where
 P w b := b = some k ∧ w.heap[k]? = some o
 lt w j h := by obtain ⟨h1, h2⟩ := h; cases h1; exact (Array.getElem?_eq_some_iff.1 h2).1
 loc w w' row b h hg hne := ⟨h.1, by rw [hg.block k (Array.getElem?_eq_some_iff.1 h.2).1 (fun e => hne k h.1 e.symm)]; exact h.2⟩
section
variable {B : Nat} {w0 w w' : World} {L : List Pc} {α : Type} {c : α → Value} {sz : Nat} {e : TypeId} {v : Value} {l : List α}
theorem SL.own (h : SL B w0 w L) (i : Nat) (hi : L[i]? = some (pOwn c sz e v l)) : Own c sz B e w v l := by
 obtain ⟨b, ⟨h1, h2⟩, h3, _⟩ := h.upd i hi
 exact h1.rebase (fun k hk => h3 k (by rw [← h2, hk]))
theorem SL.slice (h : SL B w0 w L) (i : Nat) (hi : L[i]? = some (pOwn c sz e v l)) : ∃ a cap, v = .slice a l.length cap ∧ Reps c sz w a cap l := by
 obtain ⟨a, cap, h1, h2, _⟩ := (h.own i hi).reps
 exact ⟨a, cap, h1, h2⟩
/-- what an owned slice is, read. -/
theorem SL.rd {a : Option Addr} {n cap : Nat} (h : SL B w0 w L) (i : Nat) (hi : L[i]? = some (pOwn c sz e (.slice a n cap) l)) : Reps c sz w a cap l := by
 obtain ⟨a', cap', h1, h2⟩ := h.slice i hi
 simp only [Value.slice.injEq] at h1
 obtain ⟨rfl, _, rfl⟩ := h1
 exact h2
theorem SL.blk {k : Nat} {o : Obj} (h : SL B w0 w L) (i : Nat) (hi : L[i]? = some (pBlk k o)) : w.heap[k]? = some o ∧ B ≤ k ∧ k < w.heap.size := by
 obtain ⟨b, ⟨rfl, h1⟩, h3, _⟩ := h.upd i hi
 exact ⟨h1, h3 k rfl, (Array.getElem?_eq_some_iff.1 h1).1⟩
theorem SL.cell {k : Nat} {cs : Array Value} {fr : Nat × Nat} (h : SL B w0 w L) (i : Nat) (hi : L[i]? = some (pBlk k (.cells cs e fr))) (j : Nat) {u : Value} (hu : cs[j]? = some u) : w.cell? ⟨k, j, none⟩ = some u := by
 simp [World.cell?, (h.blk i hi).1, hu]
theorem SL.frozen {k : Nat} {cs : Array Value} (h : SL B w0 w L) (i : Nat) (hi : L[i]? = some (pBlk k (.cells cs e (0, 0)))) (j : Nat) : w.frozen? ⟨k, j, none⟩ = false := by
 simp [World.frozen?, (h.blk i hi).1]
theorem SL.box (h : SL B w0 w L) (o : Obj) : SL B w0 (w.alloc o) (pBlk w.heap.size o :: L) :=
 h.new _ (b := some w.heap.size) (World.grownBy_alloc w o .none) ⟨rfl, heap_alloc_new w o⟩ (fun k e => by cases e; exact Nat.le_refl _)
theorem SL.nilS (h : SL B w0 w L) (hc : ∀ x : α, (c x).cells.size = sz) : SL B w0 w (pOwn c sz e (.slice .none 0 0) [] :: L) :=
 h.new _ (b := .none) (World.grownBy.refl w _) ⟨own_nil hc, rfl⟩ (fun k e => by cases e)
theorem SL.ofOwn (ho : Own c sz w.heap.size e w' v l) (hb : Below w.heap.size w w') : SL w.heap.size w w' [pOwn c sz e v l] :=
 (SL.nil w).new _ (grown_of_below hb) (b := v.ownBlock) ⟨ho.mono (Nat.zero_le _), rfl⟩ (fun k hk => (ho.lt k hk).1)
theorem SL.set {k : Nat} {cs : Array Value} {fr : Nat × Nat} (h : SL B w0 w L) (i : Nat) (hi : L[i]? = some (pBlk k (.cells cs e fr))) (j : Nat) (u : Value) :
  SL B w0 (w.setCell ⟨k, j, none⟩ u) (L.set i (pBlk k (.cells (cs.setIfInBounds j u) e fr))) := by
 obtain ⟨b, ⟨rfl, h1⟩, h3, h4⟩ := h.upd i hi
 refine h4 _ _ (some k) ⟨rfl, rfl, rfl, by simp [World.setCell], fun m hm hne => Below.heap_setCell _ _ _ _ (fun e => hne (by rw [e]))⟩ ⟨rfl, ?_⟩ (.inl rfl)
 simp [World.setCell, Array.getElem?_modify, h1]
end

section
variable {P : Program} {ops : Array Oper} {rest : List Oper} {a : Act} {Q : Exit → Act → World → Prop} {α : Type} {c : α → Value} {sz bytes B : Nat} {t e : TypeId} {z v : Value} {w0 w : World} {L : List Pc} {l : List α}
theorem wpList_pushL {d : Option Tmp} {ty : TypeId} {p : String} {s x : Operand} {af : Array Edge} {H n cp : Nat} {y : α} {cs : Array Value} {fr : Nat × Nat} (i : Nat) (E : ETy P t e z sz bytes)
   (hs : a.eval s = v) (hx : a.eval x = .slice (some ⟨H, 0, none⟩) n cp) (hS : SL B w0 w L) (hi : L[i]? = some (pOwn c sz e v l)) (h1 : ∀ x, ∀ u ∈ (c x).cells.toList, u.oneCell' = true)
   (hn : n = 1 ∧ cp = 1) (hH : w.heap.size = H) (hcs : cs.toList = (c y).cells.toList) (hb : (l.length + 1) * bytes ≤ 140737488355328) (hm : l.length + 1 ≤ 9223372036854775807)
   (hK : ∀ v' w', SL B w0 w' (L.set i (pOwn c sz e v' (l ++ [y]))) → wpList P ops Q rest (a.put d v') w') :
   wpList P ops Q (⟨d, .call { callee := .builtin .append, args := #[s, x], argTypes := #[t, t] }, ty, p, af, none⟩ :: rest) a (w.alloc (.cells cs e fr)) := by
 obtain ⟨rfl, rfl⟩ := hn
 have hS' := hS.al (.cells cs e fr)
 have hc := (hS.own i hi).1
 obtain ⟨b, ⟨h2, h3⟩, h4, h5⟩ := hS'.upd i hi
 refine wpList_app (l := l) (ys := [y]) (ad := some ⟨H, 0, none⟩) (cap := 1) E hs hx h2 (reps_new1 hc y cs fr hH hcs) h1 (by simpa using hb) (Nat.zero_le _) (by simpa using hm) ?_
 intro v' w' ho hg hat
 refine hK v' w' (h5 w' _ v'.ownBlock (h3 ▸ hg) ⟨ho, rfl⟩ ?_)
 rcases hat with hat | hat
 ·exact .inl (hat.trans h3)
 ·exact .inr (fun k hk => by rw [hat] at hk; cases hk; exact Nat.le_refl _)
theorem wpList_appL {d : Option Tmp} {ty : TypeId} {p : String} {s x : Operand} {af : Array Edge} {ad : Option Addr} {n cap : Nat} {ys : List α} (i : Nat) (E : ETy P t e z sz bytes)
   (hs : a.eval s = v) (hx : a.eval x = .slice ad n cap) (hS : SL B w0 w L) (hi : L[i]? = some (pOwn c sz e v l)) (hR : Reps c sz w ad cap ys) (hn : n = ys.length) (h1 : ∀ x, ∀ u ∈ (c x).cells.toList, u.oneCell' = true)
   (hb : (l.length + ys.length) * bytes ≤ 140737488355328) (hm : l.length + ys.length ≤ 9223372036854775807)
   (hK : ∀ v' w', SL B w0 w' (L.set i (pOwn c sz e v' (l ++ ys))) → wpList P ops Q rest (a.put d v') w') :
   wpList P ops Q (⟨d, .call { callee := .builtin .append, args := #[s, x], argTypes := #[t, t] }, ty, p, af, none⟩ :: rest) a w := by
 subst hn
 obtain ⟨b, ⟨h2, h3⟩, h4, h5⟩ := hS.upd i hi
 refine wpList_app (l := l) (ys := ys) (ad := ad) (cap := cap) E hs hx h2 hR h1 hb (Nat.zero_le _) hm ?_
 intro v' w' ho hg hat
 refine hK v' w' (h5 w' _ v'.ownBlock (h3 ▸ hg) ⟨ho, rfl⟩ ?_)
 rcases hat with hat | hat
 ·exact .inl (hat.trans h3)
 ·exact .inr (fun k hk => by rw [hat] at hk; cases hk; exact Nat.le_refl _)
theorem wpList_makeL {d : Option Tmp} {ty : TypeId} {p : String} {x y : Operand} {af : Array Edge} (n : Nat) (z0 : α)
  (E : ETy P t e (c z0) 1 bytes) (hc : ∀ x, (c x).cells = #[c x]) (hx : a.eval x = .int .i64 n) (hy : a.eval y = .int .i64 n) (hb : bytes * n ≤ 281474976710656) (hm : n ≤ 9223372036854775807) (hS : SL B w0 w L)
  (hK : ∀ ad w', SL B w0 w' (pOwn c 1 e (.slice ad n n) (List.replicate n z0) :: L) → wpList P ops Q rest (a.put d (.slice ad n n)) w') :
  wpList P ops Q (⟨d, .makeSlice t x y, ty, p, af, none⟩ :: rest) a w := by
 refine wpList_make1 n z0 E hc hx hy hb hm (Nat.le_refl _) (fun w' ho hg => hK _ w' ?_)
 exact hS.new _ (b := some w.heap.size) hg ⟨ho.mono (Nat.zero_le _), rfl⟩ (fun k e => by cases e; exact Nat.le_refl _)
end
section
variable {ops : Array Oper} {rest : List Oper} {a : Act} {Q : Exit → Act → World → Prop} {d : Option Tmp} {ty : TypeId} {p : String} {m x y : Operand} {af : Array Edge} {b n B : Nat} {k : Int} {w0 w : World} {L : List Pc}
end
end Go.Proofs.YtglpfpdomnllkaaGreatDoor

namespace Go.Proofs.YtglpfpdomnllkaaGreatDoor
open Go.RowKit
set_option maxRecDepth 100000

section
variable {B : Nat} {w0 w w' : World} {L K : List Pc}
theorem SL.comm (h : SL B w0 w (K ++ L)) : SL B w0 w (L ++ K) := by
 obtain ⟨hb, hz, f, h1, h2⟩ := h
 refine ⟨hb, hz, fun i => if i < L.length then f (K.length + i) else f (i - L.length), ?_, ?_⟩
 ·intro i p hi
  by_cases e : i < L.length
  ·simp only [if_pos e]
   rw [List.getElem?_append_left e] at hi
   exact h1 _ p (by rw [List.getElem?_append_right (by omega)]; simpa using hi)
  ·simp only [if_neg e]
   rw [List.getElem?_append_right (by omega)] at hi
   have hl := (List.getElem?_eq_some_iff.1 hi).1
   exact h1 _ p (by rw [List.getElem?_append_left hl]; exact hi)
 ·intro i j k hij hj hi hjk
  rw [List.length_append] at hj
  by_cases e1 : i < L.length
  ·simp only [if_pos e1] at hi
   by_cases e2 : j < L.length
   ·simp only [if_pos e2] at hjk
    exact h2 _ _ k (by omega) (by rw [List.length_append]; omega) hi hjk
   ·simp only [if_neg e2] at hjk
    exact h2 _ _ k (show j - L.length < K.length + i by omega) (by rw [List.length_append]; omega) hjk hi
  ·have e2 : ¬ j < L.length := by omega
   simp only [if_neg e1] at hi
   simp only [if_neg e2] at hjk
   exact h2 _ _ k (by omega) (by rw [List.length_append]; omega) hi hjk

/-- the blocks of the pieces. -/
def SLok (w : World) (B : Nat) (f : Nat → Option Nat) (L : List Pc) : Prop := (∀ i p, L[i]? = some p → p.P w (f i) ∧ ∀ k, f i = some k → B ≤ k) ∧ ∀ i j k, i < j → j < L.length → f i = some k → f j ≠ some k
theorem SLok.cons {f : Nat → Option Nat} {p : Pc} (hp : p.P w (f 0) ∧ ∀ k, f 0 = some k → B ≤ k) (h : SLok w B (fun i => f (i + 1)) L) (hne : ∀ j k, j < L.length → f 0 = some k → f (j + 1) ≠ some k) : SLok w B f (p :: L) := by
 refine ⟨fun i q hi => ?_, fun i j k hij hj hi => ?_⟩
 ·cases i with
  | zero => simp at hi; subst hi; exact hp
  | succ i => exact h.1 i q (by simpa using hi)
 ·cases j with
  | zero => omega
  | succ j =>
   cases i with
   | zero => exact hne j k (by simpa using hj) hi
   | succ i => exact h.2 i j k (by omega) (by simpa using hj) hi
theorem SLok.uncons {f : Nat → Option Nat} {p : Pc} (h : SLok w B f (p :: L)) : (p.P w (f 0) ∧ ∀ k, f 0 = some k → B ≤ k) ∧ SLok w B (fun i => f (i + 1)) L ∧ ∀ j k, j < L.length → f 0 = some k → f (j + 1) ≠ some k :=
 ⟨h.1 0 p rfl, ⟨fun i q hi => h.1 (i + 1) q (by simpa using hi), fun i j k hij hj => h.2 (i + 1) (j + 1) k (by omega) (by simpa using hj)⟩, fun j k hj => h.2 0 (j + 1) k (by omega) (by simpa using hj)⟩
theorem SLok.perm : ∀ {L L' : List Pc}, L.Perm L' → ∀ f, SLok w B f L → ∃ f', SLok w B f' L' ∧ ∀ i k, i < L'.length → f' i = some k → ∃ j, j < L.length ∧ f j = some k := by
 intro L L' hp
 induction hp with
 | nil => intro f h; exact ⟨f, h, fun i k hi => by simp at hi⟩
 | cons x _ ih =>
  intro f h
  obtain ⟨h1, h2, h3⟩ := h.uncons
  obtain ⟨g, g1, g2⟩ := ih _ h2
  refine ⟨fun i => match i with | 0 => f 0 | i + 1 => g i, SLok.cons h1 g1 (fun j k hj hk e => ?_), fun i k hi hk => ?_⟩
  ·obtain ⟨j', hj', e'⟩ := g2 j k hj e
   exact h3 j' k hj' hk e'
  ·cases i with
   | zero => exact ⟨0, by simp, hk⟩
   | succ i =>
    obtain ⟨j', hj', e'⟩ := g2 i k (by simpa using hi) hk
    exact ⟨j' + 1, by simpa using hj', e'⟩
 | swap x y l =>
  intro f h
  obtain ⟨h1, h2, h3⟩ := h.uncons
  obtain ⟨h4, h5, h6⟩ := h2.uncons
  refine ⟨fun i => match i with | 0 => f 1 | 1 => f 0 | i + 2 => f (i + 2), SLok.cons h4 (SLok.cons h1 h5 (fun j k hj hk => ?_)) (fun j k hj hk e => ?_), fun i k hi hk => ?_⟩
  ·exact h3 (j + 1) k (by simpa using hj) hk
  ·cases j with
   | zero => exact h3 0 k (by simp) e hk
   | succ j => exact h6 j k (by simpa using hj) hk e
  ·match i with
   | 0 => exact ⟨1, by simp, hk⟩
   | 1 => exact ⟨0, by simp, hk⟩
   | i + 2 => exact ⟨i + 2, by simpa using hi, hk⟩
 | trans _ _ ih1 ih2 =>
  intro f h
  obtain ⟨g, g1, g2⟩ := ih1 f h
  obtain ⟨g', g3, g4⟩ := ih2 g g1
  refine ⟨g', g3, fun i k hi hk => ?_⟩
  obtain ⟨j, hj, e⟩ := g4 i k hi hk
  exact g2 j k hj e
theorem SL.perm (h : SL B w0 w L) (hp : L.Perm K) : SL B w0 w K := by
 obtain ⟨hb, hz, f, h1⟩ := h
 obtain ⟨g, g1, _⟩ := SLok.perm hp f h1
 exact ⟨hb, hz, g, g1⟩
/-- two pieces lie in different blocks. -/
theorem SL.apart (h : SL B w0 w L) (i j : Nat) (hij : i ≠ j) {p q : Pc} (hi : L[i]? = some p) (hj : L[j]? = some q) {k k' : Nat} (hp : ∀ b, p.P w b → b = some k) (hq : ∀ b, q.P w b → b = some k') : k ≠ k' := by
 obtain ⟨_, _, f, h1, h2⟩ := h
 have e1 := hp _ (h1 i p hi).1
 have e2 := hq _ (h1 j q hj).1
 have hil := (List.getElem?_eq_some_iff.1 hi).1
 have hjl := (List.getElem?_eq_some_iff.1 hj).1
 rintro rfl
 rcases Nat.lt_or_gt_of_ne hij with l | l
 ·exact h2 i j k l hjl e1 e2
 ·exact h2 j i k l hil e2 e1

/-- some of the pieces of the front, in another order. -/
theorem SL.pickA {M : List Pc} (h : SL B w0 w (K ++ M)) (is : List Nat) (hn : is.Nodup) (hl : ∀ i ∈ is, i < K.length) (K' : List Pc) (hK : is.map (fun i => K[i]?) = K'.map some) : SL B w0 w (K' ++ M) := by
 refine h.pick (is ++ List.range' K.length M.length) ?_ _ ?_
 ·refine List.nodup_append.2 ⟨hn, List.nodup_range' , ?_⟩
  intro a ha b hb e
  subst e
  have := hl a ha
  simp at hb
  omega
 ·rw [List.map_append, List.map_append]
  congr 1
  ·rw [← hK]
   refine List.map_congr_left fun i hi => ?_
   rw [List.getElem?_append_left (hl i hi)]
  ·apply List.ext_getElem
   ·simp
   ·intro i h1 h2
    have h3 : i < M.length := by simpa using h2
    simp [h3]

/-- a piece that a turn of a block that is no cells, from B on, does not touch. -/
def Pc.okT (B : Nat) (p : Pc) : Prop := ∀ W k, p.P W (some k) → k < B ∨ ∃ o : Obj, W.heap[k]? = some o ∧ o.isCells = true
theorem SL.turn {C : Nat} {row : Option Nat} (h : SL B w0 w L) (hB : B ≤ C) (hL : ∀ p ∈ L, p.okT C) (hg : w.grownBy w' row) (hr : ∀ r, row = some r → C ≤ r ∧ ∃ o : Obj, w.heap[r]? = some o ∧ o.isCells = false) : SL B w0 w' L := by
 obtain ⟨hb, hz, f, h1, h2⟩ := h
 refine ⟨hb.grown hg hz (fun k e => Nat.le_trans hB (hr k e).1), Nat.le_trans hz hg.size, f, fun i p hi => ⟨p.loc _ _ _ _ (h1 i p hi).1 hg (fun k hk e => ?_), (h1 i p hi).2⟩, h2⟩
 obtain ⟨h3, o, h4, h5⟩ := hr k e
 have h6 := (h1 i p hi).1
 rw [hk] at h6
 rcases hL p (List.mem_of_getElem? hi) w k h6 with h7 | ⟨o', h7, h8⟩
 ·omega
 ·rw [h4] at h7; cases h7; rw [h5] at h8; cases h8
end

section
variable {α : Type} {c : α → Value} {sz : Nat} {e : TypeId} {v : Value} {l : List α} {B : Nat} {W0 w : World} {L : List Pc}
theorem own_isCells {C : Nat} (h : Own c sz C e w v l) {k : Nat} (hk : v.ownBlock = some k) : ∃ o : Obj, w.heap[k]? = some o ∧ o.isCells = true := by
 obtain ⟨_, _, h3⟩ := h
 rcases h3 with ⟨rfl, _⟩ | ⟨g, cap, cur, rfl, _, hg, _⟩
 ·cases hk
 ·cases hk; exact ⟨_, hg, rfl⟩
theorem okT_own : (pOwn c sz e v l).okT B := fun W k h => .inr (own_isCells h.1 h.2)
theorem okT_cells {k : Nat} {cs : Array Value} {fr : Nat × Nat} : (pBlk k (.cells cs e fr)).okT B := fun W j h => .inr ⟨_, by obtain ⟨h1, h2⟩ := h; cases h1; exact h2, rfl⟩
theorem okT_lt {k : Nat} {o : Obj} (h : k < B) : (pBlk k o).okT B := fun W j hj => by obtain ⟨h1, _⟩ := hj; cases h1; exact .inl h

theorem SL.setOwn {ad : Option Addr} {n cap : Nat} (h : SL B W0 w L) (hc1 : ∀ x, (c x).cells = #[c x]) (i : Nat) (hi : L[i]? = some (pOwn c 1 e (.slice ad n cap) l)) (k : Int) (h0 : 0 ≤ k) (hk : k < l.length) (x : α) :
  ∃ g, ad = some ⟨g, 0, none⟩ ∧ n = l.length ∧ w.cell? ⟨g, k.toNat, none⟩ = l[k.toNat]?.map c ∧ w.frozen? ⟨g, k.toNat, none⟩ = false ∧ SL B W0 (w.setCell ⟨g, k.toNat, none⟩ (c x)) (L.set i (pOwn c 1 e (.slice ad n cap) (l.set k.toNat x))) := by
 obtain ⟨a', cap', e1, hR⟩ := h.slice i hi
 simp only [Value.slice.injEq] at e1
 obtain ⟨rfl, rfl, rfl⟩ := e1
 obtain ⟨b, ⟨h2, h3⟩, h4, h5⟩ := h.upd i hi
 obtain ⟨g, rfl, _, hcs, hfr, ho, hg⟩ := own_store hc1 h2 x k h0 hk
 refine ⟨g, rfl, rfl, ?_, hfr, h5 _ _ (some g) (by rw [← h3]; exact hg) ⟨ho, rfl⟩ (.inl (by rw [← h3]; rfl))⟩
 have hkl : k.toNat < l.length := by omega
 obtain ⟨b1, o1, e1, hc⟩ := hR.cells (by decide) (l[k.toNat]) k.toNat hkl
 cases e1
 have := hc 0 (c (l.getD k.toNat l[k.toNat])) (by rw [hc1]; rfl)
 simpa [hkl] using this

theorem blk_at {k : Nat} {o : Obj} : ∀ b, (pBlk k o).P w b → b = some k := fun _ h => h.1
theorem own_at {g n cap : Nat} : ∀ b, (pOwn c sz e (.slice (some ⟨g, 0, none⟩) n cap) l).P w b → b = some g := fun _ h => h.2.symm

theorem SL.ne_own (h : SL B W0 w L) (i j : Nat) (hij : i ≠ j) {k : Nat} {o : Obj} (hi : L[i]? = some (pOwn c sz e v l)) (hj : L[j]? = some (pBlk k o)) : v.ownBlock ≠ some k := by
 intro hv
 exact h.apart i j hij hi hj (fun b hb => hb.2.symm.trans hv) blk_at rfl

theorem wpListIn_pushL {F : Fence} {n' : Nat} {P : Program} {ops : Array Oper} {rest : List Oper} {a : Act} {Q : Exit → Act → World → Prop} {bytes : Nat} {t : TypeId} {z : Value} {w0 : World} {d : Option Tmp} {ty : TypeId} {p : String} {s x : Operand} {af : Array Edge} {H n cp : Nat} {y : α} {cs : Array Value} {fr : Nat × Nat} (i : Nat) (E : ETy P t e z sz bytes)
   (hs : a.eval s = v) (hx : a.eval x = .slice (some ⟨H, 0, none⟩) n cp) (hS : SL B w0 w L) (hi : L[i]? = some (pOwn c sz e v l)) (h1 : ∀ x, ∀ u ∈ (c x).cells.toList, u.oneCell' = true)
   (hn : n = 1 ∧ cp = 1) (hH : w.heap.size = H) (hcs : cs.toList = (c y).cells.toList) (hb : (l.length + 1) * bytes ≤ 140737488355328) (hm : l.length + 1 ≤ 9223372036854775807)
   (hK : ∀ v' w', SL B w0 w' (L.set i (pOwn c sz e v' (l ++ [y]))) → w.grownBy w' v.ownBlock → (v'.ownBlock = v.ownBlock ∨ v'.ownBlock = some (w.heap.size + 1)) → wpListIn F n' P ops Q rest (a.put d v') w') :
   wpListIn F n' P ops Q (⟨d, .call { callee := .builtin .append, args := #[s, x], argTypes := #[t, t] }, ty, p, af, none⟩ :: rest) a (w.alloc (.cells cs e fr)) := by
 obtain ⟨rfl, rfl⟩ := hn
 have hS' := hS.al (.cells cs e fr)
 have hc := (hS.own i hi).1
 obtain ⟨b, ⟨h2, h3⟩, h4, h5⟩ := hS'.upd i hi
 refine wpListIn_plain rfl fun K hK' => ?_
 obtain ⟨v', w', r1, r2, r3, r4⟩ := run_app ty E h2 (reps_new1 (e := e) hc y cs fr hH hcs) h1 (by simpa using hb) (by simpa using hm) (Nat.zero_le _)
 unfold Oper.wpIn
 refine ⟨?_, ?_⟩
 ·simp [Oper.about, resolve, Target.leads, Sem.run_pure]
 ·rw [Oper.semAt_plain F _ _ (by intro c hc'; cases hc')]
  have r1' : (Builtin.append_ #[t, t] ty #[v, .slice (some ⟨H, 0, none⟩) 1 1]).run P (w.alloc (.cells cs e fr)) = .ok v' w' := r1
  simp only [execOp, resolve, invoke, builtin, Sem.run_bind, Sem.run_pure, Result.andThen_ok, List.map_toArray, List.map_cons, List.map_nil, hs, hx, r1']
  refine hK' _ _ (hK v' w' (h5 w' _ v'.ownBlock (h3 ▸ r3) ⟨r2, rfl⟩ ?_) ((World.grownBy_alloc w _ _).trans r3) ?_)
  ·rcases r4 with hat | hat
   ·exact .inl (hat.trans h3)
   ·exact .inr (fun k hk => by rw [hat] at hk; cases hk; exact Nat.le_refl _)
  ·rcases r4 with hat | hat
   ·exact .inl hat
   ·exact .inr (by rw [hat]; simp)

end
def pMark (D : Nat) : Pc := pBlk D (.deferred (some []))
theorem SL.addMark {B C D : Nat} {w0 w : World} {L : List Pc} (h : SL B w0 w L) (hL : ∀ p ∈ L, p.okT C) (hB : B ≤ C) (hC : C ≤ D) (hD : w.heap[D]? = some (.deferred (some []))) : SL B w0 w (pMark D :: L) := by
 obtain ⟨hb, hz, f, h1, h2⟩ := h
 have hne : ∀ j, j < L.length → f j ≠ some D := fun j hj e => by
  have h6 := (h1 j L[j] (List.getElem?_eq_getElem hj)).1
  rw [e] at h6
  rcases hL L[j] (List.getElem_mem hj) w D h6 with h7 | ⟨o', h7, h8⟩
  ·omega
  ·rw [hD] at h7; cases h7; cases h8
 refine ⟨hb, hz, fun i => match i with | 0 => some D | i + 1 => f i, ?_, ?_⟩
 ·intro i p hi
  cases i with
  | zero => simp at hi; subst hi; exact ⟨⟨rfl, hD⟩, fun k e => by cases e; omega⟩
  | succ i => exact h1 i p (by simpa using hi)
 ·intro i j k hij hj hi hjk
  cases j with
  | zero => omega
  | succ j =>
   cases i with
   | zero => cases hi; exact hne j (by simpa using hj) hjk
   | succ i => exact h2 i j k (by omega) (by simpa using hj) hi hjk
theorem SL.leave {P : Program} {F : Fence} {n B : Nat} {fn : Func} {tmps : Array Value} {R : Ending → World → Prop} {w0 : World} {L : List Pc} (hR : ∀ W, SL B w0 W L → ∃ v, (results fn tmps).run P W = .ok v W ∧ R (.returned v) W) :
  ∀ (Ds : List Nat) (w : World), SL B w0 w (Ds.map pMark ++ L) → LeavesInM F n P fn tmps R (Ds.map markOf) .returning w
 | [], w, h => by
   obtain ⟨v, h1, h2⟩ := hR w h
   exact ⟨v, h1, h2⟩
 | D :: Ds, w, h => by
   have hd := (h.blk 0 rfl).1
   refine ⟨by simp, .inl ⟨D, w.putObj D (.deferred none), rfl, run_takeDeferred hd, ?_⟩⟩
   refine SL.leave hR Ds _ ?_
   obtain ⟨b, ⟨rfl, h1⟩, h3, h4⟩ := h.upd 0 (p := pMark D) rfl
   have h5 := h4 (w.putObj D (.deferred none)) (pBlk D (.deferred none)) (some D) (grownBy_putObj' w D (.deferred none)) ⟨rfl, World.putObj_heap_same (Array.getElem?_eq_some_iff.1 h1).1⟩ (.inl rfl)
   exact h5.tail
theorem SL.leave' {P : Program} {F : Fence} {n B : Nat} {fn : Func} {tmps : Array Value} {R : Ending → World → Prop} {w0 w : World} {L : List Pc} {Ds : List Nat} (h : SL B w0 w (L ++ Ds.map pMark)) (hR : ∀ W, SL B w0 W L → ∃ v, (results fn tmps).run P W = .ok v W ∧ R (.returned v) W) :
  LeavesInM F n P fn tmps R (Ds.map markOf) .returning w := SL.leave hR Ds w h.comm
end Go.Proofs.YtglpfpdomnllkaaGreatDoor

namespace Go.Proofs.YtglpfpdomnllkaaGreatDoor
open Go.RowKit
set_option maxHeartbeats 400000
set_option maxRecDepth 100000

theorem standGo_zero : ∀ (r seen : List Int), standGo seen r = 0 → ∀ x ∈ r, 0 ≤ x ∧ x ≤ 64
 | [], _, _ => by simp
 | x :: r, seen, h => by
   rw [standGo] at h
   split at h
   · omega
   · split at h
     · omega
     · intro y hy
       rcases List.mem_cons.1 hy with rfl | hy
       · omega
       · exact standGo_zero r _ h y hy
theorem checkStand_zero {l : List Int} (h : checkStand l = 0) : 4 ≤ l.length ∧ l.length ≤ 64 ∧ (∀ x ∈ l, 0 ≤ x ∧ x ≤ 64) ∧ standGo [] l = 0 := by
 unfold checkStand at h
 split at h
 ·omega
 ·split at h
  ·omega
  ·exact ⟨by omega, by omega, standGo_zero _ _ h, h⟩

def sameB (a b : Int) : Bool := (a == 0) == (b == 0)
def shapeGo (l t : List Int) (k : Nat) : Nat → Bool
 | 0 => true
 | n + 1 => sameB (atD 0 l k) (atD 0 t k) && shapeGo l t (k + 1) n
/-- the error of a round, and the stand after it. -/
def roundE (l : List Int) (ms : List (Int × Int)) : Int :=
 if checkStand l ≠ 0 then checkStand l else if manyE ms.length ≠ 0 then manyE ms.length else if (replayL l ms).2 ≠ [] then 18 else if shapeGo l (replayL l ms).1 0 l.length then 0 else 19

end Go.Proofs.YtglpfpdomnllkaaGreatDoor

namespace Go.Proofs.YtglpfpdomnllkaaGreatDoor
open Go.RowKit
set_option maxHeartbeats 400000
set_option maxRecDepth 100000

/-- where a thread stands last in the first k slots. -/
def plc (t : List Int) : Nat → Int → Int
 | 0, _ => 0
 | k + 1, x => if x = atD 0 t k then k else plc t k x
def goes (l t : List Int) (i : Nat) : Int := if atD 0 l i != 0 then plc t t.length (atD 0 l i) else i
def permL (l t : List Int) (k : Nat) : List Int := (List.range k).map (goes l t)
theorem permL_len (l t : List Int) (k : Nat) : (permL l t k).length = k := by simp [permL]
def RoundL (l : List Int) (ms : List (Int × Int)) : List Int := if roundE l ms = 0 then permL l (replayL l ms).1 l.length else []

theorem roundE_zero {l : List Int} {ms : List (Int × Int)} (h : roundE l ms = 0) : checkStand l = 0 ∧ manyE ms.length = 0 ∧ (replayL l ms).2 = [] ∧ shapeGo l (replayL l ms).1 0 l.length = true := by
 unfold roundE at h
 split at h
 ·rename_i h1; exact absurd h h1
 ·split at h
  ·rename_i h1; exact absurd h h1
  ·split at h
   ·omega
   ·split at h
    ·rename_i h1 h2 h3 h4; exact ⟨by simpa using h1, by simpa using h2, by simpa using h3, h4⟩
    ·omega

theorem replayGo_len : ∀ (ms : List (Int × Int)) (s : List Int) (k : Nat) (aside : List (Int × Int)), (replayGo s ms k aside).1.length = s.length
 | [], s, k, aside => rfl
 | m :: r, s, k, aside => by
   rw [replayGo]
   split
   · rw [replayGo_len r, nextL_len]
   · rw [replayGo_len r]
theorem replayL_len (l : List Int) (ms : List (Int × Int)) : (replayL l ms).1.length = l.length := replayGo_len ms l 0 []
end Go.Proofs.YtglpfpdomnllkaaGreatDoor

namespace Go.Proofs.YtglpfpdomnllkaaGreatDoor
open Go.RowKit
set_option maxHeartbeats 400000
set_option maxRecDepth 100000

end Go.Proofs.YtglpfpdomnllkaaGreatDoor

namespace Go.Proofs.YtglpfpdomnllkaaGreatDoor
open Go.RowKit
set_option maxHeartbeats 400000
set_option maxRecDepth 100000

end Go.Proofs.YtglpfpdomnllkaaGreatDoor

namespace Go.Proofs.YtglpfpdomnllkaaGreatDoor
open Go.RowKit
set_option maxHeartbeats 400000
set_option maxRecDepth 100000

def btw (n low high : Int) : Bool := decide (low ≤ n) && decide (n ≤ high)
theorem btw_true {n low high : Int} : btw n low high = true ↔ low ≤ n ∧ n ≤ high := by simp [btw]
theorem rbetween_any (n low high : Int) (w : World) :
  Calls Tryz.prog 32 #[.int .i64 n, .int .i64 low, .int .i64 high] w fun r w' => r = .returned (.bool (btw n low high)) ∧ w = w' := by
 by_cases h0 : n < low
 ·have hd : decide (low ≤ n) = false := by simp; omega
  have hs : btw n low high = false := by simp [btw, hd]
  have HS := hid hs; clear hs
  go_enter Tryz.func32, Tryz.ntmps32
  go_wp2
  go_ret
  exact ⟨by rw [HS.out]; rfl, rfl⟩
 ·have hd : decide (low ≤ n) = true := by simp; omega
  have hs : btw n low high = decide (n ≤ high) := by simp [btw, hd]
  have HS := hid hs; clear hs
  go_enter Tryz.func32, Tryz.ntmps32
  go_wp2
  go_ret
  exact ⟨by rw [HS.out]; rfl, rfl⟩

end Go.Proofs.YtglpfpdomnllkaaGreatDoor

namespace Go.Proofs.YtglpfpdomnllkaaGreatDoor
open Go.RowKit
set_option maxHeartbeats 1000000
set_option maxRecDepth 100000

end Go.Proofs.YtglpfpdomnllkaaGreatDoor

namespace Go.Proofs.YtglpfpdomnllkaaGreatDoor
open Go.RowKit
set_option maxHeartbeats 1000000
set_option maxRecDepth 100000

end Go.Proofs.YtglpfpdomnllkaaGreatDoor

namespace Go.Proofs.YtglpfpdomnllkaaGreatDoor
open Go.RowKit
set_option maxHeartbeats 1000000
set_option maxRecDepth 100000

end Go.Proofs.YtglpfpdomnllkaaGreatDoor

namespace Go.Proofs.YtglpfpdomnllkaaGreatDoor
open Go.RowKit
set_option maxHeartbeats 400000
set_option maxRecDepth 100000

theorem gcd_step {a b : Int} (ha : 0 ≤ a) (hb : 0 ≤ b) : Int.gcd b (a % b) = Int.gcd a b := by
 obtain ⟨m, rfl⟩ := Int.eq_ofNat_of_zero_le ha
 obtain ⟨n, rfl⟩ := Int.eq_ofNat_of_zero_le hb
 show Nat.gcd n (m % n) = Nat.gcd m n
 rw [Nat.gcd_comm m n, Nat.gcd_rec n m, Nat.gcd_comm]
def absI (n : Int) : Int := if 0 ≤ n then n else -n
theorem size_any (n : Int) (w : World) (h : -9223372036854775807 ≤ n) (h2 : n ≤ 9223372036854775807) :
  Calls Tryz.prog 31 #[.int .i64 n] w fun r w' => r = .returned (.int .i64 (absI n)) ∧ w = w' := by
 have hmx : max n (-n) = absI n := by unfold absI; split <;> omega
 go_enter Tryz.func31, Tryz.ntmps31
 go_wp2
 all_goals
  go_ret
  exact ⟨by first | rfl | (rw [show absI n = -n by unfold absI; split <;> omega]; rfl) | (rw [show absI n = n by unfold absI; split <;> omega]; rfl) | (rw [← hmx]; rfl) | simp [hmx], rfl⟩
end Go.Proofs.YtglpfpdomnllkaaGreatDoor

namespace Go.Proofs.YtglpfpdomnllkaaGreatDoor
open Go.RowKit
set_option maxHeartbeats 400000
set_option maxRecDepth 100000

end Go.Proofs.YtglpfpdomnllkaaGreatDoor

namespace Go.Proofs
open Go.Shelf
def Tryz.lays160_ren : Go.Shelf.Ren := ⟨fun | 160 => 64 | 232 => 95 | 231 => 94 | 227 => 96 | 234 => 98 | 233 => 97 | 236 => 100 | 235 => 99 | 228 => 122 | 271 => 125 | 151 => 124 | 197 => 123 | 120 => 144 | 152 => 143 | 260 => 142 | 137 => 154 | 119 => 155 | 224 => 156 | 225 => 157 | 217 => 169 | 266 => 178 | n => n, fun | 9 => 9 | 4 => 4 | 3 => 3 | 5 => 5 | 117 => 141 | 116 => 140 | 0 => 0 | 124 => 144 | 21 => 21 | 105 => 170 | 46 => 123 | 119 => 194 | 139 => 197 | 138 => 196 | n => n, fun | 3 => 1 | 4 => 2 | n => n⟩
theorem Tryz.lays160 : Go.Proofs.Lays.n160 Tryz.prog Tryz.lays160_ren := {
 mixed := by kernel_rfl
 f119 := Tryz.func155.trans (congrArg some (by kernel_rfl))
 f120 := Tryz.func144.trans (congrArg some (by kernel_rfl))
 f137 := Tryz.func154.trans (congrArg some (by kernel_rfl))
 f151 := Tryz.func124.trans (congrArg some (by kernel_rfl))
 f152 := Tryz.func143.trans (congrArg some (by kernel_rfl))
 f160 := Tryz.func64.trans (congrArg some (by kernel_rfl))
 f197 := Tryz.func123.trans (congrArg some (by kernel_rfl))
 f217 := Tryz.func169.trans (congrArg some (by kernel_rfl))
 f224 := Tryz.func156.trans (congrArg some (by kernel_rfl))
 f225 := Tryz.func157.trans (congrArg some (by kernel_rfl))
 f227 := Tryz.func96.trans (congrArg some (by kernel_rfl))
 f228 := Tryz.func122.trans (congrArg some (by kernel_rfl))
 f231 := Tryz.func94.trans (congrArg some (by kernel_rfl))
 f232 := Tryz.func95.trans (congrArg some (by kernel_rfl))
 f233 := Tryz.func97.trans (congrArg some (by kernel_rfl))
 f234 := Tryz.func98.trans (congrArg some (by kernel_rfl))
 f235 := Tryz.func99.trans (congrArg some (by kernel_rfl))
 f236 := Tryz.func100.trans (congrArg some (by kernel_rfl))
 f260 := Tryz.func142.trans (congrArg some (by kernel_rfl))
 f266 := Tryz.func178.trans (congrArg some (by kernel_rfl))
 f271 := Tryz.func125.trans (congrArg some (by kernel_rfl))
 t0 := Tryz.underlying0
 a0 := Tryz.isAgg0
 z0 := Tryz.sizeOf0
 v0 := Tryz.zeroValue0
 t3 := Tryz.underlying3
 a3 := Tryz.isAgg3
 z3 := Tryz.sizeOf3
 v3 := Tryz.zeroValue3
 t4 := Tryz.underlying4
 a4 := Tryz.isAgg4
 z4 := Tryz.sizeOf4
 v4 := Tryz.zeroValue4
 t5 := Tryz.underlying5
 a5 := Tryz.isAgg5
 z5 := Tryz.sizeOf5
 v5 := Tryz.zeroValue5
 t9 := Tryz.underlying9
 a9 := Tryz.isAgg9
 z9 := Tryz.sizeOf9
 v9 := Tryz.zeroValue9
 t21 := Tryz.underlying21
 a21 := Tryz.isAgg21
 z21 := Tryz.sizeOf21
 v21 := Tryz.zeroValue21
 t46 := Tryz.underlying123
 a46 := Tryz.isAgg123
 z46 := Tryz.sizeOf123
 v46 := Tryz.zeroValue123
 t105 := Tryz.underlying170
 a105 := Tryz.isAgg170
 z105 := Tryz.sizeOf170
 v105 := Tryz.zeroValue170
 t116 := Tryz.underlying140
 a116 := Tryz.isAgg140
 z116 := Tryz.sizeOf140
 t117 := Tryz.underlying141
 a117 := Tryz.isAgg141
 z117 := Tryz.sizeOf141
 v117 := Tryz.zeroValue141
 t119 := Tryz.underlying194
 a119 := Tryz.isAgg194
 z119 := Tryz.sizeOf194
 t124 := Tryz.underlying144
 a124 := Tryz.isAgg144
 z124 := Tryz.sizeOf144
 v124 := Tryz.zeroValue144
 t138 := Tryz.underlying196
 a138 := Tryz.isAgg196
 z138 := Tryz.sizeOf196
 v138 := Tryz.zeroValue196
 t139 := Tryz.underlying197
 a139 := Tryz.isAgg197
 z139 := Tryz.sizeOf197
 v139 := Tryz.zeroValue197
 g3 := by kernel_rfl
 g4 := by kernel_rfl }
def Tryz.lays171_ren : Go.Shelf.Ren := ⟨fun | 171 => 151 | 243 => 162 | 246 => 172 | 283 => 174 | 284 => 175 | 285 => 176 | 286 => 177 | 129 => 160 | 317 => 179 | 318 => 180 | 319 => 181 | 320 => 182 | 337 => 183 | 338 => 184 | n => n, fun | 3 => 3 | 9 => 9 | 2 => 2 | 4 => 4 | 171 => 206 | 0 => 0 | 53 => 165 | 37 => 128 | 5 => 5 | 173 => 208 | 212 => 211 | 51 => 162 | 20 => 20 | 213 => 212 | 46 => 123 | 232 => 215 | 233 => 216 | n => n, fun | 17 => 5 | 18 => 6 | 19 => 7 | n => n⟩
theorem Tryz.lays171 : Go.Proofs.Lays.n171 Tryz.prog Tryz.lays171_ren := {
 mixed := by kernel_rfl
 f129 := Tryz.func160.trans (congrArg some (by kernel_rfl))
 f171 := Tryz.func151.trans (congrArg some (by kernel_rfl))
 f243 := Tryz.func162.trans (congrArg some (by kernel_rfl))
 f246 := Tryz.func172.trans (congrArg some (by kernel_rfl))
 f283 := Tryz.func174.trans (congrArg some (by kernel_rfl))
 f284 := Tryz.func175.trans (congrArg some (by kernel_rfl))
 f285 := Tryz.func176.trans (congrArg some (by kernel_rfl))
 f286 := Tryz.func177.trans (congrArg some (by kernel_rfl))
 f317 := Tryz.func179.trans (congrArg some (by kernel_rfl))
 f318 := Tryz.func180.trans (congrArg some (by kernel_rfl))
 f319 := Tryz.func181.trans (congrArg some (by kernel_rfl))
 f320 := Tryz.func182.trans (congrArg some (by kernel_rfl))
 f337 := Tryz.func183.trans (congrArg some (by kernel_rfl))
 f338 := Tryz.func184.trans (congrArg some (by kernel_rfl))
 t0 := Tryz.underlying0
 a0 := Tryz.isAgg0
 z0 := Tryz.sizeOf0
 v0 := Tryz.zeroValue0
 t2 := Tryz.underlying2
 a2 := Tryz.isAgg2
 z2 := Tryz.sizeOf2
 v2 := Tryz.zeroValue2
 t3 := Tryz.underlying3
 a3 := Tryz.isAgg3
 z3 := Tryz.sizeOf3
 v3 := Tryz.zeroValue3
 t4 := Tryz.underlying4
 a4 := Tryz.isAgg4
 z4 := Tryz.sizeOf4
 v4 := Tryz.zeroValue4
 t5 := Tryz.underlying5
 a5 := Tryz.isAgg5
 z5 := Tryz.sizeOf5
 v5 := Tryz.zeroValue5
 t9 := Tryz.underlying9
 a9 := Tryz.isAgg9
 z9 := Tryz.sizeOf9
 v9 := Tryz.zeroValue9
 t20 := Tryz.underlying20
 a20 := Tryz.isAgg20
 z20 := Tryz.sizeOf20
 v20 := Tryz.zeroValue20
 t37 := Tryz.underlying128
 a37 := Tryz.isAgg128
 z37 := Tryz.sizeOf128
 v37 := Tryz.zeroValue128
 t46 := Tryz.underlying123
 a46 := Tryz.isAgg123
 z46 := Tryz.sizeOf123
 v46 := Tryz.zeroValue123
 t51 := Tryz.underlying162
 a51 := Tryz.isAgg162
 z51 := Tryz.sizeOf162
 v51 := Tryz.zeroValue162
 t53 := Tryz.underlying165
 a53 := Tryz.isAgg165
 z53 := Tryz.sizeOf165
 v53 := Tryz.zeroValue165
 t171 := Tryz.underlying206
 a171 := Tryz.isAgg206
 z171 := Tryz.sizeOf206
 v171 := Tryz.zeroValue206
 t173 := Tryz.underlying208
 a173 := Tryz.isAgg208
 z173 := Tryz.sizeOf208
 v173 := Tryz.zeroValue208
 t212 := Tryz.underlying211
 a212 := Tryz.isAgg211
 z212 := Tryz.sizeOf211
 v212 := Tryz.zeroValue211
 t213 := Tryz.underlying212
 a213 := Tryz.isAgg212
 z213 := Tryz.sizeOf212
 t232 := Tryz.underlying215
 a232 := Tryz.isAgg215
 z232 := Tryz.sizeOf215
 v232 := Tryz.zeroValue215
 t233 := Tryz.underlying216
 a233 := Tryz.isAgg216
 z233 := Tryz.sizeOf216
 v233 := Tryz.zeroValue216
 g17 := by kernel_rfl
 g18 := by kernel_rfl
 g19 := by kernel_rfl }
def Tryz.lays212_ren : Go.Shelf.Ren := ⟨fun | 212 => 86 | 263 => 117 | 264 => 118 | n => n, fun | 46 => 123 | 51 => 162 | 146 => 163 | 53 => 165 | 148 => 166 | n => n, fun | n => n⟩
theorem Tryz.lays212 : Go.Proofs.Lays.n212 Tryz.prog Tryz.lays212_ren := {
 mixed := by kernel_rfl
 f212 := Tryz.func86.trans (congrArg some (by kernel_rfl))
 f263 := Tryz.func117.trans (congrArg some (by kernel_rfl))
 f264 := Tryz.func118.trans (congrArg some (by kernel_rfl))
 t46 := Tryz.underlying123
 a46 := Tryz.isAgg123
 z46 := Tryz.sizeOf123
 v46 := Tryz.zeroValue123
 t51 := Tryz.underlying162
 a51 := Tryz.isAgg162
 z51 := Tryz.sizeOf162
 v51 := Tryz.zeroValue162
 t53 := Tryz.underlying165
 a53 := Tryz.isAgg165
 z53 := Tryz.sizeOf165
 v53 := Tryz.zeroValue165
 t146 := Tryz.underlying163
 a146 := Tryz.isAgg163
 z146 := Tryz.sizeOf163
 v146 := Tryz.zeroValue163
 t148 := Tryz.underlying166
 a148 := Tryz.isAgg166
 z148 := Tryz.sizeOf166
 v148 := Tryz.zeroValue166 }
end Go.Proofs
