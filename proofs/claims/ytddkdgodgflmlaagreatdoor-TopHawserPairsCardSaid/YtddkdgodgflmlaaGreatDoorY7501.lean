/- Contracts and plain facts that the claim uses (SlA Ps1 RlA LtA RlB MaQ MaE MaF MbS MaK MaL MaS MbW). Conditions: as each one states. -/
import Derived.RangeFuncNested
import Derived.RangeFuncBound
import Derived.RangeFuncCalls
import Derived.RangeFuncLeaves
import Derived.RangeFuncFrom
import Derived.Shelf.Abstract
import Derived.Shelf.RegionOpen
import Derived.WalkKit
import Derived.OwnWalkIn
import Derived.TacticsInMore
import Derived.LoopNIn
import Derived.LoopIn
import Derived.Test.YtddkdgodgflmlaaGreatDoorProg
import Derived.WalkSpells
import Derived.Maps.AppendAt
import Derived.Deep.Quiet
import Derived.Maps.Own
import Derived.Maps.OwnSet
import Derived.Maps.Views
import Derived.WalkLawsBesides
import Derived.Laws.EntriesVeiled
import Derived.Deep.QuietTactic
import Derived.BigQuiet
import Derived.Shelf.Strings.Trim
import Derived.Shelf.Strings.SlTrimAscii
import Derived.Shelf.Strings.Repeat
import Derived.Shelf.Strings.OnBuilder
import Derived.Shelf.Strconv.Itoa1
import Derived.Shelf.Strconv.Itoa3
import Derived.Shelf.LaysM
import Derived.Ground.Names2Prog
import Derived.Lib.OthersKept
import Derived.Deep.RegionHeld3
import Derived.Deep.AppendLies
import Derived.Deep.RegionHeldLaw
import Derived.Deep.RegionLaw
import Derived.StillTail
import Derived.Laws.Tables
import Derived.IntWalk
import Derived.Laws.CopyOwn
import Derived.BigRegion
import Derived.ChangeAlike
import Derived.Shelf.Bits.Mul64
import Derived.Lib.ItoaLen
import Derived.Lib.ItoaMem
import Derived.Sort.LoopGhostIn
import Derived.Maps.RangeWalk
import Derived.Maps.Ext
import Derived.Sort.QuietThIn
import Derived.Test.YtddkdgodgflmlaaGreatDoorXz01
import Derived.Test.YtddkdgodgflmlaaGreatDoorXz02
import Derived.Test.YtddkdgodgflmlaaGreatDoorXz03
import Derived.Test.YtddkdgodgflmlaaGreatDoorXz04
import Derived.Test.YtddkdgodgflmlaaGreatDoorXz05
set_option linter.all false

namespace Go.Proofs.YtddkdgodgflmlaaGreatDoor
open Go.RowKit
set_option maxHeartbeats 1000000
set_option maxRecDepth 100000

end Go.Proofs.YtddkdgodgflmlaaGreatDoor

namespace Go.Proofs.YtddkdgodgflmlaaGreatDoor
open Go.RowKit
set_option maxRecDepth 100000

section
variable {B : Nat} {w0 w w' : World} {L K : List Pc}
end

section
variable {B : Nat} {w0 w w' : World} {L : List Pc} {α : Type} {c : α → Value} {sz : Nat} {e : TypeId} {v : Value} {l : List α}
end

section
variable {P : Program} {ops : Array Oper} {rest : List Oper} {a : Act} {Q : Exit → Act → World → Prop} {α : Type} {c : α → Value} {sz bytes B : Nat} {t e : TypeId} {z v : Value} {w0 w : World} {L : List Pc} {l : List α}
theorem wpList_appL {d : Option Tmp} {ty : TypeId} {p : String} {s x : Operand} {af : Array Edge} {ad : Option Addr} {n cap : Nat} {ys : List α} (i : Nat) (E : ETy P t e z sz bytes)
   (hs : a.eval s = v) (hx : a.eval x = .slice ad n cap) (hS : SL B w0 w L) (hi : L[i]? = some (pOwn c sz e v l)) (hR : Reps c sz w ad cap ys) (hn : n = ys.length) (h1 : ∀ x, ∀ u ∈ (c x).cells.toList, u.oneCell' = true)
   (hb : (l.length + ys.length) * bytes ≤ 140737488355328) (hm : l.length + ys.length ≤ 9223372036854775807)
   (hK : ∀ v' w', SL B w0 w' (L.set i (pOwn c sz e v' (l ++ ys))) → wpList P ops Q rest (a.put d v') w') :
   wpList P ops Q (⟨d, .call { callee := .builtin .append, args := #[s, x], argTypes := #[t, t] }, ty, p, af, none⟩ :: rest) a w := by
 subst hn
 obtain ⟨b, ⟨h2, h3⟩, h4, h5⟩ := hS.upd i hi
 refine wpList_app (l := l) (ys := ys) (ad := ad) (cap := cap) E hs hx h2 hR h1 hb (Nat.zero_le _) hm ?_
 intro v' w' ho hg hat
 refine hK v' w' (h5 w' _ v'.ownBlock (h3 ▸ hg) ⟨ho, rfl⟩ ?_)
 rcases hat with hat | hat
 ·exact .inl (hat.trans h3)
 ·exact .inr (fun k hk => by rw [hat] at hk; cases hk; exact Nat.le_refl _)
end
section
variable {ops : Array Oper} {rest : List Oper} {a : Act} {Q : Exit → Act → World → Prop} {d : Option Tmp} {ty : TypeId} {p : String} {m x y : Operand} {af : Array Edge} {b n B : Nat} {k : Int} {w0 w : World} {L : List Pc}
end
end Go.Proofs.YtddkdgodgflmlaaGreatDoor

namespace Go.Proofs.YtddkdgodgflmlaaGreatDoor
open Go.RowKit
set_option maxRecDepth 100000

section
variable {B : Nat} {w0 w w' : World} {L K : List Pc}
end

section
variable {α : Type} {c : α → Value} {sz : Nat} {e : TypeId} {v : Value} {l : List α} {B : Nat} {W0 w : World} {L : List Pc}
end
end Go.Proofs.YtddkdgodgflmlaaGreatDoor

namespace Go.Proofs.YtddkdgodgflmlaaGreatDoor
open Go.RowKit
set_option maxHeartbeats 1000000
set_option maxRecDepth 100000

theorem atD_take {r : List Int} {c k : Nat} (h : k < c) : atD 0 (r.take c) k = atD 0 r k := by
 unfold atD
 rw [List.getD_eq_getElem?_getD, List.getD_eq_getElem?_getD, List.getElem?_take]
 simp [h]
end Go.Proofs.YtddkdgodgflmlaaGreatDoor

namespace Go.Proofs.YtddkdgodgflmlaaGreatDoor
open Go.RowKit
section
variable {P : Program} {ops : Array Oper} {md : Region.Mode} {C : World → Prop}

end
section
variable {P : Program} {ops : Array Oper} {Qa : Act → Prop} {w : World} {rest : List Oper} {a : Act} {ty : TypeId} {p : String} {af : Array Edge} {g : Option (Nat × Bool)} {d : Tmp}
end

section
variable {P : Program} {ops : Array Oper} {Q : Exit → Act → World → Prop} {w w0 : World} {rest : List Oper} {a : Act} {ty : TypeId} {p : String} {af : Array Edge} {g : Option (Nat × Bool)} {B : Nat} {L : List Pc}
end
end Go.Proofs.YtddkdgodgflmlaaGreatDoor

namespace Go.Proofs.YtddkdgodgflmlaaGreatDoor
open Go.RowKit
section
variable {P : Program} {ops : Array Oper} {Q : Exit → Act → World → Prop} {md : Region.Mode} {C : World → Prop}

/-- the same value in every world of the class, the world left alone. -/
def YieldsC (P : Program) (ops : Array Oper) (C : World → Prop) (o : Oper) (v : Value) (a : Act) : Prop :=
 (Region.wanted o (yielded ops a.tmps) = true ∧ ∀ w, C w → (execOp a.eval o).run P w = .ok (.value v) w) ∨
 (Region.wanted o (yielded ops a.tmps) = false ∧ v = undef)
theorem YieldsC.wpOp {i : Nat} {o : Oper} {v : Value} {a : Act} (hi : ops[i]? = some o) (hy : YieldsC P ops C o v a)
  {K : Act → World → Prop} {w : World} (hC : C w) (h : K (a.put o.dst v) w) : wpOp P ops Q i K a w := by
 unfold Go.wpOp
 simp only [hi]
 rcases hy with ⟨hw, hv⟩ | ⟨hw, rfl⟩
 ·simp only [hw, if_true, Oper.wp, hv w hC, Oper.upon]; exact .inl h
 ·simp only [hw, Bool.false_eq_true, if_false]; exact h
theorem YieldsC.of_same {o : Oper} {v : Value} {a a' : Act} (hy : YieldsC P ops C o v a) (he : execOp a'.eval o = execOp a.eval o)
  (hw : Region.wanted o (yielded ops a'.tmps) = Region.wanted o (yielded ops a.tmps)) : YieldsC P ops C o v a' := by
 unfold YieldsC at *
 rw [he, hw]
 exact hy

theorem wpOp_putC {j : Nat} {oi oj : Oper} {v : Value} (hj : ops[j]? = some oj) (hap : oi.apart ops oj = true)
  (hsi : ∀ cs b, oi.op ≠ .select cs b) (hsj : ∀ cs b, oj.op ≠ .select cs b)
  (hQ : ∀ c a w, ¬ Q (.panic c) a w) {K : Act → World → Prop} {a : Act} {w : World}
  (hy : YieldsC P ops C oi v a) (h : wpOp P ops Q j K (a.put oi.dst v) w) :
  wpOp P ops Q j (fun a' w' => YieldsC P ops C oi v a' ∧ K (a'.put oi.dst v) w') a w := by
 obtain ⟨h1, h2, h3⟩ := Oper.apart_spec hap
 have keep : ∀ (a : Act), YieldsC P ops C oi v a → ∀ u, YieldsC P ops C oi v (a.put oj.dst u) := fun a hy u =>
  hy.of_same (execOp_put oi hsi a oj.dst u h3) (wanted_put oi a oj.dst u h3)
 have keepD : ∀ d, YieldsC P ops C oi v { a with defers := d :: a.defers } := fun d => hy.of_same rfl rfl
 unfold wpOp at *
 simp only [hj] at *
 rw [wanted_put oj a oi.dst v h1] at h
 split
 ·rename_i hw
  simp only [hw, if_true] at h
  rcases h with h | ⟨hasks, hlets⟩
  case inr => exact .inr ⟨by unfold Oper.asks at *; rw [execOp_put oj hsj a oi.dst v h1] at hasks; exact hasks, hlets⟩
  refine .inl ?_
  unfold Oper.wp at *
  rw [execOp_put oj hsj a oi.dst v h1] at h
  generalize (execOp a.eval oj).run P w = r at *
  cases r with
  | ok n w' =>
   cases n <;> simp only [Oper.upon] at h ⊢
   case value u => exact ⟨keep a hy u, by rw [← Act.put_comm a v u h2]; exact h⟩
   case skip => exact ⟨keep a hy _, by rw [← Act.put_comm a v undef h2]; exact h⟩
   case defer d =>
    refine ⟨keep _ (keepD d) _, ?_⟩
    rw [← Act.put_comm _ v undef h2, ← Act.put_defers]
    exact h
   case enter f args =>
    refine Calls.mono h fun e w'' he => ?_
    cases e with
    | returned u => exact ⟨keep a hy u, by rw [← Act.put_comm a v u h2]; exact he⟩
    | panicked c => exact absurd he (hQ _ _ _)
    | outgrown => exact he
   case row row args => exact Rows.mono h fun u w'' he => ⟨keep a hy u, by rw [← Act.put_comm a v u h2]; exact he⟩
  | halt x w' =>
   cases x <;> simp only [Oper.upon] at h ⊢
   case panic u => exact absurd h (hQ _ _ _)
 ·rename_i hw
  simp only [hw] at h
  exact ⟨keep a hy _, by rw [← Act.put_comm a v undef h2]; exact h⟩

/-- whatever order is picked; the class is kept. -/
def wpAnyC (P : Program) (md : Region.Mode) (ops : Array Oper) (C : World → Prop) (Q : Exit → Act → World → Prop) : Nat → Array Bool → Act → World → Prop
 | 0, listed, a, w => Region.ready md ops listed = [] ∧ Q .normal a w
 | fuel + 1, listed, a, w =>
  (Region.ready md ops listed = [] → Q .normal a w) ∧
  ∀ i ∈ Region.ready md ops listed, wpOp P ops Q i (fun a' w' => C w' ∧ wpAnyC P md ops C Q fuel (listed.setIfInBounds i true) a' w') a w
theorem wpAny_of_C : ∀ (fuel : Nat) (listed : Array Bool) (a : Act) (w : World), wpAnyC P md ops C Q fuel listed a w → wpAny P md ops Q fuel listed a w
 | 0, _, _, _, h => h
 | fuel + 1, _, _, _, h => ⟨h.1, fun i hi => wpOp_mono (fun _ _ h' => wpAny_of_C fuel _ _ _ h'.2) (h.2 i hi)⟩

theorem wpAnyC_first {i : Nat} {oi : Oper} {v : Value} (hi : ops[i]? = some oi) (hsel : ∀ (j : Nat) (o : Oper) cs b, ops[j]? = some o → o.op ≠ .select cs b) (hQ : ∀ c a w, ¬ Q (.panic c) a w) :
  ∀ (fuel : Nat) (listed : Array Bool) (a : Act) (w : World), C w →
   (∀ j oj, ops[j]? = some oj → j ≠ i → listed.getD j true = false → (∀ e ∈ oj.after, Region.binds md e = true → e.on ≠ i) → oi.apart ops oj = true) →
   i ∈ Region.ready md ops listed → YieldsC P ops C oi v a →
   wpAnyC P md ops C Q fuel (listed.setIfInBounds i true) (a.put oi.dst v) w → wpAnyC P md ops C Q (fuel + 1) listed a w := by
 intro fuel
 induction fuel with
 | zero =>
  intro listed a w hC _ hr hy H
  refine ⟨fun h => (by rw [h] at hr; cases hr), fun j hj => ?_⟩
  by_cases hji : j = i
  ·subst hji; exact hy.wpOp hi hC ⟨hC, H⟩
  ·have := ready_mono hj hji
   rw [H.1] at this
   cases this
 | succ fuel ih =>
  intro listed a w hC hfree hr hy H
  refine ⟨fun h => (by rw [h] at hr; cases hr), fun j hj => ?_⟩
  by_cases hji : j = i
  ·subst hji; exact hy.wpOp hi hC ⟨hC, H⟩
  ·have h1 := H.2 j (ready_mono hj hji)
   obtain ⟨hjun, oj, hoj, hall⟩ := mem_ready.1 hj
   have hnot : ∀ e ∈ oj.after, Region.binds md e = true → e.on ≠ i := fun e he hb heq => by
    have h1 := hall e he hb
    have h0 := (mem_ready.1 hr).1
    rw [heq, getD_both h0] at h1
    cases h1
   have h2 := wpOp_putC hoj (hfree j oj hoj hji hjun hnot) (fun cs b => hsel i oi cs b hi) (fun cs b => hsel j oj cs b hoj) hQ hy h1
   have hfree' : ∀ k ok, ops[k]? = some ok → k ≠ i → (listed.setIfInBounds j true).getD k true = false →
     (∀ e ∈ ok.after, Region.binds md e = true → e.on ≠ i) → oi.apart ops ok = true := fun k ok hk hki hun hno => by
    refine hfree k ok hk hki ?_ hno
    by_cases hjk : j = k
    ·subst hjk; exact hjun
    ·rw [getD_set_ne true hjk] at hun; exact hun
   refine wpOp_mono (fun a' w' h3 => ⟨h3.2.1, ih (listed.setIfInBounds j true) a' w' h3.2.1 hfree' (ready_mono hr (Ne.symm hji)) h3.1 ?_⟩) h2
   rw [Array.setIfInBounds_comm _ _ hji]
   exact h3.2.2

/-- these operations may come first, in this order. -/
def Region.firstB (md : Region.Mode) (ops : Array Oper) : List Nat → Array Bool → Bool
 | [], _ => true
 | q :: qs, listed => (Region.ready md ops listed).contains q && Region.free md ops listed q && Region.firstB md ops qs (listed.setIfInBounds q true)
def listAll (listed : Array Bool) (qs : List Nat) : Array Bool := qs.foldl (fun l q => l.setIfInBounds q true) listed
/-- the walk of those. -/
def wpPure (P : Program) (ops : Array Oper) (C : World → Prop) (K : Act → Prop) : List Oper → Act → Prop
 | [], a => K a
 | o :: r, a => ∃ v, YieldsC P ops C o v a ∧ wpPure P ops C K r (a.put o.dst v)
theorem wpAnyC_pure (hsel : Region.noSelect ops = true) (hQ : ∀ c a w, ¬ Q (.panic c) a w) {w : World} (hC : C w) {g : Nat} : ∀ (qs : List Nat) (l : List Oper) (listed : Array Bool) (a : Act), qs.map (fun i => ops[i]?) = l.map some →
  Region.firstB md ops qs listed = true → wpPure P ops C (fun a' => wpAnyC P md ops C Q g (listAll listed qs) a' w) l a → wpAnyC P md ops C Q (g + qs.length) listed a w
 | [], [], listed, a, _, _, h => h
 | [], _ :: _, _, _, hm, _, _ => by cases hm
 | _ :: _, [], _, _, hm, _, _ => by cases hm
 | q :: qs, o :: l, listed, a, hm, hB, h => by
   simp only [List.map_cons, List.cons.injEq] at hm
   simp only [Region.firstB, Bool.and_eq_true] at hB
   obtain ⟨v, hy, hK⟩ := h
   exact wpAnyC_first hm.1 (Region.noSelect_spec hsel) hQ (g + qs.length) listed a w hC (Region.free_spec hm.1 hB.1.2) (by simpa using hB.1.1) hy
     (wpAnyC_pure hsel hQ hC qs l _ _ hm.2 hB.2 hK)

end
end Go.Proofs.YtddkdgodgflmlaaGreatDoor

namespace Go.Proofs.YtddkdgodgflmlaaGreatDoor
open Go.RowKit Go.Maps
set_option maxRecDepth 100000

section
variable {P : Program} {ops : Array Oper} {Q : Exit → Act → World → Prop} {md : Region.Mode} {C : World → Prop}
theorem wpAnyC_on {fuel : Nat} {listed : Array Bool} {a : Act} {w : World} (is : List Nat) (hr : Region.ready md ops listed = is) (hne : is ≠ []) (h : ∀ i ∈ is, wpOp P ops Q i (fun a' w' => C w' ∧ wpAnyC P md ops C Q fuel (listed.setIfInBounds i true) a' w') a w) : wpAnyC P md ops C Q (fuel + 1) listed a w :=
 ⟨fun h => absurd (hr ▸ h) hne, fun i hi => h i (hr ▸ hi)⟩
theorem wpOp_value {i : Nat} {o : Oper} {v : Value} {a : Act} {w w' : World} (hi : ops[i]? = some o) (hw : Region.wanted o (yielded ops a.tmps) = true) (hrun : (execOp a.eval o).run P w = .ok (.value v) w') {K : Act → World → Prop} (h : K (a.put o.dst v) w') : wpOp P ops Q i K a w := by
 unfold wpOp
 simp only [hi, hw, if_true, Oper.wp, hrun, Oper.upon]
 exact .inl h
end
theorem of_wpList_nil {P : Program} {ops : Array Oper} {Q : Exit → Act → World → Prop} {a : Act} {w : World} (h : wpList P ops Q [] a w) : Q .normal a w := h
end Go.Proofs.YtddkdgodgflmlaaGreatDoor

namespace Go.Proofs.YtddkdgodgflmlaaGreatDoor
open Go.RowKit Go.Maps
set_option maxHeartbeats 1000000
set_option maxRecDepth 100000

end Go.Proofs.YtddkdgodgflmlaaGreatDoor

namespace Go.Proofs.YtddkdgodgflmlaaGreatDoor
open Go.RowKit
section
variable {P : Program} {ops : Array Oper} {Q : Exit → Act → World → Prop} {C : World → Prop}
theorem wpOp_call {i : Nat} {o : Oper} {f : FuncId} {args : Array Value} {a : Act} {w : World} (hi : ops[i]? = some o) (hw : Region.wanted o (yielded ops a.tmps) = true) (hrun : (execOp a.eval o).run P w = .ok (.enter f args) w) {K : Act → World → Prop}
   (h : Calls P f args w fun e w' => ∃ v, e = .returned v ∧ K (a.put o.dst v) w') : wpOp P ops Q i K a w := by
 unfold wpOp
 simp only [hi, hw, if_true, Oper.wp, hrun, Oper.upon]
 refine .inl (h.mono ?_)
 rintro e w' ⟨v, rfl, hK⟩
 exact hK
/-- what is left gives the same in every world of the class: in any order. -/
theorem wpAnyC_rest {md : Region.Mode} {w : World} {listed : Array Bool} {a : Act} {n : Nat} (qs : List Nat) (lo : List Oper) (hn : n = qs.length) (hlo : qs.map (fun i => ops[i]?) = lo.map some) (hsel : Region.noSelect ops = true) (hB : Region.firstB md ops qs listed = true)
   (hr : Region.ready md ops (listAll listed qs) = []) (hC : C w) (h : wpPure P ops C (fun a' => Q .normal a' w) lo a) : wpAnyC P md ops C (NoPanic Q) n listed a w := by
 subst hn
 have := wpAnyC_pure (g := 0) hsel (fun c a w h => h) hC qs lo listed a hlo hB (C := C) (Q := NoPanic Q) (P := P) (md := md)
 rw [Nat.zero_add] at this
 refine this ?_
 clear this
 revert h
 have : ∀ (l : List Oper) (a : Act), wpPure P ops C (fun a' => Q .normal a' w) l a → wpPure P ops C (fun a' => wpAnyC P md ops C (NoPanic Q) 0 (listAll listed qs) a' w) l a := by
  intro l
  induction l with
  | nil => intro a h; exact ⟨hr, h⟩
  | cons o r ih => intro a ⟨v, hy, hk⟩; exact ⟨v, hy, ih _ hk⟩
 exact this lo a
end
end Go.Proofs.YtddkdgodgflmlaaGreatDoor

namespace Go.Proofs.YtddkdgodgflmlaaGreatDoor
open Go.RowKit
section
variable {P : Program} {ops : Array Oper} {Q : Exit → Act → World → Prop} {md : Region.Mode} {C : World → Prop}

/-- the same value in every world of the class, the world left alone. -/
def YieldsK (P : Program) (ops : Array Oper) (C : World → Prop) (o : Oper) (v : Value) (a : Act) : Prop :=
 (Region.wanted o (yielded ops a.tmps) = true ∧ ∀ w, C w → (execOp a.eval o).run P w = .ok (.value v) w) ∨
 (Region.wanted o (yielded ops a.tmps) = false ∧ v = undef) ∨
 (Region.wanted o (yielded ops a.tmps) = true ∧ ∃ (f : FuncId) (args : Array Value), (∀ w, C w → (execOp a.eval o).run P w = .ok (.enter f args) w) ∧ ∀ w, C w → Calls P f args w fun e w' => e = .returned v ∧ w = w')
theorem YieldsK.wpOp {i : Nat} {o : Oper} {v : Value} {a : Act} (hi : ops[i]? = some o) (hy : YieldsK P ops C o v a)
  {K : Act → World → Prop} {w : World} (hC : C w) (h : K (a.put o.dst v) w) : wpOp P ops Q i K a w := by
 unfold Go.wpOp
 simp only [hi]
 rcases hy with ⟨hw, hv⟩ | ⟨hw, rfl⟩ | ⟨hw, f, args, hr, hc⟩
 ·simp only [hw, if_true, Oper.wp, hv w hC, Oper.upon]; exact .inl h
 ·simp only [hw, Bool.false_eq_true, if_false]; exact h
 ·simp only [hw, if_true, Oper.wp, hr w hC, Oper.upon]
  refine .inl ((hc w hC).mono ?_)
  rintro e w' ⟨rfl, rfl⟩
  exact h
theorem YieldsK.of_same {o : Oper} {v : Value} {a a' : Act} (hy : YieldsK P ops C o v a) (he : execOp a'.eval o = execOp a.eval o)
  (hw : Region.wanted o (yielded ops a'.tmps) = Region.wanted o (yielded ops a.tmps)) : YieldsK P ops C o v a' := by
 unfold YieldsK at *
 rw [he, hw]
 exact hy

theorem wpOp_putK {j : Nat} {oi oj : Oper} {v : Value} (hj : ops[j]? = some oj) (hap : oi.apart ops oj = true)
  (hsi : ∀ cs b, oi.op ≠ .select cs b) (hsj : ∀ cs b, oj.op ≠ .select cs b)
  (hQ : ∀ c a w, ¬ Q (.panic c) a w) {K : Act → World → Prop} {a : Act} {w : World}
  (hy : YieldsK P ops C oi v a) (h : wpOp P ops Q j K (a.put oi.dst v) w) :
  wpOp P ops Q j (fun a' w' => YieldsK P ops C oi v a' ∧ K (a'.put oi.dst v) w') a w := by
 obtain ⟨h1, h2, h3⟩ := Oper.apart_spec hap
 have keep : ∀ (a : Act), YieldsK P ops C oi v a → ∀ u, YieldsK P ops C oi v (a.put oj.dst u) := fun a hy u =>
  hy.of_same (execOp_put oi hsi a oj.dst u h3) (wanted_put oi a oj.dst u h3)
 have keepD : ∀ d, YieldsK P ops C oi v { a with defers := d :: a.defers } := fun d => hy.of_same rfl rfl
 unfold wpOp at *
 simp only [hj] at *
 rw [wanted_put oj a oi.dst v h1] at h
 split
 ·rename_i hw
  simp only [hw, if_true] at h
  rcases h with h | ⟨hasks, hlets⟩
  case inr => exact .inr ⟨by unfold Oper.asks at *; rw [execOp_put oj hsj a oi.dst v h1] at hasks; exact hasks, hlets⟩
  refine .inl ?_
  unfold Oper.wp at *
  rw [execOp_put oj hsj a oi.dst v h1] at h
  generalize (execOp a.eval oj).run P w = r at *
  cases r with
  | ok n w' =>
   cases n <;> simp only [Oper.upon] at h ⊢
   case value u => exact ⟨keep a hy u, by rw [← Act.put_comm a v u h2]; exact h⟩
   case skip => exact ⟨keep a hy _, by rw [← Act.put_comm a v undef h2]; exact h⟩
   case defer d =>
    refine ⟨keep _ (keepD d) _, ?_⟩
    rw [← Act.put_comm _ v undef h2, ← Act.put_defers]
    exact h
   case enter f args =>
    refine Calls.mono h fun e w'' he => ?_
    cases e with
    | returned u => exact ⟨keep a hy u, by rw [← Act.put_comm a v u h2]; exact he⟩
    | panicked c => exact absurd he (hQ _ _ _)
    | outgrown => exact he
   case row row args => exact Rows.mono h fun u w'' he => ⟨keep a hy u, by rw [← Act.put_comm a v u h2]; exact he⟩
  | halt x w' =>
   cases x <;> simp only [Oper.upon] at h ⊢
   case panic u => exact absurd h (hQ _ _ _)
 ·rename_i hw
  simp only [hw] at h
  exact ⟨keep a hy _, by rw [← Act.put_comm a v undef h2]; exact h⟩

theorem wpAnyK_first {i : Nat} {oi : Oper} {v : Value} (hi : ops[i]? = some oi) (hsel : ∀ (j : Nat) (o : Oper) cs b, ops[j]? = some o → o.op ≠ .select cs b) (hQ : ∀ c a w, ¬ Q (.panic c) a w) :
  ∀ (fuel : Nat) (listed : Array Bool) (a : Act) (w : World), C w →
   (∀ j oj, ops[j]? = some oj → j ≠ i → listed.getD j true = false → (∀ e ∈ oj.after, Region.binds md e = true → e.on ≠ i) → oi.apart ops oj = true) →
   i ∈ Region.ready md ops listed → YieldsK P ops C oi v a →
   wpAnyC P md ops C Q fuel (listed.setIfInBounds i true) (a.put oi.dst v) w → wpAnyC P md ops C Q (fuel + 1) listed a w := by
 intro fuel
 induction fuel with
 | zero =>
  intro listed a w hC _ hr hy H
  refine ⟨fun h => (by rw [h] at hr; cases hr), fun j hj => ?_⟩
  by_cases hji : j = i
  ·subst hji; exact hy.wpOp hi hC ⟨hC, H⟩
  ·have := ready_mono hj hji
   rw [H.1] at this
   cases this
 | succ fuel ih =>
  intro listed a w hC hfree hr hy H
  refine ⟨fun h => (by rw [h] at hr; cases hr), fun j hj => ?_⟩
  by_cases hji : j = i
  ·subst hji; exact hy.wpOp hi hC ⟨hC, H⟩
  ·have h1 := H.2 j (ready_mono hj hji)
   obtain ⟨hjun, oj, hoj, hall⟩ := mem_ready.1 hj
   have hnot : ∀ e ∈ oj.after, Region.binds md e = true → e.on ≠ i := fun e he hb heq => by
    have h1 := hall e he hb
    have h0 := (mem_ready.1 hr).1
    rw [heq, getD_both h0] at h1
    cases h1
   have h2 := wpOp_putK hoj (hfree j oj hoj hji hjun hnot) (fun cs b => hsel i oi cs b hi) (fun cs b => hsel j oj cs b hoj) hQ hy h1
   have hfree' : ∀ k ok, ops[k]? = some ok → k ≠ i → (listed.setIfInBounds j true).getD k true = false →
     (∀ e ∈ ok.after, Region.binds md e = true → e.on ≠ i) → oi.apart ops ok = true := fun k ok hk hki hun hno => by
    refine hfree k ok hk hki ?_ hno
    by_cases hjk : j = k
    ·subst hjk; exact hjun
    ·rw [getD_set_ne true hjk] at hun; exact hun
   refine wpOp_mono (fun a' w' h3 => ⟨h3.2.1, ih (listed.setIfInBounds j true) a' w' h3.2.1 hfree' (ready_mono hr (Ne.symm hji)) h3.1 ?_⟩) h2
   rw [Array.setIfInBounds_comm _ _ hji]
   exact h3.2.2

/-- the walk of those. -/
def wpPureK (P : Program) (ops : Array Oper) (C : World → Prop) (K : Act → Prop) : List Oper → Act → Prop
 | [], a => K a
 | o :: r, a => ∃ v, YieldsK P ops C o v a ∧ wpPureK P ops C K r (a.put o.dst v)
theorem wpAnyK_pure (hsel : Region.noSelect ops = true) (hQ : ∀ c a w, ¬ Q (.panic c) a w) {w : World} (hC : C w) {g : Nat} : ∀ (qs : List Nat) (l : List Oper) (listed : Array Bool) (a : Act), qs.map (fun i => ops[i]?) = l.map some →
  Region.firstB md ops qs listed = true → wpPureK P ops C (fun a' => wpAnyC P md ops C Q g (listAll listed qs) a' w) l a → wpAnyC P md ops C Q (g + qs.length) listed a w
 | [], [], listed, a, _, _, h => h
 | [], _ :: _, _, _, hm, _, _ => by cases hm
 | _ :: _, [], _, _, hm, _, _ => by cases hm
 | q :: qs, o :: l, listed, a, hm, hB, h => by
   simp only [List.map_cons, List.cons.injEq] at hm
   simp only [Region.firstB, Bool.and_eq_true] at hB
   obtain ⟨v, hy, hK⟩ := h
   exact wpAnyK_first hm.1 (Region.noSelect_spec hsel) hQ (g + qs.length) listed a w hC (Region.free_spec hm.1 hB.1.2) (by simpa using hB.1.1) hy
     (wpAnyK_pure hsel hQ hC qs l _ _ hm.2 hB.2 hK)

theorem wp_regionK {id : Nat} {Q : Exit → Act → World → Prop} {a : Act} {w : World} {l : List Oper} (qs : List Nat) (lo : List Oper) (g : Nat) (hlo : qs.map (fun i => l.toArray[i]?) = lo.map some) (hg : g + qs.length = l.length) (hm : P.follows .mixedOrders = true)
  (hsel : Region.noSelect l.toArray = true) (hB : Region.firstB .any l.toArray qs (Array.replicate l.length false) = true) (hC : C { w with drawn := w.drawn + 1 })
  (h : wpPureK P l.toArray C (fun a' => wpAnyC P .any l.toArray C (NoPanic Q) g (listAll (Array.replicate l.length false) qs) a' { w with drawn := w.drawn + 1 }) lo a) : (Code.region id l.toArray true).wp P Q a w := by
 refine wp_region_noPanic (wp_region_any hm ?_)
 have := wpAnyK_pure (md := .any) hsel (fun c a w h => h) hC qs lo _ a hlo hB h
 rw [hg] at this
 simpa using wpAny_of_C _ _ _ _ this
theorem wpOp_of_list {i : Nat} {o : Oper} (hi : ops[i]? = some o) {K : Act → World → Prop} {a : Act} {w : World}
  (h : wpList P ops (fun e a' w' => match e with | .normal => K a' w' | e => NoPanic Q e a' w') [o] a w) : wpOp P ops (NoPanic Q) i K a w := by
 unfold wpOp
 simp only [hi]
 unfold wpList at h
 split at h
 ·next hw =>
  rw [if_pos hw]
  rcases h with h | ⟨h1, h2⟩
  ·left; exact h
  ·right; exact ⟨h1, h2⟩
 ·next hw =>
  rw [if_neg hw]
  exact h
end
section
variable {P : Program} {ops : Array Oper} {w : World} {a : Act} {ty : TypeId} {p : String} {af : Array Edge} {g : Option (Nat × Bool)} {d : Tmp}
theorem yieldsK_val {C : World → Prop} {o : Oper} {v : Value} (hg : Region.wanted o (yielded ops a.tmps) = true) (h : ∀ w, (execOp a.eval o).run P w = .ok (.value v) w) : YieldsK P ops C o v a := .inl ⟨hg, fun w _ => h w⟩
theorem yieldsK_cell {e : TypeId} {s : Operand} {x : Addr} {v : Value} (hF : Flat P e) (hb : w.cell? x = some v) (hg : Region.wanted (⟨some d, .load e s, ty, p, af, g⟩ : Oper) (yielded ops a.tmps) = true) (hs : a.eval s = .pointer (some x)) :
  YieldsK P ops (Below w.heap.size w) ⟨some d, .load e s, ty, p, af, g⟩ v a := by
 refine .inl ⟨hg, fun w' hw' => ?_⟩
 have hc : w'.cell? x = some v := (hw'.cell (World.block_lt_of_cell? w _ hb)).trans hb
 simp [execOp, hs, run_loadAt_cell w' hF hc, Result.andThen]
theorem yieldsK_idx {sz bytes : Nat} {t e : TypeId} {z : Value} {b of cap n : Nat} {k : Int} {s x : Operand} {C : World → Prop} (E : ETy P t e z sz bytes) (h0 : 0 ≤ k) (hlt : k < n) (hg : Region.wanted (⟨some d, .indexAddr t s x, ty, p, af, g⟩ : Oper) (yielded ops a.tmps) = true)
  (hs : a.eval s = .slice (some ⟨b, of, none⟩) n cap) (hx : a.eval x = .int .i64 k) :
  YieldsK P ops C ⟨some d, .indexAddr t s x, ty, p, af, g⟩ (.pointer (some ⟨b, of + k.toNat * sz, none⟩)) a := by
 refine .inl ⟨hg, fun w' _ => ?_⟩
 have h1 := run_indexAt_sl (P := P) (a := ⟨b, of, none⟩) (cap := cap) w' E h0 hlt
 rw [Addr.add_z] at h1
 simp [execOp, hs, hx, h1, Result.andThen]
end
end Go.Proofs.YtddkdgodgflmlaaGreatDoor

namespace Go.Proofs.YtddkdgodgflmlaaGreatDoor

end Go.Proofs.YtddkdgodgflmlaaGreatDoor

namespace Go.Proofs.YtddkdgodgflmlaaGreatDoor
set_option maxRecDepth 100000

theorem itM_inj {m : MacV} {s t : Int} (h0 : 0 ≤ s) (h1 : s < 4 * m.gears) (k0 : 0 ≤ t) (k1 : t < 4 * m.gears) : ∀ n, itM m s n = itM m t n → s = t
 | 0, h => h
 | n + 1, h => by
   rw [itM_succ h0 h1, itM_succ k0 k1] at h
   have a := itM_rng h0 h1 n
   have b := itM_rng k0 k1 n
   exact itM_inj h0 h1 k0 k1 n (next_inj a.1 a.2 b.1 b.2 h)

theorem least_ex {P : Nat → Prop} (h : ∃ n, P n) : ∃ n, P n ∧ ∀ k, k < n → ¬ P k := by
 obtain ⟨n, hn⟩ := h
 induction n using Nat.strongRecOn with
 | _ n ih =>
  by_cases hx : ∃ k, k < n ∧ P k
  ·obtain ⟨k, hk, hp⟩ := hx; exact ih k hk hp
  ·exact ⟨n, hn, fun k hk hp => hx ⟨k, hk, hp⟩⟩
/-- two carriers are in both slots of a shared place. -/
def hitM (m : MacV) (x y : Int) : Bool := (decide (0 ≤ placeM m x) && sharedM m (placeM m x)) && decide (placeM m x = placeM m y)
/-- what a first meeting is. -/
def MeetR (m : MacV) (a b : Int) : Option (Nat × Int) → Prop
 | some (n, p) => hitM m (itM m a n) (itM m b n) = true ∧ p = placeM m (itM m a n) ∧ ∀ k, k < n → hitM m (itM m a k) (itM m b k) = false
 | none => ∀ k, hitM m (itM m a k) (itM m b k) = false
theorem meet_ex (m : MacV) (a b : Int) : ∃ r, MeetR m a b r := by
 by_cases h : ∃ n, hitM m (itM m a n) (itM m b n) = true
 ·obtain ⟨n, hn, hk⟩ := least_ex h
  exact ⟨some (n, _), hn, rfl, fun k h2 => by simpa using hk k h2⟩
 ·exact ⟨none, fun k => by cases e : hitM m (itM m a k) (itM m b k) with | false => rfl | true => exact absurd ⟨k, e⟩ h⟩
noncomputable def meetM (m : MacV) (a b : Int) : Option (Nat × Int) := Classical.choose (meet_ex m a b)
theorem meetM_spec (m : MacV) (a b : Int) : MeetR m a b (meetM m a b) := Classical.choose_spec (meet_ex m a b)
theorem MeetR.eq {m : MacV} {a b : Int} {r s : Option (Nat × Int)} (h : MeetR m a b r) (k : MeetR m a b s) : r = s := by
 match r, s, h, k with
 | none, none, _, _ => rfl
 | none, some (n, p), h, k => exact absurd (h n) (by rw [k.1]; decide)
 | some (n, p), none, h, k => exact absurd (k n) (by rw [h.1]; decide)
 | some (n, p), some (n', p'), h, k =>
  obtain ⟨h1, h2, h3⟩ := h
  obtain ⟨k1, k2, k3⟩ := k
  have : n = n' := by
   rcases Nat.lt_trichotomy n n' with hl | hl | hl
   ·exact absurd (k3 n hl) (by rw [h1]; decide)
   ·exact hl
   ·exact absurd (h3 n' hl) (by rw [k1]; decide)
  subst this
  rw [h2, k2]
/-- where both are again, without a meeting before: they never meet. -/
theorem meet_none {m : MacV} {a b : Int} {L : Nat} (hL : 0 < L) (ha : itM m a L = a) (hb : itM m b L = b) (h : ∀ k, k < L → hitM m (itM m a k) (itM m b k) = false) : MeetR m a b none := by
 intro k
 have e : k = k % L + k / L * L := by have := Nat.mod_add_div k L; rw [Nat.mul_comm] at this; omega
 have key : ∀ s, itM m s L = s → itM m s k = itM m s (k % L) := by
  intro s hs
  unfold itM at hs ⊢
  conv => lhs; rw [e, itP_add, itP_mul hs]
 rw [key a ha, key b hb]
 exact h _ (Nat.mod_lt _ hL)
/-- a number of steps after which both are again where they were. -/
theorem meet_per {m : MacV} {a b : Int} (a0 : 0 ≤ a) (a1 : a < 4 * m.gears) (b0 : 0 ≤ b) (b1 : b < 4 * m.gears) : ∃ L, 0 < L ∧ itM m a L = a ∧ itM m b L = b := by
 obtain ⟨d, hd⟩ := ordM a0 a1
 obtain ⟨e, he⟩ := ordM b0 b1
 refine ⟨e * d, Nat.mul_pos he.pos hd.pos, itP_mul hd.back e, ?_⟩
 rw [Nat.mul_comm]
 exact itP_mul he.back d
def befo (v w : Nat × Int) : Bool := decide (v.1 < w.1) || (decide (v.1 = w.1) && decide (v.2 < w.2))
def bestS (b x : Option (Nat × Int)) : Option (Nat × Int) := match x with
 | none => b
 | some v => match b with | none => some v | some w => if befo v w then some v else some w
/-- the pairs that are gone through. -/
def pairsTo (l : List Int) (i : Nat) : List (Int × Int) := (List.range i).flatMap fun j => (l.take j).map fun b => (atD 0 l j, b)
noncomputable def firstTo (m : MacV) (ps : List (Int × Int)) : Option (Nat × Int) := ps.foldl (fun b p => bestS b (meetM m p.1 p.2)) none
noncomputable def firstM (m : MacV) (l : List Int) : Option (Nat × Int) := firstTo m (pairsTo l l.length)
theorem pairsTo_succ (l : List Int) (i : Nat) : pairsTo l (i + 1) = pairsTo l i ++ (l.take i).map fun b => (atD 0 l i, b) := by simp [pairsTo, List.range_succ]
theorem firstTo_snoc (m : MacV) (ps : List (Int × Int)) (p : Int × Int) : firstTo m (ps ++ [p]) = bestS (firstTo m ps) (meetM m p.1 p.2) := by simp [firstTo]
end Go.Proofs.YtddkdgodgflmlaaGreatDoor

namespace Go.Proofs.YtddkdgodgflmlaaGreatDoor
open Go.RowKit
set_option maxHeartbeats 8000000
set_option maxRecDepth 100000

theorem A_meet : Aggr Tryz.prog 121 := ⟨_, Tryz.underlying121, rfl⟩
abbrev meC (x : Nat × Int) : Array Value := #[.int .i64 x.1, .int .i64 x.2]
abbrev meO : Option (Nat × Int) → Array Value
 | some x => meC x
 | none => #[.int .i64 0, .int .i64 0]
/-- the answer of meet and first. -/
abbrev meV (r : Option (Nat × Int)) : Value := .tuple #[.agg (meO r), .bool r.isSome]
theorem results_cellSlot {P : Program} {w : World} {fn : Func} {tmps : Array Value} {t T k s : Nat} {us : Array Value} {T' : TypeId} {fr : Nat × Nat} {v : Value} (h : fn.results = #[.cell t T, .tmp s]) (ht : tmps.getD t undef = .pointer (some ⟨k, 0, none⟩)) (hs : tmps.getD s undef = v) (hu : Aggr P T) (hz : (P.info? T).map (·.size) = some us.size) (hb : w.heap[k]? = some (.cells us T' fr)) :
  (results fn tmps).run P w = .ok (.tuple #[.agg us, v]) w := by
 obtain ⟨d, hd, hdd⟩ := hu
 have := run_loadVar_row (P := P) w k T' T us fr d hb hd (by cases d <;> first | exact hdd | rfl | cases hdd) hz
 simp only [Array.getD_eq_getD_getElem?] at ht hs
 simp [results, h, ht, hs, asAddr, this]

theorem before_any (x y : Nat × Int) (w : World) :
  Calls Tryz.prog 127 #[.agg (meC x), .agg (meC y)] w fun r w' => r = .returned (.bool (befo x y)) ∧ Below w.heap.size w w' := by
 have hS := ((SL.nil w).box (.cells (meC x) 121)).box (.cells (meC y) 121)
 unfold befo
 by_cases h1 : (x.1 : Int) < y.1
 ·have d1 : decide ((x.1 : Int) < y.1) = true := decide_eq_true h1
  have d2 : decide (x.1 < y.1) = true := decide_eq_true (by omega)
  go_enter Tryz.func127, Tryz.ntmps127
  go_wp2
  go_ret
  exact ⟨by rw [d2]; rfl, hS.b⟩
 ·have d1 : decide ((x.1 : Int) < y.1) = false := decide_eq_false h1
  have d2 : decide (x.1 < y.1) = false := decide_eq_false (by omega)
  by_cases h3 : (x.1 : Int) = y.1
  ·have d3 : ((x.1 : Int) == y.1) = true := by simpa using h3
   have d4 : decide (x.1 = y.1) = true := decide_eq_true (by omega)
   rw [d2, d4]
   clear h3
   go_enter Tryz.func127, Tryz.ntmps127
   go_wp2
   go_ret
   exact ⟨by simp, hS.b⟩
  ·have d3 : ((x.1 : Int) == y.1) = false := by simpa using h3
   have d4 : decide (x.1 = y.1) = false := decide_eq_false (by omega)
   rw [d2, d4]
   clear h3
   go_enter Tryz.func127, Tryz.ntmps127
   go_wp2
   go_ret
   exact ⟨rfl, hS.b⟩

theorem meet_per2 {m : MacV} {a b : Int} (hg : m.gears ≤ 16) (a0 : 0 ≤ a) (a1 : a < 4 * m.gears) (b0 : 0 ≤ b) (b1 : b < 4 * m.gears) : ∃ L, 0 < L ∧ L ≤ 4096 ∧ itM m a L = a ∧ itM m b L = b := by
 obtain ⟨d, hd⟩ := ordM a0 a1
 obtain ⟨e, he⟩ := ordM b0 b1
 have h1 := hd.le
 have h2 := he.le
 rw [permM_len] at h1 h2
 refine ⟨e * d, Nat.mul_pos he.pos hd.pos, ?_, itP_mul hd.back e, ?_⟩
 ·have : e * d ≤ 64 * 64 := Nat.mul_le_mul (by omega) (by omega)
  omega
 ·rw [Nat.mul_comm]
  exact itP_mul he.back d

theorem meet_any (m : MacV) (ad : Option Addr) (cap : Nat) (a b : Int) (w : World) (hR : Ints w ad cap m.sw) (hg : m.gears ≤ 16) (a0 : 0 ≤ a) (a1 : a < 4 * m.gears) (b0 : 0 ≤ b) (b1 : b < 4 * m.gears) :
  Calls Tryz.prog 126 #[mV m ad cap, .int .i64 a, .int .i64 b] w fun r w' => r = .returned (meV (meetM m a b)) ∧ Below w.heap.size w w' := by
 have hcap := hR.le
 have hmx := hR.max
 obtain ⟨L, hL0, hL1, hLa, hLb⟩ := meet_per2 (m := m) hg a0 a1 b0 b1
 obtain ⟨r, hr⟩ : ∃ r, MeetR m a b r := ⟨_, meetM_spec m a b⟩
 have hrm : meetM m a b = r := (meetM_spec m a b).eq hr
 have CP := fun (s : Int) w (h0 : 0 ≤ s) (h1 : s < 4 * m.gears) => place_any m ad cap s w hg h0 h1
 have CN := fun (s : Int) w (h : Ints w ad cap m.sw) (h0 : 0 ≤ s) (h1 : s < 4 * m.gears) => mnext_any m ad cap s w h hg h0 h1
 have CS := fun (p : Int) w => shared_any m ad cap p w
 rw [hrm]
 have hS := ((SL.nil w).box (.cells (mC m ad cap) 45)).box (.cells #[.int .i64 0, .int .i64 0] 121)
 have HP := hid CP; have HN := hid CN; have HS := hid CS; have HM := hid hr; have HLA := hid hLa; have HLB := hid hLb
 clear CP CN CS hr hrm hLa hLb
 go_enter Tryz.func126, Tryz.ntmps126
 go_wp2_with fail
 go_loopw [8, 9, 10] (fun x y i wr => ∃ n : Nat, n < L ∧ x = .int .i64 (itM m a n) ∧ y = .int .i64 (itM m b n) ∧ i = .int .i64 n ∧ (∀ k, k < n → hitM m (itM m a k) (itM m b k) = false) ∧ SL w.heap.size w wr [pBlk (w.heap.size + 1) (.cells #[.int .i64 0, .int .i64 0] 121), pBlk w.heap.size (.cells (mC m ad cap) 45)]) (fun _ _ i _ => L - (intOf i).toNat)
 case atStart => exact ⟨0, hL0, rfl, rfl, rfl, fun k hk => by omega, by simpa using hS⟩
 case round =>
  clear hS
  obtain ⟨n, hn, rfl, rfl, rfl, hno, hSr⟩ := hrel
  have hX := itM_rng a0 a1 n
  have hY := itM_rng b0 b1 n
  have hX1 := itM_succ a0 a1 n
  have hY1 := itM_succ b0 b1 n
  have hRr := hR.below hSr.b
  obtain ⟨X, eX⟩ : ∃ X, X = itM m a n := ⟨_, rfl⟩
  obtain ⟨Y, eY⟩ : ∃ Y, Y = itM m b n := ⟨_, rfl⟩
  rw [← eX] at hX hX1 ⊢
  rw [← eY] at hY hY1 ⊢
  have CP := fun w => HP.out X w hX.1 hX.2
  have CQ := fun w => HP.out Y w hY.1 hY.2
  have CX := fun w h => HN.out X w h hX.1 hX.2
  have CY := fun w h => HN.out Y w h hY.1 hY.2
  have hhit : hitM m X Y = ((decide (0 ≤ placeM m X) && sharedM m (placeM m X)) && decide (placeM m X = placeM m Y)) := rfl
  obtain ⟨p, hp⟩ : ∃ p, p = placeM m X := ⟨_, rfl⟩
  obtain ⟨q, hq⟩ : ∃ q, q = placeM m Y := ⟨_, rfl⟩
  rw [← hp] at CP hhit
  rw [← hq] at CQ hhit
  have CS := HS.out p
  have q0 := (hSr.blk 1 rfl).1
  have HNO := hid hno; have EX := hid eX; have EY := hid eY; have X1 := hid hX1; have Y1 := hid hY1; have HPP := hid hp
  have HCX := hid CX; have HCY := hid CY
  clear hno eX eY hX1 hY1 CX CY hp hq
  -- what follows where there is no meeting
  by_cases hp0 : 0 ≤ p
  ·have hpd : decide (0 ≤ p) = true := decide_eq_true hp0
   cases hsh : sharedM m p
   ·rw [hsh] at CS
    rw [hsh, Bool.and_false, Bool.false_and] at hhit
    have HIT := hid hhit; have HC := hid CP; have HD := hid CS
    clear CP CQ CS hhit hsh
    go_wp2_with (with_reducible refine wpList_ldS (n := 4) (us := mC m ad cap) A_mach kR wU wU (by assumption) wU wU ?_)
    refine (HC.out _).mono ?_
    rintro e w1 ⟨rfl, b1⟩
    have hS1 := hSr.mono b1
    have q1 := (hS1.blk 1 rfl).1
    go_wp2_with (with_reducible refine wpList_ldS (n := 4) (us := mC m ad cap) A_mach kR wU wU (by assumption) wU wU ?_)
    refine (HD.out _).mono ?_
    rintro e w2 ⟨rfl, b2⟩
    have hS4 := hS1.mono b2
    clear q0 q1
    go_wp2_with fail
    have R4 := hR.below hS4.b
    have q4 := (hS4.blk 1 rfl).1
    refine wp_region_q kR kR ?_
    repeat (first | ((with_reducible refine wpB_loadS (n := 4) (us := mC m ad cap) A_mach kR wU wU (by assumption) wU wU ?_); (try simp only [Act.put, pA, pB, pC])) | ((refine wpB_call (.int .i64 (nextM m X)) wU (fun w' => ?_) (fun w' hw' => HCX.out w' (R4.below hw')) ?_); (focus (go_simp; done)); (try simp only [Act.put, pA, pB, pC])) | ((refine wpB_call (.int .i64 (nextM m Y)) wU (fun w' => ?_) (fun w' hw' => HCY.out w' (R4.below hw')) ?_); (focus (go_simp; done)); (try simp only [Act.put, pA, pB, pC])) |  ((with_reducible refine wpB_load (by first | exact F_int | exact F_u64s) wU wU (by assumption) wU ?_); (try simp only [Act.put, pA, pB, pC])) | ((refine wpQ_oneG ?_ wU (fun w' => ?_) ?_); rotate_left; (go_simp; rfl); (try simp only [Act.put, pA, pB, pC])))
    refine wpQuiet_nil ?_
    intro w5 hb5
    have hS5 := hS4.mono hb5
    rw [← X1.out, ← Y1.out]
    have hno2 : ∀ k, k < n + 1 → hitM m (itM m a k) (itM m b k) = false := by
     intro k hk
     by_cases e : k = n
     ·rw [e, ← EX.out, ← EY.out]; exact HIT.out
     ·exact HNO.out k (by omega)
    by_cases ea : itM m a (n + 1) = a
    ·by_cases eb : itM m b (n + 1) = b
     ·have hN : MeetR m a b none := meet_none (by omega) ea eb hno2
      have hrn := HM.out.eq hN
      subst hrn
      clear hno2 hN
      rw [ea, eb]
      have da : (a == a) = true := by simp
      have db : (b == b) = true := by simp
      clear ea eb
      go_wp2_with ((with_reducible refine wpList_stoR (us := #[.int .i64 0, .int .i64 0]) 0 wU wU (hS5) wU kR wU wU ?_); intro w6 hS6)
      exact bodyPost_ret (results_cellSlot rfl rfl rfl A_meet kR (hS6.blk 0 rfl).1) rfl ⟨rfl, hS6.b⟩
     ·have da : (itM m a (n + 1) == a) = true := by simpa using ea
      have db : (itM m b (n + 1) == b) = false := by simpa using eb
      have hnl : n + 1 ≠ L := fun e => eb (by rw [e]; exact HLB.out)
      have HNO2 := hid hno2
      clear ea eb hno2
      go_wp2_with fail
      exact ⟨⟨n + 1, by omega, rfl, rfl, by go_num, HNO2.out, hS5⟩, by simp [intOf]; omega⟩
    ·have da : (itM m a (n + 1) == a) = false := by simpa using ea
     have hnl : n + 1 ≠ L := fun e => ea (by rw [e]; exact HLA.out)
     have HNO2 := hid hno2
     clear ea hno2
     go_wp2_with fail
     exact ⟨⟨n + 1, by omega, rfl, rfl, by go_num, HNO2.out, hS5⟩, by simp [intOf]; omega⟩
   ·rw [hsh] at CS
    by_cases hpq : p = q
    ·rw [hsh, hpd, decide_eq_true hpq] at hhit
     have hM : MeetR m a b (some (n, p)) := ⟨by rw [← EX.out, ← EY.out]; exact hhit, by rw [← EX.out]; exact HPP.out, HNO.out⟩
     have hrn := HM.out.eq hM
     subst hrn
     have hpb : (p == q) = true := by simpa using hpq
     have HC := hid CP; have HD := hid CS; have HE := hid CQ
     clear CP CQ CS hhit hsh hpq hM
     go_wp2_with (with_reducible refine wpList_ldS (n := 4) (us := mC m ad cap) A_mach kR wU wU (by assumption) wU wU ?_)
     refine (HC.out _).mono ?_
     rintro e w1 ⟨rfl, b1⟩
     have hS1 := hSr.mono b1
     have q1 := (hS1.blk 1 rfl).1
     go_wp2_with (with_reducible refine wpList_ldS (n := 4) (us := mC m ad cap) A_mach kR wU wU (by assumption) wU wU ?_)
     refine (HD.out _).mono ?_
     rintro e w2 ⟨rfl, b2⟩
     have hS2 := hS1.mono b2
     have q2 := (hS2.blk 1 rfl).1
     clear q1
     go_wp2_with (with_reducible refine wpList_ldS (n := 4) (us := mC m ad cap) A_mach kR wU wU (by assumption) wU wU ?_)
     refine (HE.out _).mono ?_
     rintro e w3 ⟨rfl, b3⟩
     have hS3 := hS2.mono b3
     clear q0 q2
     go_wp2_with ((with_reducible refine wpList_stoR (us := #[.int .i64 n, .int .i64 p]) 0 wU wU (hS3) wU kR wU wU ?_); intro w6 hS6)
     exact bodyPost_ret (results_cellSlot rfl rfl rfl A_meet kR (hS6.blk 0 rfl).1) rfl ⟨rfl, hS6.b⟩
    ·rw [hsh, hpd, decide_eq_false hpq] at hhit
     have hpb : (p == q) = false := by simpa using hpq
     have HIT := hid hhit; have HC := hid CP; have HD := hid CS; have HE := hid CQ
     clear CP CQ CS hhit hsh hpq
     go_wp2_with (with_reducible refine wpList_ldS (n := 4) (us := mC m ad cap) A_mach kR wU wU (by assumption) wU wU ?_)
     refine (HC.out _).mono ?_
     rintro e w1 ⟨rfl, b1⟩
     have hS1 := hSr.mono b1
     have q1 := (hS1.blk 1 rfl).1
     go_wp2_with (with_reducible refine wpList_ldS (n := 4) (us := mC m ad cap) A_mach kR wU wU (by assumption) wU wU ?_)
     refine (HD.out _).mono ?_
     rintro e w2 ⟨rfl, b2⟩
     have hS2 := hS1.mono b2
     have q2 := (hS2.blk 1 rfl).1
     clear q1
     go_wp2_with (with_reducible refine wpList_ldS (n := 4) (us := mC m ad cap) A_mach kR wU wU (by assumption) wU wU ?_)
     refine (HE.out _).mono ?_
     rintro e w3 ⟨rfl, b3⟩
     have hS4 := hS2.mono b3
     clear q0 q2
     go_wp2_with fail
     have R4 := hR.below hS4.b
     have q4 := (hS4.blk 1 rfl).1
     refine wp_region_q kR kR ?_
     repeat (first | ((with_reducible refine wpB_loadS (n := 4) (us := mC m ad cap) A_mach kR wU wU (by assumption) wU wU ?_); (try simp only [Act.put, pA, pB, pC])) | ((refine wpB_call (.int .i64 (nextM m X)) wU (fun w' => ?_) (fun w' hw' => HCX.out w' (R4.below hw')) ?_); (focus (go_simp; done)); (try simp only [Act.put, pA, pB, pC])) | ((refine wpB_call (.int .i64 (nextM m Y)) wU (fun w' => ?_) (fun w' hw' => HCY.out w' (R4.below hw')) ?_); (focus (go_simp; done)); (try simp only [Act.put, pA, pB, pC])) |  ((with_reducible refine wpB_load (by first | exact F_int | exact F_u64s) wU wU (by assumption) wU ?_); (try simp only [Act.put, pA, pB, pC])) | ((refine wpQ_oneG ?_ wU (fun w' => ?_) ?_); rotate_left; (go_simp; rfl); (try simp only [Act.put, pA, pB, pC])))
     refine wpQuiet_nil ?_
     intro w5 hb5
     have hS5 := hS4.mono hb5
     rw [← X1.out, ← Y1.out]
     have hno2 : ∀ k, k < n + 1 → hitM m (itM m a k) (itM m b k) = false := by
      intro k hk
      by_cases e : k = n
      ·rw [e, ← EX.out, ← EY.out]; exact HIT.out
      ·exact HNO.out k (by omega)
     by_cases ea : itM m a (n + 1) = a
     ·by_cases eb : itM m b (n + 1) = b
      ·have hN : MeetR m a b none := meet_none (by omega) ea eb hno2
       have hrn := HM.out.eq hN
       subst hrn
       clear hno2 hN
       rw [ea, eb]
       have da : (a == a) = true := by simp
       have db : (b == b) = true := by simp
       clear ea eb
       go_wp2_with ((with_reducible refine wpList_stoR (us := #[.int .i64 0, .int .i64 0]) 0 wU wU (hS5) wU kR wU wU ?_); intro w6 hS6)
       exact bodyPost_ret (results_cellSlot rfl rfl rfl A_meet kR (hS6.blk 0 rfl).1) rfl ⟨rfl, hS6.b⟩
      ·have da : (itM m a (n + 1) == a) = true := by simpa using ea
       have db : (itM m b (n + 1) == b) = false := by simpa using eb
       have hnl : n + 1 ≠ L := fun e => eb (by rw [e]; exact HLB.out)
       have HNO2 := hid hno2
       clear ea eb hno2
       go_wp2_with fail
       exact ⟨⟨n + 1, by omega, rfl, rfl, by go_num, HNO2.out, hS5⟩, by simp [intOf]; omega⟩
     ·have da : (itM m a (n + 1) == a) = false := by simpa using ea
      have hnl : n + 1 ≠ L := fun e => ea (by rw [e]; exact HLA.out)
      have HNO2 := hid hno2
      clear ea hno2
      go_wp2_with fail
      exact ⟨⟨n + 1, by omega, rfl, rfl, by go_num, HNO2.out, hS5⟩, by simp [intOf]; omega⟩
  ·have hpd : decide (0 ≤ p) = false := decide_eq_false hp0
   rw [hpd, Bool.false_and, Bool.false_and] at hhit
   have HIT := hid hhit; have HC := hid CP
   clear CP CQ CS hhit
   go_wp2_with (with_reducible refine wpList_ldS (n := 4) (us := mC m ad cap) A_mach kR wU wU (by assumption) wU wU ?_)
   refine (HC.out _).mono ?_
   rintro e w1 ⟨rfl, b1⟩
   have hS4 := hSr.mono b1
   clear q0
   go_wp2_with fail
   have R4 := hR.below hS4.b
   have q4 := (hS4.blk 1 rfl).1
   refine wp_region_q kR kR ?_
   repeat (first | ((with_reducible refine wpB_loadS (n := 4) (us := mC m ad cap) A_mach kR wU wU (by assumption) wU wU ?_); (try simp only [Act.put, pA, pB, pC])) | ((refine wpB_call (.int .i64 (nextM m X)) wU (fun w' => ?_) (fun w' hw' => HCX.out w' (R4.below hw')) ?_); (focus (go_simp; done)); (try simp only [Act.put, pA, pB, pC])) | ((refine wpB_call (.int .i64 (nextM m Y)) wU (fun w' => ?_) (fun w' hw' => HCY.out w' (R4.below hw')) ?_); (focus (go_simp; done)); (try simp only [Act.put, pA, pB, pC])) |  ((with_reducible refine wpB_load (by first | exact F_int | exact F_u64s) wU wU (by assumption) wU ?_); (try simp only [Act.put, pA, pB, pC])) | ((refine wpQ_oneG ?_ wU (fun w' => ?_) ?_); rotate_left; (go_simp; rfl); (try simp only [Act.put, pA, pB, pC])))
   refine wpQuiet_nil ?_
   intro w5 hb5
   have hS5 := hS4.mono hb5
   rw [← X1.out, ← Y1.out]
   have hno2 : ∀ k, k < n + 1 → hitM m (itM m a k) (itM m b k) = false := by
    intro k hk
    by_cases e : k = n
    ·rw [e, ← EX.out, ← EY.out]; exact HIT.out
    ·exact HNO.out k (by omega)
   by_cases ea : itM m a (n + 1) = a
   ·by_cases eb : itM m b (n + 1) = b
    ·have hN : MeetR m a b none := meet_none (by omega) ea eb hno2
     have hrn := HM.out.eq hN
     subst hrn
     clear hno2 hN
     rw [ea, eb]
     have da : (a == a) = true := by simp
     have db : (b == b) = true := by simp
     clear ea eb
     go_wp2_with ((with_reducible refine wpList_stoR (us := #[.int .i64 0, .int .i64 0]) 0 wU wU (hS5) wU kR wU wU ?_); intro w6 hS6)
     exact bodyPost_ret (results_cellSlot rfl rfl rfl A_meet kR (hS6.blk 0 rfl).1) rfl ⟨rfl, hS6.b⟩
    ·have da : (itM m a (n + 1) == a) = true := by simpa using ea
     have db : (itM m b (n + 1) == b) = false := by simpa using eb
     have hnl : n + 1 ≠ L := fun e => eb (by rw [e]; exact HLB.out)
     have HNO2 := hid hno2
     clear ea eb hno2
     go_wp2_with fail
     exact ⟨⟨n + 1, by omega, rfl, rfl, by go_num, HNO2.out, hS5⟩, by simp [intOf]; omega⟩
   ·have da : (itM m a (n + 1) == a) = false := by simpa using ea
    have hnl : n + 1 ≠ L := fun e => ea (by rw [e]; exact HLA.out)
    have HNO2 := hid hno2
    clear ea hno2
    go_wp2_with fail
    exact ⟨⟨n + 1, by omega, rfl, rfl, by go_num, HNO2.out, hS5⟩, by simp [intOf]; omega⟩
end Go.Proofs.YtddkdgodgflmlaaGreatDoor

namespace Go.Proofs.YtddkdgodgflmlaaGreatDoor
open Go.RowKit
set_option maxHeartbeats 8000000
set_option maxRecDepth 100000

/-- the pairs gone through at a place of both loops. -/
def pairsAt (l : List Int) (i j : Nat) : List (Int × Int) := pairsTo l i ++ (l.take j).map fun b => (atD 0 l i, b)
theorem pairsAt_zero (l : List Int) (i : Nat) : pairsAt l i 0 = pairsTo l i := by simp [pairsAt]
theorem pairsAt_last (l : List Int) (i : Nat) : pairsAt l i i = pairsTo l (i + 1) := by rw [pairsTo_succ]; rfl
theorem first_step (m : MacV) {l : List Int} {i j : Nat} (h : j < l.length) : firstTo m (pairsAt l i (j + 1)) = bestS (firstTo m (pairsAt l i j)) (meetM m (atD 0 l i) (atD 0 l j)) := by
 unfold pairsAt
 rw [take_snoc h, List.map_append, ← List.append_assoc]
 exact firstTo_snoc m _ _

theorem firstB_any (m : MacV) (ad al : Option Addr) (cap cl : Nat) (l : List Int) (w : World) (hR : Ints w ad cap m.sw) (hL : Ints w al cl l) (hg : m.gears ≤ 16) (hl : ∀ x ∈ l, 0 ≤ x ∧ x < 4 * m.gears) :
  Calls Tryz.prog 80 #[mV m ad cap, .slice al l.length cl] w fun r w' => r = .returned (meV (firstM m l)) ∧ Below w.heap.size w w' := by
 have hcap := hL.le
 have hmx := hL.max
 have CM := fun (i j : Nat) w (h : Ints w ad cap m.sw) (hi : i < l.length) (hj : j < l.length) => meet_any m ad cap (atD 0 l i) (atD 0 l j) w h hg (hl _ (atD_memZ (by omega) (by omega))).1 (hl _ (atD_memZ (by omega) (by omega))).2 (hl _ (atD_memZ (by omega) (by omega))).1 (hl _ (atD_memZ (by omega) (by omega))).2
 have hS := (((SL.nil w).box (.cells (mC m ad cap) 45)).box (.cells #[.int .i64 0, .int .i64 0] 121)).box (.cells (meO none) 121)
 simp only [World.size_alloc] at hS
 have HM := hid CM
 clear CM hl
 go_enter Tryz.func80, Tryz.ntmps80
 go_wp2_with fail
 go_loopw [7, 16] (fun fo i wr => ∃ k : Nat, k ≤ l.length ∧ fo = .bool (firstTo m (pairsTo l k)).isSome ∧ i = .int .i64 k ∧ SL w.heap.size w wr [pBlk (w.heap.size + 1 + 1) (.cells (meO (firstTo m (pairsTo l k))) 121), pBlk (w.heap.size + 1) (.cells #[.int .i64 0, .int .i64 0] 121), pBlk w.heap.size (.cells (mC m ad cap) 45)]) (fun _ i _ => l.length - (intOf i).toNat)
 case atStart => exact ⟨0, by omega, rfl, rfl, hS⟩
 case round =>
  clear hS
  obtain ⟨k, hk, rfl, rfl, hSr⟩ := hrel
  by_cases hlt : k < l.length
  ·have hLr := hL.below hSr.b
   go_wp2_with (with_reducible refine wpList_idx _ 0 E_ints F_int cInt1 wU wU (hLr) oD oD (fun _ => wU) (fun _ => ?_))
   go_loopw [7, 25] (fun fo i wq => ∃ j : Nat, j ≤ k ∧ fo = .bool (firstTo m (pairsAt l k j)).isSome ∧ i = .int .i64 j ∧ SL w.heap.size w wq [pBlk (w.heap.size + 1 + 1) (.cells (meO (firstTo m (pairsAt l k j))) 121), pBlk (w.heap.size + 1) (.cells #[.int .i64 0, .int .i64 0] 121), pBlk w.heap.size (.cells (mC m ad cap) 45)]) (fun _ i _ => k - (intOf i).toNat)
   case atStart => exact ⟨0, by omega, by rw [pairsAt_zero], rfl, by rw [pairsAt_zero]; exact hSr⟩
   case round =>
    clear hSr hLr
    obtain ⟨j, hj, rfl, rfl, hSq⟩ := hrel
    by_cases hjk : j < k
    ·have hst := first_step m (l := l) (i := k) (j := j) (by omega)
     have hCM := fun w h => HM.out k j w h hlt (by omega)
     have hRq := hR.below hSq.b
     have hLq := intsTake (hL.below hSq.b) (m := k) (by omega)
     have hlk : (l.take k).length = k := by simp; omega
     have hat : atD 0 (l.take k) j = atD 0 l j := atD_take hjk
     obtain ⟨B, hB⟩ : ∃ B, B = firstTo m (pairsAt l k j) := ⟨_, rfl⟩
     obtain ⟨R, hRR⟩ : ∃ R, R = meetM m (atD 0 l k) (atD 0 l j) := ⟨_, rfl⟩
     rw [← hB, ← hRR] at hst
     rw [← hRR] at hCM
     rw [← hB] at hSq ⊢
     have HC := hid hCM
     have HAT := hid hat
     have q2 := (hSq.blk 2 rfl).1
     clear hCM hB hRR hat
     cases R with
     | none =>
      have hst2 : firstTo m (pairsAt l k (j + 1)) = B := hst
      have HST := hid hst2
      clear hst hst2
      go_wp2_with (first | ((with_reducible refine wpList_idxN _ 0 E_ints F_int cInt1 wU wU (hLq) (hlk) oD oD (fun _ => wU) (fun _ => ?_)); rw [HAT.out]) | (with_reducible refine wpList_ldS (n := 4) (us := mC m ad cap) A_mach kR wU wU (by assumption) wU wU ?_))
      refine (HC.out _ hRq).mono ?_
      rintro e w4 ⟨rfl, b4⟩
      have hS4 := hSq.mono b4
      have hS5 := hS4.box (.cells #[.int .i64 0, .int .i64 0] 121)
      clear q2
      go_wp2_with ((with_reducible refine wpList_stoR (us := #[.int .i64 0, .int .i64 0]) 0 wU wU (hS5) wU kR wU wU ?_); intro w6 hS6)
      exact ⟨⟨j + 1, by omega, by rw [HST.out], by go_num, by rw [HST.out]; exact hS6.tail⟩, by simp [intOf]; omega⟩
     | some v =>
      cases B with
      | none =>
       have hst2 : firstTo m (pairsAt l k (j + 1)) = some v := hst
       have HST := hid hst2
       clear hst hst2
       go_wp2_with (first | ((with_reducible refine wpList_idxN _ 0 E_ints F_int cInt1 wU wU (hLq) (hlk) oD oD (fun _ => wU) (fun _ => ?_)); rw [HAT.out]) | (with_reducible refine wpList_ldS (n := 4) (us := mC m ad cap) A_mach kR wU wU (by assumption) wU wU ?_))
       refine (HC.out _ hRq).mono ?_
       rintro e w4 ⟨rfl, b4⟩
       have hS4 := hSq.mono b4
       have hS5 := hS4.box (.cells #[.int .i64 0, .int .i64 0] 121)
       clear q2
       have hS6 : ∀ w6, SL w.heap.size w w6 [pBlk w4.heap.size (.cells (meC v) 121), pBlk (w.heap.size + 1 + 1) (.cells (meO none) 121), pBlk (w.heap.size + 1) (.cells #[.int .i64 0, .int .i64 0] 121), pBlk w.heap.size (.cells (mC m ad cap) 45)] → w6.heap[w4.heap.size]? = some (.cells (meC v) 121) := fun w6 h => (h.blk 0 rfl).1
       go_wp2_with (first | (((with_reducible refine wpList_stoR (us := meC v) 0 wU wU (hS5) wU kR wU wU ?_); intro w6 hT6); have q6 := hS6 _ hT6) | (with_reducible refine wpList_ldS (n := 2) (us := meC v) A_meet kR wU wU (by assumption) wU wU ?_) | ((with_reducible refine wpList_stoR (us := meC v) 1 wU wU (hT6) wU kR wU wU ?_); intro w7 hT7))
       exact ⟨⟨j + 1, by omega, by rw [HST.out]; rfl, by go_num, by rw [HST.out]; exact hT7.tail⟩, by simp [intOf]; omega⟩
      | some u =>
       cases hb : befo v u
       ·have hst2 : firstTo m (pairsAt l k (j + 1)) = some u := by rw [hst]; show (if befo v u then some v else some u) = _; rw [hb]; rfl
        have CB := fun w => before_any v u w
        rw [hb] at CB
        have HST := hid hst2; have HB := hid CB
        clear hst hst2 CB hb
        go_wp2_with (first | ((with_reducible refine wpList_idxN _ 0 E_ints F_int cInt1 wU wU (hLq) (hlk) oD oD (fun _ => wU) (fun _ => ?_)); rw [HAT.out]) | (with_reducible refine wpList_ldS (n := 4) (us := mC m ad cap) A_mach kR wU wU (by assumption) wU wU ?_))
        refine (HC.out _ hRq).mono ?_
        rintro e w4 ⟨rfl, b4⟩
        have hS4 := hSq.mono b4
        have hS5 := hS4.box (.cells #[.int .i64 0, .int .i64 0] 121)
        clear q2
        go_wp2_with (first | (((with_reducible refine wpList_stoR (us := meC v) 0 wU wU (hS5) wU kR wU wU ?_); intro w6 hT6); have q6 := (hT6.blk 0 rfl).1; have q7 := (hT6.blk 1 rfl).1) | (with_reducible refine wpList_ldS (n := 2) (us := meC v) A_meet kR wU wU (by assumption) wU wU ?_) | (with_reducible refine wpList_ldS (n := 2) (us := meC u) A_meet kR wU wU (by assumption) wU wU ?_))
        refine (HB.out _).mono ?_
        rintro e w7 ⟨rfl, b7⟩
        have hT7 := hT6.mono b7
        clear q6 q7
        go_wp2_with fail
        exact ⟨⟨j + 1, by omega, by rw [HST.out]; rfl, by go_num, by rw [HST.out]; exact hT7.tail⟩, by simp [intOf]; omega⟩
       ·have hst2 : firstTo m (pairsAt l k (j + 1)) = some v := by rw [hst]; show (if befo v u then some v else some u) = _; rw [hb]; rfl
        have CB := fun w => before_any v u w
        rw [hb] at CB
        have HST := hid hst2; have HB := hid CB
        clear hst hst2 CB hb
        go_wp2_with (first | ((with_reducible refine wpList_idxN _ 0 E_ints F_int cInt1 wU wU (hLq) (hlk) oD oD (fun _ => wU) (fun _ => ?_)); rw [HAT.out]) | (with_reducible refine wpList_ldS (n := 4) (us := mC m ad cap) A_mach kR wU wU (by assumption) wU wU ?_))
        refine (HC.out _ hRq).mono ?_
        rintro e w4 ⟨rfl, b4⟩
        have hS4 := hSq.mono b4
        have hS5 := hS4.box (.cells #[.int .i64 0, .int .i64 0] 121)
        clear q2
        go_wp2_with (first | (((with_reducible refine wpList_stoR (us := meC v) 0 wU wU (hS5) wU kR wU wU ?_); intro w6 hT6); have q6 := (hT6.blk 0 rfl).1; have q7 := (hT6.blk 1 rfl).1) | (with_reducible refine wpList_ldS (n := 2) (us := meC v) A_meet kR wU wU (by assumption) wU wU ?_) | (with_reducible refine wpList_ldS (n := 2) (us := meC u) A_meet kR wU wU (by assumption) wU wU ?_))
        refine (HB.out _).mono ?_
        rintro e w7 ⟨rfl, b7⟩
        have hT7 := hT6.mono b7
        clear q6 q7
        have q8 := (hT7.blk 0 rfl).1
        go_wp2_with (first | (with_reducible refine wpList_ldS (n := 2) (us := meC v) A_meet kR wU wU (by assumption) wU wU ?_) | ((with_reducible refine wpList_stoR (us := meC v) 1 wU wU (hT7) wU kR wU wU ?_); intro w8 hT8))
        exact ⟨⟨j + 1, by omega, by rw [HST.out]; rfl, by go_num, by rw [HST.out]; exact hT8.tail⟩, by simp [intOf]; omega⟩
    ·have hjj : j = k := by omega
     subst hjj
     have e := pairsAt_last l j
     have HE := hid e
     clear e
     go_wp2_with fail
     exact ⟨⟨j + 1, by omega, by rw [HE.out], by go_num, by rw [← HE.out]; exact hSq⟩, by simp [intOf]; omega⟩
  ·have hkk : k = l.length := by omega
   subst hkk
   have e : firstTo m (pairsTo l l.length) = firstM m l := rfl
   rw [e] at hSr ⊢
   cases hf : firstM m l with
   | none =>
    rw [hf] at hSr
    have q0 := (hSr.blk 0 rfl).1
    have HF := hid hf
    clear hf e
    go_wp2_with (first | (with_reducible refine wpList_ldS (n := 2) (us := #[.int .i64 0, .int .i64 0]) A_meet kR wU wU (by assumption) wU wU ?_) | ((with_reducible refine wpList_stoR (us := #[.int .i64 0, .int .i64 0]) 1 wU wU (hSr) wU kR wU wU ?_); intro w6 hS6))
    exact bodyPost_ret (results_cellSlot rfl rfl rfl A_meet kR (hS6.blk 1 rfl).1) rfl ⟨by rw [HF.out]; rfl, hS6.b⟩
   | some v =>
    rw [hf] at hSr
    have q0 := (hSr.blk 0 rfl).1
    have HF := hid hf
    clear hf e
    go_wp2_with (first | (with_reducible refine wpList_ldS (n := 2) (us := meC v) A_meet kR wU wU (by assumption) wU wU ?_) | ((with_reducible refine wpList_stoR (us := meC v) 1 wU wU (hSr) wU kR wU wU ?_); intro w6 hS6))
    exact bodyPost_ret (results_cellSlot rfl rfl rfl A_meet kR (hS6.blk 1 rfl).1) rfl ⟨by rw [HF.out]; rfl, hS6.b⟩
end Go.Proofs.YtddkdgodgflmlaaGreatDoor

namespace Go.Proofs.YtddkdgodgflmlaaGreatDoor
set_option maxRecDepth 100000

theorem befo_irrefl (a : Nat × Int) : befo a a = false := by simp [befo]
theorem befo_false {a b : Nat × Int} : befo a b = false ↔ b.1 < a.1 ∨ (b.1 = a.1 ∧ b.2 ≤ a.2) := by
 unfold befo
 simp only [Bool.or_eq_false_iff, Bool.and_eq_false_imp, decide_eq_false_iff_not, decide_eq_true_eq]
 constructor
 ·rintro ⟨h1, h2⟩
  by_cases e : a.1 = b.1
  ·right; have := h2 e; omega
  ·left; omega
 ·rintro (h | ⟨h1, h2⟩)
  ·exact ⟨by omega, fun e => by omega⟩
  ·exact ⟨by omega, fun _ => by omega⟩
theorem foldF_spec (m : MacV) : ∀ (ps : List (Int × Int)) (acc : Option (Nat × Int)),
  (ps.foldl (fun b p => bestS b (meetM m p.1 p.2)) acc = none → acc = none ∧ ∀ p ∈ ps, meetM m p.1 p.2 = none) ∧
  (∀ b, ps.foldl (fun b p => bestS b (meetM m p.1 p.2)) acc = some b → (∀ a, acc = some a → befo a b = false) ∧ (∀ p ∈ ps, ∀ v, meetM m p.1 p.2 = some v → befo v b = false) ∧ (acc = some b ∨ ∃ p ∈ ps, meetM m p.1 p.2 = some b))
 | [], acc => ⟨fun h => ⟨h, fun p hp => absurd hp (by simp)⟩, fun b h => ⟨fun a ha => by rw [List.foldl_nil] at h; rw [ha] at h; cases h; exact befo_irrefl _, fun p hp => absurd hp (by simp), .inl h⟩⟩
 | q :: ps, acc => by
   rw [List.foldl_cons]
   obtain ⟨h1, h2⟩ := foldF_spec m ps (bestS acc (meetM m q.1 q.2))
   constructor
   · intro h
     obtain ⟨k1, k2⟩ := h1 h
     cases hm : meetM m q.1 q.2 with
     | none =>
       rw [hm] at k1
       exact ⟨k1, fun p hp => by rcases List.mem_cons.1 hp with rfl | hp; exact hm; exact k2 p hp⟩
     | some v =>
       rw [hm] at k1
       cases acc with
       | none => cases k1
       | some w => unfold bestS at k1; dsimp only at k1; split at k1 <;> cases k1
   · intro b h
     obtain ⟨k1, k2, k3⟩ := h2 b h
     cases hm : meetM m q.1 q.2 with
     | none =>
       rw [hm] at k1 k3
       refine ⟨k1, fun p hp v hv => ?_, ?_⟩
       · rcases List.mem_cons.1 hp with rfl | hp
         · rw [hm] at hv; cases hv
         · exact k2 p hp v hv
       · rcases k3 with k3 | ⟨p, hp, e⟩
         · exact .inl k3
         · exact .inr ⟨p, List.mem_cons_of_mem _ hp, e⟩
     | some v =>
       rw [hm] at k1 k3
       have low : ∀ c, bestS acc (some v) = some c → (∀ a, acc = some a → befo a c = false) ∧ befo v c = false ∧ (acc = some c ∨ v = c) := by
         intro c hc
         cases acc with
         | none => cases hc; exact ⟨fun a ha => (by cases ha), befo_irrefl _, .inr rfl⟩
         | some w =>
           unfold bestS at hc
           dsimp only at hc
           split at hc
           · rename_i hb
             cases hc
             refine ⟨fun a ha => ?_, befo_irrefl _, .inr rfl⟩
             cases ha
             unfold befo at hb
             simp only [Bool.or_eq_true, Bool.and_eq_true, decide_eq_true_eq] at hb
             rw [befo_false]; omega
           · rename_i hb
             cases hc
             exact ⟨fun a ha => (by cases ha; exact befo_irrefl _), by simpa using hb, .inl rfl⟩
       obtain ⟨c, hc⟩ : ∃ c, bestS acc (some v) = some c := by
         cases acc with
         | none => exact ⟨v, rfl⟩
         | some w => unfold bestS; dsimp only; split <;> exact ⟨_, rfl⟩
       obtain ⟨l1, l2, l3⟩ := low c hc
       have kc := k1 c hc
       have tr : ∀ a, befo a c = false → befo a b = false := by
         intro a ha
         rw [befo_false] at ha kc ⊢
         omega
       refine ⟨fun a ha => tr a (l1 a ha), fun p hp v' hv' => ?_, ?_⟩
       · rcases List.mem_cons.1 hp with rfl | hp
         · rw [hm] at hv'; cases hv'; exact tr _ l2
         · exact k2 p hp v' hv'
       · rcases k3 with k3 | ⟨p, hp, e⟩
         · rw [hc] at k3
           cases k3
           rcases l3 with l3 | l3
           · exact .inl l3
           · exact .inr ⟨q, List.mem_cons_self, by rw [hm, l3]⟩
         · exact .inr ⟨p, List.mem_cons_of_mem _ hp, e⟩
theorem pairsTo_mem {l : List Int} {p : Int × Int} {n : Nat} (hn : n ≤ l.length) : p ∈ pairsTo l n ↔ ∃ i j : Nat, j < i ∧ i < n ∧ p = (atD 0 l i, atD 0 l j) := by
 unfold pairsTo
 simp only [List.mem_flatMap, List.mem_range, List.mem_map]
 constructor
 ·rintro ⟨i, hi, b, hb, rfl⟩
  obtain ⟨j, hj, e⟩ := List.mem_iff_getElem.1 hb
  rw [List.length_take] at hj
  refine ⟨i, j, by omega, hi, ?_⟩
  rw [List.getElem_take] at e
  have hjl : j < l.length := by omega
  rw [← e]
  simp [atD, hjl]
 ·rintro ⟨i, j, hji, hi, rfl⟩
  have hjl : j < l.length := by omega
  refine ⟨i, hi, atD 0 l j, ?_, rfl⟩
  refine List.mem_iff_getElem.2 ⟨j, by simp; omega, ?_⟩
  simp [atD, hjl]
theorem hitM_symm (m : MacV) (x y : Int) : hitM m x y = hitM m y x := by
 unfold hitM
 by_cases e : placeM m x = placeM m y
 ·rw [e]
 ·rw [decide_eq_false e, decide_eq_false (show ¬ placeM m y = placeM m x from fun h => e h.symm), Bool.and_false, Bool.and_false]
/-- the carriers after some steps. -/
noncomputable def atL (m : MacV) (l : List Int) (k : Nat) : List Int := l.map fun s => itM m s k
theorem atL_rng {m : MacV} {l : List Int} (hl : ∀ x ∈ l, 0 ≤ x ∧ x < 4 * m.gears) (k : Nat) : ∀ x ∈ atL m l k, 0 ≤ x ∧ x < 4 * m.gears := by
 intro x hx
 obtain ⟨y, hy, rfl⟩ := List.mem_map.1 hx
 exact itM_rng (hl y hy).1 (hl y hy).2 k
end Go.Proofs.YtddkdgodgflmlaaGreatDoor

namespace Go.Proofs.YtddkdgodgflmlaaGreatDoor
open Go.RowKit
set_option maxHeartbeats 8000000
set_option maxRecDepth 100000

/-- steps, place and error of the first meeting. -/
noncomputable def meet3 (m : MacV) (l : List Int) : Nat × Int × Int := if loadE m l ≠ 0 then (0, 0, loadE m l) else match firstM m l with
 | none => (0, 0, 7)
 | some x => (x.1, x.2, 0)
noncomputable def accE (m : MacV) (l : List Int) : Int := if loadE m l ≠ 0 then loadE m l else if (firstM m l).isSome then 16 else 0

theorem mMeet_any (m : MacV) (ad : Option Addr) (cap : Nat) (al : Option Addr) (cl : Nat) (l : List Int) (w : World) (hR : Ints w ad cap m.sw) (hL : Ints w al cl l) (HK : ChkL m ad cap al cl l) :
  Calls Tryz.prog 30 #[mV m ad cap, .slice al l.length cl] w fun r w' => r = .returned (.tuple #[.int .i64 (meet3 m l).1, .int .i64 (meet3 m l).2.1, .int .i64 (meet3 m l).2.2]) ∧ Below w.heap.size w w' := by
 have hS := (SL.nil w).box (.cells (mC m ad cap) 45)
 have R1 := hR.below hS.b
 have L1 := hL.below hS.b
 unfold ChkL at HK
 by_cases he : loadE m l = 0
 ·have hok := loadE_zero he
  have CF := fun w h h2 => firstB_any m ad al cap cl l w h h2 hok.ok.hi hok.rng
  have hv : meet3 m l = match firstM m l with | none => (0, 0, 7) | some x => (x.1, x.2, 0) := by unfold meet3; rw [if_neg (by simp [he])]
  rw [hv]
  rw [he] at HK
  have HC := hid HK
  clear hv HK he hok
  cases hf : firstM m l with
  | none =>
   rw [hf] at CF
   have HF := hid CF
   clear CF hf
   go_enter Tryz.func30, Tryz.ntmps30
   go_wp2_with fail
   refine (HC.out _ R1 L1).mono ?_
   rintro e w1 ⟨rfl, b1⟩
   have hS1 := hS.mono b1
   have q1 := (hS1.blk 0 rfl).1
   go_wp2_with (with_reducible refine wpList_ldS (n := 4) (us := mC m ad cap) A_mach kR wU wU (by assumption) wU wU ?_)
   refine (HF.out _ (hR.below hS1.b) (hL.below hS1.b)).mono ?_
   rintro e w2 ⟨rfl, b2⟩
   have hS2 := (hS1.mono b2).box (.cells #[.int .i64 0, .int .i64 0] 121)
   clear q1
   go_wp2_with ((with_reducible refine wpList_stoR (us := #[.int .i64 0, .int .i64 0]) 0 wU wU (hS2) wU kR wU wU ?_); intro w3 hS3)
   have q3 := (hS3.blk 0 rfl).1
   refine wp_region_q kR kR ?_
   repeat (first | ((with_reducible refine wpB_load F_int wU wU (by assumption) wU ?_); (try simp only [Act.put, pA, pB, pC])) | ((with_reducible refine wpB_when wU wU wU ?_); (try simp only [Act.put, pA, pB, pC])) | ((with_reducible refine wpQ_skip wU ?_); (try simp only [Act.put, pA, pB, pC])) |  ((with_reducible refine wpB_load (by first | exact F_int | exact F_u64s) wU wU (by assumption) wU ?_); (try simp only [Act.put, pA, pB, pC])) | ((refine wpQ_oneG ?_ wU (fun w' => ?_) ?_); rotate_left; (go_simp; rfl); (try simp only [Act.put, pA, pB, pC])))
   refine wpQuiet_nil ?_
   intro w4 hb4
   go_wp2_with fail
   go_ret3
   exact ⟨rfl, bnext hS3.b hb4⟩
  | some v =>
   rw [hf] at CF
   have HF := hid CF
   clear CF hf
   go_enter Tryz.func30, Tryz.ntmps30
   go_wp2_with fail
   refine (HC.out _ R1 L1).mono ?_
   rintro e w1 ⟨rfl, b1⟩
   have hS1 := hS.mono b1
   have q1 := (hS1.blk 0 rfl).1
   go_wp2_with (with_reducible refine wpList_ldS (n := 4) (us := mC m ad cap) A_mach kR wU wU (by assumption) wU wU ?_)
   refine (HF.out _ (hR.below hS1.b) (hL.below hS1.b)).mono ?_
   rintro e w2 ⟨rfl, b2⟩
   have hS2 := (hS1.mono b2).box (.cells #[.int .i64 0, .int .i64 0] 121)
   clear q1
   go_wp2_with ((with_reducible refine wpList_stoR (us := meC v) 0 wU wU (hS2) wU kR wU wU ?_); intro w3 hS3)
   have q3 := (hS3.blk 0 rfl).1
   refine wp_region_q kR kR ?_
   repeat (first | ((with_reducible refine wpB_load F_int wU wU (by assumption) wU ?_); (try simp only [Act.put, pA, pB, pC])) | ((with_reducible refine wpB_when wU wU wU ?_); (try simp only [Act.put, pA, pB, pC])) | ((with_reducible refine wpQ_skip wU ?_); (try simp only [Act.put, pA, pB, pC])) |  ((with_reducible refine wpB_load (by first | exact F_int | exact F_u64s) wU wU (by assumption) wU ?_); (try simp only [Act.put, pA, pB, pC])) | ((refine wpQ_oneG ?_ wU (fun w' => ?_) ?_); rotate_left; (go_simp; rfl); (try simp only [Act.put, pA, pB, pC])))
   refine wpQuiet_nil ?_
   intro w4 hb4
   go_wp2_with fail
   go_ret3
   exact ⟨rfl, bnext hS3.b hb4⟩
 ·obtain ⟨E, hE⟩ : ∃ E, E = loadE m l := ⟨_, rfl⟩
  have hv : meet3 m l = (0, 0, E) := by unfold meet3; rw [if_pos he, hE]
  rw [← hE] at HK he
  have hne : (E != 0) = true := by simpa using he
  rw [hv]
  have HC := hid HK
  clear hv hE HK
  go_enter Tryz.func30, Tryz.ntmps30
  go_wp2_with fail
  refine (HC.out _ R1 L1).mono ?_
  rintro e w1 ⟨rfl, b1⟩
  have hS1 := hS.mono b1
  go_wp2_with fail
  go_ret3
  exact ⟨rfl, hS1.b⟩

theorem mAccept_any (m : MacV) (ad : Option Addr) (cap : Nat) (al : Option Addr) (cl : Nat) (l : List Int) (w : World) (hR : Ints w ad cap m.sw) (hL : Ints w al cl l) (HK : ChkL m ad cap al cl l) :
  Calls Tryz.prog 33 #[mV m ad cap, .slice al l.length cl] w fun r w' => r = .returned (.int .i64 (accE m l)) ∧ Below w.heap.size w w' := by
 have hS := (SL.nil w).box (.cells (mC m ad cap) 45)
 have R1 := hR.below hS.b
 have L1 := hL.below hS.b
 unfold ChkL at HK
 by_cases he : loadE m l = 0
 ·have hok := loadE_zero he
  have CF := fun w h h2 => firstB_any m ad al cap cl l w h h2 hok.ok.hi hok.rng
  have hv : accE m l = if (firstM m l).isSome then 16 else 0 := by unfold accE; rw [if_neg (by simp [he])]
  rw [hv]
  rw [he] at HK
  have HC := hid HK
  clear hv HK he hok
  cases hf : firstM m l with
  | none =>
   rw [hf] at CF
   have HF := hid CF
   clear CF hf
   go_enter Tryz.func33, Tryz.ntmps33
   go_wp2_with fail
   refine (HC.out _ R1 L1).mono ?_
   rintro e w1 ⟨rfl, b1⟩
   have hS1 := hS.mono b1
   have q1 := (hS1.blk 0 rfl).1
   go_wp2_with (with_reducible refine wpList_ldS (n := 4) (us := mC m ad cap) A_mach kR wU wU (by assumption) wU wU ?_)
   refine (HF.out _ (hR.below hS1.b) (hL.below hS1.b)).mono ?_
   rintro e w2 ⟨rfl, b2⟩
   have hS2 := (hS1.mono b2).box (.cells #[.int .i64 0, .int .i64 0] 121)
   clear q1
   go_wp2_with (first | ((with_reducible refine wpList_stoR (us := #[.int .i64 0, .int .i64 0]) 0 wU wU (hS2) wU kR wU wU ?_); intro w3 hS3) | (go_at_call 68; refine (mwhen_any _ _ _).mono ?_; rintro e w' ⟨rfl, rfl⟩))
   go_ret
   exact ⟨rfl, hS3.b⟩
  | some v =>
   rw [hf] at CF
   have HF := hid CF
   clear CF hf
   go_enter Tryz.func33, Tryz.ntmps33
   go_wp2_with fail
   refine (HC.out _ R1 L1).mono ?_
   rintro e w1 ⟨rfl, b1⟩
   have hS1 := hS.mono b1
   have q1 := (hS1.blk 0 rfl).1
   go_wp2_with (with_reducible refine wpList_ldS (n := 4) (us := mC m ad cap) A_mach kR wU wU (by assumption) wU wU ?_)
   refine (HF.out _ (hR.below hS1.b) (hL.below hS1.b)).mono ?_
   rintro e w2 ⟨rfl, b2⟩
   have hS2 := (hS1.mono b2).box (.cells #[.int .i64 0, .int .i64 0] 121)
   clear q1
   go_wp2_with (first | ((with_reducible refine wpList_stoR (us := meC v) 0 wU wU (hS2) wU kR wU wU ?_); intro w3 hS3) | (go_at_call 68; refine (mwhen_any _ _ _).mono ?_; rintro e w' ⟨rfl, rfl⟩))
   go_ret
   exact ⟨rfl, hS3.b⟩
 ·obtain ⟨E, hE⟩ : ∃ E, E = loadE m l := ⟨_, rfl⟩
  have hv : accE m l = E := by unfold accE; rw [if_pos he, hE]
  rw [← hE] at HK he
  have hne : (E != 0) = true := by simpa using he
  rw [hv]
  have HC := hid HK
  clear hv hE HK
  go_enter Tryz.func33, Tryz.ntmps33
  go_wp2_with fail
  refine (HC.out _ R1 L1).mono ?_
  rintro e w1 ⟨rfl, b1⟩
  have hS1 := hS.mono b1
  go_wp2_with fail
  go_ret
  exact ⟨rfl, hS1.b⟩
end Go.Proofs.YtddkdgodgflmlaaGreatDoor

namespace Go.Proofs.YtddkdgodgflmlaaGreatDoor
open Go.RowKit
set_option maxHeartbeats 8000000
set_option maxRecDepth 100000

/-- one more carrier in a slot meets none, and is in the slot of none. -/
noncomputable def hurtM (m : MacV) (s b : Int) : Bool := decide (b = s) || (meetM m s b).isSome
noncomputable def apartM (m : MacV) (s : Int) (l : List Int) : Bool := !l.any (hurtM m s)

theorem apart1_any (m : MacV) (ad : Option Addr) (cap : Nat) (bs bm : Nat) (s b : Int) (w : World) (hm : w.heap[bm]? = some (.cells (mC m ad cap) 45)) (hs : w.heap[bs]? = some (.cells #[.int .i64 s] 3)) (hR : Ints w ad cap m.sw) (hg : m.gears ≤ 16) (s0 : 0 ≤ s) (s1 : s < 4 * m.gears) (b0 : 0 ≤ b) (b1 : b < 4 * m.gears) :
  Calls Tryz.prog 128 #[.int .i64 b, .pointer (some ⟨bs, 0, none⟩), .pointer (some ⟨bm, 0, none⟩)] w fun r w' => r = .returned (.bool (hurtM m s b)) ∧ Below w.heap.size w w' := by
 have CM := fun w h => meet_any m ad cap s b w h hg s0 s1 b0 b1
 have hh : hurtM m s b = (decide (b = s) || (meetM m s b).isSome) := rfl
 rw [hh]
 clear hh
 have S0 := SL.nil w
 by_cases e : b = s
 ·have d1 : (b == s) = true := by simpa using e
  have d2 : decide (b = s) = true := decide_eq_true e
  rw [d2]
  clear e CM d2
  go_enter Tryz.func128, Tryz.ntmps128
  go_wp2_with (with_reducible refine wpList_ldB F_int wU wU hs wU ?_)
  go_ret
  exact ⟨rfl, Below.refl _ _⟩
 ·have d1 : (b == s) = false := by simpa using e
  have d2 : decide (b = s) = false := decide_eq_false e
  rw [d2, Bool.false_or]
  clear e d2
  cases hf : meetM m s b with
  | none =>
   rw [hf] at CM
   have HM := hid CM
   clear CM hf
   go_enter Tryz.func128, Tryz.ntmps128
   go_wp2_with (first | (with_reducible refine wpList_ldB F_int wU wU hs wU ?_) | (with_reducible refine wpList_ldS (n := 4) (us := mC m ad cap) A_mach kR wU wU (by assumption) wU wU ?_))
   refine (HM.out _ hR).mono ?_
   rintro e w1 ⟨rfl, b1⟩
   have hS1 := (S0.mono b1).box (.cells #[.int .i64 0, .int .i64 0] 121)
   go_wp2_with ((with_reducible refine wpList_stoR (us := #[.int .i64 0, .int .i64 0]) 0 wU wU (hS1) wU kR wU wU ?_); intro w3 hS3)
   go_ret
   exact ⟨rfl, hS3.b⟩
  | some v =>
   rw [hf] at CM
   have HM := hid CM
   clear CM hf
   go_enter Tryz.func128, Tryz.ntmps128
   go_wp2_with (first | (with_reducible refine wpList_ldB F_int wU wU hs wU ?_) | (with_reducible refine wpList_ldS (n := 4) (us := mC m ad cap) A_mach kR wU wU (by assumption) wU wU ?_))
   refine (HM.out _ hR).mono ?_
   rintro e w1 ⟨rfl, b1⟩
   have hS1 := (S0.mono b1).box (.cells #[.int .i64 0, .int .i64 0] 121)
   go_wp2_with ((with_reducible refine wpList_stoR (us := meC v) 0 wU wU (hS1) wU kR wU wU ?_); intro w3 hS3)
   go_ret
   exact ⟨rfl, hS3.b⟩

/-- slices.IndexFunc with a function of the program. -/
theorem indexF_any (p1 p2 : Value) (g : Int → Bool) (al : Option Addr) (cl : Nat) (l : List Int) (w : World) (hL : Ints w al cl l)
  (HF : ∀ x ∈ l, ∀ w', Below w.heap.size w w' → Calls Tryz.prog 128 #[.int .i64 x, p1, p2] w' fun r w'' => r = .returned (.bool (g x)) ∧ Below w'.heap.size w' w'') :
  Calls Tryz.prog 139 #[.slice al l.length cl, .func (.func 128) #[] #[p1, p2]] w fun r w' => ∃ z : Int, r = .returned (.int .i64 z) ∧ decide (0 ≤ z) = l.any g ∧ Below w.heap.size w w' := by
 have hcap := hL.le
 have hmx := hL.max
 have H := hid HF
 clear HF
 have hS := SL.nil w
 go_enter Tryz.func139, Tryz.ntmps139
 go_wp2_with fail
 go_loopw [8] (fun i wr => ∃ k : Nat, k ≤ l.length ∧ i = .int .i64 k ∧ (l.take k).any g = false ∧ SL w.heap.size w wr []) (fun i _ => l.length - (intOf i).toNat)
 case atStart => exact ⟨0, by omega, rfl, rfl, hS⟩
 case round =>
  clear hS
  obtain ⟨k, hk, rfl, hno, hSr⟩ := hrel
  have hLr := hL.below hSr.b
  by_cases hlt : k < l.length
  ·have hmem := atD_mem hlt
   have ht := take_snoc hlt
   obtain ⟨x, hx⟩ : ∃ x, x = atD 0 l k := ⟨_, rfl⟩
   rw [← hx] at hmem ht
   have HX := hid hx; have HT := hid ht; have HNO := hid hno
   have C := fun w' h => H.out x hmem w' h
   clear hx ht hno
   cases hgx : g x
   ·rw [hgx] at C
    have HC := hid C
    have HG := hid hgx
    clear C hgx
    go_wp2_with ((with_reducible refine wpList_idx _ 0 E_ints F_int cInt1 wU wU (hLr) oD oD (fun _ => wU) (fun _ => ?_)); rw [← HX.out])
    refine (HC.out _ hSr.b).mono ?_
    rintro e w1 ⟨rfl, b1⟩
    have hS1 := hSr.mono b1
    go_wp2_with fail
    exact ⟨⟨k + 1, by omega, by go_num, by rw [HT.out, List.any_append, HNO.out]; simp [HG.out], hS1⟩, by simp [intOf]; omega⟩
   ·rw [hgx] at C
    have HC := hid C
    have HG := hid hgx
    clear C hgx
    go_wp2_with ((with_reducible refine wpList_idx _ 0 E_ints F_int cInt1 wU wU (hLr) oD oD (fun _ => wU) (fun _ => ?_)); rw [← HX.out])
    refine (HC.out _ hSr.b).mono ?_
    rintro e w1 ⟨rfl, b1⟩
    have hS1 := hSr.mono b1
    go_wp2_with fail
    go_ret
    refine ⟨_, rfl, ?_, hS1.b⟩
    rw [List.any_eq_true.2 ⟨x, hmem, HG.out⟩]
    simp
  ·have hkk : k = l.length := by omega
   subst hkk
   rw [List.take_length] at hno
   have HNO := hid hno
   clear hno
   go_wp2_with fail
   go_ret
   exact ⟨_, rfl, by rw [HNO.out]; decide, hSr.b⟩
theorem containsF_any (p1 p2 : Value) (g : Int → Bool) (al : Option Addr) (cl : Nat) (l : List Int) (w : World) (hL : Ints w al cl l)
  (HF : ∀ x ∈ l, ∀ w', Below w.heap.size w w' → Calls Tryz.prog 128 #[.int .i64 x, p1, p2] w' fun r w'' => r = .returned (.bool (g x)) ∧ Below w'.heap.size w' w'') :
  Calls Tryz.prog 101 #[.slice al l.length cl, .func (.func 128) #[] #[p1, p2]] w fun r w' => r = .returned (.bool (l.any g)) ∧ Below w.heap.size w w' := by
 have HI := hid (indexF_any p1 p2 g al cl l w hL HF)
 clear HF
 go_enter Tryz.func101, Tryz.ntmps101
 go_wp2_with fail
 refine HI.out.mono ?_
 rintro e w1 ⟨z, rfl, hz, b1⟩
 have HZ := hid hz
 clear hz
 go_wp2_with fail
 go_ret
 exact ⟨by rw [← HZ.out]; rfl, b1⟩
theorem apart_any (m : MacV) (ad : Option Addr) (cap : Nat) (al : Option Addr) (cl : Nat) (s : Int) (l : List Int) (w : World) (hR : Ints w ad cap m.sw) (hL : Ints w al cl l) (hg : m.gears ≤ 16) (s0 : 0 ≤ s) (s1 : s < 4 * m.gears) (hl : ∀ x ∈ l, 0 ≤ x ∧ x < 4 * m.gears) :
  Calls Tryz.prog 83 #[mV m ad cap, .int .i64 s, .slice al l.length cl] w fun r w' => r = .returned (.bool (apartM m s l)) ∧ Below w.heap.size w w' := by
 have hS := ((SL.nil w).box (.cells (mC m ad cap) 45)).box (.cells #[.int .i64 s] 3)
 simp only [World.size_alloc] at hS
 have q1 := (hS.blk 1 rfl).1
 have q0 := (hS.blk 0 rfl).1
 have hb : apartM m s l = !l.any (hurtM m s) := rfl
 rw [hb]
 clear hb
 go_enter Tryz.func83, Tryz.ntmps83
 go_wp2_with fail
 refine (containsF_any _ _ (hurtM m s) al cl l _ (hL.below hS.b) (fun x hx w' hw' => ?_)).mono ?_
 ·refine apart1_any m ad cap _ _ s x w' ?_ ?_ ((hR.below hS.b).below hw') hg s0 s1 (hl x hx).1 (hl x hx).2
  ·exact (hw'.block _ (hS.blk 1 rfl).2.2).trans q1
  ·exact (hw'.block _ (hS.blk 0 rfl).2.2).trans q0
 rintro e w1 ⟨rfl, b1⟩
 go_wp2_with fail
 go_ret
 exact ⟨rfl, bnext hS.b b1⟩

def slotsL (m : MacV) : List Int := (List.range (4 * m.gears).toNat).map fun (i : Nat) => (i : Int)
theorem slotsL_len (m : MacV) : (slotsL m).length = (4 * m.gears).toNat := by simp [slotsL]
theorem slotsL_take (m : MacV) {k : Nat} (h : k < (slotsL m).length) : (slotsL m).take (k + 1) = (slotsL m).take k ++ [(k : Int)] := by
 rw [List.take_succ_eq_append_getElem h]
 simp [slotsL]
noncomputable def freeM (m : MacV) (l : List Int) : List Int := (slotsL m).filter fun s => apartM m s l
theorem accE_zero {m : MacV} {l : List Int} (h : accE m l = 0) : LoadOk m l ∧ firstM m l = none := by
 unfold accE at h
 split at h
 ·rename_i h1; exact absurd h h1
 ·rename_i h1
  refine ⟨loadE_zero (by simpa using h1), ?_⟩
  cases hf : firstM m l with
  | none => rfl
  | some v => rw [hf] at h; simp at h

theorem mFree_any (m : MacV) (ad : Option Addr) (cap : Nat) (al : Option Addr) (cl : Nat) (l : List Int) (w : World) (hR : Ints w ad cap m.sw) (hL : Ints w al cl l) (HK : ChkL m ad cap al cl l) :
  Calls Tryz.prog 32 #[mV m ad cap, .slice al l.length cl] w fun r w' => ∃ v, r = .returned (.tuple #[v, .int .i64 (accE m l)]) ∧ OwnI w.heap.size w' v (if accE m l = 0 then freeM m l else []) ∧ Below w.heap.size w w' := by
 have CA := fun w h h2 => mAccept_any m ad cap al cl l w h h2 HK
 have hS := (SL.nil w).box (.cells (mC m ad cap) 45)
 have R1 := hR.below hS.b
 have L1 := hL.below hS.b
 clear HK
 by_cases he : accE m l = 0
 ·have hok := (accE_zero he).1
  have hlo := hok.ok.lo
  have hhi := hok.ok.hi
  have CS := fun w => slots_any m ad cap w (by omega) hhi
  have CP := fun (k : Nat) w h h2 (hk : (k : Int) < 4 * m.gears) => apart_any m ad cap al cl (k : Int) l w h h2 hhi (by omega) hk hok.rng
  rw [if_pos he]
  rw [he] at CA ⊢
  have hlen := slotsL_len m
  obtain ⟨n, hn⟩ : ∃ n : Nat, 4 * m.gears = n := ⟨(4 * m.gears).toNat, by omega⟩
  have hlen2 : (slotsL m).length = n := by rw [hlen]; omega
  rw [hn] at CS CP
  have hn64 : n ≤ 64 := by omega
  have HC := hid CA; have HS := hid CS; have HP := hid CP; have HLL := hid hlen2
  clear CA CS CP hok he hlen hlen2 hn
  go_enter Tryz.func32, Tryz.ntmps32
  go_wp2_with fail
  refine (HC.out _ R1 L1).mono ?_
  rintro e w1 ⟨rfl, b1⟩
  have hS1 := hS.mono b1
  have q1 := (hS1.blk 0 rfl).1
  go_wp2_with (with_reducible refine wpList_ldS (n := 4) (us := mC m ad cap) A_mach kR wU wU (by assumption) wU wU ?_)
  refine (HS.out _).mono ?_
  rintro e w2 ⟨rfl, b2⟩
  have hS2 := (hS1.mono b2).nilS (α := Int) (e := 3) cIntS
  clear q1
  go_wp2_with fail
  go_loopw [7, 17] (fun v i wr => ∃ k : Nat, k ≤ n ∧ i = .int .i64 k ∧ SL w.heap.size w wr [pOwn cInt 1 3 v (((slotsL m).take k).filter fun s => apartM m s l), pBlk w.heap.size (.cells (mC m ad cap) 45)]) (fun _ i _ => n - (intOf i).toNat)
  case atStart => exact ⟨0, by omega, rfl, hS2⟩
  case round =>
   clear hS2 hS1 hS
   obtain ⟨k, hk, rfl, hSr⟩ := hrel
   have q1 := (hSr.blk 1 rfl).1
   by_cases hlt : k < n
   ·have ht := slotsL_take m (k := k) (by rw [HLL.out]; exact hlt)
    have hle : (((slotsL m).take k).filter fun s => apartM m s l).length ≤ 64 := Nat.le_trans (List.length_filter_le _ _) (by rw [List.length_take]; omega)
    have HT := hid ht
    have C := fun w h h2 => HP.out k w h h2 (by omega)
    clear ht
    cases hap : apartM m k l
    ·rw [hap] at C
     have HA := hid hap; have HCC := hid C
     clear hap C
     go_wp2_with (with_reducible refine wpList_ldS (n := 4) (us := mC m ad cap) A_mach kR wU wU (by assumption) wU wU ?_)
     refine (HCC.out _ (hR.below hSr.b) (hL.below hSr.b)).mono ?_
     rintro e w4 ⟨rfl, b4⟩
     have hS4 := hSr.mono b4
     go_wp2_with fail
     exact ⟨⟨k + 1, by omega, by go_num, by rw [HT.out, List.filter_append]; simpa [HA.out] using hS4⟩, by simp [intOf]; omega⟩
    ·rw [hap] at C
     have HA := hid hap; have HCC := hid C
     clear hap C
     go_wp2_with (with_reducible refine wpList_ldS (n := 4) (us := mC m ad cap) A_mach kR wU wU (by assumption) wU wU ?_)
     refine (HCC.out _ (hR.below hSr.b) (hL.below hSr.b)).mono ?_
     rintro e w4 ⟨rfl, b4⟩
     have hS4 := hSr.mono b4
     go_wp2_with ((with_reducible refine wpList_pushL (y := (k : Int)) 0 E_ints wU wU (hS4) wU cIntO ⟨rfl, rfl⟩ (by first | with_unfolding_all rfl | simp) wU (by first | omega | (simp; omega)) (by first | omega | (simp; omega)) ?_); intro v5 w5 hS5)
     exact ⟨⟨k + 1, by omega, by go_num, by rw [HT.out, List.filter_append]; simpa [HA.out] using hS5⟩, by simp [intOf]; omega⟩
   ·have hkn : k = n := by omega
    subst hkn
    have et : ((slotsL m).take k).filter (fun s => apartM m s l) = freeM m l := by rw [List.take_of_length_le (by rw [HLL.out]; omega)]; rfl
    rw [et] at hSr
    clear et
    go_wp2_with fail
    go_ret2
    exact ⟨_, rfl, hSr.own 0 rfl, hSr.b⟩
 ·obtain ⟨E, hE⟩ : ∃ E, E = accE m l := ⟨_, rfl⟩
  rw [← hE] at CA he ⊢
  have hne : (E != 0) = true := by simpa using he
  rw [if_neg he]
  have HC := hid CA
  clear CA hE he
  go_enter Tryz.func32, Tryz.ntmps32
  go_wp2_with fail
  refine (HC.out _ R1 L1).mono ?_
  rintro e w1 ⟨rfl, b1⟩
  have hS1 := hS.mono b1
  go_wp2_with fail
  go_ret2
  exact ⟨_, rfl, own_nil cIntS, hS1.b⟩
end Go.Proofs.YtddkdgodgflmlaaGreatDoor

namespace Go.Proofs.YtddkdgodgflmlaaGreatDoor
open Go.RowKit
set_option maxHeartbeats 8000000
set_option maxRecDepth 100000

section
variable {P : Program} {ops : Array Oper} {a : Act} {ty : TypeId} {p : String} {af : Array Edge} {g : Option (Nat × Bool)} {d : Tmp} {C : World → Prop}
theorem yieldsK_blkC {e : TypeId} {s : Operand} {b n : Nat} {us : Array Value} {T : TypeId} {fr : Nat × Nat} (hF : Aggr P e) (hn : (P.info? e).map (·.size) = some n) (hb : ∀ w, C w → w.heap[b]? = some (.cells us T fr)) (hz : us.size = n)
   (hg : Region.wanted (⟨some d, .load e s, ty, p, af, g⟩ : Oper) (yielded ops a.tmps) = true) (hs : a.eval s = .pointer (some ⟨b, 0, none⟩)) : YieldsK P ops C ⟨some d, .load e s, ty, p, af, g⟩ (.agg us) a := by
 obtain ⟨i, hi, hs2⟩ : ∃ i, P.info? e = some i ∧ i.size = n := by
  cases hi : P.info? e with
  | none => rw [hi] at hn; cases hn
  | some i => rw [hi] at hn; exact ⟨i, rfl, by simpa using hn⟩
 refine .inl ⟨hg, fun w' hw' => ?_⟩
 have hb2 := hb w' hw'
 have := run_loadAt_agg (a := ⟨b, 0, none⟩) w' hF hi (cs := us.toList) (by simp [hs2, hz]) (fun j v hj => by
  have hj2 : us[j]? = some v := by simpa using hj
  rw [Addr.add_z]
  simp [World.cell?, hb2, hj2])
 simp [execOp, hs, this, Result.andThen]
end

end Go.Proofs.YtddkdgodgflmlaaGreatDoor

namespace Go.Proofs.YtddkdgodgflmlaaGreatDoor
open Go.RowKit
set_option maxHeartbeats 8000000
set_option maxRecDepth 100000

theorem atL_len (m : MacV) (l : List Int) (k : Nat) : (atL m l k).length = l.length := by simp [atL]
section
variable {ops : Array Oper} {rest : List Oper} {a : Act} {Q : Exit → Act → World → Prop} {w : World} {ty : TypeId} {p : String} {af : Array Edge}
end

end Go.Proofs.YtddkdgodgflmlaaGreatDoor
