/- Contracts and plain facts that the claim uses (LwA OpM KcP QrP TuP RmP QrA QrC K6p QsI QrE K5a K8p). Conditions: as each one states. -/
import Derived.Test.YtndmeaoidihikaaGreatDoorCards
import Derived.Test.YtndmeaoidihikaaGreatDoorTie
import Derived.WalkKit
import Derived.ProofKit
import Derived.OpenShut
import Derived.Deep.DeepHandedRow
import Derived.Test.YtndmeaoidihikaaGreatDoorProg
import Derived.WalkSpells
import Derived.Maps.AppendAt
import Derived.Deep.Quiet
import Derived.Maps.Own
import Derived.Maps.OwnSet
import Derived.Maps.Views
import Derived.WalkLawsBesides
import Derived.Laws.EntriesVeiled
import Derived.ReadAgain
import Derived.ChangeSlices
import Derived.Lib.SmallJoins
import Derived.Deep.SlicePairs
import Derived.Deep.QuietTactic
import Derived.BigQuiet
import Derived.Lib.OthersKept
import Derived.RangeFuncNested
import Derived.RangeFuncBound
import Derived.RangeFuncCalls
import Derived.RangeFuncLeaves
import Derived.RangeFuncFrom
import Derived.Shelf.Abstract
import Derived.Shelf.RegionOpen
import Derived.OwnWalkIn
import Derived.TacticsInMore
import Derived.LoopNIn
import Derived.LoopIn
import Derived.Shelf.Strings.Trim
import Derived.Shelf.Strings.SlTrimAscii
import Derived.Shelf.Strings.Repeat
import Derived.Shelf.Strings.OnBuilder
import Derived.Shelf.Strconv.Itoa1
import Derived.Shelf.Strconv.Itoa3
import Derived.Shelf.LaysM
import Derived.Ground.Names2Prog
import Derived.Deep.RegionHeld3
import Derived.Deep.AppendLies
import Derived.Deep.RegionHeldLaw
import Derived.Deep.RegionLaw
import Derived.StillTail
import Derived.Laws.Tables
import Derived.IntWalk
import Derived.Laws.CopyOwn
import Derived.BigRegion
import Derived.ChangeAlike
import Derived.Shelf.Bits.Mul64
import Derived.Lib.ItoaLen
import Derived.Lib.ItoaMem
import Derived.Sort.LoopGhostIn
import Derived.Maps.RangeWalk
import Derived.Maps.Ext
import Derived.Sort.QuietThIn
import Derived.Deep.LoopGhost
import Derived.Lib.Split
import Derived.Lib.AtoiAll
import Derived.Shelf.Strconv.ErrVarAll
import Derived.Shelf.Strconv.AtoiAll
import Derived.Shelf.Strings.Cut
import Derived.Shelf.Strings.Split
import Derived.Shelf.Strings.SplitShaped
import Derived.Lib.AppendIntMem
import Derived.LaidSub
import Derived.Lib.LaidTab
import Derived.Lib.AtoiErrMem
import Derived.Stop.LaidErr
import Derived.Test.YtndmeaoidihikaaGreatDoorXz01
import Derived.Test.YtndmeaoidihikaaGreatDoorXz02
import Derived.Test.YtndmeaoidihikaaGreatDoorXz03
import Derived.Test.YtndmeaoidihikaaGreatDoorXz04
import Derived.Test.YtndmeaoidihikaaGreatDoorXz05
import Derived.Test.YtndmeaoidihikaaGreatDoorXz06
import Derived.Test.YtndmeaoidihikaaGreatDoorXz07
import Derived.Test.YtndmeaoidihikaaGreatDoorXz08
import Derived.Test.YtndmeaoidihikaaGreatDoorXz09
import Derived.Test.YtndmeaoidihikaaGreatDoorXz10
import Derived.Test.YtndmeaoidihikaaGreatDoorXz11
import Derived.Test.YtndmeaoidihikaaGreatDoorXz12
import Derived.Test.YtndmeaoidihikaaGreatDoorY4601
set_option linter.all false

namespace Go.Proofs.YtndmeaoidihikaaGreatDoor
open Go.ChangeShapes Go.WideShapes Go.ChangeAt Go.RowKit
set_option maxRecDepth 100000
theorem ownP : ownKnob Tryz.prog.godebug = none := by kernel_rfl
end Go.Proofs.YtndmeaoidihikaaGreatDoor

namespace Go.Proofs.YtndmeaoidihikaaGreatDoor
open Go.ChangeShapes Go.WideShapes Go.ChangeAt Go.RowKit
set_option maxRecDepth 100000
theorem g1 : (laidOutB Tryz.prog) = true := by kernel_rfl
theorem g2 : (mapsRowed Tryz.prog) = true := by kernel_rfl
theorem g6 : ((Tryz.prog.stops == [])) = true := by kernel_rfl
theorem g8 : ((Tryz.prog.stopKnobs == [])) = true := by kernel_rfl
theorem g24 : (Tryz.prog.stopsHeard) = true := by kernel_rfl
theorem g25 : (Tryz.prog.mayEnter) = true := by kernel_rfl
end Go.Proofs.YtndmeaoidihikaaGreatDoor

namespace Go.Proofs.YtndmeaoidihikaaGreatDoor
open Go.RowKit Go.ChangeShapes Go.WideShapes Go.ChangeAt Go.Joins Go.Deep
set_option maxRecDepth 100000
section
variable {H : Type} {enc : TypeId × Value → H} {W : World}
theorem open_machA {r : Reach} {b0 : Nat} {v : Value} {d : DataW H} {ps : List MemPlace} (hval : Value.okWide Tryz.prog W r b0 24 v) (h : DataW.Trod enc Tryz.prog W 0 (fun _ => true) true 24 v d ps) :
  ∃ (m : MacV) (ad : Option Addr) (cap : Nat), v = mV m ad cap ∧ Ints W ad cap m.sw ∧ InI m.gears ∧ InI m.turn ∧ ∀ x ∈ m.sw, InI x := by
 obtain ⟨v0, v1, v2, v3, y0, y1, y2, y3, n, rfl, _, _, k0, k1, k2, k3⟩ := open_agg4 Tryz.underlying24 kR rfl hval h
 obtain ⟨b, e0, _⟩ := DataW.trod_bool Tryz.underlying4 k0
 obtain ⟨x, e1, _, w1⟩ := DataW.trod_int Tryz.underlying3 k1
 obtain ⟨y, e2, _, w2⟩ := DataW.trod_int Tryz.underlying3 k2
 cases e0; cases e1; cases e2
 rcases open_ints Tryz.underlying22 Tryz.underlying3 cellsInt k3 with ⟨hcs, _⟩ | ⟨a, len', cap', zs, hcs, _, hl, hm, hz, _, hcell, hwz⟩
 ·cases hcs
  exact ⟨⟨b, x, y, []⟩, none, 0, rfl, ints_nil W, inI_wf w1, inI_wf w2, fun x hx => by cases hx⟩
 ·cases hcs
  simp only [if_true] at hz
  have hlen : (zs.take len').length = len' := by simp; omega
  refine ⟨⟨b, x, y, zs.take len'⟩, some a, cap', ?_, ints_of_cells hl hm (by omega) hcell, inI_wf w1, inI_wf w2, fun x hx => ?_⟩
  ·show _ = Value.agg #[_, _, _, .slice _ (zs.take len').length _]
   rw [hlen]
  ·exact inI_wf (hwz x (List.mem_of_mem_take hx))
end
end Go.Proofs.YtndmeaoidihikaaGreatDoor

namespace Go.Proofs.YtndmeaoidihikaaGreatDoor
set_option maxRecDepth 100000

def Rl (p : List Int) (i j : Int) : Prop := ∃ k, itP p i k = j
theorem Rl.refl (p : List Int) (i : Int) : Rl p i i := ⟨0, rfl⟩
theorem Rl.trans {p : List Int} {i j k : Int} (h : Rl p i j) (h2 : Rl p j k) : Rl p i k := by
 obtain ⟨a, rfl⟩ := h
 obtain ⟨b, rfl⟩ := h2
 exact ⟨b + a, itP_add p i a b⟩
theorem Rl.step {p : List Int} (i : Int) : Rl p i (atD 0 p i) := ⟨1, rfl⟩
theorem Rl.symm {p : List Int} (hp : IsP p) {i j : Int} (h0 : 0 ≤ i) (h1 : i < p.length) (h : Rl p i j) : Rl p j i := by
 obtain ⟨k, rfl⟩ := h
 obtain ⟨d, hd⟩ := ord_ex hp h0 h1
 have hpos := hd.pos
 have hle : k ≤ k * d := Nat.le_mul_of_pos_right k hpos
 refine ⟨k * d - k, ?_⟩
 rw [← itP_add, show k * d - k + k = k * d by omega]
 exact itP_mul hd.back k
/-- the cycles that the first k places have. -/
theorem cyc_mem {p : List Int} (hp : IsP p) {k : Nat} (hk : k ≤ p.length) {x : Int} : x ∈ (cycK p k).flatten ↔ ∃ j : Nat, j < k ∧ Rl p j x := by
 constructor
 ·intro h
  obtain ⟨l, hl, hx⟩ := List.mem_flatten.1 h
  obtain ⟨j, hj, rfl⟩ := cycK_orb hp hk l hl
  obtain ⟨d, hd⟩ := ord_ex hp (i := (j : Int)) (by omega) (by omega)
  rw [orb_eq hd] at hx
  obtain ⟨q, _, rfl⟩ := List.mem_map.1 hx
  exact ⟨j, hj, q, rfl⟩
 ·rintro ⟨j, hj, q, rfl⟩
  have hj2 := cycK_all hp hk j hj
  have hc := (cycK_ok hp k hk).2.2
  induction q with
  | zero => exact hj2
  | succ q ih => exact hc _ ih

open Classical in
noncomputable def cnt (q : Nat → Prop) : Nat → Nat
 | 0 => 0
 | k + 1 => cnt q k + if q k then 1 else 0
theorem cnt_congr {q r : Nat → Prop} : ∀ {n : Nat}, (∀ k, k < n → (q k ↔ r k)) → cnt q n = cnt r n
 | 0, _ => rfl
 | n + 1, h => by
   rw [cnt, cnt, cnt_congr (n := n) fun k hk => h k (by omega)]
   have h2 := h n (by omega)
   by_cases hq : q n
   · rw [if_pos hq, if_pos (h2.1 hq)]
   · rw [if_neg hq, if_neg fun e => hq (h2.2 e)]
theorem cnt_less {q : Nat → Prop} {m : Nat} (hm : q m) : ∀ {n : Nat}, m < n → cnt q n = cnt (fun k => q k ∧ k ≠ m) n + 1
 | 0, h => by omega
 | n + 1, h => by
   rw [cnt, cnt]
   by_cases e : n = m
   · subst e
     rw [if_pos hm, if_neg (by simp)]
     rw [cnt_congr (r := fun k => q k ∧ k ≠ n) (n := n) fun k hk => ⟨fun a => ⟨a, by omega⟩, fun a => a.1⟩]
   · rw [cnt_less hm (n := n) (by omega)]
     by_cases hq : q n
     · rw [if_pos hq, if_pos ⟨hq, e⟩]
     · rw [if_neg hq, if_neg (fun a => hq a.1)]
/-- a place that is the least one of its class. -/
def rep (R : Nat → Nat → Prop) (k : Nat) : Prop := ∀ j, j < k → ¬ R j k
theorem cyc_count {p : List Int} (hp : IsP p) : ∀ {k : Nat}, k ≤ p.length → (cycK p k).length = cnt (rep fun i j => Rl p i j) k
 | 0, _ => rfl
 | k + 1, hk => by
   have ih := cyc_count hp (k := k) (by omega)
   rw [cycK, cnt, ← ih]
   by_cases h : (k : Int) ∈ (cycK p k).flatten
   · rw [if_pos h, if_neg]; · rfl
     intro hr
     obtain ⟨j, hj, hR⟩ := (cyc_mem hp (by omega)).1 h
     exact hr j hj hR
   · rw [if_neg h, if_pos]
     · simp
     intro j hj hR
     exact h ((cyc_mem hp (by omega)).2 ⟨j, hj, hR⟩)

structure EqN (R : Nat → Nat → Prop) (n : Nat) : Prop where
 refl : ∀ i, R i i
 symm : ∀ i j, i < n → j < n → R i j → R j i
 trans : ∀ i j k, R i j → R j k → R i k
def joinR (R : Nat → Nat → Prop) (a b : Nat) (i j : Nat) : Prop := R i j ∨ (R i a ∧ R b j) ∨ (R i b ∧ R a j)
theorem leastR {q : Nat → Prop} {d : Nat} (h : q d) : ∃ m, m ≤ d ∧ q m ∧ ∀ j, j < m → ¬ q j := leastN q d h
theorem join_swap (R : Nat → Nat → Prop) (a b i j : Nat) : joinR R a b i j ↔ joinR R b a i j := by
 unfold joinR
 constructor
 ·rintro (h | h | h)
  ·exact .inl h
  ·exact .inr (.inr h)
  ·exact .inr (.inl h)
 ·rintro (h | h | h)
  ·exact .inl h
  ·exact .inr (.inr h)
  ·exact .inr (.inl h)
theorem join_count0 {R : Nat → Nat → Prop} {n : Nat} (h : EqN R n) {a b ma mb : Nat} (ha : a < n) (hb : b < n) (hab : ¬ R a b) (a1 : ma ≤ a) (a2 : R ma a) (a3 : ∀ j, j < ma → ¬ R j a) (b1 : mb ≤ b) (b2 : R mb b) (b3 : ∀ j, j < mb → ¬ R j b) (hlt : ma < mb) :
  cnt (rep R) n = cnt (rep (joinR R a b)) n + 1 := by
 have hrm : rep R mb := fun j hj hR => b3 j hj (h.trans _ _ _ hR b2)
 rw [cnt_less hrm (n := n) (by omega)]
 congr 1
 refine cnt_congr fun k hk => ⟨?_, ?_⟩
 ·rintro ⟨hr, hne⟩ j hj hJ
  rcases hJ with hR | ⟨h1, h2⟩ | ⟨h1, h2⟩
  ·exact hr j hj hR
  ·have hmk := h.trans _ _ _ b2 h2
   rcases Nat.lt_trichotomy mb k with hl | hl | hl
   ·exact hr mb hl hmk
   ·exact hne hl.symm
   ·exact b3 k hl (h.symm _ _ hb hk h2)
  ·have hmk := h.trans _ _ _ a2 h2
   rcases Nat.lt_trichotomy ma k with hl | hl | hl
   ·exact hr ma hl hmk
   ·subst hl; exact b3 j (by omega) h1
   ·exact a3 k hl (h.symm _ _ ha hk h2)
 ·intro hr
  refine ⟨fun j hj hR => hr j hj (.inl hR), fun e => ?_⟩
  subst e
  exact hr ma hlt (.inr (.inl ⟨a2, h.symm _ _ hk hb b2⟩))
theorem join_count {R : Nat → Nat → Prop} {n : Nat} (h : EqN R n) {a b : Nat} (ha : a < n) (hb : b < n) (hab : ¬ R a b) : cnt (rep R) n = cnt (rep (joinR R a b)) n + 1 := by
 obtain ⟨ma, a1, a2, a3⟩ := leastR (q := fun j => R j a) (d := a) (h.refl a)
 obtain ⟨mb, b1, b2, b3⟩ := leastR (q := fun j => R j b) (d := b) (h.refl b)
 rcases Nat.lt_trichotomy ma mb with hl | hl | hl
 ·exact join_count0 h ha hb hab a1 a2 a3 b1 b2 b3 hl
 ·subst hl
  exact absurd (h.trans _ _ _ (h.symm _ _ (by omega) ha a2) b2) hab
 ·rw [join_count0 h hb ha (fun e => hab (h.symm _ _ hb ha e)) b1 b2 b3 a1 a2 a3 hl]
  congr 1
  exact cnt_congr fun k _ => forall_congr' fun j => forall_congr' fun _ => not_congr (join_swap R b a j k)
theorem join_trans {R : Nat → Nat → Prop} {n : Nat} (h : EqN R n) {a b i j k : Nat} (x : joinR R a b i j) (y : joinR R a b j k) : joinR R a b i k := by
 have t := h.trans
 unfold joinR at *
 rcases x with x | ⟨x1, x2⟩ | ⟨x1, x2⟩ <;> rcases y with y | ⟨y1, y2⟩ | ⟨y1, y2⟩
 ·exact .inl (t _ _ _ x y)
 ·exact .inr (.inl ⟨t _ _ _ x y1, y2⟩)
 ·exact .inr (.inr ⟨t _ _ _ x y1, y2⟩)
 ·exact .inr (.inl ⟨x1, t _ _ _ x2 y⟩)
 ·exact .inr (.inl ⟨x1, y2⟩)
 ·exact .inl (t _ _ _ x1 y2)
 ·exact .inr (.inr ⟨x1, t _ _ _ x2 y⟩)
 ·exact .inl (t _ _ _ x1 y2)
 ·exact .inr (.inr ⟨x1, y2⟩)
theorem rl_eqn {p : List Int} (hp : IsP p) : EqN (fun i j => Rl p i j) p.length where
 refl i := Rl.refl p i
 symm i j hi _ h := Rl.symm hp (by omega) (by omega) h
 trans _ _ _ h k := Rl.trans h k

def tau (a b x : Int) : Int := if x = a then b else if x = b then a else x
theorem tau_tau (a b x : Int) : tau a b (tau a b x) = x := by
 unfold tau
 by_cases h1 : x = a
 ·rw [if_pos h1]
  by_cases h2 : b = a
  ·rw [if_pos h2]; omega
  ·rw [if_neg h2, if_pos rfl]; omega
 ·rw [if_neg h1]
  by_cases h2 : x = b
  ·rw [if_pos h2, if_pos rfl]; omega
  ·rw [if_neg h2, if_neg h1, if_neg h2]
structure Swp (p q : List Int) (a b : Nat) : Prop where
 len : q.length = p.length
 ha : a < p.length
 hb : b < p.length
 ne : a ≠ b
 at' : ∀ x : Int, 0 ≤ x → x < p.length → atD 0 q x = tau a b (atD 0 p x)
theorem Swp.back {p q : List Int} {a b : Nat} (h : Swp p q a b) : Swp q p a b :=
 ⟨h.len.symm, by rw [h.len]; exact h.ha, by rw [h.len]; exact h.hb, h.ne, fun x h0 h1 => by rw [h.at' x h0 (by rw [← h.len]; exact h1), tau_tau]⟩
theorem swp_join {p q : List Int} {a b : Nat} (hp : IsP p) (hq : IsP q) (h : Swp p q a b) {i : Nat} (hi : i < p.length) : ∀ (k : Nat) (j : Nat), itP p i k = (j : Int) → joinR (fun i j => Rl q i j) a b i j
 | 0, j, e => by
   have : (i : Int) = j := e
   have : i = j := by omega
   subst this
   exact .inl (Rl.refl q i)
 | k + 1, j, e => by
   have hr := itP_rng hp (i := (i : Int)) (by omega) (by omega) k
   obtain ⟨y, hy⟩ : ∃ y : Nat, itP p i k = y := ⟨(itP p i k).toNat, by omega⟩
   have ih := swp_join hp hq h hi k y hy
   rw [hy] at hr
   have he : atD 0 p (y : Int) = j := by rw [← hy]; exact e
   have hq1 := h.at' y hr.1 hr.2
   rw [he] at hq1
   refine join_trans (rl_eqn hq) ih ?_
   have hs : Rl q y (tau a b j) := by rw [← hq1]; exact Rl.step _
   unfold tau at hs
   by_cases h1 : (j : Int) = a
   · rw [if_pos h1] at hs
     have : j = a := by omega
     subst this
     exact .inr (.inr ⟨hs, Rl.refl q _⟩)
   · rw [if_neg h1] at hs
     by_cases h2 : (j : Int) = b
     · rw [if_pos h2] at hs
       have : j = b := by omega
       subst this
       exact .inr (.inl ⟨hs, Rl.refl q _⟩)
     · rw [if_neg h2] at hs
       exact .inl hs
theorem swp_joinJ {p q : List Int} {a b : Nat} (hp : IsP p) (hq : IsP q) (h : Swp p q a b) {i j : Nat} (hi : i < p.length) (hJ : joinR (fun i j => Rl p i j) a b i j) : joinR (fun i j => Rl q i j) a b i j := by
 have T := rl_eqn hq
 rcases hJ with ⟨k, e⟩ | ⟨⟨k, e⟩, ⟨k2, e2⟩⟩ | ⟨⟨k, e⟩, ⟨k2, e2⟩⟩
 ·exact swp_join hp hq h hi k j e
 ·exact join_trans T (swp_join hp hq h hi k a e) (join_trans T (j := b) (.inr (.inl ⟨Rl.refl q _, Rl.refl q _⟩)) (swp_join hp hq h h.hb k2 j e2))
 ·exact join_trans T (swp_join hp hq h hi k b e) (join_trans T (j := a) (.inr (.inr ⟨Rl.refl q _, Rl.refl q _⟩)) (swp_join hp hq h h.ha k2 j e2))
/-- what was apart is joined. -/
theorem swp_meet {p q : List Int} {a b : Nat} (hp : IsP p) (h : Swp p q a b) (hn : ¬ Rl p a b) : Rl q a b := by
 obtain ⟨d, hd⟩ := ord_ex hp (i := (a : Int)) (by omega) (by have := h.ha; omega)
 have ha := h.ha
 have key : ∀ k, k < d → itP q a k = itP p a k := by
  intro k
  induction k with
  | zero => intro _; rfl
  | succ k ih =>
   intro hk
   have hr := itP_rng hp (i := (a : Int)) (by omega) (by omega) k
   show atD 0 q (itP q a k) = itP p a (k + 1)
   rw [ih (by omega), h.at' _ hr.1 hr.2]
   show tau a b (itP p a (k + 1)) = itP p a (k + 1)
   unfold tau
   rw [if_neg (hd.min (k + 1) (by omega) hk), if_neg (fun e => hn ⟨k + 1, e⟩)]
 have hpos := hd.pos
 obtain ⟨k, rfl⟩ : ∃ k, d = k + 1 := ⟨d - 1, by omega⟩
 refine ⟨k + 1, ?_⟩
 have hr := itP_rng hp (i := (a : Int)) (by omega) (by omega) k
 show atD 0 q (itP q a k) = b
 rw [key k (by omega), h.at' _ hr.1 hr.2]
 show tau a b (itP p a (k + 1)) = b
 rw [hd.back]
 unfold tau
 rw [if_pos rfl]
/-- what was in one cycle is parted. -/
theorem swp_part {p q : List Int} {a b : Nat} (hp : IsP p) (h : Swp p q a b) (hR : Rl p a b) : ¬ Rl q a b := by
 have ha := h.ha
 obtain ⟨k, hk⟩ := hR
 obtain ⟨k0, _, h1, h2⟩ := leastR (q := fun k => itP p a k = (b : Int)) (d := k) hk
 have hpos : 0 < k0 := by
  rcases Nat.eq_zero_or_pos k0 with e | e
  ·subst e
   have e3 : (a : Int) = b := h1
   exact absurd (show a = b by omega) h.ne
  ·exact e
 have hna : ∀ k, 0 < k → k < k0 → itP p a k ≠ a := by
  intro k k1 k2 e
  refine h2 (k0 - k) (by omega) ?_
  have : itP p a (k0 - k + k) = itP p (itP p a k) (k0 - k) := itP_add p a k (k0 - k)
  rw [e] at this
  rw [← this, show k0 - k + k = k0 by omega]
  exact h1
 have key : ∀ k, k < k0 → itP q a k = itP p a k := by
  intro k
  induction k with
  | zero => intro _; rfl
  | succ k ih =>
   intro hk
   have hr := itP_rng hp (i := (a : Int)) (by omega) (by omega) k
   show atD 0 q (itP q a k) = itP p a (k + 1)
   rw [ih (by omega), h.at' _ hr.1 hr.2]
   show tau a b (itP p a (k + 1)) = itP p a (k + 1)
   unfold tau
   rw [if_neg (hna (k + 1) (by omega) hk), if_neg (h2 (k + 1) hk)]
 have hback : itP q a k0 = a := by
  obtain ⟨k, rfl⟩ : ∃ k, k0 = k + 1 := ⟨k0 - 1, by omega⟩
  have hr := itP_rng hp (i := (a : Int)) (by omega) (by omega) k
  show atD 0 q (itP q a k) = a
  rw [key k (by omega), h.at' _ hr.1 hr.2]
  show tau a b (itP p a (k + 1)) = a
  rw [h1]
  unfold tau
  rw [if_neg (fun e => h.ne (by omega)), if_pos rfl]
 rintro ⟨m, hm⟩
 have e : itP q a m = itP q a (m % k0) := by
  have h3 := itP_add q a (m / k0 * k0) (m % k0)
  rw [itP_mul hback (m / k0)] at h3
  rw [← h3]
  congr 1
  have := Nat.mod_add_div m k0
  rw [Nat.mul_comm] at this
  omega
 have hlt := Nat.mod_lt m hpos
 rw [e, key _ hlt] at hm
 exact h2 _ hlt hm
/-- the number of cycles changes by one. -/
theorem swp_count {p q : List Int} {a b : Nat} (hp : IsP p) (hq : IsP q) (h : Swp p q a b) : (cycK q q.length).length = (cycK p p.length).length + 1 ∨ (cycK p p.length).length = (cycK q q.length).length + 1 := by
 have aux : ∀ {p q : List Int}, IsP p → IsP q → Swp p q a b → ¬ Rl p a b → (cycK p p.length).length = (cycK q q.length).length + 1 := by
  intro p q hp hq h hn
  have hm := swp_meet hp h hn
  rw [cyc_count hp (Nat.le_refl _), cyc_count hq (Nat.le_refl _), join_count (rl_eqn hp) h.ha h.hb hn, h.len]
  congr 1
  refine cnt_congr fun k hk => forall_congr' fun j => forall_congr' fun hj => not_congr ⟨fun hJ => ?_, fun hR => ?_⟩
  ·have hJ2 := swp_joinJ hp hq h (i := j) (by omega) hJ
   have T := rl_eqn hq
   have hm2 : Rl q b a := Rl.symm hq (by omega) (by have := h.ha; rw [h.len]; omega) hm
   rcases hJ2 with x | ⟨x, y⟩ | ⟨x, y⟩
   ·exact x
   ·exact Rl.trans x (Rl.trans hm y)
   ·exact Rl.trans x (Rl.trans hm2 y)
  ·exact swp_joinJ hq hp h.back (i := j) (by rw [h.len]; omega) (.inl hR)
 by_cases hR : Rl p a b
 ·exact .inl (aux hq hp h.back (swp_part hp h hR))
 ·exact .inr (aux hp hq h hR)

/-- the same machine with other switches. -/
def withS (m : MacV) (s : List Int) : MacV := ⟨m.ring, m.gears, m.turn, s⟩
theorem slot_place {m : MacV} {s pl : Int} (h0 : 0 ≤ s) (h1 : s < 4 * m.gears) (hsh : sharedM m pl = true) : placeM m s = pl ↔ s = 4 * pl ∨ s = 4 * befM m pl + 2 := by
 obtain ⟨p0, p1, p2⟩ := shared_iff.1 hsh
 unfold placeM befM
 cases hr : m.ring
 ·rw [hr] at p2
  simp only [Bool.false_eq_true, false_and, if_false, false_or] at p2 ⊢
  rw [if_neg (show ¬ pl = 0 by omega)]
  split
  ·omega
  ·split <;> omega
 ·simp only [true_and]
  by_cases hz : pl = 0
  ·rw [if_pos hz]
   split
   ·omega
   ·split
    ·split <;> omega
    ·omega
  ·rw [if_neg hz]
   split
   ·omega
   ·split
    ·split <;> omega
    ·omega
theorem bef_rng {m : MacV} {pl : Int} (hsh : sharedM m pl = true) : 0 ≤ befM m pl ∧ befM m pl < m.gears := by
 obtain ⟨p0, p1, p2⟩ := shared_iff.1 hsh
 unfold befM
 split <;> omega
theorem with_swp {m : MacV} {s : List Int} {pl : Int} (hsh : sharedM m pl = true) (h1 : ∀ x, x ≠ pl → s.contains x = m.sw.contains x) (h2 : s.contains pl = !m.sw.contains pl) : Swp (permM m) (permM (withS m s)) (4 * pl).toNat (4 * befM m pl + 2).toNat := by
 obtain ⟨p0, p1, p2⟩ := shared_iff.1 hsh
 obtain ⟨b0, b1⟩ := bef_rng hsh
 have hlen : (permM (withS m s)).length = (permM m).length := by rw [permM_len, permM_len]; rfl
 refine ⟨hlen, by rw [permM_len]; omega, by rw [permM_len]; omega, by omega, fun x x0 x1 => ?_⟩
 rw [permM_len] at x1
 rw [permM_at (m := m) x0 (by omega), permM_at (m := withS m s) x0 (by show x < 4 * m.gears; omega), Int.toNat_of_nonneg (by omega), Int.toNat_of_nonneg (by omega)]
 unfold nextM
 have hrot : rotM (withS m s) x = rotM m x := rfl
 rw [hrot]
 obtain ⟨r0, r1, _⟩ := rot_rng (m := m) x0 (by omega)
 generalize rotM m x = y at *
 have hpl : placeM (withS m s) y = placeM m y := rfl
 have hsh2 : ∀ z, sharedM (withS m s) z = sharedM m z := fun _ => rfl
 have hbf : ∀ z, befM (withS m s) z = befM m z := fun _ => rfl
 have hg : goesM (withS m s) y = (decide (0 ≤ placeM m y) && sharedM m (placeM m y) && !s.contains (placeM m y)) := rfl
 have hov : overM (withS m s) y = if goesM (withS m s) y then 4 * befM m (placeM m y) + 2 + 4 * placeM m y - y else y := rfl
 by_cases hp : placeM m y = pl
 ·have hsl := (slot_place r0 r1 hsh).1 hp
  have hov2 : overM m y = if goesM m y then 4 * befM m (placeM m y) + 2 + 4 * placeM m y - y else y := rfl
  rw [hov, hov2, hg]
  unfold goesM
  rw [hp, hsh, decide_eq_true p0, h2]
  unfold tau
  cases m.sw.contains pl
  ·simp only [Bool.true_and, Bool.not_false, Bool.not_true, Bool.false_eq_true, if_false, if_true]
   rcases hsl with e | e <;> subst e
   ·rw [if_neg (by omega), if_pos (by omega)]
   ·rw [if_pos (by omega)]
  ·simp only [Bool.true_and, Bool.not_false, Bool.not_true, Bool.false_eq_true, if_false, if_true]
   rcases hsl with e | e <;> subst e
   ·rw [if_pos rfl]; omega
   ·rw [if_neg (by omega), if_pos rfl]; omega
 ·have hgg : goesM (withS m s) y = goesM m y := by rw [hg, h1 _ hp]; rfl
  have heq : overM (withS m s) y = overM m y := by rw [hov, hgg]; rfl
  rw [heq]
  have hpo : placeM m (overM m y) ≠ pl := by
   rcases over_cases r0 r1 with ⟨_, e⟩ | ⟨_, _, _, e, _⟩
   ·rw [e]; exact hp
   ·rw [e]; exact hp
  obtain ⟨o0, o1⟩ := over_rng (m := m) r0 r1
  have hns : ¬ (overM m y = 4 * pl ∨ overM m y = 4 * befM m pl + 2) := fun e => hpo ((slot_place o0 o1 hsh).2 e)
  unfold tau
  rw [if_neg (fun e => hns (.inl e)), if_neg (fun e => hns (.inr e))]
theorem with_count {m : MacV} {s : List Int} {pl : Int} (hsh : sharedM m pl = true) (h1 : ∀ x, x ≠ pl → s.contains x = m.sw.contains x) (h2 : s.contains pl = !m.sw.contains pl) :
  (cycK (permM (withS m s)) (permM (withS m s)).length).length = (cycK (permM m) (permM m).length).length + 1 ∨ (cycK (permM m) (permM m).length).length = (cycK (permM (withS m s)) (permM (withS m s)).length).length + 1 :=
 swp_count (permM_isP m) (permM_isP _) (with_swp hsh h1 h2)

def bareN (r : Bool) (g : Nat) (t : Int) : Nat := (cycK (permM ⟨r, g, t, []⟩) (4 * g)).length
theorem bare_rows : ((List.range 17).all fun g => decide (g = 0) || (decide (bareN false g 1 = 1) && decide (bareN false g (-1) = 1))) = true := by kernel_rfl
theorem bare_rings : ((List.range 17).all fun g => decide (g = 0) || decide (g % 2 = 1) || (decide (bareN true g 1 = 2) && decide (bareN true g (-1) = 2))) = true := by kernel_rfl
theorem bare_cyc {m : MacV} (h : MacOk m) (hs : m.sw = []) : (cycK (permM m) (permM m).length).length = if m.ring then 2 else 1 := by
 obtain ⟨r, g, t, s⟩ := m
 have hlo := h.lo
 have hhi := h.hi
 have hev := h.even
 have htu := h.turn
 dsimp only at *
 subst hs
 obtain ⟨n, rfl⟩ : ∃ n : Nat, g = n := ⟨g.toNat, by omega⟩
 rw [permM_len]
 have e : (4 * (n : Int)).toNat = 4 * n := by omega
 dsimp only
 rw [e]
 have hn : n ∈ List.range 17 := by simp; omega
 cases r
 ·have h1 := List.all_eq_true.1 bare_rows n hn
  simp only [Bool.or_eq_true, Bool.and_eq_true, decide_eq_true_eq] at h1
  rcases h1 with h1 | ⟨h1, h2⟩
  ·omega
  ·rcases htu with rfl | rfl
   ·exact h1
   ·exact h2
 ·have h1 := List.all_eq_true.1 bare_rings n hn
  simp only [Bool.or_eq_true, Bool.and_eq_true, decide_eq_true_eq] at h1
  have := hev rfl
  rcases h1 with (h1 | h1) | ⟨h1, h2⟩
  ·omega
  ·omega
  ·rcases htu with rfl | rfl
   ·exact h1
   ·exact h2
end Go.Proofs.YtndmeaoidihikaaGreatDoor

namespace Go.Proofs.YtndmeaoidihikaaGreatDoor
set_option maxRecDepth 100000
/-- the switch before. -/
def prevO (l : List Int) : Nat → Option Int
 | 0 => none
 | k + 1 => some (atD 0 l k)
theorem swGo_prev (m : MacV) (k : Nat) (h : k < m.sw.length) : swGo m (prevO m.sw k) (m.sw.drop k) = if sharedM m (atD 0 m.sw k) = false then 10 else if 0 < k ∧ atD 0 m.sw k ≤ atD 0 m.sw ((k : Int) - 1) then 11 else swGo m (prevO m.sw (k + 1)) (m.sw.drop (k + 1)) := by
 rw [swGo_step m k h]
 cases k with
 | zero => simp [prevO]
 | succ j =>
  have : ((j + 1 : Nat) : Int) - 1 = j := by omega
  rw [this]
  simp only [prevO, Nat.zero_lt_succ, true_and]
end Go.Proofs.YtndmeaoidihikaaGreatDoor

namespace Go.Proofs.YtndmeaoidihikaaGreatDoor
set_option maxRecDepth 100000
theorem place_odd {m : MacV} {s : Int} (h : ¬ s % 2 = 0) : placeM m s = -1 := by unfold placeM; rw [if_neg (by omega), if_neg (by omega)]
theorem over_odd {m : MacV} {s : Int} (h : ¬ s % 2 = 0) : overM m s = s := by
 unfold overM goesM
 rw [place_odd h]; rfl
end Go.Proofs.YtndmeaoidihikaaGreatDoor

namespace Go.Proofs.YtndmeaoidihikaaGreatDoor
set_option maxRecDepth 100000
/-- no two ever meet. -/
def AllA (m : MacV) (l : List Int) : Prop := ∀ x ∈ l, ∀ y ∈ l, x ≠ y → meetM m x y = none
structure GoodL (m : MacV) (l : List Int) (s : Int) : Prop where
 all : AllA m l
 asc : l.Pairwise (· < ·)
 rng : ∀ x ∈ l, 0 ≤ x ∧ x < s
theorem GoodL.mono {m : MacV} {l : List Int} {s t : Int} (h : GoodL m l s) (hst : s ≤ t) : GoodL m l t := ⟨h.all, h.asc, fun x hx => by have := h.rng x hx; omega⟩
theorem nodup_sub_len {l r : List Int} (hn : l.Nodup) (h : ∀ x ∈ l, x ∈ r) : l.length ≤ r.length := by
 induction l generalizing r with
 | nil => simp
 | cons x t ih =>
  obtain ⟨h1, h2⟩ := List.nodup_cons.1 hn
  have hx := h x (by simp)
  have := ih (r := r.erase x) h2 fun y hy => (List.mem_erase_of_ne (fun e : y = x => h1 (by rw [← e]; exact hy))).2 (h y (by simp [hy]))
  rw [List.length_erase_of_mem hx] at this
  have hp : 0 < r.length := List.length_pos_of_mem hx
  rw [List.length_cons]; omega
theorem asc_nodup {l : List Int} (h : l.Pairwise (· < ·)) : l.Nodup := by
 rw [List.nodup_iff_pairwise_ne]
 exact h.imp fun h => by omega
end Go.Proofs.YtndmeaoidihikaaGreatDoor

namespace Go.Proofs.YtndmeaoidihikaaGreatDoor
open Go.RowKit
set_option maxHeartbeats 2000000
set_option maxRecDepth 100000

theorem A_rmach : Aggr Tryz.prog 25 := ⟨_, Tryz.underlying25, rfl⟩
theorem rOutside_any (n lo hi : Int) (w : World) :
  Calls Tryz.prog 37 #[.int .i64 n, .int .i64 lo, .int .i64 hi] w fun r w' => r = .returned (.bool (decide (n < lo) || decide (hi < n))) ∧ w = w' := by
 by_cases h : n < lo
 ·go_enter Tryz.func37, Tryz.ntmps37
  go_wp2_with fail
  go_ret
  exact ⟨by simp [h], rfl⟩
 ·go_enter Tryz.func37, Tryz.ntmps37
  go_wp2_with fail
  go_ret
  exact ⟨by rw [show decide (n < lo) = false by simpa using h]; rfl, rfl⟩
theorem rShort_any (m : MacV) (ad : Option Addr) (cap : Nat) (al : Option Addr) (cl n : Nat) (w : World) :
  Calls Tryz.prog 7 #[mV m ad cap, .slice al n cl] w fun r w' => r = .returned (.bool (decide (m.sw.length ≤ 19) && decide (n ≤ 67))) ∧ Below w.heap.size w w' := by
 by_cases h : m.sw.length ≤ 19
 ·have h2 : (m.sw.length : Int) ≤ 19 := by omega
  by_cases k : n ≤ 67
  ·have k2 : (n : Int) ≤ 67 := by omega
   go_enter Tryz.func7, Tryz.ntmps7
   go_wp2_with fail
   go_ret
   exact ⟨by simp [h, k, h2, k2], bal (Below.refl _ _) _⟩
  ·have k2 : ¬ (n : Int) ≤ 67 := by omega
   go_enter Tryz.func7, Tryz.ntmps7
   go_wp2_with fail
   go_ret
   exact ⟨by simp [h, k, h2, k2], bal (Below.refl _ _) _⟩
 ·have h2 : ¬ (m.sw.length : Int) ≤ 19 := by omega
  go_enter Tryz.func7, Tryz.ntmps7
  go_wp2_with fail
  go_ret
  exact ⟨by simp [h, h2], bal (Below.refl _ _) _⟩
theorem rShared_any (m : MacV) (ad : Option Addr) (cap : Nat) (p : Int) (w : World) (h0 : 1 ≤ m.gears) (h1 : m.gears ≤ 16) :
  Calls Tryz.prog 38 #[mV m ad cap, .int .i64 p] w fun r w' => r = .returned (.bool (sharedM m p)) ∧ Below w.heap.size w w' := by
 have hw : IntKind.i64.wrap (m.gears - 1) = m.gears - 1 := IntWalk.i64_in _ (by omega)
 have hS := (SL.nil w).box (.cells (mC m ad cap) 25)
 cases hr : m.ring
 ·have hs : sharedM m p = !(decide (p < 1) || decide (m.gears - 1 < p)) := by
   unfold sharedM
   rw [hr, Bool.eq_iff_iff]
   simp
   omega
  obtain ⟨b, hb⟩ : ∃ b, b = (decide (p < 1) || decide (m.gears - 1 < p)) := ⟨_, rfl⟩
  have CO := fun w => rOutside_any p 1 (m.gears - 1) w
  rw [← hb] at CO hs
  have HS := hid hs; have HO := hid CO
  clear hs CO hb
  unfold mV
  rw [hr]
  clear hr
  go_enter Tryz.func38, Tryz.ntmps38
  go_wp2_with fail
  refine (HO.out _).mono ?_
  rintro e w1 ⟨rfl, rfl⟩
  go_wp2_with fail
  go_ret
  exact ⟨by rw [HS.out]; rfl, bal (Below.refl _ _) _⟩
 ·have hs : sharedM m p = !(decide (p < 0) || decide (m.gears - 1 < p)) := by
   unfold sharedM
   rw [hr, Bool.eq_iff_iff]
   simp
   omega
  obtain ⟨b, hb⟩ : ∃ b, b = (decide (p < 0) || decide (m.gears - 1 < p)) := ⟨_, rfl⟩
  have CO := fun w => rOutside_any p 0 (m.gears - 1) w
  rw [← hb] at CO hs
  have HS := hid hs; have HO := hid CO
  clear hs CO hb
  unfold mV
  rw [hr]
  clear hr
  go_enter Tryz.func38, Tryz.ntmps38
  go_wp2_with fail
  refine (HO.out _).mono ?_
  rintro e w1 ⟨rfl, rfl⟩
  go_wp2_with fail
  go_ret
  exact ⟨by rw [HS.out]; rfl, bal (Below.refl _ _) _⟩
end Go.Proofs.YtndmeaoidihikaaGreatDoor

namespace Go.Proofs.YtndmeaoidihikaaGreatDoor
open Go.RowKit
set_option maxHeartbeats 4000000
set_option maxRecDepth 100000
section
variable {P : Program} {ops : Array Oper} {rest : List Oper} {a : Act} {Qa : Act → Prop} {α : Type} {c : α → Value} {sz bytes : Nat} {t e : TypeId} {z : Value} {ad : Option Addr} {cap : Nat} {l : List α} {k : Int} {w : World}
 {d1 d2 : Tmp} {ty1 ty2 : TypeId} {p1 p2 : String} {s x : Operand} {af1 af2 : Array Edge} {g1 g2 : Option (Nat × Bool)}
theorem wpB_idxW (d : α) (E : ETy P t e z sz bytes) (hF : Flat P e) (hc : ∀ x, (c x).cells = #[c x])
   {n : Nat} (hs : a.eval s = .slice ad n cap) (hn : l.length = n) (hx : a.eval x = .int .i64 k) (hR : Reps c sz w ad cap l) (h0 : 0 ≤ k) (hlt : k < l.length) (hd : ∀ p, (a.put (some d1) p).eval (.tmp d1) = p)
   (hw1 : Region.wanted ⟨some d1, .indexAddr t s x, ty1, p1, af1, g1⟩ (yielded ops a.tmps) = true) (hw2 : ∀ p, Region.wanted ⟨some d2, .load e (.tmp d1), ty2, p2, af2, g2⟩ (yielded ops (a.put (some d1) p).tmps) = true)
   (hK : ∀ p, wpQuiet P ops (Below w.heap.size w) Qa rest ((a.put (some d1) p).put (some d2) (c (atD d l k)))) :
   wpQuiet P ops (Below w.heap.size w) Qa (⟨some d1, .indexAddr t s x, ty1, p1, af1, g1⟩ :: ⟨some d2, .load e (.tmp d1), ty2, p2, af2, g2⟩ :: rest) a := by
 subst hn
 have hkl : k.toNat < l.length := by omega
 obtain ⟨b, o, rfl, hcs⟩ := hR.cells E.pos d k.toNat hkl
 have hcell := hcs 0 (c (atD d l k)) (by rw [show l.getD k.toNat d = atD d l k from rfl, hc]; rfl)
 refine wpQ_inG (.pointer (some ((⟨b, o, none⟩ : Addr).add (k.toNat * sz)))) hw1 (fun w' hw' => ?_) (wpQ_inG (c (atD d l k)) (hw2 _) (fun w' hw' => ?_) (hK _))
 ·have h1 := run_indexAt_sl (P := P) (a := ⟨b, o, none⟩) (cap := cap) w' E h0 hlt
  simp [execOp, hs, hx, h1, Result.andThen]
 ·have h2 := run_loadAt_cell (P := P) w' (a := (⟨b, o, none⟩ : Addr).add (k.toNat * sz)) (v := c (atD d l k)) hF (by
   rw [Addr.add_z]
   exact (hw'.cell (World.block_lt_of_cell? w _ hcell)).trans hcell)
  simp [execOp, hd, h2, Result.andThen]
end
theorem rCheckMachine_any (m : MacV) (ad : Option Addr) (cap : Nat) (w : World) (hR : Ints w ad cap m.sw) :
  Calls Tryz.prog 8 #[mV m ad cap] w fun r w' => r = .returned (.int .i64 (macE m)) ∧ Below w.heap.size w w' := by
 have hcap := hR.le
 have hmx := hR.max
 have hlen : m.sw.length ≤ 9223372036854775807 := by have := hR.max; unfold maxLen at this; omega
 have CS := fun (p : Int) w a b => rShared_any m ad cap p w a b
 have hE : macE m = if m.gears < 1 ∨ 16 < m.gears then 3 else if m.ring = true ∧ m.gears % 2 = 1 then 17 else if m.turn ≠ 1 ∧ m.turn ≠ -1 then 3 else if m.gears < m.sw.length then 5 else swGo m none m.sw := rfl
 have SW := fun (k : Nat) (h : k < m.sw.length) => swGo_prev m k h
 obtain ⟨E, hEE⟩ : ∃ E, E = macE m := ⟨_, rfl⟩
 obtain ⟨sg, hsg⟩ : ∃ sg : Nat → Int, ∀ k, sg k = swGo m (prevO m.sw k) (m.sw.drop k) := ⟨_, fun _ => rfl⟩
 obtain ⟨sh, hsh⟩ : ∃ sh : Int → Bool, ∀ p, sh p = sharedM m p := ⟨_, fun _ => rfl⟩
 have hs0 : swGo m none m.sw = sg 0 := (hsg 0).symm
 have hsE : sg m.sw.length = 0 := by rw [hsg, List.drop_length]; rfl
 rw [← hEE] at hE ⊢
 rw [hs0] at hE
 simp only [← hsg, ← hsh] at SW CS
 clear hs0 hsg hsh hEE
 obtain ⟨R, G, T, S⟩ := m
 dsimp only at *
 have HCS := hid CS; have HSW := hid SW; have HSE := hid hsE
 clear CS SW hsE
 have CO := fun w => rOutside_any G 1 16 w
 by_cases hA : G < 1 ∨ 16 < G
 ·rw [if_pos hA] at hE
  have hb : (decide (G < 1) || decide (16 < G)) = true := by simpa using hA
  rw [hb] at CO
  have HO := hid CO
  clear CO hb hA
  subst hE
  go_enter Tryz.func8, Tryz.ntmps8
  go_wp2_with fail
  refine (HO.out _).mono ?_
  rintro e w1 ⟨rfl, rfl⟩
  go_wp2_with fail
  go_ret
  exact ⟨rfl, bal (Below.refl _ _) _⟩
 ·rw [if_neg hA] at hE
  have hb : (decide (G < 1) || decide (16 < G)) = false := by simp; omega
  rw [hb] at CO
  have HO := hid CO
  have g1 : 1 ≤ G := by omega
  have g2 : G ≤ 16 := by omega
  have HCS' := hid (fun p w => HCS.out p w g1 g2)
  clear CO hb HCS hA
  obtain ⟨q, hq⟩ : ∃ q, q = G % 2 := ⟨_, rfl⟩
  have htm : G.tmod 2 = q := by rw [hq, Int.tmod_eq_emod_of_nonneg (by omega)]
  rw [← hq] at hE
  have hq01 : 0 ≤ q ∧ q < 2 := by omega
  clear hq
  have hS := (SL.nil w).box (.cells #[.bool R, .int .i64 G, .int .i64 T, .slice ad S.length cap] 25)
  by_cases h17 : R = true ∧ q = 1
  ·rw [if_pos h17] at hE
   obtain ⟨rfl, rfl⟩ := h17
   subst hE
   go_enter Tryz.func8, Tryz.ntmps8
   go_wp2_with fail
   refine (HO.out _).mono ?_
   rintro e w1 ⟨rfl, rfl⟩
   go_wp2_with fail
   go_ret
   exact ⟨rfl, bal (Below.refl _ _) _⟩
  ·rw [if_neg h17] at hE
   have hRq : (R = true ∧ (q == 1) = false) ∨ R = false := by
    cases R
    ·exact .inr rfl
    ·exact .inl ⟨rfl, by simpa using h17⟩
   clear h17
   by_cases hT : T ≠ 1 ∧ T ≠ -1
   ·rw [if_pos hT] at hE
    have t1 : (T != 1) = true := by simpa using hT.1
    have t2 : (T != -1) = true := by simpa using hT.2
    clear hT
    subst hE
    rcases hRq with ⟨rfl, hq1⟩ | rfl
    all_goals
     go_enter Tryz.func8, Tryz.ntmps8
     go_wp2_with fail
     refine (HO.out _).mono ?_
     rintro e w1 ⟨rfl, rfl⟩
     go_wp2_with fail
     go_ret
     exact ⟨rfl, bal (Below.refl _ _) _⟩
   ·rw [if_neg hT] at hE
    have hT2 : T = 1 ∨ T = -1 := by omega
    clear hT
    by_cases hL : G < S.length
    ·rw [if_pos hL] at hE
     subst hE
     rcases hRq with ⟨rfl, hq1⟩ | rfl <;> rcases hT2 with rfl | rfl
     all_goals
      go_enter Tryz.func8, Tryz.ntmps8
      go_wp2_with fail
      refine (HO.out _).mono ?_
      rintro e w1 ⟨rfl, rfl⟩
      go_wp2_with fail
      go_ret
      exact ⟨rfl, bal (Below.refl _ _) _⟩
    ·rw [if_neg hL] at hE
     have HE := hid hE
     clear hE
     have hS16 : S.length ≤ 16 := by omega
     rcases hRq with ⟨rfl, hq1⟩ | rfl <;> rcases hT2 with rfl | rfl
     ·go_enter Tryz.func8, Tryz.ntmps8
      go_wp2_with fail
      refine (HO.out _).mono ?_
      rintro e w1 ⟨rfl, rfl⟩
      go_wp2_with fail
      go_loopw [3] (fun i wr => ∃ k : Nat, k ≤ S.length ∧ i = .int .i64 k ∧ sg k = sg 0 ∧ SL w.heap.size w wr [pBlk w.heap.size (.cells #[.bool true, .int .i64 G, .int .i64 1, .slice ad S.length cap] 25)]) (fun i _ => S.length - (intOf i).toNat)
      case atStart => exact ⟨0, by omega, rfl, rfl, hS⟩
      case round =>
       clear hS
       obtain ⟨k, hk, rfl, hgo, hSr⟩ := hrel
       have q1 := (hSr.blk 0 rfl).1
       have hRr := hR.below hSr.b
       by_cases hlt : k < S.length
       ·have hst := HSW.out k hlt
        rw [hgo] at hst
        obtain ⟨x, hx⟩ : ∃ x, x = atD 0 S k := ⟨_, rfl⟩
        rw [← hx] at hst
        obtain ⟨b, hb⟩ : ∃ b, b = sh x := ⟨_, rfl⟩
        have CS := fun w => HCS'.out x w
        rw [← hb] at hst CS
        have HX := hid hx; have HC := hid CS
        clear hx hb CS hgo
        cases b
        ·rw [if_pos rfl] at hst
         have HST := hid hst
         clear hst
         go_wp2_with (with_reducible refine wpList_ldB F_sliceM wU wU q1 wU ?_)
         refine wp_region_q kR kR ?_
         repeat (first | ((with_reducible refine wpB_loadS (n := 4) (us := #[.bool true, .int .i64 G, .int .i64 1, .slice ad S.length cap]) A_rmach kR wU wU (by assumption) wU wU ?_); (try simp only [Act.put, pA, pB, pC])) | ((with_reducible refine wpB_load F_sliceM wU wU (by assumption) wU ?_); (try simp only [Act.put, pA, pB, pC])) | (((with_reducible refine wpB_idx2 0 E_ints F_int cInt1 wU (rfl) wU (hRr) oD oD (fun _ => wU) (fun _ => ?_)); (try simp only [Act.put, pA, pB, pC]); (try simp only [cInt])); rw [← HX.out]) | ((refine wpB_call (.bool false) wU (fun w' => ?_) (fun w' hw' => HC.out w') ?_); (focus (go_simp; done)); (try simp only [Act.put, pA, pB, pC])) |  ((with_reducible refine wpB_load (by first | exact F_int | exact F_u64s) wU wU (by assumption) wU ?_); (try simp only [Act.put, pA, pB, pC])) | ((refine wpQ_oneG ?_ wU (fun w' => ?_) ?_); rotate_left; (go_simp; rfl); (try simp only [Act.put, pA, pB, pC])))
         refine wpQuiet_nil ?_
         intro w4 hb4
         go_wp2_with fail
         go_ret
         exact ⟨by rw [HE.out, HST.out]; rfl, bnext hSr.b hb4⟩
        ·rw [if_neg (by decide)] at hst
         by_cases hk0 : k = 0
         ·have hst2 : sg (k + 1) = sg 0 := by rw [hst, if_neg (by omega)]
          have hd : decide (0 < k) = false := by simp; omega
          have HST := hid hst2
          clear hst hst2 hk0
          go_wp2_with (with_reducible refine wpList_ldB F_sliceM wU wU q1 wU ?_)
          refine wp_region_q kR kR ?_
          repeat (first | ((with_reducible refine wpB_loadS (n := 4) (us := #[.bool true, .int .i64 G, .int .i64 1, .slice ad S.length cap]) A_rmach kR wU wU (by assumption) wU wU ?_); (try simp only [Act.put, pA, pB, pC])) | ((with_reducible refine wpB_load F_sliceM wU wU (by assumption) wU ?_); (try simp only [Act.put, pA, pB, pC])) | (((with_reducible refine wpB_idx2 0 E_ints F_int cInt1 wU (rfl) wU (hRr) oD oD (fun _ => wU) (fun _ => ?_)); (try simp only [Act.put, pA, pB, pC]); (try simp only [cInt])); rw [← HX.out]) | ((refine wpB_call (.bool true) wU (fun w' => ?_) (fun w' hw' => HC.out w') ?_); (focus (go_simp; done)); (try simp only [Act.put, pA, pB, pC])) |  ((with_reducible refine wpB_load (by first | exact F_int | exact F_u64s) wU wU (by assumption) wU ?_); (try simp only [Act.put, pA, pB, pC])) | ((refine wpQ_oneG ?_ wU (fun w' => ?_) ?_); rotate_left; (go_simp; rfl); (try simp only [Act.put, pA, pB, pC])))
          refine wpQuiet_nil ?_
          intro w4 hb4
          have hS4 := hSr.mono hb4
          have q4 := (hS4.blk 0 rfl).1
          go_wp2_with fail
          refine wp_region_q kR kR ?_
          repeat (first | ((try simp only [hd]); ((with_reducible refine wpQ_skip wU ?_); (try simp only [Act.put, pA, pB, pC]))) |  ((with_reducible refine wpB_load (by first | exact F_int | exact F_u64s) wU wU (by assumption) wU ?_); (try simp only [Act.put, pA, pB, pC])) | ((refine wpQ_oneG ?_ wU (fun w' => ?_) ?_); rotate_left; (go_simp; rfl); (try simp only [Act.put, pA, pB, pC])))
          refine wpQuiet_nil ?_
          intro w5 hb5
          have hS5 := hS4.mono hb5
          go_wp2_with fail
          exact ⟨⟨k + 1, by omega, by go_num, HST.out, hS5⟩, by simp [intOf]; omega⟩
         ·have hd : decide (0 < k) = true := by simp; omega
          have hk1 : 0 ≤ (k : Int) - 1 ∧ (k : Int) - 1 < S.length := by omega
          have hwk : IntKind.i64.wrap ((k : Int) - 1) = (k : Int) - 1 := IntWalk.i64_in _ (by omega)
          obtain ⟨y, hy⟩ : ∃ y, y = atD 0 S ((k : Int) - 1) := ⟨_, rfl⟩
          rw [← hy] at hst
          have HY := hid hy
          clear hy
          by_cases hxy : x ≤ y
          ·rw [if_pos ⟨by omega, hxy⟩] at hst
           have HST := hid hst
           have hdx : decide (x ≤ y) = true := decide_eq_true hxy
           clear hst hk0
           go_wp2_with (with_reducible refine wpList_ldB F_sliceM wU wU q1 wU ?_)
           refine wp_region_q kR kR ?_
           repeat (first | ((with_reducible refine wpB_loadS (n := 4) (us := #[.bool true, .int .i64 G, .int .i64 1, .slice ad S.length cap]) A_rmach kR wU wU (by assumption) wU wU ?_); (try simp only [Act.put, pA, pB, pC])) | ((with_reducible refine wpB_load F_sliceM wU wU (by assumption) wU ?_); (try simp only [Act.put, pA, pB, pC])) | (((with_reducible refine wpB_idx2 0 E_ints F_int cInt1 wU (rfl) wU (hRr) oD oD (fun _ => wU) (fun _ => ?_)); (try simp only [Act.put, pA, pB, pC]); (try simp only [cInt])); rw [← HX.out]) | ((refine wpB_call (.bool true) wU (fun w' => ?_) (fun w' hw' => HC.out w') ?_); (focus (go_simp; done)); (try simp only [Act.put, pA, pB, pC])) |  ((with_reducible refine wpB_load (by first | exact F_int | exact F_u64s) wU wU (by assumption) wU ?_); (try simp only [Act.put, pA, pB, pC])) | ((refine wpQ_oneG ?_ wU (fun w' => ?_) ?_); rotate_left; (go_simp; rfl); (try simp only [Act.put, pA, pB, pC])))
           refine wpQuiet_nil ?_
           intro w4 hb4
           have hS4 := hSr.mono hb4
           have q4 := (hS4.blk 0 rfl).1
           have hR4 := hR.below hS4.b
           clear q1
           go_wp2_with fail
           refine wp_region_q kR kR ?_
           repeat (first | ((try simp only [hd]); ((with_reducible refine wpB_load F_sliceM wU wU (by assumption) wU ?_); (try simp only [Act.put, pA, pB, pC]))) | (((with_reducible refine wpB_idxW 0 E_ints F_int cInt1 wU (rfl) wU (hR4) oD oD (fun _ => wU) wU (fun _ => wU) (fun _ => ?_)); (try simp only [Act.put, pA, pB, pC]); (try simp only [cInt])); first | rw [← HX.out] | rw [← HY.out]) |  ((with_reducible refine wpB_load (by first | exact F_int | exact F_u64s) wU wU (by assumption) wU ?_); (try simp only [Act.put, pA, pB, pC])) | ((refine wpQ_oneG ?_ wU (fun w' => ?_) ?_); rotate_left; (go_simp; rfl); (try simp only [Act.put, pA, pB, pC])))
           refine wpQuiet_nil ?_
           intro w5 hb5
           go_wp2_with fail
           go_ret
           exact ⟨by rw [HE.out, HST.out]; rfl, bnext hS4.b hb5⟩
          ·rw [if_neg (fun h => hxy h.2)] at hst
           have HST := hid hst
           have hdx : decide (x ≤ y) = false := decide_eq_false hxy
           clear hst hk0
           go_wp2_with (with_reducible refine wpList_ldB F_sliceM wU wU q1 wU ?_)
           refine wp_region_q kR kR ?_
           repeat (first | ((with_reducible refine wpB_loadS (n := 4) (us := #[.bool true, .int .i64 G, .int .i64 1, .slice ad S.length cap]) A_rmach kR wU wU (by assumption) wU wU ?_); (try simp only [Act.put, pA, pB, pC])) | ((with_reducible refine wpB_load F_sliceM wU wU (by assumption) wU ?_); (try simp only [Act.put, pA, pB, pC])) | (((with_reducible refine wpB_idx2 0 E_ints F_int cInt1 wU (rfl) wU (hRr) oD oD (fun _ => wU) (fun _ => ?_)); (try simp only [Act.put, pA, pB, pC]); (try simp only [cInt])); rw [← HX.out]) | ((refine wpB_call (.bool true) wU (fun w' => ?_) (fun w' hw' => HC.out w') ?_); (focus (go_simp; done)); (try simp only [Act.put, pA, pB, pC])) |  ((with_reducible refine wpB_load (by first | exact F_int | exact F_u64s) wU wU (by assumption) wU ?_); (try simp only [Act.put, pA, pB, pC])) | ((refine wpQ_oneG ?_ wU (fun w' => ?_) ?_); rotate_left; (go_simp; rfl); (try simp only [Act.put, pA, pB, pC])))
           refine wpQuiet_nil ?_
           intro w4 hb4
           have hS4 := hSr.mono hb4
           have q4 := (hS4.blk 0 rfl).1
           have hR4 := hR.below hS4.b
           clear q1
           go_wp2_with fail
           refine wp_region_q kR kR ?_
           repeat (first | ((try simp only [hd]); ((with_reducible refine wpB_load F_sliceM wU wU (by assumption) wU ?_); (try simp only [Act.put, pA, pB, pC]))) | (((with_reducible refine wpB_idxW 0 E_ints F_int cInt1 wU (rfl) wU (hR4) oD oD (fun _ => wU) wU (fun _ => wU) (fun _ => ?_)); (try simp only [Act.put, pA, pB, pC]); (try simp only [cInt])); first | rw [← HX.out] | rw [← HY.out]) |  ((with_reducible refine wpB_load (by first | exact F_int | exact F_u64s) wU wU (by assumption) wU ?_); (try simp only [Act.put, pA, pB, pC])) | ((refine wpQ_oneG ?_ wU (fun w' => ?_) ?_); rotate_left; (go_simp; rfl); (try simp only [Act.put, pA, pB, pC])))
           refine wpQuiet_nil ?_
           intro w5 hb5
           have hS5 := hS4.mono hb5
           go_wp2_with fail
           exact ⟨⟨k + 1, by omega, by go_num, HST.out.symm, hS5⟩, by simp [intOf]; omega⟩
       ·have hkn : k = S.length := by omega
        subst hkn
        have he : E = 0 := by rw [HE.out, ← hgo, HSE.out]
        have HEE := hid he
        clear he hgo
        go_wp2_with (with_reducible refine wpList_ldB F_sliceM wU wU q1 wU ?_)
        go_ret
        exact ⟨by rw [HEE.out]; rfl, hSr.b⟩
     ·go_enter Tryz.func8, Tryz.ntmps8
      go_wp2_with fail
      refine (HO.out _).mono ?_
      rintro e w1 ⟨rfl, rfl⟩
      go_wp2_with fail
      go_loopw [3] (fun i wr => ∃ k : Nat, k ≤ S.length ∧ i = .int .i64 k ∧ sg k = sg 0 ∧ SL w.heap.size w wr [pBlk w.heap.size (.cells #[.bool true, .int .i64 G, .int .i64 (-1), .slice ad S.length cap] 25)]) (fun i _ => S.length - (intOf i).toNat)
      case atStart => exact ⟨0, by omega, rfl, rfl, hS⟩
      case round =>
       clear hS
       obtain ⟨k, hk, rfl, hgo, hSr⟩ := hrel
       have q1 := (hSr.blk 0 rfl).1
       have hRr := hR.below hSr.b
       by_cases hlt : k < S.length
       ·have hst := HSW.out k hlt
        rw [hgo] at hst
        obtain ⟨x, hx⟩ : ∃ x, x = atD 0 S k := ⟨_, rfl⟩
        rw [← hx] at hst
        obtain ⟨b, hb⟩ : ∃ b, b = sh x := ⟨_, rfl⟩
        have CS := fun w => HCS'.out x w
        rw [← hb] at hst CS
        have HX := hid hx; have HC := hid CS
        clear hx hb CS hgo
        cases b
        ·rw [if_pos rfl] at hst
         have HST := hid hst
         clear hst
         go_wp2_with (with_reducible refine wpList_ldB F_sliceM wU wU q1 wU ?_)
         refine wp_region_q kR kR ?_
         repeat (first | ((with_reducible refine wpB_loadS (n := 4) (us := #[.bool true, .int .i64 G, .int .i64 (-1), .slice ad S.length cap]) A_rmach kR wU wU (by assumption) wU wU ?_); (try simp only [Act.put, pA, pB, pC])) | ((with_reducible refine wpB_load F_sliceM wU wU (by assumption) wU ?_); (try simp only [Act.put, pA, pB, pC])) | (((with_reducible refine wpB_idx2 0 E_ints F_int cInt1 wU (rfl) wU (hRr) oD oD (fun _ => wU) (fun _ => ?_)); (try simp only [Act.put, pA, pB, pC]); (try simp only [cInt])); rw [← HX.out]) | ((refine wpB_call (.bool false) wU (fun w' => ?_) (fun w' hw' => HC.out w') ?_); (focus (go_simp; done)); (try simp only [Act.put, pA, pB, pC])) |  ((with_reducible refine wpB_load (by first | exact F_int | exact F_u64s) wU wU (by assumption) wU ?_); (try simp only [Act.put, pA, pB, pC])) | ((refine wpQ_oneG ?_ wU (fun w' => ?_) ?_); rotate_left; (go_simp; rfl); (try simp only [Act.put, pA, pB, pC])))
         refine wpQuiet_nil ?_
         intro w4 hb4
         go_wp2_with fail
         go_ret
         exact ⟨by rw [HE.out, HST.out]; rfl, bnext hSr.b hb4⟩
        ·rw [if_neg (by decide)] at hst
         by_cases hk0 : k = 0
         ·have hst2 : sg (k + 1) = sg 0 := by rw [hst, if_neg (by omega)]
          have hd : decide (0 < k) = false := by simp; omega
          have HST := hid hst2
          clear hst hst2 hk0
          go_wp2_with (with_reducible refine wpList_ldB F_sliceM wU wU q1 wU ?_)
          refine wp_region_q kR kR ?_
          repeat (first | ((with_reducible refine wpB_loadS (n := 4) (us := #[.bool true, .int .i64 G, .int .i64 (-1), .slice ad S.length cap]) A_rmach kR wU wU (by assumption) wU wU ?_); (try simp only [Act.put, pA, pB, pC])) | ((with_reducible refine wpB_load F_sliceM wU wU (by assumption) wU ?_); (try simp only [Act.put, pA, pB, pC])) | (((with_reducible refine wpB_idx2 0 E_ints F_int cInt1 wU (rfl) wU (hRr) oD oD (fun _ => wU) (fun _ => ?_)); (try simp only [Act.put, pA, pB, pC]); (try simp only [cInt])); rw [← HX.out]) | ((refine wpB_call (.bool true) wU (fun w' => ?_) (fun w' hw' => HC.out w') ?_); (focus (go_simp; done)); (try simp only [Act.put, pA, pB, pC])) |  ((with_reducible refine wpB_load (by first | exact F_int | exact F_u64s) wU wU (by assumption) wU ?_); (try simp only [Act.put, pA, pB, pC])) | ((refine wpQ_oneG ?_ wU (fun w' => ?_) ?_); rotate_left; (go_simp; rfl); (try simp only [Act.put, pA, pB, pC])))
          refine wpQuiet_nil ?_
          intro w4 hb4
          have hS4 := hSr.mono hb4
          have q4 := (hS4.blk 0 rfl).1
          go_wp2_with fail
          refine wp_region_q kR kR ?_
          repeat (first | ((try simp only [hd]); ((with_reducible refine wpQ_skip wU ?_); (try simp only [Act.put, pA, pB, pC]))) |  ((with_reducible refine wpB_load (by first | exact F_int | exact F_u64s) wU wU (by assumption) wU ?_); (try simp only [Act.put, pA, pB, pC])) | ((refine wpQ_oneG ?_ wU (fun w' => ?_) ?_); rotate_left; (go_simp; rfl); (try simp only [Act.put, pA, pB, pC])))
          refine wpQuiet_nil ?_
          intro w5 hb5
          have hS5 := hS4.mono hb5
          go_wp2_with fail
          exact ⟨⟨k + 1, by omega, by go_num, HST.out, hS5⟩, by simp [intOf]; omega⟩
         ·have hd : decide (0 < k) = true := by simp; omega
          have hk1 : 0 ≤ (k : Int) - 1 ∧ (k : Int) - 1 < S.length := by omega
          have hwk : IntKind.i64.wrap ((k : Int) - 1) = (k : Int) - 1 := IntWalk.i64_in _ (by omega)
          obtain ⟨y, hy⟩ : ∃ y, y = atD 0 S ((k : Int) - 1) := ⟨_, rfl⟩
          rw [← hy] at hst
          have HY := hid hy
          clear hy
          by_cases hxy : x ≤ y
          ·rw [if_pos ⟨by omega, hxy⟩] at hst
           have HST := hid hst
           have hdx : decide (x ≤ y) = true := decide_eq_true hxy
           clear hst hk0
           go_wp2_with (with_reducible refine wpList_ldB F_sliceM wU wU q1 wU ?_)
           refine wp_region_q kR kR ?_
           repeat (first | ((with_reducible refine wpB_loadS (n := 4) (us := #[.bool true, .int .i64 G, .int .i64 (-1), .slice ad S.length cap]) A_rmach kR wU wU (by assumption) wU wU ?_); (try simp only [Act.put, pA, pB, pC])) | ((with_reducible refine wpB_load F_sliceM wU wU (by assumption) wU ?_); (try simp only [Act.put, pA, pB, pC])) | (((with_reducible refine wpB_idx2 0 E_ints F_int cInt1 wU (rfl) wU (hRr) oD oD (fun _ => wU) (fun _ => ?_)); (try simp only [Act.put, pA, pB, pC]); (try simp only [cInt])); rw [← HX.out]) | ((refine wpB_call (.bool true) wU (fun w' => ?_) (fun w' hw' => HC.out w') ?_); (focus (go_simp; done)); (try simp only [Act.put, pA, pB, pC])) |  ((with_reducible refine wpB_load (by first | exact F_int | exact F_u64s) wU wU (by assumption) wU ?_); (try simp only [Act.put, pA, pB, pC])) | ((refine wpQ_oneG ?_ wU (fun w' => ?_) ?_); rotate_left; (go_simp; rfl); (try simp only [Act.put, pA, pB, pC])))
           refine wpQuiet_nil ?_
           intro w4 hb4
           have hS4 := hSr.mono hb4
           have q4 := (hS4.blk 0 rfl).1
           have hR4 := hR.below hS4.b
           clear q1
           go_wp2_with fail
           refine wp_region_q kR kR ?_
           repeat (first | ((try simp only [hd]); ((with_reducible refine wpB_load F_sliceM wU wU (by assumption) wU ?_); (try simp only [Act.put, pA, pB, pC]))) | (((with_reducible refine wpB_idxW 0 E_ints F_int cInt1 wU (rfl) wU (hR4) oD oD (fun _ => wU) wU (fun _ => wU) (fun _ => ?_)); (try simp only [Act.put, pA, pB, pC]); (try simp only [cInt])); first | rw [← HX.out] | rw [← HY.out]) |  ((with_reducible refine wpB_load (by first | exact F_int | exact F_u64s) wU wU (by assumption) wU ?_); (try simp only [Act.put, pA, pB, pC])) | ((refine wpQ_oneG ?_ wU (fun w' => ?_) ?_); rotate_left; (go_simp; rfl); (try simp only [Act.put, pA, pB, pC])))
           refine wpQuiet_nil ?_
           intro w5 hb5
           go_wp2_with fail
           go_ret
           exact ⟨by rw [HE.out, HST.out]; rfl, bnext hS4.b hb5⟩
          ·rw [if_neg (fun h => hxy h.2)] at hst
           have HST := hid hst
           have hdx : decide (x ≤ y) = false := decide_eq_false hxy
           clear hst hk0
           go_wp2_with (with_reducible refine wpList_ldB F_sliceM wU wU q1 wU ?_)
           refine wp_region_q kR kR ?_
           repeat (first | ((with_reducible refine wpB_loadS (n := 4) (us := #[.bool true, .int .i64 G, .int .i64 (-1), .slice ad S.length cap]) A_rmach kR wU wU (by assumption) wU wU ?_); (try simp only [Act.put, pA, pB, pC])) | ((with_reducible refine wpB_load F_sliceM wU wU (by assumption) wU ?_); (try simp only [Act.put, pA, pB, pC])) | (((with_reducible refine wpB_idx2 0 E_ints F_int cInt1 wU (rfl) wU (hRr) oD oD (fun _ => wU) (fun _ => ?_)); (try simp only [Act.put, pA, pB, pC]); (try simp only [cInt])); rw [← HX.out]) | ((refine wpB_call (.bool true) wU (fun w' => ?_) (fun w' hw' => HC.out w') ?_); (focus (go_simp; done)); (try simp only [Act.put, pA, pB, pC])) |  ((with_reducible refine wpB_load (by first | exact F_int | exact F_u64s) wU wU (by assumption) wU ?_); (try simp only [Act.put, pA, pB, pC])) | ((refine wpQ_oneG ?_ wU (fun w' => ?_) ?_); rotate_left; (go_simp; rfl); (try simp only [Act.put, pA, pB, pC])))
           refine wpQuiet_nil ?_
           intro w4 hb4
           have hS4 := hSr.mono hb4
           have q4 := (hS4.blk 0 rfl).1
           have hR4 := hR.below hS4.b
           clear q1
           go_wp2_with fail
           refine wp_region_q kR kR ?_
           repeat (first | ((try simp only [hd]); ((with_reducible refine wpB_load F_sliceM wU wU (by assumption) wU ?_); (try simp only [Act.put, pA, pB, pC]))) | (((with_reducible refine wpB_idxW 0 E_ints F_int cInt1 wU (rfl) wU (hR4) oD oD (fun _ => wU) wU (fun _ => wU) (fun _ => ?_)); (try simp only [Act.put, pA, pB, pC]); (try simp only [cInt])); first | rw [← HX.out] | rw [← HY.out]) |  ((with_reducible refine wpB_load (by first | exact F_int | exact F_u64s) wU wU (by assumption) wU ?_); (try simp only [Act.put, pA, pB, pC])) | ((refine wpQ_oneG ?_ wU (fun w' => ?_) ?_); rotate_left; (go_simp; rfl); (try simp only [Act.put, pA, pB, pC])))
           refine wpQuiet_nil ?_
           intro w5 hb5
           have hS5 := hS4.mono hb5
           go_wp2_with fail
           exact ⟨⟨k + 1, by omega, by go_num, HST.out.symm, hS5⟩, by simp [intOf]; omega⟩
       ·have hkn : k = S.length := by omega
        subst hkn
        have he : E = 0 := by rw [HE.out, ← hgo, HSE.out]
        have HEE := hid he
        clear he hgo
        go_wp2_with (with_reducible refine wpList_ldB F_sliceM wU wU q1 wU ?_)
        go_ret
        exact ⟨by rw [HEE.out]; rfl, hSr.b⟩
     ·go_enter Tryz.func8, Tryz.ntmps8
      go_wp2_with fail
      refine (HO.out _).mono ?_
      rintro e w1 ⟨rfl, rfl⟩
      go_wp2_with fail
      go_loopw [3] (fun i wr => ∃ k : Nat, k ≤ S.length ∧ i = .int .i64 k ∧ sg k = sg 0 ∧ SL w.heap.size w wr [pBlk w.heap.size (.cells #[.bool false, .int .i64 G, .int .i64 1, .slice ad S.length cap] 25)]) (fun i _ => S.length - (intOf i).toNat)
      case atStart => exact ⟨0, by omega, rfl, rfl, hS⟩
      case round =>
       clear hS
       obtain ⟨k, hk, rfl, hgo, hSr⟩ := hrel
       have q1 := (hSr.blk 0 rfl).1
       have hRr := hR.below hSr.b
       by_cases hlt : k < S.length
       ·have hst := HSW.out k hlt
        rw [hgo] at hst
        obtain ⟨x, hx⟩ : ∃ x, x = atD 0 S k := ⟨_, rfl⟩
        rw [← hx] at hst
        obtain ⟨b, hb⟩ : ∃ b, b = sh x := ⟨_, rfl⟩
        have CS := fun w => HCS'.out x w
        rw [← hb] at hst CS
        have HX := hid hx; have HC := hid CS
        clear hx hb CS hgo
        cases b
        ·rw [if_pos rfl] at hst
         have HST := hid hst
         clear hst
         go_wp2_with (with_reducible refine wpList_ldB F_sliceM wU wU q1 wU ?_)
         refine wp_region_q kR kR ?_
         repeat (first | ((with_reducible refine wpB_loadS (n := 4) (us := #[.bool false, .int .i64 G, .int .i64 1, .slice ad S.length cap]) A_rmach kR wU wU (by assumption) wU wU ?_); (try simp only [Act.put, pA, pB, pC])) | ((with_reducible refine wpB_load F_sliceM wU wU (by assumption) wU ?_); (try simp only [Act.put, pA, pB, pC])) | (((with_reducible refine wpB_idx2 0 E_ints F_int cInt1 wU (rfl) wU (hRr) oD oD (fun _ => wU) (fun _ => ?_)); (try simp only [Act.put, pA, pB, pC]); (try simp only [cInt])); rw [← HX.out]) | ((refine wpB_call (.bool false) wU (fun w' => ?_) (fun w' hw' => HC.out w') ?_); (focus (go_simp; done)); (try simp only [Act.put, pA, pB, pC])) |  ((with_reducible refine wpB_load (by first | exact F_int | exact F_u64s) wU wU (by assumption) wU ?_); (try simp only [Act.put, pA, pB, pC])) | ((refine wpQ_oneG ?_ wU (fun w' => ?_) ?_); rotate_left; (go_simp; rfl); (try simp only [Act.put, pA, pB, pC])))
         refine wpQuiet_nil ?_
         intro w4 hb4
         go_wp2_with fail
         go_ret
         exact ⟨by rw [HE.out, HST.out]; rfl, bnext hSr.b hb4⟩
        ·rw [if_neg (by decide)] at hst
         by_cases hk0 : k = 0
         ·have hst2 : sg (k + 1) = sg 0 := by rw [hst, if_neg (by omega)]
          have hd : decide (0 < k) = false := by simp; omega
          have HST := hid hst2
          clear hst hst2 hk0
          go_wp2_with (with_reducible refine wpList_ldB F_sliceM wU wU q1 wU ?_)
          refine wp_region_q kR kR ?_
          repeat (first | ((with_reducible refine wpB_loadS (n := 4) (us := #[.bool false, .int .i64 G, .int .i64 1, .slice ad S.length cap]) A_rmach kR wU wU (by assumption) wU wU ?_); (try simp only [Act.put, pA, pB, pC])) | ((with_reducible refine wpB_load F_sliceM wU wU (by assumption) wU ?_); (try simp only [Act.put, pA, pB, pC])) | (((with_reducible refine wpB_idx2 0 E_ints F_int cInt1 wU (rfl) wU (hRr) oD oD (fun _ => wU) (fun _ => ?_)); (try simp only [Act.put, pA, pB, pC]); (try simp only [cInt])); rw [← HX.out]) | ((refine wpB_call (.bool true) wU (fun w' => ?_) (fun w' hw' => HC.out w') ?_); (focus (go_simp; done)); (try simp only [Act.put, pA, pB, pC])) |  ((with_reducible refine wpB_load (by first | exact F_int | exact F_u64s) wU wU (by assumption) wU ?_); (try simp only [Act.put, pA, pB, pC])) | ((refine wpQ_oneG ?_ wU (fun w' => ?_) ?_); rotate_left; (go_simp; rfl); (try simp only [Act.put, pA, pB, pC])))
          refine wpQuiet_nil ?_
          intro w4 hb4
          have hS4 := hSr.mono hb4
          have q4 := (hS4.blk 0 rfl).1
          go_wp2_with fail
          refine wp_region_q kR kR ?_
          repeat (first | ((try simp only [hd]); ((with_reducible refine wpQ_skip wU ?_); (try simp only [Act.put, pA, pB, pC]))) |  ((with_reducible refine wpB_load (by first | exact F_int | exact F_u64s) wU wU (by assumption) wU ?_); (try simp only [Act.put, pA, pB, pC])) | ((refine wpQ_oneG ?_ wU (fun w' => ?_) ?_); rotate_left; (go_simp; rfl); (try simp only [Act.put, pA, pB, pC])))
          refine wpQuiet_nil ?_
          intro w5 hb5
          have hS5 := hS4.mono hb5
          go_wp2_with fail
          exact ⟨⟨k + 1, by omega, by go_num, HST.out, hS5⟩, by simp [intOf]; omega⟩
         ·have hd : decide (0 < k) = true := by simp; omega
          have hk1 : 0 ≤ (k : Int) - 1 ∧ (k : Int) - 1 < S.length := by omega
          have hwk : IntKind.i64.wrap ((k : Int) - 1) = (k : Int) - 1 := IntWalk.i64_in _ (by omega)
          obtain ⟨y, hy⟩ : ∃ y, y = atD 0 S ((k : Int) - 1) := ⟨_, rfl⟩
          rw [← hy] at hst
          have HY := hid hy
          clear hy
          by_cases hxy : x ≤ y
          ·rw [if_pos ⟨by omega, hxy⟩] at hst
           have HST := hid hst
           have hdx : decide (x ≤ y) = true := decide_eq_true hxy
           clear hst hk0
           go_wp2_with (with_reducible refine wpList_ldB F_sliceM wU wU q1 wU ?_)
           refine wp_region_q kR kR ?_
           repeat (first | ((with_reducible refine wpB_loadS (n := 4) (us := #[.bool false, .int .i64 G, .int .i64 1, .slice ad S.length cap]) A_rmach kR wU wU (by assumption) wU wU ?_); (try simp only [Act.put, pA, pB, pC])) | ((with_reducible refine wpB_load F_sliceM wU wU (by assumption) wU ?_); (try simp only [Act.put, pA, pB, pC])) | (((with_reducible refine wpB_idx2 0 E_ints F_int cInt1 wU (rfl) wU (hRr) oD oD (fun _ => wU) (fun _ => ?_)); (try simp only [Act.put, pA, pB, pC]); (try simp only [cInt])); rw [← HX.out]) | ((refine wpB_call (.bool true) wU (fun w' => ?_) (fun w' hw' => HC.out w') ?_); (focus (go_simp; done)); (try simp only [Act.put, pA, pB, pC])) |  ((with_reducible refine wpB_load (by first | exact F_int | exact F_u64s) wU wU (by assumption) wU ?_); (try simp only [Act.put, pA, pB, pC])) | ((refine wpQ_oneG ?_ wU (fun w' => ?_) ?_); rotate_left; (go_simp; rfl); (try simp only [Act.put, pA, pB, pC])))
           refine wpQuiet_nil ?_
           intro w4 hb4
           have hS4 := hSr.mono hb4
           have q4 := (hS4.blk 0 rfl).1
           have hR4 := hR.below hS4.b
           clear q1
           go_wp2_with fail
           refine wp_region_q kR kR ?_
           repeat (first | ((try simp only [hd]); ((with_reducible refine wpB_load F_sliceM wU wU (by assumption) wU ?_); (try simp only [Act.put, pA, pB, pC]))) | (((with_reducible refine wpB_idxW 0 E_ints F_int cInt1 wU (rfl) wU (hR4) oD oD (fun _ => wU) wU (fun _ => wU) (fun _ => ?_)); (try simp only [Act.put, pA, pB, pC]); (try simp only [cInt])); first | rw [← HX.out] | rw [← HY.out]) |  ((with_reducible refine wpB_load (by first | exact F_int | exact F_u64s) wU wU (by assumption) wU ?_); (try simp only [Act.put, pA, pB, pC])) | ((refine wpQ_oneG ?_ wU (fun w' => ?_) ?_); rotate_left; (go_simp; rfl); (try simp only [Act.put, pA, pB, pC])))
           refine wpQuiet_nil ?_
           intro w5 hb5
           go_wp2_with fail
           go_ret
           exact ⟨by rw [HE.out, HST.out]; rfl, bnext hS4.b hb5⟩
          ·rw [if_neg (fun h => hxy h.2)] at hst
           have HST := hid hst
           have hdx : decide (x ≤ y) = false := decide_eq_false hxy
           clear hst hk0
           go_wp2_with (with_reducible refine wpList_ldB F_sliceM wU wU q1 wU ?_)
           refine wp_region_q kR kR ?_
           repeat (first | ((with_reducible refine wpB_loadS (n := 4) (us := #[.bool false, .int .i64 G, .int .i64 1, .slice ad S.length cap]) A_rmach kR wU wU (by assumption) wU wU ?_); (try simp only [Act.put, pA, pB, pC])) | ((with_reducible refine wpB_load F_sliceM wU wU (by assumption) wU ?_); (try simp only [Act.put, pA, pB, pC])) | (((with_reducible refine wpB_idx2 0 E_ints F_int cInt1 wU (rfl) wU (hRr) oD oD (fun _ => wU) (fun _ => ?_)); (try simp only [Act.put, pA, pB, pC]); (try simp only [cInt])); rw [← HX.out]) | ((refine wpB_call (.bool true) wU (fun w' => ?_) (fun w' hw' => HC.out w') ?_); (focus (go_simp; done)); (try simp only [Act.put, pA, pB, pC])) |  ((with_reducible refine wpB_load (by first | exact F_int | exact F_u64s) wU wU (by assumption) wU ?_); (try simp only [Act.put, pA, pB, pC])) | ((refine wpQ_oneG ?_ wU (fun w' => ?_) ?_); rotate_left; (go_simp; rfl); (try simp only [Act.put, pA, pB, pC])))
           refine wpQuiet_nil ?_
           intro w4 hb4
           have hS4 := hSr.mono hb4
           have q4 := (hS4.blk 0 rfl).1
           have hR4 := hR.below hS4.b
           clear q1
           go_wp2_with fail
           refine wp_region_q kR kR ?_
           repeat (first | ((try simp only [hd]); ((with_reducible refine wpB_load F_sliceM wU wU (by assumption) wU ?_); (try simp only [Act.put, pA, pB, pC]))) | (((with_reducible refine wpB_idxW 0 E_ints F_int cInt1 wU (rfl) wU (hR4) oD oD (fun _ => wU) wU (fun _ => wU) (fun _ => ?_)); (try simp only [Act.put, pA, pB, pC]); (try simp only [cInt])); first | rw [← HX.out] | rw [← HY.out]) |  ((with_reducible refine wpB_load (by first | exact F_int | exact F_u64s) wU wU (by assumption) wU ?_); (try simp only [Act.put, pA, pB, pC])) | ((refine wpQ_oneG ?_ wU (fun w' => ?_) ?_); rotate_left; (go_simp; rfl); (try simp only [Act.put, pA, pB, pC])))
           refine wpQuiet_nil ?_
           intro w5 hb5
           have hS5 := hS4.mono hb5
           go_wp2_with fail
           exact ⟨⟨k + 1, by omega, by go_num, HST.out.symm, hS5⟩, by simp [intOf]; omega⟩
       ·have hkn : k = S.length := by omega
        subst hkn
        have he : E = 0 := by rw [HE.out, ← hgo, HSE.out]
        have HEE := hid he
        clear he hgo
        go_wp2_with (with_reducible refine wpList_ldB F_sliceM wU wU q1 wU ?_)
        go_ret
        exact ⟨by rw [HEE.out]; rfl, hSr.b⟩
     ·go_enter Tryz.func8, Tryz.ntmps8
      go_wp2_with fail
      refine (HO.out _).mono ?_
      rintro e w1 ⟨rfl, rfl⟩
      go_wp2_with fail
      go_loopw [3] (fun i wr => ∃ k : Nat, k ≤ S.length ∧ i = .int .i64 k ∧ sg k = sg 0 ∧ SL w.heap.size w wr [pBlk w.heap.size (.cells #[.bool false, .int .i64 G, .int .i64 (-1), .slice ad S.length cap] 25)]) (fun i _ => S.length - (intOf i).toNat)
      case atStart => exact ⟨0, by omega, rfl, rfl, hS⟩
      case round =>
       clear hS
       obtain ⟨k, hk, rfl, hgo, hSr⟩ := hrel
       have q1 := (hSr.blk 0 rfl).1
       have hRr := hR.below hSr.b
       by_cases hlt : k < S.length
       ·have hst := HSW.out k hlt
        rw [hgo] at hst
        obtain ⟨x, hx⟩ : ∃ x, x = atD 0 S k := ⟨_, rfl⟩
        rw [← hx] at hst
        obtain ⟨b, hb⟩ : ∃ b, b = sh x := ⟨_, rfl⟩
        have CS := fun w => HCS'.out x w
        rw [← hb] at hst CS
        have HX := hid hx; have HC := hid CS
        clear hx hb CS hgo
        cases b
        ·rw [if_pos rfl] at hst
         have HST := hid hst
         clear hst
         go_wp2_with (with_reducible refine wpList_ldB F_sliceM wU wU q1 wU ?_)
         refine wp_region_q kR kR ?_
         repeat (first | ((with_reducible refine wpB_loadS (n := 4) (us := #[.bool false, .int .i64 G, .int .i64 (-1), .slice ad S.length cap]) A_rmach kR wU wU (by assumption) wU wU ?_); (try simp only [Act.put, pA, pB, pC])) | ((with_reducible refine wpB_load F_sliceM wU wU (by assumption) wU ?_); (try simp only [Act.put, pA, pB, pC])) | (((with_reducible refine wpB_idx2 0 E_ints F_int cInt1 wU (rfl) wU (hRr) oD oD (fun _ => wU) (fun _ => ?_)); (try simp only [Act.put, pA, pB, pC]); (try simp only [cInt])); rw [← HX.out]) | ((refine wpB_call (.bool false) wU (fun w' => ?_) (fun w' hw' => HC.out w') ?_); (focus (go_simp; done)); (try simp only [Act.put, pA, pB, pC])) |  ((with_reducible refine wpB_load (by first | exact F_int | exact F_u64s) wU wU (by assumption) wU ?_); (try simp only [Act.put, pA, pB, pC])) | ((refine wpQ_oneG ?_ wU (fun w' => ?_) ?_); rotate_left; (go_simp; rfl); (try simp only [Act.put, pA, pB, pC])))
         refine wpQuiet_nil ?_
         intro w4 hb4
         go_wp2_with fail
         go_ret
         exact ⟨by rw [HE.out, HST.out]; rfl, bnext hSr.b hb4⟩
        ·rw [if_neg (by decide)] at hst
         by_cases hk0 : k = 0
         ·have hst2 : sg (k + 1) = sg 0 := by rw [hst, if_neg (by omega)]
          have hd : decide (0 < k) = false := by simp; omega
          have HST := hid hst2
          clear hst hst2 hk0
          go_wp2_with (with_reducible refine wpList_ldB F_sliceM wU wU q1 wU ?_)
          refine wp_region_q kR kR ?_
          repeat (first | ((with_reducible refine wpB_loadS (n := 4) (us := #[.bool false, .int .i64 G, .int .i64 (-1), .slice ad S.length cap]) A_rmach kR wU wU (by assumption) wU wU ?_); (try simp only [Act.put, pA, pB, pC])) | ((with_reducible refine wpB_load F_sliceM wU wU (by assumption) wU ?_); (try simp only [Act.put, pA, pB, pC])) | (((with_reducible refine wpB_idx2 0 E_ints F_int cInt1 wU (rfl) wU (hRr) oD oD (fun _ => wU) (fun _ => ?_)); (try simp only [Act.put, pA, pB, pC]); (try simp only [cInt])); rw [← HX.out]) | ((refine wpB_call (.bool true) wU (fun w' => ?_) (fun w' hw' => HC.out w') ?_); (focus (go_simp; done)); (try simp only [Act.put, pA, pB, pC])) |  ((with_reducible refine wpB_load (by first | exact F_int | exact F_u64s) wU wU (by assumption) wU ?_); (try simp only [Act.put, pA, pB, pC])) | ((refine wpQ_oneG ?_ wU (fun w' => ?_) ?_); rotate_left; (go_simp; rfl); (try simp only [Act.put, pA, pB, pC])))
          refine wpQuiet_nil ?_
          intro w4 hb4
          have hS4 := hSr.mono hb4
          have q4 := (hS4.blk 0 rfl).1
          go_wp2_with fail
          refine wp_region_q kR kR ?_
          repeat (first | ((try simp only [hd]); ((with_reducible refine wpQ_skip wU ?_); (try simp only [Act.put, pA, pB, pC]))) |  ((with_reducible refine wpB_load (by first | exact F_int | exact F_u64s) wU wU (by assumption) wU ?_); (try simp only [Act.put, pA, pB, pC])) | ((refine wpQ_oneG ?_ wU (fun w' => ?_) ?_); rotate_left; (go_simp; rfl); (try simp only [Act.put, pA, pB, pC])))
          refine wpQuiet_nil ?_
          intro w5 hb5
          have hS5 := hS4.mono hb5
          go_wp2_with fail
          exact ⟨⟨k + 1, by omega, by go_num, HST.out, hS5⟩, by simp [intOf]; omega⟩
         ·have hd : decide (0 < k) = true := by simp; omega
          have hk1 : 0 ≤ (k : Int) - 1 ∧ (k : Int) - 1 < S.length := by omega
          have hwk : IntKind.i64.wrap ((k : Int) - 1) = (k : Int) - 1 := IntWalk.i64_in _ (by omega)
          obtain ⟨y, hy⟩ : ∃ y, y = atD 0 S ((k : Int) - 1) := ⟨_, rfl⟩
          rw [← hy] at hst
          have HY := hid hy
          clear hy
          by_cases hxy : x ≤ y
          ·rw [if_pos ⟨by omega, hxy⟩] at hst
           have HST := hid hst
           have hdx : decide (x ≤ y) = true := decide_eq_true hxy
           clear hst hk0
           go_wp2_with (with_reducible refine wpList_ldB F_sliceM wU wU q1 wU ?_)
           refine wp_region_q kR kR ?_
           repeat (first | ((with_reducible refine wpB_loadS (n := 4) (us := #[.bool false, .int .i64 G, .int .i64 (-1), .slice ad S.length cap]) A_rmach kR wU wU (by assumption) wU wU ?_); (try simp only [Act.put, pA, pB, pC])) | ((with_reducible refine wpB_load F_sliceM wU wU (by assumption) wU ?_); (try simp only [Act.put, pA, pB, pC])) | (((with_reducible refine wpB_idx2 0 E_ints F_int cInt1 wU (rfl) wU (hRr) oD oD (fun _ => wU) (fun _ => ?_)); (try simp only [Act.put, pA, pB, pC]); (try simp only [cInt])); rw [← HX.out]) | ((refine wpB_call (.bool true) wU (fun w' => ?_) (fun w' hw' => HC.out w') ?_); (focus (go_simp; done)); (try simp only [Act.put, pA, pB, pC])) |  ((with_reducible refine wpB_load (by first | exact F_int | exact F_u64s) wU wU (by assumption) wU ?_); (try simp only [Act.put, pA, pB, pC])) | ((refine wpQ_oneG ?_ wU (fun w' => ?_) ?_); rotate_left; (go_simp; rfl); (try simp only [Act.put, pA, pB, pC])))
           refine wpQuiet_nil ?_
           intro w4 hb4
           have hS4 := hSr.mono hb4
           have q4 := (hS4.blk 0 rfl).1
           have hR4 := hR.below hS4.b
           clear q1
           go_wp2_with fail
           refine wp_region_q kR kR ?_
           repeat (first | ((try simp only [hd]); ((with_reducible refine wpB_load F_sliceM wU wU (by assumption) wU ?_); (try simp only [Act.put, pA, pB, pC]))) | (((with_reducible refine wpB_idxW 0 E_ints F_int cInt1 wU (rfl) wU (hR4) oD oD (fun _ => wU) wU (fun _ => wU) (fun _ => ?_)); (try simp only [Act.put, pA, pB, pC]); (try simp only [cInt])); first | rw [← HX.out] | rw [← HY.out]) |  ((with_reducible refine wpB_load (by first | exact F_int | exact F_u64s) wU wU (by assumption) wU ?_); (try simp only [Act.put, pA, pB, pC])) | ((refine wpQ_oneG ?_ wU (fun w' => ?_) ?_); rotate_left; (go_simp; rfl); (try simp only [Act.put, pA, pB, pC])))
           refine wpQuiet_nil ?_
           intro w5 hb5
           go_wp2_with fail
           go_ret
           exact ⟨by rw [HE.out, HST.out]; rfl, bnext hS4.b hb5⟩
          ·rw [if_neg (fun h => hxy h.2)] at hst
           have HST := hid hst
           have hdx : decide (x ≤ y) = false := decide_eq_false hxy
           clear hst hk0
           go_wp2_with (with_reducible refine wpList_ldB F_sliceM wU wU q1 wU ?_)
           refine wp_region_q kR kR ?_
           repeat (first | ((with_reducible refine wpB_loadS (n := 4) (us := #[.bool false, .int .i64 G, .int .i64 (-1), .slice ad S.length cap]) A_rmach kR wU wU (by assumption) wU wU ?_); (try simp only [Act.put, pA, pB, pC])) | ((with_reducible refine wpB_load F_sliceM wU wU (by assumption) wU ?_); (try simp only [Act.put, pA, pB, pC])) | (((with_reducible refine wpB_idx2 0 E_ints F_int cInt1 wU (rfl) wU (hRr) oD oD (fun _ => wU) (fun _ => ?_)); (try simp only [Act.put, pA, pB, pC]); (try simp only [cInt])); rw [← HX.out]) | ((refine wpB_call (.bool true) wU (fun w' => ?_) (fun w' hw' => HC.out w') ?_); (focus (go_simp; done)); (try simp only [Act.put, pA, pB, pC])) |  ((with_reducible refine wpB_load (by first | exact F_int | exact F_u64s) wU wU (by assumption) wU ?_); (try simp only [Act.put, pA, pB, pC])) | ((refine wpQ_oneG ?_ wU (fun w' => ?_) ?_); rotate_left; (go_simp; rfl); (try simp only [Act.put, pA, pB, pC])))
           refine wpQuiet_nil ?_
           intro w4 hb4
           have hS4 := hSr.mono hb4
           have q4 := (hS4.blk 0 rfl).1
           have hR4 := hR.below hS4.b
           clear q1
           go_wp2_with fail
           refine wp_region_q kR kR ?_
           repeat (first | ((try simp only [hd]); ((with_reducible refine wpB_load F_sliceM wU wU (by assumption) wU ?_); (try simp only [Act.put, pA, pB, pC]))) | (((with_reducible refine wpB_idxW 0 E_ints F_int cInt1 wU (rfl) wU (hR4) oD oD (fun _ => wU) wU (fun _ => wU) (fun _ => ?_)); (try simp only [Act.put, pA, pB, pC]); (try simp only [cInt])); first | rw [← HX.out] | rw [← HY.out]) |  ((with_reducible refine wpB_load (by first | exact F_int | exact F_u64s) wU wU (by assumption) wU ?_); (try simp only [Act.put, pA, pB, pC])) | ((refine wpQ_oneG ?_ wU (fun w' => ?_) ?_); rotate_left; (go_simp; rfl); (try simp only [Act.put, pA, pB, pC])))
           refine wpQuiet_nil ?_
           intro w5 hb5
           have hS5 := hS4.mono hb5
           go_wp2_with fail
           exact ⟨⟨k + 1, by omega, by go_num, HST.out.symm, hS5⟩, by simp [intOf]; omega⟩
       ·have hkn : k = S.length := by omega
        subst hkn
        have he : E = 0 := by rw [HE.out, ← hgo, HSE.out]
        have HEE := hid he
        clear he hgo
        go_wp2_with (with_reducible refine wpList_ldB F_sliceM wU wU q1 wU ?_)
        go_ret
        exact ⟨by rw [HEE.out]; rfl, hSr.b⟩
end Go.Proofs.YtndmeaoidihikaaGreatDoor

namespace Go.Proofs.YtndmeaoidihikaaGreatDoor
set_option maxRecDepth 100000

theorem over_par {m : MacV} {s : Int} (h0 : 0 ≤ s) (h1 : s < 4 * m.gears) : overM m s % 2 = s % 2 := by
 by_cases h : s % 2 = 0
 ·rcases over_cases h0 h1 with ⟨_, e⟩ | ⟨_, _, _, _, _, e⟩
  ·rw [e]
  ·rw [e]; omega
 ·rw [over_odd h]
/-- a step leaves no slot where it is. -/
theorem next_ne {m : MacV} {s : Int} (h0 : 0 ≤ s) (h1 : s < 4 * m.gears) : nextM m s ≠ s := by
 intro e
 obtain ⟨a, b, _, d⟩ := rot_rng (m := m) h0 h1
 have h := over_par (m := m) a b
 unfold nextM at e
 rw [e] at h
 split at d <;> omega

theorem path_at {p : List Int} (hp : IsP p) {q : List Int} (h : q ∈ cycK p p.length) {i : Nat} (hi : i < q.length) :
  (0 ≤ atD 0 q i ∧ atD 0 q i < p.length) ∧ atD 0 p (atD 0 q i) = atD 0 q ((((i + 1) % q.length : Nat)) : Int) := by
 obtain ⟨j, hj, rfl⟩ := cycK_orb hp (Nat.le_refl _) q h
 obtain ⟨d, hd⟩ := ord_ex hp (i := (j : Int)) (by omega) (by omega)
 have hl := orb_len hd
 have hq := orb_eq hd
 have at_ : ∀ k, k < d → atD 0 (orb p j) (k : Int) = itP p j k := by
  intro k hk
  rw [hq]
  simp [atD, hk]
 rw [hl] at hi ⊢
 rw [at_ i hi]
 refine ⟨itP_rng hp (by omega) (by omega) i, ?_⟩
 rw [at_ _ (Nat.mod_lt _ hd.pos)]
 by_cases e : i + 1 = d
 ·rw [e, Nat.mod_self]
  have := hd.back
  rw [← e] at this
  exact this
 ·rw [Nat.mod_eq_of_lt (by omega)]; rfl
theorem flat_new {ls : List (List Int)} (hn : ls.flatten.Nodup) {j : Nat} (hj : j < ls.length) {i : Nat} (hi : i < ls[j].length) : atD 0 ls[j] i ∉ (ls.take j).flatten ++ ls[j].take i := by
 have e : ls = ls.take j ++ ls[j] :: ls.drop (j + 1) := by
  conv => lhs; rw [← List.take_append_drop j ls]
  rw [List.drop_eq_getElem_cons hj]
 have hn2 : ((ls.take j).flatten ++ (ls[j] ++ (ls.drop (j + 1)).flatten)).Nodup := by
  rw [e, List.flatten_append, List.flatten_cons] at hn
  exact hn
 have ea : atD 0 ls[j] i = ls[j][i] := by simp [atD, hi]
 rw [ea]
 have h1 := List.nodup_append.1 hn2
 have h2 := List.nodup_append.1 h1.2.1
 intro hm
 rcases List.mem_append.1 hm with hm | hm
 ·exact h1.2.2 _ hm _ (List.mem_append_left _ (List.getElem_mem hi)) rfl
 ·obtain ⟨k, hk, ek⟩ := List.mem_iff_getElem.1 hm
  rw [List.length_take] at hk
  rw [List.getElem_take] at ek
  have := (List.getElem_inj h2.1).1 ek
  omega
theorem flat_take {ls : List (List Int)} {j : Nat} (hj : j < ls.length) : (ls.take (j + 1)).flatten = (ls.take j).flatten ++ ls[j] := by
 rw [List.take_succ_eq_append_getElem hj, List.flatten_append]; simp
theorem cyc_all_len {p : List Int} (hp : IsP p) : ((cycK p p.length).map List.length).sum = p.length := by
 refine Nat.le_antisymm (cycK_sum hp (Nat.le_refl _)) ?_
 rw [← List.length_flatten]
 have h := nodup_sub_len (l := (List.range p.length).map fun (k : Nat) => (k : Int)) (r := (cycK p p.length).flatten) ?_ ?_
 ·simpa using h
 ·rw [List.nodup_iff_pairwise_ne, List.pairwise_map]
  exact (List.nodup_iff_pairwise_ne.1 List.nodup_range).imp fun {a b} h e => h (by omega)
 ·intro x hx
  obtain ⟨k, hk, rfl⟩ := List.mem_map.1 hx
  exact cycK_all hp (Nat.le_refl _) k (List.mem_range.1 hk)
theorem path_dvd {p : List Int} {q : List Int} (h : q ∈ cycK p p.length) : q.length ∣ periodN p := by
 have := (perF_dvd (periodN p) ((cycK p p.length).map List.length) 1).1 (Nat.dvd_refl _)
 exact this.2 _ (List.mem_map.2 ⟨q, h, rfl⟩)

theorem swGo_ok (m : MacV) : ∀ (l : List Int) (o : Option Int), (∀ x ∈ l, sharedM m x = true) → l.Pairwise (· < ·) → (∀ b, o = some b → ∀ x ∈ l, b < x) → swGo m o l = 0
 | [], o, _, _, _ => by cases o <;> rfl
 | s :: r, o, h1, h2, h3 => by
   obtain ⟨p1, p2⟩ := List.pairwise_cons.1 h2
   have ih := swGo_ok m r (some s) (fun x hx => h1 x (by simp [hx])) p2 (fun b hb x hx => by cases hb; exact p1 x hx)
   have hs := h1 s (by simp)
   cases o with
   | none => rw [swGo, hs, if_neg (by decide)]; exact ih
   | some b =>
     have hb := h3 b rfl s (by simp)
     rw [swGo, hs, if_neg (by decide)]
     rw [if_neg (by omega)]
     exact ih
theorem swGo_asc (m : MacV) : ∀ (l : List Int) (o : Option Int), swGo m o l = 0 → (∀ x ∈ l, sharedM m x = true) ∧ l.Pairwise (· < ·) ∧ (∀ b, o = some b → ∀ x ∈ l, b < x)
 | [], o, _ => ⟨fun x hx => absurd hx (by simp), List.Pairwise.nil, fun b _ x hx => absurd hx (by simp)⟩
 | s :: r, o, h => by
   unfold swGo at h
   cases hs : sharedM m s with
   | false => rw [hs] at h; simp at h
   | true =>
     rw [hs, if_neg (by decide)] at h
     have hr : swGo m (some s) r = 0 ∧ ∀ b, o = some b → b < s := by
       cases o with
       | none => exact ⟨h, fun b hb => by cases hb⟩
       | some b =>
         simp only at h
         split at h
         · omega
         · exact ⟨h, fun b hb => by cases hb; omega⟩
     obtain ⟨q1, q2, q3⟩ := swGo_asc m r (some s) hr.1
     refine ⟨fun x hx => ?_, List.pairwise_cons.2 ⟨q3 s rfl, q2⟩, fun b hb x hx => ?_⟩
     · rcases List.mem_cons.1 hx with rfl | hx
       · exact hs
       · exact q1 x hx
     · have h1 := hr.2 b hb
       rcases List.mem_cons.1 hx with rfl | hx
       · exact h1
       · have := q3 s rfl x hx; omega
theorem with_ok {m : MacV} (hm : macE m = 0) {s : List Int} (h1 : ∀ x ∈ s, sharedM m x = true) (h2 : s.Pairwise (· < ·)) : macE (withS m s) = 0 := by
 obtain ⟨hok, _⟩ := macE_zero hm
 have hlo := hok.lo
 have hhi := hok.hi
 have hle : s.length ≤ m.gears.toNat := nodup_le m.gears.toNat s (asc_nodup h2) fun x hx => by
  obtain ⟨a, b, _⟩ := shared_iff.1 (h1 x hx)
  omega
 have hg : swGo (withS m s) none s = swGo m none s := by
  have key : ∀ (l : List Int) (o : Option Int), swGo (withS m s) o l = swGo m o l := by
   intro l
   induction l with
   | nil => intro o; cases o <;> rfl
   | cons x r ih =>
    intro o
    have hs : sharedM (withS m s) x = sharedM m x := rfl
    cases o with
    | none => rw [swGo, swGo, hs, ih]
    | some b => rw [swGo, swGo, hs, ih]
  exact key s none
 unfold macE
 show (if m.gears < 1 ∨ 16 < m.gears then (3 : Int) else if m.ring = true ∧ m.gears % 2 = 1 then 17 else if m.turn ≠ 1 ∧ m.turn ≠ -1 then 3 else if m.gears < s.length then 5 else swGo (withS m s) none s) = 0
 rw [if_neg (by omega), if_neg (by intro h; have := hok.even h.1; omega), if_neg (by have := hok.turn; omega), if_neg (by omega), hg]
 exact swGo_ok m s none h1 h2 (fun b hb => by cases hb)
/-- without one place. -/
def lessS (l : List Int) (p : Int) : List Int := l.filter (· != p)
theorem less_mem {l : List Int} {p x : Int} : x ∈ lessS l p ↔ x ∈ l ∧ x ≠ p := by unfold lessS; simp [List.mem_filter]
theorem lessS_step {l : List Int} {p : Int} {k : Nat} (h : k < l.length) : lessS (l.take (k + 1)) p = lessS (l.take k) p ++ (if atD 0 l k = p then [] else [atD 0 l k]) := by
 unfold lessS
 rw [take_snoc h, List.filter_append]
 by_cases e : atD 0 l k = p <;> simp [e]
/-- one number, if it is the wanted one. -/
def oneS (i p : Int) : List Int := if i = p then [i] else []
/-- a place more: number by number. -/
def moreS (l : List Int) (p : Int) (k : Nat) : List Int := (List.range k).flatMap fun (i : Nat) => oneS i p ++ l.filter (fun x => x == (i : Int))
theorem moreS_step (l : List Int) (p : Int) (k : Nat) : moreS l p (k + 1) = moreS l p k ++ (oneS k p ++ l.filter (fun x => x == (k : Int))) := by
 unfold moreS; rw [List.range_succ, List.flatMap_append]; simp
theorem moreS_mem {l : List Int} {p : Int} : ∀ {k : Nat} {x : Int}, x ∈ moreS l p k ↔ (0 ≤ x ∧ x < k) ∧ (x = p ∨ x ∈ l)
 | 0, x => by simp [moreS]; omega
 | k + 1, x => by
   rw [moreS_step, List.mem_append, moreS_mem, List.mem_append]
   unfold oneS
   constructor
   · rintro (⟨h1, h2⟩ | h | h)
     · exact ⟨by omega, h2⟩
     · split at h
       · rename_i e
         simp only [List.mem_singleton] at h
         subst h
         exact ⟨by omega, .inl e⟩
       · cases h
     · obtain ⟨a, b⟩ := List.mem_filter.1 h
       have : x = (k : Int) := by simpa using b
       exact ⟨by omega, .inr a⟩
   · rintro ⟨h1, h2⟩
     by_cases e : x = (k : Int)
     · rcases h2 with h2 | h2
       · refine .inr (.inl ?_)
         rw [if_pos (by omega)]; simp [e]
       · exact .inr (.inr (List.mem_filter.2 ⟨h2, by simp [e]⟩))
     · exact .inl ⟨by omega, h2⟩
theorem filt_one {l : List Int} (hn : l.Nodup) (i : Int) : l.filter (fun x => x == i) = if i ∈ l then [i] else [] := by
 induction l with
 | nil => simp
 | cons y r ih =>
  obtain ⟨h1, h2⟩ := List.nodup_cons.1 hn
  rw [List.filter_cons, ih h2]
  by_cases e : y = i
  ·subst e
   simp [h1]
  ·have e2 : ¬ i = y := fun h => e h.symm
   simp [e, e2]
theorem moreS_asc {l : List Int} {p : Int} (hn : l.Nodup) (hp : p ∉ l) : ∀ k : Nat, (moreS l p k).Pairwise (· < ·)
 | 0 => by simp [moreS]
 | k + 1 => by
   rw [moreS_step, List.pairwise_append]
   refine ⟨moreS_asc hn hp k, ?_, fun x hx y hy => ?_⟩
   · rw [filt_one hn]
     unfold oneS
     by_cases e : (k : Int) = p
     · rw [if_pos e, if_neg (by rw [e]; exact hp)]; simp
     · rw [if_neg e]; split <;> simp
   · have h1 := (moreS_mem.1 hx).1
     have : y = (k : Int) := by
       rcases List.mem_append.1 hy with h | h
       · unfold oneS at h; split at h
         · simpa using h
         · cases h
       · have := (List.mem_filter.1 h).2; simpa using this
     omega
/-- a switch is taken away, or set. -/
theorem less_paths {m : MacV} (hm : macE m = 0) {p : Int} (hsh : sharedM m p = true) (hp : p ∈ m.sw) : macE (withS m (lessS m.sw p)) = 0 ∧
  ((cycK (permM (withS m (lessS m.sw p))) (permM (withS m (lessS m.sw p))).length).length = (cycK (permM m) (permM m).length).length + 1 ∨ (cycK (permM m) (permM m).length).length = (cycK (permM (withS m (lessS m.sw p))) (permM (withS m (lessS m.sw p))).length).length + 1) := by
 obtain ⟨q1, q2, _⟩ := swGo_asc m m.sw none (macE_zero hm).2
 refine ⟨with_ok hm (fun x hx => q1 x (less_mem.1 hx).1) (q2.sublist (List.filter_sublist)), with_count hsh (fun x hx => ?_) ?_⟩
 ·rw [Bool.eq_iff_iff, List.contains_iff_mem, List.contains_iff_mem, less_mem]
  exact ⟨fun h => h.1, fun h => ⟨h, hx⟩⟩
 ·have h1 : (lessS m.sw p).contains p = false := by
   rw [Bool.eq_false_iff]; intro h; exact (less_mem.1 (List.contains_iff_mem.1 h)).2 rfl
  rw [h1, List.contains_iff_mem.2 hp]; rfl
theorem more_paths {m : MacV} (hm : macE m = 0) {p : Int} (hsh : sharedM m p = true) (hp : p ∉ m.sw) : macE (withS m (moreS m.sw p (m.gears + 1).toNat)) = 0 ∧
  ((cycK (permM (withS m (moreS m.sw p (m.gears + 1).toNat))) (permM (withS m (moreS m.sw p (m.gears + 1).toNat))).length).length = (cycK (permM m) (permM m).length).length + 1 ∨ (cycK (permM m) (permM m).length).length = (cycK (permM (withS m (moreS m.sw p (m.gears + 1).toNat))) (permM (withS m (moreS m.sw p (m.gears + 1).toNat))).length).length + 1) := by
 obtain ⟨q1, q2, _⟩ := swGo_asc m m.sw none (macE_zero hm).2
 have hn := asc_nodup q2
 have rng : ∀ x, sharedM m x = true → 0 ≤ x ∧ x < ((m.gears + 1).toNat : Int) := fun x hx => by
  obtain ⟨a, b, _⟩ := shared_iff.1 hx
  omega
 have mem : ∀ x, x ∈ moreS m.sw p (m.gears + 1).toNat ↔ (x = p ∨ x ∈ m.sw) := fun x => by
  rw [moreS_mem]
  refine ⟨fun h => h.2, fun h => ⟨?_, h⟩⟩
  rcases h with h | h
  ·rw [h]; exact rng p hsh
  ·exact rng x (q1 x h)
 refine ⟨with_ok hm (fun x hx => ?_) (moreS_asc hn hp _), with_count hsh (fun x hx => ?_) ?_⟩
 ·rcases (mem x).1 hx with h | h
  ·rw [h]; exact hsh
  ·exact q1 x h
 ·rw [Bool.eq_iff_iff, List.contains_iff_mem, List.contains_iff_mem, mem]
  refine ⟨fun h => ?_, fun h => .inr h⟩
  rcases h with h | h
  ·exact absurd h hx
  ·exact h
 ·have h1 : m.sw.contains p = false := by
   rw [Bool.eq_false_iff]; intro h; exact hp (List.contains_iff_mem.1 h)
  rw [h1, List.contains_iff_mem.2 ((mem p).2 (.inl rfl))]; rfl
end Go.Proofs.YtndmeaoidihikaaGreatDoor

namespace Go.Proofs.YtndmeaoidihikaaGreatDoor
open Go.RowKit
set_option maxHeartbeats 8000000
set_option maxRecDepth 100000
theorem rIsWhole_any (p : Nat) (w : World) (hp : p < 1000000000) :
  Calls Tryz.prog 14 #[.string (itoaB p)] w fun r w' => r = .returned (.bool true) ∧ Below w.heap.size w w' := by
 have hz := (itoaB_len hp).1
 have hs : SlashAt (itoaB (p : Int)) (itoaB (p : Int)).size := by
  have := textQ_slash p 1
  rw [textQ_one] at this
  exact this
 have CS := fun w => rslash_any (itoaB (p : Int)) _ w hs (by omega)
 obtain ⟨s, hs2⟩ : ∃ s, s = itoaB (p : Int) := ⟨_, rfl⟩
 rw [← hs2] at CS hz ⊢
 have HS := hid CS
 clear CS hs hs2
 go_enter Tryz.func14, Tryz.ntmps14
 go_wp2_with fail
 refine (HS.out _).mono ?_
 rintro e w1 ⟨rfl, rfl⟩
 go_wp2_with fail
 go_ret
 exact ⟨rfl, Below.refl _ _⟩
end Go.Proofs.YtndmeaoidihikaaGreatDoor

namespace Go.Proofs.YtndmeaoidihikaaGreatDoor
open Go.RowKit
set_option maxHeartbeats 4000000
set_option maxRecDepth 100000
theorem leads_of {B : Nat} {w0 w : World} {t : TypeId} {v : Value} {qs : List (SlH × List Int)} (h : SL B w0 w (pOwn cSl 1 t v (qs.map Prod.fst) :: qs.map inP)) (hb : ∀ x ∈ qs.map Prod.snd, x.length ≤ 1048576) :
  ∃ a c, v = .slice a qs.length c ∧ Reps cSl 1 w a c (qs.map Prod.fst) ∧ LeadsTo w (qs.map Prod.fst) (qs.map Prod.snd) := by
 obtain ⟨a, c, hv, hr⟩ := h.slice 0 rfl
 rw [List.length_map] at hv
 refine ⟨a, c, hv, hr, fun k hk => ?_⟩
 rw [List.length_map] at hk
 have e1 : atD ((none, 0, 0) : SlH) (qs.map Prod.fst) k = (qs[k]).1 := by simp [atD, hk]
 have e2 : atD [] (qs.map Prod.snd) k = (qs[k]).2 := by simp [atD, hk]
 have ho := h.own (c := cInt) (sz := 1) (e := 3) (v := cSl (qs[k]).1) (l := (qs[k]).2) (k + 1) (by simp [hk, inP])
 obtain ⟨a2, c2, ex, hr2, _, _⟩ := ho.reps
 have hm : (qs[k]).2 ∈ qs.map Prod.snd := List.mem_map.2 ⟨qs[k], List.getElem_mem hk, rfl⟩
 obtain ⟨q, hq⟩ : ∃ q, q = qs[k] := ⟨_, rfl⟩
 rw [← hq] at e1 e2 ex hr2 hm
 obtain ⟨⟨x1, x2, x3⟩, ql⟩ := q
 have ex2 : x1 = a2 ∧ x2 = ql.length ∧ x3 = c2 := by simpa [cSl] using ex
 obtain ⟨rfl, rfl, rfl⟩ := ex2
 rw [e1, e2]
 refine ⟨_, _, rfl, hr2, ?_⟩
 exact hb _ hm
theorem mem_le_sum : ∀ {l : List Nat} {x : Nat}, x ∈ l → x ≤ l.sum
 | y :: r, x, h => by
   rw [List.sum_cons]
   rcases List.mem_cons.1 h with e | e
   · omega
   · have := mem_le_sum e; omega
theorem cycK_le {p : List Int} (hp : IsP p) {x : List Int} (h : x ∈ cycK p p.length) : x.length ≤ p.length := by
 have h1 := mem_le_sum (List.mem_map.2 ⟨x, h, rfl⟩ : x.length ∈ (cycK p p.length).map List.length)
 have h2 := cycK_sum hp (Nat.le_refl p.length)
 omega
end Go.Proofs.YtndmeaoidihikaaGreatDoor

namespace Go.Proofs.YtndmeaoidihikaaGreatDoor
open Go.RowKit
set_option maxHeartbeats 8000000
set_option maxRecDepth 100000
theorem swGo_shared (m : MacV) : ∀ (l : List Int) (o : Option Int), swGo m o l = 0 → ∀ x ∈ l, sharedM m x = true
 | [], _, _, x, hx => by cases hx
 | s :: r, o, h, x, hx => by
   unfold swGo at h
   cases hs : sharedM m s with
   | false => rw [hs] at h; simp at h
   | true =>
     rw [hs, if_neg (by decide)] at h
     have hr : ∃ o2, swGo m o2 r = 0 := by
       cases o with
       | none => exact ⟨_, h⟩
       | some b =>
         simp only at h
         split at h
         · omega
         · exact ⟨_, h⟩
     obtain ⟨o2, hr⟩ := hr
     rcases List.mem_cons.1 hx with rfl | hx
     · exact hs
     · exact swGo_shared m r o2 hr x hx
end Go.Proofs.YtndmeaoidihikaaGreatDoor

namespace Go.Proofs.YtndmeaoidihikaaGreatDoor
open Go.RowKit
set_option maxHeartbeats 8000000
set_option maxRecDepth 100000
/-- a number of a list, up to a place. -/
theorem take_has {l : List Int} {s : Int} {j : Nat} (h : j < l.length) : decide (s ∈ l.take (j + 1)) = (decide (s ∈ l.take j) || (atD 0 l j == s)) := by
 rw [take_snoc h]
 by_cases h1 : s ∈ l.take j
 ·rw [decide_eq_true h1, decide_eq_true (List.mem_append_left _ h1)]; rfl
 ·rw [decide_eq_false h1]
  by_cases h2 : atD 0 l j = s
  ·rw [decide_eq_true (List.mem_append_right _ (by rw [h2]; simp))]; simp [h2]
  ·rw [decide_eq_false]
   ·simp [h2]
   ·intro hm
    rcases List.mem_append.1 hm with hm | hm
    ·exact h1 hm
    ·simp at hm; exact h2 hm.symm
end Go.Proofs.YtndmeaoidihikaaGreatDoor
