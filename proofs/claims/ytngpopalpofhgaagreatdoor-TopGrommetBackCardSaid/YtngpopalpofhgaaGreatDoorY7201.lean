/- Contracts and plain facts that the claim uses (MemA PlA SlA RA RE McA CyA RoA RlB RF NfP NfQ NfR BrB MxA RyA RtM SpB OpC LwA NfS NfT NfU). Conditions: as each one states. -/
import Derived.WalkKit
import Derived.WalkSpells
import Derived.Maps.AppendAt
import Derived.Deep.Quiet
import Derived.Test.YtngpopalpofhgaaGreatDoorProg
import Derived.Maps.Own
import Derived.Maps.OwnSet
import Derived.Maps.Views
import Derived.WalkLawsBesides
import Derived.Laws.EntriesVeiled
import Derived.RangeFuncNested
import Derived.RangeFuncBound
import Derived.RangeFuncCalls
import Derived.RangeFuncLeaves
import Derived.RangeFuncFrom
import Derived.Shelf.Abstract
import Derived.Shelf.RegionOpen
import Derived.OwnWalkIn
import Derived.TacticsInMore
import Derived.LoopNIn
import Derived.LoopIn
import Derived.Deep.QuietTactic
import Derived.BigQuiet
import Derived.Shelf.Strings.Trim
import Derived.Shelf.Strings.SlTrimAscii
import Derived.Shelf.Strings.Repeat
import Derived.Shelf.Strings.OnBuilder
import Derived.Shelf.Strconv.Itoa1
import Derived.Shelf.Strconv.Itoa3
import Derived.Shelf.LaysM
import Derived.Ground.Names2Prog
import Derived.Lib.OthersKept
import Derived.Deep.RegionHeld3
import Derived.Deep.AppendLies
import Derived.Deep.RegionHeldLaw
import Derived.Deep.RegionLaw
import Derived.IntWalk
import Derived.Sort.LoopGhostIn
import Derived.StillTail
import Derived.Laws.Tables
import Derived.Laws.CopyOwn
import Derived.BigRegion
import Derived.ChangeAlike
import Derived.Shelf.Bits.Mul64
import Derived.Lib.ItoaLen
import Derived.Lib.ItoaMem
import Derived.Maps.RangeWalk
import Derived.Maps.Ext
import Derived.ReadAgain
import Derived.ChangeSlices
import Derived.Lib.SmallJoins
import Derived.OpenShut
import Derived.ProofKit
import Derived.Deep.DeepHandedRow
import Derived.Deep.SlicePairs
import Derived.Test.YtngpopalpofhgaaGreatDoorCards
import Derived.Test.YtngpopalpofhgaaGreatDoorTie
import Derived.Test.YtngpopalpofhgaaGreatDoorXz01
import Derived.Test.YtngpopalpofhgaaGreatDoorXz02
import Derived.Test.YtngpopalpofhgaaGreatDoorXz03
import Derived.Test.YtngpopalpofhgaaGreatDoorXz04
import Derived.Test.YtngpopalpofhgaaGreatDoorXz05
import Derived.Test.YtngpopalpofhgaaGreatDoorXz06
import Derived.Test.YtngpopalpofhgaaGreatDoorXz07
import Derived.Test.YtngpopalpofhgaaGreatDoorXz08
import Derived.Test.YtngpopalpofhgaaGreatDoorXz09
set_option linter.all false

namespace Go.Proofs.YtngpopalpofhgaaGreatDoor
open Go.RowKit
section
variable {α : Type} {c : α → Value} {sz : Nat} {w w' : World} {a : Option Addr} {cap : Nat} {l : List α}
end

section
variable {P : Program} {ops : Array Oper} {rest : List Oper} {a : Act} {Q : Exit → Act → World → Prop} {α : Type} {c : α → Value} {sz bytes : Nat} {t e : TypeId} {z : Value} {ad : Option Addr} {cap : Nat} {l : List α} {k : Int}
 {d1 d2 : Tmp} {ty1 ty2 : TypeId} {p1 p2 : String} {s x : Operand} {af1 af2 : Array Edge}

end
end Go.Proofs.YtngpopalpofhgaaGreatDoor

namespace Go.Proofs.YtngpopalpofhgaaGreatDoor
open Go.RowKit

section
variable {P : Program} {α : Type} {c : α → Value} {sz bytes B : Nat} {t e : TypeId} {z v : Value} {w w' : World} {l : List α}

theorem run_bounds {n cap i j : Nat} {lo hi : Option Value} (hlo : lo = some (.int .i64 i) ∨ lo = none ∧ i = 0) (hhi : hi = some (.int .i64 j) ∨ hi = none ∧ j = n) (hij : i ≤ j) (hj : j ≤ cap) :
   (Instr.sliceBounds true n cap lo hi none).run P w = .ok (i, j, cap) w := by
 have q0 : (0 : Int) ≤ (i : Int) := by omega
 have q1 : (0 : Int) ≤ (j : Int) := by omega
 have b1 : ∀ m : Nat, (m : Int) ≤ j ∨ True := fun _ => .inr trivial
 have r1 : ∀ c, (Instr.sliceBound (.int .i64 i) j c).run P w = .ok i w := fun c => by rw [run_sliceBound _ _ _ _ _ q0 (by omega)]; simp
 have r2 : ∀ c, (Instr.sliceBound (.int .i64 j) cap c).run P w = .ok j w := fun c => by rw [run_sliceBound _ _ _ _ _ q1 (by omega)]; simp
 rcases hlo with rfl | ⟨rfl, rfl⟩ <;> rcases hhi with rfl | ⟨rfl, rfl⟩ <;> simp [Instr.sliceBounds, r1, r2]

/-- 's[lo:hi]' of a readable slice. -/
theorem run_cut {a : Option Addr} {cap : Nat} (E : ETy P t e z sz bytes) (hR : Reps c sz w a cap l) (lo hi : Option Value) (i j : Nat) (hlo : lo = some (.int .i64 i) ∨ lo = none ∧ i = 0) (hhi : hi = some (.int .i64 j) ∨ hi = none ∧ j = l.length) (hij : i ≤ j) (hj : j ≤ l.length) :
   ∃ a', (Instr.sliceAt t (.slice a l.length cap) lo hi none).run P w = .ok (.slice a' (j - i) (cap - i)) w ∧ Reps c sz w a' (cap - i) ((l.take j).drop i) ∧ (∀ b, a' = some b → ∃ b0, a = some b0 ∧ b.block = b0.block) := by
 have hle := hR.le
 obtain ⟨inf, hinf, _, hs, _⟩ := info_parts E.inf
 have hlen : ((l.take j).drop i).length = j - i := by simp; omega
 refine ⟨if cap = i then a else a.map (·.add (i * sz)), ?_, ⟨hR.1, ?_⟩, ?_⟩
 ·simp [Instr.sliceAt, run_underlying E.und, Instr.slice, run_bounds hlo hhi hij (Nat.le_trans hj hle), sizeOf, typeInfo, hinf, hs]
 ·obtain ⟨h1, h2, h3, h4⟩ := hR.2
  have hg : ∀ x, ((c x).cells.toList).length = sz := fun x => by simpa using hR.1 x
  have hdrop : ∀ (l : List α) (i : Nat), ((l.drop i).flatMap fun x => (c x).cells.toList) = (l.flatMap fun x => (c x).cells.toList).drop (i * sz) := by
   intro l
   induction l with
   | nil => intro i; simp
   | cons x r ih =>
    intro i
    cases i with
    | zero => simp
    | succ i => rw [List.drop_succ_cons, ih, List.flatMap_cons, List.drop_append, (show (c x).cells.toList.drop ((i + 1) * sz) = [] from List.drop_eq_nil_of_le (by rw [hg, Nat.add_mul]; omega)), List.nil_append, hg]; congr 1; rw [Nat.add_mul]; omega
  have htake : ∀ (l : List α) (j : Nat) (q : Nat) (u : Value), ((l.take j).flatMap fun x => (c x).cells.toList)[q]? = some u → (l.flatMap fun x => (c x).cells.toList)[q]? = some u := by
   intro l j q u hu
   rw [← List.take_append_drop j l, List.flatMap_append, List.getElem?_append_left]
   ·exact hu
   ·exact (List.getElem?_eq_some_iff.1 hu).1
  refine ⟨by omega, by omega, fun hn => ?_, fun q u hu => ?_⟩
  ·split at hn
   ·omega
   ·cases a with
    | none => have := h3 rfl; omega
    | some b => cases hn
  ·rw [hdrop, List.getElem?_drop] at hu
   have hu' := htake l j _ u hu
   obtain ⟨b, o, rfl, hc⟩ := h4 _ u hu'
   have hlt := (List.getElem?_eq_some_iff.1 hu').1
   rw [flat_len _ sz hg] at hlt
   have hci : ¬ cap = i := by
    intro hh
    have : l.length ≤ i := by omega
    have := Nat.mul_le_mul_right sz this
    omega
   rw [if_neg hci]
   exact ⟨b, o + i * sz, by simp [Addr.add_z], by rw [Nat.add_assoc]; exact hc⟩
 ·intro b hb
  split at hb
  ·exact ⟨b, hb, rfl⟩
  ·cases a with
   | none => cases hb
   | some b0 => cases hb; exact ⟨b0, rfl, by simp [Addr.add]; split <;> rfl⟩
end
end Go.Proofs.YtngpopalpofhgaaGreatDoor

namespace Go.Proofs.YtngpopalpofhgaaGreatDoor
open Go.RowKit Go.Maps
set_option maxRecDepth 100000

section
variable {ops : Array Oper} {rest : List Oper} {a : Act} {Q : Exit → Act → World → Prop} {d : Option Tmp} {ty : TypeId} {p : String} {m x y : Operand} {af : Array Edge} {g : Option (Nat × Bool)} {b n : Nat} {k : Int}
end
end Go.Proofs.YtngpopalpofhgaaGreatDoor

namespace Go.Proofs.YtngpopalpofhgaaGreatDoor
open Go.RowKit
set_option maxHeartbeats 400000
set_option maxRecDepth 100000

end Go.Proofs.YtngpopalpofhgaaGreatDoor

namespace Go.Proofs.YtngpopalpofhgaaGreatDoor
open Go.RowKit
set_option maxHeartbeats 400000
set_option maxRecDepth 100000

end Go.Proofs.YtngpopalpofhgaaGreatDoor

namespace Go.Proofs.YtngpopalpofhgaaGreatDoor
open Go.RowKit
set_option maxHeartbeats 400000
set_option maxRecDepth 100000

end Go.Proofs.YtngpopalpofhgaaGreatDoor

namespace Go.Proofs.YtngpopalpofhgaaGreatDoor
open Go.RowKit
set_option maxHeartbeats 400000
set_option maxRecDepth 100000

end Go.Proofs.YtngpopalpofhgaaGreatDoor

namespace Go.Proofs.YtngpopalpofhgaaGreatDoor
open Go.RowKit
set_option maxHeartbeats 400000
set_option maxRecDepth 100000

theorem own_made0 {α : Type} {c : α → Value} {sz B : Nat} {e : TypeId} (hc : ∀ x, (c x).cells.size = sz) (w : World) {H : Nat} (hH : w.heap.size = H) (hB : B ≤ H) : Own c sz B e (w.alloc (.cells #[] e)) (.slice (some ⟨H, 0, none⟩) 0 0) [] := by
 subst hH
 exact ⟨hc, World.ownsRow_made w #[] 0 hB (Nat.zero_le _) (by simp)⟩

end Go.Proofs.YtngpopalpofhgaaGreatDoor

namespace Go.Proofs.YtngpopalpofhgaaGreatDoor
open Go.RowKit
set_option maxHeartbeats 400000
set_option maxRecDepth 100000

end Go.Proofs.YtngpopalpofhgaaGreatDoor

namespace Go.Proofs.YtngpopalpofhgaaGreatDoor
open Go.RowKit
set_option maxHeartbeats 400000
set_option maxRecDepth 100000

end Go.Proofs.YtngpopalpofhgaaGreatDoor

namespace Go.Proofs.YtngpopalpofhgaaGreatDoor
open Go.RowKit
set_option maxHeartbeats 1000000
set_option maxRecDepth 100000

end Go.Proofs.YtngpopalpofhgaaGreatDoor

namespace Go.Proofs.YtngpopalpofhgaaGreatDoor
open Go.RowKit
set_option maxRecDepth 100000

section
variable {B : Nat} {w0 w w' : World} {L K : List Pc}
theorem SL.one (h : SL B w0 w L) (i : Nat) {p : Pc} (hi : L[i]? = some p) : SL B w0 w [p] := h.pick [i] (by simp) [p] (by simp [hi])
theorem SL.of_below (hb : Below w.heap.size w w') : SL w.heap.size w w' [] := (SL.nil w).mono hb
end

section
variable {B : Nat} {w0 w w' : World} {L : List Pc} {α : Type} {c : α → Value} {sz : Nat} {e : TypeId} {v : Value} {l : List α}
end

section
variable {P : Program} {ops : Array Oper} {rest : List Oper} {a : Act} {Q : Exit → Act → World → Prop} {α : Type} {c : α → Value} {sz bytes B : Nat} {t e : TypeId} {z v : Value} {w0 w : World} {L : List Pc} {l : List α}
theorem wpList_appL {d : Option Tmp} {ty : TypeId} {p : String} {s x : Operand} {af : Array Edge} {ad : Option Addr} {n cap : Nat} {ys : List α} (i : Nat) (E : ETy P t e z sz bytes)
   (hs : a.eval s = v) (hx : a.eval x = .slice ad n cap) (hS : SL B w0 w L) (hi : L[i]? = some (pOwn c sz e v l)) (hR : Reps c sz w ad cap ys) (hn : n = ys.length) (h1 : ∀ x, ∀ u ∈ (c x).cells.toList, u.oneCell' = true)
   (hb : (l.length + ys.length) * bytes ≤ 140737488355328) (hm : l.length + ys.length ≤ 9223372036854775807)
   (hK : ∀ v' w', SL B w0 w' (L.set i (pOwn c sz e v' (l ++ ys))) → wpList P ops Q rest (a.put d v') w') :
   wpList P ops Q (⟨d, .call { callee := .builtin .append, args := #[s, x], argTypes := #[t, t] }, ty, p, af, none⟩ :: rest) a w := by
 subst hn
 obtain ⟨b, ⟨h2, h3⟩, h4, h5⟩ := hS.upd i hi
 refine wpList_app (l := l) (ys := ys) (ad := ad) (cap := cap) E hs hx h2 hR h1 hb (Nat.zero_le _) hm ?_
 intro v' w' ho hg hat
 refine hK v' w' (h5 w' _ v'.ownBlock (h3 ▸ hg) ⟨ho, rfl⟩ ?_)
 rcases hat with hat | hat
 ·exact .inl (hat.trans h3)
 ·exact .inr (fun k hk => by rw [hat] at hk; cases hk; exact Nat.le_refl _)
end
section
variable {ops : Array Oper} {rest : List Oper} {a : Act} {Q : Exit → Act → World → Prop} {d : Option Tmp} {ty : TypeId} {p : String} {m x y : Operand} {af : Array Edge} {b n B : Nat} {k : Int} {w0 w : World} {L : List Pc}
end
end Go.Proofs.YtngpopalpofhgaaGreatDoor

namespace Go.Proofs.YtngpopalpofhgaaGreatDoor
open Go.RowKit
set_option maxRecDepth 100000

section
variable {B : Nat} {w0 w w' : World} {L K : List Pc}
end

section
variable {α : Type} {c : α → Value} {sz : Nat} {e : TypeId} {v : Value} {l : List α} {B : Nat} {W0 w : World} {L : List Pc}
end
end Go.Proofs.YtngpopalpofhgaaGreatDoor

namespace Go.Proofs.YtngpopalpofhgaaGreatDoor
open Go.RowKit
set_option maxHeartbeats 400000
set_option maxRecDepth 100000

def btw (n low high : Int) : Bool := decide (low ≤ n) && decide (n ≤ high)
theorem btw_true {n low high : Int} : btw n low high = true ↔ low ≤ n ∧ n ≤ high := by simp [btw]
theorem rbetween_any (n low high : Int) (w : World) :
  Calls Tryz.prog 53 #[.int .i64 n, .int .i64 low, .int .i64 high] w fun r w' => r = .returned (.bool (btw n low high)) ∧ w = w' := by
 by_cases h0 : n < low
 ·have hd : decide (low ≤ n) = false := by simp; omega
  have hs : btw n low high = false := by simp [btw, hd]
  have HS := hid hs; clear hs
  go_enter Tryz.func53, Tryz.ntmps53
  go_wp2
  go_ret
  exact ⟨by rw [HS.out]; rfl, rfl⟩
 ·have hd : decide (low ≤ n) = true := by simp; omega
  have hs : btw n low high = decide (n ≤ high) := by simp [btw, hd]
  have HS := hid hs; clear hs
  go_enter Tryz.func53, Tryz.ntmps53
  go_wp2
  go_ret
  exact ⟨by rw [HS.out]; rfl, rfl⟩

end Go.Proofs.YtngpopalpofhgaaGreatDoor

namespace Go.Proofs.YtngpopalpofhgaaGreatDoor
open Go.RowKit
set_option maxHeartbeats 1000000
set_option maxRecDepth 100000

end Go.Proofs.YtngpopalpofhgaaGreatDoor

namespace Go.Proofs.YtngpopalpofhgaaGreatDoor
open Go.RowKit
set_option maxHeartbeats 1000000
set_option maxRecDepth 100000

end Go.Proofs.YtngpopalpofhgaaGreatDoor

namespace Go.Proofs.YtngpopalpofhgaaGreatDoor
open Go.RowKit
set_option maxHeartbeats 1000000
set_option maxRecDepth 100000

end Go.Proofs.YtngpopalpofhgaaGreatDoor

namespace Go.Proofs.YtngpopalpofhgaaGreatDoor
open Go.RowKit
set_option maxHeartbeats 1000000
set_option maxRecDepth 100000

theorem wordE_any {n : Int} {l : List Int} (h : strandsE n = 0) (h2 : l.length ≤ 200) : wordE n l = if l.any (outB n) then 3 else 0 := by
 unfold wordE
 rw [if_neg (fun hh => hh h), if_neg (by omega)]
 have key : (0 ≤ idxGo n l 0 l.length) ↔ l.any (outB n) = true := by
  rw [idxGo_neg, List.any_eq_true]
  constructor
  ·rintro ⟨j, _, hj, ho⟩
   exact ⟨atD 0 l j, by simp [atD, show j < l.length by omega], ho⟩
  ·rintro ⟨x, hx, ho⟩
   obtain ⟨j, hj, rfl⟩ := List.getElem_of_mem hx
   exact ⟨j, by omega, by omega, by simpa [atD, hj] using ho⟩
 by_cases c : l.any (outB n) = true
 ·rw [if_pos (key.2 c), if_pos c]
 ·rw [if_neg (fun h => c (key.1 h)), if_neg c]
end Go.Proofs.YtngpopalpofhgaaGreatDoor

namespace Go.Proofs.YtngpopalpofhgaaGreatDoor
open Go.RowKit
set_option maxHeartbeats 400000
set_option maxRecDepth 100000

end Go.Proofs.YtngpopalpofhgaaGreatDoor

namespace Go.Proofs.YtngpopalpofhgaaGreatDoor
open Go.RowKit

theorem nodup_ne {l : List Int} (h : l.Nodup) {a b : Nat} (hab : a < b) (hb : b < l.length) : atD 0 l a ≠ atD 0 l b := by
 have := (List.pairwise_iff_getElem.1 h) a b (by omega) hb hab
 simpa [atD, hb, show a < l.length by omega] using this

section
variable {p : List Int} (hp : IsP p)
include hp
end

end Go.Proofs.YtngpopalpofhgaaGreatDoor

namespace Go.Proofs.YtngpopalpofhgaaGreatDoor
open Go.RowKit Go.Shelf
set_option maxHeartbeats 2000000
set_option maxRecDepth 100000

section
variable {p : List Int} (hp : IsP p) {i : Int} (h0 : 0 ≤ i) (h1 : i < p.length)
end

end Go.Proofs.YtngpopalpofhgaaGreatDoor

namespace Go.Proofs.YtngpopalpofhgaaGreatDoor
open Go.RowKit Go.Shelf
set_option maxHeartbeats 2000000
set_option maxRecDepth 100000

theorem cSl1 (x : SlH) : (cSl x).cells = #[cSl x] := rfl
theorem F_sl : Flat Tryz.prog 22 := ⟨_, Tryz.underlying22, rfl⟩
end Go.Proofs.YtngpopalpofhgaaGreatDoor

namespace Go.Proofs.YtngpopalpofhgaaGreatDoor
open Go.RowKit
set_option maxHeartbeats 1000000
set_option maxRecDepth 100000

end Go.Proofs.YtngpopalpofhgaaGreatDoor

namespace Go.Proofs.YtngpopalpofhgaaGreatDoor
open Go.RowKit
set_option maxHeartbeats 1000000
set_option maxRecDepth 100000

theorem letter_fits {n : Int} {p : PassV} (hn : n ≤ 12) (h : passE n p = 0) : ∀ x ∈ lettersL p, -1000 ≤ x ∧ x ≤ 1000 ∧ 1 ≤ absI x ∧ absI x < n.toNat := by
 obtain ⟨h1, h2, h3, h4, h5, h6, h7⟩ := passE_zero h
 intro x hx
 obtain ⟨k, hk, rfl⟩ := List.mem_map.1 hx
 have hk := List.mem_range.1 hk
 unfold distP at h6
 have hb : absI (-(letterAt p k)) = absI (letterAt p k) := by unfold absI; split <;> split <;> omega
 have key : ∀ y : Int, (p.t < p.f ∧ y = (k : Int) + 1 - p.f) ∨ (¬ p.t < p.f ∧ y = p.f + k) → -1000 ≤ y ∧ y ≤ 1000 ∧ 1 ≤ absI y ∧ absI y < n.toNat := by
  intro y hy
  unfold absI
  rcases hy with ⟨a, rfl⟩ | ⟨a, rfl⟩ <;> split <;> omega
 unfold letterAt
 split
 ·split
  ·have := key _ (.inl ⟨‹_›, rfl⟩)
   unfold absI at this ⊢
   split <;> split at this <;> omega
  ·have := key _ (.inr ⟨‹_›, rfl⟩)
   unfold absI at this ⊢
   split <;> split at this <;> omega
 ·split
  ·exact key _ (.inl ⟨‹_›, rfl⟩)
  ·exact key _ (.inr ⟨‹_›, rfl⟩)

end Go.Proofs.YtngpopalpofhgaaGreatDoor

namespace Go.Proofs.YtngpopalpofhgaaGreatDoor
open Go.RowKit
section
variable {P : Program} {ops : Array Oper} {Q : Exit → Act → World → Prop} {C : World → Prop}
theorem wpOp_call {i : Nat} {o : Oper} {f : FuncId} {args : Array Value} {a : Act} {w : World} (hi : ops[i]? = some o) (hw : Region.wanted o (yielded ops a.tmps) = true) (hrun : (execOp a.eval o).run P w = .ok (.enter f args) w) {K : Act → World → Prop}
   (h : Calls P f args w fun e w' => ∃ v, e = .returned v ∧ K (a.put o.dst v) w') : wpOp P ops Q i K a w := by
 unfold wpOp
 simp only [hi, hw, if_true, Oper.wp, hrun, Oper.upon]
 refine .inl (h.mono ?_)
 rintro e w' ⟨v, rfl, hK⟩
 exact hK
end
end Go.Proofs.YtngpopalpofhgaaGreatDoor

namespace Go.Proofs.YtngpopalpofhgaaGreatDoor
open Go.RowKit
section
variable {P : Program} {ops : Array Oper} {Q : Exit → Act → World → Prop} {md : Region.Mode} {C : World → Prop}

end
section
variable {P : Program} {ops : Array Oper} {w : World} {a : Act} {ty : TypeId} {p : String} {af : Array Edge} {g : Option (Nat × Bool)} {d : Tmp}
theorem yieldsK_cell {e : TypeId} {s : Operand} {x : Addr} {v : Value} (hF : Flat P e) (hb : w.cell? x = some v) (hg : Region.wanted (⟨some d, .load e s, ty, p, af, g⟩ : Oper) (yielded ops a.tmps) = true) (hs : a.eval s = .pointer (some x)) :
  YieldsK P ops (Below w.heap.size w) ⟨some d, .load e s, ty, p, af, g⟩ v a := by
 refine .inl ⟨hg, fun w' hw' => ?_⟩
 have hc : w'.cell? x = some v := (hw'.cell (World.block_lt_of_cell? w _ hb)).trans hb
 simp [execOp, hs, run_loadAt_cell w' hF hc, Result.andThen]
end
end Go.Proofs.YtngpopalpofhgaaGreatDoor

namespace Go.Proofs.YtngpopalpofhgaaGreatDoor

end Go.Proofs.YtngpopalpofhgaaGreatDoor

namespace Go.Proofs.YtngpopalpofhgaaGreatDoor
open Go.RowKit
set_option maxHeartbeats 1000000
set_option maxRecDepth 100000

section
variable {P : Program} {ops : Array Oper} {rest : List Oper} {a : Act} {Qa : Act → Prop} {α : Type} {c : α → Value} {sz bytes : Nat} {t e : TypeId} {z : Value} {ad : Option Addr} {cap : Nat} {l : List α} {k : Int} {w : World}
 {d1 d2 : Tmp} {ty1 ty2 : TypeId} {p1 p2 : String} {s x : Operand} {af1 af2 : Array Edge}
end
theorem take_step {α : Type} (d : α) (l : List α) (k : Nat) (h : k < l.length) : l.take (k + 1) = l.take k ++ [atD d l k] := by
 rw [List.take_succ_eq_append_getElem h]; simp [atD, h]
theorem E_rpasses : ETy Tryz.prog 44 53 (.agg #[.int .i64 0, .int .i64 0, .string ⟨#[]⟩]) 3 32 := ⟨Tryz.underlying44, by kernel_rfl, rfl, by decide⟩
theorem F_rpass : Aggr Tryz.prog 53 := ⟨_, Tryz.underlying53, rfl⟩

end Go.Proofs.YtngpopalpofhgaaGreatDoor

namespace Go.Proofs.YtngpopalpofhgaaGreatDoor
section
variable {S : Type} (G : Gar S)
def NoPull (X : List S) : Prop := ∀ Y, ¬ Pull G X Y
variable {G}
theorem Star.one {X Y : List S} (h : Pull G X Y) : Star G X Y := .step h (.refl _)
theorem Star.pre (U : List S) {X Y : List S} (h : Star G X Y) : Star G (U ++ X) (U ++ Y) := by
 induction U with
 | nil => exact h
 | cons a U ih => exact ih.there a
theorem Pull.post {X Y : List S} (h : Pull G X Y) (Z : List S) : Pull G (X ++ Z) (Y ++ Z) := by
 induction h with
 | here a b X i h1 h2 h3 => exact .here a b (X ++ Z) i h1 h2 h3
 | there a _ ih => exact .there a ih
theorem Star.post {X Y : List S} (h : Star G X Y) (Z : List S) : Star G (X ++ Z) (Y ++ Z) := by
 induction h with
 | refl => exact .refl _
 | step p _ ih => exact .step (p.post Z) ih
theorem Star.ctx (U : List S) {X Y : List S} (h : Star G X Y) (Z : List S) : Star G (U ++ X ++ Z) (U ++ Y ++ Z) := (h.pre U).post Z
/-- two moves lead to one list again. -/
theorem pull_join {X Y Z : List S} (h : Pull G X Y) (hv : Vs G X) (k : Pull G X Z) : ∃ W, Star G Y W ∧ Star G Z W := by
 induction h generalizing Z with
 | here a b X i h1 h2 h3 =>
  have va := hv a (by simp)
  have vb := hv b (by simp)
  cases k with
  | here _ _ _ j k1 k2 k3 =>
   rcases Nat.lt_trichotomy i j with hij | rfl | hij
   ·by_cases hf : i + 1 < j
    ·obtain ⟨f1, f2, f3⟩ := G.farF vb h1 k1 hf
     obtain ⟨g1, g2, g3⟩ := G.farB va h1 k1 hf
     refine ⟨G.bk (G.bk a i) j :: G.fr (G.fr b i) j :: X, .one (.here _ _ _ j k1 (by rw [f1]; exact k2) (by rw [g1]; exact k3)), ?_⟩
     rw [f3, g3]
     exact .one (.here _ _ _ i h1 (by rw [f2]; exact h2) (by rw [g2]; exact h3))
    ·have e : j = i + 1 := by omega
     subst e
     obtain ⟨⟨f1, f2⟩, ⟨f3, f4⟩, f5⟩ := G.nearF vb k1 h2 k2
     obtain ⟨⟨g1, g2⟩, ⟨g3, g4⟩, g5⟩ := G.nearB va k1 h3 k3
     refine ⟨G.bk (G.bk (G.bk a i) (i + 1)) i :: G.fr (G.fr (G.fr b i) (i + 1)) i :: X, .step (.here _ _ _ (i + 1) k1 f1 g1) (.one (.here _ _ _ i h1 f2 g2)), ?_⟩
     rw [f5, g5]
     exact .step (.here _ _ _ i h1 f3 g3) (.one (.here _ _ _ (i + 1) k1 f4 g4))
   ·exact ⟨_, .refl _, .refl _⟩
   ·by_cases hf : j + 1 < i
    ·obtain ⟨f1, f2, f3⟩ := G.farF vb k1 h1 hf
     obtain ⟨g1, g2, g3⟩ := G.farB va k1 h1 hf
     refine ⟨G.bk (G.bk a i) j :: G.fr (G.fr b i) j :: X, .one (.here _ _ _ j k1 (by rw [f2]; exact k2) (by rw [g2]; exact k3)), ?_⟩
     rw [← f3, ← g3]
     exact .one (.here _ _ _ i h1 (by rw [f1]; exact h2) (by rw [g1]; exact h3))
    ·have e : i = j + 1 := by omega
     subst e
     obtain ⟨⟨f1, f2⟩, ⟨f3, f4⟩, f5⟩ := G.nearF vb h1 k2 h2
     obtain ⟨⟨g1, g2⟩, ⟨g3, g4⟩, g5⟩ := G.nearB va h1 k3 h3
     refine ⟨G.bk (G.bk (G.bk a j) (j + 1)) j :: G.fr (G.fr (G.fr b j) (j + 1)) j :: X, ?_, .step (.here _ _ _ (j + 1) h1 f1 g1) (.one (.here _ _ _ j k1 f2 g2))⟩
     rw [f5, g5]
     exact .step (.here _ _ _ j k1 f3 g3) (.one (.here _ _ _ (j + 1) h1 f4 g4))
  | there _ k =>
   cases k with
   | here _ c R j k1 k2 k3 =>
    obtain ⟨m1, m2, m3⟩ := G.mid vb h1 k1 h2 k3
    refine ⟨G.bk a i :: G.bk (G.fr b i) j :: G.fr c j :: R, .one (.there _ (.here _ _ _ j k1 k2 m1)), ?_⟩
    rw [← m3]
    exact .one (.here _ _ _ i h1 m2 h3)
   | there _ k => exact ⟨_, .one (.there _ (.there _ k)), .one (.here _ _ _ i h1 h2 h3)⟩
 | there a p ih =>
  have hv2 : Vs G _ := fun x hx => hv x (List.mem_cons_of_mem a hx)
  cases k with
  | here _ b R i k1 k2 k3 =>
   have va := hv a (by simp)
   cases p with
   | here _ c Q j h1 h2 h3 =>
    have vb := hv b (by simp)
    obtain ⟨m1, m2, m3⟩ := G.mid vb k1 h1 k2 h3
    refine ⟨G.bk a i :: G.bk (G.fr b i) j :: G.fr c j :: Q, ?_, .one (.there _ (.here _ _ _ j h1 h2 m1))⟩
    rw [← m3]
    exact .one (.here _ _ _ i k1 m2 k3)
   | there _ p => exact ⟨_, .one (.here _ _ _ i k1 k2 k3), .one (.there _ (.there _ p))⟩
  | there _ k =>
   obtain ⟨W, h1, h2⟩ := ih hv2 k
   exact ⟨a :: W, h1.there a, h2.there a⟩
def muG (G : Gar S) : List S → Nat
 | [] => 0
 | a :: X => G.ht a * G.K ^ X.length + muG G X
theorem mu_lt : ∀ {X : List S}, Vs G X → muG G X < G.K ^ X.length
 | [], _ => by simp [muG]
 | a :: X, h => by
   have h1 := G.hK (h a (by simp))
   have h2 : muG G X < G.K ^ X.length := mu_lt fun x hx => h x (List.mem_cons_of_mem a hx)
   have h3 : (G.ht a + 1) * G.K ^ X.length ≤ G.K * G.K ^ X.length := Nat.mul_le_mul_right _ h1
   rw [Nat.add_mul, Nat.one_mul] at h3
   simp only [muG, List.length_cons, Nat.pow_succ]
   rw [Nat.mul_comm (G.K ^ X.length)]
   omega
theorem Pull.mu {X Y : List S} (h : Pull G X Y) (hv : Vs G X) : muG G Y < muG G X := by
 induction h with
 | here a b X i h1 h2 h3 =>
  have hy := (Pull.here a b X i h1 h2 h3).vs hv
  have hb : Vs G (G.fr b i :: X) := fun x hx => hy x (List.mem_cons_of_mem _ hx)
  have h4 := mu_lt hb
  have h5 := G.lbk (hv a (by simp)) h1 h3
  have h6 : (G.ht (G.bk a i) + 1) * G.K ^ (X.length + 1) ≤ G.ht a * G.K ^ (X.length + 1) := Nat.mul_le_mul_right _ h5
  rw [Nat.add_mul, Nat.one_mul] at h6
  simp only [muG, List.length_cons] at h4 ⊢
  omega
 | there a p ih =>
  have h1 := ih fun x hx => hv x (List.mem_cons_of_mem a hx)
  simp only [muG]
  rw [p.length]
  omega
theorem norm_ex (X : List S) (hv : Vs G X) : ∃ Y, Star G X Y ∧ NoPull G Y := by
 generalize hm : muG G X = m
 induction m using Nat.strongRecOn generalizing X with
 | _ m ih =>
  by_cases h : ∃ Y, Pull G X Y
  ·obtain ⟨Y, h⟩ := h
   obtain ⟨Z, h1, h2⟩ := ih (muG G Y) (by have := h.mu hv; omega) Y (h.vs hv) rfl
   exact ⟨Z, .step h h1, h2⟩
  ·exact ⟨X, .refl _, fun Y k => h ⟨Y, k⟩⟩
/-- the end is the same, whatever the moves. -/
theorem norm_one {X Y Z : List S} (hv : Vs G X) (h : Star G X Y) (hY : NoPull G Y) (k : Star G X Z) (hZ : NoPull G Z) : Y = Z := by
 generalize hm : muG G X = m
 induction m using Nat.strongRecOn generalizing X Y Z with
 | _ m ih =>
  cases h with
  | refl =>
   cases k with
   | refl => rfl
   | step p _ => exact absurd p (hY _)
  | step p h =>
   cases k with
   | refl => exact absurd p (hZ _)
   | step q k =>
    have vp := p.vs hv
    have vq := q.vs hv
    have mp := p.mu hv
    have mq := q.mu hv
    obtain ⟨W, w1, w2⟩ := pull_join p hv q
    obtain ⟨W', w3, w4⟩ := norm_ex W (w1.vs vp)
    have ep := ih (muG G _) (by omega) vp h hY (w1.trans w3) w4 rfl
    have eq := ih (muG G _) (by omega) vq k hZ (w2.trans w3) w4 rfl
    exact ep.trans eq.symm
end
end Go.Proofs.YtngpopalpofhgaaGreatDoor

namespace Go.Proofs.YtngpopalpofhgaaGreatDoor
section
variable {S : Type} {T : GarT S}
theorem vs_cons {a : S} {X : List S} (h : T.V a) (k : Vs T.toGar X) : Vs T.toGar (a :: X) := fun x hx => by rcases List.mem_cons.1 hx with rfl | hx; exact h; exact k x hx
theorem vs_app {X Y : List S} (h : Vs T.toGar X) (k : Vs T.toGar Y) : Vs T.toGar (X ++ Y) := fun x hx => by rcases List.mem_append.1 hx with hx | hx; exact h x hx; exact k x hx
theorem vs_nil : Vs T.toGar [] := fun x hx => absurd hx (by simp)
theorem vs_map {X : List S} (h : Vs T.toGar X) : Vs T.toGar (X.map T.fl) := fun x hx => by obtain ⟨y, hy, rfl⟩ := List.mem_map.1 hx; exact T.vfl (h y hy)
theorem map_flfl {X : List S} (h : Vs T.toGar X) : (X.map T.fl).map T.fl = X := by
 rw [List.map_map]
 conv => rhs; rw [← List.map_id X]
 exact List.map_congr_left fun x hx => T.flfl (h x hx)
/-- a pair goes its way with a letter more at its end. -/
theorem lift_end {j : Nat} (hj : j < T.N) {X Z : List S} (h : Star T.toGar X Z) : ∀ x y, X = [x, y] → T.V x → T.V y → T.E y j = false → ∃ x' y', Z = [x', y'] ∧ T.V x' ∧ T.V y' ∧ T.E y' j = false ∧ Star T.toGar [x, T.bk y j] [x', T.bk y' j] := by
 induction h with
 | refl => intro x y e vx vy h; exact ⟨x, y, e, vx, vy, h, .refl _⟩
 | step p q ih =>
  intro x y e vx vy h
  subst e
  cases p with
  | here _ _ _ i h1 h2 h3 =>
   obtain ⟨m1, m2, m3⟩ := T.mid vy h1 hj h2 h
   obtain ⟨x', y', e', vx', vy', k1, k2⟩ := ih _ _ rfl (T.vbk vx h1) (T.vfr vy h1) m1
   refine ⟨x', y', e', vx', vy', k1, .step (.here _ _ _ i h1 m2 h3) ?_⟩
   rw [m3]
   exact k2
  | there _ p =>
   cases p with
   | there _ p => cases p
theorem one_right : ∀ (n : Nat) {b : S}, T.K - T.ht b = n → T.V b → Star T.toGar [T.e, b] [b, T.e] := by
 intro n
 induction n using Nat.strongRecOn with
 | _ n ih =>
  intro b hn hb
  by_cases h : ∃ j, j < T.N ∧ T.E b j = true
  ·obtain ⟨j, hj, he⟩ := h
   have v1 := T.vbk hb hj
   have e1 : T.E (T.bk b j) j = false := by rw [T.Ebk hb hj, he]; rfl
   have e2 := T.bkbk hb hj
   have l1 := T.lbk v1 hj e1
   rw [e2] at l1
   have hk := T.hK v1
   have h1 := ih (T.K - T.ht (T.bk b j)) (by omega) rfl v1
   obtain ⟨x', y', e', vx', vy', _, k2⟩ := lift_end hj h1 _ _ rfl T.ve v1 e1
   cases e'
   rw [e2] at k2
   refine k2.trans (.one ?_)
   have p := Pull.here (G := T.toGar) (T.bk b j) (T.bk T.e j) [] j hj (by rw [T.letK hj]; exact T.letB hj) e1
   rw [e2, T.letK hj, T.letF hj] at p
   rw [T.letK hj]
   exact p
  ·have : b = T.e := T.isE hb fun i hi => by cases hh : T.E b i with | false => rfl | true => exact absurd ⟨i, hi, hh⟩ h
   rw [this]
   exact .refl _
theorem co_star : ∀ (n : Nat) {c : S}, muG T.toGar [c, T.co c] = n → T.V c → Star T.toGar [c, T.co c] [T.D, T.e] := by
 intro n
 induction n using Nat.strongRecOn with
 | _ n ih =>
  intro c hn hc
  by_cases h : ∃ i, i < T.N ∧ T.E c i = false
  ·obtain ⟨i, hi, he⟩ := h
   have p := Pull.here (G := T.toGar) c (T.co c) [] i hi (by rw [T.coB hc hi, he]; rfl) he
   have hm := p.mu (vs_cons hc (vs_cons (T.vco hc) vs_nil))
   rw [T.cofr hc hi] at p hm
   exact .step p (ih _ (by omega) rfl (T.vbk hc hi))
  ·have : c = T.D := T.isD hc fun i hi => by cases hh : T.E c i with | true => rfl | false => exact absurd ⟨i, hi, hh⟩ h
   rw [this, T.coD]
   exact .refl _
theorem noPull_top {X : List S} (h : NoPull T.toGar X) : NoPull T.toGar (T.D :: X) := by
 intro Y p
 cases p with
 | here _ _ _ i h1 _ h3 => rw [T.ED h1] at h3; cases h3
 | there _ p => exact h _ p
theorem pull_tail {X Z : List S} (h : Pull T.toGar X Z) : ∀ U, X = U ++ [T.e] → ∃ W, Z = W ++ [T.e] ∧ Pull T.toGar U W := by
 induction h with
 | here a b X i h1 h2 h3 =>
  intro U e
  rcases U with _ | ⟨u, U⟩
  ·simp at e
  ·rcases U with _ | ⟨v, U⟩
   ·simp at e
    obtain ⟨_, rfl, _⟩ := e
    rw [T.Be h1] at h2; cases h2
   ·simp only [List.cons_append, List.cons.injEq] at e
    obtain ⟨rfl, rfl, rfl⟩ := e
    exact ⟨_ :: _ :: U, by simp, .here _ _ _ i h1 h2 h3⟩
 | there a p ih =>
  intro U e
  rcases U with _ | ⟨u, U⟩
  ·simp only [List.nil_append, List.cons.injEq] at e
   obtain ⟨_, rfl⟩ := e
   cases p
  ·simp only [List.cons_append, List.cons.injEq] at e
   obtain ⟨rfl, rfl⟩ := e
   obtain ⟨W, rfl, hW⟩ := ih U rfl
   exact ⟨a :: W, rfl, .there a hW⟩
theorem noPull_tail {X : List S} (h : NoPull T.toGar X) : NoPull T.toGar (X ++ [T.e]) := fun Y p => by
 obtain ⟨W, _, hW⟩ := pull_tail p X rfl
 exact h W hW
theorem star_tail {X Z : List S} (h : Star T.toGar X Z) : ∀ U, X = U ++ [T.e] → ∃ W, Z = W ++ [T.e] ∧ Star T.toGar U W := by
 induction h with
 | refl => intro U e; exact ⟨U, e, .refl _⟩
 | step p _ ih =>
  intro U e
  obtain ⟨W, e2, hW⟩ := pull_tail p U e
  obtain ⟨W2, e3, h3⟩ := ih W e2
  exact ⟨W2, e3, .step hW h3⟩
theorem noPull_one (a : S) : NoPull T.toGar [a] := fun Y p => by
 cases p with
 | there _ p => cases p
/-- the half twist goes to the left past a simple braid. -/
theorem top_one {a : S} (ha : T.V a) : Star T.toGar [a, T.D] [T.D, T.fl a] := by
 have va := T.vco ha
 have hv : Vs T.toGar [a, T.co a, T.fl a] := vs_cons ha (vs_cons va (vs_cons (T.vfl ha) vs_nil))
 have h1 : Star T.toGar [a, T.co a, T.fl a] [T.D, T.fl a, T.e] := ((co_star _ rfl ha).post [T.fl a]).trans ((one_right _ rfl (T.vfl ha)).there T.D)
 have h2 : Star T.toGar [a, T.co a, T.fl a] ([a, T.D] ++ [T.e]) := by
  have := (co_star (T := T) _ rfl va).there a
  rw [T.coco ha] at this
  exact this
 obtain ⟨W, w1, w2⟩ := norm_ex _ (h2.vs hv)
 have n1 : NoPull T.toGar [T.D, T.fl a, T.e] := noPull_top (noPull_tail (X := [T.fl a]) (noPull_one _))
 have e := norm_one hv h1 n1 (h2.trans w1) w2
 rw [← e] at w1
 obtain ⟨W2, e2, h3⟩ := star_tail w1 [a, T.D] rfl
 have : W2 = [T.D, T.fl a] := by
  have e3 : [T.D, T.fl a] ++ [T.e] = W2 ++ [T.e] := e2
  exact (List.append_cancel_right e3).symm
 rw [this] at h3
 exact h3
theorem top_far : ∀ {U : List S}, Vs T.toGar U → Star T.toGar (U ++ [T.D]) (T.D :: U.map T.fl)
 | [], _ => .refl _
 | a :: U, h => ((top_far fun x hx => h x (by simp [hx])).there a).trans ((top_one (h a (by simp))).post (U.map T.fl))
def ltrI (x : Int) : Nat := (if 0 < x then x else -x).toNat - 1
def LetOk (N : Nat) (x : Int) : Prop := x ≠ 0 ∧ (if 0 < x then x else -x) ≤ N
def facG (T : GarT S) (L : List S) (x : Int) : List S := if 0 < x then L ++ [T.fr T.e (ltrI x)] else L.map T.fl ++ [T.bk T.D (ltrI x)]
def facL (T : GarT S) (L : List S) (w : List Int) : List S := w.foldl (facG T) L
theorem ltrI_lt {N : Nat} {x : Int} (h : LetOk N x) : ltrI x < N := by
 obtain ⟨h1, h2⟩ := h
 unfold ltrI
 split at h2 <;> simp_all <;> omega
theorem ltrI_neg (x : Int) : ltrI (-x) = ltrI x := by
 unfold ltrI
 congr 1
 congr 1
 split <;> split <;> omega
theorem fac_vs {L : List S} {x : Int} (h : Vs T.toGar L) (hx : LetOk T.N x) : Vs T.toGar (facG T L x) := by
 have hi := ltrI_lt hx
 unfold facG
 split
 ·exact vs_app h (vs_cons (T.vfr T.ve hi) vs_nil)
 ·exact vs_app (vs_map h) (vs_cons (T.vbk T.vD hi) vs_nil)
theorem facL_vs {w : List Int} (hw : ∀ x ∈ w, LetOk T.N x) : ∀ {L : List S}, Vs T.toGar L → Vs T.toGar (facL T L w) := by
 induction w with
 | nil => intro L h; exact h
 | cons x w ih => intro L h; exact ih (fun y hy => hw y (by simp [hy])) (fac_vs h (hw x (by simp)))
theorem facL_app (L : List S) (u v : List Int) : facL T L (u ++ v) = facL T (facL T L u) v := by unfold facL; rw [List.foldl_append]
theorem facL_star {w : List Int} (hw : ∀ x ∈ w, LetOk T.N x) : ∀ {L M : List S}, Vs T.toGar L → Star T.toGar L M → Star T.toGar (facL T L w) (facL T M w) := by
 induction w with
 | nil => intro L M _ h; exact h
 | cons x w ih =>
  intro L M hL h
  refine ih (fun y hy => hw y (by simp [hy])) (fac_vs hL (hw x (by simp))) ?_
  unfold facG
  split
  ·exact h.post _
  ·exact (h.map hL).post _
/-- half twists at the beginning and nothing at the end stay there. -/
theorem facL_top {w : List Int} (hw : ∀ x ∈ w, LetOk T.N x) : ∀ {L : List S}, Vs T.toGar L → Star T.toGar (facL T ([T.D] ++ L ++ [T.e]) w) ([T.D] ++ facL T L w ++ [T.e]) := by
 induction w with
 | nil => intro L _; exact .refl _
 | cons x w ih =>
  intro L hL
  have hx := hw x (by simp)
  have hi := ltrI_lt hx
  have hw2 : ∀ y ∈ w, LetOk T.N y := fun y hy => hw y (by simp [hy])
  refine Star.trans ?_ (ih hw2 (fac_vs hL hx))
  show Star T.toGar (facL T (facG T ([T.D] ++ L ++ [T.e]) x) w) _
  have hv : Vs T.toGar ([T.D] ++ L ++ [T.e]) := vs_app (vs_app (vs_cons T.vD vs_nil) hL) (vs_cons T.ve vs_nil)
  refine facL_star hw2 (fac_vs hv hx) ?_
  unfold facG
  split
  ·rw [List.append_assoc ([T.D] ++ L), ← List.append_assoc [T.D] L]
   have := (one_right (T := T) _ rfl (T.vfr T.ve hi)).pre ([T.D] ++ L)
   simpa using this
  ·rw [List.map_append, List.map_append, List.map_cons, List.map_nil, List.map_cons, List.map_nil, T.flD, T.fle, List.append_assoc ([T.D] ++ L.map T.fl)]
   have := (one_right (T := T) _ rfl (T.vbk T.vD hi)).pre ([T.D] ++ L.map T.fl)
   simpa using this
theorem pair_star {L : List S} {x : Int} (hL : Vs T.toGar L) (hx : LetOk T.N x) : Star T.toGar (facG T (facG T L x) (-x)) ([T.D] ++ L ++ [T.e]) := by
 have hi := ltrI_lt hx
 have h0 := hx.1
 have far : Star T.toGar (L.map T.fl ++ [T.D, T.e]) ([T.D] ++ L ++ [T.e]) := by
  have := (top_far (vs_map hL)).post [T.e]
  rw [map_flfl hL] at this
  simpa using this
 refine Star.trans ?_ far
 unfold facG
 by_cases hp : 0 < x
 ·rw [if_pos hp, if_neg (by omega), ltrI_neg, List.map_append, List.map_cons, List.map_nil, List.append_assoc]
  refine Star.pre _ ?_
  have hj : T.N - 1 - ltrI x < T.N := by omega
  rw [T.flfr T.ve hi, T.fle]
  have hc := co_star (T := T) _ rfl (T.vfr T.ve hj)
  rw [← T.letK hj, ← T.cofr T.ve hj, T.coe, T.frD hi] at hc
  rw [← T.letK hj]
  exact hc
 ·rw [if_neg hp, if_pos (by omega), ltrI_neg, List.append_assoc]
  refine Star.pre _ (.one ?_)
  have p := Pull.here (G := T.toGar) (T.bk T.D (ltrI x)) (T.fr T.e (ltrI x)) [] (ltrI x) hi (T.letB hi) (by rw [T.Ebk T.vD hi, T.ED hi]; rfl)
  rw [T.bkbk T.vD hi, T.letF hi] at p
  exact p
/-- Y is where the list of a word comes to. -/
def NfW (T : GarT S) (w : List Int) (Y : List S) : Prop := Star T.toGar (facL T [] w) Y ∧ NoPull T.toGar Y
theorem nf_cancel {u v : List Int} {x : Int} (hu : ∀ y ∈ u, LetOk T.N y) (hx : LetOk T.N x) (hv : ∀ y ∈ v, LetOk T.N y) {Y Z : List S} (h : NfW T (u ++ [x, -x] ++ v) Y) (k : NfW T (u ++ v) Z) : Y = [T.D] ++ Z ++ [T.e] := by
 have vu := facL_vs (T := T) hu vs_nil
 have hxn : LetOk T.N (-x) := by
  obtain ⟨h1, h2⟩ := hx
  refine ⟨by omega, ?_⟩
  split at h2 <;> split <;> omega
 have vx := fac_vs (fac_vs vu hx) hxn
 have h1 : Star T.toGar (facL T [] (u ++ [x, -x] ++ v)) ([T.D] ++ facL T [] (u ++ v) ++ [T.e]) := by
  rw [facL_app, facL_app, facL_app]
  exact (facL_star hv vx (pair_star vu hx)).trans (facL_top hv vu)
 have h2 : Star T.toGar ([T.D] ++ facL T [] (u ++ v) ++ [T.e]) ([T.D] ++ Z ++ [T.e]) := k.1.ctx [T.D] [T.e]
 have hall : ∀ y ∈ u ++ [x, -x] ++ v, LetOk T.N y := by
  intro y hy
  simp only [List.mem_append, List.mem_cons, List.not_mem_nil, or_false] at hy
  rcases hy with (hy | rfl | rfl) | hy
  ·exact hu y hy
  ·exact hx
  ·exact hxn
  ·exact hv y hy
 exact norm_one (facL_vs hall vs_nil) h.1 h.2 (h1.trans h2) (noPull_tail (noPull_top k.2))
end
end Go.Proofs.YtngpopalpofhgaaGreatDoor

namespace Go.Proofs.YtngpopalpofhgaaGreatDoor
set_option maxRecDepth 100000
theorem inv_inv {p : List Int} (hp : IsP p) : invL (invL p) = p :=
 inv_uniq (invL_isP hp) (by rw [invL_len]) fun x x0 x1 => by
  rw [invL_len] at x1 ⊢
  have := hp.rng x x0 x1
  exact ⟨this.1, this.2, invL_left hp x0 x1⟩
def bgP (p : List Int) (i : Nat) : Bool := decide (atD 0 p ((i : Int) + 1) < atD 0 p (i : Int))
def edP (p : List Int) (i : Nat) : Bool := bgP (invL p) i
def revP (n : Nat) : List Int := (List.range n).map fun (i : Nat) => (n : Int) - 1 - i
def flP (p : List Int) : List Int := (List.range p.length).map fun (i : Nat) => (p.length : Int) - 1 - atD 0 p ((p.length : Int) - 1 - i)
def coP (p : List Int) : List Int := (List.range p.length).map fun (i : Nat) => (p.length : Int) - 1 - atD 0 (invL p) (i : Int)
theorem map_atD {n : Nat} (f : Int → Int) {x : Int} (h0 : 0 ≤ x) (h1 : x < n) : atD 0 ((List.range n).map fun (i : Nat) => f (i : Int)) x = f x := by
 have e : (x.toNat : Int) = x := by omega
 unfold atD
 rw [List.getD_eq_getElem?_getD, List.getElem?_map, List.getElem?_range (by omega)]
 simp [e]
section
variable {n : Nat} {p : List Int} {i : Nat}
theorem VP.rg (h : VP n p) {x : Int} (h0 : 0 ≤ x) (h1 : x < n) : 0 ≤ atD 0 p x ∧ atD 0 p x < n := by have := h.1.rng x h0 (by rw [h.2]; exact h1); rwa [h.2] at this
theorem VP.pi (h : VP n p) {x y : Int} (h0 : 0 ≤ x) (h1 : x < n) (k0 : 0 ≤ y) (k1 : y < n) (e : atD 0 p x = atD 0 p y) : x = y := h.1.inj x y h0 (by rw [h.2]; exact h1) k0 (by rw [h.2]; exact k1) e
theorem VP.qp (h : VP n p) {x : Int} (h0 : 0 ≤ x) (h1 : x < n) : atD 0 (invL p) (atD 0 p x) = x := invL_left h.1 h0 (by rw [h.2]; exact h1)
theorem VP.pq (h : VP n p) {x : Int} (h0 : 0 ≤ x) (h1 : x < n) : atD 0 p (atD 0 (invL p) x) = x := invL_right h.1 h0 (by rw [h.2]; exact h1)
theorem VP.fr_at (h : VP n p) (hi : i + 1 < n) {x : Int} (h0 : 0 ≤ x) : atD 0 (swpL p i) x = atD 0 p (sw i ((i : Int) + 1) x) := swp_atD (by rw [h.2]; exact hi) h0
theorem VP.sw_in (hi : i + 1 < n) {x : Int} (h0 : 0 ≤ x) (h1 : x < n) : 0 ≤ sw i ((i : Int) + 1) x ∧ sw i ((i : Int) + 1) x < n := sw_rng ⟨by omega, by omega⟩ ⟨by omega, by omega⟩ ⟨h0, h1⟩
theorem VP.fr_inv (h : VP n p) (hi : i + 1 < n) {y : Int} (h0 : 0 ≤ y) (h1 : y < n) : atD 0 (invL (swpL p i)) y = sw i ((i : Int) + 1) (atD 0 (invL p) y) := by
 have hq := h.inv.rg h0 h1
 have hs := VP.sw_in hi hq.1 hq.2
 have e := (h.fr hi).qp hs.1 hs.2
 rwa [h.fr_at hi hs.1, sw_sw, h.pq h0 h1] at e
theorem VP.bk_inv (h : VP n p) (hi : i + 1 < n) : invL (bkP p i) = swpL (invL p) i := inv_inv (h.inv.fr hi).1
theorem VP.bk_at (h : VP n p) (hi : i + 1 < n) {x : Int} (h0 : 0 ≤ x) (h1 : x < n) : atD 0 (bkP p i) x = sw i ((i : Int) + 1) (atD 0 p x) := by
 unfold bkP
 rw [h.inv.fr_inv hi h0 h1, inv_inv h.1]
theorem VP.bg_fr (h : VP n p) (hi : i + 1 < n) {j : Nat} : bgP (swpL p i) j = decide (atD 0 p (sw i ((i : Int) + 1) ((j : Int) + 1)) < atD 0 p (sw i ((i : Int) + 1) j)) := by
 unfold bgP
 rw [h.fr_at hi (by omega), h.fr_at hi (by omega)]
theorem VP.bg_bk (h : VP n p) (hi : i + 1 < n) {j : Nat} (hj : j + 1 < n) : bgP (bkP p i) j = decide (sw i ((i : Int) + 1) (atD 0 p ((j : Int) + 1)) < sw i ((i : Int) + 1) (atD 0 p j)) := by
 unfold bgP
 rw [h.bk_at hi (by omega) (by omega), h.bk_at hi (by omega) (by omega)]
theorem VP.ed_fr (h : VP n p) (hi : i + 1 < n) {j : Nat} (hj : j + 1 < n) : edP (swpL p i) j = decide (sw i ((i : Int) + 1) (atD 0 (invL p) ((j : Int) + 1)) < sw i ((i : Int) + 1) (atD 0 (invL p) j)) := by
 unfold edP bgP
 rw [h.fr_inv hi (by omega) (by omega), h.fr_inv hi (by omega) (by omega)]
theorem VP.ed_bk (h : VP n p) (hi : i + 1 < n) {j : Nat} : edP (bkP p i) j = decide (atD 0 (invL p) (sw i ((i : Int) + 1) ((j : Int) + 1)) < atD 0 (invL p) (sw i ((i : Int) + 1) j)) := by
 unfold edP
 rw [h.bk_inv hi, h.inv.bg_fr hi]
end
theorem sw_out {i x : Int} (h : x ≠ i) (k : x ≠ i + 1) : sw i (i + 1) x = x := by unfold sw; rw [if_neg h, if_neg k]
theorem sw_l (i : Int) : sw i (i + 1) i = i + 1 := by unfold sw; rw [if_pos rfl]
theorem sw_r (i : Int) : sw i (i + 1) (i + 1) = i := by unfold sw; rw [if_neg (by omega), if_pos rfl]
theorem sw_far {i j : Int} (h : i + 1 < j) (x : Int) : sw i (i + 1) (sw j (j + 1) x) = sw j (j + 1) (sw i (i + 1) x) := by unfold sw; repeat' split <;> omega
theorem sw_near (i x : Int) : sw i (i + 1) (sw (i + 1) (i + 1 + 1) (sw i (i + 1) x)) = sw (i + 1) (i + 1 + 1) (sw i (i + 1) (sw (i + 1) (i + 1 + 1) x)) := by unfold sw; repeat' split <;> omega
theorem sw_lt {i a b : Int} (h : a < b) (k : ¬ (a = i ∧ b = i + 1)) : sw i (i + 1) a < sw i (i + 1) b := by unfold sw; repeat' split <;> omega
theorem sw_rev {n i j x : Int} (h : j = n - 2 - i) : n - 1 - sw j (j + 1) x = sw i (i + 1) (n - 1 - x) := by unfold sw; repeat' split <;> omega
def sumK : Nat → List Int → Int
 | _, [] => 0
 | k, a :: l => k * a + sumK (k + 1) l
theorem sumK_swp : ∀ (A C : List Int) (k : Nat) (x y : Int), sumK k (A ++ y :: x :: C) = sumK k (A ++ x :: y :: C) + (x - y)
 | [], C, k, x, y => by
   simp only [List.nil_append, sumK, Int.natCast_add, Int.natCast_one, Int.add_mul, Int.one_mul]
   omega
 | a :: A, C, k, x, y => by
   simp only [List.cons_append, sumK]
   rw [sumK_swp A C (k + 1) x y]
   omega
theorem sumK_lt {n : Nat} : ∀ (l : List Int) (k : Nat), (∀ x ∈ l, 0 ≤ x ∧ x < n) → k + l.length ≤ n → 0 ≤ sumK k l ∧ sumK k l ≤ ((l.length * (n * n) : Nat) : Int)
 | [], k, _, _ => by simp [sumK]
 | a :: l, k, h, hk => by
   have h1 := sumK_lt l (k + 1) (fun x hx => h x (by simp [hx])) (by simp only [List.length_cons] at hk; omega)
   obtain ⟨a0, a1⟩ := h a (by simp)
   have h2 : 0 ≤ (k : Int) * a := Int.mul_nonneg (by omega) a0
   have h3 : (k : Int) * a ≤ ((n * n : Nat) : Int) := by
     rw [Int.natCast_mul]
     exact Int.mul_le_mul (by simp only [List.length_cons] at hk; omega) (by omega) a0 (by omega)
   simp only [sumK, List.length_cons, Nat.add_mul, Nat.one_mul, Int.natCast_add]
   omega
theorem swp_split {q : List Int} {i : Nat} (hi : i + 1 < q.length) : ∃ A C x y, A.length = i ∧ q = A ++ x :: y :: C ∧ swpL q i = A ++ y :: x :: C ∧ atD 0 q (i : Int) = x ∧ atD 0 q ((i : Int) + 1) = y := by
 refine ⟨q.take i, q.drop (i + 2), q[i], q[i + 1], by simp; omega, ?_, ?_, ?_, ?_⟩
 ·rw [List.getElem_cons_drop, List.getElem_cons_drop, List.take_append_drop]
 ·have e : q = q.take i ++ q[i] :: q[i + 1] :: q.drop (i + 2) := by rw [List.getElem_cons_drop, List.getElem_cons_drop, List.take_append_drop]
  have h := swpL_at (q.take i) (q.drop (i + 2)) q[i] q[i + 1]
  rw [← e, show (q.take i).length = i by simp; omega] at h
  exact h
 ·unfold atD
  rw [List.getD_eq_getElem?_getD, show (i : Int).toNat = i by omega, List.getElem?_eq_getElem (by omega)]; rfl
 ·unfold atD
  rw [List.getD_eq_getElem?_getD, show ((i : Int) + 1).toNat = i + 1 by omega, List.getElem?_eq_getElem (by omega)]; rfl
def htP (p : List Int) : Nat := (sumK 0 (invL p)).toNat
theorem VP.mem {n : Nat} {p : List Int} (h : VP n p) : ∀ x ∈ p, 0 ≤ x ∧ x < n := by
 intro x hx
 obtain ⟨k, hk, rfl⟩ := List.getElem_of_mem hx
 have := h.rg (x := (k : Int)) (by omega) (by have := h.2; omega)
 unfold atD at this
 rwa [List.getD_eq_getElem?_getD, show (k : Int).toNat = k by omega, List.getElem?_eq_getElem hk] at this
theorem ht_lt {n : Nat} {p : List Int} (h : VP n p) : htP p < n * (n * n) + 1 := by
 have := sumK_lt (n := n) (invL p) 0 h.inv.mem (by rw [h.inv.2]; omega)
 rw [h.inv.2] at this
 unfold htP
 omega
theorem ht_bk {n : Nat} {p : List Int} {i : Nat} (h : VP n p) (hi : i + 1 < n) (he : edP p i = false) : htP (bkP p i) < htP p := by
 have hn := h.inv
 obtain ⟨A, C, x, y, hA, e1, e2, hx, hy⟩ := swp_split (q := invL p) (i := i) (by rw [hn.2]; exact hi)
 have hs := sumK_swp A C 0 x y
 rw [← e1, ← e2] at hs
 unfold edP bgP at he
 have he := of_decide_eq_false he
 rw [hx, hy] at he
 have hne : x ≠ y := fun e => by
  have := hn.pi (x := (i : Int)) (y := (i : Int) + 1) (by omega) (by omega) (by omega) (by omega) (by rw [hx, hy, e])
  omega
 have h0 := sumK_lt (n := n) (swpL (invL p) i) 0 (hn.fr hi).mem (by rw [(hn.fr hi).2]; omega)
 have h1 := sumK_lt (n := n) (invL p) 0 hn.mem (by rw [hn.2]; omega)
 unfold htP
 rw [h.bk_inv hi]
 omega
end Go.Proofs.YtngpopalpofhgaaGreatDoor

namespace Go.Proofs.YtngpopalpofhgaaGreatDoor
open Go.RowKit
set_option maxHeartbeats 4000000
set_option maxRecDepth 100000
theorem bneg_any (n : Int) (w : World) (h : -1000 ≤ n) (h2 : n ≤ 1000) :
  Calls Tryz.prog 52 #[.int .i64 n] w fun r w' => r = .returned (.int .i64 (-n)) ∧ w = w' := by
 have hw : IntKind.i64.wrap (-n) = -n := IntWalk.i64_in _ (by omega)
 go_enter Tryz.func52, Tryz.ntmps52
 go_wp2
 go_ret
 exact ⟨rfl, rfl⟩
def negW (l : List Int) : List Int := l.map fun x => -x
theorem bmapneg_any (al : Option Addr) (cl : Nat) (l : List Int) (w : World) (hL : Ints w al cl l) (hn : l.length ≤ 1000) (hf : ∀ x ∈ l, -1000 ≤ x ∧ x ≤ 1000) :
  Calls Tryz.prog 51 #[.slice al l.length cl, .func (.func 52) #[] #[]] w fun r w' => ∃ v, r = .returned v ∧ OwnI w.heap.size w' v (negW l) ∧ Below w.heap.size w w' := by
 have hcap := hL.le
 have hmx := hL.max
 have H : Hid (∀ x ∈ l, ∀ w', Calls Tryz.prog 52 #[.int .i64 x] w' fun r w'' => r = .returned (.int .i64 (-x)) ∧ w' = w'') := hid fun x hx w' => bneg_any x w' (hf x hx).1 (hf x hx).2
 have hS := (SL.nil w).nilS (α := Int) (e := 3) cIntS
 go_enter Tryz.func51, Tryz.ntmps51
 go_wp2_with fail
 go_loopw [10, 7, 5] (fun i _ v wr => ∃ k : Nat, k ≤ l.length ∧ i = .int .i64 k ∧ SL w.heap.size w wr [pOwn cInt 1 3 v (negW (l.take k))]) (fun i _ _ _ => l.length - (intOf i).toNat)
 case atStart => exact ⟨0, by omega, rfl, hS⟩
 case round =>
  clear hS
  obtain ⟨k, hk, rfl, hSr⟩ := hrel
  have hLr := hL.below hSr.b
  by_cases hlt : k < l.length
  ·have hmem := atD_mem hlt
   have ht : l.take (k + 1) = l.take k ++ [atD 0 l k] := by rw [List.take_succ_eq_append_getElem hlt]; simp [atD, hlt]
   have hlen : (negW (l.take k)).length ≤ 1048576 := by unfold negW; simp; omega
   obtain ⟨x, hx⟩ : ∃ x, x = atD 0 l k := ⟨_, rfl⟩
   rw [← hx] at hmem ht
   have HX := hid hx; have HT := hid ht
   clear hx ht
   go_wp2_with ((with_reducible refine wpList_idx _ 0 E_ints F_int cInt1 wU wU (hLr) oD oD (fun _ => wU) (fun _ => ?_)); rw [← HX.out])
   refine (H.out x hmem _).mono ?_
   rintro e w1 ⟨rfl, rfl⟩
   go_wp2_with ((with_reducible refine wpList_pushL (y := (-x)) 0 E_ints wU wU (hSr) wU cIntO ⟨rfl, rfl⟩ (by first | with_unfolding_all rfl | simp) wU (by first | omega | (simp; omega)) (by first | omega | (simp; omega)) ?_); intro v2 w2 hS2)
   exact ⟨⟨k + 1, by omega, by go_num, by rw [HT.out]; unfold negW at hS2 ⊢; rw [List.map_append]; exact hS2⟩, by simp [intOf]; omega⟩
  ·have hkk : k = l.length := by omega
   subst hkk
   rw [List.take_length] at hSr
   clear hlt
   go_wp2_with fail
   go_ret
   exact ⟨_, rfl, hSr.own 0 rfl, hSr.b⟩
theorem word_small {n : Int} {l : List Int} (h : wordE n l = 0) : ∀ x ∈ l, -1000 ≤ x ∧ x ≤ 1000 := fun x hx => by
 obtain ⟨h1, h2, _, h4⟩ := wordE_fits h
 have := h4 x hx
 omega
end Go.Proofs.YtngpopalpofhgaaGreatDoor

namespace Go.Proofs.YtngpopalpofhgaaGreatDoor
open Go.RowKit
set_option maxRecDepth 100000
section
variable {ops : Array Oper} {rest : List Oper} {a : Act} {Q : Exit → Act → World → Prop} {w : World} {ty : TypeId} {p : String} {af : Array Edge}
/-- a store into a cell that is known. -/
theorem wpList_stoAt {e : TypeId} {x y : Operand} {pa : Addr} {u v : Value} (hsto : (w.cell? pa).isSome = true → w.frozen? pa = false → (Instr.storeAt e (.pointer (some pa)) v).run Tryz.prog w = .ok () (w.setCell pa v)) (hx : a.eval x = .pointer (some pa)) (hy : a.eval y = v)
  (hc : w.cell? pa = some u) (hf : w.frozen? pa = false) (h : wpList Tryz.prog ops Q rest (a.put none undef) (w.setCell pa v)) :
  wpList Tryz.prog ops Q (⟨none, .store e x y, ty, p, af, none⟩ :: rest) a w := by
 refine wpList_plain rfl fun K hK' => ?_
 have hs := hsto (by rw [hc]; rfl) hf
 unfold Oper.wp
 simp only [execOp, hx, hy]
 simp [hs, Result.andThen]
 exact hK' _ _ h
end
/-- the handles H lead to the rows of M. -/
def mxQ (H : List SlH) (M : List (List Int)) : List (SlH × List Int) := H.zip M
section
variable {B : Nat} {w0 w : World} {pre : List Pc}
end
end Go.Proofs.YtngpopalpofhgaaGreatDoor

namespace Go.Proofs.YtngpopalpofhgaaGreatDoor
open Go.RowKit
set_option maxHeartbeats 1000000
set_option maxRecDepth 100000

end Go.Proofs.YtngpopalpofhgaaGreatDoor

namespace Go.Proofs.YtngpopalpofhgaaGreatDoor
open Go.RowKit
set_option maxHeartbeats 1000000
set_option maxRecDepth 100000

end Go.Proofs.YtngpopalpofhgaaGreatDoor

namespace Go.Proofs.YtngpopalpofhgaaGreatDoor
open Go.RowKit
set_option maxHeartbeats 1000000
set_option maxRecDepth 100000

section
variable {P : Program} {ops : Array Oper} {Qa : Act → Prop} {w : World} {rest : List Oper} {a : Act} {ty : TypeId} {p : String} {af : Array Edge} {g : Option (Nat × Bool)} {d : Tmp}
end

def shortM (n : Nat) : Bool := decide (n ≤ 40) || (decide (1000 < n) && decide (n ≤ 1002))
end Go.Proofs.YtngpopalpofhgaaGreatDoor

namespace Go.Proofs.YtngpopalpofhgaaGreatDoor
open Go.RowKit Go.Maps
set_option maxRecDepth 100000

section
variable {ops : Array Oper} {rest : List Oper} {a : Act} {Q : Exit → Act → World → Prop} {d : Option Tmp} {ty : TypeId} {p : String} {m x y : Operand} {af : Array Edge} {g : Option (Nat × Bool)} {b n B : Nat} {k : Int} {w0 w : World} {L : List Pc} {l : List Int}
end
section
variable {P : Program} {ops : Array Oper} {rest : List Oper} {a : Act} {α : Type} {c : α → Value} {sz bytes : Nat} {t e t2 e2 : TypeId} {z : Value} {ad : Option Addr} {cap n : Nat} {l : List α} {k : Int} {w : World}
 {d1 d2 d3 : Tmp} {ty1 ty2 ty3 : TypeId} {p1 p2 p3 : String} {s x : Operand} {af1 af2 af3 : Array Edge} {j : Nat} {g1 g2 g3 : Option (Nat × Bool)}
end
section
variable {P : Program} {ops : Array Oper} {a : Act} {ty : TypeId} {p : String} {af : Array Edge} {g : Option (Nat × Bool)} {d : Tmp} {C : World → Prop}
theorem yieldsK_cellC {e : TypeId} {s : Operand} {x : Addr} {v : Value} (hF : Flat P e) (hb : ∀ w, C w → w.cell? x = some v) (hg : Region.wanted (⟨some d, .load e s, ty, p, af, g⟩ : Oper) (yielded ops a.tmps) = true) (hs : a.eval s = .pointer (some x)) :
  YieldsK P ops C ⟨some d, .load e s, ty, p, af, g⟩ v a :=
 .inl ⟨hg, fun w' hw' => by simp [execOp, hs, run_loadAt_cell w' hF (hb w' hw'), Result.andThen]⟩
end
end Go.Proofs.YtngpopalpofhgaaGreatDoor

namespace Go.Proofs.YtngpopalpofhgaaGreatDoor
open Go.RowKit
set_option maxHeartbeats 1000000
set_option maxRecDepth 100000
section
variable {P : Program} {ops : Array Oper} {rest : List Oper} {a : Act} {Qa : Act → Prop} {α : Type} {c : α → Value} {sz bytes : Nat} {t e : TypeId} {z : Value} {ad : Option Addr} {cap : Nat} {l : List α} {k : Int} {w : World}
 {d1 d2 : Tmp} {ty1 ty2 : TypeId} {p1 p2 : String} {s x : Operand} {af1 af2 : Array Edge}
theorem wpB_idx2 (d : α) (E : ETy P t e z sz bytes) (hF : Flat P e) (hc : ∀ x, (c x).cells = #[c x])
   {n : Nat} (hs : a.eval s = .slice ad n cap) (hn : l.length = n) (hx : a.eval x = .int .i64 k) (hR : Reps c sz w ad cap l) (h0 : 0 ≤ k) (hlt : k < l.length) (hd : ∀ p, (a.put (some d1) p).eval (.tmp d1) = p)
   (hK : ∀ p, wpQuiet P ops (Below w.heap.size w) Qa rest ((a.put (some d1) p).put (some d2) (c (atD d l k)))) :
   wpQuiet P ops (Below w.heap.size w) Qa (⟨some d1, .indexAddr t s x, ty1, p1, af1, none⟩ :: ⟨some d2, .load e (.tmp d1), ty2, p2, af2, none⟩ :: rest) a := by
 subst hn
 have hkl : k.toNat < l.length := by omega
 obtain ⟨b, o, rfl, hcs⟩ := hR.cells E.pos d k.toNat hkl
 have hcell := hcs 0 (c (atD d l k)) (by rw [show l.getD k.toNat d = atD d l k from rfl, hc]; rfl)
 refine wpQ_in (.pointer (some ((⟨b, o, none⟩ : Addr).add (k.toNat * sz)))) rfl (fun w' hw' => ?_) (wpQ_in (c (atD d l k)) rfl (fun w' hw' => ?_) (hK _))
 ·have h1 := run_indexAt_sl (P := P) (a := ⟨b, o, none⟩) (cap := cap) w' E h0 hlt
  simp [execOp, hs, hx, h1, Result.andThen]
 ·have h2 := run_loadAt_cell (P := P) w' (a := (⟨b, o, none⟩ : Addr).add (k.toNat * sz)) (v := c (atD d l k)) hF (by
   rw [Addr.add_z]
   exact (hw'.cell (World.block_lt_of_cell? w _ hcell)).trans hcell)
  simp [execOp, hd, h2, Result.andThen]
end
end Go.Proofs.YtngpopalpofhgaaGreatDoor

namespace Go.Proofs.YtngpopalpofhgaaGreatDoor
open Go.RowKit Go.ChangeShapes Go.WideShapes Go.ChangeAt
set_option maxRecDepth 100000

theorem kidsP : Kids Tryz.prog (· < Tryz.prog.types.size) := kids_rows kR kR
theorem fullP : ∀ t e, t < Tryz.prog.types.size → Tryz.prog.underlying t = some (.slice e) → 0 < Tryz.prog.cellsOf e := slices_full_of Tryz.prog kR

section
variable {H : Type} {enc : TypeId × Value → H} {P : Program} {W W' : World}
theorem trodAll_carryW {base : Nat} {sp : Nat → Bool} {held : Bool} : ∀ {ts : List TypeId} {vs : List Value} {ds : List (DataW H)} {ps : List MemPlace}, DataW.TrodAll enc P W base sp held ts vs ds ps → (∀ p ∈ ps, W.sameAt W' p) → DataW.TrodAll enc P W' base sp held ts vs ds ps
 | [], [], [], _, h, _ => h
 | _ :: _, _ :: _, _ :: _, _, ⟨p, q, ⟨n, h1⟩, h2, e⟩, hs => ⟨p, q, ⟨n, DataW.trod_carry n _ _ _ h1 (fun x hx => hs x (by rw [e]; exact List.mem_append_left _ hx))⟩, trodAll_carryW h2 (fun x hx => hs x (by rw [e]; exact List.mem_append_right _ hx)), e⟩
theorem sameAt_below (hb : Below W.heap.size W W') {p : MemPlace} (h : p.block < W.heap.size) : W.sameAt W' p := by
 cases p with
 | cell b off => exact (hb.cell (p := ⟨b, off, none⟩) h)
 | map b => exact hb.block b h
theorem kept_below (hb : Below W.heap.size W W') (may : MemPlace → Prop) : W.keptBut W' may := by
 refine ⟨hb.os, hb.output, fun i hi => ?_⟩
 rw [hb.block i hi]
 cases h : W.heap[i]? with
 | none => rfl
 | some o =>
  cases o with
  | cells c t fr => exact ⟨rfl, rfl, rfl, fun _ _ => rfl⟩
  | map es clock => exact .inr ⟨rfl, rfl⟩
  | _ => rfl
/-- a law that returns true and turns nothing that was there. -/
theorem law_post {f : Func} {s : ChangeSpec} {args : Array Value} {ds gs : List (DataW H)} {before : List MemPlace} (hv : s.vars = []) (hr : f.resultTypes = #[4]) (hp : ∀ t ∈ f.params.toList, t < Tryz.prog.types.size)
   (hs : (s.fn H ds).results = [.lit (.bool true)] ∧ (s.fn H ds).args = ds ∧ (s.fn H ds).vars = [])
   (hW : DataW.Whole enc Tryz.prog f.params.toList s.vars false W args.toList ds gs before) (hb : Below W.heap.size W W') : s.post enc Tryz.prog f false true false false W args (.bool true) W' := by
 have hlt := hW.lt
 have hW' := hW
 obtain ⟨p, q, hA, hV, rfl, hfz, _⟩ := hW
 rw [hv] at hV
 have hgs : gs = [] ∧ q = [] := by
  cases gs with
  | nil => exact ⟨rfl, hV⟩
  | cons g gs => exact absurd hV id
 obtain ⟨rfl, rfl⟩ := hgs
 simp only [List.append_nil] at hlt hW' ⊢
 have hsame : ∀ p' ∈ p, W.sameAt W' p' := fun p' hp' => sameAt_below hb (hlt p' hp')
 refine ⟨ds, [], p, [], p, [], hW', ?_, ?_, ?_, kept_below hb _, fun h => by cases h⟩
 ·rw [List.append_nil, hs.1, hr]
  exact trodAll_cons_mk (shut_bool Tryz.underlying4 _) trodAll_mk0
 ·rw [List.append_nil, hs.2.1]
  exact DataW.TrodAll.respare kidsP fullP hp (trodAll_carryW hA hsame) (fun p' hp' => by simpa using hlt p' hp')
 ·rw [List.append_nil, hs.2.2, hv]
  rfl
end
end Go.Proofs.YtngpopalpofhgaaGreatDoor

namespace Go.Proofs.YtngpopalpofhgaaGreatDoor
open Go.RowKit Go.ChangeShapes Go.WideShapes Go.ChangeAt Go.Joins Go.Deep
set_option maxRecDepth 100000
theorem cellsInt : Tryz.prog.cellsOf 3 = 1 := by kernel_rfl
theorem inI_wf {x : Int} (h : (Lit.int .i64 x).wf = true) : InI x := by
 simp [Lit.wf, IntKind.min, IntKind.max, IntKind.bits, IntKind.signed] at h
 unfold InI
 omega
section
variable {H : Type} {enc : TypeId × Value → H} {W : World}
theorem open_intA {r : Reach} {b0 : Nat} {v : Value} {d : DataW H} {ps : List MemPlace} (hval : Value.okWide Tryz.prog W r b0 3 v) (h : DataW.Trod enc Tryz.prog W 0 (fun _ => true) true 3 v d ps) : ∃ x : Int, v = .int .i64 x ∧ InI x := by
 obtain ⟨y, rfl⟩ := okWide_int Tryz.underlying3 hval
 obtain ⟨n, hn⟩ := h
 obtain ⟨x, e, _, w0⟩ := DataW.trod_int Tryz.underlying3 hn
 simp [Value.cells] at e
 subst e
 exact ⟨y, rfl, inI_wf w0⟩
end
end Go.Proofs.YtngpopalpofhgaaGreatDoor

namespace Go.Proofs.YtngpopalpofhgaaGreatDoor
open Go.RowKit Go.ChangeShapes Go.WideShapes Go.ChangeAt Go.Joins Go.Deep
set_option maxRecDepth 100000

theorem reps_of_cells {α : Type} {c : α → Value} {sz : Nat} {W : World} (hc : ∀ x, (c x).cells.size = sz) (hp : 0 < sz) (d : α) {a : Addr} {cap : Nat} {l : List α} (hl : l.length ≤ cap) (hm : cap ≤ maxLen)
   (h : ∀ i j, i < l.length → j < sz → W.cell? (a.add (i * sz + j)) = (c (l.getD i d)).cells.toList[j]?) : Reps c sz W (some a) cap l := by
 refine ⟨hc, hl, hm, fun h => (by cases h), fun j u hj => ?_⟩
 have hg : ∀ x, ((c x).cells.toList).length = sz := fun x => by simpa using hc x
 have hjl : j < l.length * sz := by
  have := (List.getElem?_eq_some_iff.1 hj).1
  rwa [flat_len (fun x => (c x).cells.toList) sz hg] at this
 have hi : j / sz < l.length := (Nat.div_lt_iff_lt_mul hp).2 hjl
 have hjm := Nat.mod_lt j hp
 have e : j / sz * sz + j % sz = j := Nat.div_add_mod' j sz
 have h1 := flat_get (fun x => (c x).cells.toList) sz hg d l (j / sz) (j % sz) hi hjm
 rw [e, hj] at h1
 have h2 := h (j / sz) (j % sz) hi hjm
 rw [e, ← h1] at h2
 have h00 := h 0 0 (Nat.lt_of_le_of_lt (Nat.zero_le _) hi) hp
 obtain ⟨v0, hv0⟩ : ∃ v, (c (l.getD 0 d)).cells.toList[0]? = some v := ⟨_, List.getElem?_eq_getElem (by rw [hg]; exact hp)⟩
 rw [hv0] at h00
 simp only [Nat.zero_mul, Nat.add_zero] at h00
 have hsp : a.spot = none := by
  unfold World.cell? Addr.add at h00
  simp only [if_pos] at h00
  split at h00
  ·split at h00
   ·cases h00
   ·next h => simpa using h
  ·cases h00
 refine ⟨a.block, a.off, by rw [← hsp], ?_⟩
 have e2 : a.add j = ⟨a.block, a.off + j, none⟩ := by
  unfold Addr.add
  split
  ·next h => subst h; rw [← hsp]; rfl
  ·rfl
 rw [e2] at h2
 exact h2
section
variable {H : Type} {enc : TypeId × Value → H} {W : World}
end
end Go.Proofs.YtngpopalpofhgaaGreatDoor

namespace Go.Proofs.YtngpopalpofhgaaGreatDoor
open Go.RowKit Go.ChangeShapes Go.WideShapes Go.ChangeAt Go.Joins Go.Deep
set_option maxRecDepth 100000

theorem cellsStr : Tryz.prog.cellsOf 9 = 1 := by kernel_rfl
theorem cellsRPass : Tryz.prog.cellsOf 53 = 3 := by kernel_rfl
section
variable {H : Type} {enc : TypeId × Value → H} {W : World}
theorem open_passesA {r : Reach} {b0 : Nat} {v : Value} {d : DataW H} {ps : List MemPlace} (hval : Value.okWide Tryz.prog W r b0 44 v) (h : DataW.Trod enc Tryz.prog W 0 (fun _ => true) true 44 v d ps) :
  ∃ a cap l, v = .slice a l.length cap ∧ PassesR W a cap l := by
 obtain ⟨a0, len, cap, rfl⟩ := okWide_slice Tryz.underlying44 hval
 obtain ⟨fuel, hf⟩ := h
 rcases open_slice Tryz.underlying44 hf with ⟨hcs, _⟩ | ⟨a, len', cap', m, n, D, Pl, hcs, _, hl, hm, hmm, _, hx⟩
 ·simp [Value.cells] at hcs
  obtain ⟨rfl, rfl, rfl⟩ := hcs
  exact ⟨_, _, [], rfl, ⟨cPassS, Nat.le_refl _, Nat.zero_le _, fun _ => rfl, fun j u hu => by simp at hu⟩⟩
 ·simp [Value.cells] at hcs
  obtain ⟨rfl, rfl, rfl⟩ := hcs
  simp only [if_true] at hmm
  have hv : ∀ i, i < len → ∃ p : PassV, ∀ j, j < 3 → W.cell? (a.add (i * 3 + j)) = (cPass p).cells.toList[j]? := by
   intro i hi
   obtain ⟨cs', h1, h2⟩ := hx i (by omega)
   rw [cellsRPass] at h1
   obtain ⟨_, hlen, hcell⟩ := World.cells?_some h1
   obtain ⟨xs, k, hk, hxy, _, hxl, hf'⟩ := DataW.trod_struct Tryz.underlying53 h2
   match xs, hxl, cs', hlen with
   | [y0, y1, y2], _, [v0, v1, v2], _ =>
    have g0 := hf' 0 _ rfl
    have g1 := hf' 1 _ rfl
    have g2 := hf' 2 _ rfl
    simp [cellsInt, cellsStr] at g0 g1 g2
    obtain ⟨x, e0, _⟩ := DataW.trod_int Tryz.underlying3 g0
    obtain ⟨y, e1, _⟩ := DataW.trod_int Tryz.underlying3 g1
    obtain ⟨s, e2, _⟩ := DataW.trod_string Tryz.underlying9 g2
    simp at e0 e1 e2
    subst e0 e1 e2
    refine ⟨⟨x, y, s⟩, fun j hj => ?_⟩
    have := hcell j hj
    rw [add_add] at this
    rw [this]
    match j, hj with
    | 0, _ => rfl
    | 1, _ => rfl
    | 2, _ => rfl
  obtain ⟨F, hF⟩ : ∃ F : Nat → PassV, ∀ i, i < len → ∀ j, j < 3 → W.cell? (a.add (i * 3 + j)) = (cPass (F i)).cells.toList[j]? :=
   ⟨fun i => if h : i < len then (hv i h).choose else pass0, fun i hi => by simp only [hi, dif_pos]; exact (hv i hi).choose_spec⟩
  obtain ⟨l, hL⟩ : ∃ l : List PassV, l = (List.range len).map F := ⟨_, rfl⟩
  have hlen : l.length = len := by rw [hL]; simp
  refine ⟨some a, cap, l, by rw [hlen], reps_of_cells cPassS (by decide) pass0 (by omega) hm (fun i j hi hj => ?_)⟩
  have hi2 : i < len := by omega
  have e : l.getD i pass0 = F i := by rw [hL]; simp [hi2]
  rw [e]
  exact hF i hi2 j hj
end
end Go.Proofs.YtngpopalpofhgaaGreatDoor

namespace Go.Proofs.YtngpopalpofhgaaGreatDoor
open Go.ChangeShapes Go.WideShapes Go.ChangeAt Go.RowKit
set_option maxRecDepth 100000
theorem ownP : ownKnob Tryz.prog.godebug = none := by kernel_rfl
/-- a table's cells. -/
def flatD : Nat → DataW Unit → List Value
 | 0, _ => []
 | _ + 1, .lit (.int k v) => [.int k v]
 | n + 1, .agg l => l.flatMap (flatD n)
 | _, _ => []
def layAt (d : DataW Unit) : Obj → Obj
 | .cells _ t fr => .cells (flatD 4 d).toArray t fr
 | o => o
noncomputable def laidWorld (os : Os) : World :=
 { World.holding Tryz.prog os ⟨#[], #[], []⟩ with heap := (((((World.holding Tryz.prog os ⟨#[], #[], []⟩).heap.modify 6 (layAt Rows.laid_math_bits_deBruijn32tab)).modify 7 (layAt Rows.laid_math_bits_deBruijn64tab)).modify 5 (layAt Rows.laid_internal_strconv_uint64pow10)).modify 2 (layAt Rows.laid_unicode_utf8_acceptRanges)).modify 1 (layAt Rows.laid_unicode_utf8_first) }
end Go.Proofs.YtngpopalpofhgaaGreatDoor

namespace Go.Proofs.YtngpopalpofhgaaGreatDoor
open Go.ChangeShapes Go.WideShapes Go.ChangeAt Go.RowKit
set_option maxRecDepth 100000
theorem g1 : (laidOutB Tryz.prog) = true := by kernel_rfl
theorem g2 : (mapsRowed Tryz.prog) = true := by kernel_rfl
theorem g6 : ((Tryz.prog.stops == [])) = true := by kernel_rfl
theorem g8 : ((Tryz.prog.stopKnobs == [])) = true := by kernel_rfl
theorem g24 : (Tryz.prog.stopsHeard) = true := by kernel_rfl
theorem g25 : (Tryz.prog.mayEnter) = true := by kernel_rfl
end Go.Proofs.YtngpopalpofhgaaGreatDoor

namespace Go.Proofs.YtngpopalpofhgaaGreatDoor
set_option maxRecDepth 100000
theorem idL_VP (n : Nat) : VP n (idL n) := ⟨idL_isP n, by rw [idL_len]⟩
theorem rev_at {n : Nat} {x : Int} (h0 : 0 ≤ x) (h1 : x < n) : atD 0 (revP n) x = n - 1 - x := map_atD (fun x => (n : Int) - 1 - x) h0 h1
theorem rev_len (n : Nat) : (revP n).length = n := by simp [revP]
theorem VP_of {n : Nat} {l : List Int} (hl : l.length = n) (f g : Int → Int) (hf : ∀ x : Int, 0 ≤ x → x < n → atD 0 l x = f x) (hr : ∀ x : Int, 0 ≤ x → x < n → 0 ≤ f x ∧ f x < n) (hg : ∀ x : Int, 0 ≤ x → x < n → g (f x) = x) : VP n l := by
 refine ⟨⟨fun x x0 x1 => ?_, fun x y x0 x1 y0 y1 e => ?_⟩, hl⟩
 ·rw [hl] at x1 ⊢; rw [hf x x0 x1]; exact hr x x0 x1
 ·rw [hl] at x1 y1
  rw [hf x x0 x1, hf y y0 y1] at e
  rw [← hg x x0 x1, e, hg y y0 y1]
theorem VP.inv_eq {n : Nat} {p : List Int} (h : VP n p) (g : Int → Int) (hr : ∀ x : Int, 0 ≤ x → x < n → 0 ≤ g x ∧ g x < n ∧ atD 0 p (g x) = x) {y : Int} (h0 : 0 ≤ y) (h1 : y < n) : atD 0 (invL p) y = g y := by
 obtain ⟨a, b, c⟩ := hr y h0 h1
 have := h.qp a b
 rwa [c] at this
theorem rev_VP (n : Nat) : VP n (revP n) := VP_of (rev_len n) (fun x => n - 1 - x) (fun x => n - 1 - x) (fun x a b => rev_at a b) (fun x a b => by omega) (fun x a b => by omega)
theorem rev_inv {n : Nat} {y : Int} (h0 : 0 ≤ y) (h1 : y < n) : atD 0 (invL (revP n)) y = n - 1 - y := (rev_VP n).inv_eq (fun y => n - 1 - y) (fun x a b => ⟨by omega, by omega, by rw [rev_at (by omega) (by omega)]; omega⟩) h0 h1
theorem id_inv {n : Nat} {y : Int} (h0 : 0 ≤ y) (h1 : y < n) : atD 0 (invL (idL n)) y = y := (idL_VP n).inv_eq (fun y => y) (fun x a b => ⟨a, b, idL_at a b⟩) h0 h1
section
variable {n : Nat} {p : List Int}
theorem VP.fl_at (h : VP n p) {x : Int} (h0 : 0 ≤ x) (h1 : x < n) : atD 0 (flP p) x = n - 1 - atD 0 p (n - 1 - x) := by
 unfold flP
 rw [h.2]
 exact map_atD (fun x => (n : Int) - 1 - atD 0 p (n - 1 - x)) h0 h1
theorem VP.co_at (h : VP n p) {x : Int} (h0 : 0 ≤ x) (h1 : x < n) : atD 0 (coP p) x = n - 1 - atD 0 (invL p) x := by
 unfold coP
 rw [h.2]
 exact map_atD (fun x => (n : Int) - 1 - atD 0 (invL p) x) h0 h1
theorem VP.fl (h : VP n p) : VP n (flP p) := VP_of (by unfold flP; simp [h.2]) (fun x => n - 1 - atD 0 p (n - 1 - x)) (fun x => n - 1 - atD 0 (invL p) (n - 1 - x)) (fun x a b => h.fl_at a b)
 (fun x a b => by have := h.rg (x := n - 1 - x) (by omega) (by omega); omega)
 (fun x a b => by rw [show (n : Int) - 1 - (n - 1 - atD 0 p (n - 1 - x)) = atD 0 p (n - 1 - x) by omega, h.qp (by omega) (by omega)]; omega)
theorem VP.co (h : VP n p) : VP n (coP p) := VP_of (by unfold coP; simp [h.2]) (fun x => n - 1 - atD 0 (invL p) x) (fun x => atD 0 p (n - 1 - x)) (fun x a b => h.co_at a b)
 (fun x a b => by have := h.inv.rg a b; omega)
 (fun x a b => by rw [show (n : Int) - 1 - (n - 1 - atD 0 (invL p) x) = atD 0 (invL p) x by omega, h.pq a b])
theorem VP.fl_inv (h : VP n p) {y : Int} (h0 : 0 ≤ y) (h1 : y < n) : atD 0 (invL (flP p)) y = n - 1 - atD 0 (invL p) (n - 1 - y) :=
 h.fl.inv_eq (fun y => n - 1 - atD 0 (invL p) (n - 1 - y)) (fun x a b => by
  have := h.inv.rg (x := n - 1 - x) (by omega) (by omega)
  refine ⟨by omega, by omega, ?_⟩
  rw [h.fl_at (by omega) (by omega), show (n : Int) - 1 - (n - 1 - atD 0 (invL p) (n - 1 - x)) = atD 0 (invL p) (n - 1 - x) by omega, h.pq (by omega) (by omega)]
  omega) h0 h1
theorem VP.co_inv (h : VP n p) {y : Int} (h0 : 0 ≤ y) (h1 : y < n) : atD 0 (invL (coP p)) y = atD 0 p (n - 1 - y) :=
 h.co.inv_eq (fun y => atD 0 p (n - 1 - y)) (fun x a b => by
  have := h.rg (x := n - 1 - x) (by omega) (by omega)
  refine ⟨by omega, by omega, ?_⟩
  rw [h.co_at (by omega) (by omega), h.qp (by omega) (by omega)]
  omega) h0 h1
theorem VP.ne (h : VP n p) {j : Nat} (hj : j + 1 < n) : atD 0 p (j : Int) ≠ atD 0 p ((j : Int) + 1) := fun e => by
 have := h.pi (x := (j : Int)) (y := (j : Int) + 1) (by omega) (by omega) (by omega) (by omega) e
 omega
theorem VP.up (h : VP n p) (k : ∀ i, i + 1 < n → bgP p i = false) : ∀ x : Int, 0 ≤ x → x < n → atD 0 p x = x := by
 have st : ∀ j : Nat, j + 1 < n → atD 0 p (j : Int) < atD 0 p ((j : Int) + 1) := fun j hj => by
  have a := k j hj
  unfold bgP at a
  have a := of_decide_eq_false a
  have b := h.ne hj
  omega
 have lo : ∀ j : Nat, j < n → (j : Int) ≤ atD 0 p j := by
  intro j
  induction j with
  | zero => intro hj; exact (h.rg (x := ((0 : Nat) : Int)) (by omega) (by omega)).1
  | succ j ih =>
   intro hj
   have := ih (by omega)
   have := st j hj
   rw [show ((j + 1 : Nat) : Int) = (j : Int) + 1 by omega]
   omega
 have hi : ∀ d j : Nat, j + d + 1 = n → atD 0 p j ≤ j := by
  intro d
  induction d with
  | zero =>
   intro j hj
   have := (h.rg (x := (j : Int)) (by omega) (by omega)).2
   omega
  | succ d ih =>
   intro j hj
   have a := ih (j + 1) (by omega)
   have b := st j (by omega)
   rw [show ((j + 1 : Nat) : Int) = (j : Int) + 1 by omega] at a
   omega
 intro x x0 x1
 obtain ⟨j, rfl⟩ : ∃ j : Nat, x = j := ⟨x.toNat, by omega⟩
 have a := lo j (by omega)
 have b := hi (n - 1 - j) j (by omega)
 omega
theorem VP.down (h : VP n p) (k : ∀ i, i + 1 < n → bgP p i = true) : ∀ x : Int, 0 ≤ x → x < n → atD 0 p x = n - 1 - x := by
 have hv : VP n ((List.range n).map fun (i : Nat) => (n : Int) - 1 - atD 0 p i) := VP_of (by simp) (fun x => n - 1 - atD 0 p x) (fun x => atD 0 (invL p) (n - 1 - x)) (fun x a b => map_atD (fun x => (n : Int) - 1 - atD 0 p x) a b)
  (fun x a b => by have := h.rg a b; omega) (fun x a b => by rw [show (n : Int) - 1 - (n - 1 - atD 0 p x) = atD 0 p x by omega, h.qp a b])
 have hu := hv.up fun i hi => by
  have a := k i hi
  unfold bgP at a ⊢
  have a := of_decide_eq_true a
  rw [map_atD (fun x => (n : Int) - 1 - atD 0 p x) (by omega) (by omega), map_atD (fun x => (n : Int) - 1 - atD 0 p x) (by omega) (by omega)]
  exact decide_eq_false (by omega)
 intro x x0 x1
 have := hu x x0 x1
 rw [map_atD (fun x => (n : Int) - 1 - atD 0 p x) x0 x1] at this
 omega
end
noncomputable def garN (n : Nat) : GarT (List Int) where
 N := n - 1
 V := VP n
 B := bgP
 E := edP
 fr := swpL
 bk := bkP
 ht := htP
 K := n * (n * n) + 1
 vfr h hi := h.fr (by omega)
 vbk h hi := h.bk (by omega)
 hK h := ht_lt h
 lbk h hi he := ht_bk h (by omega) he
 farF {b i j} h hi hj hf := by
  have hi : i + 1 < n := by omega
  have hj : j + 1 < n := by omega
  refine ⟨?_, ?_, ?_⟩
  ·rw [h.bg_fr hi, sw_out (by omega) (by omega), sw_out (by omega) (by omega)]; rfl
  ·rw [h.bg_fr hj, sw_out (by omega) (by omega), sw_out (by omega) (by omega)]; rfl
  ·refine ((h.fr hi).fr hj).ext ((h.fr hj).fr hi).2 fun x x0 x1 => ?_
   have a := VP.sw_in hi x0 x1
   have b := VP.sw_in hj x0 x1
   rw [(h.fr hi).fr_at hj x0, h.fr_at hi b.1, (h.fr hj).fr_at hi x0, h.fr_at hj a.1, sw_far (i := (i : Int)) (j := (j : Int)) (by omega)]
 farB {b i j} h hi hj hf := by
  have hi : i + 1 < n := by omega
  have hj : j + 1 < n := by omega
  refine ⟨?_, ?_, ?_⟩
  ·rw [h.ed_bk hi, sw_out (by omega) (by omega), sw_out (by omega) (by omega)]; rfl
  ·rw [h.ed_bk hj, sw_out (by omega) (by omega), sw_out (by omega) (by omega)]; rfl
  ·refine ((h.bk hi).bk hj).ext ((h.bk hj).bk hi).2 fun x x0 x1 => ?_
   rw [(h.bk hi).bk_at hj x0 x1, h.bk_at hi x0 x1, (h.bk hj).bk_at hi x0 x1, h.bk_at hj x0 x1, sw_far (i := (i : Int)) (j := (j : Int)) (by omega)]
 nearF {b i} h hi h1 h2 := by
  have hi : i + 1 < n := by omega
  have hj : i + 1 + 1 < n := by omega
  unfold bgP at h1 h2
  have h1 := of_decide_eq_true h1
  have h2 := of_decide_eq_true h2
  have c : ((i + 1 : Nat) : Int) = (i : Int) + 1 := by omega
  rw [c] at h2
  refine ⟨⟨?_, ?_⟩, ⟨?_, ?_⟩, ?_⟩
  ·rw [h.bg_fr hi, c, sw_out (by omega) (by omega), sw_r]; exact decide_eq_true (by omega)
  ·rw [(h.fr hi).bg_fr hj, c, sw_l, sw_out (by omega) (by omega), h.fr_at hi (by omega), h.fr_at hi (by omega), sw_out (by omega) (by omega), sw_l]; exact decide_eq_true (by omega)
  ·rw [h.bg_fr hj, c, sw_l, sw_out (by omega) (by omega)]; exact decide_eq_true (by omega)
  ·rw [(h.fr hj).bg_fr hi, c, sw_out (by omega) (by omega), sw_r, h.fr_at hj (by omega), h.fr_at hj (by omega), c, sw_r, sw_out (by omega) (by omega)]; exact decide_eq_true (by omega)
  ·refine (((h.fr hi).fr hj).fr hi).ext (((h.fr hj).fr hi).fr hj).2 fun x x0 x1 => ?_
   have a := VP.sw_in hi x0 x1
   have b := VP.sw_in hj x0 x1
   have a2 := VP.sw_in hj a.1 a.2
   have b2 := VP.sw_in hi b.1 b.2
   rw [((h.fr hi).fr hj).fr_at hi x0, (h.fr hi).fr_at hj a.1, h.fr_at hi a2.1, ((h.fr hj).fr hi).fr_at hj x0, (h.fr hj).fr_at hi b.1, h.fr_at hj b2.1, c, sw_near]
 nearB {b i} h hi h1 h2 := by
  have hi : i + 1 < n := by omega
  have hj : i + 1 + 1 < n := by omega
  unfold edP bgP at h1 h2
  have h1 := of_decide_eq_false h1
  have h2 := of_decide_eq_false h2
  have c : ((i + 1 : Nat) : Int) = (i : Int) + 1 := by omega
  rw [c] at h2
  refine ⟨⟨?_, ?_⟩, ⟨?_, ?_⟩, ?_⟩
  ·rw [h.ed_bk hi, c, sw_out (by omega) (by omega), sw_r]; exact decide_eq_false (by omega)
  ·rw [(h.bk hi).ed_bk hj, c, sw_l, sw_out (by omega) (by omega), h.bk_inv hi, h.inv.fr_at hi (by omega), h.inv.fr_at hi (by omega), sw_out (by omega) (by omega), sw_l]; exact decide_eq_false (by omega)
  ·rw [h.ed_bk hj, c, sw_l, sw_out (by omega) (by omega)]; exact decide_eq_false (by omega)
  ·rw [(h.bk hj).ed_bk hi, c, sw_out (by omega) (by omega), sw_r, h.bk_inv hj, h.inv.fr_at hj (by omega), h.inv.fr_at hj (by omega), c, sw_r, sw_out (by omega) (by omega)]; exact decide_eq_false (by omega)
  ·refine (((h.bk hi).bk hj).bk hi).ext (((h.bk hj).bk hi).bk hj).2 fun x x0 x1 => ?_
   rw [((h.bk hi).bk hj).bk_at hi x0 x1, (h.bk hi).bk_at hj x0 x1, h.bk_at hi x0 x1, ((h.bk hj).bk hi).bk_at hj x0 x1, (h.bk hj).bk_at hi x0 x1, h.bk_at hj x0 x1, c, sw_near]
 mid {b i j} h hi hj h1 h2 := by
  have hi : i + 1 < n := by omega
  have hj : j + 1 < n := by omega
  unfold bgP at h1
  unfold edP bgP at h2
  have h1 := of_decide_eq_true h1
  have h2 := of_decide_eq_false h2
  have ne := h.inv.ne hj
  refine ⟨?_, ?_, ?_⟩
  ·rw [h.ed_fr hi hj]
   refine decide_eq_false fun k => ?_
   have := sw_lt (i := (i : Int)) (a := atD 0 (invL b) j) (b := atD 0 (invL b) ((j : Int) + 1)) (by omega) fun e => by
    have e1 := h.pq (x := (j : Int)) (by omega) (by omega)
    have e2 := h.pq (x := (j : Int) + 1) (by omega) (by omega)
    rw [e.1] at e1
    rw [e.2] at e2
    omega
   omega
  ·rw [h.bg_bk hj hi]
   refine decide_eq_true (sw_lt h1 fun e => ?_)
   have e1 := h.qp (x := (i : Int)) (by omega) (by omega)
   have e2 := h.qp (x := (i : Int) + 1) (by omega) (by omega)
   rw [e.2] at e1
   rw [e.1] at e2
   omega
  ·refine ((h.bk hj).fr hi).ext ((h.fr hi).bk hj).2 fun x x0 x1 => ?_
   have a := VP.sw_in hi x0 x1
   rw [(h.bk hj).fr_at hi x0, h.bk_at hj a.1 a.2, (h.fr hi).bk_at hj x0 x1, h.fr_at hi x0]
 e := idL n
 D := revP n
 fl := flP
 co := coP
 ve := idL_VP n
 vD := rev_VP n
 vfl h := h.fl
 vco h := h.co
 Be {i} hi := by
  unfold bgP
  rw [idL_at (by omega) (by omega), idL_at (by omega) (by omega)]
  exact decide_eq_false (by omega)
 ED {i} hi := by
  unfold edP bgP
  rw [rev_inv (by omega) (by omega), rev_inv (by omega) (by omega)]
  exact decide_eq_true (by omega)
 isE {b} h k := by
  have hu := h.inv.up fun i hi => k i (by omega)
  refine h.ext (idL_len n) fun x x0 x1 => ?_
  have e := h.pq x0 x1
  rw [hu x x0 x1] at e
  rw [e, idL_at x0 x1]
 isD {b} h k := by
  have hu := h.inv.down fun i hi => k i (by omega)
  refine h.ext (rev_len n) fun x x0 x1 => ?_
  have e := h.pq (x := n - 1 - x) (by omega) (by omega)
  rw [hu _ (by omega) (by omega), show (n : Int) - 1 - (n - 1 - x) = x by omega] at e
  rw [e, rev_at x0 x1]
 Ebk {b i} h hi := by
  have hi : i + 1 < n := by omega
  rw [h.ed_bk hi, sw_r, sw_l]
  unfold edP bgP
  have := h.inv.ne hi
  by_cases k : atD 0 (invL b) ((i : Int) + 1) < atD 0 (invL b) (i : Int)
  ·rw [decide_eq_false (by omega), decide_eq_true k]; rfl
  ·rw [decide_eq_true (by omega), decide_eq_false k]; rfl
 bkbk {b i} h hi := by
  have hi : i + 1 < n := by omega
  refine ((h.bk hi).bk hi).ext h.2 fun x x0 x1 => ?_
  rw [(h.bk hi).bk_at hi x0 x1, h.bk_at hi x0 x1, sw_sw]
 letB {i} hi := by
  have hi : i + 1 < n := by omega
  rw [(idL_VP n).bg_fr hi, sw_r, sw_l, idL_at (by omega) (by omega), idL_at (by omega) (by omega)]
  exact decide_eq_true (by omega)
 letF {i} hi := by
  have hi : i + 1 < n := by omega
  have h := idL_VP n
  refine ((h.fr hi).fr hi).ext h.2 fun x x0 x1 => ?_
  rw [(h.fr hi).fr_at hi x0, h.fr_at hi (VP.sw_in hi x0 x1).1, sw_sw]
 letK {i} hi := by
  have hi : i + 1 < n := by omega
  have h := idL_VP n
  refine (h.bk hi).ext (h.fr hi).2 fun x x0 x1 => ?_
  have a := VP.sw_in hi x0 x1
  rw [h.bk_at hi x0 x1, h.fr_at hi x0, idL_at x0 x1, idL_at a.1 a.2]
 flB {a i} h hi := by
  unfold bgP
  rw [h.fl_at (by omega) (by omega), h.fl_at (by omega) (by omega), show (n : Int) - 1 - (((n - 1 - 1 - i : Nat) : Int) + 1) = i by omega, show (n : Int) - 1 - ((n - 1 - 1 - i : Nat) : Int) = i + 1 by omega]
  exact decide_eq_decide.2 (by omega)
 flE {a i} h hi := by
  unfold edP bgP
  rw [h.fl_inv (by omega) (by omega), h.fl_inv (by omega) (by omega), show (n : Int) - 1 - (((n - 1 - 1 - i : Nat) : Int) + 1) = i by omega, show (n : Int) - 1 - ((n - 1 - 1 - i : Nat) : Int) = i + 1 by omega]
  exact decide_eq_decide.2 (by omega)
 flfr {a i} h hi := by
  have hi : i + 1 < n := by omega
  have hj : n - 1 - 1 - i + 1 < n := by omega
  refine (h.fr hi).fl.ext (h.fl.fr hj).2 fun x x0 x1 => ?_
  have b := VP.sw_in hj x0 x1
  rw [(h.fr hi).fl_at x0 x1, h.fr_at hi (by omega), h.fl.fr_at hj x0, h.fl_at b.1 b.2, sw_rev (i := (i : Int)) (by omega)]
 flbk {a i} h hi := by
  have hi : i + 1 < n := by omega
  have hj : n - 1 - 1 - i + 1 < n := by omega
  refine (h.bk hi).fl.ext (h.fl.bk hj).2 fun x x0 x1 => ?_
  have b := h.rg (x := n - 1 - x) (by omega) (by omega)
  rw [(h.bk hi).fl_at x0 x1, h.bk_at hi (by omega) (by omega), h.fl.bk_at hj x0 x1, h.fl_at x0 x1, ← sw_rev (n := (n : Int)) (i := ((n - 1 - 1 - i : Nat) : Int)) (j := (i : Int)) (by omega)]
 flfl {a} h := by
  refine h.fl.fl.ext h.2 fun x x0 x1 => ?_
  rw [h.fl.fl_at x0 x1, h.fl_at (by omega) (by omega), show (n : Int) - 1 - (n - 1 - x) = x by omega]
  omega
 fle := by
  have h := idL_VP n
  refine h.fl.ext h.2 fun x x0 x1 => ?_
  rw [h.fl_at x0 x1, idL_at (by omega) (by omega), idL_at x0 x1]
  omega
 flD := by
  have h := rev_VP n
  refine h.fl.ext h.2 fun x x0 x1 => ?_
  rw [h.fl_at x0 x1, rev_at (by omega) (by omega), rev_at x0 x1]
  omega
 coB {a i} h hi := by
  have hi : i + 1 < n := by omega
  unfold edP bgP
  rw [h.co_at (by omega) (by omega), h.co_at (by omega) (by omega)]
  have := h.inv.ne hi
  by_cases k : atD 0 (invL a) ((i : Int) + 1) < atD 0 (invL a) (i : Int)
  ·rw [decide_eq_false (by omega), decide_eq_true k]; rfl
  ·rw [decide_eq_true (by omega), decide_eq_false k]; rfl
 cofr {a i} h hi := by
  have hi : i + 1 < n := by omega
  refine (h.co.fr hi).ext (h.bk hi).co.2 fun x x0 x1 => ?_
  have b := VP.sw_in hi x0 x1
  rw [h.co.fr_at hi x0, h.co_at b.1 b.2, (h.bk hi).co_at x0 x1, h.bk_inv hi, h.inv.fr_at hi x0]
 coD := by
  have h := rev_VP n
  refine h.co.ext (idL_len n) fun x x0 x1 => ?_
  rw [h.co_at x0 x1, rev_inv x0 x1, idL_at x0 x1]
  omega
 coe := by
  have h := idL_VP n
  refine h.co.ext (rev_len n) fun x x0 x1 => ?_
  rw [h.co_at x0 x1, id_inv x0 x1, rev_at x0 x1]
 coco {a} h := by
  refine h.co.co.ext h.fl.2 fun x x0 x1 => ?_
  rw [h.co.co_at x0 x1, h.co_inv x0 x1, h.fl_at x0 x1]
 frD {i} hi := by
  have hi : i + 1 < n := by omega
  have hj : n - 1 - 1 - i + 1 < n := by omega
  have h := rev_VP n
  refine (h.fr hj).ext (h.bk hi).2 fun x x0 x1 => ?_
  have b := VP.sw_in hj x0 x1
  rw [h.fr_at hj x0, rev_at b.1 b.2, h.bk_at hi x0 x1, rev_at x0 x1, sw_rev (i := (i : Int)) (by omega)]
end Go.Proofs.YtngpopalpofhgaaGreatDoor

namespace Go.Proofs.YtngpopalpofhgaaGreatDoor
set_option maxRecDepth 100000
def negC (w : List Int) : Nat := (w.filter fun x => decide (x < 0)).length
def isD (n : Nat) (p : List Int) : Bool := decide (p = revP n)
def isE (n : Nat) (p : List Int) : Bool := decide (p = idL n)
/-- the normal form that is read off the end of a word's list: half twists, and the factors that are neither nothing nor a half twist. -/
def formY (n : Nat) (w : List Int) (Y : List (List Int)) : Int × List (List Int) := (((Y.filter (isD n)).length : Int) - negC w, Y.filter fun p => !(isE n p) && !(isD n p))
def WordOk (n : Nat) (w : List Int) : Prop := ∀ x ∈ w, LetOk (n - 1) x
theorem word_vs {n : Nat} {w : List Int} (h : WordOk n w) : Vs (garN n).toGar (facL (garN n) [] w) := facL_vs (T := garN n) h vs_nil
theorem nfY_ex (n : Nat) (w : List Int) : ∃ Y, WordOk n w → NfW (garN n) w Y := by
 by_cases h : WordOk n w
 ·obtain ⟨Y, h1, h2⟩ := norm_ex _ (word_vs h)
  exact ⟨Y, fun _ => ⟨h1, h2⟩⟩
 ·exact ⟨[], fun k => absurd k h⟩
noncomputable def nfY (n : Nat) (w : List Int) : List (List Int) := Classical.choose (nfY_ex n w)
theorem nfY_ok {n : Nat} {w : List Int} (h : WordOk n w) : NfW (garN n) w (nfY n w) := Classical.choose_spec (nfY_ex n w) h
noncomputable def formW (n : Nat) (w : List Int) : Int × List (List Int) := formY n w (nfY n w)
theorem nfY_eq {n : Nat} {w : List Int} (h : WordOk n w) {Y : List (List Int)} (k : NfW (garN n) w Y) : nfY n w = Y := norm_one (word_vs h) (nfY_ok h).1 (nfY_ok h).2 k.1 k.2
/-- what the program comes to is the normal form. -/
theorem formW_eq {n : Nat} {w : List Int} (h : WordOk n w) {Y : List (List Int)} (k : NfW (garN n) w Y) : formW n w = formY n w Y := by unfold formW; rw [nfY_eq h k]
theorem word_app {n : Nat} {u v : List Int} (h : WordOk n u) (k : WordOk n v) : WordOk n (u ++ v) := fun x hx => by rcases List.mem_append.1 hx with hx | hx; exact h x hx; exact k x hx
theorem let_neg {N : Nat} {x : Int} (h : LetOk N x) : LetOk N (-x) := by
 obtain ⟨h1, h2⟩ := h
 refine ⟨by omega, ?_⟩
 split at h2 <;> split <;> omega
theorem negC_app (u v : List Int) : negC (u ++ v) = negC u + negC v := by unfold negC; rw [List.filter_append, List.length_append]
theorem e_ne_D {n : Nat} (hn : 2 ≤ n) : idL n ≠ revP n := fun h => by
 have a := idL_at (n := n) (j := 0) (by omega) (by omega)
 have b := rev_at (n := n) (x := 0) (by omega) (by omega)
 rw [h] at a
 omega
theorem form_cancel {n : Nat} {u v : List Int} {x : Int} (hu : WordOk n u) (hx : LetOk (n - 1) x) (hv : WordOk n v) : formW n (u ++ [x, -x] ++ v) = formW n (u ++ v) := by
 have hp : WordOk n [x, -x] := fun y hy => by
  simp only [List.mem_cons, List.not_mem_nil, or_false] at hy
  rcases hy with rfl | rfl
  ·exact hx
  ·exact let_neg hx
 have h1 := word_app (word_app hu hp) hv
 have h2 := word_app hu hv
 have e := nf_cancel (T := garN n) hu hx hv (nfY_ok h1) (nfY_ok h2)
 have hn : 2 ≤ n := by
  obtain ⟨a, b⟩ := hx
  split at b <;> omega
 have c1 : isD n (garN n).D = true := decide_eq_true rfl
 have c2 : isE n (garN n).e = true := decide_eq_true rfl
 have c3 : isD n (garN n).e = false := decide_eq_false (e_ne_D hn)
 have hneg : negC [x, -x] = 1 := by
  have := hx.1
  unfold negC
  by_cases hp : x < 0
  ·simp [List.filter_cons, hp, show ¬ 0 < x by omega]
  ·simp [List.filter_cons, hp, show 0 < x by omega]
 unfold formW formY
 rw [e]
 simp only [List.filter_append, List.filter_cons, List.filter_nil, c1, c2, c3, Bool.not_true, Bool.and_false, Bool.false_and, if_true, Bool.false_eq_true, if_false, List.append_nil, List.nil_append, List.length_append, List.length_cons, List.length_nil, negC_app, hneg]
 refine Prod.ext ?_ rfl
 dsimp only
 omega
/-- the word that leads back. -/
def invW (w : List Int) : List Int := (w.map fun x => -x).reverse
theorem invW_cons (x : Int) (w : List Int) : invW (x :: w) = invW w ++ [-x] := by simp [invW]
theorem form_undo {n : Nat} {v : List Int} (hv : WordOk n v) : ∀ {w u : List Int}, WordOk n w → WordOk n u → formW n (u ++ w ++ invW w ++ v) = formW n (u ++ v)
 | [], u, _, _ => by simp [invW]
 | x :: w, u, hw, hu => by
   have hx := hw x (by simp)
   have hw2 : WordOk n w := fun y hy => hw y (by simp [hy])
   have h1 : WordOk n [x] := fun y hy => by rw [List.mem_singleton.1 hy]; exact hx
   have h2 : WordOk n ([-x] ++ v) := word_app (fun y hy => by rw [List.mem_singleton.1 hy]; exact let_neg hx) hv
   have e := form_undo h2 hw2 (word_app hu h1)
   rw [show u ++ (x :: w) ++ invW (x :: w) ++ v = u ++ [x] ++ w ++ invW w ++ ([-x] ++ v) by rw [invW_cons]; simp, e, show u ++ [x] ++ ([-x] ++ v) = u ++ [x, -x] ++ v by simp]
   exact form_cancel hu hx hv
theorem form_nil (n : Nat) : formW n [] = (0, []) := by
 have h : WordOk n [] := fun x hx => absurd hx (by simp)
 have k : NfW (garN n) [] [] := ⟨.refl _, fun Y p => by cases p⟩
 rw [formW_eq h k]
 simp [formY, negC]
theorem form_back {n : Nat} {w : List Int} (h : WordOk n w) : formW n (w ++ invW w) = (0, []) := by
 have := form_undo (n := n) (v := []) (u := []) (fun x hx => absurd hx (by simp)) h (fun x hx => absurd hx (by simp))
 rw [List.nil_append, List.append_nil, List.append_nil] at this
 rw [this, form_nil]
section
variable {S : Type} {T : GarT S}
end
end Go.Proofs.YtngpopalpofhgaaGreatDoor

namespace Go.Proofs.YtngpopalpofhgaaGreatDoor
set_option maxRecDepth 100000
section
variable {S : Type} {G : Gar S}
/-- a letter is moved at a place. -/
theorem pull_at : ∀ {X : List S} {j i : Nat} {a b : S}, X[j]? = some a → X[j + 1]? = some b → i < G.N → G.B b i = true → G.E a i = false → Pull G X ((X.set j (G.bk a i)).set (j + 1) (G.fr b i))
 | x :: X, 0, i, a, b, h1, h2, h3, h4, h5 => by
   cases X with
   | nil => simp at h2
   | cons y X =>
     simp only [List.getElem?_cons_zero, Option.some.injEq, Nat.zero_add, List.getElem?_cons_succ] at h1 h2
     subst h1; subst h2
     exact .here _ _ _ i h3 h4 h5
 | x :: X, j + 1, i, a, b, h1, h2, h3, h4, h5 => by
   rw [List.getElem?_cons_succ] at h1 h2
   exact .there x (pull_at h1 h2 h3 h4 h5)
 | [], j, i, a, b, h1, _, _, _, _ => by simp at h1
/-- nothing can be moved between two neighbours. -/
def PairOk (G : Gar S) (a b : S) : Prop := ∀ i, i < G.N → G.B b i = true → G.E a i = true
theorem noPull_of : ∀ {X : List S}, (∀ j a b, X[j]? = some a → X[j + 1]? = some b → PairOk G a b) → NoPull G X
 | [], _, Y, p => by cases p
 | x :: X, h, Y, p => by
   cases p with
   | here _ b R i h1 h2 h3 =>
     have := h 0 x b rfl rfl i h1 h2
     rw [h3] at this; cases this
   | there _ p => exact noPull_of (X := X) (fun j a b e1 e2 => h (j + 1) a b (by simpa using e1) (by simpa using e2)) _ p
end
/-- the first place at which two simple braids have a letter to move, or none. -/
def folP (n : Nat) (a b : List Int) : Option Nat := (List.range (n - 1)).find? fun i => bgP b i && !(edP a i)
theorem fol_none {n : Nat} {a b : List Int} (h : folP n a b = none) : PairOk (garN n).toGar a b := by
 intro i hi hb
 unfold folP at h
 rw [List.find?_eq_none] at h
 have hi2 : i < n - 1 := hi
 have := h i (List.mem_range.2 hi2)
 have hb2 : bgP b i = true := hb
 rw [hb2] at this
 simp at this
 exact this
theorem fol_some {n : Nat} {a b : List Int} {i : Nat} (h : folP n a b = some i) : i < n - 1 ∧ bgP b i = true ∧ edP a i = false := by
 unfold folP at h
 have h1 := List.find?_some h
 have h2 := List.mem_of_find?_eq_some h
 rw [Bool.and_eq_true, Bool.not_eq_true'] at h1
 exact ⟨List.mem_range.1 h2, h1.1, h1.2⟩
end Go.Proofs.YtngpopalpofhgaaGreatDoor
