/- Contracts and plain facts that the claim uses (MemA TyA PlA SlA Lib1 RE McA Rp1 CyA RlB BrB NfP NfQ MaQ NfT MaS CnA QrP TuP QrA). Conditions: as each one states. -/
import Derived.WalkKit
import Derived.WalkSpells
import Derived.Maps.AppendAt
import Derived.Deep.Quiet
import Derived.Test.YtdeoogbiipodmaaGreatProg
import Derived.Maps.Own
import Derived.Maps.OwnSet
import Derived.Maps.Views
import Derived.WalkLawsBesides
import Derived.Laws.EntriesVeiled
import Derived.RangeFuncNested
import Derived.RangeFuncBound
import Derived.RangeFuncCalls
import Derived.RangeFuncLeaves
import Derived.RangeFuncFrom
import Derived.Shelf.Abstract
import Derived.Shelf.RegionOpen
import Derived.OwnWalkIn
import Derived.TacticsInMore
import Derived.LoopNIn
import Derived.LoopIn
import Derived.Deep.QuietTactic
import Derived.BigQuiet
import Derived.Shelf.Strings.Trim
import Derived.Shelf.Strings.SlTrimAscii
import Derived.Shelf.Strings.Repeat
import Derived.Shelf.Strings.OnBuilder
import Derived.Shelf.Strconv.Itoa1
import Derived.Shelf.Strconv.Itoa3
import Derived.Shelf.LaysM
import Derived.Ground.Names2Prog
import Derived.Lib.OthersKept
import Derived.Deep.RegionHeld3
import Derived.Deep.AppendLies
import Derived.Deep.RegionHeldLaw
import Derived.Deep.RegionLaw
import Derived.Laws.CopyOwn
import Derived.IntWalk
import Derived.Sort.LoopGhostIn
import Derived.StillTail
import Derived.Laws.Tables
import Derived.BigRegion
import Derived.ChangeAlike
import Derived.Shelf.Bits.Mul64
import Derived.Lib.ItoaLen
import Derived.Lib.ItoaMem
import Derived.Maps.RangeWalk
import Derived.Maps.Ext
import Derived.Laws.IdiomStrings
import Derived.Sort.QuietThIn
import Derived.Test.YtdeoogbiipodmaaGreatXz01
import Derived.Test.YtdeoogbiipodmaaGreatXz02
import Derived.Test.YtdeoogbiipodmaaGreatXz03
import Derived.Test.YtdeoogbiipodmaaGreatXz04
import Derived.Test.YtdeoogbiipodmaaGreatXz05
import Derived.Test.YtdeoogbiipodmaaGreatXz06
import Derived.Test.YtdeoogbiipodmaaGreatXz07
import Derived.Test.YtdeoogbiipodmaaGreatXz08
import Derived.Test.YtdeoogbiipodmaaGreatXz09
import Derived.Test.YtdeoogbiipodmaaGreatXz10
set_option linter.all false

namespace Go.Proofs.YtdeoogbiipodmaaGreat
open Go.RowKit
section
variable {α : Type} {c : α → Value} {sz : Nat} {w w' : World} {a : Option Addr} {cap : Nat} {l : List α}
end

section
variable {P : Program} {ops : Array Oper} {rest : List Oper} {a : Act} {Q : Exit → Act → World → Prop} {α : Type} {c : α → Value} {sz bytes : Nat} {t e : TypeId} {z : Value} {ad : Option Addr} {cap : Nat} {l : List α} {k : Int}
 {d1 d2 : Tmp} {ty1 ty2 : TypeId} {p1 p2 : String} {s x : Operand} {af1 af2 : Array Edge}

end
end Go.Proofs.YtdeoogbiipodmaaGreat

namespace Go.Proofs.YtdeoogbiipodmaaGreat
open Go.RowKit

section
variable {P : Program} {α : Type} {c : α → Value} {sz bytes B : Nat} {t e : TypeId} {z v : Value} {w w' : World} {l : List α}

theorem run_bounds {n cap i j : Nat} {lo hi : Option Value} (hlo : lo = some (.int .i64 i) ∨ lo = none ∧ i = 0) (hhi : hi = some (.int .i64 j) ∨ hi = none ∧ j = n) (hij : i ≤ j) (hj : j ≤ cap) :
   (Instr.sliceBounds true n cap lo hi none).run P w = .ok (i, j, cap) w := by
 have q0 : (0 : Int) ≤ (i : Int) := by omega
 have q1 : (0 : Int) ≤ (j : Int) := by omega
 have b1 : ∀ m : Nat, (m : Int) ≤ j ∨ True := fun _ => .inr trivial
 have r1 : ∀ c, (Instr.sliceBound (.int .i64 i) j c).run P w = .ok i w := fun c => by rw [run_sliceBound _ _ _ _ _ q0 (by omega)]; simp
 have r2 : ∀ c, (Instr.sliceBound (.int .i64 j) cap c).run P w = .ok j w := fun c => by rw [run_sliceBound _ _ _ _ _ q1 (by omega)]; simp
 rcases hlo with rfl | ⟨rfl, rfl⟩ <;> rcases hhi with rfl | ⟨rfl, rfl⟩ <;> simp [Instr.sliceBounds, r1, r2]

/-- 's[lo:hi]' of a readable slice. -/
theorem run_cut {a : Option Addr} {cap : Nat} (E : ETy P t e z sz bytes) (hR : Reps c sz w a cap l) (lo hi : Option Value) (i j : Nat) (hlo : lo = some (.int .i64 i) ∨ lo = none ∧ i = 0) (hhi : hi = some (.int .i64 j) ∨ hi = none ∧ j = l.length) (hij : i ≤ j) (hj : j ≤ l.length) :
   ∃ a', (Instr.sliceAt t (.slice a l.length cap) lo hi none).run P w = .ok (.slice a' (j - i) (cap - i)) w ∧ Reps c sz w a' (cap - i) ((l.take j).drop i) ∧ (∀ b, a' = some b → ∃ b0, a = some b0 ∧ b.block = b0.block) := by
 have hle := hR.le
 obtain ⟨inf, hinf, _, hs, _⟩ := info_parts E.inf
 have hlen : ((l.take j).drop i).length = j - i := by simp; omega
 refine ⟨if cap = i then a else a.map (·.add (i * sz)), ?_, ⟨hR.1, ?_⟩, ?_⟩
 ·simp [Instr.sliceAt, run_underlying E.und, Instr.slice, run_bounds hlo hhi hij (Nat.le_trans hj hle), sizeOf, typeInfo, hinf, hs]
 ·obtain ⟨h1, h2, h3, h4⟩ := hR.2
  have hg : ∀ x, ((c x).cells.toList).length = sz := fun x => by simpa using hR.1 x
  have hdrop : ∀ (l : List α) (i : Nat), ((l.drop i).flatMap fun x => (c x).cells.toList) = (l.flatMap fun x => (c x).cells.toList).drop (i * sz) := by
   intro l
   induction l with
   | nil => intro i; simp
   | cons x r ih =>
    intro i
    cases i with
    | zero => simp
    | succ i => rw [List.drop_succ_cons, ih, List.flatMap_cons, List.drop_append, (show (c x).cells.toList.drop ((i + 1) * sz) = [] from List.drop_eq_nil_of_le (by rw [hg, Nat.add_mul]; omega)), List.nil_append, hg]; congr 1; rw [Nat.add_mul]; omega
  have htake : ∀ (l : List α) (j : Nat) (q : Nat) (u : Value), ((l.take j).flatMap fun x => (c x).cells.toList)[q]? = some u → (l.flatMap fun x => (c x).cells.toList)[q]? = some u := by
   intro l j q u hu
   rw [← List.take_append_drop j l, List.flatMap_append, List.getElem?_append_left]
   ·exact hu
   ·exact (List.getElem?_eq_some_iff.1 hu).1
  refine ⟨by omega, by omega, fun hn => ?_, fun q u hu => ?_⟩
  ·split at hn
   ·omega
   ·cases a with
    | none => have := h3 rfl; omega
    | some b => cases hn
  ·rw [hdrop, List.getElem?_drop] at hu
   have hu' := htake l j _ u hu
   obtain ⟨b, o, rfl, hc⟩ := h4 _ u hu'
   have hlt := (List.getElem?_eq_some_iff.1 hu').1
   rw [flat_len _ sz hg] at hlt
   have hci : ¬ cap = i := by
    intro hh
    have : l.length ≤ i := by omega
    have := Nat.mul_le_mul_right sz this
    omega
   rw [if_neg hci]
   exact ⟨b, o + i * sz, by simp [Addr.add_z], by rw [Nat.add_assoc]; exact hc⟩
 ·intro b hb
  split at hb
  ·exact ⟨b, hb, rfl⟩
  ·cases a with
   | none => cases hb
   | some b0 => cases hb; exact ⟨b0, rfl, by simp [Addr.add]; split <;> rfl⟩
end
end Go.Proofs.YtdeoogbiipodmaaGreat

namespace Go.Proofs.YtdeoogbiipodmaaGreat
open Go.RowKit

end Go.Proofs.YtdeoogbiipodmaaGreat

namespace Go.Proofs.YtdeoogbiipodmaaGreat
open Go.RowKit
theorem F_str : Flat Tryz.prog 9 := ⟨_, Tryz.underlying9, rfl⟩
end Go.Proofs.YtdeoogbiipodmaaGreat

namespace Go.Proofs.YtdeoogbiipodmaaGreat
open Go.RowKit
set_option maxRecDepth 100000

theorem E_intsZ : ETy Tryz.prog 22 3 (cInt 0) 1 8 := E_ints
end Go.Proofs.YtdeoogbiipodmaaGreat

namespace Go.Proofs.YtdeoogbiipodmaaGreat
open Go.RowKit Go.Maps
set_option maxRecDepth 100000

section
variable {ops : Array Oper} {rest : List Oper} {a : Act} {Q : Exit → Act → World → Prop} {d : Option Tmp} {ty : TypeId} {p : String} {m x y : Operand} {af : Array Edge} {g : Option (Nat × Bool)} {b n : Nat} {k : Int}
end
end Go.Proofs.YtdeoogbiipodmaaGreat

namespace Go.Proofs.YtdeoogbiipodmaaGreat
open Go.RowKit
set_option maxHeartbeats 400000
set_option maxRecDepth 100000

end Go.Proofs.YtdeoogbiipodmaaGreat

namespace Go.Proofs.YtdeoogbiipodmaaGreat
open Go.RowKit
set_option maxHeartbeats 400000
set_option maxRecDepth 100000

end Go.Proofs.YtdeoogbiipodmaaGreat

namespace Go.Proofs.YtdeoogbiipodmaaGreat
open Go.RowKit
set_option maxHeartbeats 400000
set_option maxRecDepth 100000

end Go.Proofs.YtdeoogbiipodmaaGreat

namespace Go.Proofs.YtdeoogbiipodmaaGreat
open Go.RowKit
set_option maxHeartbeats 400000
set_option maxRecDepth 100000

end Go.Proofs.YtdeoogbiipodmaaGreat

namespace Go.Proofs.YtdeoogbiipodmaaGreat
open Go.RowKit
set_option maxHeartbeats 400000
set_option maxRecDepth 100000

theorem Clone_any (a : Option Addr) (cap : Nat) (l : List Int) (w : World) (hS : Ints w a cap l) (hsm : l.length ≤ 1048576) (h0 : 0 < l.length) :
  Calls Tryz.prog 40 #[.slice a l.length cap] w fun r w' => ∃ v, r = .returned v ∧ OwnI w.heap.size w' v l ∧ Below w.heap.size w w' := by
 have hcap := hS.le
 have hm := hS.max
 obtain ⟨b, o, rfl, _⟩ := hS.cells (by decide) 0 0 h0
 have heq := fun (w : World) (a : Option Addr) (n c : Nat) => Lib.run_eql_slice_nil (P := Tryz.prog) w 22 3 a n c 0 0 Tryz.underlying22
 go_enter Tryz.func40, Tryz.ntmps40
 go_wp2_with ((with_reducible refine wpList_app (B := w.heap.size) (l := []) (ys := l) E_ints wU wU (own_made0 cIntS w rfl (Nat.le_refl _)) (hS.alloc _) cIntO (by simp; omega) (by simp) (by simp; omega) ?_); intro v1 w1 ho1 hg1 _)
 go_ret
 refine ⟨v1, rfl, ho1, ?_⟩
 exact (bal (Below.refl _ _) _).grown hg1 (by simp) (fun k hk => by cases hk; exact Nat.le_refl _)

end Go.Proofs.YtdeoogbiipodmaaGreat

namespace Go.Proofs.YtdeoogbiipodmaaGreat
open Go.RowKit
set_option maxHeartbeats 400000
set_option maxRecDepth 100000

end Go.Proofs.YtdeoogbiipodmaaGreat

namespace Go.Proofs.YtdeoogbiipodmaaGreat
open Go.RowKit
set_option maxHeartbeats 400000
set_option maxRecDepth 100000

end Go.Proofs.YtdeoogbiipodmaaGreat

namespace Go.Proofs.YtdeoogbiipodmaaGreat
open Go.RowKit
set_option maxHeartbeats 1000000
set_option maxRecDepth 100000

end Go.Proofs.YtdeoogbiipodmaaGreat

namespace Go.Proofs.YtdeoogbiipodmaaGreat
open Go.RowKit
set_option maxRecDepth 100000

section
variable {B : Nat} {w0 w w' : World} {L K : List Pc}
end

section
variable {B : Nat} {w0 w w' : World} {L : List Pc} {α : Type} {c : α → Value} {sz : Nat} {e : TypeId} {v : Value} {l : List α}
end

section
variable {P : Program} {ops : Array Oper} {rest : List Oper} {a : Act} {Q : Exit → Act → World → Prop} {α : Type} {c : α → Value} {sz bytes B : Nat} {t e : TypeId} {z v : Value} {w0 w : World} {L : List Pc} {l : List α}
theorem wpList_appL {d : Option Tmp} {ty : TypeId} {p : String} {s x : Operand} {af : Array Edge} {ad : Option Addr} {n cap : Nat} {ys : List α} (i : Nat) (E : ETy P t e z sz bytes)
   (hs : a.eval s = v) (hx : a.eval x = .slice ad n cap) (hS : SL B w0 w L) (hi : L[i]? = some (pOwn c sz e v l)) (hR : Reps c sz w ad cap ys) (hn : n = ys.length) (h1 : ∀ x, ∀ u ∈ (c x).cells.toList, u.oneCell' = true)
   (hb : (l.length + ys.length) * bytes ≤ 140737488355328) (hm : l.length + ys.length ≤ 9223372036854775807)
   (hK : ∀ v' w', SL B w0 w' (L.set i (pOwn c sz e v' (l ++ ys))) → wpList P ops Q rest (a.put d v') w') :
   wpList P ops Q (⟨d, .call { callee := .builtin .append, args := #[s, x], argTypes := #[t, t] }, ty, p, af, none⟩ :: rest) a w := by
 subst hn
 obtain ⟨b, ⟨h2, h3⟩, h4, h5⟩ := hS.upd i hi
 refine wpList_app (l := l) (ys := ys) (ad := ad) (cap := cap) E hs hx h2 hR h1 hb (Nat.zero_le _) hm ?_
 intro v' w' ho hg hat
 refine hK v' w' (h5 w' _ v'.ownBlock (h3 ▸ hg) ⟨ho, rfl⟩ ?_)
 rcases hat with hat | hat
 ·exact .inl (hat.trans h3)
 ·exact .inr (fun k hk => by rw [hat] at hk; cases hk; exact Nat.le_refl _)
end
section
variable {ops : Array Oper} {rest : List Oper} {a : Act} {Q : Exit → Act → World → Prop} {d : Option Tmp} {ty : TypeId} {p : String} {m x y : Operand} {af : Array Edge} {b n B : Nat} {k : Int} {w0 w : World} {L : List Pc}
end
end Go.Proofs.YtdeoogbiipodmaaGreat

namespace Go.Proofs.YtdeoogbiipodmaaGreat
open Go.RowKit
set_option maxRecDepth 100000

section
variable {B : Nat} {w0 w w' : World} {L K : List Pc}
end

section
variable {α : Type} {c : α → Value} {sz : Nat} {e : TypeId} {v : Value} {l : List α} {B : Nat} {W0 w : World} {L : List Pc}
end
theorem SL.leave' {P : Program} {F : Fence} {n B : Nat} {fn : Func} {tmps : Array Value} {R : Ending → World → Prop} {w0 w : World} {L : List Pc} {Ds : List Nat} (h : SL B w0 w (L ++ Ds.map pMark)) (hR : ∀ W, SL B w0 W L → ∃ v, (results fn tmps).run P W = .ok v W ∧ R (.returned v) W) :
  LeavesInM F n P fn tmps R (Ds.map markOf) .returning w := SL.leave hR Ds w h.comm
end Go.Proofs.YtdeoogbiipodmaaGreat

namespace Go.Proofs
open Go.Shelf
def Tryz.lays212_ren : Go.Shelf.Ren := ⟨fun | 212 => 78 | 263 => 98 | 264 => 99 | n => n, fun | 46 => 114 | 51 => 130 | 146 => 131 | 53 => 133 | 148 => 134 | n => n, fun | n => n⟩
theorem Tryz.lays212 : Go.Proofs.Lays.n212 Tryz.prog Tryz.lays212_ren := {
 mixed := by kernel_rfl
 f212 := Tryz.func78.trans (congrArg some (by kernel_rfl))
 f263 := Tryz.func98.trans (congrArg some (by kernel_rfl))
 f264 := Tryz.func99.trans (congrArg some (by kernel_rfl))
 t46 := Tryz.underlying114
 a46 := Tryz.isAgg114
 z46 := Tryz.sizeOf114
 v46 := Tryz.zeroValue114
 t51 := Tryz.underlying130
 a51 := Tryz.isAgg130
 z51 := Tryz.sizeOf130
 v51 := Tryz.zeroValue130
 t53 := Tryz.underlying133
 a53 := Tryz.isAgg133
 z53 := Tryz.sizeOf133
 v53 := Tryz.zeroValue133
 t146 := Tryz.underlying131
 a146 := Tryz.isAgg131
 z146 := Tryz.sizeOf131
 v146 := Tryz.zeroValue131
 t148 := Tryz.underlying134
 a148 := Tryz.isAgg134
 z148 := Tryz.sizeOf134
 v148 := Tryz.zeroValue134 }
open Go.RowKit Go.Lib in
/-- math/bits.Mul: "Mul returns the full-width product of x and y": on a machine of 64 bits: Mul64's. (LAID: no walk: one application.) -/
theorem Tryz.bits_Mul (x y : Nat) (hx : x < 18446744073709551616) (hy : y < 18446744073709551616) (w : World) :
  Calls Tryz.prog 78 #[.int .u64 x, .int .u64 y] w fun e w' => e = .returned (.tuple #[.int .u64 ((x * y / 18446744073709551616 : Nat) : Int), .int .u64 ((x * y % 18446744073709551616 : Nat) : Int)]) ∧ w' = w := Any.bits_Mul Tryz.lays212 x y hx hy w


end Go.Proofs

namespace Go.Proofs.YtdeoogbiipodmaaGreat
open Go.RowKit
set_option maxHeartbeats 1000000
set_option maxRecDepth 100000

theorem rletter_any (n x : Int) (w : World) (h1 : 1 ≤ n) (h2 : n ≤ 12) :
  Calls Tryz.prog 17 #[.int .i64 n, .int .i64 x] w fun r w' => r = .returned (.bool (!outB n x)) ∧ w = w' := by
 by_cases c0 : x = 0
 ·have e : (!outB n x) = false := by simp [outB, c0]
  rw [e]
  clear e
  subst c0
  go_enter Tryz.func17, Tryz.ntmps17
  go_wp2
  go_ret
  exact ⟨rfl, rfl⟩
 by_cases c1 : 0 - n < x
 ·have e : (!outB n x) = decide (x < n) := by
   have a1 : (x == 0) = false := by simpa using c0
   have a2 : decide (x ≤ -n) = false := by simp; omega
   by_cases c2 : x < n
   ·have a3 : decide (n ≤ x) = false := by simp; omega
    simp [outB, a1, a2, a3, c2]
   ·have a3 : decide (n ≤ x) = true := by simp; omega
    simp [outB, a1, a2, a3, c2]
  rw [e]
  clear e
  have hx : (x != 0) = true := by simpa using c0
  go_enter Tryz.func17, Tryz.ntmps17
  go_wp2
  go_ret
  exact ⟨rfl, rfl⟩
 ·have e : (!outB n x) = false := by
   have a2 : decide (x ≤ -n) = true := by simp; omega
   simp [outB, a2]
  rw [e]
  clear e
  have hx : (x != 0) = true := by simpa using c0
  go_enter Tryz.func17, Tryz.ntmps17
  go_wp2
  go_ret
  exact ⟨rfl, rfl⟩

theorem wordE_any {n : Int} {l : List Int} (h : strandsE n = 0) (h2 : l.length ≤ 200) : wordE n l = if l.any (outB n) then 3 else 0 := by
 unfold wordE
 rw [if_neg (fun hh => hh h), if_neg (by omega)]
 have key : (0 ≤ idxGo n l 0 l.length) ↔ l.any (outB n) = true := by
  rw [idxGo_neg, List.any_eq_true]
  constructor
  ·rintro ⟨j, _, hj, ho⟩
   exact ⟨atD 0 l j, by simp [atD, show j < l.length by omega], ho⟩
  ·rintro ⟨x, hx, ho⟩
   obtain ⟨j, hj, rfl⟩ := List.getElem_of_mem hx
   exact ⟨j, by omega, by omega, by simpa [atD, hj] using ho⟩
 by_cases c : l.any (outB n) = true
 ·rw [if_pos (key.2 c), if_pos c]
 ·rw [if_neg (fun h => c (key.1 h)), if_neg c]
theorem rCheckWord_any (n : Int) (a : Option Addr) (cap : Nat) (l : List Int) (w : World) (hS : Ints w a cap l) :
  Calls Tryz.prog 5 #[.int .i64 n, .slice a l.length cap] w fun r w' => r = .returned (.int .i64 (wordE n l)) ∧ Below w.heap.size w w' := by
 have hcap := hS.le
 have hm := hS.max
 by_cases h1 : n < 1
 ·have e : wordE n l = 3 := by simp [wordE, strandsE, h1]
  rw [e]
  clear e
  go_enter Tryz.func5, Tryz.ntmps5
  go_wp2
  go_ret
  exact ⟨rfl, Below.refl _ _⟩
 by_cases h2 : 12 < n
 ·have e : wordE n l = 3 := by simp [wordE, strandsE, h2]
  rw [e]
  clear e
  go_enter Tryz.func5, Tryz.ntmps5
  go_wp2
  go_ret
  exact ⟨rfl, Below.refl _ _⟩
 have hs0 : strandsE n = 0 := by unfold strandsE; rw [if_neg (by omega)]
 by_cases h3 : 200 < l.length
 ·have e : wordE n l = 5 := by unfold wordE; rw [hs0]; simp [h3]
  rw [e]
  clear e
  go_enter Tryz.func5, Tryz.ntmps5
  go_wp2
  go_ret
  exact ⟨rfl, Below.refl _ _⟩
 have hE : wordE n l = if l.any (outB n) then 3 else 0 := wordE_any hs0 (by omega)
 obtain ⟨m, hm2⟩ : ∃ m, m = wordE n l := ⟨_, rfl⟩
 rw [← hm2] at hE ⊢
 have HE := hid hE; clear hE hm2
 go_enter Tryz.func5, Tryz.ntmps5
 go_wp2
 go_loopw [5] (fun i wr => ∃ k : Nat, k ≤ l.length ∧ i = .int .i64 k ∧ (l.take k).any (outB n) = false ∧ Below w.heap.size w wr) (fun i _ => l.length - (intOf i).toNat)
 case atStart => exact ⟨0, by omega, rfl, rfl, Below.refl _ _⟩
 case round =>
  obtain ⟨k, hk, rfl, hno, hbr⟩ := hrel
  have hR := hS.below hbr
  by_cases hlt : k < l.length
  ·have ht : l.take (k + 1) = l.take k ++ [atD 0 l k] := by rw [List.take_succ_eq_append_getElem hlt]; simp [atD, hlt]
   have HT := hid ht; clear ht
   have HNO := hid hno; clear hno
   cases ho : outB n (atD 0 l k)
   ·have e : (!outB n (atD 0 l k)) = true := by rw [ho]; rfl
    have hno2 : (l.take (k + 1)).any (outB n) = false := by rw [HT.out, List.any_append, HNO.out]; simp [ho]
    have HE2 := hid e; have HN2 := hid hno2; clear e hno2 ho
    go_wp2_with (first | (with_reducible refine wpList_idx _ 0 E_ints F_int cInt1 wU wU (hR) oD oD (fun _ => wU) (fun _ => ?_)) | (go_at_call 17; refine (rletter_any _ _ _ (by omega) (by omega)).mono ?_; rw [HE2.out]; rintro e w' ⟨rfl, rfl⟩))
    go_roundw
    case rel => exact ⟨k + 1, by omega, by go_num, HN2.out, hbr⟩
    case measure => simp [intOf]; omega
   ·have e : (!outB n (atD 0 l k)) = false := by rw [ho]; rfl
    have hm3 : m = 3 := by
     rw [HE.out, if_pos]
     rw [List.any_eq_true]
     exact ⟨atD 0 l k, by simp [atD, hlt], ho⟩
    have HE2 := hid e; have HM := hid hm3; clear e hm3 ho
    go_wp2_with (first | (with_reducible refine wpList_idx _ 0 E_ints F_int cInt1 wU wU (hR) oD oD (fun _ => wU) (fun _ => ?_)) | (go_at_call 17; refine (rletter_any _ _ _ (by omega) (by omega)).mono ?_; rw [HE2.out]; rintro e w' ⟨rfl, rfl⟩))
    go_ret
    exact ⟨by rw [HM.out]; rfl, hbr⟩
  ·have : k = l.length := by omega
   subst this
   rw [List.take_length] at hno
   have hm3 : m = 0 := by rw [HE.out, hno]; rfl
   have HM := hid hm3; clear hm3 hno
   go_wp2_with fail
   go_ret
   exact ⟨by rw [HM.out]; rfl, hbr⟩
end Go.Proofs.YtdeoogbiipodmaaGreat

namespace Go.Proofs.YtdeoogbiipodmaaGreat
open Go.RowKit
set_option maxHeartbeats 400000
set_option maxRecDepth 100000

end Go.Proofs.YtdeoogbiipodmaaGreat

namespace Go.Proofs.YtdeoogbiipodmaaGreat
open Go.RowKit

theorem nodup_le (n : Nat) (l : List Int) (hn : l.Nodup) (hr : ∀ x ∈ l, 0 ≤ x ∧ x < n) : l.length ≤ n := by
 rcases Nat.lt_or_ge n l.length with h | h
 ·obtain ⟨a, b, h1, h2, h3⟩ := php n (fun k => (atD 0 l k).toNat) (fun k hk => by
   have := hr (atD 0 l k) (by simp [atD, show k < l.length by omega])
   omega)
  have ha := hr (atD 0 l a) (by simp [atD, show a < l.length by omega])
  have hb := hr (atD 0 l b) (by simp [atD, show b < l.length by omega])
  exact absurd (by omega) (nodup_ne hn h1 (by omega))
 ·exact h

section
variable {p : List Int} (hp : IsP p)
include hp
end

end Go.Proofs.YtdeoogbiipodmaaGreat

namespace Go.Proofs.YtdeoogbiipodmaaGreat
open Go.RowKit
set_option maxHeartbeats 1000000
set_option maxRecDepth 100000

theorem mul_any (x y : Nat) (h : x * y < 18446744073709551616) (hx : x < 18446744073709551616) (hy : y < 18446744073709551616) (w : World) :
  Calls Tryz.prog 78 #[.int .u64 x, .int .u64 y] w fun e w' => e = .returned (.tuple #[.int .u64 0, .int .u64 ((x * y : Nat) : Int)]) ∧ w = w' := by
 refine (Tryz.bits_Mul x y hx hy w).mono ?_
 rintro e w' ⟨rfl, rfl⟩
 rw [Nat.div_eq_of_lt h, Nat.mod_eq_of_lt h]
 exact ⟨rfl, rfl⟩

theorem cyc_add (l : List Int) (m k : Nat) (h : m % l.length = 0) : cyc l (m + k) = cyc l m ++ cyc l k := by
 unfold cyc
 rw [List.range_add, List.map_append, List.map_map]
 congr 1
 refine List.map_congr_left fun j _ => ?_
 show l.getD ((m + j) % l.length) 0 = _
 rw [Nat.add_mod, h, Nat.zero_add, Nat.mod_mod]
theorem cyc_once (l : List Int) : cyc l l.length = l := by
 refine List.ext_getElem (by simp [cyc]) fun j h1 h2 => ?_
 simp [cyc, Nat.mod_eq_of_lt h2, h2]

theorem splice_laid {l : List Int} {cur : List Value} {N m k : Nat} (hl : cur.length = N) (ht : cur.take m = (cyc l m).map cInt) (hm : m + k ≤ N) (hd : m % l.length = 0) (cs : List Value) (hc : cs = (cyc l k).map cInt) :
  (splice cur m cs).length = N ∧ (splice cur m cs).take (m + k) = (cyc l (m + k)).map cInt := by
 subst hc
 have h1 : ((cyc l k).map cInt).length = k := by simp [cyc]
 refine ⟨by rw [length_splice _ _ _ (by rw [h1]; omega), hl], ?_⟩
 unfold splice
 rw [cyc_add l m k hd, List.map_append, ht, ← List.append_assoc]
 have h2 : ((cyc l m).map cInt ++ (cyc l k).map cInt).length = m + k := by simp [cyc]
 rw [List.take_append_of_le_length (by omega), List.take_of_length_le (by omega)]
theorem own_laid {w : World} {g N : Nat} {B : Nat} {l L : List Int} (h : OwnI B w (.slice (some ⟨g, 0, none⟩) N N) L) (hL : L.length = N) : Laid w g N 0 l := by
 rcases h.2.2 with ⟨h, _⟩ | ⟨g', cap, cur, hv, _, hg, _, _, hs, _⟩
 ·cases h
 ·cases hv
  exact ⟨cur.toList, by simpa using hg, by simpa using hs, by simp [cyc], Nat.zero_le _⟩
theorem wpList_copyL {ops : Array Oper} {rest : List Oper} {a : Act} {Q : Exit → Act → World → Prop} {d : Option Tmp} {ty : TypeId} {p : String} {x y : Operand} {af : Array Edge} {w w0 : World} {B g N m : Nat} {l : List Int} {dp sp : Option Addr} {dLen dCap sLen sCap : Nat} (k : Nat)
  (hd : a.eval x = .slice dp dLen dCap) (hs : a.eval y = .slice sp sLen sCap) (hL : Laid w g N m l) (hk : k = Nat.min sLen dLen) (hm : m + k ≤ N) (hmod : m % l.length = 0) (hdp : dp = some ⟨g, m, none⟩)
  (hsp : ∃ ad, sp = some ad ∧ ∀ j v, ((cyc l k).map cInt)[j]? = some v → w.cell? (ad.add j) = some v) (hb : Below B w0 w) (hBg : B ≤ g)
  (hK : ∀ w', Laid w' g N (m + k) l → Below B w0 w' → wpList Tryz.prog ops Q rest (a.put d (.int .i64 k)) w') :
  wpList Tryz.prog ops Q (⟨d, .call { callee := .builtin .copy, args := #[x, y], argTypes := #[22, 22] }, ty, p, af, none⟩ :: rest) a w := by
 obtain ⟨cur, h1, h2, h3, h4⟩ := hL
 have hlen : ((cyc l k).map cInt).length = k := by simp [cyc]
 refine wpList_copy_splice rfl x y 22 22 rfl 3 Tryz.underlying22 kR dp sp dLen dCap sLen sCap hd hs g m cur 3 h1 ((cyc l k).map cInt) (by rw [hlen, hk]) (fun _ => ⟨hdp, hsp⟩) (by rw [hlen, h2]; omega)
  (fun v hv => by obtain ⟨z, _, rfl⟩ := List.mem_map.1 hv; rfl) B w0 hb hBg (fun w' hw hbw => ?_)
 obtain ⟨s1, s2⟩ := splice_laid h2 h3 hm hmod _ rfl
 have := hK w' ⟨_, hw.out, s1, s2, hm⟩ hbw
 rw [hlen]
 exact this

theorem step_copyL {ops : Array Oper} {a : Act} {o : Oper} {K : Act → World → Prop} {Q : Exit → Act → World → Prop} {E : Prop} {w w0 : World} {B g N m : Nat} {l : List Int} (hgd : o.guard = none) (x y : Operand) (ho : o.op = .call { callee := .builtin .copy, args := #[x, y], argTypes := #[22, 22] })
  (dp sp : Option Addr) (dLen dCap sLen sCap : Nat) (k : Nat) (hd : a.eval x = .slice dp dLen dCap) (hs : a.eval y = .slice sp sLen sCap) (hL : Laid w g N m l) (hk : k = Nat.min sLen dLen) (hm : m + k ≤ N) (hmod : m % l.length = 0) (hdp : dp = some ⟨g, m, none⟩)
  (hsp : ∃ ad, sp = some ad ∧ ∀ j v, ((cyc l k).map cInt)[j]? = some v → w.cell? (ad.add j) = some v) (hb : Below B w0 w) (hBg : B ≤ g)
  (hK : ∀ w', Laid w' g N (m + k) l → Below B w0 w' → K (a.put o.dst (.int .i64 k)) w') :
  if Region.wanted o (yielded ops a.tmps) = true then Oper.wp Tryz.prog o a w K Q else E := by
 obtain ⟨cur, h1, h2, h3, h4⟩ := hL
 have hlen : ((cyc l k).map cInt).length = k := by simp [cyc]
 refine step_copy_splice hgd x y 22 22 ho 3 Tryz.underlying22 kR dp sp dLen dCap sLen sCap hd hs g m cur 3 h1 ((cyc l k).map cInt) (by rw [hlen, hk]) (fun _ => ⟨hdp, hsp⟩) (by rw [hlen, h2]; omega)
  (fun v hv => by obtain ⟨z, _, rfl⟩ := List.mem_map.1 hv; rfl) B w0 hb hBg (fun w' hw hbw => ?_)
 obtain ⟨s1, s2⟩ := splice_laid h2 h3 hm hmod _ rfl
 have := hK w' ⟨_, hw.out, s1, s2, hm⟩ hbw
 rw [hlen]
 exact this

theorem Repeat_any (a : Option Addr) (cap c : Nat) (l : List Int) (w : World) (hS : Ints w a cap l) (h0 : 0 < l.length) (hl : l.length ≤ 1000) (hc0 : 0 < c) (hc : c ≤ 1000) :
  Calls Tryz.prog 32 #[.slice a l.length cap, .int .i64 c] w fun r w' => ∃ v, r = .returned v ∧ OwnI w.heap.size w' v (cyc l (l.length * c)) ∧ Below w.heap.size w w' := by
 have hcap := hS.le
 have hm := hS.max
 have hN : l.length * c ≤ 1000000 := by have := Nat.mul_le_mul hl hc; omega
 have hN1 : l.length ≤ l.length * c := Nat.le_mul_of_pos_right _ hc0
 obtain ⟨N, hNd⟩ : ∃ N, N = l.length * c := ⟨_, rfl⟩
 have hmul := fun w => mul_any l.length c (by omega) (by omega) (by omega) w
 rw [← hNd] at hN hN1 hmul ⊢
 have HM := hid hmul; have HN := hid hNd
 clear hmul hNd
 go_enter Tryz.func32, Tryz.ntmps32
 obtain ⟨ba, oa, rfl, hcs⟩ := hS.cells (by decide) 0 0 h0
 have hsrc : ∀ W, Below w.heap.size w W → ∃ ad, some (⟨ba, oa, none⟩ : Addr) = some ad ∧ ∀ j v, ((cyc l l.length).map cInt)[j]? = some v → W.cell? (ad.add j) = some v := fun W hW => by
  refine ⟨_, rfl, fun j v hv => ?_⟩
  rw [cyc_once] at hv
  have hj : j < l.length := by have := (List.getElem?_eq_some_iff.1 hv).1; simpa using this
  obtain ⟨b', o', e', hc'⟩ := (hS.below hW).cells (by decide) 0 j hj
  cases e'
  rw [Addr.add_z]
  have := hc' 0 v (by simpa [cInt, Value.cells, hj] using hv)
  simpa using this
 have HSRC := hid hsrc; clear hsrc hcs
 go_wp2_with (first | (go_at_call 78; refine (HM.out _).mono ?_; rintro e w' ⟨rfl, rfl⟩) | (((with_reducible refine wpList_make1 (c := cInt) (B := w.heap.size) (N) (0) E_intsZ cInt1 wU wU (by omega) (by omega) (by first | omega | (simp; done) | (simp; omega)) ?_); intro w1 ho1 hg1); have b1 := (Below.refl w.heap.size w).grown hg1 (Nat.le_refl _) (fun _ h => by cases h); have hL1 := own_laid (l := l) ho1 (by simp)) | ((with_reducible refine wpList_copyL l.length wU wU hL1 (by simp [Nat.min_def]; omega) (by omega) (by simp) rfl (HSRC.out _ b1) b1 (Nat.le_refl _) ?_); intro w2 hL2 hb2; simp only [Nat.zero_add] at hL2))
 go_loopw [8] (fun i wr => ∃ m : Nat, m ≤ N ∧ i = .int .i64 m ∧ Laid wr w.heap.size N m l ∧ 0 < m ∧ (m < N → m % l.length = 0) ∧ Below w.heap.size w wr) (fun i _ => N - (intOf i).toNat)
 case atStart => exact ⟨l.length, hN1, rfl, hL2, h0, fun _ => by simp, hb2⟩
 case round =>
  obtain ⟨m, hmN, rfl, hLm, hm0, hmod, hbr⟩ := hrel
  by_cases hlt : m < N
  ·have hmo := hid (hmod hlt)
   clear hmod
   obtain ⟨k, hk⟩ : ∃ k, k = Nat.min m (N - m) := ⟨_, rfl⟩
   have hk1 : k ≤ m := by rw [hk]; exact Nat.min_le_left _ _
   have hk2 : m + k ≤ N := by have : k ≤ N - m := by rw [hk]; exact Nat.min_le_right m (N - m)
                              omega
   have hk3 : 0 < k := by show 0 < k; rw [hk]; show 0 < min m (N - m); omega
   have hk4 : m + k < N → k = m := fun h => by have : k = min m (N - m) := hk; omega
   have HK := hid hk; have HK4 := hid hk4
   clear hk hk4
   have hsum : IntKind.i64.wrap ((m : Int) + k) = (m : Int) + k := IntWalk.i64_in _ (by omega)
   go_wp2_with fail
   have hLd : Laid wr.drew w.heap.size N m l := hLm
   have hcd : ∃ ad, some (⟨w.heap.size, 0, none⟩ : Addr) = some ad ∧ ∀ j v, ((cyc l k).map cInt)[j]? = some v → wr.drew.cell? (ad.add j) = some v := ⟨_, rfl, fun j v hv => hLd.cell j k hk1 v hv⟩
   have hbd := hbr.drew
   have hNm : ¬ N = m := by omega
   go_region_law (refine step_copyL (by rfl) _ _ (by rfl) (some ⟨w.heap.size, m, none⟩) (some ⟨w.heap.size, 0, none⟩) (N - m) (N - m) m N k (by simp [Act.eval, Act.put]) (by simp [Act.eval, Act.put]) hLd HK.out hk2 hmo.out rfl hcd hbd (Nat.le_refl _) ?_; intro w3 hL3 hb3)
   clear hsum
   have hfin : m + k < N → (m + k) % l.length = 0 := fun h => by rw [HK4.out h, ← Nat.two_mul, Nat.mul_mod, hmo.out, Nat.mul_zero, Nat.zero_mod]
   have hmo3 : N - ((m : Int) + k).toNat < N - (m : Int).toNat := by omega
   go_roundw
   case rel =>
    (repeat apply Exists.intro)
    exact ⟨⟨m + k, hk2, by go_num, hL3, by omega, hfin, hb3⟩, rfl⟩
   case measure => exact hmo3
  ·have : m = N := by omega
   subst this
   clear hmod
   go_wp2_with fail
   go_ret
   exact ⟨_, rfl, hLm.own (Nat.le_refl _) (by omega), hbr⟩
end Go.Proofs.YtdeoogbiipodmaaGreat

namespace Go.Proofs.YtdeoogbiipodmaaGreat
open Go.RowKit Go.Shelf
set_option maxHeartbeats 2000000
set_option maxRecDepth 100000

section
variable {p : List Int} (hp : IsP p) {i : Int} (h0 : 0 ≤ i) (h1 : i < p.length)
end

end Go.Proofs.YtdeoogbiipodmaaGreat

namespace Go.Proofs.YtdeoogbiipodmaaGreat
open Go.RowKit Go.Shelf
set_option maxHeartbeats 2000000
set_option maxRecDepth 100000

theorem F_sl : Flat Tryz.prog 22 := ⟨_, Tryz.underlying22, rfl⟩
end Go.Proofs.YtdeoogbiipodmaaGreat

namespace Go.Proofs.YtdeoogbiipodmaaGreat
open Go.RowKit
section
variable {P : Program} {ops : Array Oper} {Q : Exit → Act → World → Prop} {C : World → Prop}
theorem yieldsC_loadS {w : World} {d : Tmp} {e : TypeId} {s : Operand} {ty : TypeId} {p : String} {af : Array Edge} {g : Option (Nat × Bool)} {a : Act} {b o n : Nat} {cs us : Array Value} {T : TypeId} {fr : Nat × Nat} (hF : Aggr P e) (hn : (P.info? e).map (·.size) = some n)
   (hb : w.heap[b]? = some (.cells cs T fr)) (hv : (cs.toList.drop o).take n = us.toList) (hz : us.size = n) (hs : a.eval s = .pointer (some ⟨b, o, none⟩)) (hg : Region.wanted (⟨some d, .load e s, ty, p, af, g⟩ : Oper) (yielded ops a.tmps) = true) : YieldsC P ops (Below w.heap.size w) ⟨some d, .load e s, ty, p, af, g⟩ (.agg us) a := by
 refine .inl ⟨hg, fun w' hw' => ?_⟩
 obtain ⟨i, hi, hs2⟩ : ∃ i, P.info? e = some i ∧ i.size = n := by
  cases hi : P.info? e with
  | none => rw [hi] at hn; cases hn
  | some i => rw [hi] at hn; exact ⟨i, rfl, by simpa using hn⟩
 have := run_loadAt_agg (a := ⟨b, o, none⟩) w' hF hi (cs := us.toList) (by simp [hs2, hz]) (fun j v hj => by
  have hj2 : us[j]? = some v := by simpa using hj
  have hjn : j < n := by rw [← hz]; exact (Array.getElem?_eq_some_iff.1 hj2).1
  have hcs : cs[o + j]? = some v := by
   have : us.toList[j]? = some v := by simpa using hj
   rw [← hv, List.getElem?_take, if_pos hjn, List.getElem?_drop] at this
   simpa using this
  rw [Addr.add_z]
  simp [World.cell?, hw'.block b (Array.getElem?_eq_some_iff.1 hb).1, hb, hcs])
 rw [Array.toArray_toList] at this
 simp [execOp, hs, this, Result.andThen]
end
end Go.Proofs.YtdeoogbiipodmaaGreat

namespace Go.Proofs.YtdeoogbiipodmaaGreat
open Go.RowKit
section
variable {P : Program} {ops : Array Oper} {Q : Exit → Act → World → Prop} {md : Region.Mode} {C : World → Prop}

end
section
variable {P : Program} {ops : Array Oper} {w : World} {a : Act} {ty : TypeId} {p : String} {af : Array Edge} {g : Option (Nat × Bool)} {d : Tmp}
theorem yieldsK_cell {e : TypeId} {s : Operand} {x : Addr} {v : Value} (hF : Flat P e) (hb : w.cell? x = some v) (hg : Region.wanted (⟨some d, .load e s, ty, p, af, g⟩ : Oper) (yielded ops a.tmps) = true) (hs : a.eval s = .pointer (some x)) :
  YieldsK P ops (Below w.heap.size w) ⟨some d, .load e s, ty, p, af, g⟩ v a := by
 refine .inl ⟨hg, fun w' hw' => ?_⟩
 have hc : w'.cell? x = some v := (hw'.cell (World.block_lt_of_cell? w _ hb)).trans hb
 simp [execOp, hs, run_loadAt_cell w' hF hc, Result.andThen]
end
end Go.Proofs.YtdeoogbiipodmaaGreat

namespace Go.Proofs.YtdeoogbiipodmaaGreat

end Go.Proofs.YtdeoogbiipodmaaGreat

namespace Go.Proofs.YtdeoogbiipodmaaGreat
open Go.RowKit
set_option maxHeartbeats 4000000
set_option maxRecDepth 100000
theorem bneg_any (n : Int) (w : World) (h : -1000 ≤ n) (h2 : n ≤ 1000) :
  Calls Tryz.prog 76 #[.int .i64 n] w fun r w' => r = .returned (.int .i64 (-n)) ∧ w = w' := by
 have hw : IntKind.i64.wrap (-n) = -n := IntWalk.i64_in _ (by omega)
 go_enter Tryz.func76, Tryz.ntmps76
 go_wp2
 go_ret
 exact ⟨rfl, rfl⟩
def negW (l : List Int) : List Int := l.map fun x => -x
theorem bmapneg_any (al : Option Addr) (cl : Nat) (l : List Int) (w : World) (hL : Ints w al cl l) (hn : l.length ≤ 1000) (hf : ∀ x ∈ l, -1000 ≤ x ∧ x ≤ 1000) :
  Calls Tryz.prog 75 #[.slice al l.length cl, .func (.func 76) #[] #[]] w fun r w' => ∃ v, r = .returned v ∧ OwnI w.heap.size w' v (negW l) ∧ Below w.heap.size w w' := by
 have hcap := hL.le
 have hmx := hL.max
 have H : Hid (∀ x ∈ l, ∀ w', Calls Tryz.prog 76 #[.int .i64 x] w' fun r w'' => r = .returned (.int .i64 (-x)) ∧ w' = w'') := hid fun x hx w' => bneg_any x w' (hf x hx).1 (hf x hx).2
 have hS := (SL.nil w).nilS (α := Int) (e := 3) cIntS
 go_enter Tryz.func75, Tryz.ntmps75
 go_wp2_with fail
 go_loopw [10, 7, 5] (fun i _ v wr => ∃ k : Nat, k ≤ l.length ∧ i = .int .i64 k ∧ SL w.heap.size w wr [pOwn cInt 1 3 v (negW (l.take k))]) (fun i _ _ _ => l.length - (intOf i).toNat)
 case atStart => exact ⟨0, by omega, rfl, hS⟩
 case round =>
  clear hS
  obtain ⟨k, hk, rfl, hSr⟩ := hrel
  have hLr := hL.below hSr.b
  by_cases hlt : k < l.length
  ·have hmem := atD_mem hlt
   have ht : l.take (k + 1) = l.take k ++ [atD 0 l k] := by rw [List.take_succ_eq_append_getElem hlt]; simp [atD, hlt]
   have hlen : (negW (l.take k)).length ≤ 1048576 := by unfold negW; simp; omega
   obtain ⟨x, hx⟩ : ∃ x, x = atD 0 l k := ⟨_, rfl⟩
   rw [← hx] at hmem ht
   have HX := hid hx; have HT := hid ht
   clear hx ht
   go_wp2_with ((with_reducible refine wpList_idx _ 0 E_ints F_int cInt1 wU wU (hLr) oD oD (fun _ => wU) (fun _ => ?_)); rw [← HX.out])
   refine (H.out x hmem _).mono ?_
   rintro e w1 ⟨rfl, rfl⟩
   go_wp2_with ((with_reducible refine wpList_pushL (y := (-x)) 0 E_ints wU wU (hSr) wU cIntO ⟨rfl, rfl⟩ (by first | with_unfolding_all rfl | simp) wU (by first | omega | (simp; omega)) (by first | omega | (simp; omega)) ?_); intro v2 w2 hS2)
   exact ⟨⟨k + 1, by omega, by go_num, by rw [HT.out]; unfold negW at hS2 ⊢; rw [List.map_append]; exact hS2⟩, by simp [intOf]; omega⟩
  ·have hkk : k = l.length := by omega
   subst hkk
   rw [List.take_length] at hSr
   clear hlt
   go_wp2_with fail
   go_ret
   exact ⟨_, rfl, hSr.own 0 rfl, hSr.b⟩
end Go.Proofs.YtdeoogbiipodmaaGreat

namespace Go.Proofs.YtdeoogbiipodmaaGreat
section
variable {S : Type} (G : Gar S)
variable {G}
theorem Star.pre (U : List S) {X Y : List S} (h : Star G X Y) : Star G (U ++ X) (U ++ Y) := by
 induction U with
 | nil => exact h
 | cons a U ih => exact ih.there a
theorem Pull.post {X Y : List S} (h : Pull G X Y) (Z : List S) : Pull G (X ++ Z) (Y ++ Z) := by
 induction h with
 | here a b X i h1 h2 h3 => exact .here a b (X ++ Z) i h1 h2 h3
 | there a _ ih => exact .there a ih
theorem Star.post {X Y : List S} (h : Star G X Y) (Z : List S) : Star G (X ++ Z) (Y ++ Z) := by
 induction h with
 | refl => exact .refl _
 | step p _ ih => exact .step (p.post Z) ih
end
end Go.Proofs.YtdeoogbiipodmaaGreat

namespace Go.Proofs.YtdeoogbiipodmaaGreat
section
variable {S : Type} {T : GarT S}
theorem map_flfl {X : List S} (h : Vs T.toGar X) : (X.map T.fl).map T.fl = X := by
 rw [List.map_map]
 conv => rhs; rw [← List.map_id X]
 exact List.map_congr_left fun x hx => T.flfl (h x hx)
/-- a pair goes its way with a letter more at its end. -/
theorem lift_end {j : Nat} (hj : j < T.N) {X Z : List S} (h : Star T.toGar X Z) : ∀ x y, X = [x, y] → T.V x → T.V y → T.E y j = false → ∃ x' y', Z = [x', y'] ∧ T.V x' ∧ T.V y' ∧ T.E y' j = false ∧ Star T.toGar [x, T.bk y j] [x', T.bk y' j] := by
 induction h with
 | refl => intro x y e vx vy h; exact ⟨x, y, e, vx, vy, h, .refl _⟩
 | step p q ih =>
  intro x y e vx vy h
  subst e
  cases p with
  | here _ _ _ i h1 h2 h3 =>
   obtain ⟨m1, m2, m3⟩ := T.mid vy h1 hj h2 h
   obtain ⟨x', y', e', vx', vy', k1, k2⟩ := ih _ _ rfl (T.vbk vx h1) (T.vfr vy h1) m1
   refine ⟨x', y', e', vx', vy', k1, .step (.here _ _ _ i h1 m2 h3) ?_⟩
   rw [m3]
   exact k2
  | there _ p =>
   cases p with
   | there _ p => cases p
theorem one_right : ∀ (n : Nat) {b : S}, T.K - T.ht b = n → T.V b → Star T.toGar [T.e, b] [b, T.e] := by
 intro n
 induction n using Nat.strongRecOn with
 | _ n ih =>
  intro b hn hb
  by_cases h : ∃ j, j < T.N ∧ T.E b j = true
  ·obtain ⟨j, hj, he⟩ := h
   have v1 := T.vbk hb hj
   have e1 : T.E (T.bk b j) j = false := by rw [T.Ebk hb hj, he]; rfl
   have e2 := T.bkbk hb hj
   have l1 := T.lbk v1 hj e1
   rw [e2] at l1
   have hk := T.hK v1
   have h1 := ih (T.K - T.ht (T.bk b j)) (by omega) rfl v1
   obtain ⟨x', y', e', vx', vy', _, k2⟩ := lift_end hj h1 _ _ rfl T.ve v1 e1
   cases e'
   rw [e2] at k2
   refine k2.trans (.one ?_)
   have p := Pull.here (G := T.toGar) (T.bk b j) (T.bk T.e j) [] j hj (by rw [T.letK hj]; exact T.letB hj) e1
   rw [e2, T.letK hj, T.letF hj] at p
   rw [T.letK hj]
   exact p
  ·have : b = T.e := T.isE hb fun i hi => by cases hh : T.E b i with | false => rfl | true => exact absurd ⟨i, hi, hh⟩ h
   rw [this]
   exact .refl _
theorem co_star : ∀ (n : Nat) {c : S}, muG T.toGar [c, T.co c] = n → T.V c → Star T.toGar [c, T.co c] [T.D, T.e] := by
 intro n
 induction n using Nat.strongRecOn with
 | _ n ih =>
  intro c hn hc
  by_cases h : ∃ i, i < T.N ∧ T.E c i = false
  ·obtain ⟨i, hi, he⟩ := h
   have p := Pull.here (G := T.toGar) c (T.co c) [] i hi (by rw [T.coB hc hi, he]; rfl) he
   have hm := p.mu (vs_cons hc (vs_cons (T.vco hc) vs_nil))
   rw [T.cofr hc hi] at p hm
   exact .step p (ih _ (by omega) rfl (T.vbk hc hi))
  ·have : c = T.D := T.isD hc fun i hi => by cases hh : T.E c i with | true => rfl | false => exact absurd ⟨i, hi, hh⟩ h
   rw [this, T.coD]
   exact .refl _
theorem noPull_top {X : List S} (h : NoPull T.toGar X) : NoPull T.toGar (T.D :: X) := by
 intro Y p
 cases p with
 | here _ _ _ i h1 _ h3 => rw [T.ED h1] at h3; cases h3
 | there _ p => exact h _ p
theorem pull_tail {X Z : List S} (h : Pull T.toGar X Z) : ∀ U, X = U ++ [T.e] → ∃ W, Z = W ++ [T.e] ∧ Pull T.toGar U W := by
 induction h with
 | here a b X i h1 h2 h3 =>
  intro U e
  rcases U with _ | ⟨u, U⟩
  ·simp at e
  ·rcases U with _ | ⟨v, U⟩
   ·simp at e
    obtain ⟨_, rfl, _⟩ := e
    rw [T.Be h1] at h2; cases h2
   ·simp only [List.cons_append, List.cons.injEq] at e
    obtain ⟨rfl, rfl, rfl⟩ := e
    exact ⟨_ :: _ :: U, by simp, .here _ _ _ i h1 h2 h3⟩
 | there a p ih =>
  intro U e
  rcases U with _ | ⟨u, U⟩
  ·simp only [List.nil_append, List.cons.injEq] at e
   obtain ⟨_, rfl⟩ := e
   cases p
  ·simp only [List.cons_append, List.cons.injEq] at e
   obtain ⟨rfl, rfl⟩ := e
   obtain ⟨W, rfl, hW⟩ := ih U rfl
   exact ⟨a :: W, rfl, .there a hW⟩
theorem noPull_tail {X : List S} (h : NoPull T.toGar X) : NoPull T.toGar (X ++ [T.e]) := fun Y p => by
 obtain ⟨W, _, hW⟩ := pull_tail p X rfl
 exact h W hW
theorem star_tail {X Z : List S} (h : Star T.toGar X Z) : ∀ U, X = U ++ [T.e] → ∃ W, Z = W ++ [T.e] ∧ Star T.toGar U W := by
 induction h with
 | refl => intro U e; exact ⟨U, e, .refl _⟩
 | step p _ ih =>
  intro U e
  obtain ⟨W, e2, hW⟩ := pull_tail p U e
  obtain ⟨W2, e3, h3⟩ := ih W e2
  exact ⟨W2, e3, .step hW h3⟩
theorem noPull_one (a : S) : NoPull T.toGar [a] := fun Y p => by
 cases p with
 | there _ p => cases p
/-- the half twist goes to the left past a simple braid. -/
theorem top_one {a : S} (ha : T.V a) : Star T.toGar [a, T.D] [T.D, T.fl a] := by
 have va := T.vco ha
 have hv : Vs T.toGar [a, T.co a, T.fl a] := vs_cons ha (vs_cons va (vs_cons (T.vfl ha) vs_nil))
 have h1 : Star T.toGar [a, T.co a, T.fl a] [T.D, T.fl a, T.e] := ((co_star _ rfl ha).post [T.fl a]).trans ((one_right _ rfl (T.vfl ha)).there T.D)
 have h2 : Star T.toGar [a, T.co a, T.fl a] ([a, T.D] ++ [T.e]) := by
  have := (co_star (T := T) _ rfl va).there a
  rw [T.coco ha] at this
  exact this
 obtain ⟨W, w1, w2⟩ := norm_ex _ (h2.vs hv)
 have n1 : NoPull T.toGar [T.D, T.fl a, T.e] := noPull_top (noPull_tail (X := [T.fl a]) (noPull_one _))
 have e := norm_one hv h1 n1 (h2.trans w1) w2
 rw [← e] at w1
 obtain ⟨W2, e2, h3⟩ := star_tail w1 [a, T.D] rfl
 have : W2 = [T.D, T.fl a] := by
  have e3 : [T.D, T.fl a] ++ [T.e] = W2 ++ [T.e] := e2
  exact (List.append_cancel_right e3).symm
 rw [this] at h3
 exact h3
theorem top_far : ∀ {U : List S}, Vs T.toGar U → Star T.toGar (U ++ [T.D]) (T.D :: U.map T.fl)
 | [], _ => .refl _
 | a :: U, h => ((top_far fun x hx => h x (by simp [hx])).there a).trans ((top_one (h a (by simp))).post (U.map T.fl))
theorem facL_star {w : List Int} (hw : ∀ x ∈ w, LetOk T.N x) : ∀ {L M : List S}, Vs T.toGar L → Star T.toGar L M → Star T.toGar (facL T L w) (facL T M w) := by
 induction w with
 | nil => intro L M _ h; exact h
 | cons x w ih =>
  intro L M hL h
  refine ih (fun y hy => hw y (by simp [hy])) (fac_vs hL (hw x (by simp))) ?_
  unfold facG
  split
  ·exact h.post _
  ·exact (h.map hL).post _
end
end Go.Proofs.YtdeoogbiipodmaaGreat

namespace Go.Proofs.YtdeoogbiipodmaaGreat
set_option maxRecDepth 100000

theorem itM_inj {m : MacV} {s t : Int} (h0 : 0 ≤ s) (h1 : s < 4 * m.gears) (k0 : 0 ≤ t) (k1 : t < 4 * m.gears) : ∀ n, itM m s n = itM m t n → s = t
 | 0, h => h
 | n + 1, h => by
   rw [itM_succ h0 h1, itM_succ k0 k1] at h
   have a := itM_rng h0 h1 n
   have b := itM_rng k0 k1 n
   exact itM_inj h0 h1 k0 k1 n (next_inj a.1 a.2 b.1 b.2 h)

end Go.Proofs.YtdeoogbiipodmaaGreat

namespace Go.Proofs.YtdeoogbiipodmaaGreat
set_option maxRecDepth 100000
theorem word_app {n : Nat} {u v : List Int} (h : WordOk n u) (k : WordOk n v) : WordOk n (u ++ v) := fun x hx => by rcases List.mem_append.1 hx with hx | hx; exact h x hx; exact k x hx
/-- the word that leads back. -/
def invW (w : List Int) : List Int := (w.map fun x => -x).reverse
section
variable {S : Type} {T : GarT S}
theorem vs_reps {c : Nat} {a : S} (h : T.V a) : Vs T.toGar (List.replicate c a) := fun x hx => by rw [List.eq_of_mem_replicate hx]; exact h
theorem fac_top1 {w : List Int} (hw : ∀ x ∈ w, LetOk T.N x) : ∀ {L : List S}, Vs T.toGar L → Star T.toGar (facL T (T.D :: L) w) (T.D :: facL T L w) := by
 induction w with
 | nil => intro L _; exact .refl _
 | cons x w ih =>
  intro L hL
  have hx := hw x (by simp)
  have h1 := ih (fun y hy => hw y (by simp [hy])) (fac_vs hL hx)
  have e : facG T (T.D :: L) x = T.D :: facG T L x := by
   unfold facG
   split
   ·rfl
   ·rw [List.map_cons, T.flD]; rfl
  show Star T.toGar (facL T (facG T (T.D :: L) x) w) (T.D :: facL T (facG T L x) w)
  rw [e]
  exact h1
theorem fac_tail1 {w : List Int} (hw : ∀ x ∈ w, LetOk T.N x) : ∀ {L : List S}, Vs T.toGar L → Star T.toGar (facL T (L ++ [T.e]) w) (facL T L w ++ [T.e]) := by
 induction w with
 | nil => intro L _; exact .refl _
 | cons x w ih =>
  intro L hL
  have hx := hw x (by simp)
  have hi := ltrI_lt hx
  have hw2 : ∀ y ∈ w, LetOk T.N y := fun y hy => hw y (by simp [hy])
  refine Star.trans ?_ (ih hw2 (fac_vs hL hx))
  refine facL_star hw2 (fac_vs (vs_app hL (vs_cons T.ve vs_nil)) hx) ?_
  unfold facG
  split
  ·rw [List.append_assoc, List.append_assoc]
   exact (one_right (T := T) _ rfl (T.vfr T.ve hi)).pre L
  ·rw [List.map_append, List.map_cons, List.map_nil, T.fle, List.append_assoc, List.append_assoc]
   exact (one_right (T := T) _ rfl (T.vbk T.vD hi)).pre (L.map T.fl)
def flN (T : GarT S) (c : Nat) (L : List S) : List S := Nat.repeat (List.map T.fl) c L
theorem flN_succ (c : Nat) (L : List S) : flN T (c + 1) L = (flN T c L).map T.fl := rfl
theorem flN_vs {L : List S} (h : Vs T.toGar L) : ∀ c, Vs T.toGar (flN T c L)
 | 0 => h
 | c + 1 => vs_map (flN_vs h c)
theorem flN_map (L : List S) : ∀ c, flN T c (L.map T.fl) = (flN T c L).map T.fl
 | 0 => rfl
 | c + 1 => by rw [flN_succ, flN_map L c, flN_succ]
theorem flN_two {L : List S} (h : Vs T.toGar L) : ∀ c, flN T (2 * c) L = L
 | 0 => rfl
 | c + 1 => by
   rw [show 2 * (c + 1) = 2 * c + 1 + 1 by omega, flN_succ, flN_succ, flN_two h c, map_flfl h]
theorem flN_add (L : List S) (a : Nat) : ∀ b, flN T b (flN T a L) = flN T (a + b) L
 | 0 => rfl
 | b + 1 => by rw [flN_succ, flN_add L a b]; rfl
/-- the list of a word behind a list: the list is flipped with each letter below 0. -/
theorem fac_split : ∀ (w : List Int) (L : List S), (∀ x ∈ w, x ≠ 0) → facL T L w = flN T (negC w) L ++ facL T [] w
 | [], L, _ => by simp [facL, flN, negC, Nat.repeat]
 | x :: w, L, hz => by
   have hz2 : ∀ y ∈ w, y ≠ 0 := fun y hy => hz y (by simp [hy])
   have hx := hz x (by simp)
   show facL T (facG T L x) w = _ ++ facL T (facG T [] x) w
   rw [fac_split w (facG T L x) hz2, fac_split w (facG T [] x) hz2]
   unfold facG negC
   have hm : ∀ (c : Nat) (A B : List S), flN T c (A ++ B) = flN T c A ++ flN T c B := by
     intro c A B
     induction c with
     | zero => rfl
     | succ c ih => rw [flN_succ, flN_succ, flN_succ, ih, List.map_append]
   by_cases hp : 0 < x
   · rw [if_pos hp, if_pos hp, hm, List.nil_append, List.filter_cons_of_neg (by simp; omega), List.append_assoc]
   · have h0 : x < 0 := by omega
     rw [if_neg hp, if_neg hp, hm, List.map_nil, List.nil_append, List.filter_cons_of_pos (by simpa using h0), List.append_assoc, flN_map]
     rfl
theorem fac_tops {w : List Int} (hw : ∀ x ∈ w, LetOk T.N x) : ∀ (c d : Nat) {L : List S}, Vs T.toGar L → Star T.toGar (facL T (List.replicate c T.D ++ L ++ List.replicate d T.e) w) (List.replicate c T.D ++ facL T L w ++ List.replicate d T.e)
 | 0, 0, L, _ => by simpa using Star.refl _
 | c + 1, 0, L, h => by
   have hL : Vs T.toGar (List.replicate c T.D ++ L) := vs_app (vs_reps T.vD) h
   have h1 : Star T.toGar (facL T (T.D :: (List.replicate c T.D ++ L)) w) (T.D :: facL T (List.replicate c T.D ++ L) w) := fac_top1 hw hL
   have h2 := (fac_tops hw c 0 h).there T.D
   simp only [List.replicate_zero, List.append_nil] at h2 ⊢
   rw [List.replicate_succ]
   exact h1.trans h2
 | c, d + 1, L, h => by
   have hL : Vs T.toGar (List.replicate c T.D ++ L ++ List.replicate d T.e) := vs_app (vs_app (vs_reps T.vD) h) (vs_reps T.ve)
   have h1 := fac_tail1 hw hL
   have h2 := (fac_tops hw c d h).post [T.e]
   rw [List.replicate_succ', ← List.append_assoc, ← List.append_assoc]
   exact h1.trans h2
theorem tops_left {U : List S} (hU : Vs T.toGar U) : ∀ c, Star T.toGar (U ++ List.replicate c T.D) (List.replicate c T.D ++ flN T c U)
 | 0 => by simpa [flN, Nat.repeat] using Star.refl _
 | c + 1 => by
   have h1 := (tops_left hU c).post [T.D]
   have h2 := (top_far (T := T) (flN_vs hU c)).pre (List.replicate c T.D)
   rw [List.append_assoc, ← List.replicate_succ'] at h1
   rw [List.append_assoc] at h1
   have h3 := h1.trans h2
   rw [flN_succ, show List.replicate (c + 1) T.D ++ List.map T.fl (flN T c U) = List.replicate c T.D ++ T.D :: List.map T.fl (flN T c U) by rw [List.replicate_succ', List.append_assoc]; rfl]
   exact h3
end
theorem word_ne {n : Nat} {w : List Int} (h : WordOk n w) : ∀ x ∈ w, x ≠ 0 := fun x hx => (h x hx).1
/-- a word that comes to half twists alone, an even number together with its letters below 0, commutes with every word. -/
theorem form_twist {n : Nat} {v w : List Int} (hv : WordOk n v) (hw : WordOk n w) {c d : Nat} (hY : NfW (garN n) v (List.replicate c (revP n) ++ List.replicate d (idL n))) (he : (c + negC v) % 2 = 0) : formW n (v ++ w) = formW n (w ++ v) := by
 have vv := word_vs hv
 have vw := word_vs hw
 have hvw := word_app hv hw
 have hwv := word_app hw hv
 -- the twist first
 have h1 : Star (garN n).toGar (facL (garN n) [] (v ++ w)) (List.replicate c (garN n).D ++ facL (garN n) [] w ++ List.replicate d (garN n).e) := by
  rw [facL_app]
  have a := facL_star (T := garN n) hw vv hY.1
  have b := fac_tops (T := garN n) hw c d (L := []) vs_nil
  rw [List.append_nil] at b
  exact a.trans b
 -- the twist last
 have h2 : Star (garN n).toGar (facL (garN n) [] (w ++ v)) (List.replicate c (garN n).D ++ facL (garN n) [] w ++ List.replicate d (garN n).e) := by
  rw [facL_app, fac_split v _ (word_ne hv)]
  have a := hY.1.pre (flN (garN n) (negC v) (facL (garN n) [] w))
  have b := (tops_left (T := garN n) (flN_vs vw (negC v)) c).post (List.replicate d (garN n).e)
  rw [flN_add] at b
  obtain ⟨k, hk⟩ : ∃ k, negC v + c = 2 * k := ⟨(negC v + c) / 2, by omega⟩
  rw [hk, flN_two vw] at b
  rw [← List.append_assoc] at a
  exact a.trans b
 obtain ⟨Y, y1, y2⟩ := norm_ex _ (h1.vs (word_vs hvw))
 rw [formW_eq hvw ⟨h1.trans y1, y2⟩, formW_eq hwv ⟨h2.trans y1, y2⟩]
 unfold formY
 rw [negC_app, negC_app, Nat.add_comm]
end Go.Proofs.YtdeoogbiipodmaaGreat

namespace Go.Proofs.YtdeoogbiipodmaaGreat
open Go.RowKit
set_option maxHeartbeats 8000000
set_option maxRecDepth 100000

section
variable {P : Program} {ops : Array Oper} {a : Act} {ty : TypeId} {p : String} {af : Array Edge} {g : Option (Nat × Bool)} {d : Tmp} {C : World → Prop}
theorem yieldsK_blkC {e : TypeId} {s : Operand} {b n : Nat} {us : Array Value} {T : TypeId} {fr : Nat × Nat} (hF : Aggr P e) (hn : (P.info? e).map (·.size) = some n) (hb : ∀ w, C w → w.heap[b]? = some (.cells us T fr)) (hz : us.size = n)
   (hg : Region.wanted (⟨some d, .load e s, ty, p, af, g⟩ : Oper) (yielded ops a.tmps) = true) (hs : a.eval s = .pointer (some ⟨b, 0, none⟩)) : YieldsK P ops C ⟨some d, .load e s, ty, p, af, g⟩ (.agg us) a := by
 obtain ⟨i, hi, hs2⟩ : ∃ i, P.info? e = some i ∧ i.size = n := by
  cases hi : P.info? e with
  | none => rw [hi] at hn; cases hn
  | some i => rw [hi] at hn; exact ⟨i, rfl, by simpa using hn⟩
 refine .inl ⟨hg, fun w' hw' => ?_⟩
 have hb2 := hb w' hw'
 have := run_loadAt_agg (a := ⟨b, 0, none⟩) w' hF hi (cs := us.toList) (by simp [hs2, hz]) (fun j v hj => by
  have hj2 : us[j]? = some v := by simpa using hj
  rw [Addr.add_z]
  simp [World.cell?, hb2, hj2])
 simp [execOp, hs, this, Result.andThen]
end

end Go.Proofs.YtdeoogbiipodmaaGreat

namespace Go.Proofs.YtdeoogbiipodmaaGreat
open Go.RowKit
section
variable {P : Program} {ops : Array Oper} {w : World} {a : Act} {ty : TypeId} {p : String} {af : Array Edge} {g : Option (Nat × Bool)} {d : Tmp}
theorem yieldsK_blk {e : TypeId} {s : Operand} {b n : Nat} {us : Array Value} {T : TypeId} {fr : Nat × Nat} (hF : Aggr P e) (hn : (P.info? e).map (·.size) = some n) (hb : w.heap[b]? = some (.cells us T fr)) (hz : us.size = n)
   (hg : Region.wanted (⟨some d, .load e s, ty, p, af, g⟩ : Oper) (yielded ops a.tmps) = true) (hs : a.eval s = .pointer (some ⟨b, 0, none⟩)) : YieldsK P ops (Below w.heap.size w) ⟨some d, .load e s, ty, p, af, g⟩ (.agg us) a := by
 rcases yieldsC_loadS (ops := ops) (ty := ty) (p := p) (af := af) (g := g) (d := d) (o := 0) (us := us) hF hn hb (by rw [List.drop_zero, List.take_of_length_le (by simp; omega)]) hz hs hg with h | h
 ·exact .inl h
 ·exact .inr (.inl h)
end

end Go.Proofs.YtdeoogbiipodmaaGreat

namespace Go.Proofs.YtdeoogbiipodmaaGreat

end Go.Proofs.YtdeoogbiipodmaaGreat

namespace Go.Proofs.YtdeoogbiipodmaaGreat

end Go.Proofs.YtdeoogbiipodmaaGreat

namespace Go.Proofs.YtdeoogbiipodmaaGreat
set_option maxRecDepth 100000
/-- the switch before. -/
def prevO (l : List Int) : Nat → Option Int
 | 0 => none
 | k + 1 => some (atD 0 l k)
theorem swGo_prev (m : MacV) (k : Nat) (h : k < m.sw.length) : swGo m (prevO m.sw k) (m.sw.drop k) = if sharedM m (atD 0 m.sw k) = false then 10 else if 0 < k ∧ atD 0 m.sw k ≤ atD 0 m.sw ((k : Int) - 1) then 11 else swGo m (prevO m.sw (k + 1)) (m.sw.drop (k + 1)) := by
 rw [swGo_step m k h]
 cases k with
 | zero => simp [prevO]
 | succ j =>
  have : ((j + 1 : Nat) : Int) - 1 = j := by omega
  rw [this]
  simp only [prevO, Nat.zero_lt_succ, true_and]
end Go.Proofs.YtdeoogbiipodmaaGreat

namespace Go.Proofs.YtdeoogbiipodmaaGreat
set_option maxRecDepth 100000
theorem nodup_map {l : List Int} {f : Int → Int} (hn : l.Nodup) (h : ∀ x ∈ l, ∀ y ∈ l, f x = f y → x = y) : (l.map f).Nodup := by
 rw [List.nodup_iff_pairwise_ne, List.pairwise_map]
 exact (List.nodup_iff_pairwise_ne.1 hn).imp_of_mem fun {x y} hx hy hxy e => hxy (h x hx y hy e)
theorem atL_nodup {m : MacV} {l : List Int} (hr : ∀ x ∈ l, 0 ≤ x ∧ x < 4 * m.gears) (hn : l.Nodup) (k : Nat) : (atL m l k).Nodup :=
 nodup_map hn fun x hx y hy e => itM_inj (hr x hx).1 (hr x hx).2 (hr y hy).1 (hr y hy).2 k e
end Go.Proofs.YtdeoogbiipodmaaGreat

namespace Go.Proofs.YtdeoogbiipodmaaGreat
open Go.RowKit
set_option maxHeartbeats 2000000
set_option maxRecDepth 100000

theorem A_rmach : Aggr Tryz.prog 45 := ⟨_, Tryz.underlying45, rfl⟩
theorem rOutside_any (n lo hi : Int) (w : World) :
  Calls Tryz.prog 47 #[.int .i64 n, .int .i64 lo, .int .i64 hi] w fun r w' => r = .returned (.bool (decide (n < lo) || decide (hi < n))) ∧ w = w' := by
 by_cases h : n < lo
 ·go_enter Tryz.func47, Tryz.ntmps47
  go_wp2_with fail
  go_ret
  exact ⟨by simp [h], rfl⟩
 ·go_enter Tryz.func47, Tryz.ntmps47
  go_wp2_with fail
  go_ret
  exact ⟨by rw [show decide (n < lo) = false by simpa using h]; rfl, rfl⟩
theorem rShort_any (m : MacV) (ad : Option Addr) (cap : Nat) (al : Option Addr) (cl n : Nat) (w : World) :
  Calls Tryz.prog 14 #[mV m ad cap, .slice al n cl] w fun r w' => r = .returned (.bool (decide (m.sw.length ≤ 19) && decide (n ≤ 67))) ∧ Below w.heap.size w w' := by
 by_cases h : m.sw.length ≤ 19
 ·have h2 : (m.sw.length : Int) ≤ 19 := by omega
  by_cases k : n ≤ 67
  ·have k2 : (n : Int) ≤ 67 := by omega
   go_enter Tryz.func14, Tryz.ntmps14
   go_wp2_with fail
   go_ret
   exact ⟨by simp [h, k, h2, k2], bal (Below.refl _ _) _⟩
  ·have k2 : ¬ (n : Int) ≤ 67 := by omega
   go_enter Tryz.func14, Tryz.ntmps14
   go_wp2_with fail
   go_ret
   exact ⟨by simp [h, k, h2, k2], bal (Below.refl _ _) _⟩
 ·have h2 : ¬ (m.sw.length : Int) ≤ 19 := by omega
  go_enter Tryz.func14, Tryz.ntmps14
  go_wp2_with fail
  go_ret
  exact ⟨by simp [h, h2], bal (Below.refl _ _) _⟩
theorem rSlots_any (m : MacV) (ad : Option Addr) (cap : Nat) (w : World) (h0 : 0 ≤ m.gears) (h1 : m.gears ≤ 16) :
  Calls Tryz.prog 49 #[mV m ad cap] w fun r w' => r = .returned (.int .i64 (4 * m.gears)) ∧ Below w.heap.size w w' := by
 go_enter Tryz.func49, Tryz.ntmps49
 go_wp2_with fail
 go_ret
 exact ⟨rfl, bal (Below.refl _ _) _⟩
theorem rShared_any (m : MacV) (ad : Option Addr) (cap : Nat) (p : Int) (w : World) (h0 : 1 ≤ m.gears) (h1 : m.gears ≤ 16) :
  Calls Tryz.prog 48 #[mV m ad cap, .int .i64 p] w fun r w' => r = .returned (.bool (sharedM m p)) ∧ Below w.heap.size w w' := by
 have hw : IntKind.i64.wrap (m.gears - 1) = m.gears - 1 := IntWalk.i64_in _ (by omega)
 have hS := (SL.nil w).box (.cells (mC m ad cap) 45)
 cases hr : m.ring
 ·have hs : sharedM m p = !(decide (p < 1) || decide (m.gears - 1 < p)) := by
   unfold sharedM
   rw [hr, Bool.eq_iff_iff]
   simp
   omega
  obtain ⟨b, hb⟩ : ∃ b, b = (decide (p < 1) || decide (m.gears - 1 < p)) := ⟨_, rfl⟩
  have CO := fun w => rOutside_any p 1 (m.gears - 1) w
  rw [← hb] at CO hs
  have HS := hid hs; have HO := hid CO
  clear hs CO hb
  unfold mV
  rw [hr]
  clear hr
  go_enter Tryz.func48, Tryz.ntmps48
  go_wp2_with fail
  refine (HO.out _).mono ?_
  rintro e w1 ⟨rfl, rfl⟩
  go_wp2_with fail
  go_ret
  exact ⟨by rw [HS.out]; rfl, bal (Below.refl _ _) _⟩
 ·have hs : sharedM m p = !(decide (p < 0) || decide (m.gears - 1 < p)) := by
   unfold sharedM
   rw [hr, Bool.eq_iff_iff]
   simp
   omega
  obtain ⟨b, hb⟩ : ∃ b, b = (decide (p < 0) || decide (m.gears - 1 < p)) := ⟨_, rfl⟩
  have CO := fun w => rOutside_any p 0 (m.gears - 1) w
  rw [← hb] at CO hs
  have HS := hid hs; have HO := hid CO
  clear hs CO hb
  unfold mV
  rw [hr]
  clear hr
  go_enter Tryz.func48, Tryz.ntmps48
  go_wp2_with fail
  refine (HO.out _).mono ?_
  rintro e w1 ⟨rfl, rfl⟩
  go_wp2_with fail
  go_ret
  exact ⟨by rw [HS.out]; rfl, bal (Below.refl _ _) _⟩
end Go.Proofs.YtdeoogbiipodmaaGreat
