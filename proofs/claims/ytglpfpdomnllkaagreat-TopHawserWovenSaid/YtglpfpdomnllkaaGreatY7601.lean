/- Contracts and plain facts that the claim uses (PrA SlA RE McA CyA EnP GsP BrB MxA NfP MaQ MbP MaG MaJ MaN MaO MaR MbU). Conditions: as each one states. -/
import Derived.Test.YtglpfpdomnllkaaGreatProg
import Derived.WalkKit
import Derived.WalkSpells
import Derived.Maps.AppendAt
import Derived.Deep.Quiet
import Derived.Maps.Own
import Derived.Maps.OwnSet
import Derived.Maps.Views
import Derived.WalkLawsBesides
import Derived.Laws.EntriesVeiled
import Derived.Deep.QuietTactic
import Derived.BigQuiet
import Derived.Deep.RegionHeld3
import Derived.Deep.AppendLies
import Derived.Deep.RegionHeldLaw
import Derived.Deep.RegionLaw
import Derived.RangeFuncNested
import Derived.RangeFuncBound
import Derived.RangeFuncCalls
import Derived.RangeFuncLeaves
import Derived.RangeFuncFrom
import Derived.Shelf.Abstract
import Derived.Shelf.RegionOpen
import Derived.OwnWalkIn
import Derived.TacticsInMore
import Derived.LoopNIn
import Derived.LoopIn
import Derived.Shelf.Strings.Trim
import Derived.Shelf.Strings.SlTrimAscii
import Derived.Shelf.Strings.Repeat
import Derived.Shelf.Strings.OnBuilder
import Derived.Shelf.Strconv.Itoa1
import Derived.Shelf.Strconv.Itoa3
import Derived.Shelf.LaysM
import Derived.Ground.Names2Prog
import Derived.Lib.OthersKept
import Derived.IntWalk
import Derived.Sort.LoopGhostIn
import Derived.StillTail
import Derived.Laws.Tables
import Derived.Laws.CopyOwn
import Derived.BigRegion
import Derived.ChangeAlike
import Derived.Shelf.Bits.Mul64
import Derived.Lib.ItoaLen
import Derived.Lib.ItoaMem
import Derived.Maps.RangeWalk
import Derived.Maps.Ext
import Derived.Sort.QuietThIn
import Derived.Test.YtglpfpdomnllkaaGreatXz01
import Derived.Test.YtglpfpdomnllkaaGreatXz02
import Derived.Test.YtglpfpdomnllkaaGreatXz03
import Derived.Test.YtglpfpdomnllkaaGreatXz04
import Derived.Test.YtglpfpdomnllkaaGreatXz05
import Derived.Test.YtglpfpdomnllkaaGreatXz06
import Derived.Test.YtglpfpdomnllkaaGreatXz07
import Derived.Test.YtglpfpdomnllkaaGreatXz08
import Derived.Test.YtglpfpdomnllkaaGreatXz09
import Derived.Test.YtglpfpdomnllkaaGreatXz10
import Derived.Test.YtglpfpdomnllkaaGreatXz11
import Derived.Test.YtglpfpdomnllkaaGreatXz12
set_option linter.all false

namespace Go.Proofs.YtglpfpdomnllkaaGreat
open Go.RowKit
set_option maxHeartbeats 1000000
set_option maxRecDepth 100000

/-- two neighbours exchanged. -/
def swapL (st : List Int) (k : Int) : List Int := (st.set (k - 1).toNat (atD 0 st k)).set k.toNat (atD 0 st (k - 1))
def crossOf (st : List Int) (x : Int) : Int × Int := if x < 0 then (atD 0 st (absI x), atD 0 st (absI x - 1)) else (atD 0 st (absI x - 1), atD 0 st (absI x))
end Go.Proofs.YtglpfpdomnllkaaGreat

namespace Go.Proofs.YtglpfpdomnllkaaGreat
open Go.RowKit
set_option maxHeartbeats 1000000
set_option maxRecDepth 100000

def rowGo : List Int → List (Int × Int) → List Int → List Int × List (Int × Int)
 | st, cr, [] => (st, cr)
 | st, cr, x :: r => rowGo (swapL st (absI x)) (cr ++ [crossOf st x]) r
def startL (n : Nat) : List Int := (List.range n).map fun (i : Nat) => (i : Int) + 1
theorem startL_len (n : Nat) : (startL n).length = n := by simp [startL]
def rowL (n : Nat) (ws : List Int) : List Int × List (Int × Int) := rowGo (startL n) [] ws
theorem swapL_len (st : List Int) (k : Int) : (swapL st k).length = st.length := by simp [swapL]
end Go.Proofs.YtglpfpdomnllkaaGreat

namespace Go.Proofs.YtglpfpdomnllkaaGreat
open Go.RowKit
set_option maxHeartbeats 1000000
set_option maxRecDepth 100000

end Go.Proofs.YtglpfpdomnllkaaGreat

namespace Go.Proofs.YtglpfpdomnllkaaGreat
open Go.RowKit
set_option maxRecDepth 100000

section
variable {B : Nat} {w0 w w' : World} {L K : List Pc}
end

section
variable {B : Nat} {w0 w w' : World} {L : List Pc} {α : Type} {c : α → Value} {sz : Nat} {e : TypeId} {v : Value} {l : List α}
end

section
variable {P : Program} {ops : Array Oper} {rest : List Oper} {a : Act} {Q : Exit → Act → World → Prop} {α : Type} {c : α → Value} {sz bytes B : Nat} {t e : TypeId} {z v : Value} {w0 w : World} {L : List Pc} {l : List α}
theorem wpList_appL {d : Option Tmp} {ty : TypeId} {p : String} {s x : Operand} {af : Array Edge} {ad : Option Addr} {n cap : Nat} {ys : List α} (i : Nat) (E : ETy P t e z sz bytes)
   (hs : a.eval s = v) (hx : a.eval x = .slice ad n cap) (hS : SL B w0 w L) (hi : L[i]? = some (pOwn c sz e v l)) (hR : Reps c sz w ad cap ys) (hn : n = ys.length) (h1 : ∀ x, ∀ u ∈ (c x).cells.toList, u.oneCell' = true)
   (hb : (l.length + ys.length) * bytes ≤ 140737488355328) (hm : l.length + ys.length ≤ 9223372036854775807)
   (hK : ∀ v' w', SL B w0 w' (L.set i (pOwn c sz e v' (l ++ ys))) → wpList P ops Q rest (a.put d v') w') :
   wpList P ops Q (⟨d, .call { callee := .builtin .append, args := #[s, x], argTypes := #[t, t] }, ty, p, af, none⟩ :: rest) a w := by
 subst hn
 obtain ⟨b, ⟨h2, h3⟩, h4, h5⟩ := hS.upd i hi
 refine wpList_app (l := l) (ys := ys) (ad := ad) (cap := cap) E hs hx h2 hR h1 hb (Nat.zero_le _) hm ?_
 intro v' w' ho hg hat
 refine hK v' w' (h5 w' _ v'.ownBlock (h3 ▸ hg) ⟨ho, rfl⟩ ?_)
 rcases hat with hat | hat
 ·exact .inl (hat.trans h3)
 ·exact .inr (fun k hk => by rw [hat] at hk; cases hk; exact Nat.le_refl _)
end
section
variable {ops : Array Oper} {rest : List Oper} {a : Act} {Q : Exit → Act → World → Prop} {d : Option Tmp} {ty : TypeId} {p : String} {m x y : Operand} {af : Array Edge} {b n B : Nat} {k : Int} {w0 w : World} {L : List Pc}
end
end Go.Proofs.YtglpfpdomnllkaaGreat

namespace Go.Proofs.YtglpfpdomnllkaaGreat
open Go.RowKit
set_option maxRecDepth 100000

section
variable {B : Nat} {w0 w w' : World} {L K : List Pc}
end

section
variable {α : Type} {c : α → Value} {sz : Nat} {e : TypeId} {v : Value} {l : List α} {B : Nat} {W0 w : World} {L : List Pc}
end
end Go.Proofs.YtglpfpdomnllkaaGreat

namespace Go.Proofs.YtglpfpdomnllkaaGreat
open Go.RowKit
set_option maxHeartbeats 1000000
set_option maxRecDepth 100000

theorem rletter_any (n x : Int) (w : World) (h1 : 1 ≤ n) (h2 : n ≤ 12) :
  Calls Tryz.prog 59 #[.int .i64 n, .int .i64 x] w fun r w' => r = .returned (.bool (!outB n x)) ∧ w = w' := by
 by_cases c0 : x = 0
 ·have e : (!outB n x) = false := by simp [outB, c0]
  rw [e]
  clear e
  subst c0
  go_enter Tryz.func59, Tryz.ntmps59
  go_wp2
  go_ret
  exact ⟨rfl, rfl⟩
 by_cases c1 : 0 - n < x
 ·have e : (!outB n x) = decide (x < n) := by
   have a1 : (x == 0) = false := by simpa using c0
   have a2 : decide (x ≤ -n) = false := by simp; omega
   by_cases c2 : x < n
   ·have a3 : decide (n ≤ x) = false := by simp; omega
    simp [outB, a1, a2, a3, c2]
   ·have a3 : decide (n ≤ x) = true := by simp; omega
    simp [outB, a1, a2, a3, c2]
  rw [e]
  clear e
  have hx : (x != 0) = true := by simpa using c0
  go_enter Tryz.func59, Tryz.ntmps59
  go_wp2
  go_ret
  exact ⟨rfl, rfl⟩
 ·have e : (!outB n x) = false := by
   have a2 : decide (x ≤ -n) = true := by simp; omega
   simp [outB, a2]
  rw [e]
  clear e
  have hx : (x != 0) = true := by simpa using c0
  go_enter Tryz.func59, Tryz.ntmps59
  go_wp2
  go_ret
  exact ⟨rfl, rfl⟩

theorem wordE_any {n : Int} {l : List Int} (h : strandsE n = 0) (h2 : l.length ≤ 200) : wordE n l = if l.any (outB n) then 3 else 0 := by
 unfold wordE
 rw [if_neg (fun hh => hh h), if_neg (by omega)]
 have key : (0 ≤ idxGo n l 0 l.length) ↔ l.any (outB n) = true := by
  rw [idxGo_neg, List.any_eq_true]
  constructor
  ·rintro ⟨j, _, hj, ho⟩
   exact ⟨atD 0 l j, by simp [atD, show j < l.length by omega], ho⟩
  ·rintro ⟨x, hx, ho⟩
   obtain ⟨j, hj, rfl⟩ := List.getElem_of_mem hx
   exact ⟨j, by omega, by omega, by simpa [atD, hj] using ho⟩
 by_cases c : l.any (outB n) = true
 ·rw [if_pos (key.2 c), if_pos c]
 ·rw [if_neg (fun h => c (key.1 h)), if_neg c]
theorem rCheckWord_any (n : Int) (a : Option Addr) (cap : Nat) (l : List Int) (w : World) (hS : Ints w a cap l) :
  Calls Tryz.prog 16 #[.int .i64 n, .slice a l.length cap] w fun r w' => r = .returned (.int .i64 (wordE n l)) ∧ Below w.heap.size w w' := by
 have hcap := hS.le
 have hm := hS.max
 by_cases h1 : n < 1
 ·have e : wordE n l = 3 := by simp [wordE, strandsE, h1]
  rw [e]
  clear e
  go_enter Tryz.func16, Tryz.ntmps16
  go_wp2
  go_ret
  exact ⟨rfl, Below.refl _ _⟩
 by_cases h2 : 12 < n
 ·have e : wordE n l = 3 := by simp [wordE, strandsE, h2]
  rw [e]
  clear e
  go_enter Tryz.func16, Tryz.ntmps16
  go_wp2
  go_ret
  exact ⟨rfl, Below.refl _ _⟩
 have hs0 : strandsE n = 0 := by unfold strandsE; rw [if_neg (by omega)]
 by_cases h3 : 200 < l.length
 ·have e : wordE n l = 5 := by unfold wordE; rw [hs0]; simp [h3]
  rw [e]
  clear e
  go_enter Tryz.func16, Tryz.ntmps16
  go_wp2
  go_ret
  exact ⟨rfl, Below.refl _ _⟩
 have hE : wordE n l = if l.any (outB n) then 3 else 0 := wordE_any hs0 (by omega)
 obtain ⟨m, hm2⟩ : ∃ m, m = wordE n l := ⟨_, rfl⟩
 rw [← hm2] at hE ⊢
 have HE := hid hE; clear hE hm2
 go_enter Tryz.func16, Tryz.ntmps16
 go_wp2
 go_loopw [5] (fun i wr => ∃ k : Nat, k ≤ l.length ∧ i = .int .i64 k ∧ (l.take k).any (outB n) = false ∧ Below w.heap.size w wr) (fun i _ => l.length - (intOf i).toNat)
 case atStart => exact ⟨0, by omega, rfl, rfl, Below.refl _ _⟩
 case round =>
  obtain ⟨k, hk, rfl, hno, hbr⟩ := hrel
  have hR := hS.below hbr
  by_cases hlt : k < l.length
  ·have ht : l.take (k + 1) = l.take k ++ [atD 0 l k] := by rw [List.take_succ_eq_append_getElem hlt]; simp [atD, hlt]
   have HT := hid ht; clear ht
   have HNO := hid hno; clear hno
   cases ho : outB n (atD 0 l k)
   ·have e : (!outB n (atD 0 l k)) = true := by rw [ho]; rfl
    have hno2 : (l.take (k + 1)).any (outB n) = false := by rw [HT.out, List.any_append, HNO.out]; simp [ho]
    have HE2 := hid e; have HN2 := hid hno2; clear e hno2 ho
    go_wp2_with (first | (with_reducible refine wpList_idx _ 0 E_ints F_int cInt1 wU wU (hR) oD oD (fun _ => wU) (fun _ => ?_)) | (go_at_call 59; refine (rletter_any _ _ _ (by omega) (by omega)).mono ?_; rw [HE2.out]; rintro e w' ⟨rfl, rfl⟩))
    go_roundw
    case rel => exact ⟨k + 1, by omega, by go_num, HN2.out, hbr⟩
    case measure => simp [intOf]; omega
   ·have e : (!outB n (atD 0 l k)) = false := by rw [ho]; rfl
    have hm3 : m = 3 := by
     rw [HE.out, if_pos]
     rw [List.any_eq_true]
     exact ⟨atD 0 l k, by simp [atD, hlt], ho⟩
    have HE2 := hid e; have HM := hid hm3; clear e hm3 ho
    go_wp2_with (first | (with_reducible refine wpList_idx _ 0 E_ints F_int cInt1 wU wU (hR) oD oD (fun _ => wU) (fun _ => ?_)) | (go_at_call 59; refine (rletter_any _ _ _ (by omega) (by omega)).mono ?_; rw [HE2.out]; rintro e w' ⟨rfl, rfl⟩))
    go_ret
    exact ⟨by rw [HM.out]; rfl, hbr⟩
  ·have : k = l.length := by omega
   subst this
   rw [List.take_length] at hno
   have hm3 : m = 0 := by rw [HE.out, hno]; rfl
   have HM := hid hm3; clear hm3 hno
   go_wp2_with fail
   go_ret
   exact ⟨by rw [HM.out]; rfl, hbr⟩
end Go.Proofs.YtglpfpdomnllkaaGreat

namespace Go.Proofs.YtglpfpdomnllkaaGreat
open Go.RowKit
set_option maxHeartbeats 400000
set_option maxRecDepth 100000

end Go.Proofs.YtglpfpdomnllkaaGreat

namespace Go.Proofs.YtglpfpdomnllkaaGreat
open Go.RowKit

theorem nodup_le (n : Nat) (l : List Int) (hn : l.Nodup) (hr : ∀ x ∈ l, 0 ≤ x ∧ x < n) : l.length ≤ n := by
 rcases Nat.lt_or_ge n l.length with h | h
 ·obtain ⟨a, b, h1, h2, h3⟩ := php n (fun k => (atD 0 l k).toNat) (fun k hk => by
   have := hr (atD 0 l k) (by simp [atD, show k < l.length by omega])
   omega)
  have ha := hr (atD 0 l a) (by simp [atD, show a < l.length by omega])
  have hb := hr (atD 0 l b) (by simp [atD, show b < l.length by omega])
  exact absurd (by omega) (nodup_ne hn h1 (by omega))
 ·exact h

section
variable {p : List Int} (hp : IsP p)
include hp
end

end Go.Proofs.YtglpfpdomnllkaaGreat

namespace Go.Proofs.YtglpfpdomnllkaaGreat
open Go.RowKit Go.Shelf
set_option maxHeartbeats 2000000
set_option maxRecDepth 100000

theorem Reps.keep {α : Type} {c : α → Value} {sz : Nat} {w w' : World} {a : Option Addr} {cap : Nat} {l : List α} (h : Reps c sz w a cap l) (hk : ∀ b, a = some b → KeepAt b.block w w') : Reps c sz w' a cap l := by
 obtain ⟨h1, h2, h3, h4, h5⟩ := h
 refine ⟨h1, h2, h3, h4, fun j u hj => ?_⟩
 obtain ⟨b, o, e, hc⟩ := h5 j u hj
 exact ⟨b, o, e, (hk _ e).cell.trans hc⟩
section
variable {p : List Int} (hp : IsP p) {i : Int} (h0 : 0 ≤ i) (h1 : i < p.length)
end

end Go.Proofs.YtglpfpdomnllkaaGreat

namespace Go.Proofs.YtglpfpdomnllkaaGreat
open Go.RowKit Go.Shelf
set_option maxHeartbeats 2000000
set_option maxRecDepth 100000

end Go.Proofs.YtglpfpdomnllkaaGreat

namespace Go.Proofs.YtglpfpdomnllkaaGreat
open Go.RowKit
set_option maxHeartbeats 1000000
set_option maxRecDepth 100000

theorem isP_mem {p : List Int} (hp : IsP p) : ∀ x ∈ p, 0 ≤ x ∧ x < p.length := by
 intro x hx
 obtain ⟨i, hi, rfl⟩ := List.mem_iff_getElem.1 hx
 have := hp.rng i (by omega) (by omega)
 simpa [atD, hi] using this
def row5 : List Int → List Int → List Int
 | st, [] => st
 | st, x :: r => row5 (swapL st (absI x)) r
theorem row5_len : ∀ (l st : List Int), (row5 st l).length = st.length
 | [], st => rfl
 | x :: r, st => by rw [row5, row5_len r, swapL_len]
theorem swapL_at {st : List Int} {k j : Int} (h1 : 1 ≤ k) (h2 : k < st.length) (hj : 0 ≤ j) : atD 0 (swapL st k) j = atD 0 st (sw (k - 1) k j) := by
 unfold swapL sw
 rw [atD_set (by omega) (by simp; omega) hj, atD_set (by omega) (by omega) hj]
 by_cases a : j = k
 ·subst a; rw [if_pos rfl, if_neg (by omega), if_pos rfl]
 ·rw [if_neg a, if_neg a]
  by_cases b : j = k - 1
  ·rw [if_pos b, if_pos b]
  ·rw [if_neg b, if_neg b]
theorem swapL_isP {st : List Int} {k : Int} (h1 : 1 ≤ k) (h2 : k < st.length) (h : IsP st) : IsP (swapL st k) := by
 refine ⟨fun x x0 x1 => ?_, fun x y x0 x1 y0 y1 e => ?_⟩
 ·rw [swapL_len] at x1 ⊢
  rw [swapL_at h1 h2 x0]
  obtain ⟨a, b⟩ := sw_rng (f := k - 1) (t := k) (n := st.length) ⟨by omega, by omega⟩ ⟨by omega, h2⟩ ⟨x0, x1⟩
  exact h.rng _ a b
 ·rw [swapL_len] at x1 y1
  rw [swapL_at h1 h2 x0, swapL_at h1 h2 y0] at e
  obtain ⟨a, b⟩ := sw_rng (f := k - 1) (t := k) (n := st.length) ⟨by omega, by omega⟩ ⟨by omega, h2⟩ ⟨x0, x1⟩
  obtain ⟨c, d⟩ := sw_rng (f := k - 1) (t := k) (n := st.length) ⟨by omega, by omega⟩ ⟨by omega, h2⟩ ⟨y0, y1⟩
  have := congrArg (sw (k - 1) k) (h.inj _ _ a b c d e)
  rwa [sw_sw, sw_sw] at this
theorem row5_isP : ∀ (l st : List Int), IsP st → (∀ x ∈ l, 1 ≤ absI x ∧ absI x < st.length) → IsP (row5 st l)
 | [], st, h, _ => h
 | x :: r, st, h, hf => by
   obtain ⟨a, b⟩ := hf x (by simp)
   rw [row5]
   exact row5_isP r _ (swapL_isP a b h) (fun y hy => by rw [swapL_len]; exact hf y (by simp [hy]))
end Go.Proofs.YtglpfpdomnllkaaGreat

namespace Go.Proofs.YtglpfpdomnllkaaGreat
set_option maxRecDepth 100000
/-- a number added at one place of a matrix, and at both places of a pair. -/
def addE (M : List (List Int)) (a b s : Int) : List (List Int) := M.set a.toNat ((M.getD a.toNat []).set b.toNat (atD 0 (M.getD a.toNat []) b + s))
def addM (M : List (List Int)) (a b s : Int) : List (List Int) := addE (addE M a b s) b a s
theorem addE_len (M : List (List Int)) (a b s : Int) : (addE M a b s).length = M.length := by unfold addE; simp
theorem addM_symm {M : List (List Int)} {a b : Int} (s : Int) (h : a.toNat ≠ b.toNat) : addM M a b s = addM M b a s := by
 unfold addM addE
 have e1 : ∀ (X : List Int), (M.set a.toNat X).getD b.toNat [] = M.getD b.toNat [] := fun X => by rw [List.getD_eq_getElem?_getD, List.getElem?_set_ne h, List.getD_eq_getElem?_getD]
 have e2 : ∀ (X : List Int), (M.set b.toNat X).getD a.toNat [] = M.getD a.toNat [] := fun X => by rw [List.getD_eq_getElem?_getD, List.getElem?_set_ne (Ne.symm h), List.getD_eq_getElem?_getD]
 rw [e1, e2, List.set_comm _ _ h]
/-- the linking numbers: the strands by their first positions, from 0 on. -/
def linkGo : List (List Int) → List Int → List Int → List (List Int)
 | M, _, [] => M
 | M, st, x :: r => linkGo (addM M (atD 0 st (absI x - 1)) (atD 0 st (absI x)) (sgnI x)) (swapL st (absI x)) r
def zeroM (n : Nat) : List (List Int) := List.replicate n (List.replicate n 0)
def linkL (n : Nat) (w : List Int) : List (List Int) := linkGo (zeroM n) (idL n) w
/-- the sums of the signs of crossings, told from 1 on. -/
def sumGo : List (List Int) → List (Int × Int) → List Int → List (List Int)
 | M, c :: cs, x :: r => sumGo (addM M (c.1 - 1) (c.2 - 1) (sgnI x)) cs r
 | M, _, _ => M
theorem rowGo_cr : ∀ (ws st : List Int) (cr : List (Int × Int)), (rowGo st cr ws).2 = cr ++ (rowGo st [] ws).2
 | [], _, cr => by simp [rowGo]
 | x :: r, st, cr => by rw [rowGo, rowGo, rowGo_cr r, rowGo_cr r _ ([] ++ [crossOf st x])]; simp
theorem sum_link : ∀ (ws st row : List Int) (M : List (List Int)), st.length = row.length → IsP row → (∀ x ∈ ws, 1 ≤ absI x ∧ absI x < row.length) → (∀ j : Int, 0 ≤ j → j < row.length → atD 0 st j = atD 0 row j + 1) →
  sumGo M (rowGo st [] ws).2 ws = linkGo M row ws
 | [], _, _, _, _, _, _, _ => rfl
 | x :: r, st, row, M, hl, hp, hf, h => by
   obtain ⟨a, b⟩ := hf x (by simp)
   rw [rowGo, rowGo_cr r]
   show sumGo M (crossOf st x :: _) (x :: r) = _
   rw [sumGo, linkGo]
   have h1 := h (absI x - 1) (by omega) (by omega)
   have h2 := h (absI x) (by omega) (by omega)
   have r1 := hp.rng (absI x - 1) (by omega) (by omega)
   have r2 := hp.rng (absI x) (by omega) b
   have hne : (atD 0 row (absI x)).toNat ≠ (atD 0 row (absI x - 1)).toNat := fun e => by
     have := hp.inj (absI x) (absI x - 1) (by omega) b (by omega) (by omega) (by omega)
     omega
   have e : addM M ((crossOf st x).1 - 1) ((crossOf st x).2 - 1) (sgnI x) = addM M (atD 0 row (absI x - 1)) (atD 0 row (absI x)) (sgnI x) := by
     unfold crossOf
     split
     · dsimp only
       rw [h1, h2, show atD 0 row (absI x) + 1 - 1 = atD 0 row (absI x) by omega, show atD 0 row (absI x - 1) + 1 - 1 = atD 0 row (absI x - 1) by omega]
       exact addM_symm _ hne
     · dsimp only
       rw [h1, h2, show atD 0 row (absI x) + 1 - 1 = atD 0 row (absI x) by omega, show atD 0 row (absI x - 1) + 1 - 1 = atD 0 row (absI x - 1) by omega]
   rw [e]
   refine sum_link r _ _ _ (by rw [swapL_len, swapL_len, hl]) (swapL_isP a b hp) (fun y hy => by rw [swapL_len]; exact hf y (by simp [hy])) ?_
   intro j j0 j1
   rw [swapL_len] at j1
   obtain ⟨c, d⟩ := sw_rng (f := absI x - 1) (t := absI x) (n := row.length) ⟨by omega, by omega⟩ ⟨by omega, b⟩ ⟨j0, j1⟩
   rw [swapL_at a b j0, swapL_at a (by omega) j0, h _ c d]
theorem start_at {n : Nat} {j : Int} (h0 : 0 ≤ j) (h1 : j < n) : atD 0 (startL n) j = atD 0 (idL n) j + 1 := by
 rw [idL_at h0 h1]
 unfold startL atD
 rw [List.getD_eq_getElem?_getD, List.getElem?_map, List.getElem?_range (by omega)]
 simp; omega
/-- the sums of the signs of all crossings are the linking numbers. -/
theorem signs_link {n : Nat} {w : List Int} (hf : ∀ x ∈ w, 1 ≤ absI x ∧ absI x < (n : Int)) : sumGo (zeroM n) (rowL n w).2 w = linkL n w := by
 unfold rowL linkL
 exact sum_link w (startL n) (idL n) _ (by rw [startL_len, idL_len]) (idL_isP n) (fun x hx => by rw [idL_len]; exact hf x hx) fun j j0 j1 => start_at j0 (by rw [idL_len] at j1; exact j1)
/-- strands that cross: by their first positions from 1 on. -/
theorem cross_rng : ∀ (ws st : List Int) (n : Nat), st.length = n → (∀ j : Int, 0 ≤ j → j < n → 1 ≤ atD 0 st j ∧ atD 0 st j ≤ n) → (∀ i j : Int, 0 ≤ i → i < n → 0 ≤ j → j < n → atD 0 st i = atD 0 st j → i = j) → (∀ x ∈ ws, 1 ≤ absI x ∧ absI x < (n : Int)) →
  ∀ p ∈ (rowGo st [] ws).2, (1 ≤ p.1 ∧ p.1 ≤ n) ∧ (1 ≤ p.2 ∧ p.2 ≤ n) ∧ p.1 ≠ p.2
 | [], _, _, _, _, _, _, p, hp => by simp [rowGo] at hp
 | x :: r, st, n, hl, hr, hi, hf, p, hp => by
   obtain ⟨a, b⟩ := hf x (by simp)
   rw [rowGo, rowGo_cr] at hp
   have r1 := hr (absI x - 1) (by omega) (by omega)
   have r2 := hr (absI x) (by omega) b
   have hne : atD 0 st (absI x) ≠ atD 0 st (absI x - 1) := fun e => by
     have := hi _ _ (by omega) b (by omega) (by omega) e
     omega
   rcases List.mem_append.1 hp with hp | hp
   · rw [List.nil_append, List.mem_singleton] at hp
     subst hp
     unfold crossOf
     split
     · exact ⟨r2, r1, hne⟩
     · exact ⟨r1, r2, hne.symm⟩
   · have hsw : ∀ j : Int, 0 ≤ j → j < n → (0 ≤ sw (absI x - 1) (absI x) j ∧ sw (absI x - 1) (absI x) j < n) := fun j j0 j1 => sw_rng ⟨by omega, by omega⟩ ⟨by omega, b⟩ ⟨j0, j1⟩
     refine cross_rng r (swapL st (absI x)) n (by rw [swapL_len, hl]) (fun j j0 j1 => ?_) (fun i j i0 i1 j0 j1 e => ?_) (fun y hy => hf y (by simp [hy])) p hp
     · rw [swapL_at a (by omega) j0]; exact hr _ (hsw j j0 j1).1 (hsw j j0 j1).2
     · rw [swapL_at a (by omega) i0, swapL_at a (by omega) j0] at e
       have := congrArg (sw (absI x - 1) (absI x)) (hi _ _ (hsw i i0 i1).1 (hsw i i0 i1).2 (hsw j j0 j1).1 (hsw j j0 j1).2 e)
       rwa [sw_sw, sw_sw] at this
theorem rowL_rng {n : Nat} {w : List Int} (hf : ∀ x ∈ w, 1 ≤ absI x ∧ absI x < (n : Int)) : ∀ p ∈ (rowL n w).2, (1 ≤ p.1 ∧ p.1 ≤ n) ∧ (1 ≤ p.2 ∧ p.2 ≤ n) ∧ p.1 ≠ p.2 := by
 unfold rowL
 refine cross_rng w (startL n) n (startL_len n) (fun j j0 j1 => ?_) (fun i j i0 i1 j0 j1 e => ?_) hf
 ·rw [start_at j0 j1, idL_at j0 j1]; omega
 ·rw [start_at i0 i1, start_at j0 j1, idL_at i0 i1, idL_at j0 j1] at e; omega
def permB (n : Nat) (w : List Int) : List Int := invL (row5 (idL n) w)
end Go.Proofs.YtglpfpdomnllkaaGreat

namespace Go.Proofs.YtglpfpdomnllkaaGreat
open Go.RowKit
set_option maxHeartbeats 4000000
set_option maxRecDepth 100000
theorem bneg_any (n : Int) (w : World) (h : -1000 ≤ n) (h2 : n ≤ 1000) :
  Calls Tryz.prog 75 #[.int .i64 n] w fun r w' => r = .returned (.int .i64 (-n)) ∧ w = w' := by
 have hw : IntKind.i64.wrap (-n) = -n := IntWalk.i64_in _ (by omega)
 go_enter Tryz.func75, Tryz.ntmps75
 go_wp2
 go_ret
 exact ⟨rfl, rfl⟩
def negW (l : List Int) : List Int := l.map fun x => -x
theorem bmapneg_any (al : Option Addr) (cl : Nat) (l : List Int) (w : World) (hL : Ints w al cl l) (hn : l.length ≤ 1000) (hf : ∀ x ∈ l, -1000 ≤ x ∧ x ≤ 1000) :
  Calls Tryz.prog 74 #[.slice al l.length cl, .func (.func 75) #[] #[]] w fun r w' => ∃ v, r = .returned v ∧ OwnI w.heap.size w' v (negW l) ∧ Below w.heap.size w w' := by
 have hcap := hL.le
 have hmx := hL.max
 have H : Hid (∀ x ∈ l, ∀ w', Calls Tryz.prog 75 #[.int .i64 x] w' fun r w'' => r = .returned (.int .i64 (-x)) ∧ w' = w'') := hid fun x hx w' => bneg_any x w' (hf x hx).1 (hf x hx).2
 have hS := (SL.nil w).nilS (α := Int) (e := 3) cIntS
 go_enter Tryz.func74, Tryz.ntmps74
 go_wp2_with fail
 go_loopw [10, 7, 5] (fun i _ v wr => ∃ k : Nat, k ≤ l.length ∧ i = .int .i64 k ∧ SL w.heap.size w wr [pOwn cInt 1 3 v (negW (l.take k))]) (fun i _ _ _ => l.length - (intOf i).toNat)
 case atStart => exact ⟨0, by omega, rfl, hS⟩
 case round =>
  clear hS
  obtain ⟨k, hk, rfl, hSr⟩ := hrel
  have hLr := hL.below hSr.b
  by_cases hlt : k < l.length
  ·have hmem := atD_mem hlt
   have ht : l.take (k + 1) = l.take k ++ [atD 0 l k] := by rw [List.take_succ_eq_append_getElem hlt]; simp [atD, hlt]
   have hlen : (negW (l.take k)).length ≤ 1048576 := by unfold negW; simp; omega
   obtain ⟨x, hx⟩ : ∃ x, x = atD 0 l k := ⟨_, rfl⟩
   rw [← hx] at hmem ht
   have HX := hid hx; have HT := hid ht
   clear hx ht
   go_wp2_with ((with_reducible refine wpList_idx _ 0 E_ints F_int cInt1 wU wU (hLr) oD oD (fun _ => wU) (fun _ => ?_)); rw [← HX.out])
   refine (H.out x hmem _).mono ?_
   rintro e w1 ⟨rfl, rfl⟩
   go_wp2_with ((with_reducible refine wpList_pushL (y := (-x)) 0 E_ints wU wU (hSr) wU cIntO ⟨rfl, rfl⟩ (by first | with_unfolding_all rfl | simp) wU (by first | omega | (simp; omega)) (by first | omega | (simp; omega)) ?_); intro v2 w2 hS2)
   exact ⟨⟨k + 1, by omega, by go_num, by rw [HT.out]; unfold negW at hS2 ⊢; rw [List.map_append]; exact hS2⟩, by simp [intOf]; omega⟩
  ·have hkk : k = l.length := by omega
   subst hkk
   rw [List.take_length] at hSr
   clear hlt
   go_wp2_with fail
   go_ret
   exact ⟨_, rfl, hSr.own 0 rfl, hSr.b⟩
theorem word_small {n : Int} {l : List Int} (h : wordE n l = 0) : ∀ x ∈ l, -1000 ≤ x ∧ x ≤ 1000 := fun x hx => by
 obtain ⟨h1, h2, _, h4⟩ := wordE_fits h
 have := h4 x hx
 omega
theorem bMirror_any (n : Int) (a : Option Addr) (cap : Nat) (l : List Int) (w : World) (hS : Ints w a cap l) (h : wordE n l = 0) :
  Calls Tryz.prog 28 #[.int .i64 n, .slice a l.length cap] w fun r w' => ∃ v, r = .returned (.tuple #[v, .int .i64 0]) ∧ OwnI w.heap.size w' v (negW l) ∧ Below w.heap.size w w' := by
 have hl := (wordE_fits h).2.2.1
 have CW := fun w (hS : Ints w a cap l) => CheckWord_any n a cap l w hS (by omega)
 rw [h] at CW
 have HW := hid CW
 have HM := hid (fun w (hS : Ints w a cap l) => bmapneg_any a cap l w hS (by omega) (word_small h))
 have hS0 := SL.nil w
 clear CW h
 go_enter Tryz.func28, Tryz.ntmps28
 go_wp2_with fail
 refine (HW.out _ hS).mono ?_
 rintro e w1 ⟨rfl, b1⟩
 have hS1 := hS0.mono b1
 clear hS0
 go_wp2_with fail
 refine (HM.out _ (hS.below b1)).mono ?_
 rintro e w2 ⟨v2, rfl, ho2, b2⟩
 have hS2 := hS1.call (SL.ofOwn ho2 b2)
 rw [List.append_nil] at hS2
 clear hS1 ho2
 go_wp2_with fail
 go_ret2
 exact ⟨v2, rfl, hS2.own 0 rfl, hS2.b⟩
end Go.Proofs.YtglpfpdomnllkaaGreat

namespace Go.Proofs.YtglpfpdomnllkaaGreat
open Go.RowKit
set_option maxRecDepth 100000
theorem sto_sl (u : SlH) (w : World) (p : Addr) (h1 : (w.cell? p).isSome = true) (h2 : w.frozen? p = false) : (Instr.storeAt 22 (.pointer (some p)) (cSl u)).run Tryz.prog w = .ok () (w.setCell p (cSl u)) := by
 obtain ⟨v, hv⟩ := Option.isSome_iff_exists.1 h1
 simp [go_sem, hv, h2]
section
variable {ops : Array Oper} {rest : List Oper} {a : Act} {Q : Exit → Act → World → Prop} {w : World} {ty : TypeId} {p : String} {af : Array Edge}
end
/-- the zero matrix while it is made: k rows are there. -/
def mxH (n k : Nat) (qs : List (SlH × List Int)) : List SlH := qs.map Prod.fst ++ List.replicate (n - k) (none, 0, 0)
theorem mxH_len {n k : Nat} {qs : List (SlH × List Int)} (hq : qs.length = k) (h : k ≤ n) : (mxH n k qs).length = n := by unfold mxH; simp; omega
theorem mxH_zero (n : Nat) : mxH n 0 [] = List.replicate n (none, 0, 0) := by simp [mxH]
theorem mxH_full {n : Nat} {qs : List (SlH × List Int)} : mxH n n qs = qs.map Prod.fst := by simp [mxH]
theorem mxH_set {n k : Nat} {qs : List (SlH × List Int)} (hq : qs.length = k) (h : k < n) (x : SlH × List Int) : (mxH n k qs).set k x.1 = mxH n (k + 1) (qs ++ [x]) := by
 unfold mxH
 rw [List.set_append_right _ _ (by simp [hq]), List.length_map, hq, Nat.sub_self, show n - k = (n - (k + 1)) + 1 by omega, List.replicate_succ, List.set_cons_zero]
 simp
/-- the rows of a matrix with n columns. -/
structure Mx (n : Nat) (M : List (List Int)) : Prop where
 len : M.length = n
 row : ∀ r ∈ M, r.length = n
theorem zeroM_mx (n : Nat) : Mx n (zeroM n) := ⟨by simp [zeroM], fun r hr => by unfold zeroM at hr; rw [List.eq_of_mem_replicate hr]; simp⟩
theorem mx_getD {n : Nat} {M : List (List Int)} (h : Mx n M) {a : Nat} (ha : a < n) : (M.getD a []).length = n := by
 have e : M.getD a [] = M[a]'(by rw [h.len]; exact ha) := by simp [show a < M.length by rw [h.len]; exact ha]
 rw [e]
 exact h.row _ (List.getElem_mem _)
theorem addE_mx {n : Nat} {M : List (List Int)} (h : Mx n M) {a : Int} (ha : a.toNat < n) (b s : Int) : Mx n (addE M a b s) := by
 refine ⟨by rw [addE_len, h.len], fun r hr => ?_⟩
 unfold addE at hr
 rcases List.mem_or_eq_of_mem_set hr with hr | rfl
 ·exact h.row r hr
 ·rw [List.length_set, mx_getD h ha]
theorem addM_mx {n : Nat} {M : List (List Int)} (h : Mx n M) {a b : Int} (ha : a.toNat < n) (hb : b.toNat < n) (s : Int) : Mx n (addM M a b s) := addE_mx (addE_mx h ha b s) hb a s
/-- all entries are small. -/
def MxB (M : List (List Int)) (c : Int) : Prop := ∀ a b : Int, -c ≤ atD 0 (M.getD a.toNat []) b ∧ atD 0 (M.getD a.toNat []) b ≤ c
theorem setI_or (p : List Int) (i : Nat) (v : Int) (j : Int) : atD 0 (p.set i v) j = v ∨ atD 0 (p.set i v) j = atD 0 p j := by
 unfold atD
 rw [List.getD_eq_getElem?_getD, List.getD_eq_getElem?_getD, List.getElem?_set]
 split
 ·split
  ·left; rfl
  ·right; rw [List.getElem?_eq_none (by omega)]
 ·right; rfl
theorem setM_or (M : List (List Int)) (i : Nat) (v : List Int) (j : Nat) : (M.set i v).getD j [] = v ∨ (M.set i v).getD j [] = M.getD j [] := by
 rw [List.getD_eq_getElem?_getD, List.getD_eq_getElem?_getD, List.getElem?_set]
 split
 ·split
  ·left; rfl
  ·right; rw [List.getElem?_eq_none (by omega)]
 ·right; rfl
theorem addE_b {M : List (List Int)} {c : Int} (h : MxB M c) (a b : Int) {s : Int} (hs : -1 ≤ s ∧ s ≤ 1) : MxB (addE M a b s) (c + 1) := by
 intro x y
 have h0 := h x y
 have h1 := h a b
 have h2 := h a y
 unfold addE
 rcases setM_or M a.toNat ((M.getD a.toNat []).set b.toNat (atD 0 (M.getD a.toNat []) b + s)) x.toNat with e | e <;> rw [e]
 ·rcases setI_or (M.getD a.toNat []) b.toNat (atD 0 (M.getD a.toNat []) b + s) y with e2 | e2 <;> rw [e2] <;> omega
 ·omega
theorem zeroM_b (n : Nat) : MxB (zeroM n) 0 := by
 intro a b
 have : atD 0 ((zeroM n).getD a.toNat []) b = 0 := by
  unfold zeroM atD
  rw [List.getD_eq_getElem?_getD, List.getD_eq_getElem?_getD, List.getElem?_replicate]
  split
  ·simp [List.getElem?_replicate]
   split <;> rfl
  ·simp
 omega
theorem sgnI_b (x : Int) : -1 ≤ sgnI x ∧ sgnI x ≤ 1 := by unfold sgnI; split <;> omega
theorem zip_set : ∀ (H : List SlH) (M : List (List Int)) (i : Nat) (v : List Int) (h : i < H.length), H.zip (M.set i v) = (H.zip M).set i (H[i], v)
 | [], _, _, _, h => by simp at h
 | x :: H, [], i, v, _ => by simp
 | x :: H, m :: M, 0, v, _ => rfl
 | x :: H, m :: M, i + 1, v, h => by
   have h2 : i < H.length := by simpa using h
   simp only [List.set_cons_succ, List.zip_cons_cons]
   rw [zip_set H M i v h2]
   rfl
section
variable {B : Nat} {w0 w : World} {pre : List Pc}
/-- one row of a matrix: where it lies, what an entry is, and what a store makes of it. -/
theorem mx_row {H : List SlH} {M : List (List Int)} {n : Nat} (h : SL B w0 w (pre ++ (mxQ H M).map inP)) (hH : H.length = n) (hM : Mx n M) {a : Int} (a0 : 0 ≤ a) (a1 : a < n) :
  ∃ g c, atD ((none, 0, 0) : SlH) H a = (some ⟨g, 0, none⟩, n, c) ∧ Reps cInt 1 w (some ⟨g, 0, none⟩) c (M.getD a.toNat []) ∧ B ≤ g ∧ g < w.heap.size ∧
   ∀ b : Int, 0 ≤ b → b < n → w.cell? ⟨g, b.toNat, none⟩ = some (.int .i64 (atD 0 (M.getD a.toNat []) b)) ∧ w.frozen? ⟨g, b.toNat, none⟩ = false ∧
    ∀ s : Int, SL B w0 (w.setCell ⟨g, b.toNat, none⟩ (.int .i64 (atD 0 (M.getD a.toNat []) b + s))) (pre ++ (mxQ H (addE M a b s)).map inP) := by
 have hal : a.toNat < M.length := by rw [hM.len]; omega
 have haH : a.toNat < H.length := by omega
 have eH : atD ((none, 0, 0) : SlH) H a = H[a.toNat] := by simp [atD, haH]
 have eM : M.getD a.toNat [] = M[a.toNat] := by simp [hal]
 have hi : (pre ++ (mxQ H M).map inP)[pre.length + a.toNat]? = some (pOwn cInt 1 3 (cSl H[a.toNat]) M[a.toNat]) := by
  rw [List.getElem?_append_right (by omega), Nat.add_sub_cancel_left, List.getElem?_map]
  unfold mxQ
  rw [List.getElem?_eq_getElem (by rw [List.length_zip]; omega), List.getElem_zip]
  rfl
 have hrl : (M[a.toNat]).length = n := hM.row _ (List.getElem_mem _)
 obtain ⟨ad, c, e1, hR⟩ := h.slice _ hi
 have e2 : H[a.toNat] = (ad, n, c) := by
  generalize H[a.toNat] = q at e1 ⊢
  obtain ⟨x1, x2, x3⟩ := q
  simp only [cSl, Value.slice.injEq] at e1
  obtain ⟨rfl, rfl, rfl⟩ := e1
  rw [hrl]
 have hi2 := hi
 rw [e2] at hi2
 simp only [cSl] at hi2
 obtain ⟨g, rfl, -⟩ := h.setOwn cInt1 _ hi2 0 (by omega) (by rw [hrl]; omega) 0
 have hown := h.own _ hi2
 refine ⟨g, c, by rw [eH, e2], by rw [eM]; exact hR, (hown.lt g rfl).1, (hown.lt g rfl).2, fun b b0 b1 => ?_⟩
 rw [eM]
 obtain ⟨g', e3, -, hc, hf, -⟩ := h.setOwn cInt1 _ hi2 b b0 (by rw [hrl]; omega) 0
 cases e3
 refine ⟨?_, hf, fun s => ?_⟩
 ·rw [hc]
  have : b.toNat < (M[a.toNat]).length := by rw [hrl]; omega
  simp [atD, this, cInt]
 ·obtain ⟨g', e3, -, -, -, hS⟩ := h.setOwn cInt1 _ hi2 b b0 (by rw [hrl]; omega) (atD 0 M[a.toNat] b + s)
  cases e3
  have e4 : (pre ++ (mxQ H M).map inP).set (pre.length + a.toNat) (pOwn cInt 1 3 (.slice (some ⟨g, 0, none⟩) n c) ((M[a.toNat]).set b.toNat (atD 0 M[a.toNat] b + s))) = pre ++ (mxQ H (addE M a b s)).map inP := by
   have e5 : addE M a b s = M.set a.toNat ((M[a.toNat]).set b.toNat (atD 0 M[a.toNat] b + s)) := by unfold addE; rw [eM]
   rw [List.set_append_right _ _ (by omega), Nat.add_sub_cancel_left, e5]
   unfold mxQ
   rw [zip_set H M _ _ haH, List.map_set, e2]
   rfl
  rw [e4] at hS
  exact hS
end
end Go.Proofs.YtglpfpdomnllkaaGreat

namespace Go.Proofs.YtglpfpdomnllkaaGreat
section
variable {S : Type} (G : Gar S)
variable {G}
theorem Pull.post {X Y : List S} (h : Pull G X Y) (Z : List S) : Pull G (X ++ Z) (Y ++ Z) := by
 induction h with
 | here a b X i h1 h2 h3 => exact .here a b (X ++ Z) i h1 h2 h3
 | there a _ ih => exact .there a ih
theorem Star.post {X Y : List S} (h : Star G X Y) (Z : List S) : Star G (X ++ Z) (Y ++ Z) := by
 induction h with
 | refl => exact .refl _
 | step p _ ih => exact .step (p.post Z) ih
end
end Go.Proofs.YtglpfpdomnllkaaGreat

namespace Go.Proofs.YtglpfpdomnllkaaGreat
set_option maxRecDepth 100000

theorem itM_mod {m : MacV} {s : Int} {d : Nat} (h : Ord (permM m) s d) (n : Nat) : itM m s (n % d) = itM m s n := by
 have e : n = n % d + n / d * d := by have := Nat.mod_add_div n d; rw [Nat.mul_comm] at this; omega
 unfold itM
 conv => rhs; rw [e, itP_add, itP_mul h.back]
end Go.Proofs.YtglpfpdomnllkaaGreat

namespace Go.Proofs.YtglpfpdomnllkaaGreat
set_option maxRecDepth 100000

theorem idxO_none {l : List Int} {x : Int} : idxO l x = none ↔ x ∉ l := by
 unfold idxO
 constructor
 ·intro h hm
  rw [if_pos (List.findIdx_lt_length_of_exists ⟨x, hm, by simp⟩)] at h
  cases h
 ·intro h
  rw [if_neg]
  rw [List.findIdx_lt_length]
  rintro ⟨y, hy, e⟩
  have : y = x := by simpa using e
  exact h (this ▸ hy)
theorem slotG_inj {m : MacV} {g : Int} {i j : Nat} (hi : i < 4) (hj : j < 4) (h : slotG m g i = slotG m g j) : i = j := by
 have hi' : i = 0 ∨ i = 1 ∨ i = 2 ∨ i = 3 := by omega
 have hj' : j = 0 ∨ j = 1 ∨ j = 2 ∨ j = 3 := by omega
 cases hf : fwdM m g <;> rcases hi' with rfl | rfl | rfl | rfl <;> rcases hj' with rfl | rfl | rfl | rfl <;> simp [slotG, hf] at h ⊢ <;> omega
end Go.Proofs.YtglpfpdomnllkaaGreat

namespace Go.Proofs.YtglpfpdomnllkaaGreat
open Go.RowKit
set_option maxHeartbeats 8000000
set_option maxRecDepth 100000

theorem after_any (m : MacV) (ad : Option Addr) (cap : Nat) (s n : Int) (w : World) (hR : Ints w ad cap m.sw) (hg : m.gears ≤ 16) (h0 : 0 ≤ s) (h1 : s < 4 * m.gears) (n0 : 0 ≤ n) (n1 : n ≤ 9223372036854775807) :
  Calls Tryz.prog 66 #[mV m ad cap, .int .i64 s, .int .i64 n] w fun r w' => r = .returned (.int .i64 (itM m s n.toNat)) ∧ Below w.heap.size w w' := by
 obtain ⟨d, hd⟩ := ordM h0 h1
 have hd0 := hd.pos
 have hdl := hd.le
 rw [permM_len] at hdl
 have hd64 : d ≤ 64 := by omega
 have CN := fun (k : Nat) w (h : Ints w ad cap m.sw) => mnext_any m ad cap (itM m s k) w h hg (itM_rng h0 h1 k).1 (itM_rng h0 h1 k).2
 have CE := fun (k : Nat) => itM_succ h0 h1 k
 have hback : itM m s d = s := hd.back
 have hmin : ∀ k, 0 < k → k < d → itM m s k ≠ s := fun k a b => hd.min k a b
 have hmod := itM_mod hd n.toNat
 have hmd : n.tmod d = ((n.toNat % d : Nat) : Int) := by
  rw [Int.tmod_eq_emod_of_nonneg n0]
  obtain ⟨k, rfl⟩ : ∃ k : Nat, n = k := ⟨n.toNat, by omega⟩
  simp
 obtain ⟨r, hr⟩ : ∃ r, r = n.toNat % d := ⟨_, rfl⟩
 rw [← hr] at hmod hmd
 have hrd : r < d := by rw [hr]; exact Nat.mod_lt _ hd0
 have hs0 : itM m s 0 = s := rfl
 have hS := (SL.nil w).box (.cells (mC m ad cap) 24)
 have HN := hid CN; have HE := hid CE; have HB := hid hback; have HM := hid hmin; have HO := hid hmod
 clear CN CE hback hmin hmod hd hdl hr
 rw [← HO.out]
 have CZ := HN.out 0
 rw [hs0, ← hs0, ← HE.out 0, hs0] at CZ
 have HZ := hid CZ
 clear CZ
 go_enter Tryz.func66, Tryz.ntmps66
 go_wp2_with fail
 have q1 := (hS.blk 0 rfl).1
 refine (HZ.out _ (hR.below hS.b)).mono ?_
 rintro e w1 ⟨rfl, b1⟩
 have hS1 := hS.mono b1
 clear q1
 go_wp2_with fail
 go_loopw [7, 8] (fun n x wr => ∃ k : Nat, 1 ≤ k ∧ k ≤ d ∧ n = .int .i64 k ∧ x = .int .i64 (itM m s k) ∧ SL w.heap.size w wr [pBlk w.heap.size (.cells (mC m ad cap) 24)]) (fun n _ _ => d - (intOf n).toNat)
 case atStart => exact ⟨1, by omega, by omega, rfl, rfl, hS1⟩
 case round =>
  clear hS hS1
  obtain ⟨k, hk1, hk2, rfl, rfl, hSr⟩ := hrel
  by_cases hkd : k < d
  ·have hne : (itM m s k != s) = true := by simpa using HM.out k (by omega) hkd
   have q1 := (hSr.blk 0 rfl).1
   have C := fun w h => HN.out k w h
   rw [← HE.out k] at C
   have HC := hid C
   clear C
   go_wp2_with (with_reducible refine wpList_ldS (n := 4) (us := mC m ad cap) A_mach kR wU wU (by assumption) wU wU ?_)
   refine (HC.out _ (hR.below hSr.b)).mono ?_
   rintro e w2 ⟨rfl, b2⟩
   have hS2 := hSr.mono b2
   go_wp2_with fail
   exact ⟨⟨k + 1, by omega, by omega, by go_num, rfl, hS2⟩, by simp [intOf]; omega⟩
  ·have hkk : k = d := by omega
   subst hkk
   rw [HB.out]
   have hne : (s != s) = false := by simp
   have hz : ((k : Int) == 0) = false := by simp; omega
   go_wp2_with fail
   go_loopw [1, 23] (fun x i wq => ∃ j : Nat, j ≤ r ∧ i = .int .i64 j ∧ x = .int .i64 (itM m s j) ∧ SL w.heap.size w wq [pBlk w.heap.size (.cells (mC m ad cap) 24)]) (fun _ i _ => r - (intOf i).toNat)
   case atStart => exact ⟨0, by omega, rfl, rfl, hSr⟩
   case round =>
    clear hSr
    obtain ⟨j, hj, rfl, rfl, hSq⟩ := hrel
    by_cases hjr : j < r
    ·have q1 := (hSq.blk 0 rfl).1
     have C := fun w h => HN.out j w h
     rw [← HE.out j] at C
     have HC := hid C
     clear C
     go_wp2_with (with_reducible refine wpList_ldS (n := 4) (us := mC m ad cap) A_mach kR wU wU (by assumption) wU wU ?_)
     refine (HC.out _ (hR.below hSq.b)).mono ?_
     rintro e w2 ⟨rfl, b2⟩
     have hS2 := hSq.mono b2
     go_wp2_with fail
     exact ⟨⟨j + 1, by omega, by go_num, rfl, hS2⟩, by simp [intOf]; omega⟩
    ·have hjj : j = r := by omega
     subst hjj
     go_wp2_with fail
     go_ret
     exact ⟨rfl, hSq.b⟩
end Go.Proofs.YtglpfpdomnllkaaGreat

namespace Go.Proofs.YtglpfpdomnllkaaGreat
open Go.RowKit
set_option maxHeartbeats 8000000
set_option maxRecDepth 100000

theorem steps1_any (m : MacV) (ad : Option Addr) (cap : Nat) (bm bn : Nat) (s n : Int) (w : World) (hm : w.heap[bm]? = some (.cells (mC m ad cap) 24)) (hn : w.heap[bn]? = some (.cells #[.int .i64 n] 3)) (hR : Ints w ad cap m.sw) (hg : m.gears ≤ 16) (h0 : 0 ≤ s) (h1 : s < 4 * m.gears) (n0 : 0 ≤ n) (n1 : n ≤ 9223372036854775807) :
  Calls Tryz.prog 78 #[.int .i64 s, .pointer (some ⟨bm, 0, none⟩), .pointer (some ⟨bn, 0, none⟩)] w fun r w' => r = .returned (.int .i64 (itM m s n.toNat)) ∧ Below w.heap.size w w' := by
 have CA := fun w h => after_any m ad cap s n w h hg h0 h1 n0 n1
 have HA := hid CA
 clear CA
 go_enter Tryz.func78, Tryz.ntmps78
 go_wp2_with (first | (with_reducible refine wpList_ldS (n := 4) (us := mC m ad cap) A_mach kR wU wU (by assumption) wU wU ?_) | (with_reducible refine wpList_ldB F_int wU wU hn wU ?_))
 refine (HA.out _ hR).mono ?_
 rintro e w1 ⟨rfl, b1⟩
 go_wp2_with fail
 go_ret
 exact ⟨rfl, b1⟩

/-- mapped with a function of the program, of which the places are given. -/
theorem mappedS_any (p1 p2 : Value) (g : Int → Int) (al : Option Addr) (cl : Nat) (l : List Int) (w : World) (hL : Ints w al cl l) (hn : l.length ≤ 1048576)
  (HF : ∀ x ∈ l, ∀ w', Below w.heap.size w w' → Calls Tryz.prog 78 #[.int .i64 x, p1, p2] w' fun r w'' => r = .returned (.int .i64 (g x)) ∧ Below w'.heap.size w' w'') :
  Calls Tryz.prog 53 #[.slice al l.length cl, .func (.func 78) #[] #[p1, p2]] w fun r w' => ∃ v, r = .returned v ∧ OwnI w.heap.size w' v (l.map g) ∧ Below w.heap.size w w' := by
 have hcap := hL.le
 have hmx := hL.max
 have H := hid HF
 clear HF
 have hS := (SL.nil w).nilS (α := Int) (e := 3) cIntS
 go_enter Tryz.func53, Tryz.ntmps53
 go_wp2_with fail
 go_loopw [5, 10] (fun v i wr => ∃ k : Nat, k ≤ l.length ∧ i = .int .i64 k ∧ SL w.heap.size w wr [pOwn cInt 1 3 v ((l.take k).map g)]) (fun _ i _ => l.length - (intOf i).toNat)
 case atStart => exact ⟨0, by omega, rfl, hS⟩
 case round =>
  clear hS
  obtain ⟨k, hk, rfl, hSr⟩ := hrel
  have hLr := hL.below hSr.b
  by_cases hlt : k < l.length
  ·have hmem := atD_mem hlt
   have ht := take_snoc hlt
   have hlen : ((l.take k).map g).length ≤ 1048576 := by simp; omega
   obtain ⟨x, hx⟩ : ∃ x, x = atD 0 l k := ⟨_, rfl⟩
   rw [← hx] at hmem ht
   have HX := hid hx; have HT := hid ht
   clear hx ht
   go_wp2_with ((with_reducible refine wpList_idx _ 0 E_ints F_int cInt1 wU wU (hLr) oD oD (fun _ => wU) (fun _ => ?_)); rw [← HX.out])
   refine (H.out x hmem _ hSr.b).mono ?_
   rintro e w1 ⟨rfl, b1⟩
   have hS1 := hSr.mono b1
   go_wp2_with ((with_reducible refine wpList_pushL (y := (g x)) 0 E_ints wU wU (hS1) wU cIntO ⟨rfl, rfl⟩ (by first | with_unfolding_all rfl | simp) wU (by first | omega | (simp; omega)) (by first | omega | (simp; omega)) ?_); intro v2 w2 hS2)
   exact ⟨⟨k + 1, by omega, by go_num, by rw [HT.out, List.map_append]; exact hS2⟩, by simp [intOf]; omega⟩
  ·have hkk : k = l.length := by omega
   subst hkk
   rw [List.take_length] at hSr
   go_wp2_with fail
   go_ret
   exact ⟨_, rfl, hSr.own 0 rfl, hSr.b⟩

def stepsE (m : MacV) (l : List Int) (n : Int) : Int := if loadE m l ≠ 0 then loadE m l else if n < 0 ∨ 999999999 < n then 3 else 0

theorem mSteps_any (m : MacV) (ad : Option Addr) (cap : Nat) (al : Option Addr) (cl : Nat) (l : List Int) (n : Int) (w : World) (hR : Ints w ad cap m.sw) (hL : Ints w al cl l) (HK : ChkL m ad cap al cl l) :
  Calls Tryz.prog 31 #[mV m ad cap, .slice al l.length cl, .int .i64 n] w fun r w' => ∃ v, r = .returned (.tuple #[v, .int .i64 (stepsE m l n)]) ∧ OwnI w.heap.size w' v (if stepsE m l n = 0 then l.map (fun s => itM m s n.toNat) else []) ∧ Below w.heap.size w w' := by
 have hcap := hL.le
 have hmx := hL.max
 have hS := ((SL.nil w).box (.cells (mC m ad cap) 24)).box (.cells #[.int .i64 n] 3)
 simp only [World.size_alloc] at hS
 have q1 := (hS.blk 1 rfl).1
 have q0 := (hS.blk 0 rfl).1
 have R1 := hR.below hS.b
 have L1 := hL.below hS.b
 unfold ChkL at HK
 by_cases he : loadE m l = 0
 ·have hok := loadE_zero he
  by_cases c1 : n < 0
  ·have d1 : decide (n < 0) = true := decide_eq_true c1
   have hv : stepsE m l n = 3 := by unfold stepsE; rw [if_neg (by simp [he]), if_pos (.inl c1)]
   rw [he] at HK
   rw [hv]
   clear hv he hok c1
   go_enter Tryz.func31, Tryz.ntmps31
   go_wp2_with fail
   refine wp_region_qt 10 kR kR ?_
   simp only [List.take_succ_cons, List.take_zero, List.drop_succ_cons, List.drop_zero]
   repeat (first | ((with_reducible refine wpB_loadS (n := 4) (us := mC m ad cap) A_mach kR wU wU (by assumption) wU wU ?_); (try simp only [Act.put, pA, pB, pC])) | ((with_reducible refine wpB_load F_int wU wU (by assumption) wU ?_); (try simp only [Act.put, pA, pB, pC])) | ((refine wpB_call (.int .i64 0) wU (fun w' => ?_) (fun w' hw' => HK w' (R1.below hw') (L1.below hw')) ?_); (focus (go_simp; done)); (try simp only [Act.put, pA, pB, pC])) | ((with_reducible refine wpB_when wU wU wU ?_); (try simp only [Act.put, pA, pB, pC])) | ((with_reducible refine wpQ_skip wU ?_); (try simp only [Act.put, pA, pB, pC])) |  ((with_reducible refine wpB_load (by first | exact F_int | fail) wU wU (by assumption) wU ?_); (try simp only [Act.put, pA, pB, pC])) | ((with_reducible refine wpB_loadS (n := 2) (us := #[_, _]) (by fail) kR wU wU (by assumption) wU wU ?_); (try simp only [Act.put, pA, pB, pC])) | ((with_reducible refine wpB_loadS (n := 4) (us := #[_, _, _, _]) (by fail) kR wU wU (by assumption) wU wU ?_); (try simp only [Act.put, pA, pB, pC])) | ((refine wpQ_oneG ?_ wU (fun w' => ?_) ?_); rotate_left; (go_simp; rfl); (try simp only [Act.put, pA, pB, pC])))
   refine wpQuiet_nil ?_
   intro w1 hb1
   have hS2 := hS.mono hb1
   go_wp2_with (go_at_call 55; refine (mfirst_any _ _ [_, _] _ (reps_newN cIntS [_, _] 2 rfl (by decide) _ _ (by simp) rfl)).mono ?_; rw [firstE_z, firstE_head (by decide)]; rintro e w' ⟨rfl, rfl⟩)
   go_ret2
   exact ⟨_, rfl, own_nil cIntS, bal hS2.b _⟩
  have d1 : decide (n < 0) = false := decide_eq_false c1
  by_cases c2 : 999999999 < n
  ·have d2 : decide (999999999 < n) = true := decide_eq_true c2
   have hv : stepsE m l n = 3 := by unfold stepsE; rw [if_neg (by simp [he]), if_pos (.inr c2)]
   rw [he] at HK
   rw [hv]
   clear hv he hok c2
   go_enter Tryz.func31, Tryz.ntmps31
   go_wp2_with fail
   refine wp_region_qt 10 kR kR ?_
   simp only [List.take_succ_cons, List.take_zero, List.drop_succ_cons, List.drop_zero]
   repeat (first | ((with_reducible refine wpB_loadS (n := 4) (us := mC m ad cap) A_mach kR wU wU (by assumption) wU wU ?_); (try simp only [Act.put, pA, pB, pC])) | ((with_reducible refine wpB_load F_int wU wU (by assumption) wU ?_); (try simp only [Act.put, pA, pB, pC])) | ((refine wpB_call (.int .i64 0) wU (fun w' => ?_) (fun w' hw' => HK w' (R1.below hw') (L1.below hw')) ?_); (focus (go_simp; done)); (try simp only [Act.put, pA, pB, pC])) | ((with_reducible refine wpB_when wU wU wU ?_); (try simp only [Act.put, pA, pB, pC])) | ((with_reducible refine wpQ_skip wU ?_); (try simp only [Act.put, pA, pB, pC])) |  ((with_reducible refine wpB_load (by first | exact F_int | fail) wU wU (by assumption) wU ?_); (try simp only [Act.put, pA, pB, pC])) | ((with_reducible refine wpB_loadS (n := 2) (us := #[_, _]) (by fail) kR wU wU (by assumption) wU wU ?_); (try simp only [Act.put, pA, pB, pC])) | ((with_reducible refine wpB_loadS (n := 4) (us := #[_, _, _, _]) (by fail) kR wU wU (by assumption) wU wU ?_); (try simp only [Act.put, pA, pB, pC])) | ((refine wpQ_oneG ?_ wU (fun w' => ?_) ?_); rotate_left; (go_simp; rfl); (try simp only [Act.put, pA, pB, pC])))
   refine wpQuiet_nil ?_
   intro w1 hb1
   have hS2 := hS.mono hb1
   go_wp2_with (go_at_call 55; refine (mfirst_any _ _ [_, _] _ (reps_newN cIntS [_, _] 2 rfl (by decide) _ _ (by simp) rfl)).mono ?_; rw [firstE_z, firstE_head (by decide)]; rintro e w' ⟨rfl, rfl⟩)
   go_ret2
   exact ⟨_, rfl, own_nil cIntS, bal hS2.b _⟩
  ·have d2 : decide (999999999 < n) = false := decide_eq_false c2
   have hv : stepsE m l n = 0 := by unfold stepsE; rw [if_neg (by simp [he]), if_neg (by omega)]
   rw [he] at HK
   rw [hv, if_pos rfl]
   have hrng := hok.rng
   have hhi := hok.ok.hi
   have hfew := hok.few
   have HRNG := hid hrng
   clear hv he hok hrng
   go_enter Tryz.func31, Tryz.ntmps31
   go_wp2_with fail
   refine wp_region_qt 10 kR kR ?_
   simp only [List.take_succ_cons, List.take_zero, List.drop_succ_cons, List.drop_zero]
   repeat (first | ((with_reducible refine wpB_loadS (n := 4) (us := mC m ad cap) A_mach kR wU wU (by assumption) wU wU ?_); (try simp only [Act.put, pA, pB, pC])) | ((with_reducible refine wpB_load F_int wU wU (by assumption) wU ?_); (try simp only [Act.put, pA, pB, pC])) | ((refine wpB_call (.int .i64 0) wU (fun w' => ?_) (fun w' hw' => HK w' (R1.below hw') (L1.below hw')) ?_); (focus (go_simp; done)); (try simp only [Act.put, pA, pB, pC])) | ((with_reducible refine wpB_when wU wU wU ?_); (try simp only [Act.put, pA, pB, pC])) | ((with_reducible refine wpQ_skip wU ?_); (try simp only [Act.put, pA, pB, pC])) |  ((with_reducible refine wpB_load (by first | exact F_int | fail) wU wU (by assumption) wU ?_); (try simp only [Act.put, pA, pB, pC])) | ((with_reducible refine wpB_loadS (n := 2) (us := #[_, _]) (by fail) kR wU wU (by assumption) wU wU ?_); (try simp only [Act.put, pA, pB, pC])) | ((with_reducible refine wpB_loadS (n := 4) (us := #[_, _, _, _]) (by fail) kR wU wU (by assumption) wU wU ?_); (try simp only [Act.put, pA, pB, pC])) | ((refine wpQ_oneG ?_ wU (fun w' => ?_) ?_); rotate_left; (go_simp; rfl); (try simp only [Act.put, pA, pB, pC])))
   refine wpQuiet_nil ?_
   intro w1 hb1
   have hS2 := hS.mono hb1
   go_wp2_with (go_at_call 55; refine (mfirst_any _ _ [_, _] _ (reps_newN cIntS [_, _] 2 rfl (by decide) _ _ (by simp) rfl)).mono ?_; rw [firstE_z, firstE_z, firstE_nil]; rintro e w' ⟨rfl, rfl⟩)
   have hS4 := hS2.al (.cells #[.int .i64 0, .int .i64 0] 34)
   have q5 := (hS4.blk 1 rfl).1
   have q4 := (hS4.blk 0 rfl).1
   have t4 := hS4.b
   refine (mappedS_any _ _ (fun s => itM m s n.toNat) al cl l _ (hL.below t4) (by omega) (fun x hx w' hw' => ?_)).mono ?_
   ·refine steps1_any m ad cap _ _ x n w' ?_ ?_ ((hR.below t4).below hw') hhi (HRNG.out x hx).1 (HRNG.out x hx).2 (by omega) (by omega)
    ·exact (hw'.block _ (hS4.blk 1 rfl).2.2).trans q5
    ·exact (hw'.block _ (hS4.blk 0 rfl).2.2).trans q4
   rintro e w5 ⟨v, rfl, ho, b5⟩
   go_wp2_with fail
   go_ret2
   exact ⟨_, rfl, ho.mono t4.size, bnext t4 b5⟩
 ·obtain ⟨E, hE⟩ : ∃ E, E = loadE m l := ⟨_, rfl⟩
  have hv : stepsE m l n = E := by unfold stepsE; rw [if_pos he, hE]
  rw [← hE] at HK he
  have hne : (E != 0) = true := by simpa using he
  rw [hv, if_neg he]
  clear hv hE
  cases d1 : decide (n < 0)
  ·go_enter Tryz.func31, Tryz.ntmps31
   go_wp2_with fail
   refine wp_region_qt 10 kR kR ?_
   simp only [List.take_succ_cons, List.take_zero, List.drop_succ_cons, List.drop_zero]
   repeat (first | ((with_reducible refine wpB_loadS (n := 4) (us := mC m ad cap) A_mach kR wU wU (by assumption) wU wU ?_); (try simp only [Act.put, pA, pB, pC])) | ((with_reducible refine wpB_load F_int wU wU (by assumption) wU ?_); (try simp only [Act.put, pA, pB, pC])) | ((refine wpB_call (.int .i64 E) wU (fun w' => ?_) (fun w' hw' => HK w' (R1.below hw') (L1.below hw')) ?_); (focus (go_simp; done)); (try simp only [Act.put, pA, pB, pC])) | ((with_reducible refine wpB_when wU wU wU ?_); (try simp only [Act.put, pA, pB, pC])) | ((with_reducible refine wpQ_skip wU ?_); (try simp only [Act.put, pA, pB, pC])) |  ((with_reducible refine wpB_load (by first | exact F_int | fail) wU wU (by assumption) wU ?_); (try simp only [Act.put, pA, pB, pC])) | ((with_reducible refine wpB_loadS (n := 2) (us := #[_, _]) (by fail) kR wU wU (by assumption) wU wU ?_); (try simp only [Act.put, pA, pB, pC])) | ((with_reducible refine wpB_loadS (n := 4) (us := #[_, _, _, _]) (by fail) kR wU wU (by assumption) wU wU ?_); (try simp only [Act.put, pA, pB, pC])) | ((refine wpQ_oneG ?_ wU (fun w' => ?_) ?_); rotate_left; (go_simp; rfl); (try simp only [Act.put, pA, pB, pC])))
   refine wpQuiet_nil ?_
   intro w1 hb1
   have hS2 := hS.mono hb1
   go_wp2_with (go_at_call 55; refine (mfirst_any _ _ [_, _] _ (reps_newN cIntS [_, _] 2 rfl (by decide) _ _ (by simp) rfl)).mono ?_; rw [firstE_head he]; rintro e w' ⟨rfl, rfl⟩)
   all_goals go_ret2
   all_goals exact ⟨_, rfl, own_nil cIntS, bal hS2.b _⟩
  ·go_enter Tryz.func31, Tryz.ntmps31
   go_wp2_with fail
   refine wp_region_qt 10 kR kR ?_
   simp only [List.take_succ_cons, List.take_zero, List.drop_succ_cons, List.drop_zero]
   repeat (first | ((with_reducible refine wpB_loadS (n := 4) (us := mC m ad cap) A_mach kR wU wU (by assumption) wU wU ?_); (try simp only [Act.put, pA, pB, pC])) | ((with_reducible refine wpB_load F_int wU wU (by assumption) wU ?_); (try simp only [Act.put, pA, pB, pC])) | ((refine wpB_call (.int .i64 E) wU (fun w' => ?_) (fun w' hw' => HK w' (R1.below hw') (L1.below hw')) ?_); (focus (go_simp; done)); (try simp only [Act.put, pA, pB, pC])) | ((with_reducible refine wpB_when wU wU wU ?_); (try simp only [Act.put, pA, pB, pC])) | ((with_reducible refine wpQ_skip wU ?_); (try simp only [Act.put, pA, pB, pC])) |  ((with_reducible refine wpB_load (by first | exact F_int | fail) wU wU (by assumption) wU ?_); (try simp only [Act.put, pA, pB, pC])) | ((with_reducible refine wpB_loadS (n := 2) (us := #[_, _]) (by fail) kR wU wU (by assumption) wU wU ?_); (try simp only [Act.put, pA, pB, pC])) | ((with_reducible refine wpB_loadS (n := 4) (us := #[_, _, _, _]) (by fail) kR wU wU (by assumption) wU wU ?_); (try simp only [Act.put, pA, pB, pC])) | ((refine wpQ_oneG ?_ wU (fun w' => ?_) ?_); rotate_left; (go_simp; rfl); (try simp only [Act.put, pA, pB, pC])))
   refine wpQuiet_nil ?_
   intro w1 hb1
   have hS2 := hS.mono hb1
   go_wp2_with (go_at_call 55; refine (mfirst_any _ _ [_, _] _ (reps_newN cIntS [_, _] 2 rfl (by decide) _ _ (by simp) rfl)).mono ?_; rw [firstE_head he]; rintro e w' ⟨rfl, rfl⟩)
   all_goals go_ret2
   all_goals exact ⟨_, rfl, own_nil cIntS, bal hS2.b _⟩
end Go.Proofs.YtglpfpdomnllkaaGreat

namespace Go.Proofs.YtglpfpdomnllkaaGreat
open Go.RowKit
set_option maxHeartbeats 8000000
set_option maxRecDepth 100000

theorem cloneI_any (a : Option Addr) (cap : Nat) (l : List Int) (w : World) (hS : Ints w a cap l) (hsm : l.length ≤ 1048576) :
  Calls Tryz.prog 92 #[.slice a l.length cap] w fun r w' => ∃ v, r = .returned v ∧ OwnI w.heap.size w' v l ∧ Below w.heap.size w w' := by
 have hcap := hS.le
 have hm := hS.max
 have heq := fun (w : World) (a : Option Addr) (n c : Nat) => Lib.run_eql_slice_nil (P := Tryz.prog) w 22 3 a n c 0 0 Tryz.underlying22
 cases a with
 | none =>
  have h0 : cap = 0 := hS.2.2.2.1 rfl
  have hl : l = [] := by
   cases l with
   | nil => rfl
   | cons x r => simp at hcap; omega
  subst hl
  go_enter Tryz.func92, Tryz.ntmps92
  go_wp2_with fail
  go_ret
  exact ⟨_, rfl, own_nil cIntS, Below.refl _ _⟩
 | some b =>
  go_enter Tryz.func92, Tryz.ntmps92
  go_wp2_with ((with_reducible refine wpList_app (B := w.heap.size) (l := []) (ys := l) E_ints wU wU (own_made0 cIntS w rfl (Nat.le_refl _)) (hS.alloc _) cIntO (by simp; omega) (by simp) (by simp; omega) ?_); intro v1 w1 ho1 hg1 _)
  go_ret
  refine ⟨v1, rfl, ho1, ?_⟩
  exact (bal (Below.refl _ _) _).grown hg1 (by simp) (fun k hk => by cases hk; exact Nat.le_refl _)

/-- the machine with the opposite turn. -/
def turnMac (m : MacV) : MacV := ⟨m.ring, m.gears, -m.turn, m.sw⟩
theorem mturned_any (m : MacV) (ad : Option Addr) (cap : Nat) (w : World) (hR : Ints w ad cap m.sw) (ht : m.turn = 1 ∨ m.turn = -1) (hs : m.sw.length ≤ 16) :
  Calls Tryz.prog 72 #[mV m ad cap] w fun r w' => ∃ a c, r = .returned (mV (turnMac m) a c) ∧ OwnI w.heap.size w' (.slice a m.sw.length c) m.sw ∧ Below w.heap.size w w' := by
 have hcap := hR.le
 have hmx := hR.max
 have hS := ((SL.nil w).box (.cells (mC m ad cap) 24)).box (.cells #[.bool false, .int .i64 0, .int .i64 0, .slice none 0 0] 24)
 simp only [World.size_alloc] at hS
 have q1 := (hS.blk 1 rfl).1
 have k0 := hS.cell 1 rfl 0 rfl
 have k1 := hS.cell 1 rfl 1 rfl
 have k2 := hS.cell 1 rfl 2 rfl
 have k3 := hS.cell 1 rfl 3 rfl
 have hb := hS.b
 have hw : IntKind.i64.wrap (-m.turn) = -m.turn := IntWalk.i64_in _ (by omega)
 have CL := fun w h => cloneI_any ad cap m.sw w h (by omega)
 have HC := hid CL
 clear CL
 go_enter Tryz.func72, Tryz.ntmps72
 go_wp2_with fail
 obtain ⟨W, hW⟩ : ∃ W, W = (w.alloc (.cells (mC m ad cap) 24)).alloc (.cells #[.bool false, .int .i64 0, .int .i64 0, .slice none 0 0] 24) := ⟨_, rfl⟩
 rw [← hW] at hS q1 k0 k1 k2 k3 hb ⊢
 clear hW
 have kc : ∀ (V : World), (Below w.heap.size w V ∧ V.heap[w.heap.size]? = some (.cells (mC m ad cap) 24)) → ∀ j u, (mC m ad cap)[j]? = some u → V.cell? ⟨w.heap.size, j, none⟩ = some u := by
  rintro V ⟨_, h⟩ j u hu
  simp [World.cell?, h, hu]
 refine wp_regionK (C := (fun V => Below w.heap.size w V ∧ V.heap[w.heap.size]? = some (.cells (mC m ad cap) 24))) [0, 1, 2, 3, 4, 5, 6, 7, 8] [_, _, _, _, _, _, _, _, _] 3 (by simp only [List.map_cons, List.map_nil, List.getElem?_toArray]; rfl) rfl kR kR kR (⟨hb.drew, q1⟩) ?_
 refine ⟨_, yieldsK_val wU (fun w' => by with_unfolding_all exact rfl), ?_⟩
 go_frame
 refine ⟨_, yieldsK_cellC F_boolM (fun V h => kc V h 0 _ rfl) wU wU, ?_⟩
 go_frame
 refine ⟨_, yieldsK_val wU (fun w' => by with_unfolding_all exact rfl), ?_⟩
 go_frame
 refine ⟨_, yieldsK_cellC F_int (fun V h => kc V h 1 _ rfl) wU wU, ?_⟩
 go_frame
 refine ⟨_, yieldsK_val wU (fun w' => by with_unfolding_all exact rfl), ?_⟩
 go_frame
 refine ⟨_, yieldsK_cellC F_int (fun V h => kc V h 2 _ rfl) wU wU, ?_⟩
 go_frame
 refine ⟨.int .i64 (-m.turn), yieldsK_val wU (fun w' => by first | (go_simp; done) | (go_simp; rfl)), ?_⟩
 go_frame
 refine ⟨_, yieldsK_val wU (fun w' => by with_unfolding_all exact rfl), ?_⟩
 go_frame
 refine ⟨_, yieldsK_cellC F_sliceM (fun V h => kc V h 3 _ rfl) wU wU, ?_⟩
 go_frame
 unfold wpPureK
 have hVd : ({ W with drawn := W.drawn + 1 } : World) = W.drew := rfl
 rw [hVd]
 have b2 := hb.drew
 refine wpAnyC_on [9] kR (by simp) ?_
 simp only [List.forall_mem_cons, List.not_mem_nil, false_implies, implies_true, and_true]
 refine wpOp_call (f := 92) (args := #[.slice ad m.sw.length cap]) (by rw [List.getElem?_toArray]; rfl) wU (by first | (go_simp; done) | (simp [execOp, Act.eval, Result.andThen]; done) | (simp [execOp, Act.eval, Result.andThen]; rfl)) ?_
 refine (HC.out _ (hR.below b2)).mono ?_
 rintro e V1 ⟨v1, rfl, hO1, hb1⟩
 obtain ⟨a1, cap1, rfl, hr1, hf1, _⟩ := hO1.reps
 have hS2 := hS.drew.call (SL.ofOwn hO1 hb1)
 simp only [List.cons_append, List.nil_append] at hS2
 refine ⟨_, rfl, ⟨hS2.b, (hS2.blk 2 rfl).1⟩, ?_⟩
 go_frame
 refine wpAnyC_on [10] kR (by simp) ?_
 simp only [List.forall_mem_cons, List.not_mem_nil, false_implies, implies_true, and_true]
 refine wpOp_value (v := .agg #[.bool m.ring, .int .i64 m.gears, .int .i64 (-m.turn), .slice a1 m.sw.length cap1]) (w' := V1) (by rw [List.getElem?_toArray]; rfl) wU (by first | (go_simp; done) | (go_simp; rfl) | (simp [execOp, Act.eval, Result.andThen]; done)) ?_
 refine ⟨⟨hS2.b, (hS2.blk 2 rfl).1⟩, ?_⟩
 go_frame
 refine wpAnyC_on [11] kR (by simp) ?_
 simp only [List.forall_mem_cons, List.not_mem_nil, false_implies, implies_true, and_true]
 refine wpOp_of_list (by rw [List.getElem?_toArray]; rfl) ?_
 ((with_reducible refine wpList_stoR (us := #[.bool m.ring, .int .i64 m.gears, .int .i64 (-m.turn), .slice a1 m.sw.length cap1]) 1 wU wU (hS2) wU kR wU wU ?_); intro w3 hS3)
 refine ⟨⟨hS3.b, (hS3.blk 2 rfl).1⟩, ?_⟩
 go_frame
 refine wpAnyC_rest [] [] rfl rfl kR kR kR ⟨hS3.b, (hS3.blk 2 rfl).1⟩ ?_
 unfold wpPure
 refine of_wpList_nil (P := Tryz.prog) (ops := #[]) ?_
 go_wp2_with fail
 exact bodyPost_ret (results_cell rfl rfl A_mach kR (hS3.blk 1 rfl).1) rfl ⟨a1, cap1, rfl, hS3.own 0 rfl, hS3.b⟩
end Go.Proofs.YtglpfpdomnllkaaGreat

namespace Go.Proofs.YtglpfpdomnllkaaGreat
open Go.RowKit
set_option maxHeartbeats 8000000
set_option maxRecDepth 100000

/-- mapped with a function of the program, of which the places are given. -/
theorem mappedR_any  (g : Int → Int) (al : Option Addr) (cl : Nat) (l : List Int) (w : World) (hL : Ints w al cl l) (hn : l.length ≤ 1048576)
  (HF : ∀ x ∈ l, ∀ w', Below w.heap.size w w' → Calls Tryz.prog 73 #[.int .i64 x] w' fun r w'' => r = .returned (.int .i64 (g x)) ∧ Below w'.heap.size w' w'') :
  Calls Tryz.prog 53 #[.slice al l.length cl, .func (.func 73) #[] #[]] w fun r w' => ∃ v, r = .returned v ∧ OwnI w.heap.size w' v (l.map g) ∧ Below w.heap.size w w' := by
 have hcap := hL.le
 have hmx := hL.max
 have H := hid HF
 clear HF
 have hS := (SL.nil w).nilS (α := Int) (e := 3) cIntS
 go_enter Tryz.func53, Tryz.ntmps53
 go_wp2_with fail
 go_loopw [5, 10] (fun v i wr => ∃ k : Nat, k ≤ l.length ∧ i = .int .i64 k ∧ SL w.heap.size w wr [pOwn cInt 1 3 v ((l.take k).map g)]) (fun _ i _ => l.length - (intOf i).toNat)
 case atStart => exact ⟨0, by omega, rfl, hS⟩
 case round =>
  clear hS
  obtain ⟨k, hk, rfl, hSr⟩ := hrel
  have hLr := hL.below hSr.b
  by_cases hlt : k < l.length
  ·have hmem := atD_mem hlt
   have ht := take_snoc hlt
   have hlen : ((l.take k).map g).length ≤ 1048576 := by simp; omega
   obtain ⟨x, hx⟩ : ∃ x, x = atD 0 l k := ⟨_, rfl⟩
   rw [← hx] at hmem ht
   have HX := hid hx; have HT := hid ht
   clear hx ht
   go_wp2_with ((with_reducible refine wpList_idx _ 0 E_ints F_int cInt1 wU wU (hLr) oD oD (fun _ => wU) (fun _ => ?_)); rw [← HX.out])
   refine (H.out x hmem _ hSr.b).mono ?_
   rintro e w1 ⟨rfl, b1⟩
   have hS1 := hSr.mono b1
   go_wp2_with ((with_reducible refine wpList_pushL (y := (g x)) 0 E_ints wU wU (hS1) wU cIntO ⟨rfl, rfl⟩ (by first | with_unfolding_all rfl | simp) wU (by first | omega | (simp; omega)) (by first | omega | (simp; omega)) ?_); intro v2 w2 hS2)
   exact ⟨⟨k + 1, by omega, by go_num, by rw [HT.out, List.map_append]; exact hS2⟩, by simp [intOf]; omega⟩
  ·have hkk : k = l.length := by omega
   subst hkk
   rw [List.take_length] at hSr
   go_wp2_with fail
   go_ret
   exact ⟨_, rfl, hSr.own 0 rfl, hSr.b⟩

def mirM (s : Int) : Int := if s % 4 = 1 then s + 2 else if s % 4 = 3 then s - 2 else s
theorem mir1_any (s : Int) (w : World) (h0 : 0 ≤ s) (h1 : s < 64) :
  Calls Tryz.prog 73 #[.int .i64 s] w fun r w' => r = .returned (.int .i64 (mirM s)) ∧ Below w.heap.size w w' := by
 obtain ⟨q, hq⟩ : ∃ q, q = s % 4 := ⟨_, rfl⟩
 have htm : s.tmod 4 = q := by rw [hq, Int.tmod_eq_emod_of_nonneg h0]
 have hm : mirM s = if q = 1 then s + 2 else if q = 3 then s - 2 else s := by unfold mirM; rw [hq]
 by_cases c1 : q = 1
 ·have d1 : (q == 1) = true := by simpa using c1
  have hv : mirM s = s - 1 + 3 := by rw [hm, if_pos c1]; omega
  have HV := hid hv
  clear hm hv hq c1
  go_enter Tryz.func73, Tryz.ntmps73
  go_wp2_with fail
  go_ret
  exact ⟨by rw [HV.out]; rfl, Below.refl _ _⟩
 have d1 : (q == 1) = false := by simpa using c1
 by_cases c3 : q = 3
 ·have d3 : (q == 3) = true := by simpa using c3
  have hv : mirM s = s - 3 + 1 := by rw [hm, if_neg c1, if_pos c3]; omega
  have HV := hid hv
  have hs3 : 3 ≤ s := by omega
  clear hm hv hq c1 c3
  go_enter Tryz.func73, Tryz.ntmps73
  go_wp2_with fail
  go_ret
  exact ⟨by rw [HV.out]; rfl, Below.refl _ _⟩
 ·have d3 : (q == 3) = false := by simpa using c3
  have hv : mirM s = s := by rw [hm, if_neg c1, if_neg c3]
  have HV := hid hv
  clear hm hv hq c1 c3
  go_enter Tryz.func73, Tryz.ntmps73
  go_wp2_with fail
  go_ret
  exact ⟨by rw [HV.out]; rfl, Below.refl _ _⟩
end Go.Proofs.YtglpfpdomnllkaaGreat

namespace Go.Proofs.YtglpfpdomnllkaaGreat
open Go.RowKit
set_option maxHeartbeats 8000000
set_option maxRecDepth 100000

theorem results_cellSS {P : Program} {w : World} {fn : Func} {tmps : Array Value} {t T k s s2 : Nat} {us : Array Value} {T' : TypeId} {fr : Nat × Nat} {v v2 : Value} (h : fn.results = #[.cell t T, .tmp s, .tmp s2]) (ht : tmps.getD t undef = .pointer (some ⟨k, 0, none⟩)) (hs : tmps.getD s undef = v) (hs2 : tmps.getD s2 undef = v2) (hu : Aggr P T) (hz : (P.info? T).map (·.size) = some us.size) (hb : w.heap[k]? = some (.cells us T' fr)) :
  (results fn tmps).run P w = .ok (.tuple #[.agg us, v, v2]) w := by
 obtain ⟨d, hd, hdd⟩ := hu
 have := run_loadVar_row (P := P) w k T' T us fr d hb hd (by cases d <;> first | exact hdd | rfl | cases hdd) hz
 simp only [Array.getD_eq_getD_getElem?] at ht hs hs2
 simp [results, h, ht, hs, hs2, asAddr, this]

theorem mMirrored_any (m : MacV) (ad : Option Addr) (cap : Nat) (al : Option Addr) (cl : Nat) (l : List Int) (w : World) (hR : Ints w ad cap m.sw) (hL : Ints w al cl l) (HK : ChkL m ad cap al cl l) :
  Calls Tryz.prog 27 #[mV m ad cap, .slice al l.length cl] w fun r w' => ∃ a c v, r = .returned (.tuple #[mV (if loadE m l = 0 then turnMac m else noM) a c, v, .int .i64 (loadE m l)]) ∧ SL w.heap.size w w' [pOwn cInt 1 3 (.slice a (if loadE m l = 0 then m.sw else []).length c) (if loadE m l = 0 then m.sw else []), pOwn cInt 1 3 v (if loadE m l = 0 then l.map mirM else [])] := by
 have hS := ((SL.nil w).box (.cells (mC m ad cap) 24)).box (.cells #[.bool false, .int .i64 0, .int .i64 0, .slice none 0 0] 24)
 simp only [World.size_alloc] at hS
 have R1 := hR.below hS.b
 have L1 := hL.below hS.b
 unfold ChkL at HK
 by_cases he : loadE m l = 0
 ·have hok := loadE_zero he
  have hhi := hok.ok.hi
  have hfew := hok.few
  have CT := fun w h => mturned_any m ad cap w h hok.ok.turn (by have := hok.ok.many; omega)
  have CM := fun w h => mappedR_any mirM al cl l w h (by omega) (fun x hx w' hw' => mir1_any x w' (hok.rng x hx).1 (by have := (hok.rng x hx).2; omega))
  rw [if_pos he, if_pos he, if_pos he]
  rw [he] at HK ⊢
  have HC := hid HK; have HT := hid CT; have HM := hid CM
  clear HK CT CM hok he
  go_enter Tryz.func27, Tryz.ntmps27
  go_wp2_with fail
  refine (HC.out _ R1 L1).mono ?_
  rintro e w1 ⟨rfl, b1⟩
  have hS1 := hS.mono b1
  have q1 := (hS1.blk 1 rfl).1
  go_wp2_with (with_reducible refine wpList_ldS (n := 4) (us := mC m ad cap) A_mach kR wU wU (by assumption) wU wU ?_)
  refine (HT.out _ (hR.below hS1.b)).mono ?_
  rintro e w2 ⟨a, c, rfl, ho, b2⟩
  have hS2 := hS1.call (SL.ofOwn ho b2)
  simp only [List.cons_append, List.nil_append] at hS2
  clear q1
  go_wp2_with fail
  refine (HM.out _ (hL.below hS2.b)).mono ?_
  rintro e w3 ⟨v, rfl, hv, b3⟩
  have hS3 := hS2.call (SL.ofOwn hv b3)
  simp only [List.cons_append, List.nil_append] at hS3
  go_wp2_with ((with_reducible refine wpList_stoR (us := #[.bool m.ring, .int .i64 m.gears, .int .i64 (-m.turn), .slice a m.sw.length c]) 2 wU wU (hS3) wU kR wU wU ?_); intro w4 hS4)
  exact bodyPost_ret (results_cellSS rfl rfl rfl rfl A_mach kR (hS4.blk 2 rfl).1) rfl ⟨a, c, v, rfl, hS4.pick [1, 0] (by decide) _ rfl⟩
 ·obtain ⟨E, hE⟩ : ∃ E, E = loadE m l := ⟨_, rfl⟩
  rw [if_neg he, if_neg he, if_neg he]
  rw [← hE] at HK he ⊢
  have hne : (E != 0) = true := by simpa using he
  have HC := hid HK
  clear HK hE he
  go_enter Tryz.func27, Tryz.ntmps27
  go_wp2_with fail
  refine (HC.out _ R1 L1).mono ?_
  rintro e w1 ⟨rfl, b1⟩
  have hS1 := hS.mono b1
  go_wp2_with ((with_reducible refine wpList_stoR (us := #[.bool false, .int .i64 0, .int .i64 0, .slice none 0 0]) 0 wU wU (hS1) wU kR wU wU ?_); intro w4 hS4)
  have hS5 := (hS4.nilS (α := Int) (c := cInt) (sz := 1) (e := 3) cIntS).nilS (α := Int) (c := cInt) (sz := 1) (e := 3) cIntS
  exact bodyPost_ret (results_cellSS rfl rfl rfl rfl A_mach kR (hS4.blk 0 rfl).1) rfl ⟨none, 0, _, rfl, hS5.pick [1, 0] (by decide) _ rfl⟩
end Go.Proofs.YtglpfpdomnllkaaGreat

namespace Go.Proofs.YtglpfpdomnllkaaGreat
open Go.RowKit
set_option maxHeartbeats 8000000
set_option maxRecDepth 100000

theorem wring0 (m : MacV) (hr : m.ring = false) (w : World) : Calls Tryz.prog 57 #[.bool m.ring, .int .i64 13] w fun r w' => r = .returned (.int .i64 0) ∧ Below w.heap.size w w' := by
 have := calls_below (mwhen_any m.ring 13 w)
 rw [hr] at this ⊢
 exact this
theorem wring1 (m : MacV) (hr : m.ring = true) (w : World) : Calls Tryz.prog 57 #[.bool m.ring, .int .i64 13] w fun r w' => r = .returned (.int .i64 13) ∧ Below w.heap.size w w' := by
 have := calls_below (mwhen_any m.ring 13 w)
 rw [hr] at this ⊢
 exact this
theorem wringR (m : MacV) (w : World) : Calls Tryz.prog 57 #[.bool m.ring, .int .i64 13] w fun r w' => r = .returned (.int .i64 (if m.ring = true then (13 : Int) else 0)) ∧ Below w.heap.size w w' :=
 calls_below (mwhen_any m.ring 13 w)

noncomputable def orderE (m : MacV) (l : List Int) : Int := if loadE m l ≠ 0 then loadE m l else if m.ring = true then 13 else if meetsM m l 0 = true then 16 else 0
theorem mOrder_any (m : MacV) (ad : Option Addr) (cap : Nat) (al : Option Addr) (cl : Nat) (l : List Int) (w : World) (hR : Ints w ad cap m.sw) (hL : Ints w al cl l) (HK : ChkL m ad cap al cl l) :
  Calls Tryz.prog 14 #[mV m ad cap, .slice al l.length cl] w fun r w' => ∃ v, r = .returned (.tuple #[v, .int .i64 (orderE m l)]) ∧ OwnI w.heap.size w' v (if orderE m l = 0 then orderM m l else []) ∧ Below w.heap.size w w' := by
 have hcap := hL.le
 have hmx := hL.max
 have hS := (SL.nil w).box (.cells (mC m ad cap) 24)
 have q1 := (hS.blk 0 rfl).1
 have R1 := hR.below hS.b
 have L1 := hL.below hS.b
 unfold ChkL at HK
 by_cases he : loadE m l = 0
 ·have hok := loadE_zero he
  have hlo := hok.ok.lo
  have hhi := hok.ok.hi
  rw [he] at HK
  have CM := fun w h h2 => meets_any m ad al cap cl l 0 w h h2 hhi hok.rng
  have CO := fun w h => order_any m ad cap al cl l w h (by omega) hhi
  have hv : orderE m l = if m.ring = true then 13 else if meetsM m l 0 = true then 16 else 0 := by unfold orderE; rw [if_neg (by simp [he])]
  rw [hv]
  have HC := hid HK; have HO := hid CO
  clear HK hv he hok CO
  cases hr : m.ring
  ·have HW := hid (wring0 m hr)
   clear hr
   cases hm : meetsM m l 0
   all_goals
    rw [hm] at CM
    have HM := hid CM
    clear CM hm
    go_enter Tryz.func14, Tryz.ntmps14
    go_wp2_with fail
    refine wp_region_qt 6 kR kR ?_
    simp only [List.take_succ_cons, List.take_zero, List.drop_succ_cons, List.drop_zero]
    repeat (first | ((with_reducible refine wpB_loadS (n := 4) (us := mC m ad cap) A_mach kR wU wU (by assumption) wU wU ?_); (try simp only [Act.put, pA, pB, pC])) | ((with_reducible refine wpB_load F_boolM wU wU (by assumption) wU ?_); (try simp only [Act.put, pA, pB, pC])) | ((refine wpB_call (.int .i64 0) wU (fun w' => ?_) (fun w' hw' => HC.out w' (R1.below hw') (L1.below hw')) ?_); (focus (go_simp; done)); (try simp only [Act.put, pA, pB, pC])) | ((refine wpB_call (.int .i64 0) wU (fun w' => ?_) (fun w' hw' => HW.out w') ?_); (focus (go_simp; done)); (try simp only [Act.put, pA, pB, pC])) | ((with_reducible refine wpQ_skip wU ?_); (try simp only [Act.put, pA, pB, pC])) |  ((with_reducible refine wpB_load (by first | exact F_int | fail) wU wU (by assumption) wU ?_); (try simp only [Act.put, pA, pB, pC])) | ((with_reducible refine wpB_loadS (n := 2) (us := #[_, _]) (by fail) kR wU wU (by assumption) wU wU ?_); (try simp only [Act.put, pA, pB, pC])) | ((with_reducible refine wpB_loadS (n := 4) (us := #[_, _, _, _]) (by fail) kR wU wU (by assumption) wU wU ?_); (try simp only [Act.put, pA, pB, pC])) | ((refine wpQ_oneG ?_ wU (fun w' => ?_) ?_); rotate_left; (go_simp; rfl); (try simp only [Act.put, pA, pB, pC])))
    refine wpQuiet_nil ?_
    intro w1 hb1
    have hS1 := hS.mono hb1
    have hS2 := hS1.al (.cells #[.int .i64 0, .int .i64 0] 34)
    have q2 := (hS2.blk 0 rfl).1
    go_wp2_with (first | (go_at_call 55; refine (mfirst_any _ _ [_, _] _ (reps_newN cIntS [_, _] 2 rfl (by decide) _ _ (by simp) rfl)).mono ?_; rw [firstE_z, firstE_z, firstE_nil]; rintro e w' ⟨rfl, rfl⟩) | (with_reducible refine wpList_ldS (n := 4) (us := mC m ad cap) A_mach kR wU wU (by assumption) wU wU ?_))
    refine (HM.out _ (hR.below hS2.b) (hL.below hS2.b)).mono ?_
    rintro e w3 ⟨rfl, b3⟩
    have hS3 := hS2.mono b3
    have q3 := (hS3.blk 0 rfl).1
    clear q2
    go_wp2_with (with_reducible refine wpList_ldS (n := 4) (us := mC m ad cap) A_mach kR wU wU (by assumption) wU wU ?_)
    first
     | (go_ret2; exact ⟨_, rfl, own_nil cIntS, hS3.b⟩)
     | (refine (HO.out _ (hL.below hS3.b)).mono ?_
        rintro e w4 ⟨v, rfl, ho, b4⟩
        go_wp2_with fail
        go_ret2
        exact ⟨_, rfl, ho.mono hS3.b.size, bnext hS3.b b4⟩)
  ·have HW := hid (wring1 m hr)
   clear CM hr
   go_enter Tryz.func14, Tryz.ntmps14
   go_wp2_with fail
   refine wp_region_qt 6 kR kR ?_
   simp only [List.take_succ_cons, List.take_zero, List.drop_succ_cons, List.drop_zero]
   repeat (first | ((with_reducible refine wpB_loadS (n := 4) (us := mC m ad cap) A_mach kR wU wU (by assumption) wU wU ?_); (try simp only [Act.put, pA, pB, pC])) | ((with_reducible refine wpB_load F_boolM wU wU (by assumption) wU ?_); (try simp only [Act.put, pA, pB, pC])) | ((refine wpB_call (.int .i64 0) wU (fun w' => ?_) (fun w' hw' => HC.out w' (R1.below hw') (L1.below hw')) ?_); (focus (go_simp; done)); (try simp only [Act.put, pA, pB, pC])) | ((refine wpB_call (.int .i64 13) wU (fun w' => ?_) (fun w' hw' => HW.out w') ?_); (focus (go_simp; done)); (try simp only [Act.put, pA, pB, pC])) | ((with_reducible refine wpQ_skip wU ?_); (try simp only [Act.put, pA, pB, pC])) |  ((with_reducible refine wpB_load (by first | exact F_int | fail) wU wU (by assumption) wU ?_); (try simp only [Act.put, pA, pB, pC])) | ((with_reducible refine wpB_loadS (n := 2) (us := #[_, _]) (by fail) kR wU wU (by assumption) wU wU ?_); (try simp only [Act.put, pA, pB, pC])) | ((with_reducible refine wpB_loadS (n := 4) (us := #[_, _, _, _]) (by fail) kR wU wU (by assumption) wU wU ?_); (try simp only [Act.put, pA, pB, pC])) | ((refine wpQ_oneG ?_ wU (fun w' => ?_) ?_); rotate_left; (go_simp; rfl); (try simp only [Act.put, pA, pB, pC])))
   refine wpQuiet_nil ?_
   intro w1 hb1
   have hS1 := hS.mono hb1
   go_wp2_with (go_at_call 55; refine (mfirst_any _ _ [_, _] _ (reps_newN cIntS [_, _] 2 rfl (by decide) _ _ (by simp) rfl)).mono ?_; rw [firstE_z, firstE_head (by decide)]; rintro e w' ⟨rfl, rfl⟩)
   go_ret2
   exact ⟨_, rfl, own_nil cIntS, bal hS1.b _⟩
 ·obtain ⟨E, hE⟩ : ∃ E, E = loadE m l := ⟨_, rfl⟩
  have hv : orderE m l = E := by unfold orderE; rw [if_pos he, hE]
  rw [← hE] at HK he
  have hne : (E != 0) = true := by simpa using he
  rw [hv, if_neg he]
  have HC := hid HK
  clear hv hE HK
  obtain ⟨R, hR2⟩ : ∃ R, R = (if m.ring = true then (13 : Int) else 0) := ⟨_, rfl⟩
  have HW := hid (wringR m)
  rw [← hR2] at HW
  clear hR2
  skip
  ·go_enter Tryz.func14, Tryz.ntmps14
   go_wp2_with fail
   refine wp_region_qt 6 kR kR ?_
   simp only [List.take_succ_cons, List.take_zero, List.drop_succ_cons, List.drop_zero]
   repeat (first | ((with_reducible refine wpB_loadS (n := 4) (us := mC m ad cap) A_mach kR wU wU (by assumption) wU wU ?_); (try simp only [Act.put, pA, pB, pC])) | ((with_reducible refine wpB_load F_boolM wU wU (by assumption) wU ?_); (try simp only [Act.put, pA, pB, pC])) | ((refine wpB_call (.int .i64 E) wU (fun w' => ?_) (fun w' hw' => HC.out w' (R1.below hw') (L1.below hw')) ?_); (focus (go_simp; done)); (try simp only [Act.put, pA, pB, pC])) | ((refine wpB_call (.int .i64 R) wU (fun w' => ?_) (fun w' hw' => HW.out w') ?_); (focus (go_simp; done)); (try simp only [Act.put, pA, pB, pC])) | ((with_reducible refine wpQ_skip wU ?_); (try simp only [Act.put, pA, pB, pC])) |  ((with_reducible refine wpB_load (by first | exact F_int | fail) wU wU (by assumption) wU ?_); (try simp only [Act.put, pA, pB, pC])) | ((with_reducible refine wpB_loadS (n := 2) (us := #[_, _]) (by fail) kR wU wU (by assumption) wU wU ?_); (try simp only [Act.put, pA, pB, pC])) | ((with_reducible refine wpB_loadS (n := 4) (us := #[_, _, _, _]) (by fail) kR wU wU (by assumption) wU wU ?_); (try simp only [Act.put, pA, pB, pC])) | ((refine wpQ_oneG ?_ wU (fun w' => ?_) ?_); rotate_left; (go_simp; rfl); (try simp only [Act.put, pA, pB, pC])))
   refine wpQuiet_nil ?_
   intro w1 hb1
   have hS1 := hS.mono hb1
   go_wp2_with (go_at_call 55; refine (mfirst_any _ _ [_, _] _ (reps_newN cIntS [_, _] 2 rfl (by decide) _ _ (by simp) rfl)).mono ?_; rw [firstE_head he]; rintro e w' ⟨rfl, rfl⟩)
   go_ret2
   exact ⟨_, rfl, own_nil cIntS, bal hS1.b _⟩

noncomputable def crossE (m : MacV) (l : List Int) : Int := if loadE m l ≠ 0 then loadE m l else if meetsM m l 0 = true then 16 else 0
theorem cX1 (x : CrM) : cX x = .agg (cX x).cells := rfl
theorem cXS (x : CrM) : (cX x).cells.size = 3 := rfl
theorem cXO (x : CrM) : ∀ u ∈ (cX x).cells.toList, u.oneCell' = true := by
 intro u hu; simp [cX, Value.cells] at hu; rcases hu with rfl | rfl | rfl <;> rfl
theorem E_xs : ETy Tryz.prog 54 58 (.agg #[.int .i64 0, .int .i64 0, .int .i64 0]) 3 24 := ⟨Tryz.underlying54, by kernel_rfl, rfl, by decide⟩
theorem crossings1_any (c : CrM) (w : World) :
  Calls Tryz.prog 77 #[cCr c] w fun r w' => r = .returned (cX c) ∧ Below w.heap.size w w' := by
 have hS := ((SL.nil w).box (.cells #[.int .i64 c.gear, .int .i64 c.over, .int .i64 c.under, .int .i64 c.going] 88)).box (.cells #[.int .i64 0, .int .i64 0, .int .i64 0] 58)
 simp only [World.size_alloc] at hS
 have q1 := (hS.blk 1 rfl).1
 go_enter Tryz.func77, Tryz.ntmps77
 go_wp2_with (first | (with_reducible refine wpList_ldS (n := 3) (us := #[.int .i64 c.gear, .int .i64 c.over, .int .i64 c.under]) A_xs kR wU wU (by assumption) wU wU ?_) | ((with_reducible refine wpList_stoR (us := #[.int .i64 c.gear, .int .i64 c.over, .int .i64 c.under]) 0 wU wU (hS) wU kR wU wU ?_); intro w4 hS4))
 exact bodyPost_ret (results_cell rfl rfl A_xs kR (hS4.blk 0 rfl).1) rfl ⟨rfl, hS4.b⟩
theorem mappedX_any (al : Option Addr) (cl : Nat) (l : List CrM) (w : World) (hL : Reps cCr 4 w al cl l) (hn : l.length ≤ 1048576) :
  Calls Tryz.prog 76 #[.slice al l.length cl, .func (.func 77) #[] #[]] w fun r w' => ∃ v, r = .returned v ∧ Own cX 3 w.heap.size 58 w' v l ∧ Below w.heap.size w w' := by
 have hcap := hL.le
 have hmx := hL.max
 have HF := hid crossings1_any
 have hS := (SL.nil w).nilS (α := CrM) (c := cX) (sz := 3) (e := 58) cXS
 go_enter Tryz.func76, Tryz.ntmps76
 go_wp2_with fail
 go_loopw [5, 10] (fun v i wr => ∃ k : Nat, k ≤ l.length ∧ i = .int .i64 k ∧ SL w.heap.size w wr [pOwn cX 3 58 v (l.take k)]) (fun _ i _ => l.length - (intOf i).toNat)
 case atStart => exact ⟨0, by omega, rfl, hS⟩
 case round =>
  clear hS
  obtain ⟨k, hk, rfl, hSr⟩ := hrel
  have hLr := hL.below hSr.b
  by_cases hlt : k < l.length
  ·have ht : l.take (k + 1) = l.take k ++ [atD ⟨0, 0, 0, 0⟩ l k] := by rw [List.take_succ_eq_append_getElem hlt]; simp [atD, hlt]
   have hlen : (l.take k).length ≤ 1048576 := by simp; omega
   obtain ⟨x, hx⟩ : ∃ x, x = atD (⟨0, 0, 0, 0⟩ : CrM) l k := ⟨_, rfl⟩
   rw [← hx] at ht
   have HX := hid hx; have HT := hid ht
   clear hx ht
   have hS1 := hSr.box (.cells #[.int .i64 x.gear, .int .i64 x.over, .int .i64 x.under, .int .i64 x.going] 88)
   have q1 := (hS1.blk 0 rfl).1
   go_wp2_with (first | ((with_reducible refine wpList_idxS _ ⟨0, 0, 0, 0⟩ E_crs A_crs cCr1 wU wU (hLr) oD oD (fun _ => wU) (fun _ => ?_)); rw [← HX.out]) | (with_reducible refine wpList_ldS (n := 4) (us := #[.int .i64 x.gear, .int .i64 x.over, .int .i64 x.under, .int .i64 x.going]) A_crs kR wU wU (by assumption) wU wU ?_))
   refine (HF.out x _).mono ?_
   rintro e w2 ⟨rfl, b2⟩
   have hS2 := hS1.mono b2
   go_wp2_with ((with_reducible refine wpList_pushL (y := x) 1 E_xs wU wU (hS2) wU cXO ⟨rfl, rfl⟩ (by first | with_unfolding_all rfl | simp) wU (by first | omega | (simp; omega)) (by first | omega | (simp; omega)) ?_); intro v3 w3 hS3)
   exact ⟨⟨k + 1, by omega, by go_num, by rw [HT.out]; exact hS3.tail⟩, by simp [intOf]; omega⟩
  ·have hkk : k = l.length := by omega
   subst hkk
   rw [List.take_length] at hSr
   go_wp2_with fail
   go_ret
   exact ⟨_, rfl, hSr.own 0 rfl, hSr.b⟩
theorem mCrossings_any (m : MacV) (ad : Option Addr) (cap : Nat) (al : Option Addr) (cl : Nat) (l : List Int) (w : World) (hR : Ints w ad cap m.sw) (hL : Ints w al cl l) (HK : ChkL m ad cap al cl l) :
  Calls Tryz.prog 30 #[mV m ad cap, .slice al l.length cl] w fun r w' => ∃ v, r = .returned (.tuple #[v, .int .i64 (crossE m l)]) ∧ Own cX 3 w.heap.size 58 w' v (if crossE m l = 0 then crossM m l else []) ∧ Below w.heap.size w w' := by
 have hcap := hL.le
 have hmx := hL.max
 have hS := (SL.nil w).box (.cells (mC m ad cap) 24)
 have q1 := (hS.blk 0 rfl).1
 have R1 := hR.below hS.b
 have L1 := hL.below hS.b
 unfold ChkL at HK
 by_cases he : loadE m l = 0
 ·have hok := loadE_zero he
  have hlo := hok.ok.lo
  have hhi := hok.ok.hi
  rw [he] at HK
  have CM := fun w h h2 => meets_any m ad al cap cl l 0 w h h2 hhi hok.rng
  have CO := fun w h => crossings_any m ad cap al cl l w h (by omega) hhi
  have hlen : (crossM m l).length ≤ 1048576 := by have := crossM_len m l; omega
  have hv : crossE m l = if meetsM m l 0 = true then 16 else 0 := by unfold crossE; rw [if_neg (by simp [he])]
  rw [hv]
  have HC := hid HK; have HO := hid CO
  clear HK hv he hok CO
  cases hm : meetsM m l 0
  all_goals
   rw [hm] at CM
   have HM := hid CM
   clear CM hm
   go_enter Tryz.func30, Tryz.ntmps30
   go_wp2_with (with_reducible refine wpList_ldS (n := 4) (us := mC m ad cap) A_mach kR wU wU (by assumption) wU wU ?_)
   refine (HC.out _ R1 L1).mono ?_
   rintro e w1 ⟨rfl, b1⟩
   have hS1 := hS.mono b1
   have q2 := (hS1.blk 0 rfl).1
   clear q1
   go_wp2_with (with_reducible refine wpList_ldS (n := 4) (us := mC m ad cap) A_mach kR wU wU (by assumption) wU wU ?_)
   refine (HM.out _ (hR.below hS1.b) (hL.below hS1.b)).mono ?_
   rintro e w3 ⟨rfl, b3⟩
   have hS3 := hS1.mono b3
   have q3 := (hS3.blk 0 rfl).1
   clear q2
   go_wp2_with (with_reducible refine wpList_ldS (n := 4) (us := mC m ad cap) A_mach kR wU wU (by assumption) wU wU ?_)
   first
    | (go_ret2; exact ⟨_, rfl, own_nil cXS, hS3.b⟩)
    | (refine (HO.out _ (hL.below hS3.b)).mono ?_
       rintro e w4 ⟨v, rfl, ho, b4⟩
       obtain ⟨a4, c4, rfl, hr4, _⟩ := ho.reps
       go_wp2_with fail
       refine (mappedX_any a4 c4 _ _ hr4 hlen).mono ?_
       rintro e w5 ⟨v5, rfl, ho5, b5⟩
       go_wp2_with fail
       go_ret2
       exact ⟨_, rfl, ho5.mono (bnext hS3.b b4).size, bnext hS3.b (bnext b4 b5)⟩)
 ·obtain ⟨E, hE⟩ : ∃ E, E = loadE m l := ⟨_, rfl⟩
  have hv : crossE m l = E := by unfold crossE; rw [if_pos he, hE]
  rw [← hE] at HK he
  have hne : (E != 0) = true := by simpa using he
  rw [hv, if_neg he]
  have HC := hid HK
  clear hv hE HK
  go_enter Tryz.func30, Tryz.ntmps30
  go_wp2_with (with_reducible refine wpList_ldS (n := 4) (us := mC m ad cap) A_mach kR wU wU (by assumption) wU wU ?_)
  refine (HC.out _ R1 L1).mono ?_
  rintro e w1 ⟨rfl, b1⟩
  have hS1 := hS.mono b1
  go_wp2_with fail
  go_ret2
  exact ⟨_, rfl, own_nil cXS, hS1.b⟩
end Go.Proofs.YtglpfpdomnllkaaGreat
