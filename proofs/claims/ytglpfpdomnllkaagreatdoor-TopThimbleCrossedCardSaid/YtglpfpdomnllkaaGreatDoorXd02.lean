/- Contracts and plain facts that the claim uses (PaA PaB PrA SmA SnA RlA). Conditions: as each one states. -/
import Derived.Test.YtglpfpdomnllkaaGreatDoorProg
import Derived.WalkKit
import Derived.WalkSpells
import Derived.Maps.AppendAt
import Derived.Deep.Quiet
import Derived.Maps.Own
import Derived.Maps.OwnSet
import Derived.Maps.Views
import Derived.WalkLawsBesides
import Derived.Laws.EntriesVeiled
import Derived.Deep.QuietTactic
import Derived.BigQuiet
import Derived.Lib.OthersKept
import Derived.Shelf.Strings.Trim
import Derived.Shelf.Strings.SlTrimAscii
import Derived.Shelf.Strings.Repeat
import Derived.Shelf.Strings.OnBuilder
import Derived.Shelf.Strconv.Itoa1
import Derived.Shelf.Strconv.Itoa3
import Derived.Shelf.LaysM
import Derived.Ground.Names2Prog
import Derived.Deep.RegionHeld3
import Derived.Deep.AppendLies
import Derived.Deep.RegionHeldLaw
import Derived.Deep.RegionLaw
import Derived.RangeFuncNested
import Derived.RangeFuncBound
import Derived.RangeFuncCalls
import Derived.RangeFuncLeaves
import Derived.RangeFuncFrom
import Derived.Shelf.Abstract
import Derived.Shelf.RegionOpen
import Derived.OwnWalkIn
import Derived.TacticsInMore
import Derived.LoopNIn
import Derived.LoopIn
import Derived.StillTail
import Derived.Laws.Tables
import Derived.Test.YtglpfpdomnllkaaGreatDoorXd01
set_option linter.all false

namespace Go.Proofs.YtglpfpdomnllkaaGreatDoor
open Go.RowKit
set_option maxHeartbeats 400000
set_option maxRecDepth 100000

structure PassV where
 f : Int
 t : Int
 way : ByteArray
instance : Inhabited PassV := ⟨⟨0, 0, ByteArray.empty⟩⟩
def pass0 : PassV := ⟨0, 0, ByteArray.empty⟩
def cPass (p : PassV) : Value := .agg #[.int .i64 p.f, .int .i64 p.t, .string p.way]
attribute [go_sem] cPass
theorem cPass1 (x : PassV) : cPass x = .agg (cPass x).cells := rfl
theorem cPassS (x : PassV) : (cPass x).cells.size = 3 := rfl
abbrev PassesR (w : World) (a : Option Addr) (cap : Nat) (l : List PassV) : Prop := Reps cPass 3 w a cap l
theorem E_passes : ETy Tryz.prog 32 39 (.agg #[.int .i64 0, .int .i64 0, .string ⟨#[]⟩]) 3 32 := ⟨Tryz.underlying32, by kernel_rfl, rfl, by decide⟩
theorem F_pass : Aggr Tryz.prog 39 := ⟨_, Tryz.underlying39, rfl⟩

def byteAt (s : ByteArray) (k : Nat) : Int := if h : k < s.size then ((s[k]'h).toNat : Int) else 0
theorem byteAt_in {s : ByteArray} {k : Nat} (h : k < s.size) : byteAt s k = ((s[k]'h).toNat : Int) := by simp [byteAt, h]

theorem wpList_nextS {P : Program} {ops : Array Oper} {rest : List Oper} {a : Act} {Q : Exit → Act → World → Prop} {d : Option Tmp} {ty : TypeId} {p : String} {x : Operand} {af : Array Edge} {w : World} (k : Nat) (s : ByteArray) (pos : Nat)
  (hk : w.heap[k]? = some (.stringIter s pos)) (h : pos < s.size) (ha : byteAt s pos < 128) (hx : a.eval x = .pointer (some ⟨k, 0, none⟩))
  (hK : ∀ w', w'.heap[k]? = some (.stringIter s (pos + 1)) → w.grownBy w' (some k) → w.heap.size ≤ w'.heap.size → wpList P ops Q rest (a.put d (.tuple #[.bool true, .int .i64 pos, .int .i32 (byteAt s pos)])) w') :
  wpList P ops Q (⟨d, .next x true, ty, p, af, none⟩ :: rest) a w := by
 refine wpList_plain rfl fun K hK' => ?_
 rw [byteAt_in h] at ha
 have hrun := Lib.run_next_ascii_at (P := P) w k s pos ty hk h (by omega)
 unfold Oper.wp
 simp only [execOp, hx]
 simp [hrun, Result.andThen]
 refine hK' _ _ ?_
 have := hK _ (Lib.iterAt_heap w k s pos (pos + 1) hk) ⟨rfl, rfl, rfl, by rw [Lib.iterAt_size]; exact Nat.le_refl _, fun i _ hi => Lib.iterAt_other w k i s (pos + 1) (by simpa using hi)⟩ (by rw [Lib.iterAt_size]; exact Nat.le_refl _)
 rw [byteAt_in h] at this
 exact this
theorem wpList_endS {P : Program} {ops : Array Oper} {rest : List Oper} {a : Act} {Q : Exit → Act → World → Prop} {d : Option Tmp} {ty : TypeId} {p : String} {x : Operand} {af : Array Edge} {w : World} (k : Nat) (s : ByteArray) (pos : Nat)
  (hk : w.heap[k]? = some (.stringIter s pos)) (h : ¬ pos < s.size) (hx : a.eval x = .pointer (some ⟨k, 0, none⟩))
  (hK : wpList P ops Q rest (a.put d (.tuple #[.bool false])) w) :
  wpList P ops Q (⟨d, .next x true, ty, p, af, none⟩ :: rest) a w := by
 refine wpList_plain rfl fun K hK' => ?_
 have hrun := Lib.run_next_end_at (P := P) w k s pos ty hk h
 unfold Oper.wp
 simp only [execOp, hx]
 simp [hrun, Result.andThen]
 exact hK' _ _ hK

/-- how far a pass goes. -/
def distP (p : PassV) : Int := if p.f ≤ p.t then p.t - p.f else p.f - p.t
theorem distance_any (p : PassV) (w : World) (h1 : 1 ≤ p.f) (h2 : p.f ≤ 12) (h3 : 1 ≤ p.t) (h4 : p.t ≤ 12) :
  Calls Tryz.prog 65 #[.agg #[.int .i64 p.f, .int .i64 p.t, .string p.way]] w fun r w' => r = .returned (.int .i64 (distP p)) ∧ Below w.heap.size w w' := by
 have hmx : max (p.t - p.f) (p.f - p.t) = distP p := by unfold distP; split <;> omega
 go_enter Tryz.func65, Tryz.ntmps65
 go_wp2
 all_goals
  go_ret
  exact ⟨by first | rfl | (rw [show distP p = p.f - p.t by unfold distP; split <;> omega]; rfl) | (rw [show distP p = p.t - p.f by unfold distP; split <;> omega]; rfl) | (rw [← hmx]; rfl) | simp [hmx], bal (Below.refl _ _) _⟩
end Go.Proofs.YtglpfpdomnllkaaGreatDoor

namespace Go.Proofs.YtglpfpdomnllkaaGreatDoor
open Go.RowKit
set_option maxHeartbeats 400000
set_option maxRecDepth 100000

def posOf (w : World) (k : Nat) : Nat := match w.heap[k]? with | some (.stringIter _ p) => p | _ => 0
theorem posOf_eq {w : World} {k p : Nat} {s : ByteArray} (h : w.heap[k]? = some (.stringIter s p)) : posOf w k = p := by simp [posOf, h]

def letterAt (p : PassV) (k : Nat) : Int :=
 if byteAt p.way k == 117 then -(if p.t < p.f then (k : Int) + 1 - p.f else p.f + k) else (if p.t < p.f then (k : Int) + 1 - p.f else p.f + k)
def lettersK (p : PassV) (k : Nat) : List Int := (List.range k).map (letterAt p)
def lettersL (p : PassV) : List Int := lettersK p p.way.size
theorem lettersK_succ (p : PassV) (k : Nat) : lettersK p (k + 1) = lettersK p k ++ [letterAt p k] := by simp [lettersK, List.range_succ]
theorem lettersK_len (p : PassV) (k : Nat) : (lettersK p k).length = k := by simp [lettersK]

theorem letters_any (p : PassV) (w : World) (h1 : 1 ≤ p.f) (h2 : p.f ≤ 12) (h3 : 1 ≤ p.t) (h4 : p.t ≤ 12) (hz : p.way.size ≤ 64) (hA : ∀ k, k < p.way.size → byteAt p.way k < 128) :
  Calls Tryz.prog 34 #[.agg #[.int .i64 p.f, .int .i64 p.t, .string p.way]] w fun r w' => ∃ v, r = .returned v ∧ OwnI w.heap.size w' v (lettersL p) ∧ Below w.heap.size w w' := by
 go_enter Tryz.func34, Tryz.ntmps34
 go_wp2_with fail
 go_loopw [3, 4, 5, 6] (fun v _ _ _ wr => ∃ k : Nat, k ≤ p.way.size ∧ wr.heap[w.heap.size + 1]? = some (.stringIter p.way k) ∧ OwnI (w.heap.size + 2) wr v (lettersK p k) ∧ wr.cell? ⟨w.heap.size, 0, none⟩ = some (.int .i64 p.f) ∧ wr.cell? ⟨w.heap.size, 1, none⟩ = some (.int .i64 p.t) ∧ Below w.heap.size w wr ∧ w.heap.size + 2 ≤ wr.heap.size)
  (fun _ _ _ _ wr => p.way.size - posOf wr (w.heap.size + 1))
 case atStart =>
  refine ⟨0, by omega, ?_, own_nil cIntS, ?_, ?_, ?_, ?_⟩
  ·have := World.iter_heap (w.alloc (.cells #[.int .i64 p.f, .int .i64 p.t, .string p.way] 39)) p.way 0
   simpa using this
  ·simp [World.iter, go_sem]
  ·simp [World.iter, go_sem]
  ·exact bal (bal (Below.refl _ _) _) _
  ·simp [World.iter]
 case round =>
  obtain ⟨k, hk, hit, hO, hc0, hc1, hbr, hsz⟩ := hrel
  have hlen := lettersK_len p k
  have hle : (lettersK p k).length ≤ 64 := by omega
  have HLEN := hid hlen; clear hlen
  have hpos := posOf_eq hit
  have HPOS := hid hpos; clear hpos
  have HIT := hid hit; clear hit
  by_cases hlt : k < p.way.size
  ·have hasc := hA k hlt
   have HASC := hid hasc; clear hasc
   have hsu := lettersK_succ p k
   have HSU := hid hsu; clear hsu
   by_cases hu : byteAt p.way k = 117
   ·have hub : (byteAt p.way k == 117) = true := by rw [hu]; rfl
    have HU := hid hu; clear hu
    by_cases hd : p.t < p.f
    ·have hL : letterAt p k = -((k : Int) + 1 - p.f) := by rw [letterAt, hub, if_pos rfl, if_pos hd]
     have HL := hid hL; clear hL
     go_wp2_with (first | (((with_reducible refine wpList_nextS (w.heap.size + 1) (p.way) (k) (HIT.out) (hlt) (HASC.out) wU ?_); intro w2 hi2 hg2 hs2); have hd0 := hg2.cell hc0 (by simp); have hd1 := hg2.cell hc1 (by simp); have ho2 := hO.kept hg2 (.inr (fun e => by have := (hO.lt _ e).1; omega)); have HI2 := hid hi2; clear hi2) | ((with_reducible refine wpList_app (l := (lettersK p k)) (ys := [(-((k : Int) + 1 - p.f))]) E_ints wU wU ((ho2).alloc _) (reps_new1 cIntS ((-((k : Int) + 1 - p.f))) _ _ (by simp) rfl) cIntO (by simp; omega) (by first | omega | (simp; omega)) (by simp; omega) ?_); intro v3 w3 ho3 hg3 hat3))
     have hb2 := hbr.grown hg2 (by omega) (fun j hj => by cases hj; omega)
     have hi3 : w3.heap[w.heap.size + 1]? = some (.stringIter p.way (k + 1)) := (hg3.block _ (by simp; omega) (fun e => by have := (ho2.lt _ e.symm).1; omega)).trans ((Below.heap_alloc _ _ _ (by omega)).trans HI2.out)
     have q0 := hg3.cell (((Below.refl _ _).alloc (Nat.le_refl _) (.cells #[.int .i64 (-((k : Int) + 1 - p.f))] 3)).cell (p := ⟨w.heap.size, 0, none⟩) (by simp; omega) |>.trans hd0) (fun e => by have := (ho2.lt _ e.symm).1; simp at this; omega)
     have q1 := hg3.cell (((Below.refl _ _).alloc (Nat.le_refl _) (.cells #[.int .i64 (-((k : Int) + 1 - p.f))] 3)).cell (p := ⟨w.heap.size, 1, none⟩) (by simp; omega) |>.trans hd1) (fun e => by have := (ho2.lt _ e.symm).1; simp at this; omega)
     have b3 := below_own' (bal hb2 (.cells #[.int .i64 (-((k : Int) + 1 - p.f))] 3)) hg3 (ho2.alloc _) (by omega) (by simp; omega)
     have z3 := hg3.size
     simp at z3
     exact ⟨⟨k + 1, by omega, hi3, by rw [HSU.out, HL.out]; exact ho3, q0, q1, b3, by omega⟩, by rw [posOf_eq hi3, HPOS.out]; omega⟩
    ·have hL : letterAt p k = -(p.f + (k : Int)) := by rw [letterAt, hub, if_pos rfl, if_neg hd]
     have HL := hid hL; clear hL
     go_wp2_with (first | (((with_reducible refine wpList_nextS (w.heap.size + 1) (p.way) (k) (HIT.out) (hlt) (HASC.out) wU ?_); intro w2 hi2 hg2 hs2); have hd0 := hg2.cell hc0 (by simp); have hd1 := hg2.cell hc1 (by simp); have ho2 := hO.kept hg2 (.inr (fun e => by have := (hO.lt _ e).1; omega)); have HI2 := hid hi2; clear hi2) | ((with_reducible refine wpList_app (l := (lettersK p k)) (ys := [(-(p.f + (k : Int)))]) E_ints wU wU ((ho2).alloc _) (reps_new1 cIntS ((-(p.f + (k : Int)))) _ _ (by simp) rfl) cIntO (by simp; omega) (by first | omega | (simp; omega)) (by simp; omega) ?_); intro v3 w3 ho3 hg3 hat3))
     have hb2 := hbr.grown hg2 (by omega) (fun j hj => by cases hj; omega)
     have hi3 : w3.heap[w.heap.size + 1]? = some (.stringIter p.way (k + 1)) := (hg3.block _ (by simp; omega) (fun e => by have := (ho2.lt _ e.symm).1; omega)).trans ((Below.heap_alloc _ _ _ (by omega)).trans HI2.out)
     have q0 := hg3.cell (((Below.refl _ _).alloc (Nat.le_refl _) (.cells #[.int .i64 (-(p.f + (k : Int)))] 3)).cell (p := ⟨w.heap.size, 0, none⟩) (by simp; omega) |>.trans hd0) (fun e => by have := (ho2.lt _ e.symm).1; simp at this; omega)
     have q1 := hg3.cell (((Below.refl _ _).alloc (Nat.le_refl _) (.cells #[.int .i64 (-(p.f + (k : Int)))] 3)).cell (p := ⟨w.heap.size, 1, none⟩) (by simp; omega) |>.trans hd1) (fun e => by have := (ho2.lt _ e.symm).1; simp at this; omega)
     have b3 := below_own' (bal hb2 (.cells #[.int .i64 (-(p.f + (k : Int)))] 3)) hg3 (ho2.alloc _) (by omega) (by simp; omega)
     have z3 := hg3.size
     simp at z3
     exact ⟨⟨k + 1, by omega, hi3, by rw [HSU.out, HL.out]; exact ho3, q0, q1, b3, by omega⟩, by rw [posOf_eq hi3, HPOS.out]; omega⟩
   ·have hub : (byteAt p.way k == 117) = false := by simpa using hu
    clear hu
    by_cases hd : p.t < p.f
    ·have hL : letterAt p k = ((k : Int) + 1 - p.f) := by rw [letterAt, hub, if_neg (by simp), if_pos hd]
     have HL := hid hL; clear hL
     go_wp2_with (first | (((with_reducible refine wpList_nextS (w.heap.size + 1) (p.way) (k) (HIT.out) (hlt) (HASC.out) wU ?_); intro w2 hi2 hg2 hs2); have hd0 := hg2.cell hc0 (by simp); have hd1 := hg2.cell hc1 (by simp); have ho2 := hO.kept hg2 (.inr (fun e => by have := (hO.lt _ e).1; omega)); have HI2 := hid hi2; clear hi2) | ((with_reducible refine wpList_app (l := (lettersK p k)) (ys := [(((k : Int) + 1 - p.f))]) E_ints wU wU ((ho2).alloc _) (reps_new1 cIntS ((((k : Int) + 1 - p.f))) _ _ (by simp) rfl) cIntO (by simp; omega) (by first | omega | (simp; omega)) (by simp; omega) ?_); intro v3 w3 ho3 hg3 hat3))
     have hb2 := hbr.grown hg2 (by omega) (fun j hj => by cases hj; omega)
     have hi3 : w3.heap[w.heap.size + 1]? = some (.stringIter p.way (k + 1)) := (hg3.block _ (by simp; omega) (fun e => by have := (ho2.lt _ e.symm).1; omega)).trans ((Below.heap_alloc _ _ _ (by omega)).trans HI2.out)
     have q0 := hg3.cell (((Below.refl _ _).alloc (Nat.le_refl _) (.cells #[.int .i64 (((k : Int) + 1 - p.f))] 3)).cell (p := ⟨w.heap.size, 0, none⟩) (by simp; omega) |>.trans hd0) (fun e => by have := (ho2.lt _ e.symm).1; simp at this; omega)
     have q1 := hg3.cell (((Below.refl _ _).alloc (Nat.le_refl _) (.cells #[.int .i64 (((k : Int) + 1 - p.f))] 3)).cell (p := ⟨w.heap.size, 1, none⟩) (by simp; omega) |>.trans hd1) (fun e => by have := (ho2.lt _ e.symm).1; simp at this; omega)
     have b3 := below_own' (bal hb2 (.cells #[.int .i64 (((k : Int) + 1 - p.f))] 3)) hg3 (ho2.alloc _) (by omega) (by simp; omega)
     have z3 := hg3.size
     simp at z3
     exact ⟨⟨k + 1, by omega, hi3, by rw [HSU.out, HL.out]; exact ho3, q0, q1, b3, by omega⟩, by rw [posOf_eq hi3, HPOS.out]; omega⟩
    ·have hL : letterAt p k = (p.f + (k : Int)) := by rw [letterAt, hub, if_neg (by simp), if_neg hd]
     have HL := hid hL; clear hL
     go_wp2_with (first | (((with_reducible refine wpList_nextS (w.heap.size + 1) (p.way) (k) (HIT.out) (hlt) (HASC.out) wU ?_); intro w2 hi2 hg2 hs2); have hd0 := hg2.cell hc0 (by simp); have hd1 := hg2.cell hc1 (by simp); have ho2 := hO.kept hg2 (.inr (fun e => by have := (hO.lt _ e).1; omega)); have HI2 := hid hi2; clear hi2) | ((with_reducible refine wpList_app (l := (lettersK p k)) (ys := [((p.f + (k : Int)))]) E_ints wU wU ((ho2).alloc _) (reps_new1 cIntS (((p.f + (k : Int)))) _ _ (by simp) rfl) cIntO (by simp; omega) (by first | omega | (simp; omega)) (by simp; omega) ?_); intro v3 w3 ho3 hg3 hat3))
     have hb2 := hbr.grown hg2 (by omega) (fun j hj => by cases hj; omega)
     have hi3 : w3.heap[w.heap.size + 1]? = some (.stringIter p.way (k + 1)) := (hg3.block _ (by simp; omega) (fun e => by have := (ho2.lt _ e.symm).1; omega)).trans ((Below.heap_alloc _ _ _ (by omega)).trans HI2.out)
     have q0 := hg3.cell (((Below.refl _ _).alloc (Nat.le_refl _) (.cells #[.int .i64 ((p.f + (k : Int)))] 3)).cell (p := ⟨w.heap.size, 0, none⟩) (by simp; omega) |>.trans hd0) (fun e => by have := (ho2.lt _ e.symm).1; simp at this; omega)
     have q1 := hg3.cell (((Below.refl _ _).alloc (Nat.le_refl _) (.cells #[.int .i64 ((p.f + (k : Int)))] 3)).cell (p := ⟨w.heap.size, 1, none⟩) (by simp; omega) |>.trans hd1) (fun e => by have := (ho2.lt _ e.symm).1; simp at this; omega)
     have b3 := below_own' (bal hb2 (.cells #[.int .i64 ((p.f + (k : Int)))] 3)) hg3 (ho2.alloc _) (by omega) (by simp; omega)
     have z3 := hg3.size
     simp at z3
     exact ⟨⟨k + 1, by omega, hi3, by rw [HSU.out, HL.out]; exact ho3, q0, q1, b3, by omega⟩, by rw [posOf_eq hi3, HPOS.out]; omega⟩
  ·have : k = p.way.size := by omega
   subst this
   go_wp2_with (with_reducible refine wpList_endS (w.heap.size + 1) (p.way) (p.way.size) (HIT.out) (hlt) wU ?_)
   go_ret
   exact ⟨_, rfl, hO.mono (by omega), hbr⟩
end Go.Proofs.YtglpfpdomnllkaaGreatDoor

namespace Go.Proofs.YtglpfpdomnllkaaGreatDoor
open Go.RowKit
set_option maxHeartbeats 400000
set_option maxRecDepth 100000

end Go.Proofs.YtglpfpdomnllkaaGreatDoor

namespace Go.Proofs.YtglpfpdomnllkaaGreatDoor
open Go.RowKit
set_option maxHeartbeats 1000000
set_option maxRecDepth 100000

def whenV (b : Bool) (e : Int) : Int := if b then e else 0
@[go_sem] theorem whenV_true (e : Int) : whenV true e = e := rfl
@[go_sem] theorem whenV_false (e : Int) : whenV false e = 0 := rfl
theorem whenV_any (b : Bool) (e : Int) (w : World) :
  Calls Tryz.prog 63 #[.bool b, .int .i64 e] w fun r w' => r = .returned (.int .i64 (whenV b e)) ∧ w = w' := when_any b e w
def firstV (l : List Int) : Int := firstE l
theorem firstV_any (a : Option Addr) (cap : Nat) (l : List Int) (w : World) (h : Ints w a cap l) :
  Calls Tryz.prog 62 #[.slice a l.length cap] w fun r w' => r = .returned (.int .i64 (firstV l)) ∧ w = w' := first_any a cap l w h
theorem bytes_empty (x : ByteArray) : x.toList.isEmpty = decide (x = ⟨#[]⟩) := by
 rw [Bool.eq_iff_iff, List.isEmpty_iff, decide_eq_true_iff, ByteArray.toList_eq]
 constructor
 ·intro h
  have := Array.toList_eq_nil_iff.1 h
  cases x; simp_all
 ·rintro rfl; rfl

theorem pass_eql (f t : Int) (y : ByteArray) (w : World) : (binOp .eql 39 (.agg #[.int .i64 f, .int .i64 t, .string y]) (.agg #[.int .i64 f, .int .i64 f, .string y])).run Tryz.prog w = .ok (.bool (t == f)) w := by
 by_cases h : t = f
 ·subst h; simp [go_sem]
 ·have : (t == f) = false := by simpa using h
  rw [this]; simp [go_sem, h]
attribute [local go_sem ↓] pass_eql

theorem distanceW_any (p : PassV) (w : World) :
  Calls Tryz.prog 65 #[.agg #[.int .i64 p.f, .int .i64 p.t, .string p.way]] w fun r w' => ∃ d : Int, r = .returned (.int .i64 d) ∧ Below w.heap.size w w' := by
 go_enter Tryz.func65, Tryz.ntmps65
 go_wp2
 all_goals
  go_ret
  exact ⟨_, rfl, bal (Below.refl _ _) _⟩

/-- what is left of a text of ways. -/
def trimOU (s : ByteArray) : ByteArray := ⟨(Lib.trimS s.data.toList [111, 117]).toArray⟩
theorem trimOU_any (s : ByteArray) (w : World) (hs : s.size ≤ 9223372036854775807) :
  Calls Tryz.prog 64 #[.string s, .string ⟨#[111, 117]⟩] w fun e w' => e = .returned (.string (trimOU s)) ∧ Below w.heap.size w w' :=
 Any.strings_Trim_laid Tryz.lays160 kR s ⟨#[111, 117]⟩ w hs (by decide) (ascii_of_all (by decide))

/-- the error of a pass. -/
def passE (n : Int) (p : PassV) : Int :=
 if p.f < 1 ∨ p.t < 1 ∨ n < p.f ∨ n < p.t then 3 else if p.t = p.f then 9 else if (p.way.size : Int) ≠ distP p then 2 else if trimOU p.way ≠ ⟨#[]⟩ then 1 else 0
theorem passE_first (n : Int) (p : PassV) (h1 : 1 ≤ p.f) (h2 : 1 ≤ p.t) (h3 : p.f ≤ n) (h4 : p.t ≤ n) :
  passE n p = firstV [0, whenV (p.t == p.f) 9, whenV ((p.way.size : Int) != distP p) 2, whenV (!(trimOU p.way).toList.isEmpty) 1] := by
 unfold passE firstV whenV
 rw [if_neg (by omega), bytes_empty]
 simp only [firstE_cons, firstE_nil]
 by_cases a1 : p.t = p.f <;> by_cases a2 : (p.way.size : Int) = distP p <;> by_cases a3 : trimOU p.way = ⟨#[]⟩ <;> simp [a1, a2, a3]
def passesGo (n : Int) : List PassV → Int
 | [] => 0
 | p :: r => if passE n p ≠ 0 then passE n p else passesGo n r
def passesE (n : Int) (l : List PassV) : Int := if n < 2 ∨ 12 < n then 3 else if 1000 < l.length then 5 else passesGo n l

theorem passesGo_step (n : Int) (l : List PassV) (k : Nat) (h : k < l.length) : passesGo n (l.drop k) = if passE n (atD pass0 l k) ≠ 0 then passE n (atD pass0 l k) else passesGo n (l.drop (k + 1)) := by
 have e2 : atD pass0 l k = l[k] := by simp [atD, h]
 rw [List.drop_eq_getElem_cons h, passesGo, e2]

theorem held_below {H H0 : Nat} {p : PassV} {w0 W W' : World} (h : W.cell? ⟨H, 0, none⟩ = some (.int .i64 p.f) ∧ W.cell? ⟨H, 1, none⟩ = some (.int .i64 p.t) ∧ W.cell? ⟨H, 2, none⟩ = some (.string p.way) ∧ Below H0 w0 W ∧ H < H0 ∧ H0 ≤ W.heap.size) (hb : Below W.heap.size W W') :
  W'.cell? ⟨H, 0, none⟩ = some (.int .i64 p.f) ∧ W'.cell? ⟨H, 1, none⟩ = some (.int .i64 p.t) ∧ W'.cell? ⟨H, 2, none⟩ = some (.string p.way) ∧ Below H0 w0 W' ∧ H < H0 ∧ H0 ≤ W'.heap.size := by
 obtain ⟨h1, h2, h3, h4, h5, h6⟩ := h
 have hz := hb.size
 exact ⟨(hb.cell (by show H < _; omega)).trans h1, (hb.cell (by show H < _; omega)).trans h2, (hb.cell (by show H < _; omega)).trans h3, h4.trans (hb.mono h6), h5, by omega⟩
theorem held_alloc {H H0 : Nat} {p : PassV} {w0 W : World} (h : W.cell? ⟨H, 0, none⟩ = some (.int .i64 p.f) ∧ W.cell? ⟨H, 1, none⟩ = some (.int .i64 p.t) ∧ W.cell? ⟨H, 2, none⟩ = some (.string p.way) ∧ Below H0 w0 W ∧ H < H0 ∧ H0 ≤ W.heap.size) (o : Obj) :
  (W.alloc o).cell? ⟨H, 0, none⟩ = some (.int .i64 p.f) ∧ (W.alloc o).cell? ⟨H, 1, none⟩ = some (.int .i64 p.t) ∧ (W.alloc o).cell? ⟨H, 2, none⟩ = some (.string p.way) ∧ Below H0 w0 (W.alloc o) ∧ H < H0 ∧ H0 ≤ (W.alloc o).heap.size :=
 held_below h ((Below.refl _ _).alloc (Nat.le_refl _) o)
theorem held_drew {H H0 : Nat} {p : PassV} {w0 W : World} (h : W.cell? ⟨H, 0, none⟩ = some (.int .i64 p.f) ∧ W.cell? ⟨H, 1, none⟩ = some (.int .i64 p.t) ∧ W.cell? ⟨H, 2, none⟩ = some (.string p.way) ∧ Below H0 w0 W ∧ H < H0 ∧ H0 ≤ W.heap.size) :
  W.drew.cell? ⟨H, 0, none⟩ = some (.int .i64 p.f) ∧ W.drew.cell? ⟨H, 1, none⟩ = some (.int .i64 p.t) ∧ W.drew.cell? ⟨H, 2, none⟩ = some (.string p.way) ∧ Below H0 w0 W.drew ∧ H < H0 ∧ H0 ≤ W.drew.heap.size :=
 held_below h (Below.refl _ _).drew
theorem held_start {H : Nat} {p : PassV} {wr w2 : World} {o : Obj} (hH : wr.heap.size = H) (ho : o = .cells #[.int .i64 p.f, .int .i64 p.t, .string p.way] 39) (hb : Below (wr.alloc o).heap.size (wr.alloc o) w2) :
  w2.cell? ⟨H, 0, none⟩ = some (.int .i64 p.f) ∧ w2.cell? ⟨H, 1, none⟩ = some (.int .i64 p.t) ∧ w2.cell? ⟨H, 2, none⟩ = some (.string p.way) ∧ Below (H + 1) w2 w2 ∧ H < H + 1 ∧ H + 1 ≤ w2.heap.size := by
 subst hH; subst ho
 have hz := hb.size
 simp at hz
 refine ⟨(hb.cell (by simp)).trans ?_, (hb.cell (by simp)).trans ?_, (hb.cell (by simp)).trans ?_, Below.refl _ _, by omega, hz⟩ <;> simp [go_sem]

theorem held_end {H H0 : Nat} {p : PassV} {w wr w2 W : World} {o : Obj} (hH : wr.heap.size = H) (hbr : Below w.heap.size w wr) (hb2 : Below (wr.alloc o).heap.size (wr.alloc o) w2) (h : W.cell? ⟨H, 0, none⟩ = some (.int .i64 p.f) ∧ W.cell? ⟨H, 1, none⟩ = some (.int .i64 p.t) ∧ W.cell? ⟨H, 2, none⟩ = some (.string p.way) ∧ Below H0 w2 W ∧ H < H0 ∧ H0 ≤ W.heap.size) : Below w.heap.size w W := by
 have hz := hbr.size
 exact (bnext (bal hbr o) hb2).trans (h.2.2.2.1.mono (by omega))

theorem CheckPasses_any (n : Int) (a : Option Addr) (cap : Nat) (l : List PassV) (w : World) (hS : PassesR w a cap l) (hl : l.length ≤ 1048576) (hw : ∀ p ∈ l, p.way.size ≤ 1048576) :
  Calls Tryz.prog 33 #[.int .i64 n, .slice a l.length cap] w fun r w' => r = .returned (.int .i64 (passesE n l)) ∧ Below w.heap.size w w' := by
 have hcap := hS.le
 have hm := hS.max
 by_cases h1 : n < 2
 ·have e : passesE n l = 3 := by unfold passesE; rw [if_pos (.inl h1)]
  rw [e]
  clear e
  go_enter Tryz.func33, Tryz.ntmps33
  go_wp2_with (first | (go_at_call 63; refine (when_any _ _ _).mono ?_; rintro e w' ⟨rfl, rfl⟩) | (go_at_call 62; refine (first_any _ _ [_, _] _ (reps_newN cIntS [_, _] 2 rfl (by decide) _ _ (by simp) rfl)).mono ?_; rintro e w' ⟨rfl, rfl⟩))
  all_goals
   go_ret
   exact ⟨rfl, bal (Below.refl _ _) _⟩
 by_cases h2 : 12 < n
 ·have e : passesE n l = 3 := by unfold passesE; rw [if_pos (.inr h2)]
  rw [e]
  clear e
  go_enter Tryz.func33, Tryz.ntmps33
  go_wp2_with (first | (go_at_call 63; refine (when_any _ _ _).mono ?_; rintro e w' ⟨rfl, rfl⟩) | (go_at_call 62; refine (first_any _ _ [_, _] _ (reps_newN cIntS [_, _] 2 rfl (by decide) _ _ (by simp) rfl)).mono ?_; rintro e w' ⟨rfl, rfl⟩))
  all_goals
   go_ret
   exact ⟨rfl, bal (Below.refl _ _) _⟩
 by_cases h3 : 1000 < l.length
 ·have e : passesE n l = 5 := by unfold passesE; rw [if_neg (by omega), if_pos h3]
  rw [e]
  clear e
  go_enter Tryz.func33, Tryz.ntmps33
  go_wp2_with (first | (go_at_call 63; refine (when_any _ _ _).mono ?_; rintro e w' ⟨rfl, rfl⟩) | (go_at_call 62; refine (first_any _ _ [_, _] _ (reps_newN cIntS [_, _] 2 rfl (by decide) _ _ (by simp) rfl)).mono ?_; rintro e w' ⟨rfl, rfl⟩))
  all_goals
   go_ret
   exact ⟨rfl, bal (Below.refl _ _) _⟩
 have e : passesE n l = passesGo n l := by unfold passesE; rw [if_neg (by omega), if_neg h3]
 have HE := hid e; clear e
 have HW := hid hw; clear hw
 go_enter Tryz.func33, Tryz.ntmps33
 go_wp2_with (first | (go_at_call 63; refine (when_any _ _ _).mono ?_; rintro e w' ⟨rfl, rfl⟩) | (go_at_call 62; refine (first_any _ _ [_, _] _ (reps_newN cIntS [_, _] 2 rfl (by decide) _ _ (by simp) rfl)).mono ?_; rintro e w' ⟨rfl, rfl⟩))
 go_loopw [7, 8, 9, 10, 29] (fun _ _ _ _ i wr => ∃ k : Nat, k ≤ l.length ∧ i = .int .i64 k ∧ passesGo n (l.drop k) = passesE n l ∧ Below w.heap.size w wr) (fun _ _ _ _ i _ => l.length - (intOf i).toNat)
 case atStart => exact ⟨0, by omega, rfl, HE.out.symm, bal (Below.refl _ _) _⟩
 case round =>
  obtain ⟨k, hk, rfl, hf, hbr⟩ := hrel
  have hSr := hS.below hbr
  by_cases hlt : k < l.length
  ·have hs := passesGo_step n l k hlt
   rw [hf] at hs
   have hwy := HW.out (atD pass0 l k) (by simp [atD, hlt])
   have HS := hid hs; clear hs hf
   obtain ⟨q, hq⟩ : ∃ q, ((atD pass0 l k).t == (atD pass0 l k).f) = q := ⟨_, rfl⟩
   by_cases b1 : min (atD pass0 l k).f (atD pass0 l k).t < 1
   ·have hE : passE n (atD pass0 l k) = 3 := by unfold passE; rw [if_pos (by omega)]
    have HE2 := hid hE; clear hE
    have hF : ∀ x y z, firstV [3, x, y, z] = 3 := fun _ _ _ => rfl
    go_wp2_with (first | (with_reducible refine wpList_idxS _ pass0 E_passes F_pass cPass1 wU wU (hSr) oD oD (fun _ => wU) (fun _ => ?_)) | (go_at_call 64; refine (trimOU_any _ _ (by omega)).mono ?_; rintro e w2 ⟨rfl, hb2⟩))
    have hst := held_start (p := atD pass0 l k) (wr := wr) rfl rfl hb2
    go_region_held3 (fun W => W.cell? ⟨wr.heap.size, 0, none⟩ = some (.int .i64 (atD pass0 l k).f) ∧ W.cell? ⟨wr.heap.size, 1, none⟩ = some (.int .i64 (atD pass0 l k).t) ∧ W.cell? ⟨wr.heap.size, 2, none⟩ = some (.string (atD pass0 l k).way) ∧ Below (wr.heap.size + 1) w2 W ∧ wr.heap.size < wr.heap.size + 1 ∧ wr.heap.size + 1 ≤ W.heap.size)
      (first | assumption | exact held_alloc ‹_› _ | exact held_drew ‹_› | exact held_below ‹_› ‹_›)
      (first | (go_at_call 63; refine (whenV_any _ _ _).mono ?_; rintro e w' ⟨rfl, rfl⟩) | (go_at_call 65; refine (distanceW_any (atD pass0 l k) _).mono ?_; rintro e w5 ⟨d5, rfl, hb5⟩) | (go_at_call 62; refine (firstV_any _ _ [_, _, _, _] _ (reps_newN cIntS [_, _, _, _] 4 rfl (by decide) _ _ (by simp) rfl)).mono ?_; rintro e w' ⟨rfl, rfl⟩))
    clear hst
    have hb9 := held_end (p := atD pass0 l k) rfl hbr hb2 ‹_›
    go_wp2_with fail
    go_ret
    exact ⟨by have := HS.out; rw [HE2.out, if_pos (by omega)] at this; rw [this]; rfl, hb9⟩
   by_cases b2 : n < max (atD pass0 l k).f (atD pass0 l k).t
   ·have hE : passE n (atD pass0 l k) = 3 := by unfold passE; rw [if_pos (by omega)]
    have HE2 := hid hE; clear hE
    have hF : ∀ x y z, firstV [3, x, y, z] = 3 := fun _ _ _ => rfl
    go_wp2_with (first | (with_reducible refine wpList_idxS _ pass0 E_passes F_pass cPass1 wU wU (hSr) oD oD (fun _ => wU) (fun _ => ?_)) | (go_at_call 64; refine (trimOU_any _ _ (by omega)).mono ?_; rintro e w2 ⟨rfl, hb2⟩))
    have hst := held_start (p := atD pass0 l k) (wr := wr) rfl rfl hb2
    go_region_held3 (fun W => W.cell? ⟨wr.heap.size, 0, none⟩ = some (.int .i64 (atD pass0 l k).f) ∧ W.cell? ⟨wr.heap.size, 1, none⟩ = some (.int .i64 (atD pass0 l k).t) ∧ W.cell? ⟨wr.heap.size, 2, none⟩ = some (.string (atD pass0 l k).way) ∧ Below (wr.heap.size + 1) w2 W ∧ wr.heap.size < wr.heap.size + 1 ∧ wr.heap.size + 1 ≤ W.heap.size)
      (first | assumption | exact held_alloc ‹_› _ | exact held_drew ‹_› | exact held_below ‹_› ‹_›)
      (first | (go_at_call 63; refine (whenV_any _ _ _).mono ?_; rintro e w' ⟨rfl, rfl⟩) | (go_at_call 65; refine (distanceW_any (atD pass0 l k) _).mono ?_; rintro e w5 ⟨d5, rfl, hb5⟩) | (go_at_call 62; refine (firstV_any _ _ [_, _, _, _] _ (reps_newN cIntS [_, _, _, _] 4 rfl (by decide) _ _ (by simp) rfl)).mono ?_; rintro e w' ⟨rfl, rfl⟩))
    clear hst
    have hb9 := held_end (p := atD pass0 l k) rfl hbr hb2 ‹_›
    go_wp2_with fail
    go_ret
    exact ⟨by have := HS.out; rw [HE2.out, if_pos (by omega)] at this; rw [this]; rfl, hb9⟩
   have hP := passE_first n (atD pass0 l k) (by omega) (by omega) (by omega) (by omega)
   rw [hq] at hP
   by_cases hE : passE n (atD pass0 l k) = 0
   ·have HE2 := hid hE
    rw [hE] at hP
    have hF := hP.symm
    clear hP hE
    go_wp2_with (first | (with_reducible refine wpList_idxS _ pass0 E_passes F_pass cPass1 wU wU (hSr) oD oD (fun _ => wU) (fun _ => ?_)) | (go_at_call 64; refine (trimOU_any _ _ (by omega)).mono ?_; rintro e w2 ⟨rfl, hb2⟩))
    have hst := held_start (p := atD pass0 l k) (wr := wr) rfl rfl hb2
    go_region_held3 (fun W => W.cell? ⟨wr.heap.size, 0, none⟩ = some (.int .i64 (atD pass0 l k).f) ∧ W.cell? ⟨wr.heap.size, 1, none⟩ = some (.int .i64 (atD pass0 l k).t) ∧ W.cell? ⟨wr.heap.size, 2, none⟩ = some (.string (atD pass0 l k).way) ∧ Below (wr.heap.size + 1) w2 W ∧ wr.heap.size < wr.heap.size + 1 ∧ wr.heap.size + 1 ≤ W.heap.size)
      (first | assumption | exact held_alloc ‹_› _ | exact held_drew ‹_› | exact held_below ‹_› ‹_›)
      (first | (go_at_call 63; refine (whenV_any _ _ _).mono ?_; rintro e w' ⟨rfl, rfl⟩) | (go_at_call 65; refine (distance_any (atD pass0 l k) _ (by omega) (by omega) (by omega) (by omega)).mono ?_; rintro e w5 ⟨rfl, hb5⟩) | (go_at_call 62; refine (firstV_any _ _ [_, _, _, _] _ (reps_newN cIntS [_, _, _, _] 4 rfl (by decide) _ _ (by simp) rfl)).mono ?_; rintro e w' ⟨rfl, rfl⟩))
    clear hst
    have hb9 := held_end (p := atD pass0 l k) rfl hbr hb2 ‹_›
    go_wp2_with fail
    exact ⟨⟨k + 1, by omega, by go_num, by have := HS.out; rw [HE2.out] at this; exact this.symm, hb9⟩, by simp [intOf]; omega⟩
   ·obtain ⟨E, hEd⟩ : ∃ E, E = passE n (atD pass0 l k) := ⟨_, rfl⟩
    rw [← hEd] at hP hE
    have hF := hP.symm
    have hne : (E != 0) = true := by simpa using hE
    have HE2 := hid hEd.symm
    clear hP hEd
    go_wp2_with (first | (with_reducible refine wpList_idxS _ pass0 E_passes F_pass cPass1 wU wU (hSr) oD oD (fun _ => wU) (fun _ => ?_)) | (go_at_call 64; refine (trimOU_any _ _ (by omega)).mono ?_; rintro e w2 ⟨rfl, hb2⟩))
    have hst := held_start (p := atD pass0 l k) (wr := wr) rfl rfl hb2
    go_region_held3 (fun W => W.cell? ⟨wr.heap.size, 0, none⟩ = some (.int .i64 (atD pass0 l k).f) ∧ W.cell? ⟨wr.heap.size, 1, none⟩ = some (.int .i64 (atD pass0 l k).t) ∧ W.cell? ⟨wr.heap.size, 2, none⟩ = some (.string (atD pass0 l k).way) ∧ Below (wr.heap.size + 1) w2 W ∧ wr.heap.size < wr.heap.size + 1 ∧ wr.heap.size + 1 ≤ W.heap.size)
      (first | assumption | exact held_alloc ‹_› _ | exact held_drew ‹_› | exact held_below ‹_› ‹_›)
      (first | (go_at_call 63; refine (whenV_any _ _ _).mono ?_; rintro e w' ⟨rfl, rfl⟩) | (go_at_call 65; refine (distance_any (atD pass0 l k) _ (by omega) (by omega) (by omega) (by omega)).mono ?_; rintro e w5 ⟨rfl, hb5⟩) | (go_at_call 62; refine (firstV_any _ _ [_, _, _, _] _ (reps_newN cIntS [_, _, _, _] 4 rfl (by decide) _ _ (by simp) rfl)).mono ?_; rintro e w' ⟨rfl, rfl⟩))
    clear hst
    have hb9 := held_end (p := atD pass0 l k) rfl hbr hb2 ‹_›
    go_wp2_with fail
    go_ret
    exact ⟨by have := HS.out; rw [HE2.out, if_pos (by omega)] at this; rw [this]; rfl, hb9⟩
  ·have : k = l.length := by omega
   subst this
   rw [List.drop_length] at hf
   have HF := hid hf; clear hf
   go_wp2_with fail
   go_ret
   exact ⟨by rw [← HF.out]; rfl, hbr⟩
end Go.Proofs.YtglpfpdomnllkaaGreatDoor

namespace Go.Proofs.YtglpfpdomnllkaaGreatDoor
open Go.RowKit
set_option maxHeartbeats 1000000
set_option maxRecDepth 100000

theorem dropWhile_nil_all {α : Type} (q : α → Bool) : ∀ l : List α, l.dropWhile q = [] → ∀ x ∈ l, q x = true
 | [], _ => by simp
 | x :: r, h => by
   rw [List.dropWhile_cons] at h
   split at h
   · next hx =>
     intro y hy
     rcases List.mem_cons.1 hy with rfl | hy
     · exact hx
     · exact dropWhile_nil_all q r h y hy
   · cases h
theorem trimS_nil {l cs : List UInt8} (h : Lib.trimS l cs = []) : ∀ x ∈ l, cs.contains x = true := by
 unfold Lib.trimS Lib.trimLeftS at h
 have h1 := dropWhile_nil_all _ _ h
 unfold Lib.trimRightS at h1 h
 generalize hd : l.reverse.dropWhile (cs.contains ·) = d at *
 match d, hd with
 | [], hd => intro x hx; exact dropWhile_nil_all _ _ hd x (by simpa using hx)
 | y :: r, hd =>
  exfalso
  have hy : cs.contains y = true := h1 y (by simp)
  have := List.head?_dropWhile_not (cs.contains ·) l.reverse
  rw [hd] at this
  simp at this
  simp at hy
  exact this hy
theorem trimOU_nil {s : ByteArray} (h : trimOU s = ⟨#[]⟩) : ∀ k, k < s.size → byteAt s k = 111 ∨ byteAt s k = 117 := by
 intro k hk
 have h1 : Lib.trimS s.data.toList [111, 117] = [] := by
  unfold trimOU at h
  injection h with h
  simpa using h
 have h2 := trimS_nil h1 (s[k]'hk) (by rw [ByteArray.getElem_eq_getElem_data]; simp)
 rw [byteAt_in hk]
 simp at h2
 rcases h2 with h2 | h2 <;> rw [h2] <;> simp

theorem passesGo_zero {n : Int} : ∀ {l : List PassV}, passesGo n l = 0 → ∀ p ∈ l, passE n p = 0
 | [], _ => by simp
 | p :: r, h => by
   rw [passesGo] at h
   split at h
   · next h1 => exact absurd h h1
   · next h1 =>
     intro q hq
     rcases List.mem_cons.1 hq with rfl | hq
     · simpa using h1
     · exact passesGo_zero h q hq
theorem passE_zero {n : Int} {p : PassV} (h : passE n p = 0) : 1 ≤ p.f ∧ p.f ≤ n ∧ 1 ≤ p.t ∧ p.t ≤ n ∧ p.t ≠ p.f ∧ (p.way.size : Int) = distP p ∧ ∀ k, k < p.way.size → byteAt p.way k = 111 ∨ byteAt p.way k = 117 := by
 unfold passE at h
 split at h
 ·omega
 ·split at h
  ·omega
  ·split at h
   ·omega
   ·split at h
    ·omega
    ·next h1 h2 h3 h4 => exact ⟨by omega, by omega, by omega, by omega, h2, by omega, trimOU_nil (by simpa using h4)⟩
theorem passesE_zero {n : Int} {l : List PassV} (h : passesE n l = 0) : 2 ≤ n ∧ n ≤ 12 ∧ l.length ≤ 1000 ∧ ∀ p ∈ l, passE n p = 0 := by
 unfold passesE at h
 split at h
 ·omega
 ·split at h
  ·omega
  ·exact ⟨by omega, by omega, by omega, passesGo_zero h⟩
theorem passE_small {n : Int} {p : PassV} (hn : n ≤ 12) (h : passE n p = 0) : p.f ≤ 12 ∧ p.t ≤ 12 ∧ p.way.size ≤ 11 ∧ ∀ k, k < p.way.size → byteAt p.way k < 128 := by
 obtain ⟨h1, h2, h3, h4, h5, h6, h7⟩ := passE_zero h
 refine ⟨by omega, by omega, ?_, fun k hk => by have := h7 k hk; omega⟩
 unfold distP at h6
 split at h6 <;> omega

def lettersAll (l : List PassV) : List Int := l.flatMap lettersL
theorem lettersL_len (p : PassV) : (lettersL p).length = p.way.size := lettersK_len p _
theorem lettersAll_step (l : List PassV) (k : Nat) (h : k < l.length) : lettersAll (l.take (k + 1)) = lettersAll (l.take k) ++ lettersL (atD pass0 l k) := by
 have e2 : atD pass0 l k = l[k] := by simp [atD, h]
 unfold lettersAll
 rw [List.take_succ_eq_append_getElem h, e2, List.flatMap_append, List.flatMap_singleton]
end Go.Proofs.YtglpfpdomnllkaaGreatDoor

namespace Go.Proofs.YtglpfpdomnllkaaGreatDoor
open Go.RowKit
set_option maxHeartbeats 1000000
set_option maxRecDepth 100000

/-- A row in block R: its strands and its crossings, both in blocks from B on. -/
def RowAt (w : World) (R B : Nat) (st : List Int) (cr : List (Int × Int)) : Prop :=
 ∃ g cap vc, w.heap[R]? = some (.cells #[.slice (some ⟨g, 0, none⟩) st.length cap, vc] 67 (0, 0)) ∧ OwnI B w (.slice (some ⟨g, 0, none⟩) st.length cap) st ∧ OwnP B 36 w vc cr ∧ vc.ownBlock ≠ some g ∧ R < B
theorem info_cross : (Tryz.prog.info? 36).map (fun i => (i.zero, i.size, i.bytes)) = some (some (.agg #[.int .i64 0, .int .i64 0]), 2, 16) := by kernel_rfl

/-- two neighbours exchanged. -/
def swapL (st : List Int) (k : Int) : List Int := (st.set (k - 1).toNat (atD 0 st k)).set k.toNat (atD 0 st (k - 1))
def crossOf (st : List Int) (x : Int) : Int × Int := if x < 0 then (atD 0 st (absI x), atD 0 st (absI x - 1)) else (atD 0 st (absI x - 1), atD 0 st (absI x))
theorem write_mid {W w3 : World} {o : Obj} {R B g gg cap cp : Nat} {vc : Value} {st : List Int} {cr : List (Int × Int)} {x y : Int}
  (hrow : W.heap[R]? = some (.cells #[.slice (some ⟨g, 0, none⟩) st.length cap, vc] 67 (0, 0))) (hO : OwnI B W (.slice (some ⟨g, 0, none⟩) st.length cap) st) (hsep : vc.ownBlock ≠ some g) (hR : R < B) (hB : B ≤ W.heap.size) (hCW : OwnP B 36 W vc cr)
  (hg : ((W.alloc o).drew).grownBy w3 vc.ownBlock) (hown3 : w3.ownsRow B 36 2 (.slice (some ⟨gg, 0, none⟩) (cr.length + 1) cp) (cr.length + 1) ((cr.flatMap fun x => (cPair x).cells.toList) ++ [.int .i64 x, .int .i64 y])) (hat : vc.ownBlock = some gg ∨ gg = W.heap.size + 1) :
  (w3.setCell ⟨R, 1, none⟩ (.slice (some ⟨gg, 0, none⟩) (cr.length + 1) cp)).heap[R]? = some (.cells #[.slice (some ⟨g, 0, none⟩) st.length cap, .slice (some ⟨gg, 0, none⟩) (cr.length + 1) cp] 67 (0, 0)) ∧
  OwnI B (w3.setCell ⟨R, 1, none⟩ (.slice (some ⟨gg, 0, none⟩) (cr.length + 1) cp)) (.slice (some ⟨g, 0, none⟩) st.length cap) st ∧
  OwnP B 36 (w3.setCell ⟨R, 1, none⟩ (.slice (some ⟨gg, 0, none⟩) (cr.length + 1) cp)) (.slice (some ⟨gg, 0, none⟩) (cr.length + 1) cp) (cr ++ [(x, y)]) ∧ gg ≠ g ∧
  Below R W (w3.setCell ⟨R, 1, none⟩ (.slice (some ⟨gg, 0, none⟩) (cr.length + 1) cp)) := by
 have hvR : vc.ownBlock ≠ some R := fun e => by have := (hCW.lt _ e).1; omega
 have hRl : R < W.heap.size := by omega
 have hgl := hO.lt g rfl
 have hb0 : Below W.heap.size W ((W.alloc o).drew) := ((Below.refl _ _).alloc (Nat.le_refl _) _).drew
 have hr3 : w3.heap[R]? = some (.cells #[.slice (some ⟨g, 0, none⟩) st.length cap, vc] 67 (0, 0)) :=
  (hg.block R (by show R < ((W.alloc o)).heap.size; simp; omega) (Ne.symm hvR)).trans ((hb0.block R hRl).trans hrow)
 refine ⟨?_, ?_, ?_, ?_, ?_⟩
 ·rw [heap_setCell_same w3 R 1 _ _ _ hr3]; rfl
 ·have h1 : OwnI B w3 (.slice (some ⟨g, 0, none⟩) st.length cap) st := ((hO.alloc o).drew).kept hg (.inr (fun e => hsep e.symm))
  exact ⟨h1.1, ownsRow_setCell_below h1.2 hR _⟩
 ·refine ⟨cPairS, ?_⟩
  have := ownsRow_setCell_below hown3 (a := ⟨R, 1, none⟩) hR (.slice (some ⟨gg, 0, none⟩) (cr.length + 1) cp)
  simpa [cPair, Value.cells] using this
 ·rcases hat with h | h
  ·intro e; rw [e] at h; exact hsep h
  ·omega
 ·refine Below.setCell (p := ⟨R, 1, none⟩) ?_ (Nat.le_refl _) _
  show Below R W w3
  exact (hb0.mono (B' := R) (by omega)).grown hg (by show R ≤ ((W.alloc o)).heap.size; simp; omega) (fun j hj => by have := (hCW.lt j hj).1; omega)

theorem write_end {W W4 : World} {R B g gg cap : Nat} {st : List Int} {cr2 : List (Int × Int)} {k : Int} {vv : Value} (h1 : 1 ≤ k) (h2 : k < st.length) (hR : R < B) (hgg : vv.ownBlock = some gg)
  (m1 : W4.heap[R]? = some (.cells #[.slice (some ⟨g, 0, none⟩) st.length cap, vv] 67 (0, 0))) (m2 : OwnI B W4 (.slice (some ⟨g, 0, none⟩) st.length cap) st) (m3 : OwnP B 36 W4 vv cr2) (m4 : gg ≠ g) (m5 : Below R W W4) :
  RowAt ((W4.setCell ⟨g, (k - 1).toNat, none⟩ (.int .i64 (atD 0 st k))).setCell ⟨g, k.toNat, none⟩ (.int .i64 (atD 0 st (k - 1)))).drew R B (swapL st k) cr2 ∧ Below R W ((W4.setCell ⟨g, (k - 1).toNat, none⟩ (.int .i64 (atD 0 st k))).setCell ⟨g, k.toNat, none⟩ (.int .i64 (atD 0 st (k - 1)))).drew := by
 obtain ⟨g', eg, hgB, _, _, ho1, hg1⟩ := own_store cInt1 m2 (atD 0 st k) (k - 1) (by omega) (by omega)
 cases eg
 have ho1' : OwnI B (W4.setCell ⟨g, (k - 1).toNat, none⟩ (cInt (atD 0 st k))) (.slice (some ⟨g, 0, none⟩) (st.set (k - 1).toNat (atD 0 st k)).length cap) (st.set (k - 1).toNat (atD 0 st k)) := by simpa using ho1
 obtain ⟨g', eg, _, _, _, ho2, hg2⟩ := own_store cInt1 ho1' (atD 0 st (k - 1)) k (by omega) (by simp; omega)
 cases eg
 have hRg : R ≠ g := by omega
 have hl : (swapL st k).length = st.length := by simp [swapL]
 refine ⟨⟨g, cap, vv, ?_, ?_, ?_, ?_, hR⟩, ?_⟩
 ·rw [hl]
  have e1 := hg1.block R (Array.getElem?_eq_some_iff.1 m1).1 (by simpa using hRg)
  have e2 := hg2.block R (by have := hg1.size; have := (Array.getElem?_eq_some_iff.1 m1).1; omega) (by simpa using hRg)
  exact (e2.trans e1).trans m1
 ·rw [hl]
  have : OwnI B ((W4.setCell ⟨g, (k - 1).toNat, none⟩ (cInt (atD 0 st k))).setCell ⟨g, k.toNat, none⟩ (cInt (atD 0 st (k - 1)))) (.slice (some ⟨g, 0, none⟩) st.length cap) (swapL st k) := by simpa [swapL] using ho2
  exact this.drew
 ·exact ((m3.kept hg1 (.inr (by rw [hgg]; simpa using m4))).kept hg2 (.inr (by rw [hgg]; simpa using m4))).drew
 ·rw [hgg]; simpa using m4
 ·have z1 := m5.size
  have hRl := (Array.getElem?_eq_some_iff.1 m1).1
  have b1 := m5.grown hg1 (by omega) (fun j hj => by cases hj; omega)
  exact (b1.grown hg2 (by have := hg1.size; omega) (fun j hj => by cases hj; omega)).drew

theorem write_any (R B : Nat) (x : Int) (st : List Int) (cr : List (Int × Int)) (w : World) (hR : RowAt w R B st cr) (hB : B ≤ w.heap.size) (hx : -1000 ≤ x ∧ x ≤ 1000) (h1 : 1 ≤ absI x) (h2 : absI x < st.length) (hst : st.length ≤ 1000) (hcr : cr.length ≤ 100000) :
  Calls Tryz.prog 61 #[.pointer (some ⟨R, 0, none⟩), .int .i64 x] w fun r w' => r = .returned (.tuple #[]) ∧ RowAt w' R B (swapL st (absI x)) (cr ++ [crossOf st x]) ∧ Below R w w' := by
 obtain ⟨g, cap, vc, hrow, hO, hC, hsep, hRB⟩ := hR
 obtain ⟨i0, hi0, hz0, hz1, hz2⟩ := info_parts info_cross
 have c0 : w.cell? ⟨R, 0, none⟩ = some (.slice (some ⟨g, 0, none⟩) st.length cap) := by rw [cell_of_row _ _ _ _ _ _ hrow]; rfl
 have c1 : w.cell? ⟨R, 1, none⟩ = some vc := by rw [cell_of_row _ _ _ _ _ _ hrow]; rfl
 obtain ⟨a1, cap1, e1, hS, _, _⟩ := hO.reps
 simp only [Value.slice.injEq, true_and] at e1
 obtain ⟨rfl, rfl⟩ := e1
 obtain ⟨k, hk⟩ : ∃ k, k = absI x := ⟨_, rfl⟩
 have hsz := size_any x w (by omega) (by omega)
 rw [← hk] at hsz h1 h2
 have HSZ := hid hsz; clear hsz
 have HK := hid hk; clear hk
 have HROW := hid hrow; clear hrow
 go_enter Tryz.func61, Tryz.ntmps61
 go_wp2_with fail
 refine HSZ.out.mono ?_
 rintro e w' ⟨rfl, rfl⟩
 go_wp2_with fail
 have hw1 : IntKind.i64.wrap (k - 1) = k - 1 := IntWalk.i64_in _ (by omega)
 refine wp_region_quiet_lit kR kR ?_
 repeat (first | ((with_reducible refine wpQD_idx 0 E_ints F_int cInt1 wU wU (hS) oD oD (fun _ => wU) (fun _ => ?_)); (try simp only [Act.put, pA, pB, pC]); (try simp only [cInt])) | quiet_step (fail))
 refine wpQuiet_nil ?_
 intro w2 hb2
 replace hb2 := below_drewN hb2
 clear hw1
 have HC2 := hid (hC.below hb2)
 have HO2 := hid (hO.below hb2)
 have hRl : R < w.heap.size := by omega
 have hrow2 : w2.heap[R]? = some (.cells #[.slice (some ⟨g, 0, none⟩) st.length cap, vc] 67 (0, 0)) := (hb2.block R hRl).trans HROW.out
 have hb2s := hb2.size
 have HROW2 := hid hrow2; clear hrow2
 by_cases hneg : x < 0
 ·have hX : crossOf st x = (atD 0 st k, atD 0 st (k - 1)) := by rw [crossOf, if_pos hneg, ← HK.out]
  have HX := hid hX; clear hX
  go_wp2_with fail
  obtain ⟨W, hW⟩ : ∃ W, W = (w2.alloc (.cells #[.int .i64 (atD 0 st k), .int .i64 (atD 0 st (k - 1))] 36)) := ⟨_, rfl⟩
  rw [← hW]
  have d1 : W.cell? ⟨R, 1, none⟩ = some vc := by rw [hW, cell_of_row _ R 1 #[.slice (some ⟨g, 0, none⟩) st.length cap, vc] 67 (0, 0) (by rw [Below.heap_alloc _ _ _ (by omega)]; exact HROW2.out)]; rfl
  have f1 : W.frozen? ⟨R, 1, none⟩ = false := by rw [hW]; exact frozen_of_row _ R 1 #[.slice (some ⟨g, 0, none⟩) st.length cap, vc] 67 (by rw [Below.heap_alloc _ _ _ (by omega)]; exact HROW2.out)
  have b0 : W.cell? ⟨w2.heap.size, 0, none⟩ = some (.int .i64 (atD 0 st k)) := by rw [hW]; simp [go_sem]
  have b1 : W.cell? ⟨w2.heap.size, 1, none⟩ = some (.int .i64 (atD 0 st (k - 1))) := by rw [hW]; simp [go_sem]
  have hCW : OwnP B 36 W vc cr := by rw [hW]; exact HC2.out.alloc _
  have hWs : W.heap.size = w2.heap.size + 1 := by rw [hW]; simp
  have hrowW : W.heap[R]? = some (.cells #[.slice (some ⟨g, 0, none⟩) st.length cap, vc] 67 (0, 0)) := by rw [hW, Below.heap_alloc _ _ _ (by omega)]; exact HROW2.out
  have hOW : OwnI B W (.slice (some ⟨g, 0, none⟩) st.length cap) st := by rw [hW]; exact HO2.out.alloc _
  have BW := hid (show Below R w W by rw [hW]; exact ((hb2.mono (B' := R) (by omega)).alloc (by omega) _))
  obtain ⟨bx, hbx⟩ : ∃ bx, bx = w2.heap.size := ⟨_, rfl⟩
  rw [← hbx] at b0 b1 hWs ⊢
  have HW := hid hW; clear hW
  have HROWW := hid hrowW; clear hrowW
  have HOWW := hid hOW; clear hOW
  have HBX := hid hbx; clear hbx
  have HWS := hid hWs; clear hWs
  have hlt1 : B ≤ W.heap.size := by rw [HWS.out, HBX.out]; omega
  have hlt2 : bx < W.heap.size := by rw [HWS.out]; omega
  have hltR : R < W.heap.size := by omega
  have hne1 : vc.ownBlock ≠ some R := fun e => by have := (hCW.lt _ e).1; omega
  have hne2 : vc.ownBlock ≠ some bx := fun e => by have := (HC2.out.lt _ e).2; rw [HBX.out] at this; omega
  have hcrl : cr.length + 1 ≤ maxLen := by unfold maxLen; omega
  go_region_law
   ((refine step_append_lies _ (by rfl) _ _ _ (by rfl) B 36 i0 _ 2 16 Tryz.underlying29 hi0 hz0 hz1 hz2 rfl (by omega) vc cr.length _ (by rfl) ((hCW.2.alloc _).drew) ⟨W.heap.size, 0, none⟩ 1 1 [.int .i64 (atD 0 st k), .int .i64 (atD 0 st (k - 1))] (by rfl) (by rfl) (World.news_of_block (cs := #[.int .i64 (atD 0 st k), .int .i64 (atD 0 st (k - 1))]) (t := 36) (fr := (0, 0)) (heap_alloc_new W _)) (by simp [Value.oneCell']) (by omega) hcrl (by omega) (by simp; omega) (W.heap.size + 1) (by simp) ?_; intro gg cp w3 hown3 hgrow3 hat3 hlt3; have e1 := hgrow3.cell_far ⟨R, 1, none⟩ (by simp; omega) (Ne.symm hne1); have e2 := hgrow3.frozen_far ⟨R, 1, none⟩ (by simp; omega) (Ne.symm hne1); simp [d1, f1, hltR] at e1 e2))
  all_goals
   have hmid := write_mid (W := W) HROWW.out HOWW.out hsep hRB hlt1 hCW hgrow3 hown3 hat3
   obtain ⟨m1, m2, m3, m4, m5⟩ := hmid
   generalize w3.setCell ⟨R, 1, none⟩ (.slice (some ⟨gg, 0, none⟩) (cr.length + 1) cp) = W4 at *
   clear e1 e2 hown3 hgrow3
   have M := hid (And.intro m1 (And.intro m2 (And.intro m3 (And.intro m4 m5))))
   have q0 : W4.cell? ⟨R, 0, none⟩ = some (.slice (some ⟨g, 0, none⟩) st.length cap) := by rw [cell_of_row _ _ _ _ _ _ m1]; rfl
   obtain ⟨g', eg, _, hck, hfk, _⟩ := own_store cInt1 m2 0 k (by omega) (by omega)
   cases eg
   obtain ⟨g', eg, _, hck1, hfk1, _⟩ := own_store cInt1 m2 0 (k - 1) (by omega) (by omega)
   cases eg
   have ek : (k - 1).toNat = k.toNat - 1 := by omega
   rw [ek] at hck1 hfk1
   have EK := hid ek; clear ek
   obtain ⟨vk, hvk⟩ := Option.isSome_iff_exists.1 hck
   obtain ⟨vk1, hvk1⟩ := Option.isSome_iff_exists.1 hck1
   clear m1 m2 m3 m4 m5 hck hck1
   obtain ⟨vf, hvf⟩ := cell?_setCell_some (w := W4) (p := ⟨g, k.toNat - 1, none⟩) (x := .int .i64 (atD 0 st k)) (q := ⟨g, k.toNat, none⟩) (v := vk) hvk
   have hnx : ¬ R = g := by have := HOWW.out.lt g rfl; omega
   have hkl : k - 1 < (st.length : Int) := by omega
   have hnx2 : ¬ g = R := fun h => hnx h.symm
   go_wp2_with fail
   have hw1 : IntKind.i64.wrap (k - 1) = k - 1 := IntWalk.i64_in _ (by omega)
   go_region
   clear hw1
   go_wp2_with fail
   go_end0
   have hE := write_end h1 h2 hRB rfl M.out.1 M.out.2.1 M.out.2.2.1 M.out.2.2.2.1 (BW.out.trans M.out.2.2.2.2)
   rw [EK.out] at hE
   refine ⟨rfl, ?_, ?_⟩
   ·rw [← HK.out, HX.out]; exact hE.1
   ·exact hE.2
 ·have hX : crossOf st x = (atD 0 st (k - 1), atD 0 st k) := by rw [crossOf, if_neg hneg, ← HK.out]
  have HX := hid hX; clear hX
  go_wp2_with fail
  obtain ⟨W, hW⟩ : ∃ W, W = (w2.alloc (.cells #[.int .i64 (atD 0 st (k - 1)), .int .i64 (atD 0 st k)] 36)) := ⟨_, rfl⟩
  rw [← hW]
  have d1 : W.cell? ⟨R, 1, none⟩ = some vc := by rw [hW, cell_of_row _ R 1 #[.slice (some ⟨g, 0, none⟩) st.length cap, vc] 67 (0, 0) (by rw [Below.heap_alloc _ _ _ (by omega)]; exact HROW2.out)]; rfl
  have f1 : W.frozen? ⟨R, 1, none⟩ = false := by rw [hW]; exact frozen_of_row _ R 1 #[.slice (some ⟨g, 0, none⟩) st.length cap, vc] 67 (by rw [Below.heap_alloc _ _ _ (by omega)]; exact HROW2.out)
  have b0 : W.cell? ⟨w2.heap.size, 0, none⟩ = some (.int .i64 (atD 0 st (k - 1))) := by rw [hW]; simp [go_sem]
  have b1 : W.cell? ⟨w2.heap.size, 1, none⟩ = some (.int .i64 (atD 0 st k)) := by rw [hW]; simp [go_sem]
  have hCW : OwnP B 36 W vc cr := by rw [hW]; exact HC2.out.alloc _
  have hWs : W.heap.size = w2.heap.size + 1 := by rw [hW]; simp
  have hrowW : W.heap[R]? = some (.cells #[.slice (some ⟨g, 0, none⟩) st.length cap, vc] 67 (0, 0)) := by rw [hW, Below.heap_alloc _ _ _ (by omega)]; exact HROW2.out
  have hOW : OwnI B W (.slice (some ⟨g, 0, none⟩) st.length cap) st := by rw [hW]; exact HO2.out.alloc _
  have BW := hid (show Below R w W by rw [hW]; exact ((hb2.mono (B' := R) (by omega)).alloc (by omega) _))
  obtain ⟨bx, hbx⟩ : ∃ bx, bx = w2.heap.size := ⟨_, rfl⟩
  rw [← hbx] at b0 b1 hWs ⊢
  have HW := hid hW; clear hW
  have HROWW := hid hrowW; clear hrowW
  have HOWW := hid hOW; clear hOW
  have HBX := hid hbx; clear hbx
  have HWS := hid hWs; clear hWs
  have hlt1 : B ≤ W.heap.size := by rw [HWS.out, HBX.out]; omega
  have hlt2 : bx < W.heap.size := by rw [HWS.out]; omega
  have hltR : R < W.heap.size := by omega
  have hne1 : vc.ownBlock ≠ some R := fun e => by have := (hCW.lt _ e).1; omega
  have hne2 : vc.ownBlock ≠ some bx := fun e => by have := (HC2.out.lt _ e).2; rw [HBX.out] at this; omega
  have hcrl : cr.length + 1 ≤ maxLen := by unfold maxLen; omega
  go_region_law
   ((refine step_append_lies _ (by rfl) _ _ _ (by rfl) B 36 i0 _ 2 16 Tryz.underlying29 hi0 hz0 hz1 hz2 rfl (by omega) vc cr.length _ (by rfl) ((hCW.2.alloc _).drew) ⟨W.heap.size, 0, none⟩ 1 1 [.int .i64 (atD 0 st (k - 1)), .int .i64 (atD 0 st k)] (by rfl) (by rfl) (World.news_of_block (cs := #[.int .i64 (atD 0 st (k - 1)), .int .i64 (atD 0 st k)]) (t := 36) (fr := (0, 0)) (heap_alloc_new W _)) (by simp [Value.oneCell']) (by omega) hcrl (by omega) (by simp; omega) (W.heap.size + 1) (by simp) ?_; intro gg cp w3 hown3 hgrow3 hat3 hlt3; have e1 := hgrow3.cell_far ⟨R, 1, none⟩ (by simp; omega) (Ne.symm hne1); have e2 := hgrow3.frozen_far ⟨R, 1, none⟩ (by simp; omega) (Ne.symm hne1); simp [d1, f1, hltR] at e1 e2))
  all_goals
   have hmid := write_mid (W := W) HROWW.out HOWW.out hsep hRB hlt1 hCW hgrow3 hown3 hat3
   obtain ⟨m1, m2, m3, m4, m5⟩ := hmid
   generalize w3.setCell ⟨R, 1, none⟩ (.slice (some ⟨gg, 0, none⟩) (cr.length + 1) cp) = W4 at *
   clear e1 e2 hown3 hgrow3
   have M := hid (And.intro m1 (And.intro m2 (And.intro m3 (And.intro m4 m5))))
   have q0 : W4.cell? ⟨R, 0, none⟩ = some (.slice (some ⟨g, 0, none⟩) st.length cap) := by rw [cell_of_row _ _ _ _ _ _ m1]; rfl
   obtain ⟨g', eg, _, hck, hfk, _⟩ := own_store cInt1 m2 0 k (by omega) (by omega)
   cases eg
   obtain ⟨g', eg, _, hck1, hfk1, _⟩ := own_store cInt1 m2 0 (k - 1) (by omega) (by omega)
   cases eg
   have ek : (k - 1).toNat = k.toNat - 1 := by omega
   rw [ek] at hck1 hfk1
   have EK := hid ek; clear ek
   obtain ⟨vk, hvk⟩ := Option.isSome_iff_exists.1 hck
   obtain ⟨vk1, hvk1⟩ := Option.isSome_iff_exists.1 hck1
   clear m1 m2 m3 m4 m5 hck hck1
   obtain ⟨vf, hvf⟩ := cell?_setCell_some (w := W4) (p := ⟨g, k.toNat - 1, none⟩) (x := .int .i64 (atD 0 st k)) (q := ⟨g, k.toNat, none⟩) (v := vk) hvk
   have hnx : ¬ R = g := by have := HOWW.out.lt g rfl; omega
   have hkl : k - 1 < (st.length : Int) := by omega
   have hnx2 : ¬ g = R := fun h => hnx h.symm
   go_wp2_with fail
   have hw1 : IntKind.i64.wrap (k - 1) = k - 1 := IntWalk.i64_in _ (by omega)
   go_region
   clear hw1
   go_wp2_with fail
   go_end0
   have hE := write_end h1 h2 hRB rfl M.out.1 M.out.2.1 M.out.2.2.1 M.out.2.2.2.1 (BW.out.trans M.out.2.2.2.2)
   rw [EK.out] at hE
   refine ⟨rfl, ?_, ?_⟩
   ·rw [← HK.out, HX.out]; exact hE.1
   ·exact hE.2
end Go.Proofs.YtglpfpdomnllkaaGreatDoor

namespace Go.Proofs.YtglpfpdomnllkaaGreatDoor
open Go.RowKit
set_option maxHeartbeats 1000000
set_option maxRecDepth 100000

theorem far_cell {w w3 : World} {o : Obj} {row : Option Nat} (hg : (w.alloc o).grownBy w3 row) {p : Addr} {v : Value} (h : w.cell? p = some v) (hne : row ≠ some p.block) : w3.cell? p = some v := by
 have hl := World.block_lt_of_cell? w _ h
 have hb : Below w.heap.size w (w.alloc o) := (Below.refl _ _).alloc (Nat.le_refl _) _
 rw [hg.cell_far p (by simp; omega) (Ne.symm hne), hb.cell hl, h]
theorem far_frozen {w w3 : World} {o : Obj} {row : Option Nat} (hg : (w.alloc o).grownBy w3 row) {p : Addr} {v : Value} {b : Bool} (h : w.cell? p = some v) (hf : w.frozen? p = b) (hne : row ≠ some p.block) : w3.frozen? p = b := by
 have hl := World.block_lt_of_cell? w _ h
 have hb : Below w.heap.size w (w.alloc o) := (Below.refl _ _).alloc (Nat.le_refl _) _
 rw [hg.frozen_far p (by simp; omega) (Ne.symm hne), hb.frozen hl, hf]

def rowGo : List Int → List (Int × Int) → List Int → List Int × List (Int × Int)
 | st, cr, [] => (st, cr)
 | st, cr, x :: r => rowGo (swapL st (absI x)) (cr ++ [crossOf st x]) r
def startL (n : Nat) : List Int := (List.range n).map fun (i : Nat) => (i : Int) + 1
theorem startL_succ (n : Nat) : startL (n + 1) = startL n ++ [(n : Int) + 1] := by simp [startL, List.range_succ]
theorem startL_len (n : Nat) : (startL n).length = n := by simp [startL]
def rowL (n : Nat) (ws : List Int) : List Int × List (Int × Int) := rowGo (startL n) [] ws
theorem swapL_len (st : List Int) (k : Int) : (swapL st k).length = st.length := by simp [swapL]
def fitsW (n : Nat) (ws : List Int) : Prop := ∀ x ∈ ws, -1000 ≤ x ∧ x ≤ 1000 ∧ 1 ≤ absI x ∧ absI x < n
theorem rowGo_step (st : List Int) (cr : List (Int × Int)) (ws : List Int) (k : Nat) (h : k < ws.length) : rowGo st cr (ws.drop k) = rowGo (swapL st (absI (atD 0 ws k))) (cr ++ [crossOf st (atD 0 ws k)]) (ws.drop (k + 1)) := by
 have e2 : atD 0 ws k = ws[k] := by simp [atD, h]
 rw [List.drop_eq_getElem_cons h, rowGo, e2]

theorem rowOf_any (n : Nat) (a : Option Addr) (cap : Nat) (ws : List Int) (w : World) (hS : Ints w a cap ws) (hn : 1 ≤ n) (hn2 : n ≤ 100) (hws : ws.length ≤ 100000) (hf : fitsW n ws) :
  Calls Tryz.prog 29 #[.int .i64 n, .slice a ws.length cap] w fun r w' => r = .returned (.pointer (some ⟨w.heap.size, 0, none⟩)) ∧ RowAt w' w.heap.size (w.heap.size + 1) (rowL n ws).1 (rowL n ws).2 ∧ Below w.heap.size w w' := by
 have hcap := hS.le
 have hm := hS.max
 have HF := hid hf; clear hf
 go_enter Tryz.func29, Tryz.ntmps29
 go_wp2_with fail
 go_loopw [13, 6] (fun i _ wr => ∃ (k : Nat) (vs : Value), k ≤ n ∧ i = .int .i64 k ∧ wr.heap[w.heap.size]? = some (.cells #[vs, .slice none 0 0] 67 (0, 0)) ∧ OwnI (w.heap.size + 1) wr vs (startL k) ∧ Below w.heap.size w wr ∧ w.heap.size + 1 ≤ wr.heap.size) (fun i _ _ => n - (intOf i).toNat)
 case atStart => exact ⟨0, .slice none 0 0, by omega, rfl, heap_alloc_new w _, own_nil cIntS, bal (Below.refl _ _) _, by simp⟩
 case round =>
  obtain ⟨k, vs, hk, rfl, hrow, hO, hbr, hsz⟩ := hrel
  have hle : (startL k).length ≤ 100 := by rw [startL_len]; exact Nat.le_trans hk hn2
  have c0 : wr.cell? ⟨w.heap.size, 0, none⟩ = some vs := by rw [cell_of_row _ _ _ _ _ _ hrow]; rfl
  have f0 : wr.frozen? ⟨w.heap.size, 0, none⟩ = false := frozen_of_row _ _ _ _ _ hrow
  have HROW := hid hrow; clear hrow
  by_cases hlt : k < n
  ·have hsu := startL_succ k
   have HSU := hid hsu; clear hsu
   have hnv : vs.ownBlock ≠ some w.heap.size := fun e => by have := (hO.lt _ e).1; omega
   have HNV := hid hnv; clear hnv
   go_wp2_with (first | (((with_reducible refine wpList_app (l := (startL k)) (ys := [((k : Int) + 1)]) E_ints wU wU ((hO).alloc _) (reps_new1 cIntS (((k : Int) + 1)) _ _ (by simp) rfl) cIntO (by simp; omega) (by first | omega | (simp; omega)) (by simp; omega) ?_); intro v3 w3 ho3 hg3 hat3); have e1 := far_cell hg3 c0 HNV.out; have e2 := far_frozen hg3 c0 f0 HNV.out; obtain ⟨a3, cap3, rfl, _, _, _⟩ := ho3.reps))
   have hr3 : w3.heap[w.heap.size]? = some (.cells #[vs, .slice none 0 0] 67 (0, 0)) := (hg3.block _ (by simp; omega) (Ne.symm HNV.out)).trans ((Below.heap_alloc _ _ _ (by omega)).trans HROW.out)
   have b3 := below_own' (bal hbr (.cells #[.int .i64 ((k : Int) + 1)] 3)) hg3 (hO.alloc _) (by omega) (by simp; omega)
   have z3 := hg3.size
   simp at z3
   refine ⟨⟨k + 1, .slice a3 ((startL k).length + 1) cap3, by omega, by go_num, by rw [heap_setCell_same w3 _ 0 _ _ _ hr3]; rfl, ?_, Below.setCell (p := ⟨w.heap.size, 0, none⟩) b3 (Nat.le_refl _) _, by simp [World.setCell]; omega⟩, by simp [intOf]; omega⟩
   rw [HSU.out]
   have h1 := ho3
   simp at h1
   exact ⟨h1.1, ownsRow_setCell_below h1.2 (by show w.heap.size < _; omega) _⟩
  ·have : k = n := by omega
   subst this
   have hO2 := hO
   rw [show (startL k).length = k from startL_len k] at hle
   obtain ⟨av, capv, rfl, hrv, hav, _⟩ := hO.reps
   obtain ⟨g, o, rfl, _⟩ := hrv.cells (by decide) 0 0 (by rw [startL_len]; omega)
   obtain ⟨g', eg, hgB, _⟩ := own_store cInt1 hO 0 0 (by omega) (by rw [startL_len]; omega)
   cases eg
   have hRA : RowAt wr w.heap.size (w.heap.size + 1) (startL k) [] := ⟨g, capv, .slice none 0 0, HROW.out, hO, own_nil cPairS, by simp [Value.ownBlock], by omega⟩
   have hSr := hS.below hbr
   clear hO hO2 hrv hav c0 f0
   have HRA := hid hRA; clear hRA
   go_wp2_with fail
   obtain ⟨wo, hwo⟩ : ∃ wo, wo = wr := ⟨_, rfl⟩
   go_loopw [32, 9] (fun i _ wq => ∃ (j : Nat) (st : List Int) (cr : List (Int × Int)), j ≤ ws.length ∧ i = .int .i64 j ∧ st.length = k ∧ cr.length = j ∧ RowAt wq w.heap.size (w.heap.size + 1) st cr ∧ rowGo st cr (ws.drop j) = rowL k ws ∧ Below w.heap.size w wq ∧ w.heap.size + 1 ≤ wq.heap.size) (fun i _ _ => ws.length - (intOf i).toNat)
   case atStart => exact ⟨0, startL k, [], by omega, rfl, startL_len k, rfl, HRA.out, rfl, hbr, hsz⟩
   case round =>
    obtain ⟨j, st, cr, hj, rfl, hst, hcr, hRow, hgo, hbq, hq⟩ := hrel
    have hSq := hS.below hbq
    have HST := hid hst; clear hst
    have HCR := hid hcr; clear hcr
    by_cases hlt2 : j < ws.length
    ·have hstep := rowGo_step st cr ws j hlt2
     rw [hgo] at hstep
     have HSTEP := hid hstep; clear hstep hgo
     have hfx := HF.out (atD 0 ws j) (by simp [atD, hlt2])
     have hw := write_any w.heap.size (w.heap.size + 1) (atD 0 ws j) st cr wr hRow hq ⟨hfx.1, hfx.2.1⟩ hfx.2.2.1 (by rw [HST.out]; exact hfx.2.2.2) (by rw [HST.out]; omega) (by rw [HCR.out]; omega)
     have HW := hid hw; clear hw hfx hRow
     go_wp2_with (first | (with_reducible refine wpList_idx _ 0 E_ints F_int cInt1 wU wU (hSq) oD oD (fun _ => wU) (fun _ => ?_)) | (go_at_call 61; refine HW.out.mono ?_; rintro e w5 ⟨rfl, hrow5, hb5⟩))
     have z5 := hb5.size
     refine ⟨⟨j + 1, _, _, by omega, by go_num, by rw [swapL_len]; exact HST.out, by rw [List.length_append, HCR.out]; rfl, hrow5, HSTEP.out.symm, hbq.trans hb5, by omega⟩, by simp [intOf]; omega⟩
    ·have : j = ws.length := by omega
     subst this
     have e : rowGo st cr (ws.drop ws.length) = (st, cr) := by simp [rowGo]
     rw [e] at hgo
     have HGO := hid hgo; clear hgo e
     go_wp2_with fail
     go_ret
     exact ⟨rfl, by rw [← HGO.out]; exact hRow, hbq⟩
end Go.Proofs.YtglpfpdomnllkaaGreatDoor

namespace Go.Proofs.YtglpfpdomnllkaaGreatDoor
open Go.RowKit
set_option maxHeartbeats 400000
set_option maxRecDepth 100000

end Go.Proofs.YtglpfpdomnllkaaGreatDoor

namespace Go.Proofs.YtglpfpdomnllkaaGreatDoor
open Go.RowKit
set_option maxHeartbeats 1000000
set_option maxRecDepth 100000

/-- A list of pairs and an error came back. -/
def RetPE (W : World) (L : List (Int × Int)) (e : Int) (r : Ending) (w' : World) : Prop :=
 ∃ a cap, r = .returned (.tuple #[.slice a L.length cap, .int .i64 e]) ∧ Pairs w' a cap L ∧ (∀ b, a = some b → W.heap.size ≤ b.block) ∧ Below W.heap.size W w'
theorem pairs_nil (w : World) : Pairs w none 0 [] := ⟨cPairS, Nat.le_refl _, Nat.zero_le _, fun _ => rfl, fun j u hu => by simp at hu⟩
theorem RetPE.none {W w' : World} {e : Int} {r : Ending} (h1 : r = .returned (.tuple #[.slice none 0 0, .int .i64 e])) (h4 : Below W.heap.size W w') : RetPE W [] e r w' :=
 ⟨.none, 0, h1, pairs_nil _, (fun _ h => by cases h), h4⟩
theorem RetPE.own {W w' : World} {L : List (Int × Int)} {e : Int} {r : Ending} {B : Nat} {t : TypeId} (v : Value) (h1 : r = .returned (.tuple #[v, .int .i64 e])) (h2 : OwnP B t w' v L) (hB : W.heap.size ≤ B) (h4 : Below W.heap.size W w') : RetPE W L e r w' := by
 obtain ⟨a, cap, rfl, hr, hf, _⟩ := h2.reps
 exact ⟨a, cap, h1, hr, fun b hb => Nat.le_trans hB (hf b hb).1, h4⟩

end Go.Proofs.YtglpfpdomnllkaaGreatDoor

namespace Go.Proofs.YtglpfpdomnllkaaGreatDoor
open Go.RowKit
set_option maxHeartbeats 1000000
set_option maxRecDepth 100000

abbrev OwnPs (B : Nat) (w : World) (v : Value) (l : List PassV) : Prop := Own cPass 3 B 39 w v l
/-- A list of passes and an error came back. -/
def RetPsE (W : World) (L : List PassV) (e : Int) (r : Ending) (w' : World) : Prop :=
 ∃ a cap, r = .returned (.tuple #[.slice a L.length cap, .int .i64 e]) ∧ PassesR w' a cap L ∧ (∀ b, a = some b → W.heap.size ≤ b.block) ∧ Below W.heap.size W w'
theorem passesR_nil (w : World) : PassesR w none 0 [] := ⟨cPassS, Nat.le_refl _, Nat.zero_le _, fun _ => rfl, fun j u hu => by simp at hu⟩
theorem RetPsE.none {W w' : World} {e : Int} {r : Ending} (h1 : r = .returned (.tuple #[.slice none 0 0, .int .i64 e])) (h4 : Below W.heap.size W w') : RetPsE W [] e r w' :=
 ⟨.none, 0, h1, passesR_nil _, (fun _ h => by cases h), h4⟩
theorem RetPsE.own {W w' : World} {L : List PassV} {e : Int} {r : Ending} {B : Nat} (v : Value) (h1 : r = .returned (.tuple #[v, .int .i64 e])) (h2 : OwnPs B w' v L) (hB : W.heap.size ≤ B) (h4 : Below W.heap.size W w') : RetPsE W L e r w' := by
 obtain ⟨a, cap, rfl, hr, hf, _⟩ := h2.reps
 exact ⟨a, cap, h1, hr, fun b hb => Nat.le_trans hB (hf b hb).1, h4⟩

end Go.Proofs.YtglpfpdomnllkaaGreatDoor

namespace Go.Proofs.YtglpfpdomnllkaaGreatDoor
open Go.RowKit
set_option maxHeartbeats 1000000
set_option maxRecDepth 100000

abbrev Strs (w : World) (a : Option Addr) (cap : Nat) (l : List ByteArray) : Prop := Reps cStr 1 w a cap l
abbrev OwnS (B : Nat) (w : World) (v : Value) (l : List ByteArray) : Prop := Own cStr 1 B 9 w v l
/-- A list of strings and an error came back. -/
def RetSE (W : World) (L : List ByteArray) (e : Int) (r : Ending) (w' : World) : Prop :=
 ∃ a cap, r = .returned (.tuple #[.slice a L.length cap, .int .i64 e]) ∧ Strs w' a cap L ∧ (∀ b, a = some b → W.heap.size ≤ b.block) ∧ Below W.heap.size W w'
theorem strs_nil (w : World) : Strs w none 0 [] := ⟨cStrS, Nat.le_refl _, Nat.zero_le _, fun _ => rfl, fun j u hu => by simp at hu⟩
theorem RetSE.none {W w' : World} {e : Int} {r : Ending} (h1 : r = .returned (.tuple #[.slice none 0 0, .int .i64 e])) (h4 : Below W.heap.size W w') : RetSE W [] e r w' :=
 ⟨.none, 0, h1, strs_nil _, (fun _ h => by cases h), h4⟩
theorem RetSE.own {W w' : World} {L : List ByteArray} {e : Int} {r : Ending} {B : Nat} (v : Value) (h1 : r = .returned (.tuple #[v, .int .i64 e])) (h2 : OwnS B w' v L) (hB : W.heap.size ≤ B) (h4 : Below W.heap.size W w') : RetSE W L e r w' := by
 obtain ⟨a, cap, rfl, hr, hf, _⟩ := h2.reps
 exact ⟨a, cap, h1, hr, fun b hb => Nat.le_trans hB (hf b hb).1, h4⟩

end Go.Proofs.YtglpfpdomnllkaaGreatDoor

namespace Go.Proofs.YtglpfpdomnllkaaGreatDoor
open Go.RowKit
section
variable {P : Program} {ops : Array Oper} {md : Region.Mode} {C : World → Prop}

def wpAnyLQ (P : Program) (md : Region.Mode) (ops : Array Oper) (C : World → Prop) (n : Nat) (L : Array Bool → Act → Prop) : Nat → Array Bool → Act → Prop
 | 0, listed, a => L listed a
 | f + 1, listed, a =>
  Region.ready md ops listed ≠ [] ∧ ∀ i ∈ Region.ready md ops listed, i < n ∧ qOp P ops C i (wpAnyLQ P md ops C n L f (listed.setIfInBounds i true)) a

theorem wpAny_of_headQ {n g : Nat} {L : Array Bool → Act → Prop} {Q' : Exit → Act → World → Prop} (hL : ∀ listed a w, C w → L listed a → wpAny P md ops Q' g listed a w) :
  ∀ (f : Nat) (listed : Array Bool) (a : Act) (w : World), C w → wpAnyLQ P md ops C n L f listed a → wpAny P md ops Q' (f + g) listed a w
 | 0, listed, a, w, hw, h => by rw [Nat.zero_add]; exact hL _ _ _ hw h
 | f + 1, listed, a, w, hw, h => by
   rw [show f + 1 + g = (f + g) + 1 by omega]
   exact ⟨fun h0 => absurd h0 h.1, fun i hi => wpOp_of_qOp hw (fun a' w' hw' h' => wpAny_of_headQ hL f _ a' w' hw' h') (h.2 i hi).2⟩

theorem wpAnyLQ_first {n i : Nat} {oi : Oper} {v : Value} {L : Array Bool → Act → Prop} (hi : ops[i]? = some oi) (hsel : ∀ (j : Nat) (o : Oper) cs b, ops[j]? = some o → o.op ≠ .select cs b)
  (hs : Region.sinkB md ops n = true) (hc : Region.chainB md ops n = true) (hn : n < ops.size) (hin : i < n)
  (hdone : ∀ listed a, L listed a → ∀ j ∈ Region.ready md ops listed, n ≤ j) :
  ∀ (f : Nat) (listed : Array Bool) (a : Act), HeadInv md ops n listed →
   (∀ j oj, ops[j]? = some oj → j ≠ i → listed.getD j true = false → (∀ e ∈ oj.after, Region.binds md e = true → e.on ≠ i) → oi.apart ops oj = true) →
   i ∈ Region.ready md ops listed → YieldsIn P ops C oi v a →
   wpAnyLQ P md ops C n L f (listed.setIfInBounds i true) (a.put oi.dst v) → wpAnyLQ P md ops C n L (f + 1) listed a := by
 intro f
 induction f with
 | zero =>
  intro listed a inv _ hr hy H
  have hun := (mem_ready.1 hr).1
  refine ⟨fun h => (by rw [h] at hr; cases hr), fun j hj => ?_⟩
  have hjn : j < n := by
   rcases Nat.lt_or_ge j n with h | h
   ·exact h
   ·exact absurd hj (tail_waits hs hc hn inv _ i rfl hin hun j h)
  refine ⟨hjn, ?_⟩
  by_cases hji : j = i
  ·subst hji; exact hy.qOp hi H
  ·have := hdone _ _ H j (ready_mono hj hji)
   omega
 | succ f ih =>
  intro listed a inv hfree hr hy H
  have hun := (mem_ready.1 hr).1
  refine ⟨fun h => (by rw [h] at hr; cases hr), fun j hj => ?_⟩
  have hjn : j < n := by
   rcases Nat.lt_or_ge j n with h | h
   ·exact h
   ·exact absurd hj (tail_waits hs hc hn inv _ i rfl hin hun j h)
  refine ⟨hjn, ?_⟩
  by_cases hji : j = i
  ·subst hji; exact hy.qOp hi H
  ·have h1 := (H.2 j (ready_mono hj hji)).2
   obtain ⟨hjun, oj, hoj, hall⟩ := mem_ready.1 hj
   have hnot : ∀ e ∈ oj.after, Region.binds md e = true → e.on ≠ i := fun e he hb heq => by
    have h1 := hall e he hb
    rw [heq, getD_both hun] at h1
    cases h1
   have h2 := qOp_put hoj (hfree j oj hoj hji hjun hnot) (fun cs b => hsel i oi cs b hi) (fun cs b => hsel j oj cs b hoj) hy h1
   have hfree' : ∀ k ok, ops[k]? = some ok → k ≠ i → (listed.setIfInBounds j true).getD k true = false →
     (∀ e ∈ ok.after, Region.binds md e = true → e.on ≠ i) → oi.apart ops ok = true := fun k ok hk hki hun hno => by
    refine hfree k ok hk hki ?_ hno
    by_cases hjk : j = k
    ·subst hjk; exact hjun
    ·rw [getD_set_ne true hjk] at hun; exact hun
   refine qOp_mono (fun a' h3 => ih (listed.setIfInBounds j true) a' (inv.set hj hjn) hfree' (ready_mono hr (Ne.symm hji)) h3.1 ?_) h2
   rw [Array.setIfInBounds_comm _ _ hji]
   exact h3.2

theorem wpAnyLQ_lex {n g : Nat} {Lq : Act → Prop} (hsel : Region.noSelect ops = true) (hs : Region.sinkB md ops n = true) (hc : Region.chainB md ops n = true) (hn : n < ops.size) :
  ∀ (l : List Oper) (k : Nat) (listed : Array Bool) (a : Act), (∀ j, j < l.length → l[j]? = ops[k + j]?) → k + l.length = n → HeadInv md ops n listed →
  Region.lexHead md ops g l.length k listed = true → wpQuiet P ops C Lq l a →
  wpAnyLQ P md ops C n (fun listed' a' => Region.seqB md ops g n listed' = true ∧ Lq a') l.length listed a
 | [], k, listed, a, _, hk, _, hB, h => by
   have : k = n := by simpa using hk
   subst this
   exact ⟨by simpa [Region.lexHead] using hB, h⟩
 | o :: l, k, listed, a, hl, hk, inv, hB, h => by
   have h0 : ops[k]? = some o := by simpa using (hl 0 (by simp)).symm
   simp only [List.length_cons, Region.lexHead, Bool.and_eq_true] at hB
   obtain ⟨⟨hr, hf⟩, hB'⟩ := hB
   have hkn : k < n := by simp only [List.length_cons] at hk; omega
   have hr' : k ∈ Region.ready md ops listed := by simpa using hr
   have hst : qOp P ops C k (wpQuiet P ops C Lq l) a := by unfold qOp; simp only [h0]; exact h
   obtain ⟨v, hy, hK⟩ := yieldsIn_of_qOp h0 hst
   exact wpAnyLQ_first h0 (Region.noSelect_spec hsel) hs hc hn hkn (fun listed' a' hL => seqB_ready hL.1) l.length listed a inv (Region.free_spec h0 hf) hr' hy
     (wpAnyLQ_lex hsel hs hc hn l (k + 1) _ _ (fun j hj => by have := hl (j + 1) (by simp; omega); simpa [Nat.add_assoc, Nat.add_comm 1 j] using this) (by simp only [List.length_cons] at hk; omega) (inv.set hr' hkn) hB' hK)

theorem wp_region_quiet_tail {id : Nat} {Q : Exit → Act → World → Prop} {a : Act} {w : World} {l : List Oper} (n : Nat) (hm : P.follows .mixedOrders = true) (hB : Region.lexTailB .any l.toArray n = true) (hC : C { w with drawn := w.drawn + 1 })
  (h : wpQuiet P l.toArray C (fun a' => ∀ w', C w' → wpList P l.toArray Q (l.drop n) a' w') (l.take n) a) : (Code.region id l.toArray true).wp P Q a w := by
 simp only [Region.lexTailB, Bool.and_eq_true, decide_eq_true_eq] at hB
 obtain ⟨⟨⟨⟨hsel, hn⟩, hs⟩, hc⟩, hlex⟩ := hB
 have hn' : n < l.length := by simpa using hn
 have htl : (l.take n).length = n := by simp; omega
 have hdl : (l.drop n).length = l.toArray.size - n := by simp
 have inv0 : HeadInv .any l.toArray n (Array.replicate l.toArray.size false) :=
  ⟨by simp, fun j oj _ hl => (by rw [getD_replicate_false] at hl; cases hl), fun t _ ht => getD_in (by simpa using ht) (getD_replicate_false _ _)⟩
 have H := wpAnyLQ_lex (md := .any) (g := l.toArray.size - n) hsel hs hc hn (l.take n) 0 _ a (fun j hj => by
  have hj' : j < n := by rw [htl] at hj; exact hj
  simp [hj']) (by simpa using htl) inv0 (by rw [htl]; exact hlex) h
 refine wp_region_any hm ?_
 have := wpAny_of_headQ (C := C) (Q' := Q) (g := l.toArray.size - n) (fun listed a' w' hw' hL => by
  have := wpAny_of_seq (md := .any) (Q' := Q) (l.drop n) n listed a' w' (fun j => by simp [List.getElem?_drop]) (by rw [hdl]; exact hL.1) (hL.2 w' hw')
  rwa [hdl] at this) _ _ _ _ hC H
 rw [htl, show n + (l.toArray.size - n) = l.toArray.size by omega] at this
 exact this
/-- .. in the class 'nothing below has turned'. -/
theorem wp_region_qt {id : Nat} {Q : Exit → Act → World → Prop} {a : Act} {w : World} {l : List Oper} (n : Nat) (hm : P.follows .mixedOrders = true) (hB : Region.lexTailB .any l.toArray n = true)
  (h : wpQuiet P l.toArray (Below w.heap.size w) (fun a' => ∀ w', Below w.heap.size w w' → wpList P l.toArray Q (l.drop n) a' w') (l.take n) a) : (Code.region id l.toArray true).wp P Q a w :=
 wp_region_quiet_tail n hm hB (Below.refl _ _).drew h
end
section
variable {P : Program} {ops : Array Oper} {Qa : Act → Prop} {w : World} {rest : List Oper} {a : Act} {ty : TypeId} {p : String} {af : Array Edge} {g : Option (Nat × Bool)} {d : Tmp}
theorem wpB_load {e : TypeId} {s : Operand} {b o : Nat} {cs : Array Value} {T : TypeId} {fr : Nat × Nat} {v : Value} (hF : Flat P e) (hg : Region.wanted (⟨some d, .load e s, ty, p, af, g⟩ : Oper) (yielded ops a.tmps) = true) (hs : a.eval s = .pointer (some ⟨b, o, none⟩))
  (hb : w.heap[b]? = some (.cells cs T fr)) (hv : cs[o]? = some v) (h : wpQuiet P ops (Below w.heap.size w) Qa rest (a.put (some d) v)) : wpQuiet P ops (Below w.heap.size w) Qa (⟨some d, .load e s, ty, p, af, g⟩ :: rest) a := by
 refine wpQ_inG v hg (fun w' hw' => ?_) h
 have hc : w'.cell? ⟨b, o, none⟩ = some v := by simp [World.cell?, hw'.block b (Array.getElem?_eq_some_iff.1 hb).1, hb, hv]
 simp [execOp, hs, run_loadAt_cell w' hF hc, Result.andThen]
theorem wpB_loadS {e : TypeId} {s : Operand} {b o n : Nat} {cs us : Array Value} {T : TypeId} {fr : Nat × Nat} (hF : Aggr P e) (hn : (P.info? e).map (·.size) = some n) (hg : Region.wanted (⟨some d, .load e s, ty, p, af, g⟩ : Oper) (yielded ops a.tmps) = true) (hs : a.eval s = .pointer (some ⟨b, o, none⟩))
  (hb : w.heap[b]? = some (.cells cs T fr)) (hv : (cs.toList.drop o).take n = us.toList) (hz : us.size = n) (h : wpQuiet P ops (Below w.heap.size w) Qa rest (a.put (some d) (.agg us))) : wpQuiet P ops (Below w.heap.size w) Qa (⟨some d, .load e s, ty, p, af, g⟩ :: rest) a := by
 refine wpQ_inG (.agg us) hg (fun w' hw' => ?_) h
 obtain ⟨i, hi, hs2⟩ : ∃ i, P.info? e = some i ∧ i.size = n := by
  cases hi : P.info? e with
  | none => rw [hi] at hn; cases hn
  | some i => rw [hi] at hn; exact ⟨i, rfl, by simpa using hn⟩
 have := run_loadAt_agg (a := ⟨b, o, none⟩) w' hF hi (cs := us.toList) (by simp [hs2, hz]) (fun j v hj => by
  have hj2 : us[j]? = some v := by simpa using hj
  have hjn : j < n := by rw [← hz]; exact (Array.getElem?_eq_some_iff.1 hj2).1
  have hcs : cs[o + j]? = some v := by
   have : us.toList[j]? = some v := by simpa using hj
   rw [← hv, List.getElem?_take, if_pos hjn, List.getElem?_drop] at this
   simpa using this
  rw [Addr.add_z]
  simp [World.cell?, hw'.block b (Array.getElem?_eq_some_iff.1 hb).1, hb, hcs])
 rw [Array.toArray_toList] at this
 simp [execOp, hs, this, Result.andThen]
theorem wpB_call {o : Oper} {f : FuncId} {args : Array Value} (v : Value) (hg : Region.wanted o (yielded ops a.tmps) = true) (hr : ∀ w', (execOp a.eval o).run P w' = .ok (.enter f args) w')
   (hcall : ∀ w', Below w.heap.size w w' → Calls P f args w' fun e w'' => e = .returned v ∧ Below w'.heap.size w' w'')
   (h : wpQuiet P ops (Below w.heap.size w) Qa rest (a.put o.dst v)) : wpQuiet P ops (Below w.heap.size w) Qa (o :: rest) a := by
 unfold wpQuiet
 rw [if_pos hg]
 refine ⟨v, fun w' hw' => ?_, h⟩
 unfold Oper.quietAt
 rw [hr w']
 exact ⟨rfl, (hcall w' hw').mono fun e w'' ⟨he, hb⟩ => ⟨he, bnext hw' hb⟩⟩
theorem calls_below {f : FuncId} {args : Array Value} {v : Value} (h : Calls P f args w fun e w' => e = .returned v ∧ w = w') : Calls P f args w fun e w' => e = .returned v ∧ Below w.heap.size w w' :=
 h.mono fun _ _ ⟨h1, h2⟩ => ⟨h1, h2 ▸ Below.refl _ _⟩
end

section
variable {P : Program} {ops : Array Oper} {Q : Exit → Act → World → Prop} {w w0 : World} {rest : List Oper} {a : Act} {ty : TypeId} {p : String} {af : Array Edge} {g : Option (Nat × Bool)} {B : Nat} {L : List Pc}
theorem wpList_ldB {d : Option Tmp} {e : TypeId} {s : Operand} {b o : Nat} {cs : Array Value} {T : TypeId} {fr : Nat × Nat} {v : Value} (hF : Flat P e) (hg : Region.wanted (⟨d, .load e s, ty, p, af, g⟩ : Oper) (yielded ops a.tmps) = true) (hs : a.eval s = .pointer (some ⟨b, o, none⟩))
  (hb : w.heap[b]? = some (.cells cs T fr)) (hv : cs[o]? = some v) (h : wpList P ops Q rest (a.put d v) w) : wpList P ops Q (⟨d, .load e s, ty, p, af, g⟩ :: rest) a w := by
 refine wpList_step fun K hK => ?_
 rw [if_pos hg]
 have hc : w.cell? ⟨b, o, none⟩ = some v := by simp [World.cell?, hb, hv]
 unfold Oper.wp
 simp [execOp, hs, run_loadAt_cell w hF hc, Result.andThen]
 exact hK _ _ h
theorem wpList_ldS {d : Option Tmp} {e : TypeId} {s : Operand} {b o n : Nat} {cs us : Array Value} {T : TypeId} {fr : Nat × Nat} (hF : Aggr P e) (hn : (P.info? e).map (·.size) = some n) (hg : Region.wanted (⟨d, .load e s, ty, p, af, g⟩ : Oper) (yielded ops a.tmps) = true) (hs : a.eval s = .pointer (some ⟨b, o, none⟩))
  (hb : w.heap[b]? = some (.cells cs T fr)) (hv : (cs.toList.drop o).take n = us.toList) (hz : us.size = n) (h : wpList P ops Q rest (a.put d (.agg us)) w) : wpList P ops Q (⟨d, .load e s, ty, p, af, g⟩ :: rest) a w := by
 refine wpList_step fun K hK => ?_
 rw [if_pos hg]
 obtain ⟨i, hi, hs2⟩ : ∃ i, P.info? e = some i ∧ i.size = n := by
  cases hi : P.info? e with
  | none => rw [hi] at hn; cases hn
  | some i => rw [hi] at hn; exact ⟨i, rfl, by simpa using hn⟩
 have := run_loadAt_agg (a := ⟨b, o, none⟩) w hF hi (cs := us.toList) (by simp [hs2, hz]) (fun j v hj => by
  have hj2 : us[j]? = some v := by simpa using hj
  have hjn : j < n := by rw [← hz]; exact (Array.getElem?_eq_some_iff.1 hj2).1
  have hcs : cs[o + j]? = some v := by
   have : us.toList[j]? = some v := by simpa using hj
   rw [← hv, List.getElem?_take, if_pos hjn, List.getElem?_drop] at this
   simpa using this
  rw [Addr.add_z]
  simp [World.cell?, hb, hcs])
 rw [Array.toArray_toList] at this
 unfold Oper.wp
 simp [execOp, hs, this, Result.andThen]
 exact hK _ _ h
theorem SL.setRow {k : Nat} {old : Array Value} {T : TypeId} {fr : Nat × Nat} (h : SL B w0 w L) (i : Nat) (hi : L[i]? = some (pBlk k (.cells old T fr))) (us : Array Value) : SL B w0 (w.setRow k us) (L.set i (pBlk k (.cells us T fr))) := by
 obtain ⟨b, ⟨rfl, h1⟩, h3, h4⟩ := h.upd i hi
 refine h4 _ _ (some k) ⟨rfl, rfl, rfl, by simp [World.setRow], fun m hm hne => ?_⟩ ⟨rfl, setRow_heap w k old us T fr h1⟩ (.inl rfl)
 simp only [World.setRow, Array.getElem?_modify]
 rw [if_neg (fun e => hne (by rw [e]))]
theorem wpList_stoR {e : TypeId} {x y : Operand} {k : Nat} {old us : Array Value} {T : TypeId} (i : Nat)
  (hx : a.eval x = .pointer (some ⟨k, 0, none⟩)) (hy : a.eval y = .agg us) (hS : SL B w0 w L) (hi : L[i]? = some (pBlk k (.cells old T (0, 0)))) (hz : (P.info? e).map (·.size) = some us.size) (ho : old.size = us.size) (h1 : us.all (·.oneCell') = true)
  (hK : ∀ w', SL B w0 w' (L.set i (pBlk k (.cells us T (0, 0)))) → wpList P ops Q rest (a.put none undef) w') : wpList P ops Q (⟨none, .store e x y, ty, p, af, none⟩ :: rest) a w := by
 refine wpList_plain rfl fun K hK' => ?_
 have := run_storeVar_row (P := P) w k T e old us (hS.blk i hi).1 hz ho h1
 unfold Oper.wp
 simp only [execOp, hx, hy, Instr.storeAt, Instr.sureAddr, Sem.run_bind, Sem.run_pure, Result.andThen_ok, this]
 exact hK' _ _ (hK _ (hS.setRow i hi us))
theorem results_cell {fn : Func} {tmps : Array Value} {t T k : Nat} {us : Array Value} {T' : TypeId} {fr : Nat × Nat} (h : fn.results = #[.cell t T]) (ht : tmps.getD t undef = .pointer (some ⟨k, 0, none⟩)) (hu : Aggr P T) (hz : (P.info? T).map (·.size) = some us.size) (hb : w.heap[k]? = some (.cells us T' fr)) :
  (results fn tmps).run P w = .ok (.agg us) w := by
 obtain ⟨d, hd, hdd⟩ := hu
 have := run_loadVar_row (P := P) w k T' T us fr d hb hd (by cases d <;> first | exact hdd | rfl | cases hdd) hz
 simp only [Array.getD_eq_getD_getElem?] at ht
 simp [results, h, ht, asAddr, this]
theorem results_cell2 {fn : Func} {tmps : Array Value} {t T k t2 k2 : Nat} {us us2 : Array Value} {T' T2' : TypeId} {fr fr2 : Nat × Nat} (h : fn.results = #[.cell t T, .cell t2 T]) (ht : tmps.getD t undef = .pointer (some ⟨k, 0, none⟩)) (ht2 : tmps.getD t2 undef = .pointer (some ⟨k2, 0, none⟩)) (hu : Aggr P T) (hz : (P.info? T).map (·.size) = some us.size) (hz2 : (P.info? T).map (·.size) = some us2.size)
  (hb : w.heap[k]? = some (.cells us T' fr)) (hb2 : w.heap[k2]? = some (.cells us2 T2' fr2)) :
  (results fn tmps).run P w = .ok (.tuple #[.agg us, .agg us2]) w := by
 obtain ⟨d, hd, hdd⟩ := hu
 have := run_loadVar_row (P := P) w k T' T us fr d hb hd (by cases d <;> first | exact hdd | rfl | cases hdd) hz
 have h2 := run_loadVar_row (P := P) w k2 T2' T us2 fr2 d hb2 hd (by cases d <;> first | exact hdd | rfl | cases hdd) hz2
 simp only [Array.getD_eq_getD_getElem?] at ht ht2
 simp [results, h, ht, ht2, asAddr, this, h2]
end
end Go.Proofs.YtglpfpdomnllkaaGreatDoor

namespace Go.Proofs.YtglpfpdomnllkaaGreatDoor
open Go.RowKit
section
variable {P : Program} {ops : Array Oper} {Q : Exit → Act → World → Prop} {md : Region.Mode} {C : World → Prop}

end
end Go.Proofs.YtglpfpdomnllkaaGreatDoor
