/- Contracts and plain facts that the claim uses (TyA PlA QA RlA PnA PaB PrA SmA Ps1 RE McA CyA). Conditions: as each one states. -/
import Derived.Test.YtngpopalpofhgaaGreatDoorProg
import Derived.WalkKit
import Derived.WalkSpells
import Derived.Maps.AppendAt
import Derived.Deep.Quiet
import Derived.Maps.Own
import Derived.Maps.OwnSet
import Derived.Maps.Views
import Derived.WalkLawsBesides
import Derived.Laws.EntriesVeiled
import Derived.Deep.QuietTactic
import Derived.BigQuiet
import Derived.RangeFuncNested
import Derived.RangeFuncBound
import Derived.RangeFuncCalls
import Derived.RangeFuncLeaves
import Derived.RangeFuncFrom
import Derived.Shelf.Abstract
import Derived.Shelf.RegionOpen
import Derived.OwnWalkIn
import Derived.TacticsInMore
import Derived.LoopNIn
import Derived.LoopIn
import Derived.StillTail
import Derived.Laws.Tables
import Derived.Deep.RegionHeld3
import Derived.Shelf.Strings.Trim
import Derived.Shelf.Strings.SlTrimAscii
import Derived.Shelf.Strings.Repeat
import Derived.Shelf.Strings.OnBuilder
import Derived.Shelf.Strconv.Itoa1
import Derived.Shelf.Strconv.Itoa3
import Derived.Shelf.LaysM
import Derived.Ground.Names2Prog
import Derived.Lib.OthersKept
import Derived.Deep.AppendLies
import Derived.Deep.RegionHeldLaw
import Derived.Deep.RegionLaw
import Derived.IntWalk
import Derived.Sort.LoopGhostIn
import Derived.Test.YtngpopalpofhgaaGreatDoorXz01
import Derived.Test.YtngpopalpofhgaaGreatDoorXz02
import Derived.Test.YtngpopalpofhgaaGreatDoorXz03
import Derived.Test.YtngpopalpofhgaaGreatDoorXz04
import Derived.Test.YtngpopalpofhgaaGreatDoorXz05
import Derived.Test.YtngpopalpofhgaaGreatDoorXz06
import Derived.Test.YtngpopalpofhgaaGreatDoorXz07
import Derived.Test.YtngpopalpofhgaaGreatDoorXz08
import Derived.Test.YtngpopalpofhgaaGreatDoorXz09
set_option linter.all false

namespace Go.Proofs.YtngpopalpofhgaaGreatDoor
open Go.RowKit

theorem cPair1 (x : Int × Int) : cPair x = .agg (cPair x).cells := rfl
end Go.Proofs.YtngpopalpofhgaaGreatDoor

namespace Go.Proofs.YtngpopalpofhgaaGreatDoor
open Go.RowKit
end Go.Proofs.YtngpopalpofhgaaGreatDoor

namespace Go.Proofs.YtngpopalpofhgaaGreatDoor
open Go.RowKit
set_option maxRecDepth 100000

end Go.Proofs.YtngpopalpofhgaaGreatDoor

namespace Go.Proofs.YtngpopalpofhgaaGreatDoor
open Go.RowKit Go.Maps
set_option maxRecDepth 100000

theorem mapI_made (w : World) : MapI (w.alloc (.map #[] 0)) w.heap.size 0 (fun _ => 0) :=
 ⟨.map [], World.ownsMap_made _ _ _ _, fun _ _ => rfl⟩
section
variable {ops : Array Oper} {rest : List Oper} {a : Act} {Q : Exit → Act → World → Prop} {d : Option Tmp} {ty : TypeId} {p : String} {m x y : Operand} {af : Array Edge} {g : Option (Nat × Bool)} {b n : Nat} {k : Int}
theorem wpList_lookI {w : World} {f : Int → Int} (hm : a.eval m = .map (some b)) (hx : a.eval x = .int .i64 k) (h : MapI w b n f) (hk : InI k)
   (hg : Region.wanted (⟨d, .lookup 88 m x false, ty, p, af, g⟩ : Oper) (yielded ops a.tmps) = true) (hK : wpList Tryz.prog ops Q rest (a.put d (.int .i64 (f k))) w) :
   wpList Tryz.prog ops Q (⟨d, .lookup 88 m x false, ty, p, af, g⟩ :: rest) a w := by
 refine wpList_step fun K hK' => ?_
 rw [if_pos hg]
 unfold Oper.wp
 simp [execOp, hm, hx, h.look hk, Result.andThen]
 exact hK' _ _ hK
theorem wpList_putI {w : World} {f : Int → Int} {v : Int} (hm : a.eval m = .map (some b)) (hx : a.eval x = .int .i64 k) (hy : a.eval y = .int .i64 v) (h : MapI w b n f) (hk : InI k) (hv : InI v) (hn : n < maxLen)
   (hK : ∀ w', MapI w' b (n + 1) (fun x => if x = k then v else f x) → w.grownBy w' (some b) → wpList Tryz.prog ops Q rest (a.put d undef) w') :
   wpList Tryz.prog ops Q (⟨d, .mapUpdate 88 m x y, ty, p, af, none⟩ :: rest) a w := by
 refine wpList_plain rfl fun K hK' => ?_
 obtain ⟨w', hrun, h1, h2⟩ := h.put hk hv hn
 unfold Oper.wp
 simp [execOp, hm, hx, hy, hrun, Result.andThen]
 exact hK' _ _ (hK w' h1 h2)
end
end Go.Proofs.YtngpopalpofhgaaGreatDoor

namespace Go.Proofs.YtngpopalpofhgaaGreatDoor
open Go.RowKit
set_option maxHeartbeats 400000
set_option maxRecDepth 100000

end Go.Proofs.YtngpopalpofhgaaGreatDoor

namespace Go.Proofs.YtngpopalpofhgaaGreatDoor
open Go.RowKit
set_option maxHeartbeats 400000
set_option maxRecDepth 100000

end Go.Proofs.YtngpopalpofhgaaGreatDoor

namespace Go.Proofs.YtngpopalpofhgaaGreatDoor
open Go.RowKit
set_option maxHeartbeats 400000
set_option maxRecDepth 100000

end Go.Proofs.YtngpopalpofhgaaGreatDoor

namespace Go.Proofs.YtngpopalpofhgaaGreatDoor
open Go.RowKit
set_option maxHeartbeats 400000
set_option maxRecDepth 100000

end Go.Proofs.YtngpopalpofhgaaGreatDoor

namespace Go.Proofs.YtngpopalpofhgaaGreatDoor
open Go.RowKit
set_option maxHeartbeats 400000
set_option maxRecDepth 100000

theorem own_made0 {α : Type} {c : α → Value} {sz B : Nat} {e : TypeId} (hc : ∀ x, (c x).cells.size = sz) (w : World) {H : Nat} (hH : w.heap.size = H) (hB : B ≤ H) : Own c sz B e (w.alloc (.cells #[] e)) (.slice (some ⟨H, 0, none⟩) 0 0) [] := by
 subst hH
 exact ⟨hc, World.ownsRow_made w #[] 0 hB (Nat.zero_le _) (by simp)⟩

end Go.Proofs.YtngpopalpofhgaaGreatDoor

namespace Go.Proofs.YtngpopalpofhgaaGreatDoor
open Go.RowKit
set_option maxHeartbeats 400000
set_option maxRecDepth 100000

end Go.Proofs.YtngpopalpofhgaaGreatDoor

namespace Go.Proofs.YtngpopalpofhgaaGreatDoor
open Go.RowKit
set_option maxHeartbeats 400000
set_option maxRecDepth 100000

end Go.Proofs.YtngpopalpofhgaaGreatDoor

namespace Go.Proofs.YtngpopalpofhgaaGreatDoor
open Go.RowKit
section
variable {P : Program} {ops : Array Oper} {rest : List Oper} {a : Act} {α : Type} {c : α → Value} {sz bytes : Nat} {t e : TypeId} {z : Value} {ad : Option Addr} {cap : Nat} {l : List α} {k : Int}
 {d1 d2 : Tmp} {ty1 ty2 : TypeId} {p1 p2 : String} {s x : Operand} {af1 af2 : Array Edge} {Qa : Act → Prop} {w : World}
end
end Go.Proofs.YtngpopalpofhgaaGreatDoor

namespace Go.Proofs.YtngpopalpofhgaaGreatDoor
open Go.RowKit
section
variable {P : Program} {ops : Array Oper} {rest : List Oper} {a : Act} {α : Type} {c : α → Value} {sz bytes n : Nat} {t e : TypeId} {z : Value} {ad : Option Addr} {cap : Nat} {l : List α} {k : Int}
 {d1 d2 : Tmp} {ty1 ty2 : TypeId} {p1 p2 : String} {s x : Operand} {af1 af2 : Array Edge} {g1 g2 : Option (Nat × Bool)} {Qa : Act → Prop} {w : World}
theorem wpQD_idxG (d : α) (E : ETy P t e z sz bytes) (hF : Flat P e) (hc : ∀ x, (c x).cells = #[c x])
   (hs : a.eval s = .slice ad n cap) (hx : a.eval x = .int .i64 k) (hR : Reps c sz w ad cap l) (hn : l.length = n) (h0 : 0 ≤ k) (hlt : k < n) (hd : ∀ p, (a.put (some d1) p).eval (.tmp d1) = p)
   (hw1 : Region.wanted ⟨some d1, .indexAddr t s x, ty1, p1, af1, g1⟩ (yielded ops a.tmps) = true) (hw2 : ∀ p, Region.wanted ⟨some d2, .load e (.tmp d1), ty2, p2, af2, g2⟩ (yielded ops (a.put (some d1) p).tmps) = true)
   (hK : ∀ p, wpQuiet P ops (fun w' => ∃ n, w' = w.drewN n) Qa rest ((a.put (some d1) p).put (some d2) (c (atD d l k)))) :
   wpQuiet P ops (fun w' => ∃ n, w' = w.drewN n) Qa (⟨some d1, .indexAddr t s x, ty1, p1, af1, g1⟩ :: ⟨some d2, .load e (.tmp d1), ty2, p2, af2, g2⟩ :: rest) a := by
 subst hn
 have hkl : k.toNat < l.length := by omega
 obtain ⟨b, o, rfl, hcs⟩ := hR.cells E.pos d k.toNat hkl
 have hcell := hcs 0 (c (atD d l k)) (by rw [show l.getD k.toNat d = atD d l k from rfl, hc]; rfl)
 refine wpQ_inG (.pointer (some ((⟨b, o, none⟩ : Addr).add (k.toNat * sz)))) hw1 (fun w' hw' => ?_) (wpQ_inG (c (atD d l k)) (hw2 _) (fun w' hw' => ?_) (hK _))
 ·have h1 := run_indexAt_sl (P := P) (a := ⟨b, o, none⟩) (cap := cap) w' E h0 hlt
  simp [execOp, hs, hx, h1, Result.andThen]
 ·have h2 := run_loadAt_cell (P := P) w' (a := (⟨b, o, none⟩ : Addr).add (k.toNat * sz)) (v := c (atD d l k)) hF (by
   rw [Addr.add_z]
   have hb := below_drewN hw'
   exact (hb.cell (World.block_lt_of_cell? w _ hcell)).trans hcell)
  simp [execOp, hd, h2, Result.andThen]
theorem quiet_same {f : FuncId} {args : Array Value} {n : Nat} {v : Value}
  (h : Calls P f args (w.drewN n) fun e w' => e = .returned v ∧ w.drewN n = w') : Calls P f args (w.drewN n) fun e w'' => e = .returned v ∧ ∃ m, w'' = w.drewN m :=
 h.mono fun _ _ ⟨he, hm⟩ => ⟨he, n, hm.symm⟩
end
end Go.Proofs.YtngpopalpofhgaaGreatDoor

namespace Go.Proofs.YtngpopalpofhgaaGreatDoor
open Go.RowKit
section
variable {P : Program} {ops : Array Oper} {md : Region.Mode} {C : World → Prop}

end
section
variable {P : Program} {ops : Array Oper} {Qa : Act → Prop} {w : World} {rest : List Oper} {a : Act} {ty : TypeId} {p : String} {af : Array Edge} {g : Option (Nat × Bool)} {d : Tmp}
end

section
variable {P : Program} {ops : Array Oper} {Q : Exit → Act → World → Prop} {w w0 : World} {rest : List Oper} {a : Act} {ty : TypeId} {p : String} {af : Array Edge} {g : Option (Nat × Bool)} {B : Nat} {L : List Pc}
end
end Go.Proofs.YtngpopalpofhgaaGreatDoor

namespace Go.Proofs.YtngpopalpofhgaaGreatDoor
open Go.RowKit
section
variable {P : Program} {ops : Array Oper} {Q : Exit → Act → World → Prop} {md : Region.Mode} {C : World → Prop}

theorem wp_region_pure {id : Nat} {Q : Exit → Act → World → Prop} {a : Act} {w : World} {l : List Oper} (qs : List Nat) (lo : List Oper) (g : Nat) (hlo : qs.map (fun i => l.toArray[i]?) = lo.map some) (hg : g + qs.length = l.length) (hm : P.follows .mixedOrders = true)
  (hsel : Region.noSelect l.toArray = true) (hB : Region.firstB .any l.toArray qs (Array.replicate l.length false) = true) (hC : C { w with drawn := w.drawn + 1 })
  (h : wpPure P l.toArray C (fun a' => wpAnyC P .any l.toArray C (NoPanic Q) g (listAll (Array.replicate l.length false) qs) a' { w with drawn := w.drawn + 1 }) lo a) : (Code.region id l.toArray true).wp P Q a w := by
 refine wp_region_noPanic (wp_region_any hm ?_)
 have := wpAnyC_pure (md := .any) hsel (fun c a w h => h) hC qs lo _ a hlo hB h
 rw [hg] at this
 simpa using wpAny_of_C _ _ _ _ this
end
end Go.Proofs.YtngpopalpofhgaaGreatDoor

namespace Go.Proofs.YtngpopalpofhgaaGreatDoor
open Go.RowKit
set_option maxHeartbeats 400000
set_option maxRecDepth 100000

theorem size_any (n : Int) (w : World) (h : -9223372036854775807 ≤ n) (h2 : n ≤ 9223372036854775807) :
  Calls Tryz.prog 48 #[.int .i64 n] w fun r w' => r = .returned (.int .i64 (absI n)) ∧ w = w' := by
 have hmx : max n (-n) = absI n := by unfold absI; split <;> omega
 go_enter Tryz.func48, Tryz.ntmps48
 go_wp2
 all_goals
  go_ret
  exact ⟨by first | rfl | (rw [show absI n = -n by unfold absI; split <;> omega]; rfl) | (rw [show absI n = n by unfold absI; split <;> omega]; rfl) | (rw [← hmx]; rfl) | simp [hmx], rfl⟩
end Go.Proofs.YtngpopalpofhgaaGreatDoor

namespace Go.Proofs.YtngpopalpofhgaaGreatDoor
open Go.RowKit
set_option maxHeartbeats 400000
set_option maxRecDepth 100000

end Go.Proofs.YtngpopalpofhgaaGreatDoor

namespace Go.Proofs.YtngpopalpofhgaaGreatDoor
open Go.RowKit
set_option maxHeartbeats 400000
set_option maxRecDepth 100000

/-- how many letters from the k-th on follow the first one in a direction. -/
def runGo (l : List Int) (by_ : Int) : Nat → Nat → Nat
 | k, 0 => k
 | k, f + 1 => if k < l.length ∧ absI (atD 0 l k) = absI (atD 0 l 0) + by_ * k then runGo l by_ (k + 1) f else k
def runN (l : List Int) (by_ : Int) : Nat := runGo l by_ 1 l.length

theorem run_any (b : Int) (a : Option Addr) (cap : Nat) (l : List Int) (w : World) (hS : Ints w a cap l) (hb : b = 1 ∨ b = -1) (h0 : 0 < l.length) (hsm : l.length ≤ 1048576) (hL : ∀ k : Nat, k < l.length → -1000 ≤ atD 0 l k ∧ atD 0 l k ≤ 1000) :
  Calls Tryz.prog 47 #[.slice a l.length cap, .int .i64 b] w fun r w' => r = .returned (.int .i64 (runN l b)) ∧ Below w.heap.size w w' := by
 have hcap := hS.le
 have hm := hS.max
 go_enter Tryz.func47, Tryz.ntmps47
 go_wp2
 go_loopw [5] (fun i wr => ∃ k f : Nat, 1 ≤ k ∧ k ≤ l.length ∧ l.length ≤ k + f ∧ i = .int .i64 k ∧ runGo l b k f = runN l b ∧ Below w.heap.size w wr) (fun i _ => l.length - (intOf i).toNat)
 case atStart => exact ⟨1, l.length, by omega, by omega, by omega, rfl, rfl, Below.refl _ _⟩
 case round =>
  obtain ⟨k, f, hk1, hk, hf, rfl, hr, hbr⟩ := hrel
  have HR := hid hr; clear hr
  have hSr := hS.below hbr
  have hl0 := hL 0 h0
  by_cases hlt : k < l.length
  ·have hlk := hL k hlt
   have hd : decide (k < l.length) = true := by simpa using hlt
   have c1 : ∀ w' : World, Calls Tryz.prog 48 #[.int .i64 (atD 0 l k)] w' fun r w'' => r = .returned (.int .i64 (absI (atD 0 l k))) ∧ w' = w'' := fun w' => size_any _ w' (by omega) (by omega)
   have c2 : ∀ w' : World, Calls Tryz.prog 48 #[.int .i64 (atD 0 l 0)] w' fun r w'' => r = .returned (.int .i64 (absI (atD 0 l 0))) ∧ w' = w'' := fun w' => size_any _ w' (by simp at hl0; omega) (by simp at hl0; omega)
   have C1 := hid c1; clear c1
   have C2 := hid c2; clear c2
   go_wp2_with fail
   refine wp_region_quiet_lit kR kR ?_
   repeat (first | ((with_reducible refine wpQD_idxG 0 E_ints F_int cInt1 wU wU (hSr) (rfl) oD oD (fun _ => wU) wU (fun _ => wU) (fun _ => ?_)); (try simp only [Act.put, pA, pB, pC]); (try simp only [cInt])) | quiet_step (first | exact quiet_same (C1.out _) | exact quiet_same (C2.out _)))
   refine wpQuiet_nil ?_
   intro w2 hb2
   replace hb2 := below_drewN hb2
   have hbk : -1048576 ≤ b * (k : Int) ∧ b * (k : Int) ≤ 1048576 := by
    rcases hb with rfl | rfl
    ·omega
    ·omega
   have ha0 : 0 ≤ absI (atD 0 l 0) ∧ absI (atD 0 l 0) ≤ 1000 := by simp at hl0; unfold absI; split <;> omega
   have hw1 : IntKind.i64.wrap (b * (k : Int)) = b * k := IntWalk.i64_in _ (by omega)
   have hw2 : IntKind.i64.wrap (absI (atD 0 l 0) + b * (k : Int)) = absI (atD 0 l 0) + b * k := IntWalk.i64_in _ (by omega)
   have HW1 := hid hw1; clear hw1
   have HW2 := hid hw2; clear hw2
   have HBK := hid hbk; clear hbk
   obtain ⟨g, rfl⟩ : ∃ g, f = g + 1 := ⟨f - 1, by omega⟩
   go_wp2_with fail
   ·have hq : (absI (atD 0 l k) == IntKind.i64.wrap (absI (atD 0 l 0) + IntKind.i64.wrap (b * (k : Int)))) = true := by assumption
    rw [HW1.out, HW2.out] at hq
    have hr := HR.out
    rw [runGo, if_pos ⟨hlt, by simpa using hq⟩] at hr
    exact ⟨⟨k + 1, g, by omega, by omega, by omega, by go_num, hr, bnext hbr hb2⟩, by simp [intOf]; omega⟩
   ·have hq : (absI (atD 0 l k) == IntKind.i64.wrap (absI (atD 0 l 0) + IntKind.i64.wrap (b * (k : Int)))) = false := by assumption
    rw [HW1.out, HW2.out] at hq
    have hr := HR.out
    rw [runGo, if_neg (fun h => by simp [h.2] at hq)] at hr
    go_ret
    exact ⟨by rw [← hr]; rfl, bnext hbr hb2⟩
  ·have hd : decide (k < l.length) = false := by simpa using hlt
   have hr := HR.out
   have hr2 : k = runN l b := by
    rw [← hr]
    cases f with
    | zero => rfl
    | succ f => rw [runGo, if_neg (fun h => hlt h.1)]
   have HR2 := hid hr2; clear hr2 hr
   go_wp2_with fail
   refine wp_region_quiet_lit kR kR ?_
   repeat (first | ((with_reducible refine wpQ_skip wU ?_); (try simp only [Act.put, pA, pB, pC])) | quiet_step (fail))
   refine wpQuiet_nil ?_
   intro w2 hb2
   replace hb2 := below_drewN hb2
   go_wp2_with fail
   go_ret
   exact ⟨by rw [← HR2.out]; rfl, bnext hbr hb2⟩
end Go.Proofs.YtngpopalpofhgaaGreatDoor

namespace Go.Proofs.YtngpopalpofhgaaGreatDoor
open Go.RowKit
set_option maxHeartbeats 1000000
set_option maxRecDepth 100000

end Go.Proofs.YtngpopalpofhgaaGreatDoor

namespace Go.Proofs.YtngpopalpofhgaaGreatDoor
open Go.RowKit
set_option maxHeartbeats 1000000
set_option maxRecDepth 100000

end Go.Proofs.YtngpopalpofhgaaGreatDoor

namespace Go.Proofs.YtngpopalpofhgaaGreatDoor
open Go.RowKit
set_option maxHeartbeats 1000000
set_option maxRecDepth 100000

/-- A row in block R: its strands and its crossings, both in blocks from B on. -/
def RowAt (w : World) (R B : Nat) (st : List Int) (cr : List (Int × Int)) : Prop :=
 ∃ g cap vc, w.heap[R]? = some (.cells #[.slice (some ⟨g, 0, none⟩) st.length cap, vc] 79 (0, 0)) ∧ OwnI B w (.slice (some ⟨g, 0, none⟩) st.length cap) st ∧ OwnP B 42 w vc cr ∧ vc.ownBlock ≠ some g ∧ R < B
theorem info_cross : (Tryz.prog.info? 42).map (fun i => (i.zero, i.size, i.bytes)) = some (some (.agg #[.int .i64 0, .int .i64 0]), 2, 16) := by kernel_rfl

def crossOf (st : List Int) (x : Int) : Int × Int := if x < 0 then (atD 0 st (absI x), atD 0 st (absI x - 1)) else (atD 0 st (absI x - 1), atD 0 st (absI x))
theorem write_mid {W w3 : World} {o : Obj} {R B g gg cap cp : Nat} {vc : Value} {st : List Int} {cr : List (Int × Int)} {x y : Int}
  (hrow : W.heap[R]? = some (.cells #[.slice (some ⟨g, 0, none⟩) st.length cap, vc] 79 (0, 0))) (hO : OwnI B W (.slice (some ⟨g, 0, none⟩) st.length cap) st) (hsep : vc.ownBlock ≠ some g) (hR : R < B) (hB : B ≤ W.heap.size) (hCW : OwnP B 42 W vc cr)
  (hg : ((W.alloc o).drew).grownBy w3 vc.ownBlock) (hown3 : w3.ownsRow B 42 2 (.slice (some ⟨gg, 0, none⟩) (cr.length + 1) cp) (cr.length + 1) ((cr.flatMap fun x => (cPair x).cells.toList) ++ [.int .i64 x, .int .i64 y])) (hat : vc.ownBlock = some gg ∨ gg = W.heap.size + 1) :
  (w3.setCell ⟨R, 1, none⟩ (.slice (some ⟨gg, 0, none⟩) (cr.length + 1) cp)).heap[R]? = some (.cells #[.slice (some ⟨g, 0, none⟩) st.length cap, .slice (some ⟨gg, 0, none⟩) (cr.length + 1) cp] 79 (0, 0)) ∧
  OwnI B (w3.setCell ⟨R, 1, none⟩ (.slice (some ⟨gg, 0, none⟩) (cr.length + 1) cp)) (.slice (some ⟨g, 0, none⟩) st.length cap) st ∧
  OwnP B 42 (w3.setCell ⟨R, 1, none⟩ (.slice (some ⟨gg, 0, none⟩) (cr.length + 1) cp)) (.slice (some ⟨gg, 0, none⟩) (cr.length + 1) cp) (cr ++ [(x, y)]) ∧ gg ≠ g ∧
  Below R W (w3.setCell ⟨R, 1, none⟩ (.slice (some ⟨gg, 0, none⟩) (cr.length + 1) cp)) := by
 have hvR : vc.ownBlock ≠ some R := fun e => by have := (hCW.lt _ e).1; omega
 have hRl : R < W.heap.size := by omega
 have hgl := hO.lt g rfl
 have hb0 : Below W.heap.size W ((W.alloc o).drew) := ((Below.refl _ _).alloc (Nat.le_refl _) _).drew
 have hr3 : w3.heap[R]? = some (.cells #[.slice (some ⟨g, 0, none⟩) st.length cap, vc] 79 (0, 0)) :=
  (hg.block R (by show R < ((W.alloc o)).heap.size; simp; omega) (Ne.symm hvR)).trans ((hb0.block R hRl).trans hrow)
 refine ⟨?_, ?_, ?_, ?_, ?_⟩
 ·rw [heap_setCell_same w3 R 1 _ _ _ hr3]; rfl
 ·have h1 : OwnI B w3 (.slice (some ⟨g, 0, none⟩) st.length cap) st := ((hO.alloc o).drew).kept hg (.inr (fun e => hsep e.symm))
  exact ⟨h1.1, ownsRow_setCell_below h1.2 hR _⟩
 ·refine ⟨cPairS, ?_⟩
  have := ownsRow_setCell_below hown3 (a := ⟨R, 1, none⟩) hR (.slice (some ⟨gg, 0, none⟩) (cr.length + 1) cp)
  simpa [cPair, Value.cells] using this
 ·rcases hat with h | h
  ·intro e; rw [e] at h; exact hsep h
  ·omega
 ·refine Below.setCell (p := ⟨R, 1, none⟩) ?_ (Nat.le_refl _) _
  show Below R W w3
  exact (hb0.mono (B' := R) (by omega)).grown hg (by show R ≤ ((W.alloc o)).heap.size; simp; omega) (fun j hj => by have := (hCW.lt j hj).1; omega)

theorem write_end {W W4 : World} {R B g gg cap : Nat} {st : List Int} {cr2 : List (Int × Int)} {k : Int} {vv : Value} (h1 : 1 ≤ k) (h2 : k < st.length) (hR : R < B) (hgg : vv.ownBlock = some gg)
  (m1 : W4.heap[R]? = some (.cells #[.slice (some ⟨g, 0, none⟩) st.length cap, vv] 79 (0, 0))) (m2 : OwnI B W4 (.slice (some ⟨g, 0, none⟩) st.length cap) st) (m3 : OwnP B 42 W4 vv cr2) (m4 : gg ≠ g) (m5 : Below R W W4) :
  RowAt ((W4.setCell ⟨g, (k - 1).toNat, none⟩ (.int .i64 (atD 0 st k))).setCell ⟨g, k.toNat, none⟩ (.int .i64 (atD 0 st (k - 1)))).drew R B (swapL st k) cr2 ∧ Below R W ((W4.setCell ⟨g, (k - 1).toNat, none⟩ (.int .i64 (atD 0 st k))).setCell ⟨g, k.toNat, none⟩ (.int .i64 (atD 0 st (k - 1)))).drew := by
 obtain ⟨g', eg, hgB, _, _, ho1, hg1⟩ := own_store cInt1 m2 (atD 0 st k) (k - 1) (by omega) (by omega)
 cases eg
 have ho1' : OwnI B (W4.setCell ⟨g, (k - 1).toNat, none⟩ (cInt (atD 0 st k))) (.slice (some ⟨g, 0, none⟩) (st.set (k - 1).toNat (atD 0 st k)).length cap) (st.set (k - 1).toNat (atD 0 st k)) := by simpa using ho1
 obtain ⟨g', eg, _, _, _, ho2, hg2⟩ := own_store cInt1 ho1' (atD 0 st (k - 1)) k (by omega) (by simp; omega)
 cases eg
 have hRg : R ≠ g := by omega
 have hl : (swapL st k).length = st.length := by simp [swapL]
 refine ⟨⟨g, cap, vv, ?_, ?_, ?_, ?_, hR⟩, ?_⟩
 ·rw [hl]
  have e1 := hg1.block R (Array.getElem?_eq_some_iff.1 m1).1 (by simpa using hRg)
  have e2 := hg2.block R (by have := hg1.size; have := (Array.getElem?_eq_some_iff.1 m1).1; omega) (by simpa using hRg)
  exact (e2.trans e1).trans m1
 ·rw [hl]
  have : OwnI B ((W4.setCell ⟨g, (k - 1).toNat, none⟩ (cInt (atD 0 st k))).setCell ⟨g, k.toNat, none⟩ (cInt (atD 0 st (k - 1)))) (.slice (some ⟨g, 0, none⟩) st.length cap) (swapL st k) := by simpa [swapL] using ho2
  exact this.drew
 ·exact ((m3.kept hg1 (.inr (by rw [hgg]; simpa using m4))).kept hg2 (.inr (by rw [hgg]; simpa using m4))).drew
 ·rw [hgg]; simpa using m4
 ·have z1 := m5.size
  have hRl := (Array.getElem?_eq_some_iff.1 m1).1
  have b1 := m5.grown hg1 (by omega) (fun j hj => by cases hj; omega)
  exact (b1.grown hg2 (by have := hg1.size; omega) (fun j hj => by cases hj; omega)).drew

theorem write_any (R B : Nat) (x : Int) (st : List Int) (cr : List (Int × Int)) (w : World) (hR : RowAt w R B st cr) (hB : B ≤ w.heap.size) (hx : -1000 ≤ x ∧ x ≤ 1000) (h1 : 1 ≤ absI x) (h2 : absI x < st.length) (hst : st.length ≤ 1000) (hcr : cr.length ≤ 100000) :
  Calls Tryz.prog 111 #[.pointer (some ⟨R, 0, none⟩), .int .i64 x] w fun r w' => r = .returned (.tuple #[]) ∧ RowAt w' R B (swapL st (absI x)) (cr ++ [crossOf st x]) ∧ Below R w w' := by
 obtain ⟨g, cap, vc, hrow, hO, hC, hsep, hRB⟩ := hR
 obtain ⟨i0, hi0, hz0, hz1, hz2⟩ := info_parts info_cross
 have c0 : w.cell? ⟨R, 0, none⟩ = some (.slice (some ⟨g, 0, none⟩) st.length cap) := by rw [cell_of_row _ _ _ _ _ _ hrow]; rfl
 have c1 : w.cell? ⟨R, 1, none⟩ = some vc := by rw [cell_of_row _ _ _ _ _ _ hrow]; rfl
 obtain ⟨a1, cap1, e1, hS, _, _⟩ := hO.reps
 simp only [Value.slice.injEq, true_and] at e1
 obtain ⟨rfl, rfl⟩ := e1
 obtain ⟨k, hk⟩ : ∃ k, k = absI x := ⟨_, rfl⟩
 have hsz := size_any x w (by omega) (by omega)
 rw [← hk] at hsz h1 h2
 have HSZ := hid hsz; clear hsz
 have HK := hid hk; clear hk
 have HROW := hid hrow; clear hrow
 go_enter Tryz.func111, Tryz.ntmps111
 go_wp2_with fail
 refine HSZ.out.mono ?_
 rintro e w' ⟨rfl, rfl⟩
 go_wp2_with fail
 have hw1 : IntKind.i64.wrap (k - 1) = k - 1 := IntWalk.i64_in _ (by omega)
 refine wp_region_quiet_lit kR kR ?_
 repeat (first | ((with_reducible refine wpQD_idx 0 E_ints F_int cInt1 wU wU (hS) oD oD (fun _ => wU) (fun _ => ?_)); (try simp only [Act.put, pA, pB, pC]); (try simp only [cInt])) | quiet_step (fail))
 refine wpQuiet_nil ?_
 intro w2 hb2
 replace hb2 := below_drewN hb2
 clear hw1
 have HC2 := hid (hC.below hb2)
 have HO2 := hid (hO.below hb2)
 have hRl : R < w.heap.size := by omega
 have hrow2 : w2.heap[R]? = some (.cells #[.slice (some ⟨g, 0, none⟩) st.length cap, vc] 79 (0, 0)) := (hb2.block R hRl).trans HROW.out
 have hb2s := hb2.size
 have HROW2 := hid hrow2; clear hrow2
 by_cases hneg : x < 0
 ·have hX : crossOf st x = (atD 0 st k, atD 0 st (k - 1)) := by rw [crossOf, if_pos hneg, ← HK.out]
  have HX := hid hX; clear hX
  go_wp2_with fail
  obtain ⟨W, hW⟩ : ∃ W, W = (w2.alloc (.cells #[.int .i64 (atD 0 st k), .int .i64 (atD 0 st (k - 1))] 42)) := ⟨_, rfl⟩
  rw [← hW]
  have d1 : W.cell? ⟨R, 1, none⟩ = some vc := by rw [hW, cell_of_row _ R 1 #[.slice (some ⟨g, 0, none⟩) st.length cap, vc] 79 (0, 0) (by rw [Below.heap_alloc _ _ _ (by omega)]; exact HROW2.out)]; rfl
  have f1 : W.frozen? ⟨R, 1, none⟩ = false := by rw [hW]; exact frozen_of_row _ R 1 #[.slice (some ⟨g, 0, none⟩) st.length cap, vc] 79 (by rw [Below.heap_alloc _ _ _ (by omega)]; exact HROW2.out)
  have b0 : W.cell? ⟨w2.heap.size, 0, none⟩ = some (.int .i64 (atD 0 st k)) := by rw [hW]; simp [go_sem]
  have b1 : W.cell? ⟨w2.heap.size, 1, none⟩ = some (.int .i64 (atD 0 st (k - 1))) := by rw [hW]; simp [go_sem]
  have hCW : OwnP B 42 W vc cr := by rw [hW]; exact HC2.out.alloc _
  have hWs : W.heap.size = w2.heap.size + 1 := by rw [hW]; simp
  have hrowW : W.heap[R]? = some (.cells #[.slice (some ⟨g, 0, none⟩) st.length cap, vc] 79 (0, 0)) := by rw [hW, Below.heap_alloc _ _ _ (by omega)]; exact HROW2.out
  have hOW : OwnI B W (.slice (some ⟨g, 0, none⟩) st.length cap) st := by rw [hW]; exact HO2.out.alloc _
  have BW := hid (show Below R w W by rw [hW]; exact ((hb2.mono (B' := R) (by omega)).alloc (by omega) _))
  obtain ⟨bx, hbx⟩ : ∃ bx, bx = w2.heap.size := ⟨_, rfl⟩
  rw [← hbx] at b0 b1 hWs ⊢
  have HW := hid hW; clear hW
  have HROWW := hid hrowW; clear hrowW
  have HOWW := hid hOW; clear hOW
  have HBX := hid hbx; clear hbx
  have HWS := hid hWs; clear hWs
  have hlt1 : B ≤ W.heap.size := by rw [HWS.out, HBX.out]; omega
  have hlt2 : bx < W.heap.size := by rw [HWS.out]; omega
  have hltR : R < W.heap.size := by omega
  have hne1 : vc.ownBlock ≠ some R := fun e => by have := (hCW.lt _ e).1; omega
  have hne2 : vc.ownBlock ≠ some bx := fun e => by have := (HC2.out.lt _ e).2; rw [HBX.out] at this; omega
  have hcrl : cr.length + 1 ≤ maxLen := by unfold maxLen; omega
  go_region_law
   ((refine step_append_lies _ (by rfl) _ _ _ (by rfl) B 42 i0 _ 2 16 Tryz.underlying25 hi0 hz0 hz1 hz2 rfl (by omega) vc cr.length _ (by rfl) ((hCW.2.alloc _).drew) ⟨W.heap.size, 0, none⟩ 1 1 [.int .i64 (atD 0 st k), .int .i64 (atD 0 st (k - 1))] (by rfl) (by rfl) (World.news_of_block (cs := #[.int .i64 (atD 0 st k), .int .i64 (atD 0 st (k - 1))]) (t := 42) (fr := (0, 0)) (heap_alloc_new W _)) (by simp [Value.oneCell']) (by omega) hcrl (by omega) (by simp; omega) (W.heap.size + 1) (by simp) ?_; intro gg cp w3 hown3 hgrow3 hat3 hlt3; have e1 := hgrow3.cell_far ⟨R, 1, none⟩ (by simp; omega) (Ne.symm hne1); have e2 := hgrow3.frozen_far ⟨R, 1, none⟩ (by simp; omega) (Ne.symm hne1); simp [d1, f1, hltR] at e1 e2))
  all_goals
   have hmid := write_mid (W := W) HROWW.out HOWW.out hsep hRB hlt1 hCW hgrow3 hown3 hat3
   obtain ⟨m1, m2, m3, m4, m5⟩ := hmid
   generalize w3.setCell ⟨R, 1, none⟩ (.slice (some ⟨gg, 0, none⟩) (cr.length + 1) cp) = W4 at *
   clear e1 e2 hown3 hgrow3
   have M := hid (And.intro m1 (And.intro m2 (And.intro m3 (And.intro m4 m5))))
   have q0 : W4.cell? ⟨R, 0, none⟩ = some (.slice (some ⟨g, 0, none⟩) st.length cap) := by rw [cell_of_row _ _ _ _ _ _ m1]; rfl
   obtain ⟨g', eg, _, hck, hfk, _⟩ := own_store cInt1 m2 0 k (by omega) (by omega)
   cases eg
   obtain ⟨g', eg, _, hck1, hfk1, _⟩ := own_store cInt1 m2 0 (k - 1) (by omega) (by omega)
   cases eg
   have ek : (k - 1).toNat = k.toNat - 1 := by omega
   rw [ek] at hck1 hfk1
   have EK := hid ek; clear ek
   obtain ⟨vk, hvk⟩ := Option.isSome_iff_exists.1 hck
   obtain ⟨vk1, hvk1⟩ := Option.isSome_iff_exists.1 hck1
   clear m1 m2 m3 m4 m5 hck hck1
   obtain ⟨vf, hvf⟩ := cell?_setCell_some (w := W4) (p := ⟨g, k.toNat - 1, none⟩) (x := .int .i64 (atD 0 st k)) (q := ⟨g, k.toNat, none⟩) (v := vk) hvk
   have hnx : ¬ R = g := by have := HOWW.out.lt g rfl; omega
   have hkl : k - 1 < (st.length : Int) := by omega
   have hnx2 : ¬ g = R := fun h => hnx h.symm
   go_wp2_with fail
   have hw1 : IntKind.i64.wrap (k - 1) = k - 1 := IntWalk.i64_in _ (by omega)
   go_region
   clear hw1
   go_wp2_with fail
   go_end0
   have hE := write_end h1 h2 hRB rfl M.out.1 M.out.2.1 M.out.2.2.1 M.out.2.2.2.1 (BW.out.trans M.out.2.2.2.2)
   rw [EK.out] at hE
   refine ⟨rfl, ?_, ?_⟩
   ·rw [← HK.out, HX.out]; exact hE.1
   ·exact hE.2
 ·have hX : crossOf st x = (atD 0 st (k - 1), atD 0 st k) := by rw [crossOf, if_neg hneg, ← HK.out]
  have HX := hid hX; clear hX
  go_wp2_with fail
  obtain ⟨W, hW⟩ : ∃ W, W = (w2.alloc (.cells #[.int .i64 (atD 0 st (k - 1)), .int .i64 (atD 0 st k)] 42)) := ⟨_, rfl⟩
  rw [← hW]
  have d1 : W.cell? ⟨R, 1, none⟩ = some vc := by rw [hW, cell_of_row _ R 1 #[.slice (some ⟨g, 0, none⟩) st.length cap, vc] 79 (0, 0) (by rw [Below.heap_alloc _ _ _ (by omega)]; exact HROW2.out)]; rfl
  have f1 : W.frozen? ⟨R, 1, none⟩ = false := by rw [hW]; exact frozen_of_row _ R 1 #[.slice (some ⟨g, 0, none⟩) st.length cap, vc] 79 (by rw [Below.heap_alloc _ _ _ (by omega)]; exact HROW2.out)
  have b0 : W.cell? ⟨w2.heap.size, 0, none⟩ = some (.int .i64 (atD 0 st (k - 1))) := by rw [hW]; simp [go_sem]
  have b1 : W.cell? ⟨w2.heap.size, 1, none⟩ = some (.int .i64 (atD 0 st k)) := by rw [hW]; simp [go_sem]
  have hCW : OwnP B 42 W vc cr := by rw [hW]; exact HC2.out.alloc _
  have hWs : W.heap.size = w2.heap.size + 1 := by rw [hW]; simp
  have hrowW : W.heap[R]? = some (.cells #[.slice (some ⟨g, 0, none⟩) st.length cap, vc] 79 (0, 0)) := by rw [hW, Below.heap_alloc _ _ _ (by omega)]; exact HROW2.out
  have hOW : OwnI B W (.slice (some ⟨g, 0, none⟩) st.length cap) st := by rw [hW]; exact HO2.out.alloc _
  have BW := hid (show Below R w W by rw [hW]; exact ((hb2.mono (B' := R) (by omega)).alloc (by omega) _))
  obtain ⟨bx, hbx⟩ : ∃ bx, bx = w2.heap.size := ⟨_, rfl⟩
  rw [← hbx] at b0 b1 hWs ⊢
  have HW := hid hW; clear hW
  have HROWW := hid hrowW; clear hrowW
  have HOWW := hid hOW; clear hOW
  have HBX := hid hbx; clear hbx
  have HWS := hid hWs; clear hWs
  have hlt1 : B ≤ W.heap.size := by rw [HWS.out, HBX.out]; omega
  have hlt2 : bx < W.heap.size := by rw [HWS.out]; omega
  have hltR : R < W.heap.size := by omega
  have hne1 : vc.ownBlock ≠ some R := fun e => by have := (hCW.lt _ e).1; omega
  have hne2 : vc.ownBlock ≠ some bx := fun e => by have := (HC2.out.lt _ e).2; rw [HBX.out] at this; omega
  have hcrl : cr.length + 1 ≤ maxLen := by unfold maxLen; omega
  go_region_law
   ((refine step_append_lies _ (by rfl) _ _ _ (by rfl) B 42 i0 _ 2 16 Tryz.underlying25 hi0 hz0 hz1 hz2 rfl (by omega) vc cr.length _ (by rfl) ((hCW.2.alloc _).drew) ⟨W.heap.size, 0, none⟩ 1 1 [.int .i64 (atD 0 st (k - 1)), .int .i64 (atD 0 st k)] (by rfl) (by rfl) (World.news_of_block (cs := #[.int .i64 (atD 0 st (k - 1)), .int .i64 (atD 0 st k)]) (t := 42) (fr := (0, 0)) (heap_alloc_new W _)) (by simp [Value.oneCell']) (by omega) hcrl (by omega) (by simp; omega) (W.heap.size + 1) (by simp) ?_; intro gg cp w3 hown3 hgrow3 hat3 hlt3; have e1 := hgrow3.cell_far ⟨R, 1, none⟩ (by simp; omega) (Ne.symm hne1); have e2 := hgrow3.frozen_far ⟨R, 1, none⟩ (by simp; omega) (Ne.symm hne1); simp [d1, f1, hltR] at e1 e2))
  all_goals
   have hmid := write_mid (W := W) HROWW.out HOWW.out hsep hRB hlt1 hCW hgrow3 hown3 hat3
   obtain ⟨m1, m2, m3, m4, m5⟩ := hmid
   generalize w3.setCell ⟨R, 1, none⟩ (.slice (some ⟨gg, 0, none⟩) (cr.length + 1) cp) = W4 at *
   clear e1 e2 hown3 hgrow3
   have M := hid (And.intro m1 (And.intro m2 (And.intro m3 (And.intro m4 m5))))
   have q0 : W4.cell? ⟨R, 0, none⟩ = some (.slice (some ⟨g, 0, none⟩) st.length cap) := by rw [cell_of_row _ _ _ _ _ _ m1]; rfl
   obtain ⟨g', eg, _, hck, hfk, _⟩ := own_store cInt1 m2 0 k (by omega) (by omega)
   cases eg
   obtain ⟨g', eg, _, hck1, hfk1, _⟩ := own_store cInt1 m2 0 (k - 1) (by omega) (by omega)
   cases eg
   have ek : (k - 1).toNat = k.toNat - 1 := by omega
   rw [ek] at hck1 hfk1
   have EK := hid ek; clear ek
   obtain ⟨vk, hvk⟩ := Option.isSome_iff_exists.1 hck
   obtain ⟨vk1, hvk1⟩ := Option.isSome_iff_exists.1 hck1
   clear m1 m2 m3 m4 m5 hck hck1
   obtain ⟨vf, hvf⟩ := cell?_setCell_some (w := W4) (p := ⟨g, k.toNat - 1, none⟩) (x := .int .i64 (atD 0 st k)) (q := ⟨g, k.toNat, none⟩) (v := vk) hvk
   have hnx : ¬ R = g := by have := HOWW.out.lt g rfl; omega
   have hkl : k - 1 < (st.length : Int) := by omega
   have hnx2 : ¬ g = R := fun h => hnx h.symm
   go_wp2_with fail
   have hw1 : IntKind.i64.wrap (k - 1) = k - 1 := IntWalk.i64_in _ (by omega)
   go_region
   clear hw1
   go_wp2_with fail
   go_end0
   have hE := write_end h1 h2 hRB rfl M.out.1 M.out.2.1 M.out.2.2.1 M.out.2.2.2.1 (BW.out.trans M.out.2.2.2.2)
   rw [EK.out] at hE
   refine ⟨rfl, ?_, ?_⟩
   ·rw [← HK.out, HX.out]; exact hE.1
   ·exact hE.2
end Go.Proofs.YtngpopalpofhgaaGreatDoor

namespace Go.Proofs.YtngpopalpofhgaaGreatDoor
open Go.RowKit
set_option maxHeartbeats 1000000
set_option maxRecDepth 100000

theorem far_cell {w w3 : World} {o : Obj} {row : Option Nat} (hg : (w.alloc o).grownBy w3 row) {p : Addr} {v : Value} (h : w.cell? p = some v) (hne : row ≠ some p.block) : w3.cell? p = some v := by
 have hl := World.block_lt_of_cell? w _ h
 have hb : Below w.heap.size w (w.alloc o) := (Below.refl _ _).alloc (Nat.le_refl _) _
 rw [hg.cell_far p (by simp; omega) (Ne.symm hne), hb.cell hl, h]
theorem far_frozen {w w3 : World} {o : Obj} {row : Option Nat} (hg : (w.alloc o).grownBy w3 row) {p : Addr} {v : Value} {b : Bool} (h : w.cell? p = some v) (hf : w.frozen? p = b) (hne : row ≠ some p.block) : w3.frozen? p = b := by
 have hl := World.block_lt_of_cell? w _ h
 have hb : Below w.heap.size w (w.alloc o) := (Below.refl _ _).alloc (Nat.le_refl _) _
 rw [hg.frozen_far p (by simp; omega) (Ne.symm hne), hb.frozen hl, hf]

def rowGo : List Int → List (Int × Int) → List Int → List Int × List (Int × Int)
 | st, cr, [] => (st, cr)
 | st, cr, x :: r => rowGo (swapL st (absI x)) (cr ++ [crossOf st x]) r
def startL (n : Nat) : List Int := (List.range n).map fun (i : Nat) => (i : Int) + 1
theorem startL_succ (n : Nat) : startL (n + 1) = startL n ++ [(n : Int) + 1] := by simp [startL, List.range_succ]
theorem startL_len (n : Nat) : (startL n).length = n := by simp [startL]
def rowL (n : Nat) (ws : List Int) : List Int × List (Int × Int) := rowGo (startL n) [] ws
def fitsW (n : Nat) (ws : List Int) : Prop := ∀ x ∈ ws, -1000 ≤ x ∧ x ≤ 1000 ∧ 1 ≤ absI x ∧ absI x < n
theorem rowGo_step (st : List Int) (cr : List (Int × Int)) (ws : List Int) (k : Nat) (h : k < ws.length) : rowGo st cr (ws.drop k) = rowGo (swapL st (absI (atD 0 ws k))) (cr ++ [crossOf st (atD 0 ws k)]) (ws.drop (k + 1)) := by
 have e2 : atD 0 ws k = ws[k] := by simp [atD, h]
 rw [List.drop_eq_getElem_cons h, rowGo, e2]

theorem rowOf_any (n : Nat) (a : Option Addr) (cap : Nat) (ws : List Int) (w : World) (hS : Ints w a cap ws) (hn : 1 ≤ n) (hn2 : n ≤ 100) (hws : ws.length ≤ 100000) (hf : fitsW n ws) :
  Calls Tryz.prog 45 #[.int .i64 n, .slice a ws.length cap] w fun r w' => r = .returned (.pointer (some ⟨w.heap.size, 0, none⟩)) ∧ RowAt w' w.heap.size (w.heap.size + 1) (rowL n ws).1 (rowL n ws).2 ∧ Below w.heap.size w w' := by
 have hcap := hS.le
 have hm := hS.max
 have HF := hid hf; clear hf
 go_enter Tryz.func45, Tryz.ntmps45
 go_wp2_with fail
 go_loopw [13, 6] (fun i _ wr => ∃ (k : Nat) (vs : Value), k ≤ n ∧ i = .int .i64 k ∧ wr.heap[w.heap.size]? = some (.cells #[vs, .slice none 0 0] 79 (0, 0)) ∧ OwnI (w.heap.size + 1) wr vs (startL k) ∧ Below w.heap.size w wr ∧ w.heap.size + 1 ≤ wr.heap.size) (fun i _ _ => n - (intOf i).toNat)
 case atStart => exact ⟨0, .slice none 0 0, by omega, rfl, heap_alloc_new w _, own_nil cIntS, bal (Below.refl _ _) _, by simp⟩
 case round =>
  obtain ⟨k, vs, hk, rfl, hrow, hO, hbr, hsz⟩ := hrel
  have hle : (startL k).length ≤ 100 := by rw [startL_len]; exact Nat.le_trans hk hn2
  have c0 : wr.cell? ⟨w.heap.size, 0, none⟩ = some vs := by rw [cell_of_row _ _ _ _ _ _ hrow]; rfl
  have f0 : wr.frozen? ⟨w.heap.size, 0, none⟩ = false := frozen_of_row _ _ _ _ _ hrow
  have HROW := hid hrow; clear hrow
  by_cases hlt : k < n
  ·have hsu := startL_succ k
   have HSU := hid hsu; clear hsu
   have hnv : vs.ownBlock ≠ some w.heap.size := fun e => by have := (hO.lt _ e).1; omega
   have HNV := hid hnv; clear hnv
   go_wp2_with (first | (((with_reducible refine wpList_app (l := (startL k)) (ys := [((k : Int) + 1)]) E_ints wU wU ((hO).alloc _) (reps_new1 cIntS (((k : Int) + 1)) _ _ (by simp) rfl) cIntO (by simp; omega) (by first | omega | (simp; omega)) (by simp; omega) ?_); intro v3 w3 ho3 hg3 hat3); have e1 := far_cell hg3 c0 HNV.out; have e2 := far_frozen hg3 c0 f0 HNV.out; obtain ⟨a3, cap3, rfl, _, _, _⟩ := ho3.reps))
   have hr3 : w3.heap[w.heap.size]? = some (.cells #[vs, .slice none 0 0] 79 (0, 0)) := (hg3.block _ (by simp; omega) (Ne.symm HNV.out)).trans ((Below.heap_alloc _ _ _ (by omega)).trans HROW.out)
   have b3 := below_own' (bal hbr (.cells #[.int .i64 ((k : Int) + 1)] 3)) hg3 (hO.alloc _) (by omega) (by simp; omega)
   have z3 := hg3.size
   simp at z3
   refine ⟨⟨k + 1, .slice a3 ((startL k).length + 1) cap3, by omega, by go_num, by rw [heap_setCell_same w3 _ 0 _ _ _ hr3]; rfl, ?_, Below.setCell (p := ⟨w.heap.size, 0, none⟩) b3 (Nat.le_refl _) _, by simp [World.setCell]; omega⟩, by simp [intOf]; omega⟩
   rw [HSU.out]
   have h1 := ho3
   simp at h1
   exact ⟨h1.1, ownsRow_setCell_below h1.2 (by show w.heap.size < _; omega) _⟩
  ·have : k = n := by omega
   subst this
   have hO2 := hO
   rw [show (startL k).length = k from startL_len k] at hle
   obtain ⟨av, capv, rfl, hrv, hav, _⟩ := hO.reps
   obtain ⟨g, o, rfl, _⟩ := hrv.cells (by decide) 0 0 (by rw [startL_len]; omega)
   obtain ⟨g', eg, hgB, _⟩ := own_store cInt1 hO 0 0 (by omega) (by rw [startL_len]; omega)
   cases eg
   have hRA : RowAt wr w.heap.size (w.heap.size + 1) (startL k) [] := ⟨g, capv, .slice none 0 0, HROW.out, hO, own_nil cPairS, by simp [Value.ownBlock], by omega⟩
   have hSr := hS.below hbr
   clear hO hO2 hrv hav c0 f0
   have HRA := hid hRA; clear hRA
   go_wp2_with fail
   obtain ⟨wo, hwo⟩ : ∃ wo, wo = wr := ⟨_, rfl⟩
   go_loopw [32, 9] (fun i _ wq => ∃ (j : Nat) (st : List Int) (cr : List (Int × Int)), j ≤ ws.length ∧ i = .int .i64 j ∧ st.length = k ∧ cr.length = j ∧ RowAt wq w.heap.size (w.heap.size + 1) st cr ∧ rowGo st cr (ws.drop j) = rowL k ws ∧ Below w.heap.size w wq ∧ w.heap.size + 1 ≤ wq.heap.size) (fun i _ _ => ws.length - (intOf i).toNat)
   case atStart => exact ⟨0, startL k, [], by omega, rfl, startL_len k, rfl, HRA.out, rfl, hbr, hsz⟩
   case round =>
    obtain ⟨j, st, cr, hj, rfl, hst, hcr, hRow, hgo, hbq, hq⟩ := hrel
    have hSq := hS.below hbq
    have HST := hid hst; clear hst
    have HCR := hid hcr; clear hcr
    by_cases hlt2 : j < ws.length
    ·have hstep := rowGo_step st cr ws j hlt2
     rw [hgo] at hstep
     have HSTEP := hid hstep; clear hstep hgo
     have hfx := HF.out (atD 0 ws j) (by simp [atD, hlt2])
     have hw := write_any w.heap.size (w.heap.size + 1) (atD 0 ws j) st cr wr hRow hq ⟨hfx.1, hfx.2.1⟩ hfx.2.2.1 (by rw [HST.out]; exact hfx.2.2.2) (by rw [HST.out]; omega) (by rw [HCR.out]; omega)
     have HW := hid hw; clear hw hfx hRow
     go_wp2_with (first | (with_reducible refine wpList_idx _ 0 E_ints F_int cInt1 wU wU (hSq) oD oD (fun _ => wU) (fun _ => ?_)) | (go_at_call 111; refine HW.out.mono ?_; rintro e w5 ⟨rfl, hrow5, hb5⟩))
     have z5 := hb5.size
     refine ⟨⟨j + 1, _, _, by omega, by go_num, by rw [swapL_len]; exact HST.out, by rw [List.length_append, HCR.out]; rfl, hrow5, HSTEP.out.symm, hbq.trans hb5, by omega⟩, by simp [intOf]; omega⟩
    ·have : j = ws.length := by omega
     subst this
     have e : rowGo st cr (ws.drop ws.length) = (st, cr) := by simp [rowGo]
     rw [e] at hgo
     have HGO := hid hgo; clear hgo e
     go_wp2_with fail
     go_ret
     exact ⟨rfl, by rw [← HGO.out]; exact hRow, hbq⟩
end Go.Proofs.YtngpopalpofhgaaGreatDoor

namespace Go.Proofs.YtngpopalpofhgaaGreatDoor
open Go.RowKit
set_option maxHeartbeats 400000
set_option maxRecDepth 100000

end Go.Proofs.YtngpopalpofhgaaGreatDoor

namespace Go.Proofs.YtngpopalpofhgaaGreatDoor
open Go.RowKit
set_option maxHeartbeats 1000000
set_option maxRecDepth 100000

theorem wordE_fitsW {n : Int} {ws : List Int} (h : wordE n ws = 0) : fitsW n.toNat ws := by
 obtain ⟨h1, h2, h3, h4⟩ := wordE_fits h
 intro x hx
 have := h4 x hx
 unfold absI
 omega
def crossL (n : Int) (ws : List Int) : List (Int × Int) := if wordE n ws = 0 then (rowL n.toNat ws).2 else []

theorem Crosses_any (n : Int) (a : Option Addr) (cap : Nat) (l : List Int) (w : World) (hS : Ints w a cap l) (hsm : l.length ≤ 1048576) :
  Calls Tryz.prog 9 #[.int .i64 n, .slice a l.length cap] w fun r w' => RetPE w (crossL n l) (wordE n l) r w' := by
 have hcap := hS.le
 have hm := hS.max
 have hk := CheckWord_any n a cap l w hS hsm
 by_cases h : wordE n l = 0
 ·obtain ⟨h1, h2, h3, _⟩ := wordE_fits h
  have hf := wordE_fitsW h
  have e : crossL n l = (rowL n.toNat l).2 := if_pos h
  rw [e, h]
  rw [h] at hk
  obtain ⟨m, rfl⟩ : ∃ m : Nat, n = m := ⟨n.toNat, by omega⟩
  simp only [Int.toNat_natCast] at hf ⊢
  have HK := hid hk; clear hk h e
  have HF := hid hf; clear hf
  go_enter Tryz.func9, Tryz.ntmps9
  go_wp2_with fail
  refine HK.out.mono ?_
  rintro e w1 ⟨rfl, hb1⟩
  go_wp2_with fail
  refine (rowOf_any m a cap l w1 (hS.below hb1) (by omega) (by omega) (by omega) HF.out).mono ?_
  rintro e w2 ⟨rfl, hR, hb2⟩
  obtain ⟨g, cp, vc, hrow, hO, hP, _, _⟩ := hR
  have c1 : w2.cell? ⟨w1.heap.size, 1, none⟩ = some vc := by rw [cell_of_row _ _ _ _ _ _ hrow]; rfl
  have hb := bnext hb1 hb2
  have z1 := hb1.size
  have HROW := hid hrow; clear hrow
  go_wp2_with fail
  go_ret2
  exact RetPE.own vc rfl hP (by omega) hb
 ·have e : crossL n l = [] := if_neg h
  obtain ⟨q, hq⟩ : ∃ q, q = wordE n l := ⟨_, rfl⟩
  rw [e, ← hq]
  rw [← hq] at h hk
  have hne : (q != 0) = true := by simpa using h
  have HK := hid hk; clear hk h e hq
  go_enter Tryz.func9, Tryz.ntmps9
  go_wp2_with fail
  refine HK.out.mono ?_
  rintro e w1 ⟨rfl, hb1⟩
  go_wp2_with fail
  go_ret2
  exact RetPE.none rfl hb1
end Go.Proofs.YtngpopalpofhgaaGreatDoor

namespace Go.Proofs.YtngpopalpofhgaaGreatDoor
open Go.RowKit
set_option maxHeartbeats 1000000
set_option maxRecDepth 100000

theorem reps_drop {w : World} {b o cap m : Nat} {r : List Int} (h : Ints w (some ⟨b, o, none⟩) cap r) (hm : m ≤ r.length) : Ints w (if cap = m then some ⟨b, o, none⟩ else some ⟨b, o + m, none⟩) (cap - m) (r.drop m) := by
 have h1 := h.le
 have h2 := h.max
 refine ⟨cIntS, by simp; omega, by unfold maxLen; omega, (fun e => by (split at e <;> cases e)), fun j u hj => ?_⟩
 have e : ∀ L : List Int, (L.flatMap fun x => (cInt x).cells.toList) = L.map cInt := by
  intro L
  induction L with
  | nil => rfl
  | cons x r ih => rw [List.flatMap_cons, ih]; rfl
 rw [e] at hj
 have hj2 := (List.getElem?_eq_some_iff.1 hj).1
 simp at hj2
 rw [if_neg (by omega)]
 refine ⟨b, o + m, rfl, ?_⟩
 obtain ⟨b', o', e', hc⟩ := h.cells (by decide) 0 (m + j) (by omega)
 cases e'
 have := hc 0 u (by
  rw [List.getElem?_map, List.getElem?_drop] at hj
  rw [List.getD_eq_getElem?_getD]
  cases hx : r[m + j]? with
  | none => rw [hx] at hj; cases hj
  | some z => rw [hx] at hj; simp at hj; subst hj; rfl)
 simpa [Nat.add_assoc] using this
theorem reps_take {w : World} {a : Option Addr} {cap m : Nat} {r : List Int} (h : Ints w a cap r) (hm : m ≤ r.length) : Ints w a cap (r.take m) := by
 have h1 := h.le
 refine ⟨cIntS, by simp; omega, h.2.2.1, h.2.2.2.1, fun j u hj => ?_⟩
 have e : ∀ L : List Int, (L.flatMap fun x => (cInt x).cells.toList) = L.map cInt := by
  intro L
  induction L with
  | nil => rfl
  | cons x r ih => rw [List.flatMap_cons, ih]; rfl
 refine h.2.2.2.2 j u ?_
 rw [e] at hj ⊢
 rw [List.map_take, List.getElem?_take] at hj
 split at hj
 ·exact hj
 ·cases hj

/-- the side of a letter of a pass. -/
def sideB (f t x : Int) : Bool := decide (0 < x) == decide (f < t)
def wayL (f t : Int) (ls : List Int) : ByteArray := ⟨(ls.map fun x => if sideB f t x then (111 : UInt8) else 117).toArray⟩
def passCount (r : List Int) : Nat := max (runN r 1) (runN r (-1))
def passF (r : List Int) : Int := if runN r 1 < runN r (-1) then absI (atD 0 r 0) + 1 else absI (atD 0 r 0)
def passT (r : List Int) : Int := if runN r 1 < runN r (-1) then absI (atD 0 r 0) + 1 - passCount r else absI (atD 0 r 0) + passCount r
def passOf (r : List Int) : PassV := ⟨passF r, passT r, wayL (passF r) (passT r) (r.take (passCount r))⟩
def passesOf : Nat → List Int → List PassV
 | 0, _ => []
 | _, [] => []
 | n + 1, r => passOf r :: passesOf n (r.drop (passCount r))
theorem wayL_succ (f t : Int) (r : List Int) (k : Nat) (h : k < r.length) : wayL f t (r.take (k + 1)) = wayL f t (r.take k) ++ ⟨#[if sideB f t (atD 0 r k) then 111 else 117]⟩ := by
 have e2 : atD 0 r k = r[k] := by simp [atD, h]
 unfold wayL
 rw [List.take_succ_eq_append_getElem h, List.map_append, e2, ByteArray.mk_append_mk]
 rfl
theorem wayL_size (f t : Int) (ls : List Int) : (wayL f t ls).size = ls.length := by
 show (ls.map _).toArray.size = _
 simp
theorem runGo_ge (l : List Int) (b : Int) : ∀ f k, k ≤ runGo l b k f
 | 0, k => Nat.le_refl _
 | f + 1, k => by
   rw [runGo]; split
   · have := runGo_ge l b f (k + 1); omega
   · exact Nat.le_refl _
theorem runGo_le (l : List Int) (b : Int) : ∀ f k, k ≤ l.length → runGo l b k f ≤ l.length
 | 0, k, h => h
 | f + 1, k, h => by
   rw [runGo]; split
   · next hh => exact runGo_le l b f (k + 1) hh.1
   · exact h
theorem passCount_pos {r : List Int} : 1 ≤ passCount r := by
 have := runGo_ge r 1 r.length 1
 unfold passCount runN
 omega
theorem passCount_le {r : List Int} (h : 0 < r.length) : passCount r ≤ r.length := by
 have h1 := runGo_le r 1 r.length 1 h
 have h2 := runGo_le r (-1) r.length 1 h
 unfold passCount runN
 omega
theorem passesOf_step {f : Nat} {r : List Int} (h : 0 < r.length) : passesOf (f + 1) r = passOf r :: passesOf f (r.drop (passCount r)) := by
 match r, h with
 | x :: r, _ => rfl
def passL (n : Int) (l : List Int) : List PassV := if wordE n l = 0 then passesOf l.length l else []

theorem Passes_any (n : Int) (a : Option Addr) (cap : Nat) (l : List Int) (w : World) (hS : Ints w a cap l) (hsm : l.length ≤ 1048576) :
  Calls Tryz.prog 11 #[.int .i64 n, .slice a l.length cap] w fun r w' => RetPsE w (passL n l) (wordE n l) r w' := by
 have hcap := hS.le
 have hm := hS.max
 have hk := CheckWord_any n a cap l w hS hsm
 by_cases h : wordE n l = 0
 ·obtain ⟨h1, h2, h3, hall⟩ := wordE_fits h
  have e : passL n l = passesOf l.length l := if_pos h
  rw [e, h]
  rw [h] at hk
  have HK := hid hk; have HALL := hid hall; clear hk h e hall
  go_enter Tryz.func11, Tryz.ntmps11
  go_wp2_with fail
  refine HK.out.mono ?_
  rintro e w1 ⟨rfl, hb1⟩
  go_wp2_with fail
  go_loopw [1, 7] (fun v1 v7 wr => ∃ (a1 : Option Addr) (cap1 : Nat) (r : List Int) (ps : List PassV) (f : Nat), v1 = .slice a1 r.length cap1 ∧ Ints w a1 cap1 r ∧ OwnPs w.heap.size wr v7 ps ∧ ps.length + r.length ≤ l.length ∧ r.length ≤ f ∧ ps ++ passesOf f r = passesOf l.length l ∧ (∀ x ∈ r, x ≠ 0 ∧ -n < x ∧ x < n) ∧ Below w.heap.size w wr) (fun v1 _ _ => lenV v1)
  case atStart => exact ⟨a, cap, l, [], l.length, rfl, hS, own_nil cPassS, by simp, Nat.le_refl _, rfl, HALL.out, hb1⟩
  case round =>
   obtain ⟨a1, cap1, r, ps, f, rfl, hR, hO, hlen, hf, hgo, hall, hbr⟩ := hrel
   have hcap1 := hR.le
   have hm1 := hR.max
   by_cases h0 : 0 < r.length
   ·obtain ⟨b, o, rfl, _⟩ := hR.cells (by decide) 0 0 h0
    have hin : ∀ j : Nat, j < r.length → atD 0 r j ∈ r := fun j hj => by simp [atD, hj]
    have hL : ∀ j : Nat, j < r.length → -1000 ≤ atD 0 r j ∧ atD 0 r j ≤ 1000 := fun j hj => by have := hall _ (hin j hj); omega
    have hrun1 := fun W (hW : Below w.heap.size w W) => run_any 1 _ cap1 r W (hR.below hW) (.inl rfl) h0 (by omega) hL
    have hrun2 := fun W (hW : Below w.heap.size w W) => run_any (-1) _ cap1 r W (hR.below hW) (.inr rfl) h0 (by omega) hL
    have hsz := fun W => size_any (atD 0 r 0) W (by have := hL 0 h0; simp at this; omega) (by have := hL 0 h0; simp at this; omega)
    have hfr : 0 ≤ absI (atD 0 r 0) ∧ absI (atD 0 r 0) ≤ 1000 := by have := hL 0 h0; simp at this; unfold absI; split <;> omega
    have hcp := passCount_pos (r := r)
    have hcl := passCount_le h0
    have hup : runN r 1 ≤ r.length := runGo_le r 1 r.length 1 h0
    have hdn : runN r (-1) ≤ r.length := runGo_le r (-1) r.length 1 h0
    have hmx : max (runN r 1 : Int) (runN r (-1)) = passCount r := by unfold passCount; omega
    obtain ⟨up, hu⟩ : ∃ u, u = runN r 1 := ⟨_, rfl⟩
    obtain ⟨dn, hd⟩ : ∃ u, u = runN r (-1) := ⟨_, rfl⟩
    obtain ⟨fr, hfre⟩ : ∃ u, u = absI (atD 0 r 0) := ⟨_, rfl⟩
    obtain ⟨c, hc⟩ : ∃ u, u = passCount r := ⟨_, rfl⟩
    rw [← hu] at hrun1 hmx hup; rw [← hd] at hrun2 hmx hdn; rw [← hfre] at hsz hfr; rw [← hc] at hcp hcl hmx
    have HU := hid hu; have HD := hid hd; have HF := hid hfre; have HC := hid hc
    have R1 := hid hrun1; have R2 := hid hrun2; have SZ := hid hsz; have HG := hid hgo; have HA := hid hall
    clear hu hd hfre hc hrun1 hrun2 hsz hgo hall hin hL
    have hR2 := hR.below hbr
    by_cases hud : up < dn
    ·go_wp2_with (first | (go_at_call 47; with_reducible refine (R1.out _ hbr).mono ?_; rintro e w2 ⟨rfl, hb2⟩) | (go_at_call 47; with_reducible refine (R2.out _ (bnext hbr hb2)).mono ?_; rintro e w3 ⟨rfl, hb3⟩; have b3 := bnext (bnext hbr hb2) hb3; have hR3 := hR.below b3) | (with_reducible refine wpList_idx _ 0 E_ints F_int cInt1 wU wU (hR3) oD oD (fun _ => wU) (fun _ => ?_)) | (go_at_call 48; with_reducible refine (SZ.out _).mono ?_; rintro e w' ⟨rfl, rfl⟩))
     have hO3 := (hO.below hb2).below hb3
     have hFT : decide (fr + 1 < fr + 1 - c) = false := by simp; omega
     have hws0 : wayL (fr + 1) (fr + 1 - c) (r.take 0) = ⟨#[]⟩ := rfl
     go_loopw [14, 15, 55] (fun _ _ i wq => ∃ k : Nat, k ≤ c ∧ i = .int .i64 k ∧ wq.heap[w3.heap.size]? = some (.cells #[.int .i64 (fr + 1), .int .i64 (fr + 1 - c), .string (wayL (fr + 1) (fr + 1 - c) (r.take k))] 57 (0, 0)) ∧ Below w3.heap.size w3 wq ∧ w3.heap.size < wq.heap.size) (fun _ _ i _ => c - (intOf i).toNat)
     case atStart => exact ⟨0, by omega, rfl, by rw [hws0]; exact heap_alloc_new w3 _, bal (Below.refl _ _) _, by simp⟩
     case round =>
      obtain ⟨k, hk, rfl, hrow, hbq, hsq⟩ := hrel
      have c0 : wr.cell? ⟨w3.heap.size, 0, none⟩ = some (.int .i64 (fr + 1)) := by rw [cell_of_row _ _ _ _ _ _ hrow]; rfl
      have c1 : wr.cell? ⟨w3.heap.size, 1, none⟩ = some (.int .i64 (fr + 1 - c)) := by rw [cell_of_row _ _ _ _ _ _ hrow]; rfl
      have c2 : wr.cell? ⟨w3.heap.size, 2, none⟩ = some (.string (wayL (fr + 1) (fr + 1 - c) (r.take k))) := by rw [cell_of_row _ _ _ _ _ _ hrow]; rfl
      have f2 : wr.frozen? ⟨w3.heap.size, 2, none⟩ = false := frozen_of_row _ _ _ _ _ hrow
      have hsiz : (wayL (fr + 1) (fr + 1 - c) (r.take k)).size ≤ 200 := by rw [wayL_size]; simp; omega
      have HROW := hid hrow; clear hrow
      by_cases hlt : k < c
      ·have hsu := wayL_succ (fr + 1) (fr + 1 - c) r k (by omega)
       have hRq := reps_take ((hR3.below hbq)) hcl
       have hxa := HA.out (atD 0 r k) (by simp [atD, show k < r.length by omega])
       have hat := atD_take (r := r) hlt
       have hlc : (r.take c).length = c := by simp; omega
       have HLC := hid hlc; have HAT := hid hat
       clear hlc hat
       by_cases hpos : 0 < atD 0 (r.take c) k
       ·have hpos2 : 0 < atD 0 r k := by rw [← HAT.out]; exact hpos
        have e : sideB (fr + 1) (fr + 1 - c) (atD 0 r k) = false := by
         rw [HAT.out] at hpos
         have : decide (fr + 1 < fr + 1 - c) = false := hFT
         unfold sideB; rw [this]; simp [hpos]
        rw [e] at hsu
        have HS := hid hsu; clear hsu e
        go_wp2_with (with_reducible refine wpList_idxN _ 0 E_ints F_int cInt1 wU wU (hRq) (HLC.out) oD oD (fun _ => wU) (fun _ => ?_))
        refine ⟨⟨k + 1, by omega, by go_num, by rw [heap_setCell_same _ _ _ _ _ _ HROW.out, HS.out]; rfl, Below.setCell (p := ⟨w3.heap.size, 2, none⟩) hbq (Nat.le_refl _) _, by simp [World.setCell]; exact hsq⟩, by simp [intOf]; omega⟩
       ·have hneg2 : ¬ 0 < atD 0 r k := by rw [← HAT.out]; exact hpos
        have e : sideB (fr + 1) (fr + 1 - c) (atD 0 r k) = true := by
         rw [HAT.out] at hpos
         have : decide (fr + 1 < fr + 1 - c) = false := hFT
         unfold sideB; rw [this]; simp [hpos]
        rw [e] at hsu
        have HS := hid hsu; clear hsu e
        go_wp2_with (with_reducible refine wpList_idxN _ 0 E_ints F_int cInt1 wU wU (hRq) (HLC.out) oD oD (fun _ => wU) (fun _ => ?_))
        refine ⟨⟨k + 1, by omega, by go_num, by rw [heap_setCell_same _ _ _ _ _ _ HROW.out, HS.out]; rfl, Below.setCell (p := ⟨w3.heap.size, 2, none⟩) hbq (Nat.le_refl _) _, by simp [World.setCell]; exact hsq⟩, by simp [intOf]; omega⟩
      ·have : k = c := by omega
       subst this
       obtain ⟨P, hP⟩ : ∃ P : PassV, P = ⟨fr + 1, fr + 1 - k, wayL (fr + 1) (fr + 1 - k) (r.take k)⟩ := ⟨_, rfl⟩
       have hPo : passOf r = P := by
        rw [hP]
        unfold passOf passF passT
        rw [← HU.out, ← HD.out, ← HF.out, ← HC.out]
        simp [hud]
       obtain ⟨g, rfl⟩ : ∃ g, f = g + 1 := ⟨f - 1, by omega⟩
       have hstep := passesOf_step (f := g) h0
       rw [hPo, ← HC.out] at hstep
       have hgo2 : (ps ++ [P]) ++ passesOf g (r.drop k) = passesOf l.length l := by
        rw [← HG.out, hstep]; simp
       have hO4 := hO3.below hbq
       have b4 := bnext b3 hbq
       have hbs := b4.size
       have hRd := reps_drop hR hcl
       have hlp : (ps ++ [P]).length + (r.drop k).length ≤ l.length := by simp; omega
       have HP := hid hP
       have HGO2 := hid hgo2; have HLP := hid hlp
       clear hstep hgo2 hPo hlp hP
       go_wp2_with (first | ((with_reducible refine wpList_app (l := ps) (ys := [(⟨fr + 1, fr + 1 - k, wayL (fr + 1) (fr + 1 - k) (r.take k)⟩)]) E_passes wU wU ((hO4).alloc _) (reps_new1 cPassS ((⟨fr + 1, fr + 1 - k, wayL (fr + 1) (fr + 1 - k) (r.take k)⟩)) _ _ (by simp) rfl) cPassO (by simp; omega) (by first | omega | (simp; omega)) (by simp; omega) ?_); intro v5 w5 ho5 hg5 hat5))
       rw [← HP.out] at ho5
       refine ⟨⟨_, _, r.drop k, ps ++ [P], g, by rw [List.length_drop], hRd, ho5, HLP.out, by simp; omega, HGO2.out, fun x hx => HA.out x (List.mem_of_mem_drop hx), below_own (bal b4 _) hg5 (hO4.alloc _) (Nat.le_refl _)⟩, by simp [lenV]; omega⟩
    ·go_wp2_with (first | (go_at_call 47; with_reducible refine (R1.out _ hbr).mono ?_; rintro e w2 ⟨rfl, hb2⟩) | (go_at_call 47; with_reducible refine (R2.out _ (bnext hbr hb2)).mono ?_; rintro e w3 ⟨rfl, hb3⟩; have b3 := bnext (bnext hbr hb2) hb3; have hR3 := hR.below b3) | (with_reducible refine wpList_idx _ 0 E_ints F_int cInt1 wU wU (hR3) oD oD (fun _ => wU) (fun _ => ?_)) | (go_at_call 48; with_reducible refine (SZ.out _).mono ?_; rintro e w' ⟨rfl, rfl⟩))
     have hO3 := (hO.below hb2).below hb3
     have hFT : decide (fr < fr + c) = true := by simp; omega
     have hws0 : wayL (fr) (fr + c) (r.take 0) = ⟨#[]⟩ := rfl
     go_loopw [14, 15, 55] (fun _ _ i wq => ∃ k : Nat, k ≤ c ∧ i = .int .i64 k ∧ wq.heap[w3.heap.size]? = some (.cells #[.int .i64 (fr), .int .i64 (fr + c), .string (wayL (fr) (fr + c) (r.take k))] 57 (0, 0)) ∧ Below w3.heap.size w3 wq ∧ w3.heap.size < wq.heap.size) (fun _ _ i _ => c - (intOf i).toNat)
     case atStart => exact ⟨0, by omega, rfl, by rw [hws0]; exact heap_alloc_new w3 _, bal (Below.refl _ _) _, by simp⟩
     case round =>
      obtain ⟨k, hk, rfl, hrow, hbq, hsq⟩ := hrel
      have c0 : wr.cell? ⟨w3.heap.size, 0, none⟩ = some (.int .i64 (fr)) := by rw [cell_of_row _ _ _ _ _ _ hrow]; rfl
      have c1 : wr.cell? ⟨w3.heap.size, 1, none⟩ = some (.int .i64 (fr + c)) := by rw [cell_of_row _ _ _ _ _ _ hrow]; rfl
      have c2 : wr.cell? ⟨w3.heap.size, 2, none⟩ = some (.string (wayL (fr) (fr + c) (r.take k))) := by rw [cell_of_row _ _ _ _ _ _ hrow]; rfl
      have f2 : wr.frozen? ⟨w3.heap.size, 2, none⟩ = false := frozen_of_row _ _ _ _ _ hrow
      have hsiz : (wayL (fr) (fr + c) (r.take k)).size ≤ 200 := by rw [wayL_size]; simp; omega
      have HROW := hid hrow; clear hrow
      by_cases hlt : k < c
      ·have hsu := wayL_succ (fr) (fr + c) r k (by omega)
       have hRq := reps_take ((hR3.below hbq)) hcl
       have hxa := HA.out (atD 0 r k) (by simp [atD, show k < r.length by omega])
       have hat := atD_take (r := r) hlt
       have hlc : (r.take c).length = c := by simp; omega
       have HLC := hid hlc; have HAT := hid hat
       clear hlc hat
       by_cases hpos : 0 < atD 0 (r.take c) k
       ·have hpos2 : 0 < atD 0 r k := by rw [← HAT.out]; exact hpos
        have e : sideB (fr) (fr + c) (atD 0 r k) = true := by
         rw [HAT.out] at hpos
         have : decide (fr < fr + c) = true := hFT
         unfold sideB; rw [this]; simp [hpos]
        rw [e] at hsu
        have HS := hid hsu; clear hsu e
        go_wp2_with (with_reducible refine wpList_idxN _ 0 E_ints F_int cInt1 wU wU (hRq) (HLC.out) oD oD (fun _ => wU) (fun _ => ?_))
        refine ⟨⟨k + 1, by omega, by go_num, by rw [heap_setCell_same _ _ _ _ _ _ HROW.out, HS.out]; rfl, Below.setCell (p := ⟨w3.heap.size, 2, none⟩) hbq (Nat.le_refl _) _, by simp [World.setCell]; exact hsq⟩, by simp [intOf]; omega⟩
       ·have hneg2 : ¬ 0 < atD 0 r k := by rw [← HAT.out]; exact hpos
        have e : sideB (fr) (fr + c) (atD 0 r k) = false := by
         rw [HAT.out] at hpos
         have : decide (fr < fr + c) = true := hFT
         unfold sideB; rw [this]; simp [hpos]
        rw [e] at hsu
        have HS := hid hsu; clear hsu e
        go_wp2_with (with_reducible refine wpList_idxN _ 0 E_ints F_int cInt1 wU wU (hRq) (HLC.out) oD oD (fun _ => wU) (fun _ => ?_))
        refine ⟨⟨k + 1, by omega, by go_num, by rw [heap_setCell_same _ _ _ _ _ _ HROW.out, HS.out]; rfl, Below.setCell (p := ⟨w3.heap.size, 2, none⟩) hbq (Nat.le_refl _) _, by simp [World.setCell]; exact hsq⟩, by simp [intOf]; omega⟩
      ·have : k = c := by omega
       subst this
       obtain ⟨P, hP⟩ : ∃ P : PassV, P = ⟨fr, fr + k, wayL (fr) (fr + k) (r.take k)⟩ := ⟨_, rfl⟩
       have hPo : passOf r = P := by
        rw [hP]
        unfold passOf passF passT
        rw [← HU.out, ← HD.out, ← HF.out, ← HC.out]
        simp [hud]
       obtain ⟨g, rfl⟩ : ∃ g, f = g + 1 := ⟨f - 1, by omega⟩
       have hstep := passesOf_step (f := g) h0
       rw [hPo, ← HC.out] at hstep
       have hgo2 : (ps ++ [P]) ++ passesOf g (r.drop k) = passesOf l.length l := by
        rw [← HG.out, hstep]; simp
       have hO4 := hO3.below hbq
       have b4 := bnext b3 hbq
       have hbs := b4.size
       have hRd := reps_drop hR hcl
       have hlp : (ps ++ [P]).length + (r.drop k).length ≤ l.length := by simp; omega
       have HP := hid hP
       have HGO2 := hid hgo2; have HLP := hid hlp
       clear hstep hgo2 hPo hlp hP
       go_wp2_with (first | ((with_reducible refine wpList_app (l := ps) (ys := [(⟨fr, fr + k, wayL (fr) (fr + k) (r.take k)⟩)]) E_passes wU wU ((hO4).alloc _) (reps_new1 cPassS ((⟨fr, fr + k, wayL (fr) (fr + k) (r.take k)⟩)) _ _ (by simp) rfl) cPassO (by simp; omega) (by first | omega | (simp; omega)) (by simp; omega) ?_); intro v5 w5 ho5 hg5 hat5))
       rw [← HP.out] at ho5
       refine ⟨⟨_, _, r.drop k, ps ++ [P], g, by rw [List.length_drop], hRd, ho5, HLP.out, by simp; omega, HGO2.out, fun x hx => HA.out x (List.mem_of_mem_drop hx), below_own (bal b4 _) hg5 (hO4.alloc _) (Nat.le_refl _)⟩, by simp [lenV]; omega⟩
   ·have : r = [] := List.eq_nil_of_length_eq_zero (by omega)
    subst this
    have hgo2 : ps = passesOf l.length l := by rw [← hgo]; cases f <;> simp [passesOf]
    subst hgo2
    clear hgo
    go_wp2_with fail
    go_ret2
    exact RetPsE.own _ rfl hO (Nat.le_refl _) hbr
 ·have e : passL n l = [] := if_neg h
  obtain ⟨q, hq⟩ : ∃ q, q = wordE n l := ⟨_, rfl⟩
  rw [e, ← hq]
  rw [← hq] at h hk
  have hne : (q != 0) = true := by simpa using h
  have HK := hid hk; clear hk h e hq
  go_enter Tryz.func11, Tryz.ntmps11
  go_wp2_with fail
  refine HK.out.mono ?_
  rintro e w1 ⟨rfl, hb1⟩
  go_wp2_with fail
  go_ret2
  exact RetPsE.none rfl hb1
end Go.Proofs.YtngpopalpofhgaaGreatDoor

namespace Go.Proofs.YtngpopalpofhgaaGreatDoor
open Go.RowKit
set_option maxHeartbeats 1000000
set_option maxRecDepth 100000

theorem rletter_any (n x : Int) (w : World) (h1 : 1 ≤ n) (h2 : n ≤ 12) :
  Calls Tryz.prog 98 #[.int .i64 n, .int .i64 x] w fun r w' => r = .returned (.bool (!outB n x)) ∧ w = w' := by
 by_cases c0 : x = 0
 ·have e : (!outB n x) = false := by simp [outB, c0]
  rw [e]
  clear e
  subst c0
  go_enter Tryz.func98, Tryz.ntmps98
  go_wp2
  go_ret
  exact ⟨rfl, rfl⟩
 by_cases c1 : 0 - n < x
 ·have e : (!outB n x) = decide (x < n) := by
   have a1 : (x == 0) = false := by simpa using c0
   have a2 : decide (x ≤ -n) = false := by simp; omega
   by_cases c2 : x < n
   ·have a3 : decide (n ≤ x) = false := by simp; omega
    simp [outB, a1, a2, a3, c2]
   ·have a3 : decide (n ≤ x) = true := by simp; omega
    simp [outB, a1, a2, a3, c2]
  rw [e]
  clear e
  have hx : (x != 0) = true := by simpa using c0
  go_enter Tryz.func98, Tryz.ntmps98
  go_wp2
  go_ret
  exact ⟨rfl, rfl⟩
 ·have e : (!outB n x) = false := by
   have a2 : decide (x ≤ -n) = true := by simp; omega
   simp [outB, a2]
  rw [e]
  clear e
  have hx : (x != 0) = true := by simpa using c0
  go_enter Tryz.func98, Tryz.ntmps98
  go_wp2
  go_ret
  exact ⟨rfl, rfl⟩

theorem wordE_any {n : Int} {l : List Int} (h : strandsE n = 0) (h2 : l.length ≤ 200) : wordE n l = if l.any (outB n) then 3 else 0 := by
 unfold wordE
 rw [if_neg (fun hh => hh h), if_neg (by omega)]
 have key : (0 ≤ idxGo n l 0 l.length) ↔ l.any (outB n) = true := by
  rw [idxGo_neg, List.any_eq_true]
  constructor
  ·rintro ⟨j, _, hj, ho⟩
   exact ⟨atD 0 l j, by simp [atD, show j < l.length by omega], ho⟩
  ·rintro ⟨x, hx, ho⟩
   obtain ⟨j, hj, rfl⟩ := List.getElem_of_mem hx
   exact ⟨j, by omega, by omega, by simpa [atD, hj] using ho⟩
 by_cases c : l.any (outB n) = true
 ·rw [if_pos (key.2 c), if_pos c]
 ·rw [if_neg (fun h => c (key.1 h)), if_neg c]
theorem rCheckWord_any (n : Int) (a : Option Addr) (cap : Nat) (l : List Int) (w : World) (hS : Ints w a cap l) :
  Calls Tryz.prog 42 #[.int .i64 n, .slice a l.length cap] w fun r w' => r = .returned (.int .i64 (wordE n l)) ∧ Below w.heap.size w w' := by
 have hcap := hS.le
 have hm := hS.max
 by_cases h1 : n < 1
 ·have e : wordE n l = 3 := by simp [wordE, strandsE, h1]
  rw [e]
  clear e
  go_enter Tryz.func42, Tryz.ntmps42
  go_wp2
  go_ret
  exact ⟨rfl, Below.refl _ _⟩
 by_cases h2 : 12 < n
 ·have e : wordE n l = 3 := by simp [wordE, strandsE, h2]
  rw [e]
  clear e
  go_enter Tryz.func42, Tryz.ntmps42
  go_wp2
  go_ret
  exact ⟨rfl, Below.refl _ _⟩
 have hs0 : strandsE n = 0 := by unfold strandsE; rw [if_neg (by omega)]
 by_cases h3 : 200 < l.length
 ·have e : wordE n l = 5 := by unfold wordE; rw [hs0]; simp [h3]
  rw [e]
  clear e
  go_enter Tryz.func42, Tryz.ntmps42
  go_wp2
  go_ret
  exact ⟨rfl, Below.refl _ _⟩
 have hE : wordE n l = if l.any (outB n) then 3 else 0 := wordE_any hs0 (by omega)
 obtain ⟨m, hm2⟩ : ∃ m, m = wordE n l := ⟨_, rfl⟩
 rw [← hm2] at hE ⊢
 have HE := hid hE; clear hE hm2
 go_enter Tryz.func42, Tryz.ntmps42
 go_wp2
 go_loopw [5] (fun i wr => ∃ k : Nat, k ≤ l.length ∧ i = .int .i64 k ∧ (l.take k).any (outB n) = false ∧ Below w.heap.size w wr) (fun i _ => l.length - (intOf i).toNat)
 case atStart => exact ⟨0, by omega, rfl, rfl, Below.refl _ _⟩
 case round =>
  obtain ⟨k, hk, rfl, hno, hbr⟩ := hrel
  have hR := hS.below hbr
  by_cases hlt : k < l.length
  ·have ht : l.take (k + 1) = l.take k ++ [atD 0 l k] := by rw [List.take_succ_eq_append_getElem hlt]; simp [atD, hlt]
   have HT := hid ht; clear ht
   have HNO := hid hno; clear hno
   cases ho : outB n (atD 0 l k)
   ·have e : (!outB n (atD 0 l k)) = true := by rw [ho]; rfl
    have hno2 : (l.take (k + 1)).any (outB n) = false := by rw [HT.out, List.any_append, HNO.out]; simp [ho]
    have HE2 := hid e; have HN2 := hid hno2; clear e hno2 ho
    go_wp2_with (first | (with_reducible refine wpList_idx _ 0 E_ints F_int cInt1 wU wU (hR) oD oD (fun _ => wU) (fun _ => ?_)) | (go_at_call 98; refine (rletter_any _ _ _ (by omega) (by omega)).mono ?_; rw [HE2.out]; rintro e w' ⟨rfl, rfl⟩))
    go_roundw
    case rel => exact ⟨k + 1, by omega, by go_num, HN2.out, hbr⟩
    case measure => simp [intOf]; omega
   ·have e : (!outB n (atD 0 l k)) = false := by rw [ho]; rfl
    have hm3 : m = 3 := by
     rw [HE.out, if_pos]
     rw [List.any_eq_true]
     exact ⟨atD 0 l k, by simp [atD, hlt], ho⟩
    have HE2 := hid e; have HM := hid hm3; clear e hm3 ho
    go_wp2_with (first | (with_reducible refine wpList_idx _ 0 E_ints F_int cInt1 wU wU (hR) oD oD (fun _ => wU) (fun _ => ?_)) | (go_at_call 98; refine (rletter_any _ _ _ (by omega) (by omega)).mono ?_; rw [HE2.out]; rintro e w' ⟨rfl, rfl⟩))
    go_ret
    exact ⟨by rw [HM.out]; rfl, hbr⟩
  ·have : k = l.length := by omega
   subst this
   rw [List.take_length] at hno
   have hm3 : m = 0 := by rw [HE.out, hno]; rfl
   have HM := hid hm3; clear hm3 hno
   go_wp2_with fail
   go_ret
   exact ⟨by rw [HM.out]; rfl, hbr⟩
end Go.Proofs.YtngpopalpofhgaaGreatDoor

namespace Go.Proofs.YtngpopalpofhgaaGreatDoor
open Go.RowKit
set_option maxHeartbeats 400000
set_option maxRecDepth 100000

end Go.Proofs.YtngpopalpofhgaaGreatDoor

namespace Go.Proofs.YtngpopalpofhgaaGreatDoor
open Go.RowKit

theorem nodup_ne {l : List Int} (h : l.Nodup) {a b : Nat} (hab : a < b) (hb : b < l.length) : atD 0 l a ≠ atD 0 l b := by
 have := (List.pairwise_iff_getElem.1 h) a b (by omega) hb hab
 simpa [atD, hb, show a < l.length by omega] using this

section
variable {p : List Int} (hp : IsP p)
include hp
end

end Go.Proofs.YtngpopalpofhgaaGreatDoor

namespace Go.Proofs.YtngpopalpofhgaaGreatDoor
open Go.RowKit Go.Shelf
set_option maxHeartbeats 2000000
set_option maxRecDepth 100000

section
variable {p : List Int} (hp : IsP p) {i : Int} (h0 : 0 ≤ i) (h1 : i < p.length)
end

end Go.Proofs.YtngpopalpofhgaaGreatDoor

namespace Go.Proofs.YtngpopalpofhgaaGreatDoor
open Go.RowKit Go.Shelf
set_option maxHeartbeats 2000000
set_option maxRecDepth 100000

theorem cSl1 (x : SlH) : (cSl x).cells = #[cSl x] := rfl
theorem F_sl : Flat Tryz.prog 22 := ⟨_, Tryz.underlying22, rfl⟩
end Go.Proofs.YtngpopalpofhgaaGreatDoor
