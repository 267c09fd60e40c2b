/- Contracts and plain facts that the claim uses (TyA PlA SlA RlA PnA Lib1 PrA SmA RE McA NuA CyA). Conditions: as each one states. -/
import Derived.Test.YtngpopalpofhgaaGreatDoorProg
import Derived.WalkKit
import Derived.WalkSpells
import Derived.Maps.AppendAt
import Derived.Deep.Quiet
import Derived.Maps.Own
import Derived.Maps.OwnSet
import Derived.Maps.Views
import Derived.WalkLawsBesides
import Derived.Laws.EntriesVeiled
import Derived.RangeFuncNested
import Derived.RangeFuncBound
import Derived.RangeFuncCalls
import Derived.RangeFuncLeaves
import Derived.RangeFuncFrom
import Derived.Shelf.Abstract
import Derived.Shelf.RegionOpen
import Derived.OwnWalkIn
import Derived.TacticsInMore
import Derived.LoopNIn
import Derived.LoopIn
import Derived.Deep.QuietTactic
import Derived.BigQuiet
import Derived.StillTail
import Derived.Laws.Tables
import Derived.Deep.RegionHeld3
import Derived.Shelf.Strings.Trim
import Derived.Shelf.Strings.SlTrimAscii
import Derived.Shelf.Strings.Repeat
import Derived.Shelf.Strings.OnBuilder
import Derived.Shelf.Strconv.Itoa1
import Derived.Shelf.Strconv.Itoa3
import Derived.Shelf.LaysM
import Derived.Ground.Names2Prog
import Derived.Deep.AppendLies
import Derived.Deep.RegionHeldLaw
import Derived.Deep.RegionLaw
import Derived.Lib.OthersKept
import Derived.IntWalk
import Derived.Laws.CopyOwn
import Derived.BigRegion
import Derived.ChangeAlike
import Derived.Shelf.Bits.Mul64
import Derived.Sort.LoopGhostIn
import Derived.Test.YtngpopalpofhgaaGreatDoorXz01
import Derived.Test.YtngpopalpofhgaaGreatDoorXz02
import Derived.Test.YtngpopalpofhgaaGreatDoorXz03
import Derived.Test.YtngpopalpofhgaaGreatDoorXz04
import Derived.Test.YtngpopalpofhgaaGreatDoorXz05
import Derived.Test.YtngpopalpofhgaaGreatDoorXz06
import Derived.Test.YtngpopalpofhgaaGreatDoorXz07
import Derived.Test.YtngpopalpofhgaaGreatDoorXz08
import Derived.Test.YtngpopalpofhgaaGreatDoorXz09
set_option linter.all false

namespace Go.Proofs.YtngpopalpofhgaaGreatDoor
open Go.RowKit

theorem cPair1 (x : Int × Int) : cPair x = .agg (cPair x).cells := rfl
end Go.Proofs.YtngpopalpofhgaaGreatDoor

namespace Go.Proofs.YtngpopalpofhgaaGreatDoor
open Go.RowKit
end Go.Proofs.YtngpopalpofhgaaGreatDoor

namespace Go.Proofs.YtngpopalpofhgaaGreatDoor
open Go.RowKit
set_option maxRecDepth 100000

end Go.Proofs.YtngpopalpofhgaaGreatDoor

namespace Go.Proofs.YtngpopalpofhgaaGreatDoor
open Go.RowKit Go.Maps
set_option maxRecDepth 100000

theorem mapI_made (w : World) : MapI (w.alloc (.map #[] 0)) w.heap.size 0 (fun _ => 0) :=
 ⟨.map [], World.ownsMap_made _ _ _ _, fun _ _ => rfl⟩
section
variable {ops : Array Oper} {rest : List Oper} {a : Act} {Q : Exit → Act → World → Prop} {d : Option Tmp} {ty : TypeId} {p : String} {m x y : Operand} {af : Array Edge} {g : Option (Nat × Bool)} {b n : Nat} {k : Int}
theorem wpList_lookI {w : World} {f : Int → Int} (hm : a.eval m = .map (some b)) (hx : a.eval x = .int .i64 k) (h : MapI w b n f) (hk : InI k)
   (hg : Region.wanted (⟨d, .lookup 88 m x false, ty, p, af, g⟩ : Oper) (yielded ops a.tmps) = true) (hK : wpList Tryz.prog ops Q rest (a.put d (.int .i64 (f k))) w) :
   wpList Tryz.prog ops Q (⟨d, .lookup 88 m x false, ty, p, af, g⟩ :: rest) a w := by
 refine wpList_step fun K hK' => ?_
 rw [if_pos hg]
 unfold Oper.wp
 simp [execOp, hm, hx, h.look hk, Result.andThen]
 exact hK' _ _ hK
theorem wpList_putI {w : World} {f : Int → Int} {v : Int} (hm : a.eval m = .map (some b)) (hx : a.eval x = .int .i64 k) (hy : a.eval y = .int .i64 v) (h : MapI w b n f) (hk : InI k) (hv : InI v) (hn : n < maxLen)
   (hK : ∀ w', MapI w' b (n + 1) (fun x => if x = k then v else f x) → w.grownBy w' (some b) → wpList Tryz.prog ops Q rest (a.put d undef) w') :
   wpList Tryz.prog ops Q (⟨d, .mapUpdate 88 m x y, ty, p, af, none⟩ :: rest) a w := by
 refine wpList_plain rfl fun K hK' => ?_
 obtain ⟨w', hrun, h1, h2⟩ := h.put hk hv hn
 unfold Oper.wp
 simp [execOp, hm, hx, hy, hrun, Result.andThen]
 exact hK' _ _ (hK w' h1 h2)
end
end Go.Proofs.YtngpopalpofhgaaGreatDoor

namespace Go.Proofs.YtngpopalpofhgaaGreatDoor
open Go.RowKit
set_option maxHeartbeats 400000
set_option maxRecDepth 100000

end Go.Proofs.YtngpopalpofhgaaGreatDoor

namespace Go.Proofs.YtngpopalpofhgaaGreatDoor
open Go.RowKit
set_option maxHeartbeats 400000
set_option maxRecDepth 100000

end Go.Proofs.YtngpopalpofhgaaGreatDoor

namespace Go.Proofs.YtngpopalpofhgaaGreatDoor
open Go.RowKit
set_option maxHeartbeats 400000
set_option maxRecDepth 100000

end Go.Proofs.YtngpopalpofhgaaGreatDoor

namespace Go.Proofs.YtngpopalpofhgaaGreatDoor
open Go.RowKit
set_option maxHeartbeats 400000
set_option maxRecDepth 100000

end Go.Proofs.YtngpopalpofhgaaGreatDoor

namespace Go.Proofs.YtngpopalpofhgaaGreatDoor
open Go.RowKit
set_option maxHeartbeats 400000
set_option maxRecDepth 100000

end Go.Proofs.YtngpopalpofhgaaGreatDoor

namespace Go.Proofs.YtngpopalpofhgaaGreatDoor
open Go.RowKit
set_option maxHeartbeats 400000
set_option maxRecDepth 100000

end Go.Proofs.YtngpopalpofhgaaGreatDoor

namespace Go.Proofs.YtngpopalpofhgaaGreatDoor
open Go.RowKit
set_option maxHeartbeats 400000
set_option maxRecDepth 100000

end Go.Proofs.YtngpopalpofhgaaGreatDoor

namespace Go.Proofs.YtngpopalpofhgaaGreatDoor
open Go.RowKit
set_option maxHeartbeats 1000000
set_option maxRecDepth 100000

end Go.Proofs.YtngpopalpofhgaaGreatDoor

namespace Go.Proofs.YtngpopalpofhgaaGreatDoor
open Go.RowKit
set_option maxRecDepth 100000

section
variable {B : Nat} {w0 w w' : World} {L K : List Pc}
theorem SL.of_below (hb : Below w.heap.size w w') : SL w.heap.size w w' [] := (SL.nil w).mono hb
end

section
variable {B : Nat} {w0 w w' : World} {L : List Pc} {α : Type} {c : α → Value} {sz : Nat} {e : TypeId} {v : Value} {l : List α}
end

section
variable {P : Program} {ops : Array Oper} {rest : List Oper} {a : Act} {Q : Exit → Act → World → Prop} {α : Type} {c : α → Value} {sz bytes B : Nat} {t e : TypeId} {z v : Value} {w0 w : World} {L : List Pc} {l : List α}
theorem wpList_appL {d : Option Tmp} {ty : TypeId} {p : String} {s x : Operand} {af : Array Edge} {ad : Option Addr} {n cap : Nat} {ys : List α} (i : Nat) (E : ETy P t e z sz bytes)
   (hs : a.eval s = v) (hx : a.eval x = .slice ad n cap) (hS : SL B w0 w L) (hi : L[i]? = some (pOwn c sz e v l)) (hR : Reps c sz w ad cap ys) (hn : n = ys.length) (h1 : ∀ x, ∀ u ∈ (c x).cells.toList, u.oneCell' = true)
   (hb : (l.length + ys.length) * bytes ≤ 140737488355328) (hm : l.length + ys.length ≤ 9223372036854775807)
   (hK : ∀ v' w', SL B w0 w' (L.set i (pOwn c sz e v' (l ++ ys))) → wpList P ops Q rest (a.put d v') w') :
   wpList P ops Q (⟨d, .call { callee := .builtin .append, args := #[s, x], argTypes := #[t, t] }, ty, p, af, none⟩ :: rest) a w := by
 subst hn
 obtain ⟨b, ⟨h2, h3⟩, h4, h5⟩ := hS.upd i hi
 refine wpList_app (l := l) (ys := ys) (ad := ad) (cap := cap) E hs hx h2 hR h1 hb (Nat.zero_le _) hm ?_
 intro v' w' ho hg hat
 refine hK v' w' (h5 w' _ v'.ownBlock (h3 ▸ hg) ⟨ho, rfl⟩ ?_)
 rcases hat with hat | hat
 ·exact .inl (hat.trans h3)
 ·exact .inr (fun k hk => by rw [hat] at hk; cases hk; exact Nat.le_refl _)
end
section
variable {ops : Array Oper} {rest : List Oper} {a : Act} {Q : Exit → Act → World → Prop} {d : Option Tmp} {ty : TypeId} {p : String} {m x y : Operand} {af : Array Edge} {b n B : Nat} {k : Int} {w0 w : World} {L : List Pc}
end
end Go.Proofs.YtngpopalpofhgaaGreatDoor

namespace Go.Proofs.YtngpopalpofhgaaGreatDoor
open Go.RowKit
set_option maxRecDepth 100000

section
variable {B : Nat} {w0 w w' : World} {L K : List Pc}
end

section
variable {α : Type} {c : α → Value} {sz : Nat} {e : TypeId} {v : Value} {l : List α} {B : Nat} {W0 w : World} {L : List Pc}
end
end Go.Proofs.YtngpopalpofhgaaGreatDoor

namespace Go.Proofs.YtngpopalpofhgaaGreatDoor
open Go.RowKit
section
variable {P : Program} {ops : Array Oper} {md : Region.Mode} {C : World → Prop}

end
section
variable {P : Program} {ops : Array Oper} {Qa : Act → Prop} {w : World} {rest : List Oper} {a : Act} {ty : TypeId} {p : String} {af : Array Edge} {g : Option (Nat × Bool)} {d : Tmp}
end

section
variable {P : Program} {ops : Array Oper} {Q : Exit → Act → World → Prop} {w w0 : World} {rest : List Oper} {a : Act} {ty : TypeId} {p : String} {af : Array Edge} {g : Option (Nat × Bool)} {B : Nat} {L : List Pc}
theorem results_cell2 {fn : Func} {tmps : Array Value} {t T k t2 k2 : Nat} {us us2 : Array Value} {T' T2' : TypeId} {fr fr2 : Nat × Nat} (h : fn.results = #[.cell t T, .cell t2 T]) (ht : tmps.getD t undef = .pointer (some ⟨k, 0, none⟩)) (ht2 : tmps.getD t2 undef = .pointer (some ⟨k2, 0, none⟩)) (hu : Aggr P T) (hz : (P.info? T).map (·.size) = some us.size) (hz2 : (P.info? T).map (·.size) = some us2.size)
  (hb : w.heap[k]? = some (.cells us T' fr)) (hb2 : w.heap[k2]? = some (.cells us2 T2' fr2)) :
  (results fn tmps).run P w = .ok (.tuple #[.agg us, .agg us2]) w := by
 obtain ⟨d, hd, hdd⟩ := hu
 have := run_loadVar_row (P := P) w k T' T us fr d hb hd (by cases d <;> first | exact hdd | rfl | cases hdd) hz
 have h2 := run_loadVar_row (P := P) w k2 T2' T us2 fr2 d hb2 hd (by cases d <;> first | exact hdd | rfl | cases hdd) hz2
 simp only [Array.getD_eq_getD_getElem?] at ht ht2
 simp [results, h, ht, ht2, asAddr, this, h2]
end
end Go.Proofs.YtngpopalpofhgaaGreatDoor

namespace Go.Proofs.YtngpopalpofhgaaGreatDoor
open Go.RowKit
section
variable {P : Program} {ops : Array Oper} {Q : Exit → Act → World → Prop} {md : Region.Mode} {C : World → Prop}

theorem wp_region_pure {id : Nat} {Q : Exit → Act → World → Prop} {a : Act} {w : World} {l : List Oper} (qs : List Nat) (lo : List Oper) (g : Nat) (hlo : qs.map (fun i => l.toArray[i]?) = lo.map some) (hg : g + qs.length = l.length) (hm : P.follows .mixedOrders = true)
  (hsel : Region.noSelect l.toArray = true) (hB : Region.firstB .any l.toArray qs (Array.replicate l.length false) = true) (hC : C { w with drawn := w.drawn + 1 })
  (h : wpPure P l.toArray C (fun a' => wpAnyC P .any l.toArray C (NoPanic Q) g (listAll (Array.replicate l.length false) qs) a' { w with drawn := w.drawn + 1 }) lo a) : (Code.region id l.toArray true).wp P Q a w := by
 refine wp_region_noPanic (wp_region_any hm ?_)
 have := wpAnyC_pure (md := .any) hsel (fun c a w h => h) hC qs lo _ a hlo hB h
 rw [hg] at this
 simpa using wpAny_of_C _ _ _ _ this
end
end Go.Proofs.YtngpopalpofhgaaGreatDoor

namespace Go.Proofs.YtngpopalpofhgaaGreatDoor
open Go.RowKit
set_option maxHeartbeats 400000
set_option maxRecDepth 100000

theorem size_any (n : Int) (w : World) (h : -9223372036854775807 ≤ n) (h2 : n ≤ 9223372036854775807) :
  Calls Tryz.prog 48 #[.int .i64 n] w fun r w' => r = .returned (.int .i64 (absI n)) ∧ w = w' := by
 have hmx : max n (-n) = absI n := by unfold absI; split <;> omega
 go_enter Tryz.func48, Tryz.ntmps48
 go_wp2
 all_goals
  go_ret
  exact ⟨by first | rfl | (rw [show absI n = -n by unfold absI; split <;> omega]; rfl) | (rw [show absI n = n by unfold absI; split <;> omega]; rfl) | (rw [← hmx]; rfl) | simp [hmx], rfl⟩
end Go.Proofs.YtngpopalpofhgaaGreatDoor

namespace Go.Proofs.YtngpopalpofhgaaGreatDoor
open Go.RowKit
set_option maxHeartbeats 400000
set_option maxRecDepth 100000

end Go.Proofs.YtngpopalpofhgaaGreatDoor

namespace Go.Proofs
open Go.Shelf
def Tryz.lays171_ren : Go.Shelf.Ren := ⟨fun | 171 => 232 | 243 => 248 | 246 => 262 | 283 => 264 | 284 => 265 | 285 => 266 | 286 => 267 | 129 => 246 | 317 => 269 | 318 => 270 | 319 => 271 | 320 => 272 | 337 => 274 | 338 => 275 | n => n, fun | 3 => 3 | 9 => 9 | 2 => 2 | 4 => 4 | 171 => 282 | 0 => 0 | 53 => 227 | 37 => 91 | 5 => 5 | 173 => 284 | 212 => 286 | 51 => 224 | 20 => 20 | 213 => 287 | 46 => 172 | 232 => 290 | 233 => 291 | n => n, fun | 17 => 5 | 18 => 6 | 19 => 7 | n => n⟩
theorem Tryz.lays171 : Go.Proofs.Lays.n171 Tryz.prog Tryz.lays171_ren := {
 mixed := by kernel_rfl
 f129 := Tryz.func246.trans (congrArg some (by kernel_rfl))
 f171 := Tryz.func232.trans (congrArg some (by kernel_rfl))
 f243 := Tryz.func248.trans (congrArg some (by kernel_rfl))
 f246 := Tryz.func262.trans (congrArg some (by kernel_rfl))
 f283 := Tryz.func264.trans (congrArg some (by kernel_rfl))
 f284 := Tryz.func265.trans (congrArg some (by kernel_rfl))
 f285 := Tryz.func266.trans (congrArg some (by kernel_rfl))
 f286 := Tryz.func267.trans (congrArg some (by kernel_rfl))
 f317 := Tryz.func269.trans (congrArg some (by kernel_rfl))
 f318 := Tryz.func270.trans (congrArg some (by kernel_rfl))
 f319 := Tryz.func271.trans (congrArg some (by kernel_rfl))
 f320 := Tryz.func272.trans (congrArg some (by kernel_rfl))
 f337 := Tryz.func274.trans (congrArg some (by kernel_rfl))
 f338 := Tryz.func275.trans (congrArg some (by kernel_rfl))
 t0 := Tryz.underlying0
 a0 := Tryz.isAgg0
 z0 := Tryz.sizeOf0
 v0 := Tryz.zeroValue0
 t2 := Tryz.underlying2
 a2 := Tryz.isAgg2
 z2 := Tryz.sizeOf2
 v2 := Tryz.zeroValue2
 t3 := Tryz.underlying3
 a3 := Tryz.isAgg3
 z3 := Tryz.sizeOf3
 v3 := Tryz.zeroValue3
 t4 := Tryz.underlying4
 a4 := Tryz.isAgg4
 z4 := Tryz.sizeOf4
 v4 := Tryz.zeroValue4
 t5 := Tryz.underlying5
 a5 := Tryz.isAgg5
 z5 := Tryz.sizeOf5
 v5 := Tryz.zeroValue5
 t9 := Tryz.underlying9
 a9 := Tryz.isAgg9
 z9 := Tryz.sizeOf9
 v9 := Tryz.zeroValue9
 t20 := Tryz.underlying20
 a20 := Tryz.isAgg20
 z20 := Tryz.sizeOf20
 v20 := Tryz.zeroValue20
 t37 := Tryz.underlying91
 a37 := Tryz.isAgg91
 z37 := Tryz.sizeOf91
 v37 := Tryz.zeroValue91
 t46 := Tryz.underlying172
 a46 := Tryz.isAgg172
 z46 := Tryz.sizeOf172
 v46 := Tryz.zeroValue172
 t51 := Tryz.underlying224
 a51 := Tryz.isAgg224
 z51 := Tryz.sizeOf224
 v51 := Tryz.zeroValue224
 t53 := Tryz.underlying227
 a53 := Tryz.isAgg227
 z53 := Tryz.sizeOf227
 v53 := Tryz.zeroValue227
 t171 := Tryz.underlying282
 a171 := Tryz.isAgg282
 z171 := Tryz.sizeOf282
 v171 := Tryz.zeroValue282
 t173 := Tryz.underlying284
 a173 := Tryz.isAgg284
 z173 := Tryz.sizeOf284
 v173 := Tryz.zeroValue284
 t212 := Tryz.underlying286
 a212 := Tryz.isAgg286
 z212 := Tryz.sizeOf286
 v212 := Tryz.zeroValue286
 t213 := Tryz.underlying287
 a213 := Tryz.isAgg287
 z213 := Tryz.sizeOf287
 t232 := Tryz.underlying290
 a232 := Tryz.isAgg290
 z232 := Tryz.sizeOf290
 v232 := Tryz.zeroValue290
 t233 := Tryz.underlying291
 a233 := Tryz.isAgg291
 z233 := Tryz.sizeOf291
 v233 := Tryz.zeroValue291
 g17 := by kernel_rfl
 g18 := by kernel_rfl
 g19 := by kernel_rfl }
end Go.Proofs

namespace Go.Proofs.YtngpopalpofhgaaGreatDoor
open Go.RowKit
set_option maxHeartbeats 1000000
set_option maxRecDepth 100000

/-- A row in block R: its strands and its crossings, both in blocks from B on. -/
def RowAt (w : World) (R B : Nat) (st : List Int) (cr : List (Int × Int)) : Prop :=
 ∃ g cap vc, w.heap[R]? = some (.cells #[.slice (some ⟨g, 0, none⟩) st.length cap, vc] 79 (0, 0)) ∧ OwnI B w (.slice (some ⟨g, 0, none⟩) st.length cap) st ∧ OwnP B 42 w vc cr ∧ vc.ownBlock ≠ some g ∧ R < B
theorem info_cross : (Tryz.prog.info? 42).map (fun i => (i.zero, i.size, i.bytes)) = some (some (.agg #[.int .i64 0, .int .i64 0]), 2, 16) := by kernel_rfl

def crossOf (st : List Int) (x : Int) : Int × Int := if x < 0 then (atD 0 st (absI x), atD 0 st (absI x - 1)) else (atD 0 st (absI x - 1), atD 0 st (absI x))
theorem write_mid {W w3 : World} {o : Obj} {R B g gg cap cp : Nat} {vc : Value} {st : List Int} {cr : List (Int × Int)} {x y : Int}
  (hrow : W.heap[R]? = some (.cells #[.slice (some ⟨g, 0, none⟩) st.length cap, vc] 79 (0, 0))) (hO : OwnI B W (.slice (some ⟨g, 0, none⟩) st.length cap) st) (hsep : vc.ownBlock ≠ some g) (hR : R < B) (hB : B ≤ W.heap.size) (hCW : OwnP B 42 W vc cr)
  (hg : ((W.alloc o).drew).grownBy w3 vc.ownBlock) (hown3 : w3.ownsRow B 42 2 (.slice (some ⟨gg, 0, none⟩) (cr.length + 1) cp) (cr.length + 1) ((cr.flatMap fun x => (cPair x).cells.toList) ++ [.int .i64 x, .int .i64 y])) (hat : vc.ownBlock = some gg ∨ gg = W.heap.size + 1) :
  (w3.setCell ⟨R, 1, none⟩ (.slice (some ⟨gg, 0, none⟩) (cr.length + 1) cp)).heap[R]? = some (.cells #[.slice (some ⟨g, 0, none⟩) st.length cap, .slice (some ⟨gg, 0, none⟩) (cr.length + 1) cp] 79 (0, 0)) ∧
  OwnI B (w3.setCell ⟨R, 1, none⟩ (.slice (some ⟨gg, 0, none⟩) (cr.length + 1) cp)) (.slice (some ⟨g, 0, none⟩) st.length cap) st ∧
  OwnP B 42 (w3.setCell ⟨R, 1, none⟩ (.slice (some ⟨gg, 0, none⟩) (cr.length + 1) cp)) (.slice (some ⟨gg, 0, none⟩) (cr.length + 1) cp) (cr ++ [(x, y)]) ∧ gg ≠ g ∧
  Below R W (w3.setCell ⟨R, 1, none⟩ (.slice (some ⟨gg, 0, none⟩) (cr.length + 1) cp)) := by
 have hvR : vc.ownBlock ≠ some R := fun e => by have := (hCW.lt _ e).1; omega
 have hRl : R < W.heap.size := by omega
 have hgl := hO.lt g rfl
 have hb0 : Below W.heap.size W ((W.alloc o).drew) := ((Below.refl _ _).alloc (Nat.le_refl _) _).drew
 have hr3 : w3.heap[R]? = some (.cells #[.slice (some ⟨g, 0, none⟩) st.length cap, vc] 79 (0, 0)) :=
  (hg.block R (by show R < ((W.alloc o)).heap.size; simp; omega) (Ne.symm hvR)).trans ((hb0.block R hRl).trans hrow)
 refine ⟨?_, ?_, ?_, ?_, ?_⟩
 ·rw [heap_setCell_same w3 R 1 _ _ _ hr3]; rfl
 ·have h1 : OwnI B w3 (.slice (some ⟨g, 0, none⟩) st.length cap) st := ((hO.alloc o).drew).kept hg (.inr (fun e => hsep e.symm))
  exact ⟨h1.1, ownsRow_setCell_below h1.2 hR _⟩
 ·refine ⟨cPairS, ?_⟩
  have := ownsRow_setCell_below hown3 (a := ⟨R, 1, none⟩) hR (.slice (some ⟨gg, 0, none⟩) (cr.length + 1) cp)
  simpa [cPair, Value.cells] using this
 ·rcases hat with h | h
  ·intro e; rw [e] at h; exact hsep h
  ·omega
 ·refine Below.setCell (p := ⟨R, 1, none⟩) ?_ (Nat.le_refl _) _
  show Below R W w3
  exact (hb0.mono (B' := R) (by omega)).grown hg (by show R ≤ ((W.alloc o)).heap.size; simp; omega) (fun j hj => by have := (hCW.lt j hj).1; omega)

theorem write_end {W W4 : World} {R B g gg cap : Nat} {st : List Int} {cr2 : List (Int × Int)} {k : Int} {vv : Value} (h1 : 1 ≤ k) (h2 : k < st.length) (hR : R < B) (hgg : vv.ownBlock = some gg)
  (m1 : W4.heap[R]? = some (.cells #[.slice (some ⟨g, 0, none⟩) st.length cap, vv] 79 (0, 0))) (m2 : OwnI B W4 (.slice (some ⟨g, 0, none⟩) st.length cap) st) (m3 : OwnP B 42 W4 vv cr2) (m4 : gg ≠ g) (m5 : Below R W W4) :
  RowAt ((W4.setCell ⟨g, (k - 1).toNat, none⟩ (.int .i64 (atD 0 st k))).setCell ⟨g, k.toNat, none⟩ (.int .i64 (atD 0 st (k - 1)))).drew R B (swapL st k) cr2 ∧ Below R W ((W4.setCell ⟨g, (k - 1).toNat, none⟩ (.int .i64 (atD 0 st k))).setCell ⟨g, k.toNat, none⟩ (.int .i64 (atD 0 st (k - 1)))).drew := by
 obtain ⟨g', eg, hgB, _, _, ho1, hg1⟩ := own_store cInt1 m2 (atD 0 st k) (k - 1) (by omega) (by omega)
 cases eg
 have ho1' : OwnI B (W4.setCell ⟨g, (k - 1).toNat, none⟩ (cInt (atD 0 st k))) (.slice (some ⟨g, 0, none⟩) (st.set (k - 1).toNat (atD 0 st k)).length cap) (st.set (k - 1).toNat (atD 0 st k)) := by simpa using ho1
 obtain ⟨g', eg, _, _, _, ho2, hg2⟩ := own_store cInt1 ho1' (atD 0 st (k - 1)) k (by omega) (by simp; omega)
 cases eg
 have hRg : R ≠ g := by omega
 have hl : (swapL st k).length = st.length := by simp [swapL]
 refine ⟨⟨g, cap, vv, ?_, ?_, ?_, ?_, hR⟩, ?_⟩
 ·rw [hl]
  have e1 := hg1.block R (Array.getElem?_eq_some_iff.1 m1).1 (by simpa using hRg)
  have e2 := hg2.block R (by have := hg1.size; have := (Array.getElem?_eq_some_iff.1 m1).1; omega) (by simpa using hRg)
  exact (e2.trans e1).trans m1
 ·rw [hl]
  have : OwnI B ((W4.setCell ⟨g, (k - 1).toNat, none⟩ (cInt (atD 0 st k))).setCell ⟨g, k.toNat, none⟩ (cInt (atD 0 st (k - 1)))) (.slice (some ⟨g, 0, none⟩) st.length cap) (swapL st k) := by simpa [swapL] using ho2
  exact this.drew
 ·exact ((m3.kept hg1 (.inr (by rw [hgg]; simpa using m4))).kept hg2 (.inr (by rw [hgg]; simpa using m4))).drew
 ·rw [hgg]; simpa using m4
 ·have z1 := m5.size
  have hRl := (Array.getElem?_eq_some_iff.1 m1).1
  have b1 := m5.grown hg1 (by omega) (fun j hj => by cases hj; omega)
  exact (b1.grown hg2 (by have := hg1.size; omega) (fun j hj => by cases hj; omega)).drew

theorem write_any (R B : Nat) (x : Int) (st : List Int) (cr : List (Int × Int)) (w : World) (hR : RowAt w R B st cr) (hB : B ≤ w.heap.size) (hx : -1000 ≤ x ∧ x ≤ 1000) (h1 : 1 ≤ absI x) (h2 : absI x < st.length) (hst : st.length ≤ 1000) (hcr : cr.length ≤ 100000) :
  Calls Tryz.prog 111 #[.pointer (some ⟨R, 0, none⟩), .int .i64 x] w fun r w' => r = .returned (.tuple #[]) ∧ RowAt w' R B (swapL st (absI x)) (cr ++ [crossOf st x]) ∧ Below R w w' := by
 obtain ⟨g, cap, vc, hrow, hO, hC, hsep, hRB⟩ := hR
 obtain ⟨i0, hi0, hz0, hz1, hz2⟩ := info_parts info_cross
 have c0 : w.cell? ⟨R, 0, none⟩ = some (.slice (some ⟨g, 0, none⟩) st.length cap) := by rw [cell_of_row _ _ _ _ _ _ hrow]; rfl
 have c1 : w.cell? ⟨R, 1, none⟩ = some vc := by rw [cell_of_row _ _ _ _ _ _ hrow]; rfl
 obtain ⟨a1, cap1, e1, hS, _, _⟩ := hO.reps
 simp only [Value.slice.injEq, true_and] at e1
 obtain ⟨rfl, rfl⟩ := e1
 obtain ⟨k, hk⟩ : ∃ k, k = absI x := ⟨_, rfl⟩
 have hsz := size_any x w (by omega) (by omega)
 rw [← hk] at hsz h1 h2
 have HSZ := hid hsz; clear hsz
 have HK := hid hk; clear hk
 have HROW := hid hrow; clear hrow
 go_enter Tryz.func111, Tryz.ntmps111
 go_wp2_with fail
 refine HSZ.out.mono ?_
 rintro e w' ⟨rfl, rfl⟩
 go_wp2_with fail
 have hw1 : IntKind.i64.wrap (k - 1) = k - 1 := IntWalk.i64_in _ (by omega)
 refine wp_region_quiet_lit kR kR ?_
 repeat (first | ((with_reducible refine wpQD_idx 0 E_ints F_int cInt1 wU wU (hS) oD oD (fun _ => wU) (fun _ => ?_)); (try simp only [Act.put, pA, pB, pC]); (try simp only [cInt])) | quiet_step (fail))
 refine wpQuiet_nil ?_
 intro w2 hb2
 replace hb2 := below_drewN hb2
 clear hw1
 have HC2 := hid (hC.below hb2)
 have HO2 := hid (hO.below hb2)
 have hRl : R < w.heap.size := by omega
 have hrow2 : w2.heap[R]? = some (.cells #[.slice (some ⟨g, 0, none⟩) st.length cap, vc] 79 (0, 0)) := (hb2.block R hRl).trans HROW.out
 have hb2s := hb2.size
 have HROW2 := hid hrow2; clear hrow2
 by_cases hneg : x < 0
 ·have hX : crossOf st x = (atD 0 st k, atD 0 st (k - 1)) := by rw [crossOf, if_pos hneg, ← HK.out]
  have HX := hid hX; clear hX
  go_wp2_with fail
  obtain ⟨W, hW⟩ : ∃ W, W = (w2.alloc (.cells #[.int .i64 (atD 0 st k), .int .i64 (atD 0 st (k - 1))] 42)) := ⟨_, rfl⟩
  rw [← hW]
  have d1 : W.cell? ⟨R, 1, none⟩ = some vc := by rw [hW, cell_of_row _ R 1 #[.slice (some ⟨g, 0, none⟩) st.length cap, vc] 79 (0, 0) (by rw [Below.heap_alloc _ _ _ (by omega)]; exact HROW2.out)]; rfl
  have f1 : W.frozen? ⟨R, 1, none⟩ = false := by rw [hW]; exact frozen_of_row _ R 1 #[.slice (some ⟨g, 0, none⟩) st.length cap, vc] 79 (by rw [Below.heap_alloc _ _ _ (by omega)]; exact HROW2.out)
  have b0 : W.cell? ⟨w2.heap.size, 0, none⟩ = some (.int .i64 (atD 0 st k)) := by rw [hW]; simp [go_sem]
  have b1 : W.cell? ⟨w2.heap.size, 1, none⟩ = some (.int .i64 (atD 0 st (k - 1))) := by rw [hW]; simp [go_sem]
  have hCW : OwnP B 42 W vc cr := by rw [hW]; exact HC2.out.alloc _
  have hWs : W.heap.size = w2.heap.size + 1 := by rw [hW]; simp
  have hrowW : W.heap[R]? = some (.cells #[.slice (some ⟨g, 0, none⟩) st.length cap, vc] 79 (0, 0)) := by rw [hW, Below.heap_alloc _ _ _ (by omega)]; exact HROW2.out
  have hOW : OwnI B W (.slice (some ⟨g, 0, none⟩) st.length cap) st := by rw [hW]; exact HO2.out.alloc _
  have BW := hid (show Below R w W by rw [hW]; exact ((hb2.mono (B' := R) (by omega)).alloc (by omega) _))
  obtain ⟨bx, hbx⟩ : ∃ bx, bx = w2.heap.size := ⟨_, rfl⟩
  rw [← hbx] at b0 b1 hWs ⊢
  have HW := hid hW; clear hW
  have HROWW := hid hrowW; clear hrowW
  have HOWW := hid hOW; clear hOW
  have HBX := hid hbx; clear hbx
  have HWS := hid hWs; clear hWs
  have hlt1 : B ≤ W.heap.size := by rw [HWS.out, HBX.out]; omega
  have hlt2 : bx < W.heap.size := by rw [HWS.out]; omega
  have hltR : R < W.heap.size := by omega
  have hne1 : vc.ownBlock ≠ some R := fun e => by have := (hCW.lt _ e).1; omega
  have hne2 : vc.ownBlock ≠ some bx := fun e => by have := (HC2.out.lt _ e).2; rw [HBX.out] at this; omega
  have hcrl : cr.length + 1 ≤ maxLen := by unfold maxLen; omega
  go_region_law
   ((refine step_append_lies _ (by rfl) _ _ _ (by rfl) B 42 i0 _ 2 16 Tryz.underlying25 hi0 hz0 hz1 hz2 rfl (by omega) vc cr.length _ (by rfl) ((hCW.2.alloc _).drew) ⟨W.heap.size, 0, none⟩ 1 1 [.int .i64 (atD 0 st k), .int .i64 (atD 0 st (k - 1))] (by rfl) (by rfl) (World.news_of_block (cs := #[.int .i64 (atD 0 st k), .int .i64 (atD 0 st (k - 1))]) (t := 42) (fr := (0, 0)) (heap_alloc_new W _)) (by simp [Value.oneCell']) (by omega) hcrl (by omega) (by simp; omega) (W.heap.size + 1) (by simp) ?_; intro gg cp w3 hown3 hgrow3 hat3 hlt3; have e1 := hgrow3.cell_far ⟨R, 1, none⟩ (by simp; omega) (Ne.symm hne1); have e2 := hgrow3.frozen_far ⟨R, 1, none⟩ (by simp; omega) (Ne.symm hne1); simp [d1, f1, hltR] at e1 e2))
  all_goals
   have hmid := write_mid (W := W) HROWW.out HOWW.out hsep hRB hlt1 hCW hgrow3 hown3 hat3
   obtain ⟨m1, m2, m3, m4, m5⟩ := hmid
   generalize w3.setCell ⟨R, 1, none⟩ (.slice (some ⟨gg, 0, none⟩) (cr.length + 1) cp) = W4 at *
   clear e1 e2 hown3 hgrow3
   have M := hid (And.intro m1 (And.intro m2 (And.intro m3 (And.intro m4 m5))))
   have q0 : W4.cell? ⟨R, 0, none⟩ = some (.slice (some ⟨g, 0, none⟩) st.length cap) := by rw [cell_of_row _ _ _ _ _ _ m1]; rfl
   obtain ⟨g', eg, _, hck, hfk, _⟩ := own_store cInt1 m2 0 k (by omega) (by omega)
   cases eg
   obtain ⟨g', eg, _, hck1, hfk1, _⟩ := own_store cInt1 m2 0 (k - 1) (by omega) (by omega)
   cases eg
   have ek : (k - 1).toNat = k.toNat - 1 := by omega
   rw [ek] at hck1 hfk1
   have EK := hid ek; clear ek
   obtain ⟨vk, hvk⟩ := Option.isSome_iff_exists.1 hck
   obtain ⟨vk1, hvk1⟩ := Option.isSome_iff_exists.1 hck1
   clear m1 m2 m3 m4 m5 hck hck1
   obtain ⟨vf, hvf⟩ := cell?_setCell_some (w := W4) (p := ⟨g, k.toNat - 1, none⟩) (x := .int .i64 (atD 0 st k)) (q := ⟨g, k.toNat, none⟩) (v := vk) hvk
   have hnx : ¬ R = g := by have := HOWW.out.lt g rfl; omega
   have hkl : k - 1 < (st.length : Int) := by omega
   have hnx2 : ¬ g = R := fun h => hnx h.symm
   go_wp2_with fail
   have hw1 : IntKind.i64.wrap (k - 1) = k - 1 := IntWalk.i64_in _ (by omega)
   go_region
   clear hw1
   go_wp2_with fail
   go_end0
   have hE := write_end h1 h2 hRB rfl M.out.1 M.out.2.1 M.out.2.2.1 M.out.2.2.2.1 (BW.out.trans M.out.2.2.2.2)
   rw [EK.out] at hE
   refine ⟨rfl, ?_, ?_⟩
   ·rw [← HK.out, HX.out]; exact hE.1
   ·exact hE.2
 ·have hX : crossOf st x = (atD 0 st (k - 1), atD 0 st k) := by rw [crossOf, if_neg hneg, ← HK.out]
  have HX := hid hX; clear hX
  go_wp2_with fail
  obtain ⟨W, hW⟩ : ∃ W, W = (w2.alloc (.cells #[.int .i64 (atD 0 st (k - 1)), .int .i64 (atD 0 st k)] 42)) := ⟨_, rfl⟩
  rw [← hW]
  have d1 : W.cell? ⟨R, 1, none⟩ = some vc := by rw [hW, cell_of_row _ R 1 #[.slice (some ⟨g, 0, none⟩) st.length cap, vc] 79 (0, 0) (by rw [Below.heap_alloc _ _ _ (by omega)]; exact HROW2.out)]; rfl
  have f1 : W.frozen? ⟨R, 1, none⟩ = false := by rw [hW]; exact frozen_of_row _ R 1 #[.slice (some ⟨g, 0, none⟩) st.length cap, vc] 79 (by rw [Below.heap_alloc _ _ _ (by omega)]; exact HROW2.out)
  have b0 : W.cell? ⟨w2.heap.size, 0, none⟩ = some (.int .i64 (atD 0 st (k - 1))) := by rw [hW]; simp [go_sem]
  have b1 : W.cell? ⟨w2.heap.size, 1, none⟩ = some (.int .i64 (atD 0 st k)) := by rw [hW]; simp [go_sem]
  have hCW : OwnP B 42 W vc cr := by rw [hW]; exact HC2.out.alloc _
  have hWs : W.heap.size = w2.heap.size + 1 := by rw [hW]; simp
  have hrowW : W.heap[R]? = some (.cells #[.slice (some ⟨g, 0, none⟩) st.length cap, vc] 79 (0, 0)) := by rw [hW, Below.heap_alloc _ _ _ (by omega)]; exact HROW2.out
  have hOW : OwnI B W (.slice (some ⟨g, 0, none⟩) st.length cap) st := by rw [hW]; exact HO2.out.alloc _
  have BW := hid (show Below R w W by rw [hW]; exact ((hb2.mono (B' := R) (by omega)).alloc (by omega) _))
  obtain ⟨bx, hbx⟩ : ∃ bx, bx = w2.heap.size := ⟨_, rfl⟩
  rw [← hbx] at b0 b1 hWs ⊢
  have HW := hid hW; clear hW
  have HROWW := hid hrowW; clear hrowW
  have HOWW := hid hOW; clear hOW
  have HBX := hid hbx; clear hbx
  have HWS := hid hWs; clear hWs
  have hlt1 : B ≤ W.heap.size := by rw [HWS.out, HBX.out]; omega
  have hlt2 : bx < W.heap.size := by rw [HWS.out]; omega
  have hltR : R < W.heap.size := by omega
  have hne1 : vc.ownBlock ≠ some R := fun e => by have := (hCW.lt _ e).1; omega
  have hne2 : vc.ownBlock ≠ some bx := fun e => by have := (HC2.out.lt _ e).2; rw [HBX.out] at this; omega
  have hcrl : cr.length + 1 ≤ maxLen := by unfold maxLen; omega
  go_region_law
   ((refine step_append_lies _ (by rfl) _ _ _ (by rfl) B 42 i0 _ 2 16 Tryz.underlying25 hi0 hz0 hz1 hz2 rfl (by omega) vc cr.length _ (by rfl) ((hCW.2.alloc _).drew) ⟨W.heap.size, 0, none⟩ 1 1 [.int .i64 (atD 0 st (k - 1)), .int .i64 (atD 0 st k)] (by rfl) (by rfl) (World.news_of_block (cs := #[.int .i64 (atD 0 st (k - 1)), .int .i64 (atD 0 st k)]) (t := 42) (fr := (0, 0)) (heap_alloc_new W _)) (by simp [Value.oneCell']) (by omega) hcrl (by omega) (by simp; omega) (W.heap.size + 1) (by simp) ?_; intro gg cp w3 hown3 hgrow3 hat3 hlt3; have e1 := hgrow3.cell_far ⟨R, 1, none⟩ (by simp; omega) (Ne.symm hne1); have e2 := hgrow3.frozen_far ⟨R, 1, none⟩ (by simp; omega) (Ne.symm hne1); simp [d1, f1, hltR] at e1 e2))
  all_goals
   have hmid := write_mid (W := W) HROWW.out HOWW.out hsep hRB hlt1 hCW hgrow3 hown3 hat3
   obtain ⟨m1, m2, m3, m4, m5⟩ := hmid
   generalize w3.setCell ⟨R, 1, none⟩ (.slice (some ⟨gg, 0, none⟩) (cr.length + 1) cp) = W4 at *
   clear e1 e2 hown3 hgrow3
   have M := hid (And.intro m1 (And.intro m2 (And.intro m3 (And.intro m4 m5))))
   have q0 : W4.cell? ⟨R, 0, none⟩ = some (.slice (some ⟨g, 0, none⟩) st.length cap) := by rw [cell_of_row _ _ _ _ _ _ m1]; rfl
   obtain ⟨g', eg, _, hck, hfk, _⟩ := own_store cInt1 m2 0 k (by omega) (by omega)
   cases eg
   obtain ⟨g', eg, _, hck1, hfk1, _⟩ := own_store cInt1 m2 0 (k - 1) (by omega) (by omega)
   cases eg
   have ek : (k - 1).toNat = k.toNat - 1 := by omega
   rw [ek] at hck1 hfk1
   have EK := hid ek; clear ek
   obtain ⟨vk, hvk⟩ := Option.isSome_iff_exists.1 hck
   obtain ⟨vk1, hvk1⟩ := Option.isSome_iff_exists.1 hck1
   clear m1 m2 m3 m4 m5 hck hck1
   obtain ⟨vf, hvf⟩ := cell?_setCell_some (w := W4) (p := ⟨g, k.toNat - 1, none⟩) (x := .int .i64 (atD 0 st k)) (q := ⟨g, k.toNat, none⟩) (v := vk) hvk
   have hnx : ¬ R = g := by have := HOWW.out.lt g rfl; omega
   have hkl : k - 1 < (st.length : Int) := by omega
   have hnx2 : ¬ g = R := fun h => hnx h.symm
   go_wp2_with fail
   have hw1 : IntKind.i64.wrap (k - 1) = k - 1 := IntWalk.i64_in _ (by omega)
   go_region
   clear hw1
   go_wp2_with fail
   go_end0
   have hE := write_end h1 h2 hRB rfl M.out.1 M.out.2.1 M.out.2.2.1 M.out.2.2.2.1 (BW.out.trans M.out.2.2.2.2)
   rw [EK.out] at hE
   refine ⟨rfl, ?_, ?_⟩
   ·rw [← HK.out, HX.out]; exact hE.1
   ·exact hE.2
end Go.Proofs.YtngpopalpofhgaaGreatDoor

namespace Go.Proofs.YtngpopalpofhgaaGreatDoor
open Go.RowKit
set_option maxHeartbeats 1000000
set_option maxRecDepth 100000

theorem far_cell {w w3 : World} {o : Obj} {row : Option Nat} (hg : (w.alloc o).grownBy w3 row) {p : Addr} {v : Value} (h : w.cell? p = some v) (hne : row ≠ some p.block) : w3.cell? p = some v := by
 have hl := World.block_lt_of_cell? w _ h
 have hb : Below w.heap.size w (w.alloc o) := (Below.refl _ _).alloc (Nat.le_refl _) _
 rw [hg.cell_far p (by simp; omega) (Ne.symm hne), hb.cell hl, h]
theorem far_frozen {w w3 : World} {o : Obj} {row : Option Nat} (hg : (w.alloc o).grownBy w3 row) {p : Addr} {v : Value} {b : Bool} (h : w.cell? p = some v) (hf : w.frozen? p = b) (hne : row ≠ some p.block) : w3.frozen? p = b := by
 have hl := World.block_lt_of_cell? w _ h
 have hb : Below w.heap.size w (w.alloc o) := (Below.refl _ _).alloc (Nat.le_refl _) _
 rw [hg.frozen_far p (by simp; omega) (Ne.symm hne), hb.frozen hl, hf]

def rowGo : List Int → List (Int × Int) → List Int → List Int × List (Int × Int)
 | st, cr, [] => (st, cr)
 | st, cr, x :: r => rowGo (swapL st (absI x)) (cr ++ [crossOf st x]) r
def startL (n : Nat) : List Int := (List.range n).map fun (i : Nat) => (i : Int) + 1
theorem startL_succ (n : Nat) : startL (n + 1) = startL n ++ [(n : Int) + 1] := by simp [startL, List.range_succ]
theorem startL_len (n : Nat) : (startL n).length = n := by simp [startL]
def rowL (n : Nat) (ws : List Int) : List Int × List (Int × Int) := rowGo (startL n) [] ws
def fitsW (n : Nat) (ws : List Int) : Prop := ∀ x ∈ ws, -1000 ≤ x ∧ x ≤ 1000 ∧ 1 ≤ absI x ∧ absI x < n
theorem rowGo_step (st : List Int) (cr : List (Int × Int)) (ws : List Int) (k : Nat) (h : k < ws.length) : rowGo st cr (ws.drop k) = rowGo (swapL st (absI (atD 0 ws k))) (cr ++ [crossOf st (atD 0 ws k)]) (ws.drop (k + 1)) := by
 have e2 : atD 0 ws k = ws[k] := by simp [atD, h]
 rw [List.drop_eq_getElem_cons h, rowGo, e2]

theorem rowOf_any (n : Nat) (a : Option Addr) (cap : Nat) (ws : List Int) (w : World) (hS : Ints w a cap ws) (hn : 1 ≤ n) (hn2 : n ≤ 100) (hws : ws.length ≤ 100000) (hf : fitsW n ws) :
  Calls Tryz.prog 45 #[.int .i64 n, .slice a ws.length cap] w fun r w' => r = .returned (.pointer (some ⟨w.heap.size, 0, none⟩)) ∧ RowAt w' w.heap.size (w.heap.size + 1) (rowL n ws).1 (rowL n ws).2 ∧ Below w.heap.size w w' := by
 have hcap := hS.le
 have hm := hS.max
 have HF := hid hf; clear hf
 go_enter Tryz.func45, Tryz.ntmps45
 go_wp2_with fail
 go_loopw [13, 6] (fun i _ wr => ∃ (k : Nat) (vs : Value), k ≤ n ∧ i = .int .i64 k ∧ wr.heap[w.heap.size]? = some (.cells #[vs, .slice none 0 0] 79 (0, 0)) ∧ OwnI (w.heap.size + 1) wr vs (startL k) ∧ Below w.heap.size w wr ∧ w.heap.size + 1 ≤ wr.heap.size) (fun i _ _ => n - (intOf i).toNat)
 case atStart => exact ⟨0, .slice none 0 0, by omega, rfl, heap_alloc_new w _, own_nil cIntS, bal (Below.refl _ _) _, by simp⟩
 case round =>
  obtain ⟨k, vs, hk, rfl, hrow, hO, hbr, hsz⟩ := hrel
  have hle : (startL k).length ≤ 100 := by rw [startL_len]; exact Nat.le_trans hk hn2
  have c0 : wr.cell? ⟨w.heap.size, 0, none⟩ = some vs := by rw [cell_of_row _ _ _ _ _ _ hrow]; rfl
  have f0 : wr.frozen? ⟨w.heap.size, 0, none⟩ = false := frozen_of_row _ _ _ _ _ hrow
  have HROW := hid hrow; clear hrow
  by_cases hlt : k < n
  ·have hsu := startL_succ k
   have HSU := hid hsu; clear hsu
   have hnv : vs.ownBlock ≠ some w.heap.size := fun e => by have := (hO.lt _ e).1; omega
   have HNV := hid hnv; clear hnv
   go_wp2_with (first | (((with_reducible refine wpList_app (l := (startL k)) (ys := [((k : Int) + 1)]) E_ints wU wU ((hO).alloc _) (reps_new1 cIntS (((k : Int) + 1)) _ _ (by simp) rfl) cIntO (by simp; omega) (by first | omega | (simp; omega)) (by simp; omega) ?_); intro v3 w3 ho3 hg3 hat3); have e1 := far_cell hg3 c0 HNV.out; have e2 := far_frozen hg3 c0 f0 HNV.out; obtain ⟨a3, cap3, rfl, _, _, _⟩ := ho3.reps))
   have hr3 : w3.heap[w.heap.size]? = some (.cells #[vs, .slice none 0 0] 79 (0, 0)) := (hg3.block _ (by simp; omega) (Ne.symm HNV.out)).trans ((Below.heap_alloc _ _ _ (by omega)).trans HROW.out)
   have b3 := below_own' (bal hbr (.cells #[.int .i64 ((k : Int) + 1)] 3)) hg3 (hO.alloc _) (by omega) (by simp; omega)
   have z3 := hg3.size
   simp at z3
   refine ⟨⟨k + 1, .slice a3 ((startL k).length + 1) cap3, by omega, by go_num, by rw [heap_setCell_same w3 _ 0 _ _ _ hr3]; rfl, ?_, Below.setCell (p := ⟨w.heap.size, 0, none⟩) b3 (Nat.le_refl _) _, by simp [World.setCell]; omega⟩, by simp [intOf]; omega⟩
   rw [HSU.out]
   have h1 := ho3
   simp at h1
   exact ⟨h1.1, ownsRow_setCell_below h1.2 (by show w.heap.size < _; omega) _⟩
  ·have : k = n := by omega
   subst this
   have hO2 := hO
   rw [show (startL k).length = k from startL_len k] at hle
   obtain ⟨av, capv, rfl, hrv, hav, _⟩ := hO.reps
   obtain ⟨g, o, rfl, _⟩ := hrv.cells (by decide) 0 0 (by rw [startL_len]; omega)
   obtain ⟨g', eg, hgB, _⟩ := own_store cInt1 hO 0 0 (by omega) (by rw [startL_len]; omega)
   cases eg
   have hRA : RowAt wr w.heap.size (w.heap.size + 1) (startL k) [] := ⟨g, capv, .slice none 0 0, HROW.out, hO, own_nil cPairS, by simp [Value.ownBlock], by omega⟩
   have hSr := hS.below hbr
   clear hO hO2 hrv hav c0 f0
   have HRA := hid hRA; clear hRA
   go_wp2_with fail
   obtain ⟨wo, hwo⟩ : ∃ wo, wo = wr := ⟨_, rfl⟩
   go_loopw [32, 9] (fun i _ wq => ∃ (j : Nat) (st : List Int) (cr : List (Int × Int)), j ≤ ws.length ∧ i = .int .i64 j ∧ st.length = k ∧ cr.length = j ∧ RowAt wq w.heap.size (w.heap.size + 1) st cr ∧ rowGo st cr (ws.drop j) = rowL k ws ∧ Below w.heap.size w wq ∧ w.heap.size + 1 ≤ wq.heap.size) (fun i _ _ => ws.length - (intOf i).toNat)
   case atStart => exact ⟨0, startL k, [], by omega, rfl, startL_len k, rfl, HRA.out, rfl, hbr, hsz⟩
   case round =>
    obtain ⟨j, st, cr, hj, rfl, hst, hcr, hRow, hgo, hbq, hq⟩ := hrel
    have hSq := hS.below hbq
    have HST := hid hst; clear hst
    have HCR := hid hcr; clear hcr
    by_cases hlt2 : j < ws.length
    ·have hstep := rowGo_step st cr ws j hlt2
     rw [hgo] at hstep
     have HSTEP := hid hstep; clear hstep hgo
     have hfx := HF.out (atD 0 ws j) (by simp [atD, hlt2])
     have hw := write_any w.heap.size (w.heap.size + 1) (atD 0 ws j) st cr wr hRow hq ⟨hfx.1, hfx.2.1⟩ hfx.2.2.1 (by rw [HST.out]; exact hfx.2.2.2) (by rw [HST.out]; omega) (by rw [HCR.out]; omega)
     have HW := hid hw; clear hw hfx hRow
     go_wp2_with (first | (with_reducible refine wpList_idx _ 0 E_ints F_int cInt1 wU wU (hSq) oD oD (fun _ => wU) (fun _ => ?_)) | (go_at_call 111; refine HW.out.mono ?_; rintro e w5 ⟨rfl, hrow5, hb5⟩))
     have z5 := hb5.size
     refine ⟨⟨j + 1, _, _, by omega, by go_num, by rw [swapL_len]; exact HST.out, by rw [List.length_append, HCR.out]; rfl, hrow5, HSTEP.out.symm, hbq.trans hb5, by omega⟩, by simp [intOf]; omega⟩
    ·have : j = ws.length := by omega
     subst this
     have e : rowGo st cr (ws.drop ws.length) = (st, cr) := by simp [rowGo]
     rw [e] at hgo
     have HGO := hid hgo; clear hgo e
     go_wp2_with fail
     go_ret
     exact ⟨rfl, by rw [← HGO.out]; exact hRow, hbq⟩
end Go.Proofs.YtngpopalpofhgaaGreatDoor

namespace Go.Proofs.YtngpopalpofhgaaGreatDoor
open Go.RowKit
set_option maxHeartbeats 400000
set_option maxRecDepth 100000

end Go.Proofs.YtngpopalpofhgaaGreatDoor

namespace Go.Proofs.YtngpopalpofhgaaGreatDoor
open Go.RowKit
set_option maxHeartbeats 1000000
set_option maxRecDepth 100000

theorem wordE_fitsW {n : Int} {ws : List Int} (h : wordE n ws = 0) : fitsW n.toNat ws := by
 obtain ⟨h1, h2, h3, h4⟩ := wordE_fits h
 intro x hx
 have := h4 x hx
 unfold absI
 omega
def crossL (n : Int) (ws : List Int) : List (Int × Int) := if wordE n ws = 0 then (rowL n.toNat ws).2 else []

theorem Crosses_any (n : Int) (a : Option Addr) (cap : Nat) (l : List Int) (w : World) (hS : Ints w a cap l) (hsm : l.length ≤ 1048576) :
  Calls Tryz.prog 9 #[.int .i64 n, .slice a l.length cap] w fun r w' => RetPE w (crossL n l) (wordE n l) r w' := by
 have hcap := hS.le
 have hm := hS.max
 have hk := CheckWord_any n a cap l w hS hsm
 by_cases h : wordE n l = 0
 ·obtain ⟨h1, h2, h3, _⟩ := wordE_fits h
  have hf := wordE_fitsW h
  have e : crossL n l = (rowL n.toNat l).2 := if_pos h
  rw [e, h]
  rw [h] at hk
  obtain ⟨m, rfl⟩ : ∃ m : Nat, n = m := ⟨n.toNat, by omega⟩
  simp only [Int.toNat_natCast] at hf ⊢
  have HK := hid hk; clear hk h e
  have HF := hid hf; clear hf
  go_enter Tryz.func9, Tryz.ntmps9
  go_wp2_with fail
  refine HK.out.mono ?_
  rintro e w1 ⟨rfl, hb1⟩
  go_wp2_with fail
  refine (rowOf_any m a cap l w1 (hS.below hb1) (by omega) (by omega) (by omega) HF.out).mono ?_
  rintro e w2 ⟨rfl, hR, hb2⟩
  obtain ⟨g, cp, vc, hrow, hO, hP, _, _⟩ := hR
  have c1 : w2.cell? ⟨w1.heap.size, 1, none⟩ = some vc := by rw [cell_of_row _ _ _ _ _ _ hrow]; rfl
  have hb := bnext hb1 hb2
  have z1 := hb1.size
  have HROW := hid hrow; clear hrow
  go_wp2_with fail
  go_ret2
  exact RetPE.own vc rfl hP (by omega) hb
 ·have e : crossL n l = [] := if_neg h
  obtain ⟨q, hq⟩ : ∃ q, q = wordE n l := ⟨_, rfl⟩
  rw [e, ← hq]
  rw [← hq] at h hk
  have hne : (q != 0) = true := by simpa using h
  have HK := hid hk; clear hk h e hq
  go_enter Tryz.func9, Tryz.ntmps9
  go_wp2_with fail
  refine HK.out.mono ?_
  rintro e w1 ⟨rfl, hb1⟩
  go_wp2_with fail
  go_ret2
  exact RetPE.none rfl hb1
end Go.Proofs.YtngpopalpofhgaaGreatDoor

namespace Go.Proofs.YtngpopalpofhgaaGreatDoor
open Go.RowKit
set_option maxHeartbeats 1000000
set_option maxRecDepth 100000

theorem wordE_any {n : Int} {l : List Int} (h : strandsE n = 0) (h2 : l.length ≤ 200) : wordE n l = if l.any (outB n) then 3 else 0 := by
 unfold wordE
 rw [if_neg (fun hh => hh h), if_neg (by omega)]
 have key : (0 ≤ idxGo n l 0 l.length) ↔ l.any (outB n) = true := by
  rw [idxGo_neg, List.any_eq_true]
  constructor
  ·rintro ⟨j, _, hj, ho⟩
   exact ⟨atD 0 l j, by simp [atD, show j < l.length by omega], ho⟩
  ·rintro ⟨x, hx, ho⟩
   obtain ⟨j, hj, rfl⟩ := List.getElem_of_mem hx
   exact ⟨j, by omega, by omega, by simpa [atD, hj] using ho⟩
 by_cases c : l.any (outB n) = true
 ·rw [if_pos (key.2 c), if_pos c]
 ·rw [if_neg (fun h => c (key.1 h)), if_neg c]
end Go.Proofs.YtngpopalpofhgaaGreatDoor

namespace Go.Proofs.YtngpopalpofhgaaGreatDoor
open Go.RowKit
set_option maxHeartbeats 400000
set_option maxRecDepth 100000

end Go.Proofs.YtngpopalpofhgaaGreatDoor

namespace Go.Proofs.YtngpopalpofhgaaGreatDoor
open Go.RowKit

theorem nodup_ne {l : List Int} (h : l.Nodup) {a b : Nat} (hab : a < b) (hb : b < l.length) : atD 0 l a ≠ atD 0 l b := by
 have := (List.pairwise_iff_getElem.1 h) a b (by omega) hb hab
 simpa [atD, hb, show a < l.length by omega] using this

theorem nodup_le (n : Nat) (l : List Int) (hn : l.Nodup) (hr : ∀ x ∈ l, 0 ≤ x ∧ x < n) : l.length ≤ n := by
 rcases Nat.lt_or_ge n l.length with h | h
 ·obtain ⟨a, b, h1, h2, h3⟩ := php n (fun k => (atD 0 l k).toNat) (fun k hk => by
   have := hr (atD 0 l k) (by simp [atD, show k < l.length by omega])
   omega)
  have ha := hr (atD 0 l a) (by simp [atD, show a < l.length by omega])
  have hb := hr (atD 0 l b) (by simp [atD, show b < l.length by omega])
  exact absurd (by omega) (nodup_ne hn h1 (by omega))
 ·exact h

theorem permGo_zero (n : Nat) : ∀ (r seen : List Int), permGo n seen r = 0 → (∀ x ∈ r, 0 ≤ x ∧ x < n ∧ x ∉ seen) ∧ r.Nodup
 | [], _, _ => by simp
 | x :: r, seen, h => by
   rw [permGo] at h
   split at h
   · omega
   · rename_i hc
     obtain ⟨h1, h2⟩ := permGo_zero n r _ h
     have hx : 0 ≤ x ∧ x < n ∧ x ∉ seen := ⟨by omega, by omega, fun e => hc (.inr (.inr e))⟩
     refine ⟨fun y hy => ?_, List.nodup_cons.2 ⟨fun e => (h1 x e).2.2 (by simp), h2⟩⟩
     rcases List.mem_cons.1 hy with rfl | hy
     · exact hx
     · obtain ⟨a, b, c⟩ := h1 y hy
       exact ⟨a, b, fun e => c (List.mem_append_left _ e)⟩

theorem permE_zero {p : List Int} (h : permE p = 0) : p.length ≤ 256 ∧ (∀ x ∈ p, 0 ≤ x ∧ x < p.length) ∧ p.Nodup := by
 unfold permE at h
 split at h
 ·omega
 ·obtain ⟨h1, h2⟩ := permGo_zero _ _ _ h
  exact ⟨by omega, fun x hx => ⟨(h1 x hx).1, (h1 x hx).2.1⟩, h2⟩

theorem isP_of {p : List Int} (h : permE p = 0) : IsP p := by
 obtain ⟨_, h1, h2⟩ := permE_zero h
 refine ⟨fun x a b => h1 _ (atD_memZ a b), fun x y a b c d e => ?_⟩
 have ex : atD 0 p x = atD 0 p (x.toNat : Int) := by rw [Int.toNat_of_nonneg a]
 have ey : atD 0 p y = atD 0 p (y.toNat : Int) := by rw [Int.toNat_of_nonneg c]
 rw [ex, ey] at e
 rcases Nat.lt_trichotomy x.toNat y.toNat with k | k | k
 ·exact absurd e (nodup_ne h2 k (by omega))
 ·omega
 ·exact absurd e.symm (nodup_ne h2 k (by omega))

section
variable {p : List Int} (hp : IsP p)
include hp
end

theorem orb_len {p : List Int} {i : Int} {d : Nat} (h : Ord p i d) : (orb p i).length = d := by rw [orb_eq h]; simp

theorem orb_nodup {p : List Int} (hp : IsP p) {i : Int} (h0 : 0 ≤ i) (h1 : i < p.length) {d : Nat} (h : Ord p i d) : (orb p i).Nodup := by
 rw [orb_eq h, List.Nodup, List.pairwise_map, List.pairwise_iff_getElem]
 intro a b ha hb hab
 simp at ha hb ⊢
 intro e
 have e2 : itP p i b = itP p (itP p i (b - a)) a := by rw [← itP_add]; congr 1; omega
 rw [e2] at e
 have rd := itP_rng hp h0 h1 (b - a)
 exact h.min (b - a) (by omega) (by omega) (itP_inj hp h0 h1 rd.1 rd.2 a e).symm

theorem cycK_ok {p : List Int} (hp : IsP p) : ∀ k, k ≤ p.length → (cycK p k).flatten.Nodup ∧ (∀ x ∈ (cycK p k).flatten, 0 ≤ x ∧ x < p.length) ∧ (∀ x ∈ (cycK p k).flatten, atD 0 p x ∈ (cycK p k).flatten)
 | 0, _ => by simp [cycK]
 | k + 1, hk => by
   obtain ⟨h1, h2, h3⟩ := cycK_ok hp k (by omega)
   rw [cycK]
   split
   · exact ⟨h1, h2, h3⟩
   · rename_i hnot
     have hk0 : (0 : Int) ≤ k := by omega
     have hk1 : (k : Int) < p.length := by omega
     obtain ⟨d, hd⟩ := ord_ex hp hk0 hk1
     have hmem : ∀ x, x ∈ orb p k ↔ ∃ j, j < d ∧ itP p k j = x := by intro x; rw [orb_eq hd]; simp
     have hcl : ∀ m (x : Int), x ∈ (cycK p k).flatten → itP p x m ∈ (cycK p k).flatten := by
       intro m
       induction m with
       | zero => intro x hx; exact hx
       | succ m ih => intro x hx; exact h3 _ (ih x hx)
     rw [List.flatten_append]
     simp only [List.flatten_cons, List.flatten_nil, List.append_nil]
     refine ⟨List.nodup_append.2 ⟨h1, orb_nodup hp hk0 hk1 hd, ?_⟩, ?_, ?_⟩
     · intro x hx y hy e
       subst e
       obtain ⟨j, hj, rfl⟩ := (hmem _).1 hy
       have := hcl (d - j) _ hx
       rw [← itP_add, show d - j + j = d by omega, hd.back] at this
       exact hnot this
     · intro x hx
       rcases List.mem_append.1 hx with h | h
       · exact h2 x h
       · obtain ⟨j, hj, rfl⟩ := (hmem _).1 h
         exact itP_rng hp hk0 hk1 j
     · intro x hx
       rcases List.mem_append.1 hx with h | h
       · exact List.mem_append_left _ (h3 x h)
       · obtain ⟨j, hj, rfl⟩ := (hmem _).1 h
         refine List.mem_append_right _ ((hmem _).2 ?_)
         by_cases e : j + 1 = d
         · exact ⟨0, hd.pos, by have := hd.back; rw [← e] at this; exact this.symm⟩
         · exact ⟨j + 1, by omega, rfl⟩

theorem cycK_sum {p : List Int} (hp : IsP p) {k : Nat} (hk : k ≤ p.length) : ((cycK p k).map List.length).sum ≤ p.length := by
 obtain ⟨h1, h2, _⟩ := cycK_ok hp k hk
 rw [← List.length_flatten]
 exact nodup_le p.length _ h1 h2
theorem cycK_pos {p : List Int} (hp : IsP p) : ∀ {k : Nat}, k ≤ p.length → ∀ l ∈ cycK p k, 0 < l.length
 | 0, _, l, h => by simp [cycK] at h
 | k + 1, hk, l, h => by
   rw [cycK] at h
   split at h
   · exact cycK_pos hp (by omega) l h
   · rcases List.mem_append.1 h with h | h
     · exact cycK_pos hp (by omega) l h
     · obtain ⟨d, hd⟩ := ord_ex hp (i := (k : Int)) (by omega) (by omega)
       simp at h
       rw [h, orb_len hd]; exact hd.pos

/-- the least common multiple, as it is computed. -/
def lcmF (o n : Nat) : Nat := o / Nat.gcd o n * n
def perF (ls : List Nat) : Nat := ls.foldl lcmF 1
theorem perF_snoc (ls : List Nat) (n : Nat) : perF (ls ++ [n]) = lcmF (perF ls) n := by simp [perF]
theorem cube_le : ∀ k : Nat, k ^ 3 ≤ 3 ^ k
 | 0 => by decide
 | 1 => by decide
 | 2 => by decide
 | 3 => by decide
 | k + 4 => by
   have ih := cube_le (k + 3)
   have e : 3 ^ (k + 4) = 3 * 3 ^ (k + 3) := by rw [show k + 4 = (k + 3) + 1 by omega, Nat.pow_succ]; omega
   rw [e]
   refine Nat.le_trans ?_ (Nat.mul_le_mul_left 3 ih)
   have h := Nat.pow_le_pow_left (show 3 * (k + 4) ≤ 4 * (k + 3) by omega) 3
   rw [Nat.mul_pow, Nat.mul_pow] at h
   omega
theorem lcmF_le (o n : Nat) : lcmF o n ≤ o * n := Nat.mul_le_mul_right n (Nat.div_le_self _ _)
theorem perGo_le : ∀ (ls : List Nat) (o s : Nat), o ^ 3 ≤ 3 ^ s → (ls.foldl lcmF o) ^ 3 ≤ 3 ^ (s + ls.sum)
 | [], o, s, h => by simpa using h
 | n :: r, o, s, h => by
   have h2 : (lcmF o n) ^ 3 ≤ 3 ^ (s + n) := by
     refine Nat.le_trans (Nat.pow_le_pow_left (lcmF_le o n) 3) ?_
     rw [Nat.mul_pow, Nat.pow_add]
     exact Nat.mul_le_mul h (cube_le n)
   have := perGo_le r (lcmF o n) (s + n) h2
   simpa [Nat.add_assoc] using this
theorem perF_cube (ls : List Nat) : (perF ls) ^ 3 ≤ 3 ^ ls.sum := by
 have := perGo_le ls 1 0 (by decide)
 simpa [perF] using this
theorem perF_lt (ls : List Nat) (h : ls.sum ≤ 64) : perF ls < 34359738368 := by
 have h1 := perF_cube ls
 have h2 : 3 ^ ls.sum ≤ 3 ^ 64 := Nat.pow_le_pow_right (by decide) h
 rcases Nat.lt_or_ge (perF ls) 34359738368 with h3 | h3
 ·exact h3
 ·have h4 := Nat.pow_le_pow_left h3 3
  have h5 : (34359738368 : Nat) ^ 3 > 3 ^ 64 := by decide
  omega
theorem lcmF_pos {o n : Nat} (ho : 0 < o) (hn : 0 < n) : 0 < lcmF o n := by
 unfold lcmF
 have hg : 0 < Nat.gcd o n := Nat.gcd_pos_of_pos_left _ ho
 have := Nat.div_pos (Nat.le_of_dvd ho (Nat.gcd_dvd_left o n)) hg
 exact Nat.mul_pos this hn
theorem perF_pos : ∀ (ls : List Nat) (o : Nat), 0 < o → (∀ n ∈ ls, 0 < n) → 0 < ls.foldl lcmF o
 | [], o, h, _ => h
 | n :: r, o, h, hr => perF_pos r _ (lcmF_pos h (hr n (by simp))) (fun m hm => hr m (by simp [hm]))
def periodN (p : List Int) : Nat := perF ((cycK p p.length).map List.length)
end Go.Proofs.YtngpopalpofhgaaGreatDoor

namespace Go.Proofs.YtngpopalpofhgaaGreatDoor
open Go.RowKit
set_option maxHeartbeats 1000000
set_option maxRecDepth 100000

theorem new_at {X : World} {o : Obj} {k : Nat} (hk : X.heap.size = k) : (X.alloc o).heap[k]? = some o := by subst hk; exact heap_alloc_new X o
/-- a small integer, a small fraction. -/
abbrev iV (n : Int) : Value := .agg #[.int .i64 n, .slice none 0 0]
abbrev fV (p q : Int) : Value := .agg #[.int .i64 p, .slice none 0 0, .int .i64 q, .slice none 0 0]

theorem Of_any (n : Int) (w : World) :
  Calls Tryz.prog 145 #[.int .i64 n] w fun r w' => r = .returned (iV n) ∧ Below w.heap.size w w' := by
 go_enter Tryz.func145, Tryz.ntmps145
 go_wp2
 exact bodyPost_ret (v := iV n) (by simp [results, Tryz.f145, go_sem]) rfl ⟨rfl, bal (Below.refl _ _) _⟩
theorem Whole_any (n : Int) (w : World) :
  Calls Tryz.prog 94 #[iV n] w fun r w' => r = .returned (fV n 1) ∧ Below w.heap.size w w' := by
 go_enter Tryz.func94, Tryz.ntmps94
 go_wp2
 have hS := ((SL.nil w).box (.cells #[.int .i64 n, .slice none 0 0] 128)).box (.cells #[.int .i64 0, .slice none 0 0, .int .i64 0, .slice none 0 0] 130)
 simp only [World.size_alloc] at hS
 have q0 := (hS.blk 1 rfl).1
 refine wp_region_qt 3 kR kR ?_
 simp only [List.take_succ_cons, List.take_zero, List.drop_succ_cons, List.drop_zero]
 repeat (first | ((refine wpB_call (iV 1) wU (fun w' => ?_) (fun w' hw' => Of_any 1 w') ?_); (focus (go_simp; done)); (try simp only [Act.put, pA, pB, pC])) |  ((with_reducible refine wpB_load (by first | exact F_int | exact F_u64s) wU wU (by assumption) wU ?_); (try simp only [Act.put, pA, pB, pC])) | ((with_reducible refine wpB_loadS (n := 2) (us := #[_, _]) A_int kR wU wU (by assumption) wU wU ?_); (try simp only [Act.put, pA, pB, pC])) | ((with_reducible refine wpB_loadS (n := 4) (us := #[_, _, _, _]) A_frac kR wU wU (by assumption) wU wU ?_); (try simp only [Act.put, pA, pB, pC])) | ((refine wpQ_oneG ?_ wU (fun w' => ?_) ?_); rotate_left; (go_simp; rfl); (try simp only [Act.put, pA, pB, pC])))
 refine wpQuiet_nil ?_
 intro w1 hb1
 replace hS := hS.mono hb1
 go_wp2_with ((with_reducible refine wpList_stoR (us := #[.int .i64 n, .slice none 0 0, .int .i64 1, .slice none 0 0]) 0 wU wU (hS) wU kR wU wU ?_); intro w2 hS2)
 exact bodyPost_ret (results_cell rfl rfl A_frac kR (hS2.blk 0 rfl).1) rfl ⟨rfl, hS2.b⟩

theorem F_any (n : Int) (w : World) :
  Calls Tryz.prog 92 #[.int .i64 n] w fun r w' => r = .returned (fV n 1) ∧ Below w.heap.size w w' := by
 go_enter Tryz.func92, Tryz.ntmps92
 go_wp2_with fail
 refine (Of_any n _).mono ?_
 rintro e w1 ⟨rfl, hb1⟩
 go_wp2_with fail
 refine (Whole_any n _).mono ?_
 rintro e w2 ⟨rfl, hb2⟩
 have hS := (((SL.nil w).box (.cells #[.int .i64 0, .slice none 0 0, .int .i64 0, .slice none 0 0] 130)).mono hb1).mono hb2
 go_wp2_with ((with_reducible refine wpList_stoR (us := #[.int .i64 n, .slice none 0 0, .int .i64 1, .slice none 0 0]) 0 wU wU (hS) wU kR wU wU ?_); intro w3 hS2)
 exact bodyPost_ret (results_cell rfl rfl A_frac kR (hS2.blk 0 rfl).1) rfl ⟨rfl, hS2.b⟩

def sgn (n : Int) : Int := if n < 0 then -1 else if n = 0 then 0 else 1
theorem Sign_any (n : Int) (w : World) :
  Calls Tryz.prog 193 #[iV n] w fun r w' => r = .returned (.int .i64 (sgn n)) ∧ Below w.heap.size w w' := by
 rcases Int.lt_trichotomy n 0 with h | h | h
 ·have hs : sgn n = -1 := by simp [sgn, h]
  rw [hs]; clear hs
  have h2 : n ≤ -1 := by omega
  go_enter Tryz.func193, Tryz.ntmps193
  go_wp2
  go_ret
  exact ⟨by simp; omega, bal (Below.refl _ _) _⟩
 ·subst h
  go_enter Tryz.func193, Tryz.ntmps193
  go_wp2
  go_ret
  exact ⟨by simp [sgn]; decide, bal (Below.refl _ _) _⟩
 ·have hs : sgn n = 1 := by simp [sgn]; omega
  rw [hs]; clear hs
  have h2 : 1 ≤ n := by omega
  go_enter Tryz.func193, Tryz.ntmps193
  go_wp2
  go_ret
  exact ⟨by simp; omega, bal (Below.refl _ _) _⟩

theorem Abs_any (n : Int) (w : World) (h : 0 ≤ n) :
  Calls Tryz.prog 226 #[iV n] w fun r w' => r = .returned (iV n) ∧ Below w.heap.size w w' := by
 go_enter Tryz.func226, Tryz.ntmps226
 go_wp2
 exact bodyPost_ret (results_cell rfl rfl A_int kR (new_at (by simp))) rfl ⟨rfl, bal (bal (Below.refl _ _) _) _⟩

theorem DivMod_any (x y : Int) (w : World) (h0 : 0 ≤ x) (h1 : x ≤ 4611686018427387904) (h2 : 0 < y) (h3 : y ≤ 4611686018427387904) :
  Calls Tryz.prog 227 #[iV x, iV y] w fun r w' => r = .returned (.tuple #[iV (x / y), iV (x % y)]) ∧ Below w.heap.size w w' := by
 have heq := fun (w : World) (a : Option Addr) (n c : Nat) => Lib.run_eql_slice_nil (P := Tryz.prog) w 126 227 a n c 0 0 Tryz.underlying126
 have hmin : (x != -9223372036854775808) = true := by simp; omega
 go_enter Tryz.func227, Tryz.ntmps227
 go_wp2
 have hq0 : 0 ≤ x / y := Int.ediv_nonneg h0 (by omega)
 have hq1 : x / y ≤ x := Int.ediv_le_self y h0
 have hr0 : 0 ≤ x % y := Int.emod_nonneg x (by omega)
 have hr1 : x % y < y := Int.emod_lt_of_pos x h2
 have e1 : x.tdiv y = x / y := Int.tdiv_eq_ediv_of_nonneg h0
 have e2 : x.tmod y = x % y := Int.tmod_eq_emod_of_nonneg h0
 have e3 : IntKind.i64.wrap (x / y) = x / y := IntWalk.i64_in _ (by omega)
 have hy : ¬ y = 0 := by omega
 refine wp_region_quiet_lit kR kR ?_
 repeat (first  | quiet_step (fail))
 refine wpQuiet_nil ?_
 intro w1 hb1
 replace hb1 := below_drewN hb1
 have hS := ((((SL.nil w).box (.cells #[.int .i64 x, .slice none 0 0] 128)).box (.cells #[.int .i64 y, .slice none 0 0] 128)).box (.cells #[.int .i64 0, .slice none 0 0] 128)).box (.cells #[.int .i64 0, .slice none 0 0] 128)
 simp only [World.size_alloc] at hS
 replace hS := hS.mono hb1
 clear e1 e2 e3
 go_wp2_with (first | ((with_reducible refine wpList_stoR (us := #[.int .i64 (x / y), .slice none 0 0]) 1 wU wU (hS) wU kR wU wU ?_); intro w2 hS2) | ((with_reducible refine wpList_stoR (us := #[.int .i64 (x % y), .slice none 0 0]) 0 wU wU (hS2) wU kR wU wU ?_); intro w3 hS3))
 exact bodyPost_ret (results_cell2 rfl rfl rfl A_int kR kR (hS3.blk 1 rfl).1 (hS3.blk 0 rfl).1) rfl ⟨rfl, hS3.b⟩

theorem Quo_any (x y : Int) (w : World) (h0 : 0 ≤ x) (h1 : x ≤ 4611686018427387904) (h2 : 0 < y) (h3 : y ≤ 4611686018427387904) :
  Calls Tryz.prog 196 #[iV x, iV y] w fun r w' => r = .returned (iV (x / y)) ∧ Below w.heap.size w w' := by
 have hs : sgn y = 1 := by simp [sgn]; omega
 have HS1 := fun w => Sign_any y w
 rw [hs] at HS1
 have HSG := hid HS1; clear HS1 hs
 go_enter Tryz.func196, Tryz.ntmps196
 go_wp2_with fail
 have hS := (((SL.nil w).box (.cells #[.int .i64 x, .slice none 0 0] 128)).box (.cells #[.int .i64 y, .slice none 0 0] 128)).box (.cells #[.int .i64 0, .slice none 0 0] 128)
 simp only [World.size_alloc] at hS
 refine (HSG.out _).mono ?_
 rintro e w1 ⟨rfl, hb1⟩
 replace hS := hS.mono hb1
 have q1 := (hS.blk 1 rfl).1
 have q2 := (hS.blk 2 rfl).1
 go_wp2_with (first | (with_reducible refine wpList_ldB (by first | exact F_int | exact F_u64s) wU wU (by assumption) wU ?_) | (with_reducible refine wpList_ldS (n := 2) (us := #[_, _]) A_int kR wU wU (by assumption) wU wU ?_))
 refine (DivMod_any x y _ h0 h1 h2 h3).mono ?_
 rintro e w2 ⟨rfl, hb2⟩
 replace hS := hS.mono hb2
 clear q1 q2
 go_wp2_with ((with_reducible refine wpList_stoR (us := #[.int .i64 (x / y), .slice none 0 0]) 0 wU wU (((hS.al _).al _)) wU kR wU wU ?_); intro w3 hS3)
 exact bodyPost_ret (results_cell rfl rfl A_int kR (hS3.blk 0 rfl).1) rfl ⟨rfl, hS3.b⟩

theorem Gcd_any (x y : Int) (w : World) (h0 : 0 ≤ x) (h1 : x ≤ 4611686018427387904) (h2 : 0 ≤ y) (h3 : y ≤ 4611686018427387904) :
  Calls Tryz.prog 195 #[iV x, iV y] w fun r w' => r = .returned (iV (Int.gcd x y)) ∧ Below w.heap.size w w' := by
 go_enter Tryz.func195, Tryz.ntmps195
 go_wp2_with fail
 have hS := (((SL.nil w).box (.cells #[.int .i64 x, .slice none 0 0] 128)).box (.cells #[.int .i64 y, .slice none 0 0] 128)).box (.cells #[.int .i64 0, .slice none 0 0] 128)
 simp only [World.size_alloc] at hS
 have q1 := (hS.blk 1 rfl).1
 have q2 := (hS.blk 2 rfl).1
 refine wp_region_qt 4 kR kR ?_
 simp only [List.take_succ_cons, List.take_zero, List.drop_succ_cons, List.drop_zero]
 repeat (first | ((refine wpB_call (iV x) wU (fun w' => ?_) (fun w' hw' => Abs_any x w' h0) ?_); (focus (go_simp; done)); (try simp only [Act.put, pA, pB, pC])) | ((refine wpB_call (iV y) wU (fun w' => ?_) (fun w' hw' => Abs_any y w' h2) ?_); (focus (go_simp; done)); (try simp only [Act.put, pA, pB, pC])) |  ((with_reducible refine wpB_load (by first | exact F_int | exact F_u64s) wU wU (by assumption) wU ?_); (try simp only [Act.put, pA, pB, pC])) | ((with_reducible refine wpB_loadS (n := 2) (us := #[_, _]) A_int kR wU wU (by assumption) wU wU ?_); (try simp only [Act.put, pA, pB, pC])) | ((with_reducible refine wpB_loadS (n := 4) (us := #[_, _, _, _]) A_frac kR wU wU (by assumption) wU wU ?_); (try simp only [Act.put, pA, pB, pC])) | ((refine wpQ_oneG ?_ wU (fun w' => ?_) ?_); rotate_left; (go_simp; rfl); (try simp only [Act.put, pA, pB, pC])))
 refine wpQuiet_nil ?_
 intro w1 hb1
 replace hS := hS.mono hb1
 clear q1 q2
 go_wp2_with (first | ((with_reducible refine wpList_stoR (us := #[.int .i64 x, .slice none 0 0]) 2 wU wU (hS) wU kR wU wU ?_); intro w2 hS2) | ((with_reducible refine wpList_stoR (us := #[.int .i64 y, .slice none 0 0]) 1 wU wU (hS2) wU kR wU wU ?_); intro w3 hS3))
 go_frame
 obtain ⟨H, hH⟩ : ∃ H, H = w.heap.size := ⟨_, rfl⟩
 rw [← hH] at hS3 ⊢
 have HH := hid hH; clear hH
 clear hS2 hS
 have hS3 : SL H w w3 [pBlk (H + 1 + 1) (.cells #[.int .i64 0, .slice none 0 0] 128), pBlk (H + 1) (.cells #[.int .i64 y, .slice none 0 0] 128), pBlk H (.cells #[.int .i64 x, .slice none 0 0] 128)] := hS3
 go_loopg [] y.toNat (fun g wr => ∃ a b : Int, g = b.toNat ∧ 0 ≤ a ∧ a ≤ 4611686018427387904 ∧ 0 ≤ b ∧ b ≤ 4611686018427387904 ∧ Aside (Int.gcd a b = Int.gcd x y) ∧
   SL H w wr [pBlk (H + 1 + 1) (.cells #[.int .i64 0, .slice none 0 0] 128), pBlk (H + 1) (.cells #[.int .i64 b, .slice none 0 0] 128), pBlk H (.cells #[.int .i64 a, .slice none 0 0] 128)])
 case atStart => exact ⟨x, y, rfl, h0, h1, h2, h3, rfl, hS3⟩
 case round =>
  obtain ⟨a, b, hg, ha0, ha1, hb0, hb1', HG, hSr⟩ := hrel
  have HGK := hid hg; clear hg
  clear hS3
  have q1 := (hSr.blk 1 rfl).1
  have q2 := (hSr.blk 2 rfl).1
  by_cases hz : b = 0
  ·subst hz
   have HSG := hid (fun w => Sign_any 0 w)
   go_wp2_with (with_reducible refine wpList_ldS (n := 2) (us := #[_, _]) A_int kR wU wU (by assumption) wU wU ?_)
   refine (HSG.out _).mono ?_
   rintro e w4 ⟨rfl, hb4⟩
   replace hSr := hSr.mono hb4
   clear q1 q2
   have q2 := (hSr.blk 2 rfl).1
   have hs0 : sgn 0 = 0 := by decide
   go_wp2_with (first | (with_reducible refine wpList_ldS (n := 2) (us := #[_, _]) A_int kR wU wU (by assumption) wU wU ?_) | ((with_reducible refine wpList_stoR (us := #[.int .i64 a, .slice none 0 0]) 0 wU wU (hSr) wU kR wU wU ?_); intro w5 hS5))
   refine bodyPost_ret (results_cell rfl rfl A_int kR (hS5.blk 0 rfl).1) rfl ⟨?_, by rw [← HH.out]; exact hS5.b⟩
   rw [← HG.out, Int.gcd_zero_right, Int.natAbs_of_nonneg ha0]
  ·have hs : sgn b = 1 := by simp [sgn]; omega
   have HS1 := fun w => Sign_any b w
   rw [hs] at HS1
   have HSG := hid HS1; clear HS1 hs
   have hbp : 0 < b := by omega
   go_wp2_with (with_reducible refine wpList_ldS (n := 2) (us := #[_, _]) A_int kR wU wU (by assumption) wU wU ?_)
   refine (HSG.out _).mono ?_
   rintro e w4 ⟨rfl, hb4⟩
   replace hSr := hSr.mono hb4
   clear q1 q2
   have q1 := (hSr.blk 1 rfl).1
   have q2 := (hSr.blk 2 rfl).1
   go_wp2_with (with_reducible refine wpList_ldS (n := 2) (us := #[_, _]) A_int kR wU wU (by assumption) wU wU ?_)
   refine (DivMod_any a b _ ha0 ha1 hbp hb1').mono ?_
   rintro e w5 ⟨rfl, hb5⟩
   replace hSr := hSr.mono hb5
   clear q1 q2
   go_wp2_with fail
   replace hSr := (hSr.box (.cells #[.int .i64 (a / b), .slice none 0 0] 128)).box (.cells #[.int .i64 (a % b), .slice none 0 0] 128)
   simp only [World.size_alloc] at hSr
   have hr0 : 0 ≤ a % b := Int.emod_nonneg a (by omega)
   have hr1 : a % b < b := Int.emod_lt_of_pos a hbp
   have n1 := hSr.apart 0 4 (by decide) rfl rfl blk_at blk_at
   have n2 := hSr.apart 0 3 (by decide) rfl rfl blk_at blk_at
   obtain ⟨K, hK⟩ : ∃ K, K = w5.heap.size + 1 := ⟨_, rfl⟩
   rw [← hK] at hSr n1 n2 ⊢
   clear hK
   obtain ⟨W6, hW6⟩ : ∃ W6, W6 = (w5.alloc (.cells #[.int .i64 (a / b), .slice none 0 0] 128)).alloc (.cells #[.int .i64 (a % b), .slice none 0 0] 128) := ⟨_, rfl⟩
   rw [← hW6] at hSr ⊢
   clear hW6
   have c0 := hSr.cell 4 rfl 0 rfl
   have c1 := hSr.cell 4 rfl 1 rfl
   have c2 := hSr.cell 3 rfl 0 rfl
   have c3 := hSr.cell 3 rfl 1 rfl
   have c4 := hSr.cell 0 rfl 0 rfl
   have c5 := hSr.cell 0 rfl 1 rfl
   have f0 := hSr.frozen 4 rfl 0
   have f1 := hSr.frozen 4 rfl 1
   have f2 := hSr.frozen 3 rfl 0
   have f3 := hSr.frozen 3 rfl 1
   go_region
   have hS9 := ((((hSr.set 4 rfl 0 (.int .i64 b)).set 4 rfl 1 (.slice none 0 0)).set 3 rfl 0 (.int .i64 (a % b))).set 3 rfl 1 (.slice none 0 0)).drew
   go_wp2
   go_roundg ((a % b).toNat)
   case measure => rw [HGK.out]; omega
   case rel => exact ⟨b, a % b, rfl, hb0, hb1', hr0, by omega, by show _ = _; rw [← HG.out]; exact gcd_step ha0 hb0, hS9.pick [2, 3, 4] (by decide) _ rfl⟩

/-- the quotient of two small numbers. -/
theorem Make_any (x y : Int) (w : World) (h0 : 0 ≤ x) (h1 : x ≤ 4611686018427387904) (h2 : 0 < y) (h3 : y ≤ 4611686018427387904) :
  Calls Tryz.prog 148 #[iV x, iV y] w fun r w' => r = .returned (fV (x / Int.gcd x y) (y / Int.gcd x y)) ∧ Below w.heap.size w w' := by
 have hs : sgn y = 1 := by simp [sgn]; omega
 have HS1 := fun w => Sign_any y w
 rw [hs] at HS1
 have HSG := hid HS1; clear HS1 hs
 have heq := fun (w : World) (a : Option Addr) (n c : Nat) => Lib.run_eql_slice_nil (P := Tryz.prog) w 126 227 a n c 0 0 Tryz.underlying126
 by_cases hy : y = 1
 ·subst hy
  have e : Int.gcd x 1 = 1 := by simp
  rw [e]
  clear e
  go_enter Tryz.func148, Tryz.ntmps148
  go_wp2_with fail
  have hS := (((SL.nil w).box (.cells #[.int .i64 x, .slice none 0 0] 128)).box (.cells #[.int .i64 1, .slice none 0 0] 128)).box (.cells #[.int .i64 0, .slice none 0 0, .int .i64 0, .slice none 0 0] 130)
  simp only [World.size_alloc] at hS
  refine (HSG.out _).mono ?_
  rintro e w1 ⟨rfl, hb1⟩
  replace hS := hS.mono hb1
  have q1 := (hS.blk 1 rfl).1
  have q2 := (hS.blk 2 rfl).1
  go_wp2_with (first | (with_reducible refine wpList_ldB (by first | exact F_int | exact F_u64s) wU wU (by assumption) wU ?_) | (with_reducible refine wpList_ldS (n := 2) (us := #[_, _]) A_int kR wU wU (by assumption) wU wU ?_) | ((with_reducible refine wpList_stoR (us := #[.int .i64 x, .slice none 0 0, .int .i64 1, .slice none 0 0]) 0 wU wU (hS) wU kR wU wU ?_); intro w2 hS2))
  refine bodyPost_ret (results_cell rfl rfl A_frac kR (hS2.blk 0 rfl).1) rfl ⟨?_, hS2.b⟩
  simp
 ·have hne : (y == 1) = false := by simpa using hy
  have hg0 : 0 < Int.gcd x y := Int.gcd_pos_of_ne_zero_right _ (by omega)
  have hg1 : (Int.gcd x y : Int) ≤ y := Int.le_of_dvd h2 (Int.gcd_dvd_right ..)
  obtain ⟨g, hg⟩ : ∃ g : Int, g = Int.gcd x y := ⟨_, rfl⟩
  have hG := fun w => Gcd_any x y w h0 h1 (by omega) h3
  rw [← hg] at hG ⊢
  have hg0' : 0 < g := by omega
  have hg1' : g ≤ y := by omega
  have HG := hid hG; clear hG
  clear hg hg0 hg1
  go_enter Tryz.func148, Tryz.ntmps148
  go_wp2_with fail
  have hS := (((SL.nil w).box (.cells #[.int .i64 x, .slice none 0 0] 128)).box (.cells #[.int .i64 y, .slice none 0 0] 128)).box (.cells #[.int .i64 0, .slice none 0 0, .int .i64 0, .slice none 0 0] 130)
  simp only [World.size_alloc] at hS
  refine (HSG.out _).mono ?_
  rintro e w1 ⟨rfl, hb1⟩
  replace hS := hS.mono hb1
  have q1 := (hS.blk 1 rfl).1
  have q2 := (hS.blk 2 rfl).1
  go_wp2_with (first | (with_reducible refine wpList_ldB (by first | exact F_int | exact F_u64s) wU wU (by assumption) wU ?_) | (with_reducible refine wpList_ldS (n := 2) (us := #[_, _]) A_int kR wU wU (by assumption) wU wU ?_))
  refine (HG.out _).mono ?_
  rintro e w2 ⟨rfl, hb2⟩
  replace hS := hS.mono hb2
  clear q1 q2
  go_wp2_with fail
  replace hS := hS.box (.cells #[.int .i64 g, .slice none 0 0] 128)
  have q0 := (hS.blk 0 rfl).1
  have q1 := (hS.blk 2 rfl).1
  have q2 := (hS.blk 3 rfl).1
  refine wp_region_qt 7 kR kR ?_
  simp only [List.take_succ_cons, List.take_zero, List.drop_succ_cons, List.drop_zero]
  repeat (first | ((refine wpB_call (iV (x / g)) wU (fun w' => ?_) (fun w' hw' => Quo_any x g w' h0 h1 hg0' (by omega)) ?_); (focus (go_simp; done)); (try simp only [Act.put, pA, pB, pC])) | ((refine wpB_call (iV (y / g)) wU (fun w' => ?_) (fun w' hw' => Quo_any y g w' (by omega) h3 hg0' (by omega)) ?_); (focus (go_simp; done)); (try simp only [Act.put, pA, pB, pC])) |  ((with_reducible refine wpB_load (by first | exact F_int | exact F_u64s) wU wU (by assumption) wU ?_); (try simp only [Act.put, pA, pB, pC])) | ((with_reducible refine wpB_loadS (n := 2) (us := #[_, _]) A_int kR wU wU (by assumption) wU wU ?_); (try simp only [Act.put, pA, pB, pC])) | ((with_reducible refine wpB_loadS (n := 4) (us := #[_, _, _, _]) A_frac kR wU wU (by assumption) wU wU ?_); (try simp only [Act.put, pA, pB, pC])) | ((refine wpQ_oneG ?_ wU (fun w' => ?_) ?_); rotate_left; (go_simp; rfl); (try simp only [Act.put, pA, pB, pC])))
  refine wpQuiet_nil ?_
  intro w3 hb3
  replace hS := hS.mono hb3
  clear q0 q1 q2
  go_wp2_with ((with_reducible refine wpList_stoR (us := #[.int .i64 (x / g), .slice none 0 0, .int .i64 (y / g), .slice none 0 0]) 1 wU wU (hS) wU kR wU wU ?_); intro w4 hS2)
  exact bodyPost_ret (results_cell rfl rfl A_frac kR (hS2.blk 1 rfl).1) rfl ⟨rfl, hS2.b⟩
end Go.Proofs.YtngpopalpofhgaaGreatDoor

namespace Go.Proofs.YtngpopalpofhgaaGreatDoor
open Go.RowKit Go.Shelf
set_option maxHeartbeats 1000000
set_option maxRecDepth 100000

theorem Inv_any (p q : Int) (w : World) (h0 : 0 < p) (h1 : p ≤ 4611686018427387904) (h2 : 0 ≤ q) (h3 : q ≤ 4611686018427387904) :
  Calls Tryz.prog 147 #[fV p q] w fun r w' => r = .returned (fV (q / Int.gcd q p) (p / Int.gcd q p)) ∧ Below w.heap.size w w' := by
 have HM := hid (fun w => Make_any q p w h2 h3 h0 h1)
 obtain ⟨g, hg⟩ : ∃ g : Int, g = Int.gcd q p := ⟨_, rfl⟩
 rw [← hg] at HM ⊢
 clear hg
 go_enter Tryz.func147, Tryz.ntmps147
 go_wp2_with fail
 refine (HM.out _).mono ?_
 rintro e w1 ⟨rfl, hb1⟩
 have hS := ((SL.nil w).box (.cells #[.int .i64 p, .slice none 0 0, .int .i64 q, .slice none 0 0] 130)).box (.cells #[.int .i64 0, .slice none 0 0, .int .i64 0, .slice none 0 0] 130)
 simp only [World.size_alloc] at hS
 replace hS := hS.mono hb1
 go_wp2_with ((with_reducible refine wpList_stoR (us := #[.int .i64 (q / g), .slice none 0 0, .int .i64 (p / g), .slice none 0 0]) 0 wU wU (hS) wU kR wU wU ?_); intro w4 hS2)
 exact bodyPost_ret (results_cell rfl rfl A_frac kR (hS2.blk 0 rfl).1) rfl ⟨rfl, hS2.b⟩

theorem nsize_any (n : Int) (w : World) (h0 : 0 ≤ n) (h1 : n ≤ 4611686018427387904) :
  Calls Tryz.prog 197 #[.int .i64 n] w fun r w' => r = .returned (.int .u64 n) ∧ w = w' := by
 go_enter Tryz.func197, Tryz.ntmps197
 go_wp2
 go_ret
 exact ⟨by congr 2 <;> omega, rfl⟩
theorem mul64_any (x y : Int) (hx : 0 ≤ x) (hy : 0 ≤ y) (h : x * y ≤ 4611686018427387904) (hx2 : x ≤ 4611686018427387904) (hy2 : y ≤ 4611686018427387904) (w : World) :
  Calls Tryz.prog 188 #[.int .u64 x, .int .u64 y] w fun e w' => e = .returned (.tuple #[.int .u64 0, .int .u64 (x * y)]) ∧ w = w' := by
 obtain ⟨a, rfl⟩ := Int.eq_ofNat_of_zero_le hx
 obtain ⟨b, rfl⟩ := Int.eq_ofNat_of_zero_le hy
 have h' : a * b ≤ 4611686018427387904 := by have : ((a * b : Nat) : Int) ≤ 4611686018427387904 := by rw [Int.natCast_mul]; exact h
                                             omega
 refine (Any.bits_Mul64 { Tryz.lays212 with } a b (by omega) (by omega) w).mono ?_
 rintro e w' ⟨rfl, rfl⟩
 have e1 : a * b / 18446744073709551616 = 0 := Nat.div_eq_of_lt (by omega)
 have e2 : a * b % 18446744073709551616 = a * b := Nat.mod_eq_of_lt (by omega)
 rw [e1, e2]
 exact ⟨by rw [Int.natCast_mul]; rfl, rfl⟩

theorem IMul_any (x y : Int) (w : World) (h0 : 0 ≤ x) (h1 : x ≤ 4611686018427387904) (h2 : 0 ≤ y) (h3 : y ≤ 4611686018427387904) (h : x * y ≤ 4611686018427387904) :
  Calls Tryz.prog 149 #[iV x, iV y] w fun r w' => r = .returned (iV (x * y)) ∧ Below w.heap.size w w' := by
 have hp0 : 0 ≤ x * y := Int.mul_nonneg h0 h2
 have HM := hid (mul64_any x y h0 h2 h h1 h3)
 obtain ⟨z, hz⟩ : ∃ z, z = x * y := ⟨_, rfl⟩
 rw [← hz] at HM h hp0 ⊢
 clear hz
 have hx : decide (x < 0) = false := by simp; omega
 have hy : decide (y < 0) = false := by simp; omega
 have heq := fun (w : World) (a : Option Addr) (n c : Nat) => Lib.run_eql_slice_nil (P := Tryz.prog) w 126 227 a n c 0 0 Tryz.underlying126
 go_enter Tryz.func149, Tryz.ntmps149
 go_wp2
 have hS := (((SL.nil w).box (.cells #[.int .i64 x, .slice none 0 0] 128)).box (.cells #[.int .i64 y, .slice none 0 0] 128)).box (.cells #[.int .i64 0, .slice none 0 0] 128)
 simp only [World.size_alloc] at hS
 have q1 := (hS.blk 1 rfl).1
 have q2 := (hS.blk 2 rfl).1
 refine wp_region_q kR kR ?_
 repeat (first | ((refine wpB_call (.int .u64 x) wU (fun w' => ?_) (fun w' hw' => calls_below (nsize_any x w' h0 h1)) ?_); (focus (go_simp; done)); (try simp only [Act.put, pA, pB, pC])) | ((refine wpB_call (.int .u64 y) wU (fun w' => ?_) (fun w' hw' => calls_below (nsize_any y w' h2 h3)) ?_); (focus (go_simp; done)); (try simp only [Act.put, pA, pB, pC])) | ((refine wpB_call (.tuple #[.int .u64 0, .int .u64 z]) wU (fun w' => ?_) (fun w' hw' => calls_below (HM.out w')) ?_); (focus (go_simp; done)); (try simp only [Act.put, pA, pB, pC])) |  ((with_reducible refine wpB_load (by first | exact F_int | exact F_u64s) wU wU (by assumption) wU ?_); (try simp only [Act.put, pA, pB, pC])) | ((with_reducible refine wpB_loadS (n := 2) (us := #[_, _]) A_int kR wU wU (by assumption) wU wU ?_); (try simp only [Act.put, pA, pB, pC])) | ((with_reducible refine wpB_loadS (n := 4) (us := #[_, _, _, _]) A_frac kR wU wU (by assumption) wU wU ?_); (try simp only [Act.put, pA, pB, pC])) | ((refine wpQ_oneG ?_ wU (fun w' => ?_) ?_); rotate_left; (go_simp; rfl); (try simp only [Act.put, pA, pB, pC])))
 refine wpQuiet_nil ?_
 intro w1 hb1
 replace hS := hS.mono hb1
 clear q1 q2
 have q1 := (hS.blk 1 rfl).1
 have q2 := (hS.blk 2 rfl).1
 go_wp2_with (first | (with_reducible refine wpList_ldB (by first | exact F_int | exact F_u64s) wU wU (by assumption) wU ?_) | ((with_reducible refine wpList_stoR (us := #[.int .i64 z, .slice none 0 0]) 0 wU wU (hS) wU kR wU wU ?_); intro w2 hS2))
 exact bodyPost_ret (results_cell rfl rfl A_int kR (hS2.blk 0 rfl).1) rfl ⟨rfl, hS2.b⟩

theorem FMul_any (a b c d : Int) (w : World) (a0 : 0 ≤ a) (a1 : a ≤ 4611686018427387904) (b0 : 0 < b) (b1 : b ≤ 4611686018427387904) (c0 : 0 ≤ c) (c1 : c ≤ 4611686018427387904) (d0 : 0 < d) (d1 : d ≤ 4611686018427387904) (hac : a * c ≤ 4611686018427387904) (hbd : b * d ≤ 4611686018427387904) :
  Calls Tryz.prog 96 #[fV a b, fV c d] w fun r w' => r = .returned (fV (a * c / Int.gcd (a * c) (b * d)) (b * d / Int.gcd (a * c) (b * d))) ∧ Below w.heap.size w w' := by
 have m0 : 0 ≤ a * c := Int.mul_nonneg a0 c0
 have m1 : 0 < b * d := Int.mul_pos b0 d0
 have HM := hid (fun w => Make_any (a * c) (b * d) w m0 hac m1 hbd)
 have HA := hid (fun w => IMul_any a c w a0 a1 c0 c1 hac)
 have HB := hid (fun w => IMul_any b d w (by omega) b1 (by omega) d1 hbd)
 obtain ⟨x, hx⟩ : ∃ x, x = a * c / Int.gcd (a * c) (b * d) := ⟨_, rfl⟩
 obtain ⟨y, hy⟩ : ∃ y, y = b * d / Int.gcd (a * c) (b * d) := ⟨_, rfl⟩
 rw [← hx, ← hy] at HM
 rw [← hx, ← hy]
 clear hx hy
 obtain ⟨p, hp⟩ : ∃ p, p = a * c := ⟨_, rfl⟩
 obtain ⟨q, hq⟩ : ∃ q, q = b * d := ⟨_, rfl⟩
 rw [← hp] at HM HA
 rw [← hq] at HM HB
 clear hp hq m0 m1 hac hbd
 go_enter Tryz.func96, Tryz.ntmps96
 go_wp2
 have hS := (((SL.nil w).box (.cells #[.int .i64 a, .slice none 0 0, .int .i64 b, .slice none 0 0] 130)).box (.cells #[.int .i64 c, .slice none 0 0, .int .i64 d, .slice none 0 0] 130)).box (.cells #[.int .i64 0, .slice none 0 0, .int .i64 0, .slice none 0 0] 130)
 simp only [World.size_alloc] at hS
 have q1 := (hS.blk 1 rfl).1
 have q2 := (hS.blk 2 rfl).1
 refine wp_region_qt 11 kR kR ?_
 simp only [List.take_succ_cons, List.take_zero, List.drop_succ_cons, List.drop_zero]
 repeat (first | ((refine wpB_call (iV p) wU (fun w' => ?_) (fun w' hw' => HA.out w') ?_); (focus (go_simp; done)); (try simp only [Act.put, pA, pB, pC])) | ((refine wpB_call (iV q) wU (fun w' => ?_) (fun w' hw' => HB.out w') ?_); (focus (go_simp; done)); (try simp only [Act.put, pA, pB, pC])) | ((refine wpB_call (fV x y) wU (fun w' => ?_) (fun w' hw' => HM.out w') ?_); (focus (go_simp; done)); (try simp only [Act.put, pA, pB, pC])) |  ((with_reducible refine wpB_load (by first | exact F_int | exact F_u64s) wU wU (by assumption) wU ?_); (try simp only [Act.put, pA, pB, pC])) | ((with_reducible refine wpB_loadS (n := 2) (us := #[_, _]) A_int kR wU wU (by assumption) wU wU ?_); (try simp only [Act.put, pA, pB, pC])) | ((with_reducible refine wpB_loadS (n := 4) (us := #[_, _, _, _]) A_frac kR wU wU (by assumption) wU wU ?_); (try simp only [Act.put, pA, pB, pC])) | ((refine wpQ_oneG ?_ wU (fun w' => ?_) ?_); rotate_left; (go_simp; rfl); (try simp only [Act.put, pA, pB, pC])))
 refine wpQuiet_nil ?_
 intro w1 hb1
 replace hS := hS.mono hb1
 go_wp2_with ((with_reducible refine wpList_stoR (us := #[.int .i64 x, .slice none 0 0, .int .i64 y, .slice none 0 0]) 0 wU wU (hS) wU kR wU wU ?_); intro w2 hS2)
 exact bodyPost_ret (results_cell rfl rfl A_frac kR (hS2.blk 0 rfl).1) rfl ⟨rfl, hS2.b⟩
end Go.Proofs.YtngpopalpofhgaaGreatDoor

namespace Go.Proofs.YtngpopalpofhgaaGreatDoor
open Go.RowKit Go.Shelf
set_option maxHeartbeats 2000000
set_option maxRecDepth 100000

section
variable {p : List Int} (hp : IsP p) {i : Int} (h0 : 0 ≤ i) (h1 : i < p.length)
end

end Go.Proofs.YtngpopalpofhgaaGreatDoor

namespace Go.Proofs.YtngpopalpofhgaaGreatDoor
open Go.RowKit Go.Shelf
set_option maxHeartbeats 2000000
set_option maxRecDepth 100000

theorem cSl1 (x : SlH) : (cSl x).cells = #[cSl x] := rfl
theorem F_sl : Flat Tryz.prog 22 := ⟨_, Tryz.underlying22, rfl⟩
end Go.Proofs.YtngpopalpofhgaaGreatDoor
