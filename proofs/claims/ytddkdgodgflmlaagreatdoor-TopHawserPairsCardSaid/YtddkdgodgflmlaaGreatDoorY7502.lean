/- Contracts and plain facts that the claim uses (OpC TpF SpB QrP QrA QrC QrD LwA OpM QsG TuP HtA RmP). Conditions: as each one states. -/
import Derived.Test.YtddkdgodgflmlaaGreatDoorProg
import Derived.WalkKit
import Derived.WalkSpells
import Derived.Maps.AppendAt
import Derived.Deep.Quiet
import Derived.Maps.Own
import Derived.Maps.OwnSet
import Derived.Maps.Views
import Derived.WalkLawsBesides
import Derived.Laws.EntriesVeiled
import Derived.ReadAgain
import Derived.ChangeSlices
import Derived.Lib.SmallJoins
import Derived.OpenShut
import Derived.ProofKit
import Derived.Deep.DeepHandedRow
import Derived.Deep.SlicePairs
import Derived.Deep.QuietTactic
import Derived.BigQuiet
import Derived.Lib.OthersKept
import Derived.Shelf.Strings.Trim
import Derived.Shelf.Strings.SlTrimAscii
import Derived.Shelf.Strings.Repeat
import Derived.Shelf.Strings.OnBuilder
import Derived.Shelf.Strconv.Itoa1
import Derived.Shelf.Strconv.Itoa3
import Derived.Shelf.LaysM
import Derived.Ground.Names2Prog
import Derived.Deep.RegionHeld3
import Derived.Deep.AppendLies
import Derived.Deep.RegionHeldLaw
import Derived.Deep.RegionLaw
import Derived.Lib.ItoaLen
import Derived.Lib.ItoaMem
import Derived.RangeFuncNested
import Derived.RangeFuncBound
import Derived.RangeFuncCalls
import Derived.RangeFuncLeaves
import Derived.RangeFuncFrom
import Derived.Shelf.Abstract
import Derived.Shelf.RegionOpen
import Derived.OwnWalkIn
import Derived.TacticsInMore
import Derived.LoopNIn
import Derived.LoopIn
import Derived.Deep.LoopGhost
import Derived.Laws.CopyOwn
import Derived.IntWalk
import Derived.Sort.LoopGhostIn
import Derived.StillTail
import Derived.Laws.Tables
import Derived.BigRegion
import Derived.ChangeAlike
import Derived.Shelf.Bits.Mul64
import Derived.Maps.RangeWalk
import Derived.Lib.Split
import Derived.Lib.AtoiAll
import Derived.Lib.AppendIntMem
import Derived.LaidSub
import Derived.Lib.LaidTab
import Derived.Lib.AtoiErrMem
import Derived.Maps.Ext
import Derived.Stop.LaidErr
import Derived.Test.YtddkdgodgflmlaaGreatDoorCards
import Derived.Test.YtddkdgodgflmlaaGreatDoorTie
import Derived.Sort.QuietThIn
import Derived.Test.YtddkdgodgflmlaaGreatDoorXz01
import Derived.Test.YtddkdgodgflmlaaGreatDoorXz02
import Derived.Test.YtddkdgodgflmlaaGreatDoorXz03
import Derived.Test.YtddkdgodgflmlaaGreatDoorXz04
import Derived.Test.YtddkdgodgflmlaaGreatDoorXz05
import Derived.Test.YtddkdgodgflmlaaGreatDoorY7501
set_option linter.all false

namespace Go.Proofs.YtddkdgodgflmlaaGreatDoor
open Go.RowKit Go.ChangeShapes Go.WideShapes Go.ChangeAt
set_option maxRecDepth 100000

theorem kidsP : Kids Tryz.prog (· < Tryz.prog.types.size) := kids_rows kR kR
theorem fullP : ∀ t e, t < Tryz.prog.types.size → Tryz.prog.underlying t = some (.slice e) → 0 < Tryz.prog.cellsOf e := slices_full_of Tryz.prog kR

section
variable {H : Type} {enc : TypeId × Value → H} {P : Program} {W W' : World}
theorem trodAll_carryW {base : Nat} {sp : Nat → Bool} {held : Bool} : ∀ {ts : List TypeId} {vs : List Value} {ds : List (DataW H)} {ps : List MemPlace}, DataW.TrodAll enc P W base sp held ts vs ds ps → (∀ p ∈ ps, W.sameAt W' p) → DataW.TrodAll enc P W' base sp held ts vs ds ps
 | [], [], [], _, h, _ => h
 | _ :: _, _ :: _, _ :: _, _, ⟨p, q, ⟨n, h1⟩, h2, e⟩, hs => ⟨p, q, ⟨n, DataW.trod_carry n _ _ _ h1 (fun x hx => hs x (by rw [e]; exact List.mem_append_left _ hx))⟩, trodAll_carryW h2 (fun x hx => hs x (by rw [e]; exact List.mem_append_right _ hx)), e⟩
theorem sameAt_below (hb : Below W.heap.size W W') {p : MemPlace} (h : p.block < W.heap.size) : W.sameAt W' p := by
 cases p with
 | cell b off => exact (hb.cell (p := ⟨b, off, none⟩) h)
 | map b => exact hb.block b h
theorem kept_below (hb : Below W.heap.size W W') (may : MemPlace → Prop) : W.keptBut W' may := by
 refine ⟨hb.os, hb.output, fun i hi => ?_⟩
 rw [hb.block i hi]
 cases h : W.heap[i]? with
 | none => rfl
 | some o =>
  cases o with
  | cells c t fr => exact ⟨rfl, rfl, rfl, fun _ _ => rfl⟩
  | map es clock => exact .inr ⟨rfl, rfl⟩
  | _ => rfl
/-- a law that returns true and turns nothing that was there. -/
theorem law_post {f : Func} {s : ChangeSpec} {args : Array Value} {ds gs : List (DataW H)} {before : List MemPlace} (hv : s.vars = []) (hr : f.resultTypes = #[4]) (hp : ∀ t ∈ f.params.toList, t < Tryz.prog.types.size)
   (hs : (s.fn H ds).results = [.lit (.bool true)] ∧ (s.fn H ds).args = ds ∧ (s.fn H ds).vars = [])
   (hW : DataW.Whole enc Tryz.prog f.params.toList s.vars false W args.toList ds gs before) (hb : Below W.heap.size W W') : s.post enc Tryz.prog f false true false false W args (.bool true) W' := by
 have hlt := hW.lt
 have hW' := hW
 obtain ⟨p, q, hA, hV, rfl, hfz, _⟩ := hW
 rw [hv] at hV
 have hgs : gs = [] ∧ q = [] := by
  cases gs with
  | nil => exact ⟨rfl, hV⟩
  | cons g gs => exact absurd hV id
 obtain ⟨rfl, rfl⟩ := hgs
 simp only [List.append_nil] at hlt hW' ⊢
 have hsame : ∀ p' ∈ p, W.sameAt W' p' := fun p' hp' => sameAt_below hb (hlt p' hp')
 refine ⟨ds, [], p, [], p, [], hW', ?_, ?_, ?_, kept_below hb _, fun h => by cases h⟩
 ·rw [List.append_nil, hs.1, hr]
  exact trodAll_cons_mk (shut_bool Tryz.underlying4 _) trodAll_mk0
 ·rw [List.append_nil, hs.2.1]
  exact DataW.TrodAll.respare kidsP fullP hp (trodAll_carryW hA hsame) (fun p' hp' => by simpa using hlt p' hp')
 ·rw [List.append_nil, hs.2.2, hv]
  rfl
end
end Go.Proofs.YtddkdgodgflmlaaGreatDoor

namespace Go.Proofs.YtddkdgodgflmlaaGreatDoor
open Go.RowKit Go.ChangeShapes Go.WideShapes Go.ChangeAt Go.Joins Go.Deep
set_option maxRecDepth 100000
theorem cellsInt : Tryz.prog.cellsOf 3 = 1 := by kernel_rfl
theorem inI_wf {x : Int} (h : (Lit.int .i64 x).wf = true) : InI x := by
 simp [Lit.wf, IntKind.min, IntKind.max, IntKind.bits, IntKind.signed] at h
 unfold InI
 omega
section
variable {H : Type} {enc : TypeId × Value → H} {W : World}
theorem ints_of_cells {a : Addr} {zs : List Int} {len cap : Nat} (hl : len ≤ cap) (hm : cap ≤ maxLen) (hz : len ≤ zs.length) (hc : ∀ i, i < zs.length → W.cell? (a.add i) = some (.int .i64 (zs.getD i 0))) : Ints W (some a) cap (zs.take len) := by
 have hlen : (zs.take len).length = len := by simp; omega
 refine ⟨cIntS, by rw [hlen]; exact hl, hm, fun h => (by cases h), fun j u hj => ?_⟩
 have hfm : ((zs.take len).flatMap fun x => (cInt x).cells.toList) = (zs.take len).map fun x => Value.int .i64 x := by
  generalize zs.take len = l
  induction l with
  | nil => rfl
  | cons x r ih => rw [List.flatMap_cons, ih]; rfl
 rw [hfm, List.getElem?_map] at hj
 have hjl : j < len := by
  obtain ⟨x, hx, _⟩ := Option.map_eq_some_iff.1 hj
  have := (List.getElem?_eq_some_iff.1 hx).1
  simp at this; omega
 have h0 := hc 0 (by omega)
 have hsp : a.spot = none := by
  unfold World.cell? Addr.add at h0
  simp only [if_pos] at h0
  split at h0
  ·split at h0
   ·cases h0
   ·next h => simpa using h
  ·cases h0
 refine ⟨a.block, a.off, by rw [← hsp], ?_⟩
 have hj0 := hc j (by omega)
 have e : a.add j = ⟨a.block, a.off + j, none⟩ := by
  unfold Addr.add
  split
  ·next h => subst h; rw [← hsp]; rfl
  ·rfl
 rw [e] at hj0
 rw [hj0, ← hj]
 have h2 : j < zs.length := by omega
 simp [List.getElem?_take, hjl, h2]
theorem open_intsA {r : Reach} {b0 : Nat} {v : Value} {d : DataW H} {ps : List MemPlace} (hval : Value.okWide Tryz.prog W r b0 22 v) (h : DataW.Trod enc Tryz.prog W 0 (fun _ => true) true 22 v d ps) : ∃ a cap l, v = .slice a l.length cap ∧ Ints W a cap l ∧ ∀ x ∈ l, InI x := by
 obtain ⟨a0, len, cap, rfl⟩ := okWide_slice Tryz.underlying22 hval
 obtain ⟨fuel, hf⟩ := h
 rcases open_ints Tryz.underlying22 Tryz.underlying3 cellsInt hf with ⟨hcs, _⟩ | ⟨a, len', cap', zs, hcs, _, hl, hm, hz, _, hcell, hwz⟩
 ·simp [Value.cells] at hcs
  obtain ⟨rfl, rfl, rfl⟩ := hcs
  exact ⟨_, _, [], rfl, ints_nil W, fun x hx => by cases hx⟩
 ·simp [Value.cells] at hcs
  obtain ⟨rfl, rfl, rfl⟩ := hcs
  simp only [if_true] at hz
  have hlen : (zs.take len).length = len := by simp; omega
  refine ⟨some a, cap, zs.take len, by rw [hlen], ints_of_cells hl hm (by omega) hcell, fun x hx => ?_⟩
  exact inI_wf (hwz x (List.mem_of_mem_take hx))
theorem open_intA {r : Reach} {b0 : Nat} {v : Value} {d : DataW H} {ps : List MemPlace} (hval : Value.okWide Tryz.prog W r b0 3 v) (h : DataW.Trod enc Tryz.prog W 0 (fun _ => true) true 3 v d ps) : ∃ x : Int, v = .int .i64 x ∧ InI x := by
 obtain ⟨y, rfl⟩ := okWide_int Tryz.underlying3 hval
 obtain ⟨n, hn⟩ := h
 obtain ⟨x, e, _, w0⟩ := DataW.trod_int Tryz.underlying3 hn
 simp [Value.cells] at e
 subst e
 exact ⟨y, rfl, inI_wf w0⟩
end
end Go.Proofs.YtddkdgodgflmlaaGreatDoor

namespace Go.Proofs.YtddkdgodgflmlaaGreatDoor
open Go.RowKit Go.ChangeShapes Go.WideShapes Go.ChangeAt Go.Joins Go.Deep
set_option maxRecDepth 100000

section
variable {H : Type} {enc : TypeId × Value → H} {W : World}
end
end Go.Proofs.YtddkdgodgflmlaaGreatDoor

namespace Go.Proofs.YtddkdgodgflmlaaGreatDoor
open Go.RowKit Go.ChangeShapes Go.WideShapes Go.ChangeAt Go.Joins Go.Deep
set_option maxRecDepth 100000

section
variable {H : Type} {enc : TypeId × Value → H} {W : World}
end
end Go.Proofs.YtddkdgodgflmlaaGreatDoor

namespace Go.Proofs.YtddkdgodgflmlaaGreatDoor
open Go.RowKit
set_option maxRecDepth 100000

instance (b : UInt8) : Decidable (isDig b) := inferInstanceAs (Decidable (_ ∧ _))
instance (l : List UInt8) : Decidable (canon l) := inferInstanceAs (Decidable (_ ∧ _ ∧ _))
def both (a b : Option Nat) : Option (Int × Int) := match a, b with | some x, some y => some (x, y) | _, _ => none
end Go.Proofs.YtddkdgodgflmlaaGreatDoor

namespace Go.Proofs.YtddkdgodgflmlaaGreatDoor
open Go.RowKit
set_option maxHeartbeats 4000000
set_option maxRecDepth 100000

end Go.Proofs.YtddkdgodgflmlaaGreatDoor

namespace Go.Proofs.YtddkdgodgflmlaaGreatDoor
open Go.RowKit
set_option maxHeartbeats 4000000
set_option maxRecDepth 100000

end Go.Proofs.YtddkdgodgflmlaaGreatDoor

namespace Go.Proofs.YtddkdgodgflmlaaGreatDoor
open Go.RowKit
set_option maxHeartbeats 4000000
set_option maxRecDepth 100000

section
variable {P : Program} {ops : Array Oper} {rest : List Oper} {a : Act} {Qa : Act → Prop} {α : Type} {c : α → Value} {sz bytes : Nat} {t e t2 e2 : TypeId} {z : Value} {ad : Option Addr} {cap : Nat} {l : List α} {k : Int} {w : World}
 {d1 d2 d3 : Tmp} {ty1 ty2 ty3 : TypeId} {p1 p2 p3 : String} {s x : Operand} {af1 af2 af3 : Array Edge} {j : Nat}
end

end Go.Proofs.YtddkdgodgflmlaaGreatDoor

namespace Go.Proofs.YtddkdgodgflmlaaGreatDoor
open Go.RowKit
set_option maxRecDepth 100000

section
open Go.ChangeMaps
variable {H : Type} {enc : TypeId × Value → H} {W : World}
end
end Go.Proofs.YtddkdgodgflmlaaGreatDoor

namespace Go.Proofs.YtddkdgodgflmlaaGreatDoor
open Go.RowKit
set_option maxHeartbeats 1000000
set_option maxRecDepth 100000
section
variable {P : Program} {ops : Array Oper} {rest : List Oper} {a : Act} {Qa : Act → Prop} {α : Type} {c : α → Value} {sz bytes : Nat} {t e : TypeId} {z : Value} {ad : Option Addr} {cap : Nat} {l : List α} {k : Int} {w : World}
 {d1 d2 : Tmp} {ty1 ty2 : TypeId} {p1 p2 : String} {s x : Operand} {af1 af2 : Array Edge}
theorem wpB_idx2 (d : α) (E : ETy P t e z sz bytes) (hF : Flat P e) (hc : ∀ x, (c x).cells = #[c x])
   {n : Nat} (hs : a.eval s = .slice ad n cap) (hn : l.length = n) (hx : a.eval x = .int .i64 k) (hR : Reps c sz w ad cap l) (h0 : 0 ≤ k) (hlt : k < l.length) (hd : ∀ p, (a.put (some d1) p).eval (.tmp d1) = p)
   (hK : ∀ p, wpQuiet P ops (Below w.heap.size w) Qa rest ((a.put (some d1) p).put (some d2) (c (atD d l k)))) :
   wpQuiet P ops (Below w.heap.size w) Qa (⟨some d1, .indexAddr t s x, ty1, p1, af1, none⟩ :: ⟨some d2, .load e (.tmp d1), ty2, p2, af2, none⟩ :: rest) a := by
 subst hn
 have hkl : k.toNat < l.length := by omega
 obtain ⟨b, o, rfl, hcs⟩ := hR.cells E.pos d k.toNat hkl
 have hcell := hcs 0 (c (atD d l k)) (by rw [show l.getD k.toNat d = atD d l k from rfl, hc]; rfl)
 refine wpQ_in (.pointer (some ((⟨b, o, none⟩ : Addr).add (k.toNat * sz)))) rfl (fun w' hw' => ?_) (wpQ_in (c (atD d l k)) rfl (fun w' hw' => ?_) (hK _))
 ·have h1 := run_indexAt_sl (P := P) (a := ⟨b, o, none⟩) (cap := cap) w' E h0 hlt
  simp [execOp, hs, hx, h1, Result.andThen]
 ·have h2 := run_loadAt_cell (P := P) w' (a := (⟨b, o, none⟩ : Addr).add (k.toNat * sz)) (v := c (atD d l k)) hF (by
   rw [Addr.add_z]
   exact (hw'.cell (World.block_lt_of_cell? w _ hcell)).trans hcell)
  simp [execOp, hd, h2, Result.andThen]
end
end Go.Proofs.YtddkdgodgflmlaaGreatDoor

namespace Go.Proofs.YtddkdgodgflmlaaGreatDoor
set_option maxRecDepth 100000
/-- the switch before. -/
def prevO (l : List Int) : Nat → Option Int
 | 0 => none
 | k + 1 => some (atD 0 l k)
theorem swGo_prev (m : MacV) (k : Nat) (h : k < m.sw.length) : swGo m (prevO m.sw k) (m.sw.drop k) = if sharedM m (atD 0 m.sw k) = false then 10 else if 0 < k ∧ atD 0 m.sw k ≤ atD 0 m.sw ((k : Int) - 1) then 11 else swGo m (prevO m.sw (k + 1)) (m.sw.drop (k + 1)) := by
 rw [swGo_step m k h]
 cases k with
 | zero => simp [prevO]
 | succ j =>
  have : ((j + 1 : Nat) : Int) - 1 = j := by omega
  rw [this]
  simp only [prevO, Nat.zero_lt_succ, true_and]
end Go.Proofs.YtddkdgodgflmlaaGreatDoor

namespace Go.Proofs.YtddkdgodgflmlaaGreatDoor
open Go.RowKit
set_option maxHeartbeats 2000000
set_option maxRecDepth 100000

theorem A_rmach : Aggr Tryz.prog 66 := ⟨_, Tryz.underlying66, rfl⟩
theorem rOutside_any (n lo hi : Int) (w : World) :
  Calls Tryz.prog 82 #[.int .i64 n, .int .i64 lo, .int .i64 hi] w fun r w' => r = .returned (.bool (decide (n < lo) || decide (hi < n))) ∧ w = w' := by
 by_cases h : n < lo
 ·go_enter Tryz.func82, Tryz.ntmps82
  go_wp2_with fail
  go_ret
  exact ⟨by simp [h], rfl⟩
 ·go_enter Tryz.func82, Tryz.ntmps82
  go_wp2_with fail
  go_ret
  exact ⟨by rw [show decide (n < lo) = false by simpa using h]; rfl, rfl⟩
theorem rShort_any (m : MacV) (ad : Option Addr) (cap : Nat) (al : Option Addr) (cl n : Nat) (w : World) :
  Calls Tryz.prog 52 #[mV m ad cap, .slice al n cl] w fun r w' => r = .returned (.bool (decide (m.sw.length ≤ 19) && decide (n ≤ 67))) ∧ Below w.heap.size w w' := by
 by_cases h : m.sw.length ≤ 19
 ·have h2 : (m.sw.length : Int) ≤ 19 := by omega
  by_cases k : n ≤ 67
  ·have k2 : (n : Int) ≤ 67 := by omega
   go_enter Tryz.func52, Tryz.ntmps52
   go_wp2_with fail
   go_ret
   exact ⟨by simp [h, k, h2, k2], bal (Below.refl _ _) _⟩
  ·have k2 : ¬ (n : Int) ≤ 67 := by omega
   go_enter Tryz.func52, Tryz.ntmps52
   go_wp2_with fail
   go_ret
   exact ⟨by simp [h, k, h2, k2], bal (Below.refl _ _) _⟩
 ·have h2 : ¬ (m.sw.length : Int) ≤ 19 := by omega
  go_enter Tryz.func52, Tryz.ntmps52
  go_wp2_with fail
  go_ret
  exact ⟨by simp [h, h2], bal (Below.refl _ _) _⟩
theorem rSlots_any (m : MacV) (ad : Option Addr) (cap : Nat) (w : World) (h0 : 0 ≤ m.gears) (h1 : m.gears ≤ 16) :
  Calls Tryz.prog 81 #[mV m ad cap] w fun r w' => r = .returned (.int .i64 (4 * m.gears)) ∧ Below w.heap.size w w' := by
 go_enter Tryz.func81, Tryz.ntmps81
 go_wp2_with fail
 go_ret
 exact ⟨rfl, bal (Below.refl _ _) _⟩
theorem rShared_any (m : MacV) (ad : Option Addr) (cap : Nat) (p : Int) (w : World) (h0 : 1 ≤ m.gears) (h1 : m.gears ≤ 16) :
  Calls Tryz.prog 109 #[mV m ad cap, .int .i64 p] w fun r w' => r = .returned (.bool (sharedM m p)) ∧ Below w.heap.size w w' := by
 have hw : IntKind.i64.wrap (m.gears - 1) = m.gears - 1 := IntWalk.i64_in _ (by omega)
 have hS := (SL.nil w).box (.cells (mC m ad cap) 66)
 cases hr : m.ring
 ·have hs : sharedM m p = !(decide (p < 1) || decide (m.gears - 1 < p)) := by
   unfold sharedM
   rw [hr, Bool.eq_iff_iff]
   simp
   omega
  obtain ⟨b, hb⟩ : ∃ b, b = (decide (p < 1) || decide (m.gears - 1 < p)) := ⟨_, rfl⟩
  have CO := fun w => rOutside_any p 1 (m.gears - 1) w
  rw [← hb] at CO hs
  have HS := hid hs; have HO := hid CO
  clear hs CO hb
  unfold mV
  rw [hr]
  clear hr
  go_enter Tryz.func109, Tryz.ntmps109
  go_wp2_with fail
  refine (HO.out _).mono ?_
  rintro e w1 ⟨rfl, rfl⟩
  go_wp2_with fail
  go_ret
  exact ⟨by rw [HS.out]; rfl, bal (Below.refl _ _) _⟩
 ·have hs : sharedM m p = !(decide (p < 0) || decide (m.gears - 1 < p)) := by
   unfold sharedM
   rw [hr, Bool.eq_iff_iff]
   simp
   omega
  obtain ⟨b, hb⟩ : ∃ b, b = (decide (p < 0) || decide (m.gears - 1 < p)) := ⟨_, rfl⟩
  have CO := fun w => rOutside_any p 0 (m.gears - 1) w
  rw [← hb] at CO hs
  have HS := hid hs; have HO := hid CO
  clear hs CO hb
  unfold mV
  rw [hr]
  clear hr
  go_enter Tryz.func109, Tryz.ntmps109
  go_wp2_with fail
  refine (HO.out _).mono ?_
  rintro e w1 ⟨rfl, rfl⟩
  go_wp2_with fail
  go_ret
  exact ⟨by rw [HS.out]; rfl, bal (Below.refl _ _) _⟩
end Go.Proofs.YtddkdgodgflmlaaGreatDoor

namespace Go.Proofs.YtddkdgodgflmlaaGreatDoor
open Go.RowKit
set_option maxHeartbeats 4000000
set_option maxRecDepth 100000
section
variable {P : Program} {ops : Array Oper} {rest : List Oper} {a : Act} {Qa : Act → Prop} {α : Type} {c : α → Value} {sz bytes : Nat} {t e : TypeId} {z : Value} {ad : Option Addr} {cap : Nat} {l : List α} {k : Int} {w : World}
 {d1 d2 : Tmp} {ty1 ty2 : TypeId} {p1 p2 : String} {s x : Operand} {af1 af2 : Array Edge} {g1 g2 : Option (Nat × Bool)}
theorem wpB_idxW (d : α) (E : ETy P t e z sz bytes) (hF : Flat P e) (hc : ∀ x, (c x).cells = #[c x])
   {n : Nat} (hs : a.eval s = .slice ad n cap) (hn : l.length = n) (hx : a.eval x = .int .i64 k) (hR : Reps c sz w ad cap l) (h0 : 0 ≤ k) (hlt : k < l.length) (hd : ∀ p, (a.put (some d1) p).eval (.tmp d1) = p)
   (hw1 : Region.wanted ⟨some d1, .indexAddr t s x, ty1, p1, af1, g1⟩ (yielded ops a.tmps) = true) (hw2 : ∀ p, Region.wanted ⟨some d2, .load e (.tmp d1), ty2, p2, af2, g2⟩ (yielded ops (a.put (some d1) p).tmps) = true)
   (hK : ∀ p, wpQuiet P ops (Below w.heap.size w) Qa rest ((a.put (some d1) p).put (some d2) (c (atD d l k)))) :
   wpQuiet P ops (Below w.heap.size w) Qa (⟨some d1, .indexAddr t s x, ty1, p1, af1, g1⟩ :: ⟨some d2, .load e (.tmp d1), ty2, p2, af2, g2⟩ :: rest) a := by
 subst hn
 have hkl : k.toNat < l.length := by omega
 obtain ⟨b, o, rfl, hcs⟩ := hR.cells E.pos d k.toNat hkl
 have hcell := hcs 0 (c (atD d l k)) (by rw [show l.getD k.toNat d = atD d l k from rfl, hc]; rfl)
 refine wpQ_inG (.pointer (some ((⟨b, o, none⟩ : Addr).add (k.toNat * sz)))) hw1 (fun w' hw' => ?_) (wpQ_inG (c (atD d l k)) (hw2 _) (fun w' hw' => ?_) (hK _))
 ·have h1 := run_indexAt_sl (P := P) (a := ⟨b, o, none⟩) (cap := cap) w' E h0 hlt
  simp [execOp, hs, hx, h1, Result.andThen]
 ·have h2 := run_loadAt_cell (P := P) w' (a := (⟨b, o, none⟩ : Addr).add (k.toNat * sz)) (v := c (atD d l k)) hF (by
   rw [Addr.add_z]
   exact (hw'.cell (World.block_lt_of_cell? w _ hcell)).trans hcell)
  simp [execOp, hd, h2, Result.andThen]
end
theorem rCheckMachine_any (m : MacV) (ad : Option Addr) (cap : Nat) (w : World) (hR : Ints w ad cap m.sw) :
  Calls Tryz.prog 53 #[mV m ad cap] w fun r w' => r = .returned (.int .i64 (macE m)) ∧ Below w.heap.size w w' := by
 have hcap := hR.le
 have hmx := hR.max
 have hlen : m.sw.length ≤ 9223372036854775807 := by have := hR.max; unfold maxLen at this; omega
 have CS := fun (p : Int) w a b => rShared_any m ad cap p w a b
 have hE : macE m = if m.gears < 1 ∨ 16 < m.gears then 3 else if m.ring = true ∧ m.gears % 2 = 1 then 17 else if m.turn ≠ 1 ∧ m.turn ≠ -1 then 3 else if m.gears < m.sw.length then 5 else swGo m none m.sw := rfl
 have SW := fun (k : Nat) (h : k < m.sw.length) => swGo_prev m k h
 obtain ⟨E, hEE⟩ : ∃ E, E = macE m := ⟨_, rfl⟩
 obtain ⟨sg, hsg⟩ : ∃ sg : Nat → Int, ∀ k, sg k = swGo m (prevO m.sw k) (m.sw.drop k) := ⟨_, fun _ => rfl⟩
 obtain ⟨sh, hsh⟩ : ∃ sh : Int → Bool, ∀ p, sh p = sharedM m p := ⟨_, fun _ => rfl⟩
 have hs0 : swGo m none m.sw = sg 0 := (hsg 0).symm
 have hsE : sg m.sw.length = 0 := by rw [hsg, List.drop_length]; rfl
 rw [← hEE] at hE ⊢
 rw [hs0] at hE
 simp only [← hsg, ← hsh] at SW CS
 clear hs0 hsg hsh hEE
 obtain ⟨R, G, T, S⟩ := m
 dsimp only at *
 have HCS := hid CS; have HSW := hid SW; have HSE := hid hsE
 clear CS SW hsE
 have CO := fun w => rOutside_any G 1 16 w
 by_cases hA : G < 1 ∨ 16 < G
 ·rw [if_pos hA] at hE
  have hb : (decide (G < 1) || decide (16 < G)) = true := by simpa using hA
  rw [hb] at CO
  have HO := hid CO
  clear CO hb hA
  subst hE
  go_enter Tryz.func53, Tryz.ntmps53
  go_wp2_with fail
  refine (HO.out _).mono ?_
  rintro e w1 ⟨rfl, rfl⟩
  go_wp2_with fail
  go_ret
  exact ⟨rfl, bal (Below.refl _ _) _⟩
 ·rw [if_neg hA] at hE
  have hb : (decide (G < 1) || decide (16 < G)) = false := by simp; omega
  rw [hb] at CO
  have HO := hid CO
  have g1 : 1 ≤ G := by omega
  have g2 : G ≤ 16 := by omega
  have HCS' := hid (fun p w => HCS.out p w g1 g2)
  clear CO hb HCS hA
  obtain ⟨q, hq⟩ : ∃ q, q = G % 2 := ⟨_, rfl⟩
  have htm : G.tmod 2 = q := by rw [hq, Int.tmod_eq_emod_of_nonneg (by omega)]
  rw [← hq] at hE
  have hq01 : 0 ≤ q ∧ q < 2 := by omega
  clear hq
  have hS := (SL.nil w).box (.cells #[.bool R, .int .i64 G, .int .i64 T, .slice ad S.length cap] 66)
  by_cases h17 : R = true ∧ q = 1
  ·rw [if_pos h17] at hE
   obtain ⟨rfl, rfl⟩ := h17
   subst hE
   go_enter Tryz.func53, Tryz.ntmps53
   go_wp2_with fail
   refine (HO.out _).mono ?_
   rintro e w1 ⟨rfl, rfl⟩
   go_wp2_with fail
   go_ret
   exact ⟨rfl, bal (Below.refl _ _) _⟩
  ·rw [if_neg h17] at hE
   have hRq : (R = true ∧ (q == 1) = false) ∨ R = false := by
    cases R
    ·exact .inr rfl
    ·exact .inl ⟨rfl, by simpa using h17⟩
   clear h17
   by_cases hT : T ≠ 1 ∧ T ≠ -1
   ·rw [if_pos hT] at hE
    have t1 : (T != 1) = true := by simpa using hT.1
    have t2 : (T != -1) = true := by simpa using hT.2
    clear hT
    subst hE
    rcases hRq with ⟨rfl, hq1⟩ | rfl
    all_goals
     go_enter Tryz.func53, Tryz.ntmps53
     go_wp2_with fail
     refine (HO.out _).mono ?_
     rintro e w1 ⟨rfl, rfl⟩
     go_wp2_with fail
     go_ret
     exact ⟨rfl, bal (Below.refl _ _) _⟩
   ·rw [if_neg hT] at hE
    have hT2 : T = 1 ∨ T = -1 := by omega
    clear hT
    by_cases hL : G < S.length
    ·rw [if_pos hL] at hE
     subst hE
     rcases hRq with ⟨rfl, hq1⟩ | rfl <;> rcases hT2 with rfl | rfl
     all_goals
      go_enter Tryz.func53, Tryz.ntmps53
      go_wp2_with fail
      refine (HO.out _).mono ?_
      rintro e w1 ⟨rfl, rfl⟩
      go_wp2_with fail
      go_ret
      exact ⟨rfl, bal (Below.refl _ _) _⟩
    ·rw [if_neg hL] at hE
     have HE := hid hE
     clear hE
     have hS16 : S.length ≤ 16 := by omega
     rcases hRq with ⟨rfl, hq1⟩ | rfl <;> rcases hT2 with rfl | rfl
     ·go_enter Tryz.func53, Tryz.ntmps53
      go_wp2_with fail
      refine (HO.out _).mono ?_
      rintro e w1 ⟨rfl, rfl⟩
      go_wp2_with fail
      go_loopw [3] (fun i wr => ∃ k : Nat, k ≤ S.length ∧ i = .int .i64 k ∧ sg k = sg 0 ∧ SL w.heap.size w wr [pBlk w.heap.size (.cells #[.bool true, .int .i64 G, .int .i64 1, .slice ad S.length cap] 66)]) (fun i _ => S.length - (intOf i).toNat)
      case atStart => exact ⟨0, by omega, rfl, rfl, hS⟩
      case round =>
       clear hS
       obtain ⟨k, hk, rfl, hgo, hSr⟩ := hrel
       have q1 := (hSr.blk 0 rfl).1
       have hRr := hR.below hSr.b
       by_cases hlt : k < S.length
       ·have hst := HSW.out k hlt
        rw [hgo] at hst
        obtain ⟨x, hx⟩ : ∃ x, x = atD 0 S k := ⟨_, rfl⟩
        rw [← hx] at hst
        obtain ⟨b, hb⟩ : ∃ b, b = sh x := ⟨_, rfl⟩
        have CS := fun w => HCS'.out x w
        rw [← hb] at hst CS
        have HX := hid hx; have HC := hid CS
        clear hx hb CS hgo
        cases b
        ·rw [if_pos rfl] at hst
         have HST := hid hst
         clear hst
         go_wp2_with (with_reducible refine wpList_ldB F_sliceM wU wU q1 wU ?_)
         refine wp_region_q kR kR ?_
         repeat (first | ((with_reducible refine wpB_loadS (n := 4) (us := #[.bool true, .int .i64 G, .int .i64 1, .slice ad S.length cap]) A_rmach kR wU wU (by assumption) wU wU ?_); (try simp only [Act.put, pA, pB, pC])) | ((with_reducible refine wpB_load F_sliceM wU wU (by assumption) wU ?_); (try simp only [Act.put, pA, pB, pC])) | (((with_reducible refine wpB_idx2 0 E_ints F_int cInt1 wU (rfl) wU (hRr) oD oD (fun _ => wU) (fun _ => ?_)); (try simp only [Act.put, pA, pB, pC]); (try simp only [cInt])); rw [← HX.out]) | ((refine wpB_call (.bool false) wU (fun w' => ?_) (fun w' hw' => HC.out w') ?_); (focus (go_simp; done)); (try simp only [Act.put, pA, pB, pC])) |  ((with_reducible refine wpB_load (by first | exact F_int | exact F_u64s) wU wU (by assumption) wU ?_); (try simp only [Act.put, pA, pB, pC])) | ((refine wpQ_oneG ?_ wU (fun w' => ?_) ?_); rotate_left; (go_simp; rfl); (try simp only [Act.put, pA, pB, pC])))
         refine wpQuiet_nil ?_
         intro w4 hb4
         go_wp2_with fail
         go_ret
         exact ⟨by rw [HE.out, HST.out]; rfl, bnext hSr.b hb4⟩
        ·rw [if_neg (by decide)] at hst
         by_cases hk0 : k = 0
         ·have hst2 : sg (k + 1) = sg 0 := by rw [hst, if_neg (by omega)]
          have hd : decide (0 < k) = false := by simp; omega
          have HST := hid hst2
          clear hst hst2 hk0
          go_wp2_with (with_reducible refine wpList_ldB F_sliceM wU wU q1 wU ?_)
          refine wp_region_q kR kR ?_
          repeat (first | ((with_reducible refine wpB_loadS (n := 4) (us := #[.bool true, .int .i64 G, .int .i64 1, .slice ad S.length cap]) A_rmach kR wU wU (by assumption) wU wU ?_); (try simp only [Act.put, pA, pB, pC])) | ((with_reducible refine wpB_load F_sliceM wU wU (by assumption) wU ?_); (try simp only [Act.put, pA, pB, pC])) | (((with_reducible refine wpB_idx2 0 E_ints F_int cInt1 wU (rfl) wU (hRr) oD oD (fun _ => wU) (fun _ => ?_)); (try simp only [Act.put, pA, pB, pC]); (try simp only [cInt])); rw [← HX.out]) | ((refine wpB_call (.bool true) wU (fun w' => ?_) (fun w' hw' => HC.out w') ?_); (focus (go_simp; done)); (try simp only [Act.put, pA, pB, pC])) |  ((with_reducible refine wpB_load (by first | exact F_int | exact F_u64s) wU wU (by assumption) wU ?_); (try simp only [Act.put, pA, pB, pC])) | ((refine wpQ_oneG ?_ wU (fun w' => ?_) ?_); rotate_left; (go_simp; rfl); (try simp only [Act.put, pA, pB, pC])))
          refine wpQuiet_nil ?_
          intro w4 hb4
          have hS4 := hSr.mono hb4
          have q4 := (hS4.blk 0 rfl).1
          go_wp2_with fail
          refine wp_region_q kR kR ?_
          repeat (first | ((try simp only [hd]); ((with_reducible refine wpQ_skip wU ?_); (try simp only [Act.put, pA, pB, pC]))) |  ((with_reducible refine wpB_load (by first | exact F_int | exact F_u64s) wU wU (by assumption) wU ?_); (try simp only [Act.put, pA, pB, pC])) | ((refine wpQ_oneG ?_ wU (fun w' => ?_) ?_); rotate_left; (go_simp; rfl); (try simp only [Act.put, pA, pB, pC])))
          refine wpQuiet_nil ?_
          intro w5 hb5
          have hS5 := hS4.mono hb5
          go_wp2_with fail
          exact ⟨⟨k + 1, by omega, by go_num, HST.out, hS5⟩, by simp [intOf]; omega⟩
         ·have hd : decide (0 < k) = true := by simp; omega
          have hk1 : 0 ≤ (k : Int) - 1 ∧ (k : Int) - 1 < S.length := by omega
          have hwk : IntKind.i64.wrap ((k : Int) - 1) = (k : Int) - 1 := IntWalk.i64_in _ (by omega)
          obtain ⟨y, hy⟩ : ∃ y, y = atD 0 S ((k : Int) - 1) := ⟨_, rfl⟩
          rw [← hy] at hst
          have HY := hid hy
          clear hy
          by_cases hxy : x ≤ y
          ·rw [if_pos ⟨by omega, hxy⟩] at hst
           have HST := hid hst
           have hdx : decide (x ≤ y) = true := decide_eq_true hxy
           clear hst hk0
           go_wp2_with (with_reducible refine wpList_ldB F_sliceM wU wU q1 wU ?_)
           refine wp_region_q kR kR ?_
           repeat (first | ((with_reducible refine wpB_loadS (n := 4) (us := #[.bool true, .int .i64 G, .int .i64 1, .slice ad S.length cap]) A_rmach kR wU wU (by assumption) wU wU ?_); (try simp only [Act.put, pA, pB, pC])) | ((with_reducible refine wpB_load F_sliceM wU wU (by assumption) wU ?_); (try simp only [Act.put, pA, pB, pC])) | (((with_reducible refine wpB_idx2 0 E_ints F_int cInt1 wU (rfl) wU (hRr) oD oD (fun _ => wU) (fun _ => ?_)); (try simp only [Act.put, pA, pB, pC]); (try simp only [cInt])); rw [← HX.out]) | ((refine wpB_call (.bool true) wU (fun w' => ?_) (fun w' hw' => HC.out w') ?_); (focus (go_simp; done)); (try simp only [Act.put, pA, pB, pC])) |  ((with_reducible refine wpB_load (by first | exact F_int | exact F_u64s) wU wU (by assumption) wU ?_); (try simp only [Act.put, pA, pB, pC])) | ((refine wpQ_oneG ?_ wU (fun w' => ?_) ?_); rotate_left; (go_simp; rfl); (try simp only [Act.put, pA, pB, pC])))
           refine wpQuiet_nil ?_
           intro w4 hb4
           have hS4 := hSr.mono hb4
           have q4 := (hS4.blk 0 rfl).1
           have hR4 := hR.below hS4.b
           clear q1
           go_wp2_with fail
           refine wp_region_q kR kR ?_
           repeat (first | ((try simp only [hd]); ((with_reducible refine wpB_load F_sliceM wU wU (by assumption) wU ?_); (try simp only [Act.put, pA, pB, pC]))) | (((with_reducible refine wpB_idxW 0 E_ints F_int cInt1 wU (rfl) wU (hR4) oD oD (fun _ => wU) wU (fun _ => wU) (fun _ => ?_)); (try simp only [Act.put, pA, pB, pC]); (try simp only [cInt])); first | rw [← HX.out] | rw [← HY.out]) |  ((with_reducible refine wpB_load (by first | exact F_int | exact F_u64s) wU wU (by assumption) wU ?_); (try simp only [Act.put, pA, pB, pC])) | ((refine wpQ_oneG ?_ wU (fun w' => ?_) ?_); rotate_left; (go_simp; rfl); (try simp only [Act.put, pA, pB, pC])))
           refine wpQuiet_nil ?_
           intro w5 hb5
           go_wp2_with fail
           go_ret
           exact ⟨by rw [HE.out, HST.out]; rfl, bnext hS4.b hb5⟩
          ·rw [if_neg (fun h => hxy h.2)] at hst
           have HST := hid hst
           have hdx : decide (x ≤ y) = false := decide_eq_false hxy
           clear hst hk0
           go_wp2_with (with_reducible refine wpList_ldB F_sliceM wU wU q1 wU ?_)
           refine wp_region_q kR kR ?_
           repeat (first | ((with_reducible refine wpB_loadS (n := 4) (us := #[.bool true, .int .i64 G, .int .i64 1, .slice ad S.length cap]) A_rmach kR wU wU (by assumption) wU wU ?_); (try simp only [Act.put, pA, pB, pC])) | ((with_reducible refine wpB_load F_sliceM wU wU (by assumption) wU ?_); (try simp only [Act.put, pA, pB, pC])) | (((with_reducible refine wpB_idx2 0 E_ints F_int cInt1 wU (rfl) wU (hRr) oD oD (fun _ => wU) (fun _ => ?_)); (try simp only [Act.put, pA, pB, pC]); (try simp only [cInt])); rw [← HX.out]) | ((refine wpB_call (.bool true) wU (fun w' => ?_) (fun w' hw' => HC.out w') ?_); (focus (go_simp; done)); (try simp only [Act.put, pA, pB, pC])) |  ((with_reducible refine wpB_load (by first | exact F_int | exact F_u64s) wU wU (by assumption) wU ?_); (try simp only [Act.put, pA, pB, pC])) | ((refine wpQ_oneG ?_ wU (fun w' => ?_) ?_); rotate_left; (go_simp; rfl); (try simp only [Act.put, pA, pB, pC])))
           refine wpQuiet_nil ?_
           intro w4 hb4
           have hS4 := hSr.mono hb4
           have q4 := (hS4.blk 0 rfl).1
           have hR4 := hR.below hS4.b
           clear q1
           go_wp2_with fail
           refine wp_region_q kR kR ?_
           repeat (first | ((try simp only [hd]); ((with_reducible refine wpB_load F_sliceM wU wU (by assumption) wU ?_); (try simp only [Act.put, pA, pB, pC]))) | (((with_reducible refine wpB_idxW 0 E_ints F_int cInt1 wU (rfl) wU (hR4) oD oD (fun _ => wU) wU (fun _ => wU) (fun _ => ?_)); (try simp only [Act.put, pA, pB, pC]); (try simp only [cInt])); first | rw [← HX.out] | rw [← HY.out]) |  ((with_reducible refine wpB_load (by first | exact F_int | exact F_u64s) wU wU (by assumption) wU ?_); (try simp only [Act.put, pA, pB, pC])) | ((refine wpQ_oneG ?_ wU (fun w' => ?_) ?_); rotate_left; (go_simp; rfl); (try simp only [Act.put, pA, pB, pC])))
           refine wpQuiet_nil ?_
           intro w5 hb5
           have hS5 := hS4.mono hb5
           go_wp2_with fail
           exact ⟨⟨k + 1, by omega, by go_num, HST.out.symm, hS5⟩, by simp [intOf]; omega⟩
       ·have hkn : k = S.length := by omega
        subst hkn
        have he : E = 0 := by rw [HE.out, ← hgo, HSE.out]
        have HEE := hid he
        clear he hgo
        go_wp2_with (with_reducible refine wpList_ldB F_sliceM wU wU q1 wU ?_)
        go_ret
        exact ⟨by rw [HEE.out]; rfl, hSr.b⟩
     ·go_enter Tryz.func53, Tryz.ntmps53
      go_wp2_with fail
      refine (HO.out _).mono ?_
      rintro e w1 ⟨rfl, rfl⟩
      go_wp2_with fail
      go_loopw [3] (fun i wr => ∃ k : Nat, k ≤ S.length ∧ i = .int .i64 k ∧ sg k = sg 0 ∧ SL w.heap.size w wr [pBlk w.heap.size (.cells #[.bool true, .int .i64 G, .int .i64 (-1), .slice ad S.length cap] 66)]) (fun i _ => S.length - (intOf i).toNat)
      case atStart => exact ⟨0, by omega, rfl, rfl, hS⟩
      case round =>
       clear hS
       obtain ⟨k, hk, rfl, hgo, hSr⟩ := hrel
       have q1 := (hSr.blk 0 rfl).1
       have hRr := hR.below hSr.b
       by_cases hlt : k < S.length
       ·have hst := HSW.out k hlt
        rw [hgo] at hst
        obtain ⟨x, hx⟩ : ∃ x, x = atD 0 S k := ⟨_, rfl⟩
        rw [← hx] at hst
        obtain ⟨b, hb⟩ : ∃ b, b = sh x := ⟨_, rfl⟩
        have CS := fun w => HCS'.out x w
        rw [← hb] at hst CS
        have HX := hid hx; have HC := hid CS
        clear hx hb CS hgo
        cases b
        ·rw [if_pos rfl] at hst
         have HST := hid hst
         clear hst
         go_wp2_with (with_reducible refine wpList_ldB F_sliceM wU wU q1 wU ?_)
         refine wp_region_q kR kR ?_
         repeat (first | ((with_reducible refine wpB_loadS (n := 4) (us := #[.bool true, .int .i64 G, .int .i64 (-1), .slice ad S.length cap]) A_rmach kR wU wU (by assumption) wU wU ?_); (try simp only [Act.put, pA, pB, pC])) | ((with_reducible refine wpB_load F_sliceM wU wU (by assumption) wU ?_); (try simp only [Act.put, pA, pB, pC])) | (((with_reducible refine wpB_idx2 0 E_ints F_int cInt1 wU (rfl) wU (hRr) oD oD (fun _ => wU) (fun _ => ?_)); (try simp only [Act.put, pA, pB, pC]); (try simp only [cInt])); rw [← HX.out]) | ((refine wpB_call (.bool false) wU (fun w' => ?_) (fun w' hw' => HC.out w') ?_); (focus (go_simp; done)); (try simp only [Act.put, pA, pB, pC])) |  ((with_reducible refine wpB_load (by first | exact F_int | exact F_u64s) wU wU (by assumption) wU ?_); (try simp only [Act.put, pA, pB, pC])) | ((refine wpQ_oneG ?_ wU (fun w' => ?_) ?_); rotate_left; (go_simp; rfl); (try simp only [Act.put, pA, pB, pC])))
         refine wpQuiet_nil ?_
         intro w4 hb4
         go_wp2_with fail
         go_ret
         exact ⟨by rw [HE.out, HST.out]; rfl, bnext hSr.b hb4⟩
        ·rw [if_neg (by decide)] at hst
         by_cases hk0 : k = 0
         ·have hst2 : sg (k + 1) = sg 0 := by rw [hst, if_neg (by omega)]
          have hd : decide (0 < k) = false := by simp; omega
          have HST := hid hst2
          clear hst hst2 hk0
          go_wp2_with (with_reducible refine wpList_ldB F_sliceM wU wU q1 wU ?_)
          refine wp_region_q kR kR ?_
          repeat (first | ((with_reducible refine wpB_loadS (n := 4) (us := #[.bool true, .int .i64 G, .int .i64 (-1), .slice ad S.length cap]) A_rmach kR wU wU (by assumption) wU wU ?_); (try simp only [Act.put, pA, pB, pC])) | ((with_reducible refine wpB_load F_sliceM wU wU (by assumption) wU ?_); (try simp only [Act.put, pA, pB, pC])) | (((with_reducible refine wpB_idx2 0 E_ints F_int cInt1 wU (rfl) wU (hRr) oD oD (fun _ => wU) (fun _ => ?_)); (try simp only [Act.put, pA, pB, pC]); (try simp only [cInt])); rw [← HX.out]) | ((refine wpB_call (.bool true) wU (fun w' => ?_) (fun w' hw' => HC.out w') ?_); (focus (go_simp; done)); (try simp only [Act.put, pA, pB, pC])) |  ((with_reducible refine wpB_load (by first | exact F_int | exact F_u64s) wU wU (by assumption) wU ?_); (try simp only [Act.put, pA, pB, pC])) | ((refine wpQ_oneG ?_ wU (fun w' => ?_) ?_); rotate_left; (go_simp; rfl); (try simp only [Act.put, pA, pB, pC])))
          refine wpQuiet_nil ?_
          intro w4 hb4
          have hS4 := hSr.mono hb4
          have q4 := (hS4.blk 0 rfl).1
          go_wp2_with fail
          refine wp_region_q kR kR ?_
          repeat (first | ((try simp only [hd]); ((with_reducible refine wpQ_skip wU ?_); (try simp only [Act.put, pA, pB, pC]))) |  ((with_reducible refine wpB_load (by first | exact F_int | exact F_u64s) wU wU (by assumption) wU ?_); (try simp only [Act.put, pA, pB, pC])) | ((refine wpQ_oneG ?_ wU (fun w' => ?_) ?_); rotate_left; (go_simp; rfl); (try simp only [Act.put, pA, pB, pC])))
          refine wpQuiet_nil ?_
          intro w5 hb5
          have hS5 := hS4.mono hb5
          go_wp2_with fail
          exact ⟨⟨k + 1, by omega, by go_num, HST.out, hS5⟩, by simp [intOf]; omega⟩
         ·have hd : decide (0 < k) = true := by simp; omega
          have hk1 : 0 ≤ (k : Int) - 1 ∧ (k : Int) - 1 < S.length := by omega
          have hwk : IntKind.i64.wrap ((k : Int) - 1) = (k : Int) - 1 := IntWalk.i64_in _ (by omega)
          obtain ⟨y, hy⟩ : ∃ y, y = atD 0 S ((k : Int) - 1) := ⟨_, rfl⟩
          rw [← hy] at hst
          have HY := hid hy
          clear hy
          by_cases hxy : x ≤ y
          ·rw [if_pos ⟨by omega, hxy⟩] at hst
           have HST := hid hst
           have hdx : decide (x ≤ y) = true := decide_eq_true hxy
           clear hst hk0
           go_wp2_with (with_reducible refine wpList_ldB F_sliceM wU wU q1 wU ?_)
           refine wp_region_q kR kR ?_
           repeat (first | ((with_reducible refine wpB_loadS (n := 4) (us := #[.bool true, .int .i64 G, .int .i64 (-1), .slice ad S.length cap]) A_rmach kR wU wU (by assumption) wU wU ?_); (try simp only [Act.put, pA, pB, pC])) | ((with_reducible refine wpB_load F_sliceM wU wU (by assumption) wU ?_); (try simp only [Act.put, pA, pB, pC])) | (((with_reducible refine wpB_idx2 0 E_ints F_int cInt1 wU (rfl) wU (hRr) oD oD (fun _ => wU) (fun _ => ?_)); (try simp only [Act.put, pA, pB, pC]); (try simp only [cInt])); rw [← HX.out]) | ((refine wpB_call (.bool true) wU (fun w' => ?_) (fun w' hw' => HC.out w') ?_); (focus (go_simp; done)); (try simp only [Act.put, pA, pB, pC])) |  ((with_reducible refine wpB_load (by first | exact F_int | exact F_u64s) wU wU (by assumption) wU ?_); (try simp only [Act.put, pA, pB, pC])) | ((refine wpQ_oneG ?_ wU (fun w' => ?_) ?_); rotate_left; (go_simp; rfl); (try simp only [Act.put, pA, pB, pC])))
           refine wpQuiet_nil ?_
           intro w4 hb4
           have hS4 := hSr.mono hb4
           have q4 := (hS4.blk 0 rfl).1
           have hR4 := hR.below hS4.b
           clear q1
           go_wp2_with fail
           refine wp_region_q kR kR ?_
           repeat (first | ((try simp only [hd]); ((with_reducible refine wpB_load F_sliceM wU wU (by assumption) wU ?_); (try simp only [Act.put, pA, pB, pC]))) | (((with_reducible refine wpB_idxW 0 E_ints F_int cInt1 wU (rfl) wU (hR4) oD oD (fun _ => wU) wU (fun _ => wU) (fun _ => ?_)); (try simp only [Act.put, pA, pB, pC]); (try simp only [cInt])); first | rw [← HX.out] | rw [← HY.out]) |  ((with_reducible refine wpB_load (by first | exact F_int | exact F_u64s) wU wU (by assumption) wU ?_); (try simp only [Act.put, pA, pB, pC])) | ((refine wpQ_oneG ?_ wU (fun w' => ?_) ?_); rotate_left; (go_simp; rfl); (try simp only [Act.put, pA, pB, pC])))
           refine wpQuiet_nil ?_
           intro w5 hb5
           go_wp2_with fail
           go_ret
           exact ⟨by rw [HE.out, HST.out]; rfl, bnext hS4.b hb5⟩
          ·rw [if_neg (fun h => hxy h.2)] at hst
           have HST := hid hst
           have hdx : decide (x ≤ y) = false := decide_eq_false hxy
           clear hst hk0
           go_wp2_with (with_reducible refine wpList_ldB F_sliceM wU wU q1 wU ?_)
           refine wp_region_q kR kR ?_
           repeat (first | ((with_reducible refine wpB_loadS (n := 4) (us := #[.bool true, .int .i64 G, .int .i64 (-1), .slice ad S.length cap]) A_rmach kR wU wU (by assumption) wU wU ?_); (try simp only [Act.put, pA, pB, pC])) | ((with_reducible refine wpB_load F_sliceM wU wU (by assumption) wU ?_); (try simp only [Act.put, pA, pB, pC])) | (((with_reducible refine wpB_idx2 0 E_ints F_int cInt1 wU (rfl) wU (hRr) oD oD (fun _ => wU) (fun _ => ?_)); (try simp only [Act.put, pA, pB, pC]); (try simp only [cInt])); rw [← HX.out]) | ((refine wpB_call (.bool true) wU (fun w' => ?_) (fun w' hw' => HC.out w') ?_); (focus (go_simp; done)); (try simp only [Act.put, pA, pB, pC])) |  ((with_reducible refine wpB_load (by first | exact F_int | exact F_u64s) wU wU (by assumption) wU ?_); (try simp only [Act.put, pA, pB, pC])) | ((refine wpQ_oneG ?_ wU (fun w' => ?_) ?_); rotate_left; (go_simp; rfl); (try simp only [Act.put, pA, pB, pC])))
           refine wpQuiet_nil ?_
           intro w4 hb4
           have hS4 := hSr.mono hb4
           have q4 := (hS4.blk 0 rfl).1
           have hR4 := hR.below hS4.b
           clear q1
           go_wp2_with fail
           refine wp_region_q kR kR ?_
           repeat (first | ((try simp only [hd]); ((with_reducible refine wpB_load F_sliceM wU wU (by assumption) wU ?_); (try simp only [Act.put, pA, pB, pC]))) | (((with_reducible refine wpB_idxW 0 E_ints F_int cInt1 wU (rfl) wU (hR4) oD oD (fun _ => wU) wU (fun _ => wU) (fun _ => ?_)); (try simp only [Act.put, pA, pB, pC]); (try simp only [cInt])); first | rw [← HX.out] | rw [← HY.out]) |  ((with_reducible refine wpB_load (by first | exact F_int | exact F_u64s) wU wU (by assumption) wU ?_); (try simp only [Act.put, pA, pB, pC])) | ((refine wpQ_oneG ?_ wU (fun w' => ?_) ?_); rotate_left; (go_simp; rfl); (try simp only [Act.put, pA, pB, pC])))
           refine wpQuiet_nil ?_
           intro w5 hb5
           have hS5 := hS4.mono hb5
           go_wp2_with fail
           exact ⟨⟨k + 1, by omega, by go_num, HST.out.symm, hS5⟩, by simp [intOf]; omega⟩
       ·have hkn : k = S.length := by omega
        subst hkn
        have he : E = 0 := by rw [HE.out, ← hgo, HSE.out]
        have HEE := hid he
        clear he hgo
        go_wp2_with (with_reducible refine wpList_ldB F_sliceM wU wU q1 wU ?_)
        go_ret
        exact ⟨by rw [HEE.out]; rfl, hSr.b⟩
     ·go_enter Tryz.func53, Tryz.ntmps53
      go_wp2_with fail
      refine (HO.out _).mono ?_
      rintro e w1 ⟨rfl, rfl⟩
      go_wp2_with fail
      go_loopw [3] (fun i wr => ∃ k : Nat, k ≤ S.length ∧ i = .int .i64 k ∧ sg k = sg 0 ∧ SL w.heap.size w wr [pBlk w.heap.size (.cells #[.bool false, .int .i64 G, .int .i64 1, .slice ad S.length cap] 66)]) (fun i _ => S.length - (intOf i).toNat)
      case atStart => exact ⟨0, by omega, rfl, rfl, hS⟩
      case round =>
       clear hS
       obtain ⟨k, hk, rfl, hgo, hSr⟩ := hrel
       have q1 := (hSr.blk 0 rfl).1
       have hRr := hR.below hSr.b
       by_cases hlt : k < S.length
       ·have hst := HSW.out k hlt
        rw [hgo] at hst
        obtain ⟨x, hx⟩ : ∃ x, x = atD 0 S k := ⟨_, rfl⟩
        rw [← hx] at hst
        obtain ⟨b, hb⟩ : ∃ b, b = sh x := ⟨_, rfl⟩
        have CS := fun w => HCS'.out x w
        rw [← hb] at hst CS
        have HX := hid hx; have HC := hid CS
        clear hx hb CS hgo
        cases b
        ·rw [if_pos rfl] at hst
         have HST := hid hst
         clear hst
         go_wp2_with (with_reducible refine wpList_ldB F_sliceM wU wU q1 wU ?_)
         refine wp_region_q kR kR ?_
         repeat (first | ((with_reducible refine wpB_loadS (n := 4) (us := #[.bool false, .int .i64 G, .int .i64 1, .slice ad S.length cap]) A_rmach kR wU wU (by assumption) wU wU ?_); (try simp only [Act.put, pA, pB, pC])) | ((with_reducible refine wpB_load F_sliceM wU wU (by assumption) wU ?_); (try simp only [Act.put, pA, pB, pC])) | (((with_reducible refine wpB_idx2 0 E_ints F_int cInt1 wU (rfl) wU (hRr) oD oD (fun _ => wU) (fun _ => ?_)); (try simp only [Act.put, pA, pB, pC]); (try simp only [cInt])); rw [← HX.out]) | ((refine wpB_call (.bool false) wU (fun w' => ?_) (fun w' hw' => HC.out w') ?_); (focus (go_simp; done)); (try simp only [Act.put, pA, pB, pC])) |  ((with_reducible refine wpB_load (by first | exact F_int | exact F_u64s) wU wU (by assumption) wU ?_); (try simp only [Act.put, pA, pB, pC])) | ((refine wpQ_oneG ?_ wU (fun w' => ?_) ?_); rotate_left; (go_simp; rfl); (try simp only [Act.put, pA, pB, pC])))
         refine wpQuiet_nil ?_
         intro w4 hb4
         go_wp2_with fail
         go_ret
         exact ⟨by rw [HE.out, HST.out]; rfl, bnext hSr.b hb4⟩
        ·rw [if_neg (by decide)] at hst
         by_cases hk0 : k = 0
         ·have hst2 : sg (k + 1) = sg 0 := by rw [hst, if_neg (by omega)]
          have hd : decide (0 < k) = false := by simp; omega
          have HST := hid hst2
          clear hst hst2 hk0
          go_wp2_with (with_reducible refine wpList_ldB F_sliceM wU wU q1 wU ?_)
          refine wp_region_q kR kR ?_
          repeat (first | ((with_reducible refine wpB_loadS (n := 4) (us := #[.bool false, .int .i64 G, .int .i64 1, .slice ad S.length cap]) A_rmach kR wU wU (by assumption) wU wU ?_); (try simp only [Act.put, pA, pB, pC])) | ((with_reducible refine wpB_load F_sliceM wU wU (by assumption) wU ?_); (try simp only [Act.put, pA, pB, pC])) | (((with_reducible refine wpB_idx2 0 E_ints F_int cInt1 wU (rfl) wU (hRr) oD oD (fun _ => wU) (fun _ => ?_)); (try simp only [Act.put, pA, pB, pC]); (try simp only [cInt])); rw [← HX.out]) | ((refine wpB_call (.bool true) wU (fun w' => ?_) (fun w' hw' => HC.out w') ?_); (focus (go_simp; done)); (try simp only [Act.put, pA, pB, pC])) |  ((with_reducible refine wpB_load (by first | exact F_int | exact F_u64s) wU wU (by assumption) wU ?_); (try simp only [Act.put, pA, pB, pC])) | ((refine wpQ_oneG ?_ wU (fun w' => ?_) ?_); rotate_left; (go_simp; rfl); (try simp only [Act.put, pA, pB, pC])))
          refine wpQuiet_nil ?_
          intro w4 hb4
          have hS4 := hSr.mono hb4
          have q4 := (hS4.blk 0 rfl).1
          go_wp2_with fail
          refine wp_region_q kR kR ?_
          repeat (first | ((try simp only [hd]); ((with_reducible refine wpQ_skip wU ?_); (try simp only [Act.put, pA, pB, pC]))) |  ((with_reducible refine wpB_load (by first | exact F_int | exact F_u64s) wU wU (by assumption) wU ?_); (try simp only [Act.put, pA, pB, pC])) | ((refine wpQ_oneG ?_ wU (fun w' => ?_) ?_); rotate_left; (go_simp; rfl); (try simp only [Act.put, pA, pB, pC])))
          refine wpQuiet_nil ?_
          intro w5 hb5
          have hS5 := hS4.mono hb5
          go_wp2_with fail
          exact ⟨⟨k + 1, by omega, by go_num, HST.out, hS5⟩, by simp [intOf]; omega⟩
         ·have hd : decide (0 < k) = true := by simp; omega
          have hk1 : 0 ≤ (k : Int) - 1 ∧ (k : Int) - 1 < S.length := by omega
          have hwk : IntKind.i64.wrap ((k : Int) - 1) = (k : Int) - 1 := IntWalk.i64_in _ (by omega)
          obtain ⟨y, hy⟩ : ∃ y, y = atD 0 S ((k : Int) - 1) := ⟨_, rfl⟩
          rw [← hy] at hst
          have HY := hid hy
          clear hy
          by_cases hxy : x ≤ y
          ·rw [if_pos ⟨by omega, hxy⟩] at hst
           have HST := hid hst
           have hdx : decide (x ≤ y) = true := decide_eq_true hxy
           clear hst hk0
           go_wp2_with (with_reducible refine wpList_ldB F_sliceM wU wU q1 wU ?_)
           refine wp_region_q kR kR ?_
           repeat (first | ((with_reducible refine wpB_loadS (n := 4) (us := #[.bool false, .int .i64 G, .int .i64 1, .slice ad S.length cap]) A_rmach kR wU wU (by assumption) wU wU ?_); (try simp only [Act.put, pA, pB, pC])) | ((with_reducible refine wpB_load F_sliceM wU wU (by assumption) wU ?_); (try simp only [Act.put, pA, pB, pC])) | (((with_reducible refine wpB_idx2 0 E_ints F_int cInt1 wU (rfl) wU (hRr) oD oD (fun _ => wU) (fun _ => ?_)); (try simp only [Act.put, pA, pB, pC]); (try simp only [cInt])); rw [← HX.out]) | ((refine wpB_call (.bool true) wU (fun w' => ?_) (fun w' hw' => HC.out w') ?_); (focus (go_simp; done)); (try simp only [Act.put, pA, pB, pC])) |  ((with_reducible refine wpB_load (by first | exact F_int | exact F_u64s) wU wU (by assumption) wU ?_); (try simp only [Act.put, pA, pB, pC])) | ((refine wpQ_oneG ?_ wU (fun w' => ?_) ?_); rotate_left; (go_simp; rfl); (try simp only [Act.put, pA, pB, pC])))
           refine wpQuiet_nil ?_
           intro w4 hb4
           have hS4 := hSr.mono hb4
           have q4 := (hS4.blk 0 rfl).1
           have hR4 := hR.below hS4.b
           clear q1
           go_wp2_with fail
           refine wp_region_q kR kR ?_
           repeat (first | ((try simp only [hd]); ((with_reducible refine wpB_load F_sliceM wU wU (by assumption) wU ?_); (try simp only [Act.put, pA, pB, pC]))) | (((with_reducible refine wpB_idxW 0 E_ints F_int cInt1 wU (rfl) wU (hR4) oD oD (fun _ => wU) wU (fun _ => wU) (fun _ => ?_)); (try simp only [Act.put, pA, pB, pC]); (try simp only [cInt])); first | rw [← HX.out] | rw [← HY.out]) |  ((with_reducible refine wpB_load (by first | exact F_int | exact F_u64s) wU wU (by assumption) wU ?_); (try simp only [Act.put, pA, pB, pC])) | ((refine wpQ_oneG ?_ wU (fun w' => ?_) ?_); rotate_left; (go_simp; rfl); (try simp only [Act.put, pA, pB, pC])))
           refine wpQuiet_nil ?_
           intro w5 hb5
           go_wp2_with fail
           go_ret
           exact ⟨by rw [HE.out, HST.out]; rfl, bnext hS4.b hb5⟩
          ·rw [if_neg (fun h => hxy h.2)] at hst
           have HST := hid hst
           have hdx : decide (x ≤ y) = false := decide_eq_false hxy
           clear hst hk0
           go_wp2_with (with_reducible refine wpList_ldB F_sliceM wU wU q1 wU ?_)
           refine wp_region_q kR kR ?_
           repeat (first | ((with_reducible refine wpB_loadS (n := 4) (us := #[.bool false, .int .i64 G, .int .i64 1, .slice ad S.length cap]) A_rmach kR wU wU (by assumption) wU wU ?_); (try simp only [Act.put, pA, pB, pC])) | ((with_reducible refine wpB_load F_sliceM wU wU (by assumption) wU ?_); (try simp only [Act.put, pA, pB, pC])) | (((with_reducible refine wpB_idx2 0 E_ints F_int cInt1 wU (rfl) wU (hRr) oD oD (fun _ => wU) (fun _ => ?_)); (try simp only [Act.put, pA, pB, pC]); (try simp only [cInt])); rw [← HX.out]) | ((refine wpB_call (.bool true) wU (fun w' => ?_) (fun w' hw' => HC.out w') ?_); (focus (go_simp; done)); (try simp only [Act.put, pA, pB, pC])) |  ((with_reducible refine wpB_load (by first | exact F_int | exact F_u64s) wU wU (by assumption) wU ?_); (try simp only [Act.put, pA, pB, pC])) | ((refine wpQ_oneG ?_ wU (fun w' => ?_) ?_); rotate_left; (go_simp; rfl); (try simp only [Act.put, pA, pB, pC])))
           refine wpQuiet_nil ?_
           intro w4 hb4
           have hS4 := hSr.mono hb4
           have q4 := (hS4.blk 0 rfl).1
           have hR4 := hR.below hS4.b
           clear q1
           go_wp2_with fail
           refine wp_region_q kR kR ?_
           repeat (first | ((try simp only [hd]); ((with_reducible refine wpB_load F_sliceM wU wU (by assumption) wU ?_); (try simp only [Act.put, pA, pB, pC]))) | (((with_reducible refine wpB_idxW 0 E_ints F_int cInt1 wU (rfl) wU (hR4) oD oD (fun _ => wU) wU (fun _ => wU) (fun _ => ?_)); (try simp only [Act.put, pA, pB, pC]); (try simp only [cInt])); first | rw [← HX.out] | rw [← HY.out]) |  ((with_reducible refine wpB_load (by first | exact F_int | exact F_u64s) wU wU (by assumption) wU ?_); (try simp only [Act.put, pA, pB, pC])) | ((refine wpQ_oneG ?_ wU (fun w' => ?_) ?_); rotate_left; (go_simp; rfl); (try simp only [Act.put, pA, pB, pC])))
           refine wpQuiet_nil ?_
           intro w5 hb5
           have hS5 := hS4.mono hb5
           go_wp2_with fail
           exact ⟨⟨k + 1, by omega, by go_num, HST.out.symm, hS5⟩, by simp [intOf]; omega⟩
       ·have hkn : k = S.length := by omega
        subst hkn
        have he : E = 0 := by rw [HE.out, ← hgo, HSE.out]
        have HEE := hid he
        clear he hgo
        go_wp2_with (with_reducible refine wpList_ldB F_sliceM wU wU q1 wU ?_)
        go_ret
        exact ⟨by rw [HEE.out]; rfl, hSr.b⟩
     ·go_enter Tryz.func53, Tryz.ntmps53
      go_wp2_with fail
      refine (HO.out _).mono ?_
      rintro e w1 ⟨rfl, rfl⟩
      go_wp2_with fail
      go_loopw [3] (fun i wr => ∃ k : Nat, k ≤ S.length ∧ i = .int .i64 k ∧ sg k = sg 0 ∧ SL w.heap.size w wr [pBlk w.heap.size (.cells #[.bool false, .int .i64 G, .int .i64 (-1), .slice ad S.length cap] 66)]) (fun i _ => S.length - (intOf i).toNat)
      case atStart => exact ⟨0, by omega, rfl, rfl, hS⟩
      case round =>
       clear hS
       obtain ⟨k, hk, rfl, hgo, hSr⟩ := hrel
       have q1 := (hSr.blk 0 rfl).1
       have hRr := hR.below hSr.b
       by_cases hlt : k < S.length
       ·have hst := HSW.out k hlt
        rw [hgo] at hst
        obtain ⟨x, hx⟩ : ∃ x, x = atD 0 S k := ⟨_, rfl⟩
        rw [← hx] at hst
        obtain ⟨b, hb⟩ : ∃ b, b = sh x := ⟨_, rfl⟩
        have CS := fun w => HCS'.out x w
        rw [← hb] at hst CS
        have HX := hid hx; have HC := hid CS
        clear hx hb CS hgo
        cases b
        ·rw [if_pos rfl] at hst
         have HST := hid hst
         clear hst
         go_wp2_with (with_reducible refine wpList_ldB F_sliceM wU wU q1 wU ?_)
         refine wp_region_q kR kR ?_
         repeat (first | ((with_reducible refine wpB_loadS (n := 4) (us := #[.bool false, .int .i64 G, .int .i64 (-1), .slice ad S.length cap]) A_rmach kR wU wU (by assumption) wU wU ?_); (try simp only [Act.put, pA, pB, pC])) | ((with_reducible refine wpB_load F_sliceM wU wU (by assumption) wU ?_); (try simp only [Act.put, pA, pB, pC])) | (((with_reducible refine wpB_idx2 0 E_ints F_int cInt1 wU (rfl) wU (hRr) oD oD (fun _ => wU) (fun _ => ?_)); (try simp only [Act.put, pA, pB, pC]); (try simp only [cInt])); rw [← HX.out]) | ((refine wpB_call (.bool false) wU (fun w' => ?_) (fun w' hw' => HC.out w') ?_); (focus (go_simp; done)); (try simp only [Act.put, pA, pB, pC])) |  ((with_reducible refine wpB_load (by first | exact F_int | exact F_u64s) wU wU (by assumption) wU ?_); (try simp only [Act.put, pA, pB, pC])) | ((refine wpQ_oneG ?_ wU (fun w' => ?_) ?_); rotate_left; (go_simp; rfl); (try simp only [Act.put, pA, pB, pC])))
         refine wpQuiet_nil ?_
         intro w4 hb4
         go_wp2_with fail
         go_ret
         exact ⟨by rw [HE.out, HST.out]; rfl, bnext hSr.b hb4⟩
        ·rw [if_neg (by decide)] at hst
         by_cases hk0 : k = 0
         ·have hst2 : sg (k + 1) = sg 0 := by rw [hst, if_neg (by omega)]
          have hd : decide (0 < k) = false := by simp; omega
          have HST := hid hst2
          clear hst hst2 hk0
          go_wp2_with (with_reducible refine wpList_ldB F_sliceM wU wU q1 wU ?_)
          refine wp_region_q kR kR ?_
          repeat (first | ((with_reducible refine wpB_loadS (n := 4) (us := #[.bool false, .int .i64 G, .int .i64 (-1), .slice ad S.length cap]) A_rmach kR wU wU (by assumption) wU wU ?_); (try simp only [Act.put, pA, pB, pC])) | ((with_reducible refine wpB_load F_sliceM wU wU (by assumption) wU ?_); (try simp only [Act.put, pA, pB, pC])) | (((with_reducible refine wpB_idx2 0 E_ints F_int cInt1 wU (rfl) wU (hRr) oD oD (fun _ => wU) (fun _ => ?_)); (try simp only [Act.put, pA, pB, pC]); (try simp only [cInt])); rw [← HX.out]) | ((refine wpB_call (.bool true) wU (fun w' => ?_) (fun w' hw' => HC.out w') ?_); (focus (go_simp; done)); (try simp only [Act.put, pA, pB, pC])) |  ((with_reducible refine wpB_load (by first | exact F_int | exact F_u64s) wU wU (by assumption) wU ?_); (try simp only [Act.put, pA, pB, pC])) | ((refine wpQ_oneG ?_ wU (fun w' => ?_) ?_); rotate_left; (go_simp; rfl); (try simp only [Act.put, pA, pB, pC])))
          refine wpQuiet_nil ?_
          intro w4 hb4
          have hS4 := hSr.mono hb4
          have q4 := (hS4.blk 0 rfl).1
          go_wp2_with fail
          refine wp_region_q kR kR ?_
          repeat (first | ((try simp only [hd]); ((with_reducible refine wpQ_skip wU ?_); (try simp only [Act.put, pA, pB, pC]))) |  ((with_reducible refine wpB_load (by first | exact F_int | exact F_u64s) wU wU (by assumption) wU ?_); (try simp only [Act.put, pA, pB, pC])) | ((refine wpQ_oneG ?_ wU (fun w' => ?_) ?_); rotate_left; (go_simp; rfl); (try simp only [Act.put, pA, pB, pC])))
          refine wpQuiet_nil ?_
          intro w5 hb5
          have hS5 := hS4.mono hb5
          go_wp2_with fail
          exact ⟨⟨k + 1, by omega, by go_num, HST.out, hS5⟩, by simp [intOf]; omega⟩
         ·have hd : decide (0 < k) = true := by simp; omega
          have hk1 : 0 ≤ (k : Int) - 1 ∧ (k : Int) - 1 < S.length := by omega
          have hwk : IntKind.i64.wrap ((k : Int) - 1) = (k : Int) - 1 := IntWalk.i64_in _ (by omega)
          obtain ⟨y, hy⟩ : ∃ y, y = atD 0 S ((k : Int) - 1) := ⟨_, rfl⟩
          rw [← hy] at hst
          have HY := hid hy
          clear hy
          by_cases hxy : x ≤ y
          ·rw [if_pos ⟨by omega, hxy⟩] at hst
           have HST := hid hst
           have hdx : decide (x ≤ y) = true := decide_eq_true hxy
           clear hst hk0
           go_wp2_with (with_reducible refine wpList_ldB F_sliceM wU wU q1 wU ?_)
           refine wp_region_q kR kR ?_
           repeat (first | ((with_reducible refine wpB_loadS (n := 4) (us := #[.bool false, .int .i64 G, .int .i64 (-1), .slice ad S.length cap]) A_rmach kR wU wU (by assumption) wU wU ?_); (try simp only [Act.put, pA, pB, pC])) | ((with_reducible refine wpB_load F_sliceM wU wU (by assumption) wU ?_); (try simp only [Act.put, pA, pB, pC])) | (((with_reducible refine wpB_idx2 0 E_ints F_int cInt1 wU (rfl) wU (hRr) oD oD (fun _ => wU) (fun _ => ?_)); (try simp only [Act.put, pA, pB, pC]); (try simp only [cInt])); rw [← HX.out]) | ((refine wpB_call (.bool true) wU (fun w' => ?_) (fun w' hw' => HC.out w') ?_); (focus (go_simp; done)); (try simp only [Act.put, pA, pB, pC])) |  ((with_reducible refine wpB_load (by first | exact F_int | exact F_u64s) wU wU (by assumption) wU ?_); (try simp only [Act.put, pA, pB, pC])) | ((refine wpQ_oneG ?_ wU (fun w' => ?_) ?_); rotate_left; (go_simp; rfl); (try simp only [Act.put, pA, pB, pC])))
           refine wpQuiet_nil ?_
           intro w4 hb4
           have hS4 := hSr.mono hb4
           have q4 := (hS4.blk 0 rfl).1
           have hR4 := hR.below hS4.b
           clear q1
           go_wp2_with fail
           refine wp_region_q kR kR ?_
           repeat (first | ((try simp only [hd]); ((with_reducible refine wpB_load F_sliceM wU wU (by assumption) wU ?_); (try simp only [Act.put, pA, pB, pC]))) | (((with_reducible refine wpB_idxW 0 E_ints F_int cInt1 wU (rfl) wU (hR4) oD oD (fun _ => wU) wU (fun _ => wU) (fun _ => ?_)); (try simp only [Act.put, pA, pB, pC]); (try simp only [cInt])); first | rw [← HX.out] | rw [← HY.out]) |  ((with_reducible refine wpB_load (by first | exact F_int | exact F_u64s) wU wU (by assumption) wU ?_); (try simp only [Act.put, pA, pB, pC])) | ((refine wpQ_oneG ?_ wU (fun w' => ?_) ?_); rotate_left; (go_simp; rfl); (try simp only [Act.put, pA, pB, pC])))
           refine wpQuiet_nil ?_
           intro w5 hb5
           go_wp2_with fail
           go_ret
           exact ⟨by rw [HE.out, HST.out]; rfl, bnext hS4.b hb5⟩
          ·rw [if_neg (fun h => hxy h.2)] at hst
           have HST := hid hst
           have hdx : decide (x ≤ y) = false := decide_eq_false hxy
           clear hst hk0
           go_wp2_with (with_reducible refine wpList_ldB F_sliceM wU wU q1 wU ?_)
           refine wp_region_q kR kR ?_
           repeat (first | ((with_reducible refine wpB_loadS (n := 4) (us := #[.bool false, .int .i64 G, .int .i64 (-1), .slice ad S.length cap]) A_rmach kR wU wU (by assumption) wU wU ?_); (try simp only [Act.put, pA, pB, pC])) | ((with_reducible refine wpB_load F_sliceM wU wU (by assumption) wU ?_); (try simp only [Act.put, pA, pB, pC])) | (((with_reducible refine wpB_idx2 0 E_ints F_int cInt1 wU (rfl) wU (hRr) oD oD (fun _ => wU) (fun _ => ?_)); (try simp only [Act.put, pA, pB, pC]); (try simp only [cInt])); rw [← HX.out]) | ((refine wpB_call (.bool true) wU (fun w' => ?_) (fun w' hw' => HC.out w') ?_); (focus (go_simp; done)); (try simp only [Act.put, pA, pB, pC])) |  ((with_reducible refine wpB_load (by first | exact F_int | exact F_u64s) wU wU (by assumption) wU ?_); (try simp only [Act.put, pA, pB, pC])) | ((refine wpQ_oneG ?_ wU (fun w' => ?_) ?_); rotate_left; (go_simp; rfl); (try simp only [Act.put, pA, pB, pC])))
           refine wpQuiet_nil ?_
           intro w4 hb4
           have hS4 := hSr.mono hb4
           have q4 := (hS4.blk 0 rfl).1
           have hR4 := hR.below hS4.b
           clear q1
           go_wp2_with fail
           refine wp_region_q kR kR ?_
           repeat (first | ((try simp only [hd]); ((with_reducible refine wpB_load F_sliceM wU wU (by assumption) wU ?_); (try simp only [Act.put, pA, pB, pC]))) | (((with_reducible refine wpB_idxW 0 E_ints F_int cInt1 wU (rfl) wU (hR4) oD oD (fun _ => wU) wU (fun _ => wU) (fun _ => ?_)); (try simp only [Act.put, pA, pB, pC]); (try simp only [cInt])); first | rw [← HX.out] | rw [← HY.out]) |  ((with_reducible refine wpB_load (by first | exact F_int | exact F_u64s) wU wU (by assumption) wU ?_); (try simp only [Act.put, pA, pB, pC])) | ((refine wpQ_oneG ?_ wU (fun w' => ?_) ?_); rotate_left; (go_simp; rfl); (try simp only [Act.put, pA, pB, pC])))
           refine wpQuiet_nil ?_
           intro w5 hb5
           have hS5 := hS4.mono hb5
           go_wp2_with fail
           exact ⟨⟨k + 1, by omega, by go_num, HST.out.symm, hS5⟩, by simp [intOf]; omega⟩
       ·have hkn : k = S.length := by omega
        subst hkn
        have he : E = 0 := by rw [HE.out, ← hgo, HSE.out]
        have HEE := hid he
        clear he hgo
        go_wp2_with (with_reducible refine wpList_ldB F_sliceM wU wU q1 wU ?_)
        go_ret
        exact ⟨by rw [HEE.out]; rfl, hSr.b⟩
end Go.Proofs.YtddkdgodgflmlaaGreatDoor

namespace Go.Proofs.YtddkdgodgflmlaaGreatDoor
open Go.RowKit
set_option maxHeartbeats 4000000
set_option maxRecDepth 100000
theorem take_not_mem {l : List Int} {x : Int} {k : Nat} (hk : k ≤ l.length) (h : ∀ i : Nat, i < k → atD 0 l i ≠ x) : x ∉ l.take k := by
 intro hm
 obtain ⟨i, hi, e⟩ := List.getElem_of_mem hm
 rw [List.length_take] at hi
 refine h i (by omega) ?_
 rw [← e, List.getElem_take]
 have : i < l.length := by omega
 simp [atD, this]
theorem take_mem {l : List Int} {x : Int} {k j : Nat} (hk : k ≤ l.length) (hj : j < k) (h : atD 0 l j = x) : x ∈ l.take k := by
 have hjl : j < l.length := by omega
 have e : atD 0 l j = l[j] := by simp [atD, hjl]
 rw [← h, e, List.mem_take_iff_getElem]
 exact ⟨j, by omega, rfl⟩
theorem rCheckLoad_any (m : MacV) (ad : Option Addr) (cap : Nat) (al : Option Addr) (cl : Nat) (l : List Int) (w : World) (hL : Ints w al cl l) (hg0 : 1 ≤ m.gears) (hg : m.gears ≤ 16) :
  Calls Tryz.prog 31 #[mV m ad cap, .slice al l.length cl] w fun r w' => r = .returned (.int .i64 (if 4 * m.gears < l.length then 5 else loadGo m [] l)) ∧ Below w.heap.size w w' := by
 have hcap := hL.le
 have hmx := hL.max
 have hlen : l.length ≤ 9223372036854775807 := by have := hL.max; unfold maxLen at this; omega
 obtain ⟨n, hn⟩ : ∃ n : Nat, 4 * m.gears = n := ⟨(4 * m.gears).toNat, by omega⟩
 have CN := fun w => rSlots_any m ad cap w (by omega) hg
 have HST := fun (k : Nat) (h : k < l.length) => loadGo_step m h
 rw [hn] at CN HST ⊢
 have hn64 : 1 ≤ n ∧ n ≤ 64 := by omega
 have CO := fun (x : Int) w => rOutside_any x 0 ((n : Int) - 1) w
 have hwn : IntKind.i64.wrap ((n : Int) - 1) = (n : Int) - 1 := IntWalk.i64_in _ (by omega)
 have hS := (SL.nil w).box (.cells (mC m ad cap) 66)
 obtain ⟨R, hR⟩ : ∃ R : Int, R = (if (n : Int) < l.length then 5 else loadGo m [] l) := ⟨_, rfl⟩
 rw [← hR]
 have HN := hid CN; have HT := hid HST; have HO := hid CO
 clear CN HST CO hn
 by_cases hb : (n : Int) < l.length
 ·rw [if_pos hb] at hR
  subst hR
  go_enter Tryz.func31, Tryz.ntmps31
  go_wp2_with fail
  refine (HN.out _).mono ?_
  rintro e w1 ⟨rfl, b1⟩
  have hS1 := hS.mono b1
  go_wp2_with fail
  go_ret
  exact ⟨rfl, hS1.b⟩
 ·rw [if_neg hb] at hR
  have HR := hid hR
  clear hR
  have hl64 : l.length ≤ 64 := by omega
  go_enter Tryz.func31, Tryz.ntmps31
  go_wp2_with fail
  refine (HN.out _).mono ?_
  rintro e w1 ⟨rfl, b1⟩
  have hS1 := hS.mono b1
  go_wp2_with fail
  go_loopw [5] (fun i wr => ∃ k : Nat, k ≤ l.length ∧ i = .int .i64 k ∧ loadGo m (l.take k) (l.drop k) = loadGo m [] l ∧ SL w.heap.size w wr [pBlk w.heap.size (.cells (mC m ad cap) 66)]) (fun i _ => l.length - (intOf i).toNat)
  case atStart => exact ⟨0, by omega, rfl, by simp, hS1⟩
  case round =>
   clear hS hS1
   obtain ⟨k, hk, rfl, hgo, hSr⟩ := hrel
   have q1 := (hSr.blk 0 rfl).1
   have hLr := hL.below hSr.b
   by_cases hlt : k < l.length
   ·have hst := HT.out k hlt
    rw [hgo, ← HR.out] at hst
    obtain ⟨x, hx⟩ : ∃ x, x = atD 0 l k := ⟨_, rfl⟩
    rw [← hx] at hst
    have HX := hid hx
    clear hx hgo
    have CO := fun w => HO.out x w
    by_cases hxo : x < 0 ∨ (n : Int) ≤ x
    ·rw [if_pos hxo] at hst
     have hb : (decide (x < 0) || decide ((n : Int) - 1 < x)) = true := by simp; omega
     rw [hb] at CO
     have HC := hid CO
     clear CO hb hxo
     subst hst
     go_wp2_with fail
     refine wp_region_q kR kR ?_
     repeat (first | (((with_reducible refine wpB_idx2 0 E_ints F_int cInt1 wU (rfl) wU (hLr) oD oD (fun _ => wU) (fun _ => ?_)); (try simp only [Act.put, pA, pB, pC]); (try simp only [cInt])); rw [← HX.out]) | ((with_reducible refine wpB_loadS (n := 4) (us := mC m ad cap) A_rmach kR wU wU (by assumption) wU wU ?_); (try simp only [Act.put, pA, pB, pC])) | ((refine wpB_call (.int .i64 n) wU (fun w' => ?_) (fun w' hw' => HN.out w') ?_); (focus (go_simp; done)); (try simp only [Act.put, pA, pB, pC])) | ((refine wpB_call (.bool true) wU (fun w' => ?_) (fun w' hw' => calls_below (HC.out w')) ?_); (focus (go_simp; done)); (try simp only [Act.put, pA, pB, pC])) |  ((with_reducible refine wpB_load (by first | exact F_int | exact F_u64s) wU wU (by assumption) wU ?_); (try simp only [Act.put, pA, pB, pC])) | ((refine wpQ_oneG ?_ wU (fun w' => ?_) ?_); rotate_left; (go_simp; rfl); (try simp only [Act.put, pA, pB, pC])))
     refine wpQuiet_nil ?_
     intro w4 hb4
     go_wp2_with fail
     go_ret
     exact ⟨rfl, bnext hSr.b hb4⟩
    ·rw [if_neg hxo] at hst
     have hb : (decide (x < 0) || decide ((n : Int) - 1 < x)) = false := by simp; omega
     rw [hb] at CO
     have HC := hid CO; have HS := hid hst
     clear CO hb hxo hst
     go_wp2_with fail
     refine wp_region_q kR kR ?_
     repeat (first | (((with_reducible refine wpB_idx2 0 E_ints F_int cInt1 wU (rfl) wU (hLr) oD oD (fun _ => wU) (fun _ => ?_)); (try simp only [Act.put, pA, pB, pC]); (try simp only [cInt])); rw [← HX.out]) | ((with_reducible refine wpB_loadS (n := 4) (us := mC m ad cap) A_rmach kR wU wU (by assumption) wU wU ?_); (try simp only [Act.put, pA, pB, pC])) | ((refine wpB_call (.int .i64 n) wU (fun w' => ?_) (fun w' hw' => HN.out w') ?_); (focus (go_simp; done)); (try simp only [Act.put, pA, pB, pC])) | ((refine wpB_call (.bool false) wU (fun w' => ?_) (fun w' hw' => calls_below (HC.out w')) ?_); (focus (go_simp; done)); (try simp only [Act.put, pA, pB, pC])) |  ((with_reducible refine wpB_load (by first | exact F_int | exact F_u64s) wU wU (by assumption) wU ?_); (try simp only [Act.put, pA, pB, pC])) | ((refine wpQ_oneG ?_ wU (fun w' => ?_) ?_); rotate_left; (go_simp; rfl); (try simp only [Act.put, pA, pB, pC])))
     refine wpQuiet_nil ?_
     intro w4 hb4
     have hS4 := hSr.mono hb4
     clear q1 hLr hSr hb4
     go_wp2_with fail
     go_loopw [6] (fun i wr => ∃ j : Nat, j ≤ k ∧ i = .int .i64 j ∧ (∀ i : Nat, i < j → atD 0 l i ≠ x) ∧ SL w.heap.size w wr [pBlk w.heap.size (.cells (mC m ad cap) 66)]) (fun i _ => k - (intOf i).toNat)
     case atStart => exact ⟨0, by omega, rfl, fun i hi => absurd hi (Nat.not_lt_zero i), hS4⟩
     case round =>
      clear hS4
      obtain ⟨j, hj, rfl, hno, hS5⟩ := hrel
      have hL5 := hL.below hS5.b
      have HNO := hid hno
      clear hno
      by_cases hjk : j < k
      ·have hjl : (j : Int) < l.length := by omega
       obtain ⟨y, hy⟩ : ∃ y, y = atD 0 l j := ⟨_, rfl⟩
       have HY := hid hy
       clear hy
       by_cases hyx : y = x
       ·have hd : (y == x) = true := by simpa using hyx
        have hR9 : R = 9 := by rw [HS.out, if_pos (take_mem (by omega) hjk (by rw [← HY.out, hyx]))]
        clear hyx
        subst hR9
        go_wp2_with fail
        refine wp_region_q kR kR ?_
        repeat (first | (((with_reducible refine wpB_idx2 0 E_ints F_int cInt1 wU (rfl) wU (hL5) oD oD (fun _ => wU) (fun _ => ?_)); (try simp only [Act.put, pA, pB, pC]); (try simp only [cInt])); first | rw [← HY.out] | rw [← HX.out]) |  ((with_reducible refine wpB_load (by first | exact F_int | exact F_u64s) wU wU (by assumption) wU ?_); (try simp only [Act.put, pA, pB, pC])) | ((refine wpQ_oneG ?_ wU (fun w' => ?_) ?_); rotate_left; (go_simp; rfl); (try simp only [Act.put, pA, pB, pC])))
        refine wpQuiet_nil ?_
        intro w6 hb6
        go_wp2_with fail
        go_ret
        exact ⟨rfl, bnext hS5.b hb6⟩
       ·have hd : (y == x) = false := by simpa using hyx
        have hno2 : ∀ i : Nat, i < j + 1 → atD 0 l i ≠ x := fun i hi => by
         by_cases e : i = j
         ·subst e; rw [← HY.out]; exact hyx
         ·exact HNO.out i (by omega)
        have HN2 := hid hno2
        clear hyx hno2
        go_wp2_with fail
        refine wp_region_q kR kR ?_
        repeat (first | (((with_reducible refine wpB_idx2 0 E_ints F_int cInt1 wU (rfl) wU (hL5) oD oD (fun _ => wU) (fun _ => ?_)); (try simp only [Act.put, pA, pB, pC]); (try simp only [cInt])); first | rw [← HY.out] | rw [← HX.out]) |  ((with_reducible refine wpB_load (by first | exact F_int | exact F_u64s) wU wU (by assumption) wU ?_); (try simp only [Act.put, pA, pB, pC])) | ((refine wpQ_oneG ?_ wU (fun w' => ?_) ?_); rotate_left; (go_simp; rfl); (try simp only [Act.put, pA, pB, pC])))
        refine wpQuiet_nil ?_
        intro w6 hb6
        have hS6 := hS5.mono hb6
        go_wp2_with fail
        exact ⟨⟨j + 1, by omega, by go_num, HN2.out, hS6⟩, by simp [intOf]; omega⟩
      ·have hjk2 : j = k := by omega
       subst hjk2
       have hR2 : R = loadGo m (l.take (j + 1)) (l.drop (j + 1)) := by rw [HS.out, if_neg (take_not_mem (by omega) HNO.out)]
       have H2 := hid hR2
       clear hR2
       go_wp2_with fail
       exact ⟨⟨j + 1, by omega, by go_num, by rw [← H2.out, HR.out], hS5⟩, by simp [intOf]; omega⟩
   ·have hkn : k = l.length := by omega
    subst hkn
    rw [List.drop_length] at hgo
    have e : R = 0 := by rw [HR.out, ← hgo]; rfl
    clear hgo HR
    subst e
    go_wp2_with fail
    go_ret
    exact ⟨rfl, hSr.b⟩
end Go.Proofs.YtddkdgodgflmlaaGreatDoor

namespace Go.Proofs.YtddkdgodgflmlaaGreatDoor
open Go.ChangeShapes Go.WideShapes Go.ChangeAt Go.RowKit
set_option maxRecDepth 100000
theorem ownP : ownKnob Tryz.prog.godebug = none := by kernel_rfl
/-- a table's cells. -/
def flatD : Nat → DataW Unit → List Value
 | 0, _ => []
 | _ + 1, .lit (.int k v) => [.int k v]
 | n + 1, .agg l => l.flatMap (flatD n)
 | _, _ => []
def layAt (d : DataW Unit) : Obj → Obj
 | .cells _ t fr => .cells (flatD 4 d).toArray t fr
 | o => o
noncomputable def laidWorld (os : Os) : World :=
 { World.holding Tryz.prog os ⟨#[], #[], []⟩ with heap := (((((World.holding Tryz.prog os ⟨#[], #[], []⟩).heap.modify 6 (layAt Rows.laid_math_bits_deBruijn32tab)).modify 7 (layAt Rows.laid_math_bits_deBruijn64tab)).modify 5 (layAt Rows.laid_internal_strconv_uint64pow10)).modify 2 (layAt Rows.laid_unicode_utf8_acceptRanges)).modify 1 (layAt Rows.laid_unicode_utf8_first) }
end Go.Proofs.YtddkdgodgflmlaaGreatDoor

namespace Go.Proofs.YtddkdgodgflmlaaGreatDoor
open Go.ChangeShapes Go.WideShapes Go.ChangeAt Go.RowKit
set_option maxRecDepth 100000
theorem g1 : (laidOutB Tryz.prog) = true := by kernel_rfl
theorem g2 : (mapsRowed Tryz.prog) = true := by kernel_rfl
theorem g6 : ((Tryz.prog.stops == [])) = true := by kernel_rfl
theorem g8 : ((Tryz.prog.stopKnobs == [])) = true := by kernel_rfl
theorem g24 : (Tryz.prog.stopsHeard) = true := by kernel_rfl
theorem g25 : (Tryz.prog.mayEnter) = true := by kernel_rfl
end Go.Proofs.YtddkdgodgflmlaaGreatDoor

namespace Go.Proofs.YtddkdgodgflmlaaGreatDoor
open Go.RowKit Go.ChangeShapes Go.WideShapes Go.ChangeAt Go.Joins Go.Deep
set_option maxRecDepth 100000
section
variable {H : Type} {enc : TypeId × Value → H} {W : World}
theorem open_machA {r : Reach} {b0 : Nat} {v : Value} {d : DataW H} {ps : List MemPlace} (hval : Value.okWide Tryz.prog W r b0 45 v) (h : DataW.Trod enc Tryz.prog W 0 (fun _ => true) true 45 v d ps) :
  ∃ (m : MacV) (ad : Option Addr) (cap : Nat), v = mV m ad cap ∧ Ints W ad cap m.sw ∧ InI m.gears ∧ InI m.turn ∧ ∀ x ∈ m.sw, InI x := by
 obtain ⟨v0, v1, v2, v3, y0, y1, y2, y3, n, rfl, _, _, k0, k1, k2, k3⟩ := open_agg4 Tryz.underlying45 kR rfl hval h
 obtain ⟨b, e0, _⟩ := DataW.trod_bool Tryz.underlying4 k0
 obtain ⟨x, e1, _, w1⟩ := DataW.trod_int Tryz.underlying3 k1
 obtain ⟨y, e2, _, w2⟩ := DataW.trod_int Tryz.underlying3 k2
 cases e0; cases e1; cases e2
 rcases open_ints Tryz.underlying22 Tryz.underlying3 cellsInt k3 with ⟨hcs, _⟩ | ⟨a, len', cap', zs, hcs, _, hl, hm, hz, _, hcell, hwz⟩
 ·cases hcs
  exact ⟨⟨b, x, y, []⟩, none, 0, rfl, ints_nil W, inI_wf w1, inI_wf w2, fun x hx => by cases hx⟩
 ·cases hcs
  simp only [if_true] at hz
  have hlen : (zs.take len').length = len' := by simp; omega
  refine ⟨⟨b, x, y, zs.take len'⟩, some a, cap', ?_, ints_of_cells hl hm (by omega) hcell, inI_wf w1, inI_wf w2, fun x hx => ?_⟩
  ·show _ = Value.agg #[_, _, _, .slice _ (zs.take len').length _]
   rw [hlen]
  ·exact inI_wf (hwz x (List.mem_of_mem_take hx))
end
end Go.Proofs.YtddkdgodgflmlaaGreatDoor

namespace Go.Proofs.YtddkdgodgflmlaaGreatDoor
open Go.RowKit
set_option maxHeartbeats 8000000
set_option maxRecDepth 100000
/-- a machine with a load is valid, with at most some gears and carriers. -/
def Fits (m : MacV) (l : List Int) (g c : Int) : Prop := (m.sw.length ≤ 19 ∧ l.length ≤ 67) ∧ m.gears ≤ g ∧ (l.length : Int) ≤ c ∧ loadE m l = 0
end Go.Proofs.YtddkdgodgflmlaaGreatDoor

namespace Go.Proofs.YtddkdgodgflmlaaGreatDoor
set_option maxRecDepth 100000
theorem loadGo_ok (m : MacV) : ∀ (l pre : List Int), (∀ x ∈ l, 0 ≤ x ∧ x < 4 * m.gears) → (pre ++ l).Nodup → loadGo m pre l = 0
 | [], pre, _, _ => rfl
 | s :: r, pre, h, hn => by
   have hs := h s (by simp)
   have h2 : s ∉ pre := fun hm => by
     have := (List.nodup_append.1 hn).2.2 s hm s (by simp)
     exact this rfl
   rw [loadGo, if_neg (by omega), if_neg h2]
   exact loadGo_ok m r (pre ++ [s]) (fun x hx => h x (List.mem_cons_of_mem _ hx)) (by simpa using hn)
theorem loadE_ok {m : MacV} {l : List Int} (hm : macE m = 0) (hr : ∀ x ∈ l, 0 ≤ x ∧ x < 4 * m.gears) (hn : l.Nodup) : loadE m l = 0 := by
 have hle : (l.length : Int) ≤ 4 * m.gears := by
  have hg := (macE_zero hm).1.lo
  have := nodup_le (4 * m.gears).toNat l hn (fun x hx => by have := hr x hx; omega)
  omega
 unfold loadE
 rw [if_neg (by simp [hm]), if_neg (by omega)]
 exact loadGo_ok m l [] hr (by simpa using hn)
theorem nodup_map {l : List Int} {f : Int → Int} (hn : l.Nodup) (h : ∀ x ∈ l, ∀ y ∈ l, f x = f y → x = y) : (l.map f).Nodup := by
 rw [List.nodup_iff_pairwise_ne, List.pairwise_map]
 exact (List.nodup_iff_pairwise_ne.1 hn).imp_of_mem fun {x y} hx hy hxy e => hxy (h x hx y hy e)
theorem atL_nodup {m : MacV} {l : List Int} (hr : ∀ x ∈ l, 0 ≤ x ∧ x < 4 * m.gears) (hn : l.Nodup) (k : Nat) : (atL m l k).Nodup :=
 nodup_map hn fun x hx y hy e => itM_inj (hr x hx).1 (hr x hx).2 (hr y hy).1 (hr y hy).2 k e
theorem atL_load {m : MacV} {l : List Int} (h : LoadOk m l) (k : Nat) : loadE m (atL m l k) = 0 := loadE_ok h.mac (atL_rng h.rng k) (atL_nodup h.rng h.nodup k)

theorem atD_map2 {l : List Int} {f : Int → Int} {i : Nat} (h : i < l.length) : atD 0 (l.map f) i = f (atD 0 l i) := by simp [atD, h]
theorem pairsTo_map2 {l : List Int} {f : Int → Int} : ∀ {i : Nat}, i ≤ l.length → pairsTo (l.map f) i = (pairsTo l i).map fun p => (f p.1, f p.2)
 | 0, _ => rfl
 | i + 1, h => by
   rw [pairsTo_succ, pairsTo_succ, pairsTo_map2 (by omega), List.map_append, ← List.map_take, List.map_map, List.map_map, atD_map2 (by omega)]
   rfl
theorem pair_rng {l : List Int} {N : Int} (hl : ∀ x ∈ l, 0 ≤ x ∧ x < N) {p : Int × Int} (hp : p ∈ pairsTo l l.length) : (0 ≤ p.1 ∧ p.1 < N) ∧ (0 ≤ p.2 ∧ p.2 < N) := by
 obtain ⟨i, j, hji, hi, rfl⟩ := (pairsTo_mem (Nat.le_refl _)).1 hp
 have e1 : atD 0 l (i : Int) = l[i] := by simp [atD, hi]
 have hj : j < l.length := by omega
 have e2 : atD 0 l (j : Int) = l[j] := by simp [atD, hj]
 rw [e1, e2]
 exact ⟨hl _ (List.getElem_mem hi), hl _ (List.getElem_mem hj)⟩
end Go.Proofs.YtddkdgodgflmlaaGreatDoor

namespace Go.Proofs.YtddkdgodgflmlaaGreatDoor
open Go.RowKit
set_option maxHeartbeats 8000000
set_option maxRecDepth 100000
theorem load_chk {m : MacV} {l : List Int} (hm : macE m = 0) : (if 4 * m.gears < (l.length : Int) then (5 : Int) else loadGo m [] l) = loadE m l := by
 have e : loadE m l = (if 4 * m.gears < (l.length : Int) then (5 : Int) else loadGo m [] l) := by
  unfold loadE
  rw [if_neg (by simp [hm])]
 exact e.symm
theorem tfits_ok (m : MacV) (ad al : Option Addr) (cap cl : Nat) (l : List Int) (g c : Int) (w : World) (hR : Ints w ad cap m.sw) (hL : Ints w al cl l) (h : Fits m l g c) :
  Calls Tryz.prog 16 #[mV m ad cap, .slice al l.length cl, .int .i64 g, .int .i64 c] w fun r w' => r = .returned (.bool true) ∧ Below w.heap.size w w' := by
 obtain ⟨hs, hg, hc, he⟩ := h
 have hS0 := ((SL.nil w).box (.cells (mC m ad cap) 45)).box (.cells (mC m ad cap) 66)
 simp only [World.size_alloc] at hS0
 have CSh := fun w => rShort_any m ad cap al cl l.length w
 have CM := fun w h => rCheckMachine_any m ad cap w h
 have hlc := hL.le
 rw [show (decide (m.sw.length ≤ 19) && decide (l.length ≤ 67)) = true by simp [hs]] at CSh
 have hlk := loadE_zero he
 rw [hlk.mac] at CM
 have CL := fun w h => rCheckLoad_any m ad cap al cl l w h hlk.ok.lo hlk.ok.hi
 rw [load_chk hlk.mac, he] at CL
 have HSh := hid CSh; have HM := hid CM; have HL := hid CL
 have dg : decide (m.gears ≤ g) = true := decide_eq_true hg
 have dc : decide ((l.length : Int) ≤ c) = true := decide_eq_true hc
 clear CSh CM CL he hs hg hc hlk
 go_enter Tryz.func16, Tryz.ntmps16
 go_wp2_with (first | (with_reducible refine wpList_ldB (by first | exact F_int | exact F_u64s) wU wU (by assumption) wU ?_) | (with_reducible refine wpList_ldS (n := 4) (us := mC m ad cap) A_rmach kR wU wU (by assumption) wU wU ?_))
 refine (HSh.out _).mono ?_
 rintro e w1 ⟨rfl, b1⟩
 have hS1 := hS0.mono b1
 have q1_rm := (hS1.blk 0 rfl).1
 have q1_m := (hS1.blk 1 rfl).1
 clear hS0
 go_wp2_with (first | (with_reducible refine wpList_ldB (by first | exact F_int | exact F_u64s) wU wU (by assumption) wU ?_) | (with_reducible refine wpList_ldS (n := 4) (us := mC m ad cap) A_rmach kR wU wU (by assumption) wU wU ?_))
 refine (HM.out _ (hR.below hS1.b)).mono ?_
 rintro e w2 ⟨rfl, b2⟩
 have hS2 := hS1.mono b2
 have q2_rm := (hS2.blk 0 rfl).1
 have q2_m := (hS2.blk 1 rfl).1
 clear hS1 q1_rm q1_m
 go_wp2_with (first | (with_reducible refine wpList_ldB (by first | exact F_int | exact F_u64s) wU wU (by assumption) wU ?_) | (with_reducible refine wpList_ldS (n := 4) (us := mC m ad cap) A_rmach kR wU wU (by assumption) wU wU ?_))
 refine (HL.out _ (hL.below hS2.b)).mono ?_
 rintro e w3 ⟨rfl, b3⟩
 have hS3 := hS2.mono b3
 have q3_rm := (hS3.blk 0 rfl).1
 have q3_m := (hS3.blk 1 rfl).1
 clear hS2 q2_rm q2_m
 go_wp2_with (with_reducible refine wpList_ldB (by first | exact F_int | exact F_u64s) wU wU (by assumption) wU ?_)
 go_ret
 exact ⟨rfl, hS3.b⟩
theorem tfits_no (m : MacV) (ad al : Option Addr) (cap cl : Nat) (l : List Int) (g c : Int) (w : World) (hR : Ints w ad cap m.sw) (hL : Ints w al cl l) (h : ¬ Fits m l g c) :
  Calls Tryz.prog 16 #[mV m ad cap, .slice al l.length cl, .int .i64 g, .int .i64 c] w fun r w' => r = .returned (.bool false) ∧ Below w.heap.size w w' := by
 have hS0 := ((SL.nil w).box (.cells (mC m ad cap) 45)).box (.cells (mC m ad cap) 66)
 simp only [World.size_alloc] at hS0
 have CSh := fun w => rShort_any m ad cap al cl l.length w
 have CM := fun w h => rCheckMachine_any m ad cap w h
 have hlc := hL.le
 by_cases hs : m.sw.length ≤ 19 ∧ l.length ≤ 67
 ·rw [show (decide (m.sw.length ≤ 19) && decide (l.length ≤ 67)) = true by simp [hs]] at CSh
  have HSh := hid CSh
  clear CSh
  by_cases hg : m.gears ≤ g
  ·have dg : decide (m.gears ≤ g) = true := decide_eq_true hg
   by_cases hc : (l.length : Int) ≤ c
   ·have dc : decide ((l.length : Int) ≤ c) = true := decide_eq_true hc
    by_cases hm : macE m = 0
    ·have hok := (macE_zero hm).1
     have CL := fun w h => rCheckLoad_any m ad cap al cl l w h hok.lo hok.hi
     rw [load_chk hm] at CL
     have he : loadE m l ≠ 0 := fun e => h ⟨hs, hg, hc, e⟩
     obtain ⟨E, hE⟩ : ∃ E, E = loadE m l := ⟨_, rfl⟩
     rw [← hE] at CL he
     rw [hm] at CM
     have hne : (E == 0) = false := by simpa using he
     have HM := hid CM; have HL := hid CL
     clear CM CL hE he h hs hg hc hm hok
     go_enter Tryz.func16, Tryz.ntmps16
     go_wp2_with (first | (with_reducible refine wpList_ldB (by first | exact F_int | exact F_u64s) wU wU (by assumption) wU ?_) | (with_reducible refine wpList_ldS (n := 4) (us := mC m ad cap) A_rmach kR wU wU (by assumption) wU wU ?_))
     refine (HSh.out _).mono ?_
     rintro e w1 ⟨rfl, b1⟩
     have hS1 := hS0.mono b1
     have q1_rm := (hS1.blk 0 rfl).1
     have q1_m := (hS1.blk 1 rfl).1
     clear hS0
     go_wp2_with (first | (with_reducible refine wpList_ldB (by first | exact F_int | exact F_u64s) wU wU (by assumption) wU ?_) | (with_reducible refine wpList_ldS (n := 4) (us := mC m ad cap) A_rmach kR wU wU (by assumption) wU wU ?_))
     refine (HM.out _ (hR.below hS1.b)).mono ?_
     rintro e w2 ⟨rfl, b2⟩
     have hS2 := hS1.mono b2
     have q2_rm := (hS2.blk 0 rfl).1
     have q2_m := (hS2.blk 1 rfl).1
     clear hS1 q1_rm q1_m
     go_wp2_with (first | (with_reducible refine wpList_ldB (by first | exact F_int | exact F_u64s) wU wU (by assumption) wU ?_) | (with_reducible refine wpList_ldS (n := 4) (us := mC m ad cap) A_rmach kR wU wU (by assumption) wU wU ?_))
     refine (HL.out _ (hL.below hS2.b)).mono ?_
     rintro e w3 ⟨rfl, b3⟩
     have hS3 := hS2.mono b3
     have q3_rm := (hS3.blk 0 rfl).1
     have q3_m := (hS3.blk 1 rfl).1
     clear hS2 q2_rm q2_m
     go_wp2_with (with_reducible refine wpList_ldB (by first | exact F_int | exact F_u64s) wU wU (by assumption) wU ?_)
     go_ret
     exact ⟨rfl, hS3.b⟩
    ·obtain ⟨E, hE⟩ : ∃ E, E = macE m := ⟨_, rfl⟩
     rw [← hE] at CM hm
     have hne : (E == 0) = false := by simpa using hm
     have HM := hid CM
     clear CM hE hm h hs hg hc
     go_enter Tryz.func16, Tryz.ntmps16
     go_wp2_with (first | (with_reducible refine wpList_ldB (by first | exact F_int | exact F_u64s) wU wU (by assumption) wU ?_) | (with_reducible refine wpList_ldS (n := 4) (us := mC m ad cap) A_rmach kR wU wU (by assumption) wU wU ?_))
     refine (HSh.out _).mono ?_
     rintro e w1 ⟨rfl, b1⟩
     have hS1 := hS0.mono b1
     have q1_rm := (hS1.blk 0 rfl).1
     have q1_m := (hS1.blk 1 rfl).1
     clear hS0
     go_wp2_with (first | (with_reducible refine wpList_ldB (by first | exact F_int | exact F_u64s) wU wU (by assumption) wU ?_) | (with_reducible refine wpList_ldS (n := 4) (us := mC m ad cap) A_rmach kR wU wU (by assumption) wU wU ?_))
     refine (HM.out _ (hR.below hS1.b)).mono ?_
     rintro e w2 ⟨rfl, b2⟩
     have hS2 := hS1.mono b2
     have q2_rm := (hS2.blk 0 rfl).1
     have q2_m := (hS2.blk 1 rfl).1
     clear hS1 q1_rm q1_m
     go_wp2_with (with_reducible refine wpList_ldB (by first | exact F_int | exact F_u64s) wU wU (by assumption) wU ?_)
     go_ret
     exact ⟨rfl, hS2.b⟩
   ·have dc : decide ((l.length : Int) ≤ c) = false := decide_eq_false hc
    clear CM h hs hg hc
    go_enter Tryz.func16, Tryz.ntmps16
    go_wp2_with (first | (with_reducible refine wpList_ldB (by first | exact F_int | exact F_u64s) wU wU (by assumption) wU ?_) | (with_reducible refine wpList_ldS (n := 4) (us := mC m ad cap) A_rmach kR wU wU (by assumption) wU wU ?_))
    refine (HSh.out _).mono ?_
    rintro e w1 ⟨rfl, b1⟩
    have hS1 := hS0.mono b1
    have q1_rm := (hS1.blk 0 rfl).1
    have q1_m := (hS1.blk 1 rfl).1
    clear hS0
    go_wp2_with (with_reducible refine wpList_ldB (by first | exact F_int | exact F_u64s) wU wU (by assumption) wU ?_)
    go_ret
    exact ⟨rfl, hS1.b⟩
  ·have dg : decide (m.gears ≤ g) = false := decide_eq_false hg
   clear CM h hs hg
   go_enter Tryz.func16, Tryz.ntmps16
   go_wp2_with (first | (with_reducible refine wpList_ldB (by first | exact F_int | exact F_u64s) wU wU (by assumption) wU ?_) | (with_reducible refine wpList_ldS (n := 4) (us := mC m ad cap) A_rmach kR wU wU (by assumption) wU wU ?_))
   refine (HSh.out _).mono ?_
   rintro e w1 ⟨rfl, b1⟩
   have hS1 := hS0.mono b1
   have q1_rm := (hS1.blk 0 rfl).1
   have q1_m := (hS1.blk 1 rfl).1
   clear hS0
   go_wp2_with (with_reducible refine wpList_ldB (by first | exact F_int | exact F_u64s) wU wU (by assumption) wU ?_)
   go_ret
   exact ⟨rfl, hS1.b⟩
 ·rw [show (decide (m.sw.length ≤ 19) && decide (l.length ≤ 67)) = false by
   rcases Nat.lt_or_ge 19 m.sw.length with h1 | h1
   ·rw [decide_eq_false (by omega)]; rfl
   ·rw [decide_eq_true h1, decide_eq_false (by omega)]; rfl] at CSh
  have HSh := hid CSh
  clear CSh CM h hs
  go_enter Tryz.func16, Tryz.ntmps16
  go_wp2_with (first | (with_reducible refine wpList_ldB (by first | exact F_int | exact F_u64s) wU wU (by assumption) wU ?_) | (with_reducible refine wpList_ldS (n := 4) (us := mC m ad cap) A_rmach kR wU wU (by assumption) wU wU ?_))
  refine (HSh.out _).mono ?_
  rintro e w1 ⟨rfl, b1⟩
  have hS1 := hS0.mono b1
  have q1_rm := (hS1.blk 0 rfl).1
  have q1_m := (hS1.blk 1 rfl).1
  clear hS0
  go_wp2_with (with_reducible refine wpList_ldB (by first | exact F_int | exact F_u64s) wU wU (by assumption) wU ?_)
  go_ret
  exact ⟨rfl, hS1.b⟩
end Go.Proofs.YtddkdgodgflmlaaGreatDoor

namespace Go.Proofs.YtddkdgodgflmlaaGreatDoor
set_option maxRecDepth 100000
theorem meet_none_iff {m : MacV} {a b : Int} : meetM m a b = none ↔ ∀ k, hitM m (itM m a k) (itM m b k) = false := by
 have hs := meetM_spec m a b
 constructor
 ·intro h; rw [h] at hs; exact hs
 ·intro h
  cases hm : meetM m a b with
  | none => rfl
  | some v => rw [hm] at hs; have := h v.1; rw [hs.1] at this; cases this
theorem meet_symm {m : MacV} {a b : Int} : meetM m a b = none ↔ meetM m b a = none := by
 rw [meet_none_iff, meet_none_iff]
 constructor
 ·intro h k; rw [hitM_symm]; exact h k
 ·intro h k; rw [hitM_symm]; exact h k
/-- no two ever meet. -/
def AllA (m : MacV) (l : List Int) : Prop := ∀ x ∈ l, ∀ y ∈ l, x ≠ y → meetM m x y = none
theorem at_memI {l : List Int} {i : Nat} (h : i < l.length) : atD 0 l i ∈ l := by
 have e : atD 0 l (i : Int) = l[i] := by simp [atD, h]
 rw [e]; exact List.getElem_mem h
theorem first_all {m : MacV} {l : List Int} (hn : l.Nodup) : firstM m l = none ↔ AllA m l := by
 obtain ⟨s1, s2⟩ := foldF_spec m (pairsTo l l.length) none
 constructor
 ·intro h x hx y hy hxy
  have k := (s1 h).2
  obtain ⟨i, hi, rfl⟩ := List.mem_iff_getElem.1 hx
  obtain ⟨j, hj, rfl⟩ := List.mem_iff_getElem.1 hy
  have ei : atD 0 l (i : Int) = l[i] := by simp [atD, hi]
  have ej : atD 0 l (j : Int) = l[j] := by simp [atD, hj]
  rcases Nat.lt_trichotomy j i with hl | hl | hl
  ·have := k _ ((pairsTo_mem (Nat.le_refl _)).2 ⟨i, j, hl, hi, rfl⟩)
   rw [ei, ej] at this; exact this
  ·subst hl; exact absurd rfl hxy
  ·have := k _ ((pairsTo_mem (Nat.le_refl _)).2 ⟨j, i, hl, hj, rfl⟩)
   rw [ei, ej] at this; exact meet_symm.1 this
 ·intro h
  cases hf : firstM m l with
  | none => rfl
  | some v =>
   obtain ⟨_, _, k3⟩ := s2 v hf
   rcases k3 with k3 | ⟨p, hp, e⟩
   ·cases k3
   ·obtain ⟨i, j, hji, hi, rfl⟩ := (pairsTo_mem (Nat.le_refl _)).1 hp
    have hne : atD 0 l (i : Int) ≠ atD 0 l (j : Int) := fun e2 => nodup_ne hn hji hi e2.symm
    rw [h _ (at_memI hi) _ (at_memI (by omega)) hne] at e
    cases e
theorem apart_iff {m : MacV} {s : Int} {l : List Int} : apartM m s l = true ↔ ∀ b ∈ l, b ≠ s ∧ meetM m s b = none := by
 unfold apartM hurtM
 simp only [Bool.not_eq_true', List.any_eq_false, Bool.or_eq_true, decide_eq_true_eq, not_or]
 constructor
 ·intro h b hb
  obtain ⟨h1, h2⟩ := h b hb
  exact ⟨h1, by simpa using h2⟩
 ·intro h b hb
  obtain ⟨h1, h2⟩ := h b hb
  exact ⟨h1, by simp [h2]⟩
theorem all_snoc {m : MacV} {s : Int} {l : List Int} (hs : s ∉ l) : AllA m (l ++ [s]) ↔ AllA m l ∧ apartM m s l = true := by
 rw [apart_iff]
 constructor
 ·intro h
  refine ⟨fun x hx y hy => h x (by simp [hx]) y (by simp [hy]), fun b hb => ?_⟩
  have hne : b ≠ s := fun e => hs (e ▸ hb)
  exact ⟨hne, h s (by simp) b (by simp [hb]) (fun e => hne e.symm)⟩
 ·rintro ⟨h1, h2⟩ x hx y hy hxy
  rcases List.mem_append.1 hx with hx2 | hx2
  ·rcases List.mem_append.1 hy with hy | hy
   ·exact h1 x hx2 y hy hxy
   ·simp only [List.mem_singleton] at hy; subst hy; exact meet_symm.1 (h2 x hx2).2
  ·simp only [List.mem_singleton] at hx2; subst hx2
   rcases List.mem_append.1 hy with hy | hy
   ·exact (h2 y hy).2
   ·simp at hy; exact absurd hy.symm hxy
structure GoodL (m : MacV) (l : List Int) (s : Int) : Prop where
 all : AllA m l
 asc : l.Pairwise (· < ·)
 rng : ∀ x ∈ l, 0 ≤ x ∧ x < s
theorem GoodL.mono {m : MacV} {l : List Int} {s t : Int} (h : GoodL m l s) (hst : s ≤ t) : GoodL m l t := ⟨h.all, h.asc, fun x hx => by have := h.rng x hx; omega⟩
theorem snoc_load {m : MacV} {l : List Int} {s : Int} (h : LoadOk m l) (h0 : 0 ≤ s) (h1 : s < 4 * m.gears) (hs : s ∉ l) : loadE m (l ++ [s]) = 0 := by
 refine loadE_ok h.mac (fun x hx => ?_) ?_
 ·rcases List.mem_append.1 hx with hx | hx
  ·exact h.rng x hx
  ·simp at hx; subst hx; exact ⟨h0, h1⟩
 ·rw [List.nodup_append]
  refine ⟨h.nodup, by simp, fun a ha b hb e => ?_⟩
  simp at hb; subst hb; subst e; exact hs ha
/-- one carrier more. -/
theorem acc_snoc {m : MacV} {l : List Int} {s : Int} (h : LoadOk m l) (hf : firstM m l = none) (h0 : 0 ≤ s) (h1 : s < 4 * m.gears) (hs : s ∉ l) : accE m (l ++ [s]) = if apartM m s l then 0 else 16 := by
 have hz := snoc_load h h0 h1 hs
 have hok := loadE_zero hz
 unfold accE
 rw [if_neg (by simp [hz])]
 have hA := (first_all h.nodup).1 hf
 by_cases ha : apartM m s l = true
 ·rw [if_pos ha, (first_all hok.nodup).2 ((all_snoc hs).2 ⟨hA, ha⟩)]; rfl
 ·rw [if_neg ha]
  cases hq : firstM m (l ++ [s]) with
  | none => exact absurd ((all_snoc hs).1 ((first_all hok.nodup).1 hq)).2 ha
  | some v => rfl
theorem apart_out {m : MacV} {s : Int} {l : List Int} (h : apartM m s l = true) : s ∉ l := fun hm => ((apart_iff.1 h) s hm).1 rfl
end Go.Proofs.YtddkdgodgflmlaaGreatDoor
