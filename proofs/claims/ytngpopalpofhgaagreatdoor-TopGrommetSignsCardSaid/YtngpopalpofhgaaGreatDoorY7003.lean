/- Contracts and plain facts that the claim uses (OpC LwA LmA RPA CnA AwN TuP RmP ShP PtP KnQ Gs1 Gs). Conditions: as each one states. -/
import Derived.Test.YtngpopalpofhgaaGreatDoorProg
import Derived.WalkKit
import Derived.WalkSpells
import Derived.Maps.AppendAt
import Derived.Deep.Quiet
import Derived.Maps.Own
import Derived.Maps.OwnSet
import Derived.Maps.Views
import Derived.WalkLawsBesides
import Derived.Laws.EntriesVeiled
import Derived.ReadAgain
import Derived.ChangeSlices
import Derived.Lib.SmallJoins
import Derived.OpenShut
import Derived.ProofKit
import Derived.Deep.DeepHandedRow
import Derived.Deep.SlicePairs
import Derived.Deep.QuietTactic
import Derived.BigQuiet
import Derived.Lib.OthersKept
import Derived.Test.YtngpopalpofhgaaGreatDoorCards
import Derived.Test.YtngpopalpofhgaaGreatDoorTie
import Derived.RangeFuncNested
import Derived.RangeFuncBound
import Derived.RangeFuncCalls
import Derived.RangeFuncLeaves
import Derived.RangeFuncFrom
import Derived.Shelf.Abstract
import Derived.Shelf.RegionOpen
import Derived.OwnWalkIn
import Derived.TacticsInMore
import Derived.LoopNIn
import Derived.LoopIn
import Derived.StillTail
import Derived.Laws.Tables
import Derived.Deep.RegionHeld3
import Derived.Shelf.Strings.Trim
import Derived.Shelf.Strings.SlTrimAscii
import Derived.Shelf.Strings.Repeat
import Derived.Shelf.Strings.OnBuilder
import Derived.Shelf.Strconv.Itoa1
import Derived.Shelf.Strconv.Itoa3
import Derived.Shelf.LaysM
import Derived.Ground.Names2Prog
import Derived.Deep.AppendLies
import Derived.Deep.RegionHeldLaw
import Derived.Deep.RegionLaw
import Derived.IntWalk
import Derived.Laws.CopyOwn
import Derived.BigRegion
import Derived.ChangeAlike
import Derived.Shelf.Bits.Mul64
import Derived.Lib.ItoaLen
import Derived.Lib.ItoaMem
import Derived.Sort.LoopGhostIn
import Derived.Maps.RangeWalk
import Derived.Sort.QuietThIn
import Derived.Maps.Ext
import Derived.Laws.IdiomStrings
import Derived.Deep.LoopGhost
import Derived.Lib.Split
import Derived.Lib.AtoiAll
import Derived.Lib.AppendIntMem
import Derived.LaidSub
import Derived.Lib.LaidTab
import Derived.Lib.AtoiErrMem
import Derived.Stop.LaidErr
import Derived.Test.YtngpopalpofhgaaGreatDoorXz01
import Derived.Test.YtngpopalpofhgaaGreatDoorXz02
import Derived.Test.YtngpopalpofhgaaGreatDoorXz03
import Derived.Test.YtngpopalpofhgaaGreatDoorXz04
import Derived.Test.YtngpopalpofhgaaGreatDoorXz05
import Derived.Test.YtngpopalpofhgaaGreatDoorXz06
import Derived.Test.YtngpopalpofhgaaGreatDoorXz07
import Derived.Test.YtngpopalpofhgaaGreatDoorXz08
import Derived.Test.YtngpopalpofhgaaGreatDoorXz09
import Derived.Test.YtngpopalpofhgaaGreatDoorY7001
import Derived.Test.YtngpopalpofhgaaGreatDoorY7002
set_option linter.all false

namespace Go.Proofs.YtngpopalpofhgaaGreatDoor
open Go.RowKit Go.ChangeShapes Go.WideShapes Go.ChangeAt
set_option maxRecDepth 100000

theorem kidsP : Kids Tryz.prog (· < Tryz.prog.types.size) := kids_rows kR kR
theorem fullP : ∀ t e, t < Tryz.prog.types.size → Tryz.prog.underlying t = some (.slice e) → 0 < Tryz.prog.cellsOf e := slices_full_of Tryz.prog kR

section
variable {H : Type} {enc : TypeId × Value → H} {P : Program} {W W' : World}
theorem trodAll_carryW {base : Nat} {sp : Nat → Bool} {held : Bool} : ∀ {ts : List TypeId} {vs : List Value} {ds : List (DataW H)} {ps : List MemPlace}, DataW.TrodAll enc P W base sp held ts vs ds ps → (∀ p ∈ ps, W.sameAt W' p) → DataW.TrodAll enc P W' base sp held ts vs ds ps
 | [], [], [], _, h, _ => h
 | _ :: _, _ :: _, _ :: _, _, ⟨p, q, ⟨n, h1⟩, h2, e⟩, hs => ⟨p, q, ⟨n, DataW.trod_carry n _ _ _ h1 (fun x hx => hs x (by rw [e]; exact List.mem_append_left _ hx))⟩, trodAll_carryW h2 (fun x hx => hs x (by rw [e]; exact List.mem_append_right _ hx)), e⟩
theorem sameAt_below (hb : Below W.heap.size W W') {p : MemPlace} (h : p.block < W.heap.size) : W.sameAt W' p := by
 cases p with
 | cell b off => exact (hb.cell (p := ⟨b, off, none⟩) h)
 | map b => exact hb.block b h
theorem kept_below (hb : Below W.heap.size W W') (may : MemPlace → Prop) : W.keptBut W' may := by
 refine ⟨hb.os, hb.output, fun i hi => ?_⟩
 rw [hb.block i hi]
 cases h : W.heap[i]? with
 | none => rfl
 | some o =>
  cases o with
  | cells c t fr => exact ⟨rfl, rfl, rfl, fun _ _ => rfl⟩
  | map es clock => exact .inr ⟨rfl, rfl⟩
  | _ => rfl
/-- a law that returns true and turns nothing that was there. -/
theorem law_post {f : Func} {s : ChangeSpec} {args : Array Value} {ds gs : List (DataW H)} {before : List MemPlace} (hv : s.vars = []) (hr : f.resultTypes = #[4]) (hp : ∀ t ∈ f.params.toList, t < Tryz.prog.types.size)
   (hs : (s.fn H ds).results = [.lit (.bool true)] ∧ (s.fn H ds).args = ds ∧ (s.fn H ds).vars = [])
   (hW : DataW.Whole enc Tryz.prog f.params.toList s.vars false W args.toList ds gs before) (hb : Below W.heap.size W W') : s.post enc Tryz.prog f false true false false W args (.bool true) W' := by
 have hlt := hW.lt
 have hW' := hW
 obtain ⟨p, q, hA, hV, rfl, hfz, _⟩ := hW
 rw [hv] at hV
 have hgs : gs = [] ∧ q = [] := by
  cases gs with
  | nil => exact ⟨rfl, hV⟩
  | cons g gs => exact absurd hV id
 obtain ⟨rfl, rfl⟩ := hgs
 simp only [List.append_nil] at hlt hW' ⊢
 have hsame : ∀ p' ∈ p, W.sameAt W' p' := fun p' hp' => sameAt_below hb (hlt p' hp')
 refine ⟨ds, [], p, [], p, [], hW', ?_, ?_, ?_, kept_below hb _, fun h => by cases h⟩
 ·rw [List.append_nil, hs.1, hr]
  exact trodAll_cons_mk (shut_bool Tryz.underlying4 _) trodAll_mk0
 ·rw [List.append_nil, hs.2.1]
  exact DataW.TrodAll.respare kidsP fullP hp (trodAll_carryW hA hsame) (fun p' hp' => by simpa using hlt p' hp')
 ·rw [List.append_nil, hs.2.2, hv]
  rfl
end
end Go.Proofs.YtngpopalpofhgaaGreatDoor

namespace Go.Proofs.YtngpopalpofhgaaGreatDoor
open Go.RowKit Go.ChangeShapes Go.WideShapes Go.ChangeAt Go.Joins Go.Deep
set_option maxRecDepth 100000
theorem cellsInt : Tryz.prog.cellsOf 3 = 1 := by kernel_rfl
theorem inI_wf {x : Int} (h : (Lit.int .i64 x).wf = true) : InI x := by
 simp [Lit.wf, IntKind.min, IntKind.max, IntKind.bits, IntKind.signed] at h
 unfold InI
 omega
section
variable {H : Type} {enc : TypeId × Value → H} {W : World}
theorem ints_of_cells {a : Addr} {zs : List Int} {len cap : Nat} (hl : len ≤ cap) (hm : cap ≤ maxLen) (hz : len ≤ zs.length) (hc : ∀ i, i < zs.length → W.cell? (a.add i) = some (.int .i64 (zs.getD i 0))) : Ints W (some a) cap (zs.take len) := by
 have hlen : (zs.take len).length = len := by simp; omega
 refine ⟨cIntS, by rw [hlen]; exact hl, hm, fun h => (by cases h), fun j u hj => ?_⟩
 have hfm : ((zs.take len).flatMap fun x => (cInt x).cells.toList) = (zs.take len).map fun x => Value.int .i64 x := by
  generalize zs.take len = l
  induction l with
  | nil => rfl
  | cons x r ih => rw [List.flatMap_cons, ih]; rfl
 rw [hfm, List.getElem?_map] at hj
 have hjl : j < len := by
  obtain ⟨x, hx, _⟩ := Option.map_eq_some_iff.1 hj
  have := (List.getElem?_eq_some_iff.1 hx).1
  simp at this; omega
 have h0 := hc 0 (by omega)
 have hsp : a.spot = none := by
  unfold World.cell? Addr.add at h0
  simp only [if_pos] at h0
  split at h0
  ·split at h0
   ·cases h0
   ·next h => simpa using h
  ·cases h0
 refine ⟨a.block, a.off, by rw [← hsp], ?_⟩
 have hj0 := hc j (by omega)
 have e : a.add j = ⟨a.block, a.off + j, none⟩ := by
  unfold Addr.add
  split
  ·next h => subst h; rw [← hsp]; rfl
  ·rfl
 rw [e] at hj0
 rw [hj0, ← hj]
 have h2 : j < zs.length := by omega
 simp [List.getElem?_take, hjl, h2]
theorem open_intsA {r : Reach} {b0 : Nat} {v : Value} {d : DataW H} {ps : List MemPlace} (hval : Value.okWide Tryz.prog W r b0 22 v) (h : DataW.Trod enc Tryz.prog W 0 (fun _ => true) true 22 v d ps) : ∃ a cap l, v = .slice a l.length cap ∧ Ints W a cap l ∧ ∀ x ∈ l, InI x := by
 obtain ⟨a0, len, cap, rfl⟩ := okWide_slice Tryz.underlying22 hval
 obtain ⟨fuel, hf⟩ := h
 rcases open_ints Tryz.underlying22 Tryz.underlying3 cellsInt hf with ⟨hcs, _⟩ | ⟨a, len', cap', zs, hcs, _, hl, hm, hz, _, hcell, hwz⟩
 ·simp [Value.cells] at hcs
  obtain ⟨rfl, rfl, rfl⟩ := hcs
  exact ⟨_, _, [], rfl, ints_nil W, fun x hx => by cases hx⟩
 ·simp [Value.cells] at hcs
  obtain ⟨rfl, rfl, rfl⟩ := hcs
  simp only [if_true] at hz
  have hlen : (zs.take len).length = len := by simp; omega
  refine ⟨some a, cap, zs.take len, by rw [hlen], ints_of_cells hl hm (by omega) hcell, fun x hx => ?_⟩
  exact inI_wf (hwz x (List.mem_of_mem_take hx))
theorem open_intA {r : Reach} {b0 : Nat} {v : Value} {d : DataW H} {ps : List MemPlace} (hval : Value.okWide Tryz.prog W r b0 3 v) (h : DataW.Trod enc Tryz.prog W 0 (fun _ => true) true 3 v d ps) : ∃ x : Int, v = .int .i64 x ∧ InI x := by
 obtain ⟨y, rfl⟩ := okWide_int Tryz.underlying3 hval
 obtain ⟨n, hn⟩ := h
 obtain ⟨x, e, _, w0⟩ := DataW.trod_int Tryz.underlying3 hn
 simp [Value.cells] at e
 subst e
 exact ⟨y, rfl, inI_wf w0⟩
end
end Go.Proofs.YtngpopalpofhgaaGreatDoor

namespace Go.Proofs.YtngpopalpofhgaaGreatDoor
open Go.RowKit Go.ChangeShapes Go.WideShapes Go.ChangeAt Go.Joins Go.Deep
set_option maxRecDepth 100000

section
variable {H : Type} {enc : TypeId × Value → H} {W : World}
end
end Go.Proofs.YtngpopalpofhgaaGreatDoor

namespace Go.Proofs.YtngpopalpofhgaaGreatDoor
open Go.RowKit Go.ChangeShapes Go.WideShapes Go.ChangeAt Go.Joins Go.Deep
set_option maxRecDepth 100000

section
variable {H : Type} {enc : TypeId × Value → H} {W : World}
end
end Go.Proofs.YtngpopalpofhgaaGreatDoor

namespace Go.Proofs.YtngpopalpofhgaaGreatDoor
open Go.ChangeShapes Go.WideShapes Go.ChangeAt Go.RowKit
set_option maxRecDepth 100000
theorem ownP : ownKnob Tryz.prog.godebug = none := by kernel_rfl
/-- a table's cells. -/
def flatD : Nat → DataW Unit → List Value
 | 0, _ => []
 | _ + 1, .lit (.int k v) => [.int k v]
 | n + 1, .agg l => l.flatMap (flatD n)
 | _, _ => []
def layAt (d : DataW Unit) : Obj → Obj
 | .cells _ t fr => .cells (flatD 4 d).toArray t fr
 | o => o
noncomputable def laidWorld (os : Os) : World :=
 { World.holding Tryz.prog os ⟨#[], #[], []⟩ with heap := (((((World.holding Tryz.prog os ⟨#[], #[], []⟩).heap.modify 6 (layAt Rows.laid_math_bits_deBruijn32tab)).modify 7 (layAt Rows.laid_math_bits_deBruijn64tab)).modify 5 (layAt Rows.laid_internal_strconv_uint64pow10)).modify 2 (layAt Rows.laid_unicode_utf8_acceptRanges)).modify 1 (layAt Rows.laid_unicode_utf8_first) }
end Go.Proofs.YtngpopalpofhgaaGreatDoor

namespace Go.Proofs.YtngpopalpofhgaaGreatDoor
open Go.ChangeShapes Go.WideShapes Go.ChangeAt Go.RowKit
set_option maxRecDepth 100000
theorem g1 : (laidOutB Tryz.prog) = true := by kernel_rfl
theorem g2 : (mapsRowed Tryz.prog) = true := by kernel_rfl
theorem g6 : ((Tryz.prog.stops == [])) = true := by kernel_rfl
theorem g8 : ((Tryz.prog.stopKnobs == [])) = true := by kernel_rfl
theorem g24 : (Tryz.prog.stopsHeard) = true := by kernel_rfl
theorem g25 : (Tryz.prog.mayEnter) = true := by kernel_rfl
end Go.Proofs.YtngpopalpofhgaaGreatDoor

namespace Go.Proofs.YtngpopalpofhgaaGreatDoor
open Go.RowKit
set_option maxHeartbeats 4000000
set_option maxRecDepth 100000
section
variable {P : Program} {ops : Array Oper} {rest : List Oper} {a : Act} {Qa : Act → Prop} {α : Type} {c : α → Value} {sz bytes : Nat} {t e e2 t2 : TypeId} {z : Value} {ad : Option Addr} {cap : Nat} {l : List α} {k : Int} {w : World}
 {d1 d2 d3 : Tmp} {ty1 ty2 ty3 : TypeId} {p1 p2 p3 : String} {s x : Operand} {af1 af2 af3 : Array Edge} {g1 g2 g3 : Option (Nat × Bool)} {j : Nat}
theorem wpB_fldG (d : α) (v : Value) (E : ETy P t e z sz bytes) (hF : Flat P e2)
   (hf : ∀ (b o : Nat) (w' : World), (Instr.fieldAt t2 (.pointer (some ⟨b, o, none⟩)) j).run P w' = .ok (.pointer (some ⟨b, o + j, none⟩)) w')
   {n : Nat} (hs : a.eval s = .slice ad n cap) (hn : l.length = n) (hx : a.eval x = .int .i64 k) (hR : Reps c sz w ad cap l) (h0 : 0 ≤ k) (hlt : k < l.length)
   (hv : (c (atD d l k)).cells.toList[j]? = some v) (hd : ∀ p, (a.put (some d1) p).eval (.tmp d1) = p) (hd2 : ∀ p q, ((a.put (some d1) p).put (some d2) q).eval (.tmp d2) = q)
   (hw1 : Region.wanted ⟨some d1, .indexAddr t s x, ty1, p1, af1, g1⟩ (yielded ops a.tmps) = true) (hw2 : ∀ p, Region.wanted ⟨some d2, .fieldAddr t2 (.tmp d1) j, ty2, p2, af2, g2⟩ (yielded ops (a.put (some d1) p).tmps) = true)
   (hw3 : ∀ p q, Region.wanted ⟨some d3, .load e2 (.tmp d2), ty3, p3, af3, g3⟩ (yielded ops ((a.put (some d1) p).put (some d2) q).tmps) = true)
   (hK : ∀ p q, wpQuiet P ops (Below w.heap.size w) Qa rest (((a.put (some d1) p).put (some d2) q).put (some d3) v)) :
   wpQuiet P ops (Below w.heap.size w) Qa (⟨some d1, .indexAddr t s x, ty1, p1, af1, g1⟩ :: ⟨some d2, .fieldAddr t2 (.tmp d1) j, ty2, p2, af2, g2⟩ :: ⟨some d3, .load e2 (.tmp d2), ty3, p3, af3, g3⟩ :: rest) a := by
 subst hn
 have hkl : k.toNat < l.length := by omega
 obtain ⟨b, o, rfl, hcs⟩ := hR.cells E.pos d k.toNat hkl
 have hcell := hcs j v hv
 have hadd : (⟨b, o, none⟩ : Addr).add (k.toNat * sz) = ⟨b, o + k.toNat * sz, none⟩ := Addr.add_z ..
 refine wpQ_inG (.pointer (some ((⟨b, o, none⟩ : Addr).add (k.toNat * sz)))) hw1 (fun w' hw' => ?_) (wpQ_inG (.pointer (some ⟨b, o + k.toNat * sz + j, none⟩)) (hw2 _) (fun w' hw' => ?_) (wpQ_inG v (hw3 _ _) (fun w' hw' => ?_) (hK _ _)))
 ·have h1 := run_indexAt_sl (P := P) (a := ⟨b, o, none⟩) (cap := cap) w' E h0 hlt
  simp [execOp, hs, hx, h1, Result.andThen]
 ·have h1 := hf b (o + k.toNat * sz) w'
  rw [← hadd] at h1
  simp [execOp, hd, h1, Result.andThen]
 ·have h2 := run_loadAt_cell (P := P) w' (a := (⟨b, o + k.toNat * sz + j, none⟩ : Addr)) (v := v) hF ((hw'.cell (World.block_lt_of_cell? w _ hcell)).trans hcell)
  simp [execOp, hd2, h2, Result.andThen]
end
def fewB (n : Int) (l : List Int) : Bool := decide (n ≤ 6) && (decide ((l.length : Int) ≤ 12) && (wordE n l == 0))
theorem few_iff {n : Int} {l : List Int} : fewB n l = true ↔ n ≤ 6 ∧ l.length ≤ 12 ∧ wordE n l = 0 := by
 unfold fewB
 rw [Bool.and_eq_true, Bool.and_eq_true, decide_eq_true_eq, decide_eq_true_eq, beq_iff_eq]
 omega
theorem rFew_any (n : Int) (a : Option Addr) (cap : Nat) (l : List Int) (w : World) (hS : Ints w a cap l) :
  Calls Tryz.prog 7 #[.int .i64 n, .slice a l.length cap, .int .i64 6, .int .i64 12] w fun r w' => r = .returned (.bool (fewB n l)) ∧ Below w.heap.size w w' := by
 have hcap := hS.le
 have hm := hS.max
 have HC := hid (fun w (hS : Ints w a cap l) => rCheckWord_any n a cap l w hS)
 by_cases h1 : n ≤ 6
 ·by_cases h2 : (l.length : Int) ≤ 12
  ·have e : fewB n l = (wordE n l == 0) := by unfold fewB; rw [decide_eq_true h1, decide_eq_true h2]; rfl
   rw [e]
   obtain ⟨E, hE⟩ : ∃ E, E = wordE n l := ⟨_, rfl⟩
   rw [← hE] at HC ⊢
   clear e hE
   go_enter Tryz.func7, Tryz.ntmps7
   go_wp2_with fail
   refine (HC.out _ hS).mono ?_
   rintro e w1 ⟨rfl, b1⟩
   go_wp2_with fail
   go_ret
   exact ⟨rfl, b1⟩
  ·have e : fewB n l = false := by unfold fewB; rw [decide_eq_false h2]; simp
   rw [e]
   clear e
   go_enter Tryz.func7, Tryz.ntmps7
   go_wp2_with fail
   go_ret
   exact ⟨rfl, Below.refl _ _⟩
 ·have e : fewB n l = false := by unfold fewB; rw [decide_eq_false h1]; simp
  rw [e]
  clear e
  go_enter Tryz.func7, Tryz.ntmps7
  go_wp2_with fail
  go_ret
  exact ⟨rfl, Below.refl _ _⟩
/-- an owned matrix, read later: its handles lead to its rows. -/
theorem mx_leads {B : Nat} {w0 w : World} {v : Value} {H : List SlH} {M : List (List Int)} {n : Nat} (h : SL B w0 w ([pOwn cSl 1 22 v H] ++ (mxQ H M).map inP)) (hH : H.length = n) (hM : Mx n M) (hn : n ≤ 1048576) :
  ∃ a c, v = .slice a n c ∧ Reps cSl 1 w a c H ∧ LeadsTo w H M := by
 obtain ⟨a, c, e, hR⟩ := h.slice 0 rfl
 rw [hH] at e
 refine ⟨a, c, e, hR, fun k hk => ?_⟩
 rw [hM.len] at hk
 obtain ⟨g, c', e2, hr, -⟩ := mx_row (pre := [_]) h hH hM (a := (k : Int)) (by omega) (by omega)
 have e3 : M.getD ((k : Int)).toNat [] = atD [] M (k : Int) := rfl
 rw [e3] at hr
 have e4 : (atD [] M (k : Int)).length = n := by rw [← e3]; exact mx_getD hM (by omega)
 exact ⟨some ⟨g, 0, none⟩, c', by rw [e2, e4], hr, by omega⟩
/-- the sums of the signs, one crossing more. -/
theorem sumGo_snoc : ∀ (cs : List (Int × Int)) (ws : List Int) (M : List (List Int)) (c : Int × Int) (x : Int), cs.length = ws.length → sumGo M (cs ++ [c]) (ws ++ [x]) = addM (sumGo M cs ws) (c.1 - 1) (c.2 - 1) (sgnI x)
 | [], [], M, c, x, _ => rfl
 | [], _ :: _, _, _, _, h => by simp at h
 | _ :: _, [], _, _, _, h => by simp at h
 | c0 :: cs, x0 :: ws, M, c, x, h => by
   rw [List.cons_append, List.cons_append, sumGo, sumGo]
   exact sumGo_snoc cs ws _ c x (by simpa using h)
theorem sumGo_take {cs : List (Int × Int)} {ws : List Int} (M : List (List Int)) (hl : cs.length = ws.length) {j : Nat} (h : j < ws.length) :
  sumGo M (cs.take (j + 1)) (ws.take (j + 1)) = addM (sumGo M (cs.take j) (ws.take j)) ((atD (0, 0) cs j).1 - 1) ((atD (0, 0) cs j).2 - 1) (sgnI (atD 0 ws j)) := by
 have e1 : ws.take (j + 1) = ws.take j ++ [atD 0 ws j] := by rw [List.take_succ_eq_append_getElem h]; simp [atD, h]
 have h2 : j < cs.length := by omega
 have e2 : cs.take (j + 1) = cs.take j ++ [atD (0, 0) cs j] := by rw [List.take_succ_eq_append_getElem h2]; simp [atD, h2]
 rw [e1, e2, sumGo_snoc _ _ _ _ _ (by simp; omega)]
theorem sumGo_ok {n : Nat} : ∀ (cs : List (Int × Int)) (ws : List Int) (M : List (List Int)) (c : Int), (∀ p ∈ cs, (1 ≤ p.1 ∧ p.1 ≤ n) ∧ (1 ≤ p.2 ∧ p.2 ≤ n)) → Mx n M → MxB M c → Mx n (sumGo M cs ws) ∧ MxB (sumGo M cs ws) (c + 2 * cs.length)
 | [], ws, M, c, _, h1, h2 => by cases ws <;> exact ⟨h1, by simpa [sumGo] using h2⟩
 | p :: cs, [], M, c, _, h1, h2 => by
   refine ⟨h1, fun a b => ?_⟩
   have := h2 a b
   simp only [sumGo]
   rw [List.length_cons]
   omega
 | p :: cs, x :: ws, M, c, hp, h1, h2 => by
   obtain ⟨ha, hb⟩ := hp p (by simp)
   rw [sumGo]
   have h3 := addM_mx h1 (a := p.1 - 1) (b := p.2 - 1) (by omega) (by omega) (sgnI x)
   have h4 := addE_b (addE_b h2 (p.1 - 1) (p.2 - 1) (sgnI_b x)) (p.2 - 1) (p.1 - 1) (sgnI_b x)
   obtain ⟨h5, h6⟩ := sumGo_ok cs ws _ (c + 1 + 1) (fun q hq => hp q (by simp [hq])) h3 h4
   refine ⟨h5, ?_⟩
   rw [List.length_cons]
   have : c + 2 * ((cs.length + 1 : Nat) : Int) = c + 1 + 1 + 2 * (cs.length : Int) := by omega
   rw [this]
   exact h6
end Go.Proofs.YtngpopalpofhgaaGreatDoor

namespace Go.Proofs.YtngpopalpofhgaaGreatDoor
open Go.RowKit
set_option maxHeartbeats 2000000
set_option maxRecDepth 100000

theorem trimS_all {l cs : List UInt8} (h : ∀ x ∈ l, cs.contains x = true) : Lib.trimS l cs = [] := by
 have e : Lib.trimRightS l cs = [] := by
  have := Lib.trimRightS_take l cs 0 (Nat.zero_le _) (fun j b _ hb => h b (List.mem_of_getElem? hb)) (fun b hb _ => by omega)
  simpa using this
 unfold Lib.trimS
 rw [e]
 rfl
theorem trimOU_all {s : ByteArray} (h : ∀ k, k < s.size → byteAt s k = 111 ∨ byteAt s k = 117) : trimOU s = ⟨#[]⟩ := by
 unfold trimOU
 rw [trimS_all]
 intro x hx
 obtain ⟨i, hi, rfl⟩ := List.getElem_of_mem hx
 have hi2 : i < s.size := by simpa using hi
 have := h i hi2
 rw [byteAt_in hi2, ByteArray.getElem_eq_getElem_data] at this
 simp
 rcases this with h | h
 ·left; exact UInt8.toNat_inj.1 (show _ = 111 by omega)
 ·right; exact UInt8.toNat_inj.1 (show _ = 117 by omega)

end Go.Proofs.YtngpopalpofhgaaGreatDoor

namespace Go.Proofs.YtngpopalpofhgaaGreatDoor
open Go.RowKit
set_option maxHeartbeats 2000000
set_option maxRecDepth 100000

end Go.Proofs.YtngpopalpofhgaaGreatDoor

namespace Go.Proofs.YtngpopalpofhgaaGreatDoor
open Go.RowKit
set_option maxHeartbeats 2000000
set_option maxRecDepth 100000

end Go.Proofs.YtngpopalpofhgaaGreatDoor

namespace Go.Proofs.YtngpopalpofhgaaGreatDoor
open Go.RowKit
section
variable {P : Program} {ops : Array Oper} {w : World} {a : Act} {ty : TypeId} {p : String} {af : Array Edge} {g : Option (Nat × Bool)} {d : Tmp}
end

end Go.Proofs.YtngpopalpofhgaaGreatDoor

namespace Go.Proofs.YtngpopalpofhgaaGreatDoor

theorem runGo_spec (l : List Int) (b : Int) : ∀ (f k : Nat), (∀ j : Nat, j < k → absI (atD 0 l j) = absI (atD 0 l 0) + b * j) → ∀ j : Nat, j < runGo l b k f → absI (atD 0 l j) = absI (atD 0 l 0) + b * j
 | 0, k, h, j, hj => h j hj
 | f + 1, k, h, j, hj => by
   rw [runGo] at hj
   split at hj
   · next hc =>
     refine runGo_spec l b f (k + 1) (fun i hi => ?_) j hj
     rcases Nat.lt_succ_iff_lt_or_eq.1 hi with h1 | h1
     · exact h i h1
     · rw [h1]; exact hc.2
   · exact h j hj
theorem runN_spec (l : List Int) (b : Int) {j : Nat} (hj : j < runN l b) : absI (atD 0 l j) = absI (atD 0 l 0) + b * j := by
 refine runGo_spec l b l.length 1 (fun i hi => ?_) j hj
 have : i = 0 := by omega
 subst this
 simp
theorem byteAt_way (F T : Int) (ls : List Int) {k : Nat} (h : k < ls.length) : byteAt (wayL F T ls) k = if sideB F T (atD 0 ls k) then 111 else 117 := by
 have h2 : k < (wayL F T ls).size := by rw [wayL_size]; exact h
 have e : atD 0 ls k = ls[k] := by simp [atD, h]
 rw [byteAt_in h2, e]
 have : (wayL F T ls)[k]'h2 = if sideB F T ls[k] then (111 : UInt8) else 117 := by
  rw [ByteArray.getElem_eq_getElem_data]
  simp [wayL]
 rw [this]
 split <;> rfl
theorem passOf_letters {r : List Int} (h0 : 0 < r.length) (hnz : ∀ x ∈ r, x ≠ 0) : lettersL (passOf r) = r.take (passCount r) := by
 have hc1 := passCount_pos (r := r)
 have hcl := passCount_le h0
 have hsz : (passOf r).way.size = passCount r := by
  show (wayL _ _ (r.take (passCount r))).size = _
  rw [wayL_size]; simp; omega
 refine List.ext_getElem (by rw [lettersL_len, hsz]; simp; omega) fun k hk1 hk2 => ?_
 have hk : k < passCount r := by rw [lettersL_len, hsz] at hk1; exact hk1
 have hkr : k < r.length := by omega
 have e1 : (lettersL (passOf r))[k] = letterAt (passOf r) k := by simp [lettersL, lettersK]
 have e2 : (r.take (passCount r))[k] = r[k] := by simp
 have e3 : atD 0 r k = r[k] := by simp [atD, hkr]
 rw [e1, e2]
 have hnk := hnz r[k] (List.getElem_mem hkr)
 have hb : byteAt (passOf r).way k = if sideB (passF r) (passT r) r[k] then 111 else 117 := by
  have := byteAt_way (passF r) (passT r) (r.take (passCount r)) (k := k) (by simp; omega)
  rw [atD_take hk, e3] at this
  exact this
 unfold letterAt
 rw [hb]
 show (if (if sideB (passF r) (passT r) r[k] = true then (111 : Int) else 117) == 117 then -(if passT r < passF r then (k : Int) + 1 - passF r else passF r + k) else (if passT r < passF r then (k : Int) + 1 - passF r else passF r + k)) = r[k]
 by_cases hud : runN r 1 < runN r (-1)
 ·have hcd : passCount r = runN r (-1) := by unfold passCount; omega
  have hF : passF r = absI (atD 0 r 0) + 1 := by unfold passF; rw [if_pos hud]
  have hT : passT r = absI (atD 0 r 0) + 1 - passCount r := by unfold passT; rw [if_pos hud]
  have hr := runN_spec r (-1) (j := k) (by omega)
  rw [e3] at hr
  have hbase : (if passT r < passF r then (k : Int) + 1 - passF r else passF r + k) = (k : Int) + 1 - passF r := if_pos (by omega)
  rw [hbase]
  have hs : sideB (passF r) (passT r) r[k] = decide (r[k] < 0) := by
   unfold sideB
   rw [show decide (passF r < passT r) = false by simp; omega]
   by_cases hp : 0 < r[k]
   ·have : ¬ r[k] < 0 := by omega
    simp [hp, this]
   ·have : r[k] < 0 := by omega
    simp [hp, this]
  rw [hs]
  unfold absI at hr
  by_cases hp : r[k] < 0
  ·simp only [hp, decide_true, if_true]
   rw [if_neg (by decide)]
   rw [if_neg (by omega)] at hr
   unfold absI at hF
   omega
  ·simp only [hp, decide_false, Bool.false_eq_true, if_false]
   rw [if_pos (by decide)]
   rw [if_pos (by omega)] at hr
   unfold absI at hF
   omega
 ·have hcd : passCount r = runN r 1 := by unfold passCount; omega
  have hF : passF r = absI (atD 0 r 0) := by unfold passF; rw [if_neg hud]
  have hT : passT r = absI (atD 0 r 0) + passCount r := by unfold passT; rw [if_neg hud]
  have hr := runN_spec r 1 (j := k) (by omega)
  rw [e3] at hr
  have hbase : (if passT r < passF r then (k : Int) + 1 - passF r else passF r + k) = passF r + k := if_neg (by omega)
  rw [hbase]
  have hs : sideB (passF r) (passT r) r[k] = decide (0 < r[k]) := by
   unfold sideB
   rw [show decide (passF r < passT r) = true by simp; omega]
   by_cases hp : 0 < r[k] <;> simp [hp]
  rw [hs]
  unfold absI at hr
  by_cases hp : 0 < r[k]
  ·simp only [hp, decide_true, if_true]
   rw [if_neg (by decide)]
   rw [if_pos (by omega)] at hr
   unfold absI at hF
   omega
  ·simp only [hp, decide_false, Bool.false_eq_true, if_false]
   rw [if_pos (by decide)]
   rw [if_neg (by omega)] at hr
   unfold absI at hF
   omega
theorem passesOf_word : ∀ (f : Nat) (r : List Int), r.length ≤ f → (∀ x ∈ r, x ≠ 0) → lettersAll (passesOf f r) = r
 | 0, r, h, _ => by
   have : r = [] := List.eq_nil_of_length_eq_zero (by omega)
   subst this; simp [passesOf, lettersAll]
 | f + 1, r, h, hnz => by
   rcases Nat.eq_zero_or_pos r.length with h0 | h0
   · have : r = [] := List.eq_nil_of_length_eq_zero h0
     subst this; simp [passesOf, lettersAll]
   · have hc1 := passCount_pos (r := r)
     rw [passesOf_step h0]
     have ih := passesOf_word f (r.drop (passCount r)) (by simp; omega) (fun x hx => hnz x (List.mem_of_mem_drop hx))
     unfold lettersAll at ih ⊢
     rw [List.flatMap_cons, ih, passOf_letters h0 hnz, List.take_append_drop]
theorem passOf_ends {r : List Int} (h0 : 0 < r.length) : (runN r 1 < runN r (-1) ∧ passCount r = runN r (-1) ∧ passF r = absI (atD 0 r 0) + 1 ∧ passT r = absI (atD 0 r 0) + 1 - passCount r ∧ absI (atD 0 r (passCount r - 1 : Nat)) = absI (atD 0 r 0) - (passCount r - 1)) ∨
  (¬ runN r 1 < runN r (-1) ∧ passCount r = runN r 1 ∧ passF r = absI (atD 0 r 0) ∧ passT r = absI (atD 0 r 0) + passCount r ∧ absI (atD 0 r (passCount r - 1 : Nat)) = absI (atD 0 r 0) + (passCount r - 1)) := by
 have hc1 := passCount_pos (r := r)
 by_cases hud : runN r 1 < runN r (-1)
 ·left
  have hcd : passCount r = runN r (-1) := by unfold passCount; omega
  refine ⟨hud, hcd, by unfold passF; rw [if_pos hud], by unfold passT; rw [if_pos hud], ?_⟩
  have := runN_spec r (-1) (j := passCount r - 1) (by omega)
  rw [this]; omega
 ·right
  have hcd : passCount r = runN r 1 := by unfold passCount; omega
  refine ⟨hud, hcd, by unfold passF; rw [if_neg hud], by unfold passT; rw [if_neg hud], ?_⟩
  have := runN_spec r 1 (j := passCount r - 1) (by omega)
  rw [this]; omega
theorem passOf_ok {n : Int} {r : List Int} (h0 : 0 < r.length) (hf : ∀ x ∈ r, 1 ≤ absI x ∧ absI x < n) : passE n (passOf r) = 0 := by
 have hc1 := passCount_pos (r := r)
 have hcl := passCount_le h0
 have f0 := hf (atD 0 r 0) (by simp [atD, h0])
 have f1 := hf (atD 0 r (passCount r - 1 : Nat)) (by
  have : passCount r - 1 < r.length := by omega
  simp [atD, this])
 have hsz : (passOf r).way.size = passCount r := by
  show (wayL _ _ (r.take (passCount r))).size = _
  rw [wayL_size]; simp; omega
 have hF : (passOf r).f = passF r := rfl
 have hT : (passOf r).t = passT r := rfl
 have htr : trimOU (passOf r).way = ⟨#[]⟩ := trimOU_all fun k hk => by
  have hk2 : k < (r.take (passCount r)).length := by rw [hsz] at hk; simp; omega
  have := byteAt_way (passF r) (passT r) (r.take (passCount r)) hk2
  show byteAt (wayL (passF r) (passT r) (r.take (passCount r))) k = 111 ∨ byteAt (wayL (passF r) (passT r) (r.take (passCount r))) k = 117
  rw [this]
  split
  ·exact .inl rfl
  ·exact .inr rfl
 unfold passE
 rw [hF, hT, htr, hsz]
 unfold distP
 rw [hF, hT]
 rcases passOf_ends h0 with ⟨_, _, e1, e2, e3⟩ | ⟨_, _, e1, e2, e3⟩
 ·rw [if_neg (by omega), if_neg (by omega), if_neg (by rw [if_neg (by omega)]; omega), if_neg (fun h => h rfl)]
 ·rw [if_neg (by omega), if_neg (by omega), if_neg (by rw [if_pos (by omega)]; omega), if_neg (fun h => h rfl)]
theorem passesOf_ok {n : Int} : ∀ (f : Nat) (r : List Int), (∀ x ∈ r, 1 ≤ absI x ∧ absI x < n) → ∀ p ∈ passesOf f r, passE n p = 0
 | 0, r, _, p, hp => by simp [passesOf] at hp
 | f + 1, r, hf, p, hp => by
   rcases Nat.eq_zero_or_pos r.length with h0 | h0
   · have : r = [] := List.eq_nil_of_length_eq_zero h0
     subst this; simp [passesOf] at hp
   · rw [passesOf_step h0] at hp
     rcases List.mem_cons.1 hp with h | h
     · rw [h]; exact passOf_ok h0 hf
     · exact passesOf_ok f _ (fun x hx => hf x (List.mem_of_mem_drop hx)) p h
end Go.Proofs.YtngpopalpofhgaaGreatDoor

namespace Go.Proofs.YtngpopalpofhgaaGreatDoor

theorem passesGo_ok {n : Int} : ∀ {l : List PassV}, (∀ p ∈ l, passE n p = 0) → passesGo n l = 0
 | [], _ => rfl
 | p :: r, h => by
   rw [passesGo, if_neg (fun hh => hh (h p (by simp)))]
   exact passesGo_ok fun q hq => h q (by simp [hq])
theorem passesE_ok {n : Int} {l : List PassV} (h2 : 2 ≤ n) (h12 : n ≤ 12) (hl : l.length ≤ 1000) (h : ∀ p ∈ l, passE n p = 0) : passesE n l = 0 := by
 unfold passesE
 rw [if_neg (by omega), if_neg (by omega)]
 exact passesGo_ok h
end Go.Proofs.YtngpopalpofhgaaGreatDoor

namespace Go.Proofs.YtngpopalpofhgaaGreatDoor
open Go.RowKit
set_option maxHeartbeats 8000000
set_option maxRecDepth 100000
theorem amSame (a a2 : Option Addr) (cap cap2 n : Nat) (l : List Int) (w : World) (h : Ints w a cap l) (h2 : Ints w a2 cap2 l) (hn : l.length = n) (hs : n ≤ 1048576) : Calls Tryz.prog 15 #[.slice a n cap, .slice a2 n cap2] w fun r w' => r = .returned (.bool true) ∧ Below w.heap.size w w' := by
 subst hn
 have := SameInts_any a a2 cap cap2 l l w h h2 hs
 rw [decide_eq_true rfl] at this
 exact this
end Go.Proofs.YtngpopalpofhgaaGreatDoor

namespace Go.Proofs.YtngpopalpofhgaaGreatDoor
set_option maxRecDepth 100000
theorem atD_map2 {l : List Int} {f : Int → Int} {i : Nat} (h : i < l.length) : atD 0 (l.map f) i = f (atD 0 l i) := by simp [atD, h]
end Go.Proofs.YtngpopalpofhgaaGreatDoor

namespace Go.Proofs.YtngpopalpofhgaaGreatDoor
set_option maxRecDepth 100000
/-- no two ever meet. -/
def AllA (m : MacV) (l : List Int) : Prop := ∀ x ∈ l, ∀ y ∈ l, x ≠ y → meetM m x y = none
structure GoodL (m : MacV) (l : List Int) (s : Int) : Prop where
 all : AllA m l
 asc : l.Pairwise (· < ·)
 rng : ∀ x ∈ l, 0 ≤ x ∧ x < s
theorem GoodL.mono {m : MacV} {l : List Int} {s t : Int} (h : GoodL m l s) (hst : s ≤ t) : GoodL m l t := ⟨h.all, h.asc, fun x hx => by have := h.rng x hx; omega⟩
end Go.Proofs.YtngpopalpofhgaaGreatDoor

namespace Go.Proofs.YtngpopalpofhgaaGreatDoor
set_option maxRecDepth 100000
/-- the strand that is above in a letter. -/
def overO (st : List Int) (x : Int) : Int := if x < 0 then atD 0 st (absI x) else atD 0 st (absI x - 1)
def seenGo : List Int → List Int → List Int
 | _, [] => []
 | st, x :: r => overO st x :: seenGo (swapL st (absI x)) r
theorem seenGo_len : ∀ (w st : List Int), (seenGo st w).length = w.length
 | [], _ => rfl
 | x :: w, st => by rw [seenGo, List.length_cons, List.length_cons, seenGo_len w]
/-- carriers in the same slots: c of the first ones stands where τ c of the other ones does. -/
structure Ren (l l' : List Int) (τ : Int → Int) : Prop where
 len : l'.length = l.length
 at_ : ∀ c : Int, 0 ≤ c → c < l.length → (0 ≤ τ c ∧ τ c < l.length) ∧ atD 0 l' (τ c) = atD 0 l c
 mem : ∀ s, s ∈ l' → s ∈ l
theorem Ren.inj {l l' : List Int} {τ : Int → Int} (h : Ren l l' τ) (hn : l.Nodup) {a b : Int} (a0 : 0 ≤ a) (a1 : a < l.length) (b0 : 0 ≤ b) (b1 : b < l.length) (e : τ a = τ b) : a = b := by
 have h1 := (h.at_ a a0 a1).2
 have h2 := (h.at_ b b0 b1).2
 rw [e, h2] at h1
 obtain ⟨i, rfl⟩ : ∃ i : Nat, a = i := ⟨a.toNat, by omega⟩
 obtain ⟨j, rfl⟩ : ∃ j : Nat, b = j := ⟨b.toNat, by omega⟩
 rcases Nat.lt_trichotomy i j with hij | hij | hij
 ·exact absurd h1 (by first | exact nodup_ne hn hij (by omega) | exact (nodup_ne hn hij (by omega)).symm)
 ·rw [hij]
 ·exact absurd h1 (by first | exact nodup_ne hn hij (by omega) | exact (nodup_ne hn hij (by omega)).symm)
theorem Ren.later {m : MacV} {l l' : List Int} {τ : Int → Int} (h : Ren l l' τ) (j : Nat) : Ren (atL m l j) (atL m l' j) τ := by
 have e : ∀ L : List Int, (atL m L j).length = L.length := fun L => by unfold atL; rw [List.length_map]
 refine ⟨by rw [e, e, h.len], fun c c0 c1 => ?_, fun s hs => ?_⟩
 ·rw [e] at c1 ⊢
  obtain ⟨⟨a, b⟩, d⟩ := h.at_ c c0 c1
  refine ⟨⟨a, b⟩, ?_⟩
  have hl := h.len
  obtain ⟨i, hi⟩ : ∃ i : Nat, c = i := ⟨c.toNat, by omega⟩
  obtain ⟨k, hk⟩ : ∃ k : Nat, τ c = k := ⟨(τ c).toNat, by omega⟩
  rw [hk] at d b ⊢
  subst hi
  unfold atL
  rw [atD_map2 (by omega), atD_map2 (by omega), d]
 ·unfold atL at hs ⊢
  obtain ⟨y, hy, rfl⟩ := List.mem_map.1 hs
  exact List.mem_map.2 ⟨y, h.mem y hy, rfl⟩
section
variable {m : MacV} {l l' : List Int} {τ : Int → Int} {n : Int}
end
end Go.Proofs.YtngpopalpofhgaaGreatDoor

namespace Go.Proofs.YtngpopalpofhgaaGreatDoor
set_option maxRecDepth 100000
section
variable {k : Nat} {w : List Int}
end
/-- the strands above in the crossings are the ones that are seen, told from 1 on. -/
theorem cross_fst : ∀ (ws st : List Int), ((rowGo st [] ws).2).map Prod.fst = seenGo st ws
 | [], _ => rfl
 | x :: r, st => by
   rw [rowGo, rowGo_cr, List.map_append, cross_fst r, seenGo]
   show [(crossOf st x).1] ++ _ = _
   have : (crossOf st x).1 = overO st x := by unfold crossOf overO; split <;> rfl
   rw [this]; rfl
end Go.Proofs.YtngpopalpofhgaaGreatDoor

namespace Go.Proofs.YtngpopalpofhgaaGreatDoor
open Go.RowKit
set_option maxHeartbeats 1000000
set_option maxRecDepth 100000

theorem wordE_fit {n : Int} {l : List Int} (h1 : 1 ≤ n) (h2 : n ≤ 12) (hl : l.length ≤ 200) (hf : ∀ x ∈ l, 1 ≤ absI x ∧ absI x < n) : wordE n l = 0 := by
 rw [wordE_any (by unfold strandsE; rw [if_neg (by omega)]) hl]
 rw [if_neg]
 intro h
 obtain ⟨x, hx, hb⟩ := List.any_eq_true.1 h
 obtain ⟨a, b⟩ := hf x hx
 unfold outB at hb
 unfold absI at a b
 simp at hb
 split at a <;> split at b <;> omega
end Go.Proofs.YtngpopalpofhgaaGreatDoor

namespace Go.Proofs.YtngpopalpofhgaaGreatDoor
open Go.RowKit
set_option maxHeartbeats 8000000
set_option maxRecDepth 100000
theorem cross_fst2 (N : Nat) (l : List Int) : ((rowL N l).2).map Prod.fst = seenGo (startL N) l := by unfold rowL; exact cross_fst l _
theorem way_le {L : List PassV} {p : PassV} (h : p ∈ L) : p.way.size ≤ (lettersAll L).length := by
 induction L with
 | nil => cases h
 | cons q L ih =>
  have e : lettersAll (q :: L) = lettersL q ++ lettersAll L := by simp [lettersAll]
  rw [e, List.length_append, lettersL_len]
  rcases List.mem_cons.1 h with rfl | h
  ·omega
  ·have := ih h; omega
theorem passesOf_len2 : ∀ (f : Nat) (r : List Int), (passesOf f r).length ≤ f
 | 0, r => by simp [passesOf]
 | f + 1, r => by
   rcases Nat.eq_zero_or_pos r.length with h | h
   · have : r = [] := List.eq_nil_of_length_eq_zero h
     subst this; simp [passesOf]
   · rw [passesOf_step h]; have := passesOf_len2 f (r.drop (passCount r)); simp; omega
theorem gs_main (n : Int) (ad : Option Addr) (cap : Nat) (l : List Int) (w : World) (hS : Ints w ad cap l) (hn2 : 2 ≤ n) (hf : fewB n l = true) :
  Calls Tryz.prog 3 #[.int .i64 n, .slice ad l.length cap] w fun r w' => r = .returned (.bool true) ∧ Below w.heap.size w w' := by
 obtain ⟨hn6, hl12, hwe⟩ := few_iff.1 hf
 obtain ⟨N, rfl⟩ : ∃ N : Nat, n = N := ⟨n.toNat, by omega⟩
 have hrng := word_rng hwe
 have hcap := hS.le
 have hmx := hS.max
 have hnz : ∀ x ∈ l, x ≠ 0 := fun x hx e => by have := (hrng x hx).1; subst e; simp [absI] at this
 have hneg : wordE ((N : Nat) : Int) (negW l) = 0 := wordE_fit (by omega) (by omega) (by unfold negW; rw [List.length_map]; omega) (fun x hx => by
  unfold negW at hx
  obtain ⟨y, hy, rfl⟩ := List.mem_map.1 hx
  rw [absI_neg]
  exact hrng y hy)
 have hnl : (negW l).length = l.length := by unfold negW; rw [List.length_map]
 have eC : crossL (N : Int) l = (rowL N l).2 := by unfold crossL; rw [if_pos hwe]; rfl
 have eD : crossL (N : Int) (negW l) = (rowL N l).2.map fun c => (c.2, c.1) := by
  unfold crossL
  rw [if_pos hneg]
  exact rowL_neg hrng
 have hCl : (rowL N l).2.length = l.length := by rw [← List.length_map (f := Prod.fst), cross_fst2, seenGo_len]
 have eP : passL (N : Int) l = passesOf l.length l := if_pos hwe
 have hPW := passesOf_word l.length l (Nat.le_refl _) hnz
 have hPok : ∀ p ∈ passesOf l.length l, passE (N : Int) p = 0 := passesOf_ok _ _ fun x hx => by
  have := hrng x hx
  exact ⟨by omega, this.2⟩
 have hPsz : ∀ p ∈ passesOf l.length l, p.way.size ≤ 12 := fun p hp => by have := way_le hp; rw [hPW] at this; omega
 have hPlen : (passesOf l.length l).length ≤ l.length := passesOf_len2 l.length l
 have hPE : passesE (N : Int) (passesOf l.length l) = 0 := passesE_ok (by omega) (by omega) (by omega) hPok
 have eV : wordErr (N : Int) (passesOf l.length l) = 0 := by unfold wordErr; rw [if_neg (fun h => h hPE), if_neg (by rw [hPW]; omega)]
 have eW : wordL (N : Int) (passesOf l.length l) = l := by unfold wordL; rw [if_pos eV, hPW]
 have eA : altB (N : Int) (negW l) = altB (N : Int) l := by
  unfold altB
  rw [if_pos hneg, if_pos hwe, eD, eC]
  have := alt_neg hrng
  rw [rowL_neg hrng] at this
  exact this
 have hM0 : ∀ j, j ≤ l.length → Mx N (sumGo (zeroM N) ((rowL N l).2.take j) (l.take j)) ∧ MxB (sumGo (zeroM N) ((rowL N l).2.take j) (l.take j)) 1000 := fun j hj => by
  have h := sumGo_ok (n := N) ((rowL N l).2.take j) (l.take j) (zeroM N) 0 (fun p hp => by have := rowL_rng hrng p (List.mem_of_mem_take hp); exact ⟨this.1, this.2.1⟩) (zeroM_mx N) (zeroM_b N)
  refine ⟨h.1, fun a b => ?_⟩
  have h2 := h.2 a b
  rw [List.length_take] at h2
  omega
 have hMs := fun (j : Nat) (hj : j < l.length) => sumGo_take (cs := (rowL N l).2) (ws := l) (zeroM N) hCl hj
 have hMe : sumGo (zeroM N) ((rowL N l).2.take l.length) (l.take l.length) = linkL N l := by
  rw [List.take_length, ← hCl, List.take_length]
  exact signs_link hrng
 have hMz : sumGo (zeroM N) ((rowL N l).2.take 0) (l.take 0) = zeroM N := by rw [List.take_zero, List.take_zero]; rfl
 have hel : ∀ j : Nat, j < l.length → ∃ o u : Int, atD (0, 0) (rowL N l).2 j = (o, u) ∧ atD (0, 0) ((rowL N l).2.map fun c => (c.2, c.1)) j = (u, o) ∧ (1 ≤ o ∧ o ≤ N) ∧ (1 ≤ u ∧ u ≤ N) := fun j hj => by
  have h2 : j < (rowL N l).2.length := by omega
  have e1 : atD (0, 0) (rowL N l).2 j = (rowL N l).2[j] := by simp [atD, h2]
  have e2 : atD (0, 0) ((rowL N l).2.map fun c => (c.2, c.1)) j = (((rowL N l).2[j]).2, ((rowL N l).2[j]).1) := by simp [atD, h2]
  have h3 := rowL_rng hrng _ (List.getElem_mem h2)
  exact ⟨((rowL N l).2[j]).1, ((rowL N l).2[j]).2, e1, e2, h3.1, h3.2.1⟩
 have CC := fun (a : Option Addr) (c : Nat) (w : World) (hS : Ints w a c l) => Crosses_any (N : Int) a c l w hS (by omega)
 have CD := fun (a : Option Addr) (c : Nat) (w : World) (hS : Ints w a c (negW l)) => Crosses_any (N : Int) a c (negW l) w hS (by omega)
 have CA := fun (a : Option Addr) (c : Nat) (w : World) (hS : Ints w a c l) => Alternates_any (N : Int) a c l w hS (by omega)
 have CB := fun (a : Option Addr) (c : Nat) (w : World) (hS : Ints w a c (negW l)) => Alternates_any (N : Int) a c (negW l) w hS (by omega)
 have CP := fun (a : Option Addr) (c : Nat) (w : World) (hS : Ints w a c l) => Passes_any (N : Int) a c l w hS (by omega)
 have CK := fun (a : Option Addr) (c : Nat) (w : World) (hS : Ints w a c l) => bLink_any N a c l w hS hwe
 have CM := fun (a : Option Addr) (c : Nat) (w : World) (hS : Ints w a c l) => bMirror_any (N : Int) a c l w hS hwe
 have CV := fun (a : Option Addr) (c : Nat) (w : World) (hS : PassesR w a c (passesOf l.length l)) => Word_any (N : Int) a c (passesOf l.length l) w hS (by omega) (fun p hp => by have := hPsz p hp; omega)
 have CF := fun w (hS : Ints w ad cap l) => rFew_any (N : Int) ad cap l w hS
 rw [hf] at CF
 rw [hwe, eC] at CC
 rw [hneg, eD] at CD
 rw [hwe] at CA
 rw [hneg, eA] at CB
 rw [hwe, eP] at CP
 rw [eV, eW] at CV
 rw [hnl] at CD CB
 obtain ⟨C, hC⟩ : ∃ C, C = (rowL N l).2 := ⟨_, rfl⟩
 obtain ⟨D, hD⟩ : ∃ D, D = (rowL N l).2.map fun c => (c.2, c.1) := ⟨_, rfl⟩
 obtain ⟨P, hP⟩ : ∃ P, P = passesOf l.length l := ⟨_, rfl⟩
 obtain ⟨A, hA⟩ : ∃ A, A = altB (N : Int) l := ⟨_, rfl⟩
 obtain ⟨V, hV⟩ : ∃ V, V = negW l := ⟨_, rfl⟩
 obtain ⟨K, hK⟩ : ∃ K, K = linkL N l := ⟨_, rfl⟩
 obtain ⟨Mj, hMj⟩ : ∃ Mj : Nat → List (List Int), ∀ j, Mj j = sumGo (zeroM N) ((rowL N l).2.take j) (l.take j) := ⟨_, fun _ => rfl⟩
 simp only [← hMj] at hM0 hMs hMe hMz
 have hDl : D.length = l.length := by rw [hD, List.length_map, hCl]
 have hKm : Mx N K := by rw [hK, ← hMe]; exact (hM0 l.length (Nat.le_refl _)).1
 rw [← hC] at hCl CC
 rw [← hD] at CD
 simp only [← hD] at hel
 simp only [← hC] at hel hMs
 rw [← hP] at CP CV
 rw [← hA] at CA CB
 rw [← hV] at CM CD CB hnl
 rw [← hK] at CK hMe
 have HFW := hid CF; have HCC := hid CC; have HCD := hid CD; have HCA := hid CA; have HCB := hid CB; have HCP := hid CP; have HCK := hid CK; have HCM := hid CM; have HCV := hid CV
 have HM0 := hid hM0; have HMS := hid hMs; have HME := hid hMe; have HMZ := hid hMz; have HEL := hid hel; have HKM := hid hKm; have HCL := hid hCl; have HDL := hid hDl; have HVL := hid hnl
 have HGP := hid grommetPlaits_any
 have d2 : decide ((N : Int) < 2) = false := decide_eq_false (by omega)
 have dC : ((C.length : Int) != (l.length : Int)) = false := by rw [hCl]; simp
 have dD : ((D.length : Int) != (l.length : Int)) = false := by rw [hDl]; simp
 have dA : (A != A) = false := by simp
 have dN : ((N : Int) != (N : Int)) = false := by simp
 clear CF CC CD CA CB CP CK CM CV hM0 hMs hMe hMz hel hKm hCl hDl hnl hC hD hP hA hV hK hMj eC eD eP eV eW eA hPW hPok hPE hneg hrng hnz hwe hf hPsz hPlen
 go_enter Tryz.func3, Tryz.ntmps3
 have hL := hS
 clear hS
 go_wp2_with fail
 refine (HFW.out _ hL).mono ?_
 rintro e w1 ⟨rfl, b1⟩
 replace hL := hL.below b1
 have t1 := b1
 clear b1
 go_wp2_with ((with_reducible refine wpList_app (B := w1.heap.size) (l := []) (ys := l) E_ints wU wU (own_made0 cIntS w1 rfl (Nat.le_refl _)) (hL.alloc _) cIntO (by simp; omega) (by simp) (by simp; omega) ?_); intro v2 w2 ho2 hg2 _)
 rw [List.nil_append] at ho2
 have b2 : Below w1.heap.size w1 w2 := (bal (Below.refl _ _) _).grown hg2 (by simp) (fun k hk => by cases hk; exact Nat.le_refl _)
 obtain ⟨aX, cX, rfl, hX, _, _⟩ := ho2.reps
 clear ho2 hg2
 replace hL := hL.below b2
 have t2 := bnext t1 b2
 clear t1 b2
 refine (HCC.out aX cX _ hX).mono ?_
 rintro e w3 ⟨aC, cC, rfl, hC, _, b3⟩
 replace hL := hL.below b3
 replace hX := hX.below b3
 have t3 := bnext t2 b3
 clear t2 b3
 clear hX
 go_wp2_with ((with_reducible refine wpList_app (B := w3.heap.size) (l := []) (ys := l) E_ints wU wU (own_made0 cIntS w3 rfl (Nat.le_refl _)) (hL.alloc _) cIntO (by simp; omega) (by simp) (by simp; omega) ?_); intro v4 w4 ho4 hg4 _)
 rw [List.nil_append] at ho4
 have b4 : Below w3.heap.size w3 w4 := (bal (Below.refl _ _) _).grown hg4 (by simp) (fun k hk => by cases hk; exact Nat.le_refl _)
 obtain ⟨aX, cX, rfl, hX, _, _⟩ := ho4.reps
 clear ho4 hg4
 replace hL := hL.below b4
 replace hC := hC.below b4
 have t4 := bnext t3 b4
 clear t3 b4
 refine (HCK.out aX cX _ hX).mono ?_
 rintro e w5 ⟨vK, HK, rfl, hHK, hoK⟩
 have b5 := hoK.b
 obtain ⟨aK, cK, rfl, hK1, hK2⟩ := mx_leads hoK hHK HKM.out (by omega)
 clear hoK
 replace hL := hL.below b5
 replace hC := hC.below b5
 replace hX := hX.below b5
 have t5 := bnext t4 b5
 clear t4 b5
 clear hX
 go_wp2_with ((with_reducible refine wpList_app (B := w5.heap.size) (l := []) (ys := l) E_ints wU wU (own_made0 cIntS w5 rfl (Nat.le_refl _)) (hL.alloc _) cIntO (by simp; omega) (by simp) (by simp; omega) ?_); intro v6 w6 ho6 hg6 _)
 rw [List.nil_append] at ho6
 have b6 : Below w5.heap.size w5 w6 := (bal (Below.refl _ _) _).grown hg6 (by simp) (fun k hk => by cases hk; exact Nat.le_refl _)
 obtain ⟨aX, cX, rfl, hX, _, _⟩ := ho6.reps
 clear ho6 hg6
 replace hL := hL.below b6
 replace hC := hC.below b6
 replace hK1 := hK1.below b6
 replace hK2 := hK2.below b6
 have t6 := bnext t5 b6
 clear t5 b6
 refine (HCP.out aX cX _ hX).mono ?_
 rintro e w7 ⟨aP, cP, rfl, hP, _, b7⟩
 replace hL := hL.below b7
 replace hC := hC.below b7
 replace hK1 := hK1.below b7
 replace hK2 := hK2.below b7
 replace hX := hX.below b7
 have t7 := bnext t6 b7
 clear t6 b7
 clear hX
 go_wp2_with fail
 refine (HCV.out aP cP _ hP).mono ?_
 rintro e w8 ⟨aV, cV, rfl, hV, _, b8⟩
 replace hL := hL.below b8
 replace hC := hC.below b8
 replace hK1 := hK1.below b8
 replace hK2 := hK2.below b8
 replace hP := hP.below b8
 have t8 := bnext t7 b8
 clear t7 b8
 clear hP
 go_wp2_with ((with_reducible refine wpList_app (B := w8.heap.size) (l := []) (ys := l) E_ints wU wU (own_made0 cIntS w8 rfl (Nat.le_refl _)) (hL.alloc _) cIntO (by simp; omega) (by simp) (by simp; omega) ?_); intro v9 w9 ho9 hg9 _)
 rw [List.nil_append] at ho9
 have b9 : Below w8.heap.size w8 w9 := (bal (Below.refl _ _) _).grown hg9 (by simp) (fun k hk => by cases hk; exact Nat.le_refl _)
 obtain ⟨aX, cX, rfl, hX, _, _⟩ := ho9.reps
 clear ho9 hg9
 replace hL := hL.below b9
 replace hC := hC.below b9
 replace hK1 := hK1.below b9
 replace hK2 := hK2.below b9
 replace hV := hV.below b9
 have t9 := bnext t8 b9
 clear t8 b9
 refine (HCM.out aX cX _ hX).mono ?_
 rintro e w10 ⟨v10, rfl, ho10, b10⟩
 obtain ⟨aM, cM, rfl, hM, _, _⟩ := ho10.reps
 clear ho10
 rw [HVL.out]
 replace hL := hL.below b10
 replace hC := hC.below b10
 replace hK1 := hK1.below b10
 replace hK2 := hK2.below b10
 replace hV := hV.below b10
 replace hX := hX.below b10
 have t10 := bnext t9 b10
 clear t9 b10
 clear hX
 go_wp2_with fail
 refine (HCD.out aM cM _ hM).mono ?_
 rintro e w11 ⟨aD, cD, rfl, hD, _, b11⟩
 replace hL := hL.below b11
 replace hC := hC.below b11
 replace hK1 := hK1.below b11
 replace hK2 := hK2.below b11
 replace hV := hV.below b11
 replace hM := hM.below b11
 have t11 := bnext t10 b11
 clear t10 b11
 go_wp2_with ((with_reducible refine wpList_app (B := w11.heap.size) (l := []) (ys := l) E_ints wU wU (own_made0 cIntS w11 rfl (Nat.le_refl _)) (hL.alloc _) cIntO (by simp; omega) (by simp) (by simp; omega) ?_); intro v12 w12 ho12 hg12 _)
 rw [List.nil_append] at ho12
 have b12 : Below w11.heap.size w11 w12 := (bal (Below.refl _ _) _).grown hg12 (by simp) (fun k hk => by cases hk; exact Nat.le_refl _)
 obtain ⟨aX, cX, rfl, hX, _, _⟩ := ho12.reps
 clear ho12 hg12
 replace hL := hL.below b12
 replace hC := hC.below b12
 replace hK1 := hK1.below b12
 replace hK2 := hK2.below b12
 replace hV := hV.below b12
 replace hM := hM.below b12
 replace hD := hD.below b12
 have t12 := bnext t11 b12
 clear t11 b12
 refine (HCA.out aX cX _ hX).mono ?_
 rintro e w13 ⟨rfl, b13⟩
 replace hL := hL.below b13
 replace hC := hC.below b13
 replace hK1 := hK1.below b13
 replace hK2 := hK2.below b13
 replace hV := hV.below b13
 replace hM := hM.below b13
 replace hD := hD.below b13
 replace hX := hX.below b13
 have t13 := bnext t12 b13
 clear t12 b13
 clear hX
 go_wp2_with fail
 refine (HCB.out aM cM _ hM).mono ?_
 rintro e w14 ⟨rfl, b14⟩
 replace hL := hL.below b14
 replace hC := hC.below b14
 replace hK1 := hK1.below b14
 replace hK2 := hK2.below b14
 replace hV := hV.below b14
 replace hM := hM.below b14
 replace hD := hD.below b14
 have t14 := bnext t13 b14
 clear t13 b14
 clear hM
 go_wp2_with fail
 refine (amSame aV ad cV cap l.length l _ hV hL rfl (by omega)).mono ?_
 rintro e w15 ⟨rfl, b15⟩
 replace hL := hL.below b15
 replace hC := hC.below b15
 replace hK1 := hK1.below b15
 replace hK2 := hK2.below b15
 replace hV := hV.below b15
 replace hD := hD.below b15
 have t15 := bnext t14 b15
 clear t14 b15
 clear hV
 clear dA dN d2 dC dD HFW HCC HCD HCA HCB HCP HCK HCM HCV
 have hZ0 := SL.nil w15
 obtain ⟨wz, hwz⟩ : ∃ wz, wz = w15 := ⟨_, rfl⟩
 rw [← hwz] at t15 hZ0 hL hC hK1 hK2 hD ⊢
 clear hwz
 have tz := t15
 clear t15
 go_wp2_with ((with_reducible refine wpList_makeL (c := cSl) (N) (((none, 0, 0) : SlH)) E_sls cSl1 wU wU (by omega) (by omega) (hZ0) ?_); intro ad1 w1 hS1)
 obtain ⟨G, hG, -⟩ := hS1.setOwn cSl1 0 rfl 0 (by omega) (by simp; omega) (none, 0, 0)
 subst hG
 rw [← mxH_zero] at hS1
 clear hZ0
 go_loopw [145, 22] (fun iv _ wr => ∃ (k : Nat) (qs : List (SlH × List Int)), k ≤ N ∧ iv = .int .i64 k ∧ qs.length = k ∧ qs.map Prod.snd = List.replicate k (List.replicate N 0) ∧ SL wz.heap.size wz wr (pOwn cSl 1 22 (.slice (some ⟨G, 0, none⟩) N N) (mxH N k qs) :: qs.map inP)) (fun iv _ _ => N - (intOf iv).toNat)
 case atStart => exact ⟨0, [], by omega, rfl, rfl, rfl, hS1⟩
 case round =>
  clear hS1
  obtain ⟨k, qs, hk, rfl, hql, hqs, hSr⟩ := hrel
  by_cases hlt : k < N
  ·have HQL := hid hql; have HQS := hid hqs
   have hml := mxH_len hql hk
   obtain ⟨HH, hHH⟩ : ∃ HH, HH = mxH N k qs := ⟨_, rfl⟩
   rw [← hHH] at hSr hml
   have hkH : (k : Int) < (HH.length : Int) := by omega
   have HHH := hid hHH
   clear hql hqs hHH hml
   go_wp2_with (first | ((with_reducible refine wpList_makeL (c := cInt) (N) (0) E_ints cInt1 wU wU (by omega) (by omega) (hSr) ?_); intro ad2 w2 hS3) | ((with_reducible refine wpList_storeL (u := ((ad2, N, N) : SlH)) 1 E_sls cSl1 (sto_sl) wU wU (hS3) wU (by first | omega | (simp; done) | (simp; omega)) (by first | omega | (simp; done) | (simp; omega)) (fun _ => wU) (fun _ => wU) ?_); intro _ w4 hS4))
   have hfin : SL wz.heap.size wz w4 (pOwn cSl 1 22 (.slice (some ⟨G, 0, none⟩) N N) (mxH N (k + 1) (qs ++ [((ad2, N, N), List.replicate N 0)])) :: (qs ++ [((ad2, N, N), List.replicate N 0)]).map inP) := by
    have e1 := mxH_set HQL.out hlt (((ad2, N, N) : SlH), List.replicate N (0 : Int))
    rw [← HHH.out] at e1
    rw [← e1, List.map_append]
    exact hS4.comm (K := [pOwn cInt 1 3 (.slice ad2 N N) (List.replicate N 0)])
   exact ⟨⟨k + 1, qs ++ [((ad2, N, N), List.replicate N 0)], by omega, by go_num, by rw [List.length_append, HQL.out]; rfl, by rw [List.map_append, HQS.out, List.replicate_succ']; rfl, hfin⟩, by simp [intOf]; omega⟩
  ·have hkk : k = N := by omega
   rw [hkk] at hql hqs hSr
   rw [mxH_full] at hSr
   have hz0 : mxQ (qs.map Prod.fst) (zeroM N) = qs := by unfold mxQ zeroM; rw [← hqs]; exact zip_back qs
   obtain ⟨H, hH⟩ : ∃ H, H = qs.map Prod.fst := ⟨_, rfl⟩
   have hHl : H.length = N := by rw [hH, List.length_map]; exact hql
   have hS3 : SL wz.heap.size wz wr ([pOwn cSl 1 22 (.slice (some ⟨G, 0, none⟩) N N) H] ++ (mxQ H (Mj 0)).map inP) := by
    rw [HMZ.out, hH, hz0]
    exact hSr
   have HHL := hid hHl
   have hkk2 : ¬ ((k : Int) < (N : Int)) := by omega
   clear hSr hz0 hH hqs hql hlt hk HMZ hHl
   go_wp2_with fail
   go_loopw [156, 23, 24, 25] (fun iv _ _ _ wq => ∃ j : Nat, j ≤ l.length ∧ iv = .int .i64 j ∧ SL wz.heap.size wz wq ([pOwn cSl 1 22 (.slice (some ⟨G, 0, none⟩) N N) H] ++ (mxQ H (Mj j)).map inP)) (fun iv _ _ _ _ => l.length - (intOf iv).toNat)
   case atStart => exact ⟨0, by omega, rfl, hS3⟩
   case round =>
    clear hS3 hkk2
    obtain ⟨j, hj, rfl, hSq⟩ := hrel
    by_cases hlt : j < l.length
    ·have hCr := hC.below hSq.b
     have hDr := hD.below hSq.b
     have hLr := hL.below hSq.b
     have HM := hid (HM0.out j hj)
     obtain ⟨o, u, ho, hu, ⟨ho1, ho2⟩, hu1, hu2⟩ := HEL.out j hlt
     have hnx := HMS.out j hlt
     rw [ho] at hnx
     obtain ⟨pa, hpa⟩ : ∃ pa, pa = o - 1 := ⟨_, rfl⟩
     obtain ⟨pb, hpb⟩ : ∃ pb, pb = u - 1 := ⟨_, rfl⟩
     have hpa0 : 0 ≤ pa := by omega
     have hpa1 : pa < (N : Int) := by omega
     have hpb0 : 0 ≤ pb := by omega
     have hpb1 : pb < (N : Int) := by omega
     dsimp only at hnx
     rw [← hpa, ← hpb] at hnx
     have hwo : IntKind.i64.wrap (o - 1) = pa := by rw [hpa]; exact IntWalk.i64_in _ (by omega)
     have hwu : IntKind.i64.wrap (u - 1) = pb := by rw [hpb]; exact IntWalk.i64_in _ (by omega)
     obtain ⟨M, hM⟩ : ∃ M, M = Mj j := ⟨_, rfl⟩
     rw [← hM] at HM hSq hnx
     obtain ⟨x, hx⟩ : ∃ x, x = atD 0 l j := ⟨_, rfl⟩
     rw [← hx] at hnx
     have HX := hid hx; have HO := hid ho; have HU := hid hu; have HNXT := hid hnx
     have hv0 : (cPair (atD (0, 0) D (j : Int))).cells.toList[0]? = some (.int .i64 u) := by rw [hu]; rfl
     have hv1 : (cPair (atD (0, 0) D (j : Int))).cells.toList[1]? = some (.int .i64 o) := by rw [hu]; rfl
     have hjC : (j : Int) < (C.length : Int) := by rw [HCL.out]; omega
     have hjD : (j : Int) < (D.length : Int) := by rw [HDL.out]; omega
     have dO1 : decide (o < 1) = false := decide_eq_false (by omega)
     have dO2 : decide ((N : Int) < o) = false := decide_eq_false (by omega)
     have dU1 : decide (u < 1) = false := decide_eq_false (by omega)
     have dU2 : decide ((N : Int) < u) = false := decide_eq_false (by omega)
     have dOO : (o != o) = false := by simp
     have dUU : (u != u) = false := by simp
     clear hx ho hu hnx hM hpa hpb
     go_wp2_with (with_reducible refine wpList_idxS _ (0, 0) E_cross F_cross cPair1 wU wU (hCr) oD oD (fun _ => wU) (fun _ => ?_)); (try simp only [cPair, HO.out])
     have q := heap_alloc_new wr (.cells #[.int .i64 o, .int .i64 u] 42)
     have hSW0 := SL.al hSq (.cells #[.int .i64 o, .int .i64 u] 42)
     have hbW := bal (Below.refl wr.heap.size wr) (.cells #[.int .i64 o, .int .i64 u] 42)
     have HNE : Hid (∀ (g c : Nat) (pa : Int), 0 ≤ pa → pa < (N : Int) → atD ((none, 0, 0) : SlH) H pa = (some ⟨g, 0, none⟩, N, c) → g ≠ wr.heap.size) := hid fun g c pa p0 p1 e => by
      obtain ⟨g', c', e', -, -, h2, -⟩ := mx_row (pre := [_]) hSq HHL.out HM.out.1 p0 p1
      rw [e] at e'
      cases e'
      omega
     replace hDr := hDr.below hbW
     replace hLr := hLr.below hbW
     obtain ⟨Bx, hBx⟩ : ∃ Bx, Bx = wr.heap.size := ⟨_, rfl⟩
     obtain ⟨W, hW⟩ : ∃ W, W = wr.alloc (.cells #[.int .i64 o, .int .i64 u] 42) := ⟨_, rfl⟩
     rw [← hBx] at q HNE
     rw [← hW] at q hSW0 hDr hLr
     simp only [← hW, ← hBx]
     clear hW hBx hbW hSq hCr
     refine wp_region_q kR kR ?_
     repeat (first | ((with_reducible refine wpB_fldG (0, 0) (.int .i64 u) E_cross F_int (fun b o w' => by go_simp) wU rfl wU hDr (by omega) hjD hv0 (fun _ => wU) (fun _ _ => wU) wU (fun _ => wU) (fun _ _ => wU) (fun _ _ => ?_)); (try simp only [Act.put, pA, pB, pC])) | ((with_reducible refine wpB_fldG (0, 0) (.int .i64 o) E_cross F_int (fun b o w' => by go_simp) wU rfl wU hDr (by omega) hjD hv1 (fun _ => wU) (fun _ _ => wU) wU (fun _ => wU) (fun _ _ => wU) (fun _ _ => ?_)); (try simp only [Act.put, pA, pB, pC])) | ((with_reducible refine wpB_load (by first | exact F_int | exact F_u64s) wU wU (by assumption) wU ?_); (try simp only [Act.put, pA, pB, pC])) | (((refine wpQ_oneG ?_ wU (fun w' => ?_) ?_); rotate_left; (go_simp; rfl); (try simp only [Act.put, pA, pB, pC])); first | rw [dO1] | rw [dO2] | rw [dU1] | rw [dU2] | rw [dOO] | rw [dUU] | skip) |  ((with_reducible refine wpB_load (by first | exact F_int | exact F_u64s) wU wU (by assumption) wU ?_); (try simp only [Act.put, pA, pB, pC])) | ((with_reducible refine wpB_loadS (n := 2) (us := #[_, _]) A_int kR wU wU (by assumption) wU wU ?_); (try simp only [Act.put, pA, pB, pC])) | ((with_reducible refine wpB_loadS (n := 4) (us := #[_, _, _, _]) A_frac kR wU wU (by assumption) wU wU ?_); (try simp only [Act.put, pA, pB, pC])) | ((refine wpQ_oneG ?_ wU (fun w' => ?_) ?_); rotate_left; (go_simp; rfl); (try simp only [Act.put, pA, pB, pC])))
     refine wpQuiet_nil ?_
     intro wy hby
     have hSW := hSW0.mono hby
     replace q := (hby.block Bx (Array.getElem?_eq_some_iff.1 q).1).trans q
     replace hLr := hLr.below hby
     clear hSW0 hDr hv0 hv1 dO1 dO2 dU1 dU2 dOO dUU hby hjC hjD
     by_cases hx0 : x < 0
     ·have HSG : Hid (sgnI x = -1) := hid (by unfold sgnI; rw [if_pos hx0])
      have dx : decide (x < 0) = true := decide_eq_true hx0
      clear hx0
      as_aux_lemma =>
      go_wp2_with ((with_reducible refine wpList_idx _ 0 E_ints F_int cInt1 wU wU (hLr) oD oD (fun _ => wU) (fun _ => ?_)); rw [← HX.out])
      have hRo := hSW.rd 0 rfl
      obtain ⟨ga, ca, eHa, hRa, -, -, -⟩ := mx_row (pre := [_]) hSW HHL.out HM.out.1 hpa0 hpa1
      have hHa : pa < (H.length : Int) := by rw [HHL.out]; exact hpa1
      have hrl := mx_getD HM.out.1 (a := pa.toNat) (by omega)
      have hrb : pb < ((M.getD pa.toNat []).length : Int) := by rw [hrl]; exact hpb1
      obtain ⟨rowa, hrowa⟩ : ∃ r, r = M.getD pa.toNat [] := ⟨_, rfl⟩
      rw [← hrowa] at hRa hrl hrb
      have hent := HM.out.2 pa pb
      rw [← hrowa] at hent
      obtain ⟨ent, hentE⟩ : ∃ e, e = atD 0 rowa pb := ⟨_, rfl⟩
      rw [← hentE] at hent
      obtain ⟨E2, hE2⟩ : ∃ E2, E2 = ent + -1 := ⟨_, rfl⟩
      have hwa : IntKind.i64.wrap (ent + -1) = E2 := by rw [hE2]; exact IntWalk.i64_in _ (by omega)
      have hwm : IntKind.i64.wrap (ent - 1) = E2 := by rw [hE2]; exact IntWalk.i64_in _ (by omega)
      have HEH := hid eHa; have HRL := hid hrl; have HROW := hid hrowa; have HENT := hid hentE; have HE2 := hid hE2
      clear eHa hrl hrowa hentE hent hE2
      refine wp_region_qt 14 kR kR ?_
      simp only [List.take_succ_cons, List.take_zero, List.drop_succ_cons, List.drop_zero]
      repeat (first | (((with_reducible refine wpB_idx2 ((none, 0, 0) : SlH) E_sls F_sl cSl1 wU (HHL.out) wU (hRo) oD oD (fun _ => wU) (fun _ => ?_)); (try simp only [Act.put, pA, pB, pC]); (try simp only [cInt])); rw [HEH.out]) | (((with_reducible refine wpB_idx2 0 E_ints F_int cInt1 wU (HRL.out) wU (hRa) oD oD (fun _ => wU) (fun _ => ?_)); (try simp only [Act.put, pA, pB, pC]); (try simp only [cInt])); rw [← HENT.out]) | ((with_reducible refine wpB_ix E_ints wU wU hpb0 hpb1 ?_); (try simp only [Act.put, pA, pB, pC])) |  ((with_reducible refine wpB_load (by first | exact F_int | exact F_u64s) wU wU (by assumption) wU ?_); (try simp only [Act.put, pA, pB, pC])) | ((with_reducible refine wpB_loadS (n := 2) (us := #[_, _]) A_int kR wU wU (by assumption) wU wU ?_); (try simp only [Act.put, pA, pB, pC])) | ((with_reducible refine wpB_loadS (n := 4) (us := #[_, _, _, _]) A_frac kR wU wU (by assumption) wU wU ?_); (try simp only [Act.put, pA, pB, pC])) | ((refine wpQ_oneG ?_ wU (fun w' => ?_) ?_); rotate_left; (go_simp; rfl); (try simp only [Act.put, pA, pB, pC])))
      refine wpQuiet_nil ?_
      intro wa hba
      have hIq := hSW.mono hba
      obtain ⟨g', c', e', -, -, -, hent⟩ := mx_row (pre := [_]) hIq HHL.out HM.out.1 hpa0 hpa1
      rw [HEH.out] at e'
      cases e'
      obtain ⟨hcS, hfS, hstS⟩ := hent pb hpb0 hpb1
      have hI5 := hstS (-1)
      rw [← HROW.out, ← HENT.out] at hcS
      rw [← HROW.out, ← HENT.out, ← HE2.out] at hI5
      clear hent hstS hIq hRo hRa hrb hHa hwa hwm
      refine wpList_stoAt (sto_int E2 _ _) wU wU hcS hfS ?_
      obtain ⟨w5, hw5⟩ : ∃ w5, w5 = wa.setCell ⟨ga, pb.toNat, none⟩ (.int .i64 E2) := ⟨_, rfl⟩
      have hI6 : SL wz.heap.size wz w5 ([pOwn cSl 1 22 (.slice (some ⟨G, 0, none⟩) N N) H] ++ (mxQ H (addE M pa pb (-1))).map inP) := by rw [hw5]; exact hI5
      have q5 : w5.heap[Bx]? = some (.cells #[.int .i64 o, .int .i64 u] 42) := by
       rw [hw5]
       exact (Below.heap_setCell _ _ _ _ (fun e => HNE.out ga ca pa hpa0 hpa1 HEH.out e.symm)).trans ((hba.block Bx (Array.getElem?_eq_some_iff.1 q).1).trans q)
      show wpList _ _ _ _ _ (wa.setCell ⟨ga, pb.toNat, none⟩ (.int .i64 E2))
      rw [← hw5]
      have HM5 := hid (⟨addE_mx HM.out.1 (by omega) pb (-1), by have := addE_b HM.out.2 pa pb (s := -1) (by decide); exact this⟩ : Mx N (addE M pa pb (-1)) ∧ MxB (addE M pa pb (-1)) (1000 + 1))
      obtain ⟨M5, hM5⟩ : ∃ M5, M5 = addE M pa pb (-1) := ⟨_, rfl⟩
      rw [← hM5] at hI6 HM5
      have HM5E := hid hM5
      clear hM5 hI5 hSW hw5 q hcS hfS HEH HRL HROW HENT hba
      go_wp2_with fail
      have hRo := hI6.rd 0 rfl
      obtain ⟨gb, cb, eHb, hRb, -, -, -⟩ := mx_row (pre := [_]) hI6 HHL.out HM5.out.1 hpb0 hpb1
      have hHa : pb < (H.length : Int) := by rw [HHL.out]; exact hpb1
      have hrl := mx_getD HM5.out.1 (a := pb.toNat) (by omega)
      have hrb : pa < ((M5.getD pb.toNat []).length : Int) := by rw [hrl]; exact hpa1
      obtain ⟨rowb, hrowb⟩ : ∃ r, r = M5.getD pb.toNat [] := ⟨_, rfl⟩
      rw [← hrowb] at hRb hrl hrb
      have hent := HM5.out.2 pb pa
      rw [← hrowb] at hent
      obtain ⟨ent, hentE⟩ : ∃ e, e = atD 0 rowb pa := ⟨_, rfl⟩
      rw [← hentE] at hent
      obtain ⟨E2, hE2⟩ : ∃ E2, E2 = ent + -1 := ⟨_, rfl⟩
      have hwb : IntKind.i64.wrap (ent + -1) = E2 := by rw [hE2]; exact IntWalk.i64_in _ (by omega)
      have hwm : IntKind.i64.wrap (ent - 1) = E2 := by rw [hE2]; exact IntWalk.i64_in _ (by omega)
      have HEH := hid eHb; have HRL := hid hrl; have HROW := hid hrowb; have HENT := hid hentE; have HE2 := hid hE2
      clear eHb hrl hrowb hentE hent hE2
      refine wp_region_qt 14 kR kR ?_
      simp only [List.take_succ_cons, List.take_zero, List.drop_succ_cons, List.drop_zero]
      repeat (first | (((with_reducible refine wpB_idx2 ((none, 0, 0) : SlH) E_sls F_sl cSl1 wU (HHL.out) wU (hRo) oD oD (fun _ => wU) (fun _ => ?_)); (try simp only [Act.put, pA, pB, pC]); (try simp only [cInt])); rw [HEH.out]) | (((with_reducible refine wpB_idx2 0 E_ints F_int cInt1 wU (HRL.out) wU (hRb) oD oD (fun _ => wU) (fun _ => ?_)); (try simp only [Act.put, pA, pB, pC]); (try simp only [cInt])); rw [← HENT.out]) | ((with_reducible refine wpB_ix E_ints wU wU hpa0 hpa1 ?_); (try simp only [Act.put, pA, pB, pC])) |  ((with_reducible refine wpB_load (by first | exact F_int | exact F_u64s) wU wU (by assumption) wU ?_); (try simp only [Act.put, pA, pB, pC])) | ((with_reducible refine wpB_loadS (n := 2) (us := #[_, _]) A_int kR wU wU (by assumption) wU wU ?_); (try simp only [Act.put, pA, pB, pC])) | ((with_reducible refine wpB_loadS (n := 4) (us := #[_, _, _, _]) A_frac kR wU wU (by assumption) wU wU ?_); (try simp only [Act.put, pA, pB, pC])) | ((refine wpQ_oneG ?_ wU (fun w' => ?_) ?_); rotate_left; (go_simp; rfl); (try simp only [Act.put, pA, pB, pC])))
      refine wpQuiet_nil ?_
      intro wb hbb
      have hIq := hI6.mono hbb
      obtain ⟨g', c', e', -, -, -, hent⟩ := mx_row (pre := [_]) hIq HHL.out HM5.out.1 hpb0 hpb1
      rw [HEH.out] at e'
      cases e'
      obtain ⟨hcS, hfS, hstS⟩ := hent pa hpa0 hpa1
      have hI5 := hstS (-1)
      rw [← HROW.out, ← HENT.out] at hcS
      rw [← HROW.out, ← HENT.out, ← HE2.out] at hI5
      clear hent hstS hIq hRo hRb hrb hHa hwb hwm
      refine wpList_stoAt (sto_int E2 _ _) wU wU hcS hfS ?_
      have hfin : SL wz.heap.size wz (wb.setCell ⟨gb, pa.toNat, none⟩ (.int .i64 E2)) ([pOwn cSl 1 22 (.slice (some ⟨G, 0, none⟩) N N) H] ++ (mxQ H (Mj (j + 1))).map inP) := by
       have e6 : Mj (j + 1) = addE M5 pb pa (-1) := by rw [HNXT.out, HSG.out]; unfold addM; rw [HM5E.out]
       rw [e6]
       exact hI5
      clear hI5 hI6 hcS hfS HM5E HM5
      show wpList _ _ _ _ _ (wb.setCell ⟨gb, pa.toNat, none⟩ (.int .i64 E2))
      generalize (wb.setCell ⟨gb, pa.toNat, none⟩ (.int .i64 E2)) = w9 at *
      go_wp2_with fail
      exact ⟨⟨j + 1, by omega, by go_num, hfin⟩, by simp [intOf]; omega⟩
     ·have HSG : Hid (sgnI x = 1) := hid (by unfold sgnI; rw [if_neg hx0])
      have dx : decide (x < 0) = false := decide_eq_false hx0
      clear hx0
      as_aux_lemma =>
      go_wp2_with ((with_reducible refine wpList_idx _ 0 E_ints F_int cInt1 wU wU (hLr) oD oD (fun _ => wU) (fun _ => ?_)); rw [← HX.out])
      have hRo := hSW.rd 0 rfl
      obtain ⟨ga, ca, eHa, hRa, -, -, -⟩ := mx_row (pre := [_]) hSW HHL.out HM.out.1 hpa0 hpa1
      have hHa : pa < (H.length : Int) := by rw [HHL.out]; exact hpa1
      have hrl := mx_getD HM.out.1 (a := pa.toNat) (by omega)
      have hrb : pb < ((M.getD pa.toNat []).length : Int) := by rw [hrl]; exact hpb1
      obtain ⟨rowa, hrowa⟩ : ∃ r, r = M.getD pa.toNat [] := ⟨_, rfl⟩
      rw [← hrowa] at hRa hrl hrb
      have hent := HM.out.2 pa pb
      rw [← hrowa] at hent
      obtain ⟨ent, hentE⟩ : ∃ e, e = atD 0 rowa pb := ⟨_, rfl⟩
      rw [← hentE] at hent
      obtain ⟨E2, hE2⟩ : ∃ E2, E2 = ent + 1 := ⟨_, rfl⟩
      have hwa : IntKind.i64.wrap (ent + 1) = E2 := by rw [hE2]; exact IntWalk.i64_in _ (by omega)
      have HEH := hid eHa; have HRL := hid hrl; have HROW := hid hrowa; have HENT := hid hentE; have HE2 := hid hE2
      clear eHa hrl hrowa hentE hent hE2
      refine wp_region_qt 14 kR kR ?_
      simp only [List.take_succ_cons, List.take_zero, List.drop_succ_cons, List.drop_zero]
      repeat (first | (((with_reducible refine wpB_idx2 ((none, 0, 0) : SlH) E_sls F_sl cSl1 wU (HHL.out) wU (hRo) oD oD (fun _ => wU) (fun _ => ?_)); (try simp only [Act.put, pA, pB, pC]); (try simp only [cInt])); rw [HEH.out]) | (((with_reducible refine wpB_idx2 0 E_ints F_int cInt1 wU (HRL.out) wU (hRa) oD oD (fun _ => wU) (fun _ => ?_)); (try simp only [Act.put, pA, pB, pC]); (try simp only [cInt])); rw [← HENT.out]) | ((with_reducible refine wpB_ix E_ints wU wU hpb0 hpb1 ?_); (try simp only [Act.put, pA, pB, pC])) |  ((with_reducible refine wpB_load (by first | exact F_int | exact F_u64s) wU wU (by assumption) wU ?_); (try simp only [Act.put, pA, pB, pC])) | ((with_reducible refine wpB_loadS (n := 2) (us := #[_, _]) A_int kR wU wU (by assumption) wU wU ?_); (try simp only [Act.put, pA, pB, pC])) | ((with_reducible refine wpB_loadS (n := 4) (us := #[_, _, _, _]) A_frac kR wU wU (by assumption) wU wU ?_); (try simp only [Act.put, pA, pB, pC])) | ((refine wpQ_oneG ?_ wU (fun w' => ?_) ?_); rotate_left; (go_simp; rfl); (try simp only [Act.put, pA, pB, pC])))
      refine wpQuiet_nil ?_
      intro wa hba
      have hIq := hSW.mono hba
      obtain ⟨g', c', e', -, -, -, hent⟩ := mx_row (pre := [_]) hIq HHL.out HM.out.1 hpa0 hpa1
      rw [HEH.out] at e'
      cases e'
      obtain ⟨hcS, hfS, hstS⟩ := hent pb hpb0 hpb1
      have hI5 := hstS (1)
      rw [← HROW.out, ← HENT.out] at hcS
      rw [← HROW.out, ← HENT.out, ← HE2.out] at hI5
      clear hent hstS hIq hRo hRa hrb hHa hwa
      refine wpList_stoAt (sto_int E2 _ _) wU wU hcS hfS ?_
      obtain ⟨w5, hw5⟩ : ∃ w5, w5 = wa.setCell ⟨ga, pb.toNat, none⟩ (.int .i64 E2) := ⟨_, rfl⟩
      have hI6 : SL wz.heap.size wz w5 ([pOwn cSl 1 22 (.slice (some ⟨G, 0, none⟩) N N) H] ++ (mxQ H (addE M pa pb (1))).map inP) := by rw [hw5]; exact hI5
      have q5 : w5.heap[Bx]? = some (.cells #[.int .i64 o, .int .i64 u] 42) := by
       rw [hw5]
       exact (Below.heap_setCell _ _ _ _ (fun e => HNE.out ga ca pa hpa0 hpa1 HEH.out e.symm)).trans ((hba.block Bx (Array.getElem?_eq_some_iff.1 q).1).trans q)
      show wpList _ _ _ _ _ (wa.setCell ⟨ga, pb.toNat, none⟩ (.int .i64 E2))
      rw [← hw5]
      have HM5 := hid (⟨addE_mx HM.out.1 (by omega) pb (1), by have := addE_b HM.out.2 pa pb (s := 1) (by decide); exact this⟩ : Mx N (addE M pa pb (1)) ∧ MxB (addE M pa pb (1)) (1000 + 1))
      obtain ⟨M5, hM5⟩ : ∃ M5, M5 = addE M pa pb (1) := ⟨_, rfl⟩
      rw [← hM5] at hI6 HM5
      have HM5E := hid hM5
      clear hM5 hI5 hSW hw5 q hcS hfS HEH HRL HROW HENT hba
      go_wp2_with fail
      have hRo := hI6.rd 0 rfl
      obtain ⟨gb, cb, eHb, hRb, -, -, -⟩ := mx_row (pre := [_]) hI6 HHL.out HM5.out.1 hpb0 hpb1
      have hHa : pb < (H.length : Int) := by rw [HHL.out]; exact hpb1
      have hrl := mx_getD HM5.out.1 (a := pb.toNat) (by omega)
      have hrb : pa < ((M5.getD pb.toNat []).length : Int) := by rw [hrl]; exact hpa1
      obtain ⟨rowb, hrowb⟩ : ∃ r, r = M5.getD pb.toNat [] := ⟨_, rfl⟩
      rw [← hrowb] at hRb hrl hrb
      have hent := HM5.out.2 pb pa
      rw [← hrowb] at hent
      obtain ⟨ent, hentE⟩ : ∃ e, e = atD 0 rowb pa := ⟨_, rfl⟩
      rw [← hentE] at hent
      obtain ⟨E2, hE2⟩ : ∃ E2, E2 = ent + 1 := ⟨_, rfl⟩
      have hwb : IntKind.i64.wrap (ent + 1) = E2 := by rw [hE2]; exact IntWalk.i64_in _ (by omega)
      have HEH := hid eHb; have HRL := hid hrl; have HROW := hid hrowb; have HENT := hid hentE; have HE2 := hid hE2
      clear eHb hrl hrowb hentE hent hE2
      refine wp_region_qt 14 kR kR ?_
      simp only [List.take_succ_cons, List.take_zero, List.drop_succ_cons, List.drop_zero]
      repeat (first | (((with_reducible refine wpB_idx2 ((none, 0, 0) : SlH) E_sls F_sl cSl1 wU (HHL.out) wU (hRo) oD oD (fun _ => wU) (fun _ => ?_)); (try simp only [Act.put, pA, pB, pC]); (try simp only [cInt])); rw [HEH.out]) | (((with_reducible refine wpB_idx2 0 E_ints F_int cInt1 wU (HRL.out) wU (hRb) oD oD (fun _ => wU) (fun _ => ?_)); (try simp only [Act.put, pA, pB, pC]); (try simp only [cInt])); rw [← HENT.out]) | ((with_reducible refine wpB_ix E_ints wU wU hpa0 hpa1 ?_); (try simp only [Act.put, pA, pB, pC])) |  ((with_reducible refine wpB_load (by first | exact F_int | exact F_u64s) wU wU (by assumption) wU ?_); (try simp only [Act.put, pA, pB, pC])) | ((with_reducible refine wpB_loadS (n := 2) (us := #[_, _]) A_int kR wU wU (by assumption) wU wU ?_); (try simp only [Act.put, pA, pB, pC])) | ((with_reducible refine wpB_loadS (n := 4) (us := #[_, _, _, _]) A_frac kR wU wU (by assumption) wU wU ?_); (try simp only [Act.put, pA, pB, pC])) | ((refine wpQ_oneG ?_ wU (fun w' => ?_) ?_); rotate_left; (go_simp; rfl); (try simp only [Act.put, pA, pB, pC])))
      refine wpQuiet_nil ?_
      intro wb hbb
      have hIq := hI6.mono hbb
      obtain ⟨g', c', e', -, -, -, hent⟩ := mx_row (pre := [_]) hIq HHL.out HM5.out.1 hpb0 hpb1
      rw [HEH.out] at e'
      cases e'
      obtain ⟨hcS, hfS, hstS⟩ := hent pa hpa0 hpa1
      have hI5 := hstS (1)
      rw [← HROW.out, ← HENT.out] at hcS
      rw [← HROW.out, ← HENT.out, ← HE2.out] at hI5
      clear hent hstS hIq hRo hRb hrb hHa hwb
      refine wpList_stoAt (sto_int E2 _ _) wU wU hcS hfS ?_
      have hfin : SL wz.heap.size wz (wb.setCell ⟨gb, pa.toNat, none⟩ (.int .i64 E2)) ([pOwn cSl 1 22 (.slice (some ⟨G, 0, none⟩) N N) H] ++ (mxQ H (Mj (j + 1))).map inP) := by
       have e6 : Mj (j + 1) = addE M5 pb pa (1) := by rw [HNXT.out, HSG.out]; unfold addM; rw [HM5E.out]
       rw [e6]
       exact hI5
      clear hI5 hI6 hcS hfS HM5E HM5
      show wpList _ _ _ _ _ (wb.setCell ⟨gb, pa.toNat, none⟩ (.int .i64 E2))
      generalize (wb.setCell ⟨gb, pa.toNat, none⟩ (.int .i64 E2)) = w9 at *
      go_wp2_with fail
      exact ⟨⟨j + 1, by omega, by go_num, hfin⟩, by simp [intOf]; omega⟩
    ·have hjj : j = l.length := by omega
     rw [hjj, HME.out] at hSq
     have hnl2 : ¬ ((j : Int) < (C.length : Int)) := by rw [HCL.out]; omega
     clear hjj hlt hj
     go_wp2_with fail
     go_loopw [237, 26] (fun iv _ wt => ∃ i : Nat, i ≤ N ∧ iv = .int .i64 i ∧ SL wz.heap.size wz wt ([pOwn cSl 1 22 (.slice (some ⟨G, 0, none⟩) N N) H] ++ (mxQ H K).map inP)) (fun iv _ _ => N - (intOf iv).toNat)
     case atStart => exact ⟨0, by omega, rfl, hSq⟩
     case round =>
      clear hSq hnl2
      obtain ⟨i, hi, rfl, hSt⟩ := hrel
      by_cases hit : i < N
      ·have hRo := hSt.rd 0 rfl
       have hKr := hK1.below hSt.b
       have hKl := hK2.below hSt.b
       obtain ⟨g, c, eH, hR, -⟩ := mx_row (pre := [_]) hSt HHL.out HKM.out (a := (i : Int)) (by omega) (by omega)
       have e0 : K.getD ((i : Int)).toNat [] = atD [] K (i : Int) := rfl
       have hrl := mx_getD HKM.out (a := ((i : Int)).toNat) (by omega)
       obtain ⟨xa, xc, hx1, hx2, -⟩ := hKl i (by rw [HKM.out.len]; exact hit)
       rw [e0] at hR hrl
       rw [hrl] at hx1
       obtain ⟨row, hrow⟩ : ∃ r, r = atD [] K (i : Int) := ⟨_, rfl⟩
       rw [← hrow] at hR hrl hx2
       have HSM : Hid (∀ w', Below wr.heap.size wr w' → Calls Tryz.prog 15 #[.slice (some ⟨g, 0, none⟩) N c, .slice xa N xc] w' fun r w'' => r = .returned (.bool true) ∧ Below w'.heap.size w' w'') := hid fun w' hb => amSame (some ⟨g, 0, none⟩) xa c xc N row w' (hR.below hb) (hx2.below hb) hrl (by omega)
       have HEH := hid eH; have HX1 := hid hx1; have HHK := hid hHK
       have hiH : (i : Int) < (H.length : Int) := by rw [HHL.out]; omega
       have hiK : (i : Int) < (HK.length : Int) := by rw [hHK]; omega
       clear e0 hrow hrl hR hx2 eH hx1 hKl hHK
       go_wp2_with fail
       refine wp_region_q kR kR ?_
       repeat (first | (((with_reducible refine wpB_idx2 ((none, 0, 0) : SlH) E_sls F_sl cSl1 wU (HHL.out) wU (hRo) oD oD (fun _ => wU) (fun _ => ?_)); (try simp only [Act.put, pA, pB, pC]); (try simp only [cInt])); rw [HEH.out]) | (((with_reducible refine wpB_idx2 ((none, 0, 0) : SlH) E_sls F_sl cSl1 wU (HHK.out) wU (hKr) oD oD (fun _ => wU) (fun _ => ?_)); (try simp only [Act.put, pA, pB, pC]); (try simp only [cInt])); rw [HX1.out]) | ((refine wpB_call (.bool true) wU (fun w' => ?_) (fun w' hw' => HSM.out w' hw') ?_); (focus (go_simp; done)); (try simp only [Act.put, pA, pB, pC])) |  ((with_reducible refine wpB_load (by first | exact F_int | exact F_u64s) wU wU (by assumption) wU ?_); (try simp only [Act.put, pA, pB, pC])) | ((with_reducible refine wpB_loadS (n := 2) (us := #[_, _]) A_int kR wU wU (by assumption) wU wU ?_); (try simp only [Act.put, pA, pB, pC])) | ((with_reducible refine wpB_loadS (n := 4) (us := #[_, _, _, _]) A_frac kR wU wU (by assumption) wU wU ?_); (try simp only [Act.put, pA, pB, pC])) | ((refine wpQ_oneG ?_ wU (fun w' => ?_) ?_); rotate_left; (go_simp; rfl); (try simp only [Act.put, pA, pB, pC])))
       refine wpQuiet_nil ?_
       intro wy hby
       have hS7 := hSt.mono hby
       clear hSt hRo hKr
       go_wp2_with fail
       exact ⟨⟨i + 1, by omega, by go_num, hS7⟩, by simp [intOf]; omega⟩
      ·have hb := hSt.b
       clear hSt hK1 hK2 hC hD hL
       go_wp2_with fail
       refine (HGP.out _).mono ?_
       rintro e w20 ⟨rfl, b20⟩
       go_wp2_with fail
       go_ret
       exact ⟨rfl, bnext tz (bnext hb b20)⟩
end Go.Proofs.YtngpopalpofhgaaGreatDoor

namespace Go.Proofs.YtngpopalpofhgaaGreatDoor
open Go.RowKit
set_option maxHeartbeats 8000000
set_option maxRecDepth 100000
theorem TopGrommetSigns_any (n : Int) (ad : Option Addr) (cap : Nat) (l : List Int) (w : World) (hS : Ints w ad cap l) :
  Calls Tryz.prog 3 #[.int .i64 n, .slice ad l.length cap] w fun r w' => r = .returned (.bool true) ∧ Below w.heap.size w w' := by
 by_cases hn : n < 2
 ·have d : decide (n < 2) = true := decide_eq_true hn
  have HG := hid grommetPlaits_any
  clear hn
  go_enter Tryz.func3, Tryz.ntmps3
  go_wp2_with fail
  refine (HG.out _).mono ?_
  rintro e w1 ⟨rfl, b1⟩
  go_wp2_with fail
  go_ret
  exact ⟨rfl, b1⟩
 ·by_cases hf : fewB n l = true
  ·exact gs_main n ad cap l w hS (by omega) hf
  ·have hf : fewB n l = false := by simpa using hf
   have d : decide (n < 2) = false := decide_eq_false hn
   have HG := hid grommetPlaits_any
   have CF := rFew_any n ad cap l w hS
   rw [hf] at CF
   have HF := hid CF
   clear hn hf CF
   go_enter Tryz.func3, Tryz.ntmps3
   go_wp2_with fail
   refine HF.out.mono ?_
   rintro e w1 ⟨rfl, b1⟩
   go_wp2_with fail
   refine (HG.out _).mono ?_
   rintro e w2 ⟨rfl, b2⟩
   go_wp2_with fail
   go_ret
   exact ⟨rfl, bnext b1 b2⟩
end Go.Proofs.YtngpopalpofhgaaGreatDoor
