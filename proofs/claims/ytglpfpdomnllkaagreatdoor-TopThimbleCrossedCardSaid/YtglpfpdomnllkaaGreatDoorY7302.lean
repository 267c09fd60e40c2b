/- Contracts and plain facts that the claim uses (RlB LwA OpC RG CiA EnP MaP MaQ MbP MbQ MbR SlB MaA MaG MaJ MbS RfC). Conditions: as each one states. -/
import Derived.RangeFuncNested
import Derived.RangeFuncBound
import Derived.RangeFuncCalls
import Derived.RangeFuncLeaves
import Derived.RangeFuncFrom
import Derived.Shelf.Abstract
import Derived.Shelf.RegionOpen
import Derived.WalkKit
import Derived.OwnWalkIn
import Derived.TacticsInMore
import Derived.LoopNIn
import Derived.LoopIn
import Derived.Test.YtglpfpdomnllkaaGreatDoorProg
import Derived.WalkSpells
import Derived.Maps.AppendAt
import Derived.Deep.Quiet
import Derived.Maps.Own
import Derived.Maps.OwnSet
import Derived.Maps.Views
import Derived.WalkLawsBesides
import Derived.Laws.EntriesVeiled
import Derived.Deep.QuietTactic
import Derived.BigQuiet
import Derived.StillTail
import Derived.Laws.Tables
import Derived.Deep.RegionHeld3
import Derived.Deep.AppendLies
import Derived.Deep.RegionHeldLaw
import Derived.Deep.RegionLaw
import Derived.IntWalk
import Derived.Shelf.Strings.Trim
import Derived.Shelf.Strings.SlTrimAscii
import Derived.Shelf.Strings.Repeat
import Derived.Shelf.Strings.OnBuilder
import Derived.Shelf.Strconv.Itoa1
import Derived.Shelf.Strconv.Itoa3
import Derived.Shelf.LaysM
import Derived.Ground.Names2Prog
import Derived.Laws.CopyOwn
import Derived.BigRegion
import Derived.ChangeAlike
import Derived.Shelf.Bits.Mul64
import Derived.Lib.OthersKept
import Derived.Lib.ItoaLen
import Derived.Lib.ItoaMem
import Derived.Sort.LoopGhostIn
import Derived.Maps.RangeWalk
import Derived.Test.YtglpfpdomnllkaaGreatDoorCards
import Derived.Test.YtglpfpdomnllkaaGreatDoorTie
import Derived.ProofKit
import Derived.OpenShut
import Derived.Deep.DeepHandedRow
import Derived.ReadAgain
import Derived.ChangeSlices
import Derived.Lib.SmallJoins
import Derived.Deep.SlicePairs
import Derived.Sort.QuietThIn
import Derived.Test.YtglpfpdomnllkaaGreatDoorXd01
import Derived.Test.YtglpfpdomnllkaaGreatDoorXd02
import Derived.Test.YtglpfpdomnllkaaGreatDoorXd03
import Derived.Test.YtglpfpdomnllkaaGreatDoorXd04
import Derived.Test.YtglpfpdomnllkaaGreatDoorY7301
set_option linter.all false

namespace Go.Proofs.YtglpfpdomnllkaaGreatDoor
open Go.RowKit
section
variable {P : Program} {ops : Array Oper} {Q : Exit → Act → World → Prop} {C : World → Prop}
/-- what is left gives the same in every world of the class: in any order. -/
theorem wpAnyC_rest {md : Region.Mode} {w : World} {listed : Array Bool} {a : Act} {n : Nat} (qs : List Nat) (lo : List Oper) (hn : n = qs.length) (hlo : qs.map (fun i => ops[i]?) = lo.map some) (hsel : Region.noSelect ops = true) (hB : Region.firstB md ops qs listed = true)
   (hr : Region.ready md ops (listAll listed qs) = []) (hC : C w) (h : wpPure P ops C (fun a' => Q .normal a' w) lo a) : wpAnyC P md ops C (NoPanic Q) n listed a w := by
 subst hn
 have := wpAnyC_pure (g := 0) hsel (fun c a w h => h) hC qs lo listed a hlo hB (C := C) (Q := NoPanic Q) (P := P) (md := md)
 rw [Nat.zero_add] at this
 refine this ?_
 clear this
 revert h
 have : ∀ (l : List Oper) (a : Act), wpPure P ops C (fun a' => Q .normal a' w) l a → wpPure P ops C (fun a' => wpAnyC P md ops C (NoPanic Q) 0 (listAll listed qs) a' w) l a := by
  intro l
  induction l with
  | nil => intro a h; exact ⟨hr, h⟩
  | cons o r ih => intro a ⟨v, hy, hk⟩; exact ⟨v, hy, ih _ hk⟩
 exact this lo a
end
end Go.Proofs.YtglpfpdomnllkaaGreatDoor

namespace Go.Proofs.YtglpfpdomnllkaaGreatDoor
open Go.RowKit
section
variable {P : Program} {ops : Array Oper} {Q : Exit → Act → World → Prop} {md : Region.Mode} {C : World → Prop}

/-- the same value in every world of the class, the world left alone. -/
def YieldsK (P : Program) (ops : Array Oper) (C : World → Prop) (o : Oper) (v : Value) (a : Act) : Prop :=
 (Region.wanted o (yielded ops a.tmps) = true ∧ ∀ w, C w → (execOp a.eval o).run P w = .ok (.value v) w) ∨
 (Region.wanted o (yielded ops a.tmps) = false ∧ v = undef) ∨
 (Region.wanted o (yielded ops a.tmps) = true ∧ ∃ (f : FuncId) (args : Array Value), (∀ w, C w → (execOp a.eval o).run P w = .ok (.enter f args) w) ∧ ∀ w, C w → Calls P f args w fun e w' => e = .returned v ∧ w = w')
theorem YieldsK.wpOp {i : Nat} {o : Oper} {v : Value} {a : Act} (hi : ops[i]? = some o) (hy : YieldsK P ops C o v a)
  {K : Act → World → Prop} {w : World} (hC : C w) (h : K (a.put o.dst v) w) : wpOp P ops Q i K a w := by
 unfold Go.wpOp
 simp only [hi]
 rcases hy with ⟨hw, hv⟩ | ⟨hw, rfl⟩ | ⟨hw, f, args, hr, hc⟩
 ·simp only [hw, if_true, Oper.wp, hv w hC, Oper.upon]; exact .inl h
 ·simp only [hw, Bool.false_eq_true, if_false]; exact h
 ·simp only [hw, if_true, Oper.wp, hr w hC, Oper.upon]
  refine .inl ((hc w hC).mono ?_)
  rintro e w' ⟨rfl, rfl⟩
  exact h
theorem YieldsK.of_same {o : Oper} {v : Value} {a a' : Act} (hy : YieldsK P ops C o v a) (he : execOp a'.eval o = execOp a.eval o)
  (hw : Region.wanted o (yielded ops a'.tmps) = Region.wanted o (yielded ops a.tmps)) : YieldsK P ops C o v a' := by
 unfold YieldsK at *
 rw [he, hw]
 exact hy

theorem wpOp_putK {j : Nat} {oi oj : Oper} {v : Value} (hj : ops[j]? = some oj) (hap : oi.apart ops oj = true)
  (hsi : ∀ cs b, oi.op ≠ .select cs b) (hsj : ∀ cs b, oj.op ≠ .select cs b)
  (hQ : ∀ c a w, ¬ Q (.panic c) a w) {K : Act → World → Prop} {a : Act} {w : World}
  (hy : YieldsK P ops C oi v a) (h : wpOp P ops Q j K (a.put oi.dst v) w) :
  wpOp P ops Q j (fun a' w' => YieldsK P ops C oi v a' ∧ K (a'.put oi.dst v) w') a w := by
 obtain ⟨h1, h2, h3⟩ := Oper.apart_spec hap
 have keep : ∀ (a : Act), YieldsK P ops C oi v a → ∀ u, YieldsK P ops C oi v (a.put oj.dst u) := fun a hy u =>
  hy.of_same (execOp_put oi hsi a oj.dst u h3) (wanted_put oi a oj.dst u h3)
 have keepD : ∀ d, YieldsK P ops C oi v { a with defers := d :: a.defers } := fun d => hy.of_same rfl rfl
 unfold wpOp at *
 simp only [hj] at *
 rw [wanted_put oj a oi.dst v h1] at h
 split
 ·rename_i hw
  simp only [hw, if_true] at h
  rcases h with h | ⟨hasks, hlets⟩
  case inr => exact .inr ⟨by unfold Oper.asks at *; rw [execOp_put oj hsj a oi.dst v h1] at hasks; exact hasks, hlets⟩
  refine .inl ?_
  unfold Oper.wp at *
  rw [execOp_put oj hsj a oi.dst v h1] at h
  generalize (execOp a.eval oj).run P w = r at *
  cases r with
  | ok n w' =>
   cases n <;> simp only [Oper.upon] at h ⊢
   case value u => exact ⟨keep a hy u, by rw [← Act.put_comm a v u h2]; exact h⟩
   case skip => exact ⟨keep a hy _, by rw [← Act.put_comm a v undef h2]; exact h⟩
   case defer d =>
    refine ⟨keep _ (keepD d) _, ?_⟩
    rw [← Act.put_comm _ v undef h2, ← Act.put_defers]
    exact h
   case enter f args =>
    refine Calls.mono h fun e w'' he => ?_
    cases e with
    | returned u => exact ⟨keep a hy u, by rw [← Act.put_comm a v u h2]; exact he⟩
    | panicked c => exact absurd he (hQ _ _ _)
    | outgrown => exact he
   case row row args => exact Rows.mono h fun u w'' he => ⟨keep a hy u, by rw [← Act.put_comm a v u h2]; exact he⟩
  | halt x w' =>
   cases x <;> simp only [Oper.upon] at h ⊢
   case panic u => exact absurd h (hQ _ _ _)
 ·rename_i hw
  simp only [hw] at h
  exact ⟨keep a hy _, by rw [← Act.put_comm a v undef h2]; exact h⟩

theorem wpAnyK_first {i : Nat} {oi : Oper} {v : Value} (hi : ops[i]? = some oi) (hsel : ∀ (j : Nat) (o : Oper) cs b, ops[j]? = some o → o.op ≠ .select cs b) (hQ : ∀ c a w, ¬ Q (.panic c) a w) :
  ∀ (fuel : Nat) (listed : Array Bool) (a : Act) (w : World), C w →
   (∀ j oj, ops[j]? = some oj → j ≠ i → listed.getD j true = false → (∀ e ∈ oj.after, Region.binds md e = true → e.on ≠ i) → oi.apart ops oj = true) →
   i ∈ Region.ready md ops listed → YieldsK P ops C oi v a →
   wpAnyC P md ops C Q fuel (listed.setIfInBounds i true) (a.put oi.dst v) w → wpAnyC P md ops C Q (fuel + 1) listed a w := by
 intro fuel
 induction fuel with
 | zero =>
  intro listed a w hC _ hr hy H
  refine ⟨fun h => (by rw [h] at hr; cases hr), fun j hj => ?_⟩
  by_cases hji : j = i
  ·subst hji; exact hy.wpOp hi hC ⟨hC, H⟩
  ·have := ready_mono hj hji
   rw [H.1] at this
   cases this
 | succ fuel ih =>
  intro listed a w hC hfree hr hy H
  refine ⟨fun h => (by rw [h] at hr; cases hr), fun j hj => ?_⟩
  by_cases hji : j = i
  ·subst hji; exact hy.wpOp hi hC ⟨hC, H⟩
  ·have h1 := H.2 j (ready_mono hj hji)
   obtain ⟨hjun, oj, hoj, hall⟩ := mem_ready.1 hj
   have hnot : ∀ e ∈ oj.after, Region.binds md e = true → e.on ≠ i := fun e he hb heq => by
    have h1 := hall e he hb
    have h0 := (mem_ready.1 hr).1
    rw [heq, getD_both h0] at h1
    cases h1
   have h2 := wpOp_putK hoj (hfree j oj hoj hji hjun hnot) (fun cs b => hsel i oi cs b hi) (fun cs b => hsel j oj cs b hoj) hQ hy h1
   have hfree' : ∀ k ok, ops[k]? = some ok → k ≠ i → (listed.setIfInBounds j true).getD k true = false →
     (∀ e ∈ ok.after, Region.binds md e = true → e.on ≠ i) → oi.apart ops ok = true := fun k ok hk hki hun hno => by
    refine hfree k ok hk hki ?_ hno
    by_cases hjk : j = k
    ·subst hjk; exact hjun
    ·rw [getD_set_ne true hjk] at hun; exact hun
   refine wpOp_mono (fun a' w' h3 => ⟨h3.2.1, ih (listed.setIfInBounds j true) a' w' h3.2.1 hfree' (ready_mono hr (Ne.symm hji)) h3.1 ?_⟩) h2
   rw [Array.setIfInBounds_comm _ _ hji]
   exact h3.2.2

/-- the walk of those. -/
def wpPureK (P : Program) (ops : Array Oper) (C : World → Prop) (K : Act → Prop) : List Oper → Act → Prop
 | [], a => K a
 | o :: r, a => ∃ v, YieldsK P ops C o v a ∧ wpPureK P ops C K r (a.put o.dst v)
theorem wpAnyK_pure (hsel : Region.noSelect ops = true) (hQ : ∀ c a w, ¬ Q (.panic c) a w) {w : World} (hC : C w) {g : Nat} : ∀ (qs : List Nat) (l : List Oper) (listed : Array Bool) (a : Act), qs.map (fun i => ops[i]?) = l.map some →
  Region.firstB md ops qs listed = true → wpPureK P ops C (fun a' => wpAnyC P md ops C Q g (listAll listed qs) a' w) l a → wpAnyC P md ops C Q (g + qs.length) listed a w
 | [], [], listed, a, _, _, h => h
 | [], _ :: _, _, _, hm, _, _ => by cases hm
 | _ :: _, [], _, _, hm, _, _ => by cases hm
 | q :: qs, o :: l, listed, a, hm, hB, h => by
   simp only [List.map_cons, List.cons.injEq] at hm
   simp only [Region.firstB, Bool.and_eq_true] at hB
   obtain ⟨v, hy, hK⟩ := h
   exact wpAnyK_first hm.1 (Region.noSelect_spec hsel) hQ (g + qs.length) listed a w hC (Region.free_spec hm.1 hB.1.2) (by simpa using hB.1.1) hy
     (wpAnyK_pure hsel hQ hC qs l _ _ hm.2 hB.2 hK)

theorem wp_regionK {id : Nat} {Q : Exit → Act → World → Prop} {a : Act} {w : World} {l : List Oper} (qs : List Nat) (lo : List Oper) (g : Nat) (hlo : qs.map (fun i => l.toArray[i]?) = lo.map some) (hg : g + qs.length = l.length) (hm : P.follows .mixedOrders = true)
  (hsel : Region.noSelect l.toArray = true) (hB : Region.firstB .any l.toArray qs (Array.replicate l.length false) = true) (hC : C { w with drawn := w.drawn + 1 })
  (h : wpPureK P l.toArray C (fun a' => wpAnyC P .any l.toArray C (NoPanic Q) g (listAll (Array.replicate l.length false) qs) a' { w with drawn := w.drawn + 1 }) lo a) : (Code.region id l.toArray true).wp P Q a w := by
 refine wp_region_noPanic (wp_region_any hm ?_)
 have := wpAnyK_pure (md := .any) hsel (fun c a w h => h) hC qs lo _ a hlo hB h
 rw [hg] at this
 simpa using wpAny_of_C _ _ _ _ this
theorem wpOp_of_list {i : Nat} {o : Oper} (hi : ops[i]? = some o) {K : Act → World → Prop} {a : Act} {w : World}
  (h : wpList P ops (fun e a' w' => match e with | .normal => K a' w' | e => NoPanic Q e a' w') [o] a w) : wpOp P ops (NoPanic Q) i K a w := by
 unfold wpOp
 simp only [hi]
 unfold wpList at h
 split at h
 ·next hw =>
  rw [if_pos hw]
  rcases h with h | ⟨h1, h2⟩
  ·left; exact h
  ·right; exact ⟨h1, h2⟩
 ·next hw =>
  rw [if_neg hw]
  exact h
end
section
variable {P : Program} {ops : Array Oper} {w : World} {a : Act} {ty : TypeId} {p : String} {af : Array Edge} {g : Option (Nat × Bool)} {d : Tmp}
theorem yieldsK_val {C : World → Prop} {o : Oper} {v : Value} (hg : Region.wanted o (yielded ops a.tmps) = true) (h : ∀ w, (execOp a.eval o).run P w = .ok (.value v) w) : YieldsK P ops C o v a := .inl ⟨hg, fun w _ => h w⟩
end
end Go.Proofs.YtglpfpdomnllkaaGreatDoor

namespace Go.Proofs.YtglpfpdomnllkaaGreatDoor

end Go.Proofs.YtglpfpdomnllkaaGreatDoor

namespace Go.Proofs.YtglpfpdomnllkaaGreatDoor
open Go.ChangeShapes Go.WideShapes Go.ChangeAt Go.RowKit
set_option maxRecDepth 100000
theorem ownP : ownKnob Tryz.prog.godebug = none := by kernel_rfl
/-- a table's cells. -/
def flatD : Nat → DataW Unit → List Value
 | 0, _ => []
 | _ + 1, .lit (.int k v) => [.int k v]
 | n + 1, .agg l => l.flatMap (flatD n)
 | _, _ => []
def layAt (d : DataW Unit) : Obj → Obj
 | .cells _ t fr => .cells (flatD 4 d).toArray t fr
 | o => o
noncomputable def laidWorld (os : Os) : World :=
 { World.holding Tryz.prog os ⟨#[], #[], []⟩ with heap := (((((World.holding Tryz.prog os ⟨#[], #[], []⟩).heap.modify 6 (layAt Rows.laid_math_bits_deBruijn32tab)).modify 7 (layAt Rows.laid_math_bits_deBruijn64tab)).modify 5 (layAt Rows.laid_internal_strconv_uint64pow10)).modify 2 (layAt Rows.laid_unicode_utf8_acceptRanges)).modify 1 (layAt Rows.laid_unicode_utf8_first) }
end Go.Proofs.YtglpfpdomnllkaaGreatDoor

namespace Go.Proofs.YtglpfpdomnllkaaGreatDoor
open Go.ChangeShapes Go.WideShapes Go.ChangeAt Go.RowKit
set_option maxRecDepth 100000
theorem g1 : (laidOutB Tryz.prog) = true := by kernel_rfl
theorem g2 : (mapsRowed Tryz.prog) = true := by kernel_rfl
theorem g6 : ((Tryz.prog.stops == [])) = true := by kernel_rfl
theorem g8 : ((Tryz.prog.stopKnobs == [])) = true := by kernel_rfl
theorem g24 : (Tryz.prog.stopsHeard) = true := by kernel_rfl
theorem g25 : (Tryz.prog.mayEnter) = true := by kernel_rfl
end Go.Proofs.YtglpfpdomnllkaaGreatDoor

namespace Go.Proofs.YtglpfpdomnllkaaGreatDoor
open Go.RowKit Go.ChangeShapes Go.WideShapes Go.ChangeAt
set_option maxRecDepth 100000

theorem kidsP : Kids Tryz.prog (· < Tryz.prog.types.size) := kids_rows kR kR
theorem fullP : ∀ t e, t < Tryz.prog.types.size → Tryz.prog.underlying t = some (.slice e) → 0 < Tryz.prog.cellsOf e := slices_full_of Tryz.prog kR

section
variable {H : Type} {enc : TypeId × Value → H} {P : Program} {W W' : World}
theorem trodAll_carryW {base : Nat} {sp : Nat → Bool} {held : Bool} : ∀ {ts : List TypeId} {vs : List Value} {ds : List (DataW H)} {ps : List MemPlace}, DataW.TrodAll enc P W base sp held ts vs ds ps → (∀ p ∈ ps, W.sameAt W' p) → DataW.TrodAll enc P W' base sp held ts vs ds ps
 | [], [], [], _, h, _ => h
 | _ :: _, _ :: _, _ :: _, _, ⟨p, q, ⟨n, h1⟩, h2, e⟩, hs => ⟨p, q, ⟨n, DataW.trod_carry n _ _ _ h1 (fun x hx => hs x (by rw [e]; exact List.mem_append_left _ hx))⟩, trodAll_carryW h2 (fun x hx => hs x (by rw [e]; exact List.mem_append_right _ hx)), e⟩
theorem sameAt_below (hb : Below W.heap.size W W') {p : MemPlace} (h : p.block < W.heap.size) : W.sameAt W' p := by
 cases p with
 | cell b off => exact (hb.cell (p := ⟨b, off, none⟩) h)
 | map b => exact hb.block b h
theorem kept_below (hb : Below W.heap.size W W') (may : MemPlace → Prop) : W.keptBut W' may := by
 refine ⟨hb.os, hb.output, fun i hi => ?_⟩
 rw [hb.block i hi]
 cases h : W.heap[i]? with
 | none => rfl
 | some o =>
  cases o with
  | cells c t fr => exact ⟨rfl, rfl, rfl, fun _ _ => rfl⟩
  | map es clock => exact .inr ⟨rfl, rfl⟩
  | _ => rfl
/-- a law that returns true and turns nothing that was there. -/
theorem law_post {f : Func} {s : ChangeSpec} {args : Array Value} {ds gs : List (DataW H)} {before : List MemPlace} (hv : s.vars = []) (hr : f.resultTypes = #[4]) (hp : ∀ t ∈ f.params.toList, t < Tryz.prog.types.size)
   (hs : (s.fn H ds).results = [.lit (.bool true)] ∧ (s.fn H ds).args = ds ∧ (s.fn H ds).vars = [])
   (hW : DataW.Whole enc Tryz.prog f.params.toList s.vars false W args.toList ds gs before) (hb : Below W.heap.size W W') : s.post enc Tryz.prog f false true false false W args (.bool true) W' := by
 have hlt := hW.lt
 have hW' := hW
 obtain ⟨p, q, hA, hV, rfl, hfz, _⟩ := hW
 rw [hv] at hV
 have hgs : gs = [] ∧ q = [] := by
  cases gs with
  | nil => exact ⟨rfl, hV⟩
  | cons g gs => exact absurd hV id
 obtain ⟨rfl, rfl⟩ := hgs
 simp only [List.append_nil] at hlt hW' ⊢
 have hsame : ∀ p' ∈ p, W.sameAt W' p' := fun p' hp' => sameAt_below hb (hlt p' hp')
 refine ⟨ds, [], p, [], p, [], hW', ?_, ?_, ?_, kept_below hb _, fun h => by cases h⟩
 ·rw [List.append_nil, hs.1, hr]
  exact trodAll_cons_mk (shut_bool Tryz.underlying4 _) trodAll_mk0
 ·rw [List.append_nil, hs.2.1]
  exact DataW.TrodAll.respare kidsP fullP hp (trodAll_carryW hA hsame) (fun p' hp' => by simpa using hlt p' hp')
 ·rw [List.append_nil, hs.2.2, hv]
  rfl
end
end Go.Proofs.YtglpfpdomnllkaaGreatDoor

namespace Go.Proofs.YtglpfpdomnllkaaGreatDoor
open Go.RowKit Go.ChangeShapes Go.WideShapes Go.ChangeAt Go.Joins Go.Deep
set_option maxRecDepth 100000
theorem cellsInt : Tryz.prog.cellsOf 3 = 1 := by kernel_rfl
theorem inI_wf {x : Int} (h : (Lit.int .i64 x).wf = true) : InI x := by
 simp [Lit.wf, IntKind.min, IntKind.max, IntKind.bits, IntKind.signed] at h
 unfold InI
 omega
section
variable {H : Type} {enc : TypeId × Value → H} {W : World}
theorem ints_of_cells {a : Addr} {zs : List Int} {len cap : Nat} (hl : len ≤ cap) (hm : cap ≤ maxLen) (hz : len ≤ zs.length) (hc : ∀ i, i < zs.length → W.cell? (a.add i) = some (.int .i64 (zs.getD i 0))) : Ints W (some a) cap (zs.take len) := by
 have hlen : (zs.take len).length = len := by simp; omega
 refine ⟨cIntS, by rw [hlen]; exact hl, hm, fun h => (by cases h), fun j u hj => ?_⟩
 have hfm : ((zs.take len).flatMap fun x => (cInt x).cells.toList) = (zs.take len).map fun x => Value.int .i64 x := by
  generalize zs.take len = l
  induction l with
  | nil => rfl
  | cons x r ih => rw [List.flatMap_cons, ih]; rfl
 rw [hfm, List.getElem?_map] at hj
 have hjl : j < len := by
  obtain ⟨x, hx, _⟩ := Option.map_eq_some_iff.1 hj
  have := (List.getElem?_eq_some_iff.1 hx).1
  simp at this; omega
 have h0 := hc 0 (by omega)
 have hsp : a.spot = none := by
  unfold World.cell? Addr.add at h0
  simp only [if_pos] at h0
  split at h0
  ·split at h0
   ·cases h0
   ·next h => simpa using h
  ·cases h0
 refine ⟨a.block, a.off, by rw [← hsp], ?_⟩
 have hj0 := hc j (by omega)
 have e : a.add j = ⟨a.block, a.off + j, none⟩ := by
  unfold Addr.add
  split
  ·next h => subst h; rw [← hsp]; rfl
  ·rfl
 rw [e] at hj0
 rw [hj0, ← hj]
 have h2 : j < zs.length := by omega
 simp [List.getElem?_take, hjl, h2]
theorem open_intsA {r : Reach} {b0 : Nat} {v : Value} {d : DataW H} {ps : List MemPlace} (hval : Value.okWide Tryz.prog W r b0 22 v) (h : DataW.Trod enc Tryz.prog W 0 (fun _ => true) true 22 v d ps) : ∃ a cap l, v = .slice a l.length cap ∧ Ints W a cap l ∧ ∀ x ∈ l, InI x := by
 obtain ⟨a0, len, cap, rfl⟩ := okWide_slice Tryz.underlying22 hval
 obtain ⟨fuel, hf⟩ := h
 rcases open_ints Tryz.underlying22 Tryz.underlying3 cellsInt hf with ⟨hcs, _⟩ | ⟨a, len', cap', zs, hcs, _, hl, hm, hz, _, hcell, hwz⟩
 ·simp [Value.cells] at hcs
  obtain ⟨rfl, rfl, rfl⟩ := hcs
  exact ⟨_, _, [], rfl, ints_nil W, fun x hx => by cases hx⟩
 ·simp [Value.cells] at hcs
  obtain ⟨rfl, rfl, rfl⟩ := hcs
  simp only [if_true] at hz
  have hlen : (zs.take len).length = len := by simp; omega
  refine ⟨some a, cap, zs.take len, by rw [hlen], ints_of_cells hl hm (by omega) hcell, fun x hx => ?_⟩
  exact inI_wf (hwz x (List.mem_of_mem_take hx))
theorem open_intA {r : Reach} {b0 : Nat} {v : Value} {d : DataW H} {ps : List MemPlace} (hval : Value.okWide Tryz.prog W r b0 3 v) (h : DataW.Trod enc Tryz.prog W 0 (fun _ => true) true 3 v d ps) : ∃ x : Int, v = .int .i64 x ∧ InI x := by
 obtain ⟨y, rfl⟩ := okWide_int Tryz.underlying3 hval
 obtain ⟨n, hn⟩ := h
 obtain ⟨x, e, _, w0⟩ := DataW.trod_int Tryz.underlying3 hn
 simp [Value.cells] at e
 subst e
 exact ⟨y, rfl, inI_wf w0⟩
end
end Go.Proofs.YtglpfpdomnllkaaGreatDoor

namespace Go.Proofs.YtglpfpdomnllkaaGreatDoor
open Go.RowKit Go.ChangeShapes Go.WideShapes Go.ChangeAt Go.Joins Go.Deep
set_option maxRecDepth 100000

section
variable {H : Type} {enc : TypeId × Value → H} {W : World}
end
end Go.Proofs.YtglpfpdomnllkaaGreatDoor

namespace Go.Proofs.YtglpfpdomnllkaaGreatDoor
open Go.RowKit Go.ChangeShapes Go.WideShapes Go.ChangeAt Go.Joins Go.Deep
set_option maxRecDepth 100000

section
variable {H : Type} {enc : TypeId × Value → H} {W : World}
end
end Go.Proofs.YtglpfpdomnllkaaGreatDoor

namespace Go.Proofs.YtglpfpdomnllkaaGreatDoor
open Go.RowKit
set_option maxHeartbeats 1000000
set_option maxRecDepth 100000

def idL (n : Nat) : List Int := (List.range n).map fun (i : Nat) => (i : Int)
theorem idL_succ (n : Nat) : idL (n + 1) = idL n ++ [(n : Int)] := by simp [idL, List.range_succ]
theorem idL_len (n : Nat) : (idL n).length = n := by simp [idL]
end Go.Proofs.YtglpfpdomnllkaaGreatDoor

namespace Go.Proofs.YtglpfpdomnllkaaGreatDoor
open Go.RowKit
set_option maxHeartbeats 1000000
set_option maxRecDepth 100000

structure Stand (l : List Int) : Prop where
 lo : 4 ≤ l.length
 hi : l.length ≤ 64
 rng : ∀ x ∈ l, 0 ≤ x ∧ x ≤ 64
 ne : ∀ i j : Int, 0 ≤ i → i < l.length → 0 ≤ j → j < l.length → atD 0 l i ≠ 0 → atD 0 l i = atD 0 l j → i = j

def sw (f t j : Int) : Int := if j = f then t else if j = t then f else j
theorem sw_rng {n f t j : Int} (hf : 0 ≤ f ∧ f < n) (ht : 0 ≤ t ∧ t < n) (hj : 0 ≤ j ∧ j < n) : 0 ≤ sw f t j ∧ sw f t j < n := by
 unfold sw; split
 ·exact ht
 ·split
  ·exact hf
  ·exact hj
theorem sw_sw (f t j : Int) : sw f t (sw f t j) = j := by
 unfold sw
 by_cases h1 : j = f
 ·subst h1; by_cases h2 : t = j <;> simp [h2]
 ·by_cases h2 : j = t
  ·subst h2; simp [h1]
  ·simp [h1, h2]
theorem legalN_iff {l : List Int} {f t : Int} : legalN l f t = 0 ↔ (0 ≤ f ∧ f < l.length) ∧ (0 ≤ t ∧ t < l.length) ∧ atD 0 l f ≠ 0 ∧ atD 0 l t = 0 := by
 unfold legalN inB
 by_cases h1 : (decide (0 ≤ f) && decide (f < (l.length : Int)) && (decide (0 ≤ t) && decide (t < (l.length : Int)))) = true
 ·rw [if_pos h1]
  simp only [Bool.and_eq_true, decide_eq_true_eq] at h1
  by_cases h2 : atD 0 l f = 0
  ·rw [if_neg (by simp [h2])]; constructor
   ·intro h; omega
   ·intro h; exact absurd h2 h.2.2.1
  ·rw [if_pos (by simpa using h2)]
   by_cases h3 : atD 0 l t = 0
   ·rw [if_pos (by simp [h3])]; exact ⟨fun _ => ⟨h1.1, h1.2, h2, h3⟩, fun _ => rfl⟩
   ·rw [if_neg (by simpa using h3)]; constructor
    ·intro h; omega
    ·intro h; exact absurd h.2.2.2 h3
 ·rw [if_neg h1]
  simp only [Bool.and_eq_true, decide_eq_true_eq] at h1
  constructor
  ·intro h; omega
  ·intro h; exact absurd ⟨h.1, h.2.1⟩ h1
theorem nextL_length (l : List Int) (f t : Int) : (nextL l f t).length = l.length := by simp [nextL]
theorem nextL_at {l : List Int} {f t : Int} (h : legalN l f t = 0) {j : Int} (hj : 0 ≤ j) : atD 0 (nextL l f t) j = atD 0 l (sw f t j) := by
 obtain ⟨hf, ht, hf0, ht0⟩ := legalN_iff.1 h
 unfold nextL sw
 rw [atD_set hf.1 (by simp; exact hf.2) hj, atD_set ht.1 ht.2 hj]
 by_cases h1 : j = f
 ·rw [if_pos h1, if_pos h1, ht0]
 ·rw [if_neg h1, if_neg h1]; split <;> rfl

/-- all moves are legal, one after the other. -/
def okAll : List Int → List (Int × Int) → Prop
 | _, [] => True
 | s, m :: r => legalN s m.1 m.2 = 0 ∧ okAll (nextL s m.1 m.2) r
def runL : List Int → List (Int × Int) → List Int
 | s, [] => s
 | s, m :: r => runL (nextL s m.1 m.2) r
/-- from where the thread of a slot comes. -/
def mvT : List (Int × Int) → Int → Int
 | [], j => j
 | m :: r, j => sw m.1 m.2 (mvT r j)
theorem runL_len : ∀ (ms : List (Int × Int)) (s : List Int), (runL s ms).length = s.length
 | [], s => rfl
 | m :: r, s => by rw [runL, runL_len r, nextL_length]
/-- the same slots are free. -/
def free2 (s x : List Int) : Prop := x.length = s.length ∧ ∀ j : Int, 0 ≤ j → j < s.length → (atD 0 x j = 0 ↔ atD 0 s j = 0)
theorem free2_legal {s x : List Int} (h : free2 s x) {f t : Int} (hl : legalN s f t = 0) : legalN x f t = 0 := by
 obtain ⟨hf, ht, hf0, ht0⟩ := legalN_iff.1 hl
 refine legalN_iff.2 ⟨by rw [h.1]; exact hf, by rw [h.1]; exact ht, ?_, ?_⟩
 ·intro e; exact hf0 ((h.2 f hf.1 hf.2).1 e)
 ·exact (h.2 t ht.1 ht.2).2 ht0
theorem free2_next {s x : List Int} (h : free2 s x) {f t : Int} (hl : legalN s f t = 0) : free2 (nextL s f t) (nextL x f t) := by
 obtain ⟨hf, ht, _, _⟩ := legalN_iff.1 hl
 refine ⟨by rw [nextL_length, nextL_length, h.1], fun j j0 j1 => ?_⟩
 rw [nextL_length] at j1
 rw [nextL_at hl j0, nextL_at (free2_legal h hl) j0]
 obtain ⟨a, b⟩ := sw_rng hf ht ⟨j0, j1⟩
 exact h.2 _ a b
theorem free2_ok : ∀ (ms : List (Int × Int)) (s x : List Int), free2 s x → okAll s ms → okAll x ms
 | [], _, _, _, _ => trivial
 | m :: r, s, x, h, ho => ⟨free2_legal h ho.1, free2_ok r _ _ (free2_next h ho.1) ho.2⟩
theorem mvT_rng : ∀ (ms : List (Int × Int)) (s : List Int), okAll s ms → ∀ j : Int, 0 ≤ j → j < s.length → 0 ≤ mvT ms j ∧ mvT ms j < s.length
 | [], _, _, j, j0, j1 => ⟨j0, j1⟩
 | m :: r, s, h, j, j0, j1 => by
   obtain ⟨hf, ht, _, _⟩ := legalN_iff.1 h.1
   have := mvT_rng r (nextL s m.1 m.2) h.2 j j0 (by rw [nextL_length]; exact j1)
   rw [nextL_length] at this
   exact sw_rng hf ht this
theorem mvT_inj : ∀ (ms : List (Int × Int)) (i j : Int), mvT ms i = mvT ms j → i = j
 | [], _, _, h => h
 | m :: r, i, j, h => by
   rw [mvT, mvT] at h
   have := congrArg (sw m.1 m.2) h
   rw [sw_sw, sw_sw] at this
   exact mvT_inj r i j this
theorem runL_at : ∀ (ms : List (Int × Int)) (s : List Int), okAll s ms → ∀ j : Int, 0 ≤ j → j < s.length → atD 0 (runL s ms) j = atD 0 s (mvT ms j)
 | [], _, _, _, _, _ => rfl
 | m :: r, s, h, j, j0, j1 => by
   have hr := mvT_rng r (nextL s m.1 m.2) h.2 j j0 (by rw [nextL_length]; exact j1)
   rw [runL, runL_at r _ h.2 j j0 (by rw [nextL_length]; exact j1), nextL_at h.1 hr.1, mvT]
theorem stand_run {s : List Int} {ms : List (Int × Int)} (hs : Stand s) (h : okAll s ms) : Stand (runL s ms) := by
 refine ⟨by rw [runL_len]; exact hs.lo, by rw [runL_len]; exact hs.hi, ?_, ?_⟩
 ·intro x hx
  obtain ⟨i, hi, rfl⟩ := List.mem_iff_getElem.1 hx
  have e : (runL s ms)[i] = atD 0 (runL s ms) (i : Int) := by simp [atD, hi]
  rw [runL_len] at hi
  have hr := mvT_rng ms s h i (by omega) (by omega)
  rw [e, runL_at ms s h i (by omega) (by omega)]
  exact hs.rng _ (atD_memZ hr.1 hr.2)
 ·intro i j i0 i1 j0 j1 hne e
  rw [runL_len] at i1 j1
  rw [runL_at ms s h i i0 i1] at hne e
  rw [runL_at ms s h j j0 j1] at e
  have hi := mvT_rng ms s h i i0 i1
  have hj := mvT_rng ms s h j j0 j1
  exact mvT_inj ms i j (hs.ne _ _ hi.1 hi.2 hj.1 hj.2 hne e)

/-- what a round without an error does: the permutation leads each thread to its place. -/
structure RoundP (s : List Int) (ms : List (Int × Int)) (p : List Int) : Prop where
 st : Stand s
 ok : okAll s ms
 len : p.length = s.length
 sh : ∀ j : Int, 0 ≤ j → j < s.length → (atD 0 s j = 0 ↔ atD 0 (runL s ms) j = 0)
 fr : ∀ i : Int, 0 ≤ i → i < s.length → atD 0 s i = 0 → atD 0 p i = i
 rng : ∀ i : Int, 0 ≤ i → i < s.length → 0 ≤ atD 0 p i ∧ atD 0 p i < s.length
 mv : ∀ i : Int, 0 ≤ i → i < s.length → atD 0 s i ≠ 0 → mvT ms (atD 0 p i) = i
section
variable {s : List Int} {ms : List (Int × Int)} {p : List Int}
theorem RoundP.inj (h : RoundP s ms p) : ∀ i j : Int, 0 ≤ i → i < s.length → 0 ≤ j → j < s.length → atD 0 p i = atD 0 p j → i = j := by
 intro i j i0 i1 j0 j1 e
 have key : ∀ i j : Int, 0 ≤ i → i < s.length → 0 ≤ j → j < s.length → atD 0 p i = atD 0 p j → atD 0 s i = 0 → atD 0 s j ≠ 0 → False := by
  intro i j i0 i1 j0 j1 e hz hn
  rw [h.fr i i0 i1 hz] at e
  have hm := h.mv j j0 j1 hn
  rw [← e] at hm
  have := (h.sh i i0 i1).1 hz
  rw [runL_at ms s h.ok i i0 i1, hm] at this
  exact hn this
 by_cases a : atD 0 s i = 0
 ·by_cases b : atD 0 s j = 0
  ·rw [h.fr i i0 i1 a, h.fr j j0 j1 b] at e; exact e
  ·exact (key i j i0 i1 j0 j1 e a b).elim
 ·by_cases b : atD 0 s j = 0
  ·exact (key j i j0 j1 i0 i1 e.symm b a).elim
  ·rw [← h.mv i i0 i1 a, ← h.mv j j0 j1 b, e]
theorem RoundP.isP (h : RoundP s ms p) : IsP p :=
 ⟨fun x a b => by have := h.rng x a (by rw [← h.len]; exact b); rw [h.len]; exact this, fun x y a b c d e => h.inj x y a (by rw [← h.len]; exact b) c (by rw [← h.len]; exact d) e⟩

/-- one more round. -/
theorem RoundP.next (h : RoundP s ms p) {x : List Int} (hx : free2 s x) (hsx : Stand x) : okAll x ms ∧ free2 s (runL x ms) ∧ Stand (runL x ms) ∧ ∀ i : Int, 0 ≤ i → i < s.length → atD 0 (runL x ms) (atD 0 p i) = atD 0 x i := by
 have ho := free2_ok ms s x hx h.ok
 have hl := hx.1
 have hat : ∀ j : Int, 0 ≤ j → j < s.length → atD 0 (runL x ms) j = atD 0 x (mvT ms j) := fun j j0 j1 => runL_at ms x ho j j0 (by rw [hl]; exact j1)
 have hz : ∀ j : Int, 0 ≤ j → j < s.length → (atD 0 (runL x ms) j = 0 ↔ atD 0 s j = 0) := by
  intro j j0 j1
  have hr := mvT_rng ms s h.ok j j0 j1
  rw [hat j j0 j1, hx.2 _ hr.1 hr.2, h.sh j j0 j1, runL_at ms s h.ok j j0 j1]
 refine ⟨ho, ⟨by rw [runL_len, hl], hz⟩, stand_run hsx ho, ?_⟩
 intro i i0 i1
 obtain ⟨a, b⟩ := h.rng i i0 i1
 by_cases hn : atD 0 s i = 0
 ·rw [h.fr i i0 i1 hn]
  have h1 := (hz i i0 i1).2 hn
  have h2 := (hx.2 i i0 i1).2 hn
  rw [h1, h2]
 ·rw [hat _ a b, h.mv i i0 i1 hn]

def nowL (s : List Int) (ms : List (Int × Int)) : Nat → List Int
 | 0 => s
 | n + 1 => runL (nowL s ms n) ms
theorem RoundP.now (h : RoundP s ms p) : ∀ n, free2 s (nowL s ms n) ∧ Stand (nowL s ms n) ∧ ∀ i : Int, 0 ≤ i → i < s.length → atD 0 (nowL s ms n) (itP p i n) = atD 0 s i
 | 0 => ⟨⟨rfl, fun _ _ _ => Iff.rfl⟩, h.st, fun _ _ _ => rfl⟩
 | n + 1 => by
   obtain ⟨a, b, c⟩ := h.now n
   obtain ⟨_, d, e, f⟩ := h.next a b
   refine ⟨d, e, fun i i0 i1 => ?_⟩
   have hr := itP_rng h.isP i0 (by rw [h.len]; exact i1) n
   rw [h.len] at hr
   rw [nowL, itP, f _ hr.1 hr.2, c i i0 i1]
theorem RoundP.back (h : RoundP s ms p) (n : Nat) : nowL s ms n = s ↔ ∀ i : Int, 0 ≤ i → i < s.length → itP p i n = i := by
 obtain ⟨a, b, c⟩ := h.now n
 have hid : ∀ i : Int, 0 ≤ i → i < s.length → atD 0 s i = 0 → ∀ n, itP p i n = i := by
  intro i i0 i1 hz n
  induction n with
  | zero => rfl
  | succ n ih => rw [itP, ih]; exact h.fr i i0 i1 hz
 constructor
 ·intro e i i0 i1
  by_cases hz : atD 0 s i = 0
  ·exact hid i i0 i1 hz n
  ·have := c i i0 i1
   rw [e] at this
   have hr := itP_rng h.isP i0 (by rw [h.len]; exact i1) n
   rw [h.len] at hr
   exact (h.st.ne i _ i0 i1 hr.1 hr.2 hz this.symm).symm
 ·intro e
  refine ext_atD a.1 (fun j j0 j1 => ?_)
  rw [a.1] at j1
  have := c j j0 j1
  rwa [e j j0 j1] at this
end

theorem itP_mul {p : List Int} {i : Int} {d : Nat} (h : itP p i d = i) : ∀ q : Nat, itP p i (q * d) = i
 | 0 => by simp [itP]
 | q + 1 => by rw [Nat.succ_mul, itP_add, h, itP_mul h q]
theorem ord_dvd {p : List Int} {i : Int} {d : Nat} (h : Ord p i d) (n : Nat) : itP p i n = i ↔ d ∣ n := by
 have e : n = n % d + n / d * d := by have := Nat.mod_add_div n d; rw [Nat.mul_comm] at this; omega
 constructor
 ·intro hn
  rw [e, itP_add, itP_mul h.back] at hn
  have hm := Nat.mod_lt n h.pos
  rcases Nat.eq_zero_or_pos (n % d) with h0 | h0
  ·exact Nat.dvd_of_mod_eq_zero h0
  ·exact absurd hn (h.min _ h0 hm)
 ·rintro ⟨q, rfl⟩
  rw [Nat.mul_comm]; exact itP_mul h.back q
theorem lcmF_lcm (o n : Nat) : lcmF o n = Nat.lcm o n := by
 unfold lcmF Nat.lcm
 rw [Nat.div_mul_right_comm (Nat.gcd_dvd_left o n)]
theorem perF_dvd (k : Nat) : ∀ (ls : List Nat) (o : Nat), ls.foldl lcmF o ∣ k ↔ o ∣ k ∧ ∀ n ∈ ls, n ∣ k
 | [], o => by simp
 | n :: r, o => by
   rw [List.foldl_cons, perF_dvd k r, lcmF_lcm, Nat.lcm_dvd_iff]
   simp [and_assoc]
theorem cycK_orb {p : List Int} (hp : IsP p) : ∀ {k : Nat}, k ≤ p.length → ∀ l ∈ cycK p k, ∃ j : Nat, j < k ∧ l = orb p j
 | 0, _, l, h => by simp [cycK] at h
 | k + 1, hk, l, h => by
   rw [cycK] at h
   split at h
   · obtain ⟨j, a, b⟩ := cycK_orb hp (by omega) l h; exact ⟨j, by omega, b⟩
   · rcases List.mem_append.1 h with h | h
     · obtain ⟨j, a, b⟩ := cycK_orb hp (by omega) l h; exact ⟨j, by omega, b⟩
     · simp at h; exact ⟨k, by omega, h⟩
theorem cycK_all {p : List Int} (hp : IsP p) : ∀ {k : Nat}, k ≤ p.length → ∀ j : Nat, j < k → (j : Int) ∈ (cycK p k).flatten
 | 0, _, j, h => by omega
 | k + 1, hk, j, h => by
   rw [cycK]
   split
   · rename_i hin
     by_cases e : j = k
     · subst e; exact hin
     · exact cycK_all hp (by omega) j (by omega)
   · rw [List.flatten_append]
     by_cases e : j = k
     · subst e
       refine List.mem_append_right _ ?_
       obtain ⟨d, hd⟩ := ord_ex hp (i := (j : Int)) (by omega) (by omega)
       simp only [List.flatten_cons, List.flatten_nil, List.append_nil]
       rw [orb_eq hd]
       exact List.mem_map.2 ⟨0, by simp [hd.pos], rfl⟩
     · exact List.mem_append_left _ (cycK_all hp (by omega) j (by omega))
theorem period_iff {p : List Int} (hp : IsP p) (n : Nat) : (∀ i : Int, 0 ≤ i → i < p.length → itP p i n = i) ↔ periodN p ∣ n := by
 unfold periodN perF
 rw [perF_dvd]
 constructor
 ·intro h
  refine ⟨Nat.one_dvd _, fun m hm => ?_⟩
  obtain ⟨l, hl, rfl⟩ := List.mem_map.1 hm
  obtain ⟨j, hj, rfl⟩ := cycK_orb hp (Nat.le_refl _) l hl
  obtain ⟨d, hd⟩ := ord_ex hp (i := (j : Int)) (by omega) (by omega)
  rw [orb_len hd]
  exact (ord_dvd hd n).1 (h j (by omega) (by omega))
 ·rintro ⟨_, h⟩ i i0 i1
  have hin := cycK_all hp (Nat.le_refl _) i.toNat (by omega)
  rw [Int.toNat_of_nonneg i0] at hin
  obtain ⟨l, hl, hil⟩ := List.mem_flatten.1 hin
  obtain ⟨j, hj, rfl⟩ := cycK_orb hp (Nat.le_refl _) l hl
  obtain ⟨d, hd⟩ := ord_ex hp (i := (j : Int)) (by omega) (by omega)
  have hdv := h _ (List.mem_map.2 ⟨_, hl, rfl⟩)
  rw [orb_len hd] at hdv
  rw [orb_eq hd] at hil
  obtain ⟨m, _, rfl⟩ := List.mem_map.1 hil
  rw [← itP_add, Nat.add_comm, itP_add, (ord_dvd hd n).2 hdv]

end Go.Proofs.YtglpfpdomnllkaaGreatDoor

namespace Go.Proofs.YtglpfpdomnllkaaGreatDoor
open Go.RowKit
set_option maxHeartbeats 1000000
set_option maxRecDepth 100000

theorem permGo_ok (n : Nat) : ∀ (r seen : List Int), (∀ x ∈ r, 0 ≤ x ∧ x < n ∧ x ∉ seen) → r.Nodup → permGo n seen r = 0
 | [], _, _, _ => rfl
 | x :: r, seen, h, hn => by
   obtain ⟨h1, h2⟩ := List.nodup_cons.1 hn
   obtain ⟨a, b, c⟩ := h x (by simp)
   rw [permGo, if_neg (by rintro (d | d | d) <;> first | exact c d | omega)]
   refine permGo_ok n r _ (fun y hy => ?_) h2
   obtain ⟨d, e, f⟩ := h y (by simp [hy])
   refine ⟨d, e, fun g => ?_⟩
   rcases List.mem_append.1 g with g | g
   · exact f g
   · simp only [List.mem_singleton] at g
     subst g; exact h1 hy
theorem isP_mem {p : List Int} (hp : IsP p) : ∀ x ∈ p, 0 ≤ x ∧ x < p.length := by
 intro x hx
 obtain ⟨i, hi, rfl⟩ := List.mem_iff_getElem.1 hx
 have := hp.rng i (by omega) (by omega)
 simpa [atD, hi] using this
theorem isP_nodup {p : List Int} (hp : IsP p) : p.Nodup := by
 rw [List.Nodup, List.pairwise_iff_getElem]
 intro i j hi hj hij e
 have := hp.inj i j (by omega) (by omega) (by omega) (by omega) (by simpa [atD, hi, hj] using e)
 omega
theorem permE_ok {p : List Int} (hp : IsP p) (h : p.length ≤ 256) : permE p = 0 := by
 unfold permE
 rw [if_neg (by omega)]
 exact permGo_ok _ _ _ (fun x hx => ⟨(isP_mem hp x hx).1, (isP_mem hp x hx).2, by simp⟩) (isP_nodup hp)
theorem isP_surj {p : List Int} (hp : IsP p) {y : Int} (h0 : 0 ≤ y) (h1 : y < p.length) : ∃ i : Nat, i < p.length ∧ atD 0 p i = y := by
 obtain ⟨d, a, _, c⟩ := itP_back hp h0 h1
 obtain ⟨e, rfl⟩ : ∃ e, d = e + 1 := ⟨d - 1, by omega⟩
 have hr := itP_rng hp h0 h1 e
 exact ⟨(itP p y e).toNat, by omega, by rw [Int.toNat_of_nonneg hr.1]; exact c⟩

def row5 : List Int → List Int → List Int
 | st, [] => st
 | st, x :: r => row5 (swapL st (absI x)) r
theorem row5_len : ∀ (l st : List Int), (row5 st l).length = st.length
 | [], st => rfl
 | x :: r, st => by rw [row5, row5_len r, swapL_len]
theorem swapL_at {st : List Int} {k j : Int} (h1 : 1 ≤ k) (h2 : k < st.length) (hj : 0 ≤ j) : atD 0 (swapL st k) j = atD 0 st (sw (k - 1) k j) := by
 unfold swapL sw
 rw [atD_set (by omega) (by simp; omega) hj, atD_set (by omega) (by omega) hj]
 by_cases a : j = k
 ·subst a; rw [if_pos rfl, if_neg (by omega), if_pos rfl]
 ·rw [if_neg a, if_neg a]
  by_cases b : j = k - 1
  ·rw [if_pos b, if_pos b]
  ·rw [if_neg b, if_neg b]
theorem swapL_isP {st : List Int} {k : Int} (h1 : 1 ≤ k) (h2 : k < st.length) (h : IsP st) : IsP (swapL st k) := by
 refine ⟨fun x x0 x1 => ?_, fun x y x0 x1 y0 y1 e => ?_⟩
 ·rw [swapL_len] at x1 ⊢
  rw [swapL_at h1 h2 x0]
  obtain ⟨a, b⟩ := sw_rng (f := k - 1) (t := k) (n := st.length) ⟨by omega, by omega⟩ ⟨by omega, h2⟩ ⟨x0, x1⟩
  exact h.rng _ a b
 ·rw [swapL_len] at x1 y1
  rw [swapL_at h1 h2 x0, swapL_at h1 h2 y0] at e
  obtain ⟨a, b⟩ := sw_rng (f := k - 1) (t := k) (n := st.length) ⟨by omega, by omega⟩ ⟨by omega, h2⟩ ⟨x0, x1⟩
  obtain ⟨c, d⟩ := sw_rng (f := k - 1) (t := k) (n := st.length) ⟨by omega, by omega⟩ ⟨by omega, h2⟩ ⟨y0, y1⟩
  have := congrArg (sw (k - 1) k) (h.inj _ _ a b c d e)
  rwa [sw_sw, sw_sw] at this
theorem row5_isP : ∀ (l st : List Int), IsP st → (∀ x ∈ l, 1 ≤ absI x ∧ absI x < st.length) → IsP (row5 st l)
 | [], st, h, _ => h
 | x :: r, st, h, hf => by
   obtain ⟨a, b⟩ := hf x (by simp)
   rw [row5]
   exact row5_isP r _ (swapL_isP a b h) (fun y hy => by rw [swapL_len]; exact hf y (by simp [hy]))
theorem idL_at {n : Nat} {j : Int} (h0 : 0 ≤ j) (h1 : j < n) : atD 0 (idL n) j = j := by
 unfold idL atD
 rw [List.getD_eq_getElem?_getD, List.getElem?_map, List.getElem?_range (by omega)]
 simp; omega
theorem idL_isP (n : Nat) : IsP (idL n) := by
 refine ⟨fun x x0 x1 => ?_, fun x y x0 x1 y0 y1 e => ?_⟩
 ·rw [idL_len] at x1 ⊢; rw [idL_at x0 x1]; exact ⟨x0, x1⟩
 ·rw [idL_len] at x1 y1; rwa [idL_at x0 x1, idL_at y0 y1] at e
theorem rowGo_row5 : ∀ (ws st : List Int) (cr : List (Int × Int)), (rowGo st cr ws).1 = row5 st ws
 | [], _, _ => rfl
 | x :: r, st, cr => by rw [rowGo, rowGo_row5 r, row5]
def invK (p : List Int) (k : Nat) : List Int := (List.range k).foldl (fun (o : List Int) (i : Nat) => o.set (atD 0 p i).toNat (i : Int)) (List.replicate p.length 0)
def invL (p : List Int) : List Int := invK p p.length
theorem invK_succ (p : List Int) (k : Nat) : invK p (k + 1) = (invK p k).set (atD 0 p k).toNat (k : Int) := by unfold invK; rw [List.range_succ, List.foldl_append]; rfl
theorem invK_len (p : List Int) : ∀ k, (invK p k).length = p.length
 | 0 => by simp [invK]
 | k + 1 => by rw [invK_succ, List.length_set, invK_len p k]
theorem invK_at {p : List Int} (hp : IsP p) : ∀ k, k ≤ p.length → ∀ i : Nat, i < k → atD 0 (invK p k) (atD 0 p i) = i
 | 0, _, i, h => by omega
 | k + 1, hk, i, h => by
   have hi := hp.rng i (by omega) (by omega)
   have hk1 := hp.rng k (by omega) (by omega)
   rw [invK_succ, atD_set hk1.1 (by rw [invK_len]; exact hk1.2) hi.1]
   by_cases e : i = k
   · subst e; rw [if_pos rfl]
   · rw [if_neg (fun e2 => e (by have := hp.inj i k (by omega) (by omega) (by omega) (by omega) e2; omega))]
     exact invK_at hp k (by omega) i (by omega)
theorem invL_len (p : List Int) : (invL p).length = p.length := invK_len p _
theorem invL_left {p : List Int} (hp : IsP p) {i : Int} (h0 : 0 ≤ i) (h1 : i < p.length) : atD 0 (invL p) (atD 0 p i) = i := by
 have := invK_at hp p.length (Nat.le_refl _) i.toNat (by omega)
 rwa [Int.toNat_of_nonneg h0] at this
theorem invL_right {p : List Int} (hp : IsP p) {y : Int} (h0 : 0 ≤ y) (h1 : y < p.length) : atD 0 p (atD 0 (invL p) y) = y := by
 obtain ⟨i, hi, rfl⟩ := isP_surj hp h0 h1
 rw [invL_left hp (by omega) (by omega)]
theorem invL_isP {p : List Int} (hp : IsP p) : IsP (invL p) := by
 refine ⟨fun y y0 y1 => ?_, fun x y x0 x1 y0 y1 e => ?_⟩
 ·rw [invL_len] at y1 ⊢
  obtain ⟨i, hi, rfl⟩ := isP_surj hp y0 y1
  rw [invL_left hp (by omega) (by omega)]; omega
 ·rw [invL_len] at x1 y1
  rw [← invL_right hp x0 x1, ← invL_right hp y0 y1, e]
theorem itP_succ' (p : List Int) (x : Int) (n : Nat) : itP p x (n + 1) = itP p (atD 0 p x) n := by rw [itP_add p x 1 n]; rfl
theorem period_pos {p : List Int} (hp : IsP p) : 0 < periodN p := perF_pos _ 1 (by decide) (fun n hn => by obtain ⟨l, hl, rfl⟩ := List.mem_map.1 hn; exact cycK_pos hp (Nat.le_refl _) l hl)
end Go.Proofs.YtglpfpdomnllkaaGreatDoor

namespace Go.Proofs.YtglpfpdomnllkaaGreatDoor
set_option maxRecDepth 100000

/-- a machine. -/
structure MacV where
 ring : Bool
 gears : Int
 turn : Int
 sw : List Int
def sharedM (m : MacV) (p : Int) : Bool := (decide (0 ≤ p) && decide (p < m.gears)) && (m.ring || decide (0 < p))
def swGo (m : MacV) : Option Int → List Int → Int
 | _, [] => 0
 | o, s :: r => if sharedM m s = false then 10 else match o with
   | none => swGo m (some s) r
   | some b => if s ≤ b then 11 else swGo m (some s) r
/-- the error of a machine. -/
def macE (m : MacV) : Int :=
 if m.gears < 1 ∨ 16 < m.gears then 3 else if m.ring = true ∧ m.gears % 2 = 1 then 17 else if m.turn ≠ 1 ∧ m.turn ≠ -1 then 3 else if m.gears < m.sw.length then 5 else swGo m none m.sw
structure MacOk (m : MacV) : Prop where
 lo : 1 ≤ m.gears
 hi : m.gears ≤ 16
 even : m.ring = true → m.gears % 2 = 0
 turn : m.turn = 1 ∨ m.turn = -1
 many : m.sw.length ≤ m.gears
def fwdM (m : MacV) (g : Int) : Bool := (m.turn == 1) == (g % 2 == 0)
/-- the place of a slot, or -1. -/
def placeM (m : MacV) (s : Int) : Int :=
 if s % 4 = 0 then s / 4 else if s % 4 = 2 then (if m.ring = true ∧ s / 4 + 1 = m.gears then 0 else s / 4 + 1) else -1
/-- the gear before a place. -/
def befM (m : MacV) (p : Int) : Int := if p = 0 then m.gears - 1 else p - 1
def goesM (m : MacV) (s : Int) : Bool := decide (0 ≤ placeM m s) && sharedM m (placeM m s) && !m.sw.contains (placeM m s)
def overM (m : MacV) (s : Int) : Int := if goesM m s then 4 * befM m (placeM m s) + 2 + 4 * placeM m s - s else s
def rotM (m : MacV) (s : Int) : Int := 4 * (s / 4) + (s % 4 + (if fwdM m (s / 4) then 1 else 3)) % 4
def nextM (m : MacV) (s : Int) : Int := overM m (rotM m s)

theorem shared_iff {m : MacV} {p : Int} : sharedM m p = true ↔ 0 ≤ p ∧ p < m.gears ∧ (m.ring = true ∨ 0 < p) := by
 unfold sharedM
 simp only [Bool.and_eq_true, Bool.or_eq_true, decide_eq_true_eq]
 exact and_assoc
/-- the two slots of a shared place. -/
theorem over_cases {m : MacV} {s : Int} (h0 : 0 ≤ s) (h1 : s < 4 * m.gears) : (goesM m s = false ∧ overM m s = s) ∨
  (goesM m s = true ∧ 0 ≤ overM m s ∧ overM m s < 4 * m.gears ∧ placeM m (overM m s) = placeM m s ∧ overM m s ≠ s ∧ overM m s = 4 * befM m (placeM m s) + 2 + 4 * placeM m s - s) := by
 cases hg : goesM m s
 ·exact .inl ⟨rfl, by unfold overM; rw [hg]; rfl⟩
 ·right
  have e : overM m s = 4 * befM m (placeM m s) + 2 + 4 * placeM m s - s := by unfold overM; rw [if_pos hg]
  unfold goesM at hg
  simp only [Bool.and_eq_true, decide_eq_true_eq] at hg
  obtain ⟨⟨hp0, hsh⟩, _⟩ := hg
  obtain ⟨_, hp1, hp2⟩ := shared_iff.1 hsh
  refine ⟨rfl, ?_⟩
  obtain ⟨p, hp⟩ : ∃ p, p = placeM m s := ⟨_, rfl⟩
  rw [← hp] at e hp0 hp1 hp2 ⊢
  rw [e]
  unfold placeM at hp ⊢
  unfold befM
  cases hr : m.ring
  ·simp only [hr, Bool.false_eq_true, false_and, if_false, false_or] at hp hp2 ⊢
   rw [if_neg (by omega)]
   split at hp
   ·subst hp
    refine ⟨by omega, by omega, ?_, by omega, trivial⟩
    rw [if_neg (by omega), if_pos (by omega)]; omega
   ·split at hp
    ·subst hp
     refine ⟨by omega, by omega, ?_, by omega, trivial⟩
     rw [if_pos (by omega)]; omega
    ·omega
  ·simp only [hr, true_and, true_or] at hp hp2 ⊢
   split at hp
   ·by_cases hz : p = 0
    ·rw [if_pos hz]
     refine ⟨by omega, by omega, ?_, by omega, trivial⟩
     rw [if_neg (by omega), if_pos (by omega), if_pos (by omega)]; omega
    ·rw [if_neg hz]
     refine ⟨by omega, by omega, ?_, by omega, trivial⟩
     rw [if_neg (by omega), if_pos (by omega), if_neg (by omega)]; omega
   ·split at hp
    ·split at hp
     ·subst hp
      rw [if_pos rfl]
      refine ⟨by omega, by omega, ?_, by omega, trivial⟩
      rw [if_pos (by omega)]; omega
     ·rw [if_neg (by omega)]
      refine ⟨by omega, by omega, ?_, by omega, trivial⟩
      rw [if_pos (by omega)]; omega
    ·omega
theorem over_rng {m : MacV} {s : Int} (h0 : 0 ≤ s) (h1 : s < 4 * m.gears) : 0 ≤ overM m s ∧ overM m s < 4 * m.gears := by
 rcases over_cases h0 h1 with ⟨_, e⟩ | ⟨_, a, b, _⟩
 ·rw [e]; exact ⟨h0, h1⟩
 ·exact ⟨a, b⟩
theorem over_over {m : MacV} {s : Int} (h0 : 0 ≤ s) (h1 : s < 4 * m.gears) : overM m (overM m s) = s := by
 rcases over_cases h0 h1 with ⟨_, e⟩ | ⟨hg, a, b, hp, _, e⟩
 ·rw [e, e]
 ·have hg2 : goesM m (overM m s) = true := by unfold goesM at hg ⊢; rw [hp]; exact hg
  rcases over_cases a b with ⟨hg3, _⟩ | ⟨_, _, _, _, _, e2⟩
  ·rw [hg2] at hg3; cases hg3
  ·rw [e2, hp, e]; omega
theorem rot_rng {m : MacV} {s : Int} (h0 : 0 ≤ s) (h1 : s < 4 * m.gears) : 0 ≤ rotM m s ∧ rotM m s < 4 * m.gears ∧ rotM m s / 4 = s / 4 ∧ rotM m s % 4 = (s % 4 + (if fwdM m (s / 4) then 1 else 3)) % 4 := by
 unfold rotM
 split <;> omega
theorem rot_inj {m : MacV} {s t : Int} (h0 : 0 ≤ s) (h1 : s < 4 * m.gears) (k0 : 0 ≤ t) (k1 : t < 4 * m.gears) (e : rotM m s = rotM m t) : s = t := by
 obtain ⟨_, _, a, b⟩ := rot_rng h0 h1
 obtain ⟨_, _, c, d⟩ := rot_rng k0 k1
 rw [e] at a b
 have hq : s / 4 = t / 4 := by omega
 rw [hq] at b
 split at b
 ·rename_i hf; rw [if_pos hf] at d; omega
 ·rename_i hf; rw [if_neg hf] at d; omega
theorem next_rng {m : MacV} {s : Int} (h0 : 0 ≤ s) (h1 : s < 4 * m.gears) : 0 ≤ nextM m s ∧ nextM m s < 4 * m.gears := by
 obtain ⟨a, b, _⟩ := rot_rng h0 h1
 exact over_rng a b
theorem next_inj {m : MacV} {s t : Int} (h0 : 0 ≤ s) (h1 : s < 4 * m.gears) (k0 : 0 ≤ t) (k1 : t < 4 * m.gears) (e : nextM m s = nextM m t) : s = t := by
 obtain ⟨a, b, _⟩ := rot_rng h0 h1
 obtain ⟨c, d, _⟩ := rot_rng k0 k1
 have := congrArg (overM m) e
 unfold nextM at this
 rw [over_over a b, over_over c d] at this
 exact rot_inj h0 h1 k0 k1 this
/-- the permutation of a step. -/
def permM (m : MacV) : List Int := (List.range (4 * m.gears).toNat).map fun (i : Nat) => nextM m i
theorem permM_len (m : MacV) : (permM m).length = (4 * m.gears).toNat := by simp [permM]
theorem permM_at {m : MacV} {s : Int} (h0 : 0 ≤ s) (h1 : s < 4 * m.gears) : atD 0 (permM m) s = nextM m s := by
 unfold permM atD
 have hs : s.toNat < (4 * m.gears).toNat := by omega
 rw [List.getD_eq_getElem?_getD, List.getElem?_map, List.getElem?_range hs]
 simp [Int.toNat_of_nonneg h0]
theorem permM_isP (m : MacV) : IsP (permM m) := by
 refine ⟨fun x h0 h1 => ?_, fun x y x0 x1 y0 y1 e => ?_⟩
 ·rw [permM_len] at h1
  rw [permM_at h0 (by omega), permM_len]
  have := next_rng (m := m) h0 (by omega)
  omega
 ·rw [permM_len] at x1 y1
  rw [permM_at x0 (by omega), permM_at y0 (by omega)] at e
  exact next_inj x0 (by omega) y0 (by omega) e
end Go.Proofs.YtglpfpdomnllkaaGreatDoor

namespace Go.Proofs.YtglpfpdomnllkaaGreatDoor
set_option maxRecDepth 100000

/-- where a carrier is after some steps. -/
def itM (m : MacV) (s : Int) (n : Nat) : Int := itP (permM m) s n
theorem itM_rng {m : MacV} {s : Int} (h0 : 0 ≤ s) (h1 : s < 4 * m.gears) (n : Nat) : 0 ≤ itM m s n ∧ itM m s n < 4 * m.gears := by
 have := itP_rng (permM_isP m) h0 (by rw [permM_len]; omega) n
 rw [permM_len] at this
 unfold itM
 omega
theorem itM_succ {m : MacV} {s : Int} (h0 : 0 ≤ s) (h1 : s < 4 * m.gears) (n : Nat) : itM m s (n + 1) = nextM m (itM m s n) := by
 have h := itM_rng h0 h1 n
 unfold itM at h ⊢
 rw [itP, permM_at h.1 h.2]
theorem itM_inj {m : MacV} {s t : Int} (h0 : 0 ≤ s) (h1 : s < 4 * m.gears) (k0 : 0 ≤ t) (k1 : t < 4 * m.gears) : ∀ n, itM m s n = itM m t n → s = t
 | 0, h => h
 | n + 1, h => by
   rw [itM_succ h0 h1, itM_succ k0 k1] at h
   have a := itM_rng h0 h1 n
   have b := itM_rng k0 k1 n
   exact itM_inj h0 h1 k0 k1 n (next_inj a.1 a.2 b.1 b.2 h)

theorem least_ex {P : Nat → Prop} (h : ∃ n, P n) : ∃ n, P n ∧ ∀ k, k < n → ¬ P k := by
 obtain ⟨n, hn⟩ := h
 induction n using Nat.strongRecOn with
 | _ n ih =>
  by_cases hx : ∃ k, k < n ∧ P k
  ·obtain ⟨k, hk, hp⟩ := hx; exact ih k hk hp
  ·exact ⟨n, hn, fun k hk hp => hx ⟨k, hk, hp⟩⟩
/-- two carriers are in both slots of a shared place. -/
def hitM (m : MacV) (x y : Int) : Bool := (decide (0 ≤ placeM m x) && sharedM m (placeM m x)) && decide (placeM m x = placeM m y)
/-- what a first meeting is. -/
def MeetR (m : MacV) (a b : Int) : Option (Nat × Int) → Prop
 | some (n, p) => hitM m (itM m a n) (itM m b n) = true ∧ p = placeM m (itM m a n) ∧ ∀ k, k < n → hitM m (itM m a k) (itM m b k) = false
 | none => ∀ k, hitM m (itM m a k) (itM m b k) = false
theorem meet_ex (m : MacV) (a b : Int) : ∃ r, MeetR m a b r := by
 by_cases h : ∃ n, hitM m (itM m a n) (itM m b n) = true
 ·obtain ⟨n, hn, hk⟩ := least_ex h
  exact ⟨some (n, _), hn, rfl, fun k h2 => by simpa using hk k h2⟩
 ·exact ⟨none, fun k => by cases e : hitM m (itM m a k) (itM m b k) with | false => rfl | true => exact absurd ⟨k, e⟩ h⟩
noncomputable def meetM (m : MacV) (a b : Int) : Option (Nat × Int) := Classical.choose (meet_ex m a b)
theorem meetM_spec (m : MacV) (a b : Int) : MeetR m a b (meetM m a b) := Classical.choose_spec (meet_ex m a b)
def befo (v w : Nat × Int) : Bool := decide (v.1 < w.1) || (decide (v.1 = w.1) && decide (v.2 < w.2))
def bestS (b x : Option (Nat × Int)) : Option (Nat × Int) := match x with
 | none => b
 | some v => match b with | none => some v | some w => if befo v w then some v else some w
/-- the pairs that are gone through. -/
def pairsTo (l : List Int) (i : Nat) : List (Int × Int) := (List.range i).flatMap fun j => (l.take j).map fun b => (atD 0 l j, b)
noncomputable def firstTo (m : MacV) (ps : List (Int × Int)) : Option (Nat × Int) := ps.foldl (fun b p => bestS b (meetM m p.1 p.2)) none
noncomputable def firstM (m : MacV) (l : List Int) : Option (Nat × Int) := firstTo m (pairsTo l l.length)
end Go.Proofs.YtglpfpdomnllkaaGreatDoor

namespace Go.Proofs.YtglpfpdomnllkaaGreatDoor
set_option maxRecDepth 100000

/-- the first index of a number, or none. -/
def idxO (l : List Int) (x : Int) : Option Int := if l.findIdx (· == x) < l.length then some (l.findIdx (· == x) : Int) else none
theorem idxO_some {l : List Int} {x i : Int} (h : idxO l x = some i) : 0 ≤ i ∧ i < l.length ∧ l[i.toNat]? = some x := by
 unfold idxO at h
 split at h
 ·rename_i hlt
  cases h
  refine ⟨by omega, by omega, ?_⟩
  have := List.findIdx_getElem (xs := l) (p := (· == x)) (w := hlt)
  simp at this
  simp [hlt, this]
 ·cases h
theorem idxO_none {l : List Int} {x : Int} : idxO l x = none ↔ x ∉ l := by
 unfold idxO
 constructor
 ·intro h hm
  rw [if_pos (List.findIdx_lt_length_of_exists ⟨x, hm, by simp⟩)] at h
  cases h
 ·intro h
  rw [if_neg]
  rw [List.findIdx_lt_length]
  rintro ⟨y, hy, e⟩
  have : y = x := by simpa using e
  exact h (this ▸ hy)
theorem idxO_eq {l : List Int} {x : Int} {k : Nat} (hk : k < l.length) (h : l[k]? = some x) (hno : ∀ j : Nat, j < k → l[j]? ≠ some x) : idxO l x = some (k : Int) := by
 have e : l.findIdx (· == x) = k := by
  rw [List.findIdx_eq hk]
  refine ⟨?_, fun j hj => ?_⟩
  ·rw [List.getElem?_eq_getElem hk] at h
   cases h; simp
  ·have h1 := hno j hj
   rw [List.getElem?_eq_getElem (by omega)] at h1
   simpa using h1
 unfold idxO
 rw [e, if_pos hk]

/-- the gears from left to right, their slots in their order. -/
def gearsL (m : MacV) : List Int := (List.range m.gears.toNat).map fun (g : Nat) => (g : Int)
def slotsG (m : MacV) (g : Int) : List Int := if fwdM m g then [4 * g, 4 * g + 1, 4 * g + 3, 4 * g + 2] else [4 * g, 4 * g + 3, 4 * g + 1, 4 * g + 2]
def slotG (m : MacV) (g : Int) : Nat → Int
 | 0 => 4 * g
 | 1 => if fwdM m g then 4 * g + 1 else 4 * g + 3
 | 2 => if fwdM m g then 4 * g + 3 else 4 * g + 1
 | _ => 4 * g + 2
theorem slotsG_eq (m : MacV) (g : Int) : slotsG m g = [slotG m g 0, slotG m g 1, slotG m g 2, slotG m g 3] := by
 unfold slotsG slotG
 split <;> simp [*]
theorem slotG_div (m : MacV) (g : Int) (i : Nat) : slotG m g i / 4 = g := by
 unfold slotG
 split
 ·omega
 ·split <;> omega
 ·split <;> omega
 ·omega
theorem slotG_inj {m : MacV} {g : Int} {i j : Nat} (hi : i < 4) (hj : j < 4) (h : slotG m g i = slotG m g j) : i = j := by
 have hi' : i = 0 ∨ i = 1 ∨ i = 2 ∨ i = 3 := by omega
 have hj' : j = 0 ∨ j = 1 ∨ j = 2 ∨ j = 3 := by omega
 cases hf : fwdM m g <;> rcases hi' with rfl | rfl | rfl | rfl <;> rcases hj' with rfl | rfl | rfl | rfl <;> simp [slotG, hf] at h ⊢ <;> omega
/-- the numbers of carriers from left to right. -/
def orderG (m : MacV) (l : List Int) (g : Int) : List Int := (slotsG m g).filterMap (idxO l)
def orderM (m : MacV) (l : List Int) : List Int := (gearsL m).flatMap (orderG m l)

structure CrM where
 gear : Int
 over : Int
 under : Int
 going : Int
deriving DecidableEq
def crossA (m : MacV) (l : List Int) (g : Int) (x y : Nat) : Option CrM := match idxO l (slotG m g x), idxO l (slotG m g y) with
 | some a, some b => some (if fwdM m g then ⟨g, b, a, a⟩ else ⟨g, a, b, a⟩)
 | _, _ => none
def pairsX : List (Nat × Nat) := [(1, 2), (0, 2), (1, 3)]
def crossG (m : MacV) (l : List Int) (g : Int) : List CrM := pairsX.filterMap fun p => crossA m l g p.1 p.2
def crossM (m : MacV) (l : List Int) : List CrM := (gearsL m).flatMap (crossG m l)

def swpL (r : List Int) (i : Nat) : List Int := (r.set i (r.getD (i + 1) 0)).set (i + 1) (r.getD i 0)
def idxZ (l : List Int) (x : Int) : Int := (idxO l x).getD (-1)
def letterC (r : List Int) (c : CrM) : Int := if c.over = c.going then idxZ r c.going + 1 else -(idxZ r c.going) - 1
def weaveC (st : List Int × List Int) (c : CrM) : List Int × List Int := (swpL st.1 (idxZ st.1 c.going).toNat, st.2 ++ [letterC st.1 c])
def weaveS (m : MacV) (st : List Int × List Int) (l : List Int) : List Int × List Int := (crossM m l).foldl weaveC st
def stepL (m : MacV) (l : List Int) : List Int := l.map (nextM m)
theorem swpL_at (A C : List Int) (a b : Int) : swpL (A ++ a :: b :: C) A.length = A ++ b :: a :: C := by
 unfold swpL
 have h1 : (A ++ a :: b :: C).getD (A.length + 1) 0 = b := by simp [List.getD_eq_getElem?_getD]
 have h2 : (A ++ a :: b :: C).getD A.length 0 = a := by simp [List.getD_eq_getElem?_getD]
 rw [h1, h2, List.set_append_right _ _ (Nat.le_refl _), List.set_append_right _ _ (by omega)]
 simp
theorem idxO_mid {A C : List Int} {a : Int} (h : a ∉ A) : idxO (A ++ a :: C) a = some (A.length : Int) := by
 refine idxO_eq (by simp) (by simp) (fun j hj e => h ?_)
 rw [List.getElem?_append_left hj] at e
 exact List.mem_of_getElem? e
def bothX (f : Int → Int → CrM) (x y : Option Int) : Option CrM := match x, y with | some a, some b => some (f a b) | _, _ => none
/-- two neighbours that cross, if both are there. -/
theorem cross_swap {A C : List Int} {x y : Option Int} (hn : (A ++ [x, y].filterMap id ++ C).Nodup) {f : Int → Int → CrM} (hf : ∀ a b, (f a b).going = a) (out : List Int) :
  ∃ out', ((bothX f x y).toList.foldl weaveC (A ++ [x, y].filterMap id ++ C, out)) = (A ++ [y, x].filterMap id ++ C, out') ∧ (A ++ [y, x].filterMap id ++ C).Nodup := by
 match x, y with
 | none, none => exact ⟨out, rfl, hn⟩
 | none, some b => exact ⟨out, rfl, hn⟩
 | some a, none => exact ⟨out, rfl, hn⟩
 | some a, some b =>
  have ha : a ∉ A := by
   intro hm
   have h1 := List.nodup_append.1 (List.append_assoc _ _ _ ▸ hn)
   exact h1.2.2 a hm a (by simp) rfl
  have e : (A ++ [some a, some b].filterMap id ++ C) = A ++ a :: b :: C := by simp
  have e2 : (A ++ [some b, some a].filterMap id ++ C) = A ++ b :: a :: C := by simp
  rw [e] at hn ⊢
  rw [e2]
  refine ⟨out ++ [letterC (A ++ a :: b :: C) (f a b)], ?_, ?_⟩
  ·simp only [bothX, Option.toList, List.foldl_cons, List.foldl_nil, weaveC, hf]
   have : (idxZ (A ++ a :: b :: C) a).toNat = A.length := by unfold idxZ; rw [idxO_mid ha]; simp
   rw [this, swpL_at]
  ·refine hn.perm ?_
   exact List.Perm.append_left A (List.Perm.swap b a C)
end Go.Proofs.YtglpfpdomnllkaaGreatDoor

namespace Go.Proofs.YtglpfpdomnllkaaGreatDoor
set_option maxRecDepth 100000

abbrev catO (l : List (Option Int)) : List Int := l.filterMap id
def opG (m : MacV) (l : List Int) (g : Int) (i : Nat) : Option Int := idxO l (slotG m g i)
theorem orderG_eq (m : MacV) (l : List Int) (g : Int) : orderG m l g = catO [opG m l g 0, opG m l g 1, opG m l g 2, opG m l g 3] := by
 unfold orderG catO opG
 rw [slotsG_eq]
 simp [List.filterMap_cons]
def afterG (m : MacV) (l : List Int) (g : Int) : List Int := catO [opG m l g 2, opG m l g 0, opG m l g 3, opG m l g 1]
theorem crossG_eq (m : MacV) (l : List Int) (g : Int) : crossG m l g = (crossA m l g 1 2).toList ++ ((crossA m l g 0 2).toList ++ (crossA m l g 1 3).toList) := by
 unfold crossG pairsX
 simp only [List.filterMap_cons, List.filterMap_nil]
 generalize crossA m l g 1 2 = a
 generalize crossA m l g 0 2 = b
 generalize crossA m l g 1 3 = c
 cases a <;> cases b <;> cases c <;> rfl
def mkX (m : MacV) (g : Int) (a b : Int) : CrM := if fwdM m g then ⟨g, b, a, a⟩ else ⟨g, a, b, a⟩
theorem mkX_going (m : MacV) (g a b : Int) : (mkX m g a b).going = a := by unfold mkX; split <;> rfl
theorem crossA_eq (m : MacV) (l : List Int) (g : Int) (x y : Nat) : crossA m l g x y = bothX (mkX m g) (opG m l g x) (opG m l g y) := rfl
theorem catO_app (x y : List (Option Int)) : catO (x ++ y) = catO x ++ catO y := by simp [catO]
theorem crossG_row (m : MacV) (l : List Int) (g : Int) {A C : List Int} (hn : (A ++ orderG m l g ++ C).Nodup) (out : List Int) :
  ∃ out', (crossG m l g).foldl weaveC (A ++ orderG m l g ++ C, out) = (A ++ afterG m l g ++ C, out') ∧ (A ++ afterG m l g ++ C).Nodup := by
 rw [crossG_eq, orderG_eq] at *
 unfold afterG
 rw [crossA_eq, crossA_eq, crossA_eq]
 generalize opG m l g 0 = o0 at *
 generalize opG m l g 1 = o1 at *
 generalize opG m l g 2 = o2 at *
 generalize opG m l g 3 = o3 at *
 have e1 : A ++ catO [o0, o1, o2, o3] ++ C = (A ++ catO [o0]) ++ [o1, o2].filterMap id ++ (catO [o3] ++ C) := by
  rw [show [o0, o1, o2, o3] = [o0] ++ ([o1, o2] ++ [o3]) from rfl, catO_app, catO_app]; simp only [catO, List.append_assoc]
 have e2 : (A ++ catO [o0]) ++ [o2, o1].filterMap id ++ (catO [o3] ++ C) = A ++ [o0, o2].filterMap id ++ (catO [o1, o3] ++ C) := by
  rw [show [o0, o2] = [o0] ++ [o2] from rfl, show [o2, o1] = [o2] ++ [o1] from rfl, show [o1, o3] = [o1] ++ [o3] from rfl, catO_app, ]
  simp only [catO, List.filterMap_append, List.append_assoc]
 have e3 : A ++ [o2, o0].filterMap id ++ (catO [o1, o3] ++ C) = (A ++ catO [o2, o0]) ++ [o1, o3].filterMap id ++ C := by
  simp only [catO, List.append_assoc]
 have e4 : (A ++ catO [o2, o0]) ++ [o3, o1].filterMap id ++ C = A ++ catO [o2, o0, o3, o1] ++ C := by
  rw [show [o2, o0, o3, o1] = [o2, o0] ++ [o3, o1] from rfl, catO_app]; simp only [catO, List.append_assoc]
 rw [e1] at hn ⊢
 rw [List.foldl_append, List.foldl_append]
 obtain ⟨u1, h1, n1⟩ := cross_swap hn (mkX_going m g) out
 rw [h1]
 rw [e2] at n1 ⊢
 obtain ⟨u2, h2, n2⟩ := cross_swap n1 (mkX_going m g) u1
 rw [h2]
 rw [e3] at n2 ⊢
 obtain ⟨u3, h3, n3⟩ := cross_swap n2 (mkX_going m g) u2
 rw [h3]
 rw [e4] at n3 ⊢
 exact ⟨u3, rfl, n3⟩
theorem crossL_row (m : MacV) (l : List Int) : ∀ (gs : List Int) (A out : List Int), (A ++ gs.flatMap (orderG m l)).Nodup →
  ∃ out', (gs.flatMap (crossG m l)).foldl weaveC (A ++ gs.flatMap (orderG m l), out) = (A ++ gs.flatMap (afterG m l), out') ∧ (A ++ gs.flatMap (afterG m l)).Nodup
 | [], A, out, hn => ⟨out, rfl, hn⟩
 | g :: gs, A, out, hn => by
   simp only [List.flatMap_cons] at hn ⊢
   rw [← List.append_assoc] at hn ⊢
   obtain ⟨u1, h1, n1⟩ := crossG_row m l g hn out
   rw [List.foldl_append, h1]
   obtain ⟨u2, h2, n2⟩ := crossL_row m l gs (A ++ afterG m l g) u1 n1
   rw [h2]
   rw [← List.append_assoc]
   exact ⟨u2, rfl, n2⟩

theorem gearsL_mem {m : MacV} {g : Int} : g ∈ gearsL m ↔ 0 ≤ g ∧ g < m.gears := by
 unfold gearsL
 simp only [List.mem_map, List.mem_range]
 constructor
 ·rintro ⟨k, hk, rfl⟩; omega
 ·intro h; exact ⟨g.toNat, by omega, by omega⟩
theorem gearsL_nodup (m : MacV) : (gearsL m).Nodup := by
 unfold gearsL List.Nodup
 rw [List.pairwise_map]
 have := List.nodup_range (n := m.gears.toNat)
 exact this.imp (fun h e => h (by omega))
theorem slotsG_nodup (m : MacV) (g : Int) : (slotsG m g).Nodup := by
 unfold slotsG
 split <;> simp <;> omega
theorem slotsG_mem {m : MacV} {g s : Int} : s ∈ slotsG m g ↔ s / 4 = g := by
 unfold slotsG
 split <;> simp <;> omega
theorem seqM_nodup (m : MacV) : ((gearsL m).flatMap (slotsG m)).Nodup := by
 unfold List.Nodup
 rw [List.pairwise_flatMap]
 refine ⟨fun g _ => slotsG_nodup m g, (gearsL_nodup m).imp ?_⟩
 intro a b hab x hx y hy e
 rw [slotsG_mem] at hx hy
 exact hab (by rw [← hx, ← hy, e])
theorem idxO_inj {l : List Int} {x y i : Int} (h : idxO l x = some i) (k : idxO l y = some i) : x = y := by
 have a := (idxO_some h).2.2
 have b := (idxO_some k).2.2
 rw [a] at b
 exact Option.some.inj b
theorem orderM_seq (m : MacV) (l : List Int) : orderM m l = ((gearsL m).flatMap (slotsG m)).filterMap (idxO l) := by
 unfold orderM orderG
 rw [List.filterMap_flatMap]
theorem orderM_nodup (m : MacV) (l : List Int) : (orderM m l).Nodup := by
 rw [orderM_seq]
 unfold List.Nodup
 rw [List.pairwise_filterMap]
 refine (seqM_nodup m).imp ?_
 intro a b hab x hx y hy e
 subst e
 exact hab (idxO_inj hx hy)
def afterM (m : MacV) (l : List Int) : List Int := (gearsL m).flatMap (afterG m l)
theorem weaveS_row (m : MacV) (l out : List Int) : ∃ out', weaveS m (orderM m l, out) l = (afterM m l, out') ∧ (afterM m l).Nodup := by
 have := crossL_row m l (gearsL m) [] out (by simpa [orderM] using orderM_nodup m l)
 simpa [weaveS, crossM, orderM, afterM] using this

theorem idxO_map {l : List Int} {f : Int → Int} {s t : Int} (h : ∀ x ∈ l, f x = s ↔ x = t) : idxO (l.map f) s = idxO l t := by
 have e : (l.map f).findIdx (· == s) = l.findIdx (· == t) := by
  rw [List.findIdx_map]
  induction l with
  | nil => rfl
  | cons x r ih =>
   rw [List.findIdx_cons, List.findIdx_cons, ih (fun y hy => h y (List.mem_cons_of_mem _ hy))]
   have := h x List.mem_cons_self
   have e2 : ((fun x => x == s) ∘ f) x = (x == t) := by
    simp only [Function.comp]
    rw [Bool.eq_iff_iff]; simpa using this
   rw [e2]
 unfold idxO
 rw [e, List.length_map]
theorem rot_slot {m : MacV} {g : Int} : rotM m (slotG m g 2) = slotG m g 0 ∧ rotM m (slotG m g 0) = slotG m g 1 ∧ rotM m (slotG m g 3) = slotG m g 2 ∧ rotM m (slotG m g 1) = slotG m g 3 := by
 have hd := fun i => slotG_div m g i
 unfold rotM
 rw [hd, hd, hd, hd]
 cases hf : fwdM m g <;> simp [slotG, hf] <;> omega
theorem slotG_rng {m : MacV} {g : Int} (h0 : 0 ≤ g) (h1 : g < m.gears) (i : Nat) : 0 ≤ slotG m g i ∧ slotG m g i < 4 * m.gears := by
 unfold slotG
 split
 ·omega
 ·split <;> omega
 ·split <;> omega
 ·omega
theorem idxO_rot {m : MacV} {l : List Int} (hl : ∀ x ∈ l, 0 ≤ x ∧ x < 4 * m.gears) {s t : Int} (h0 : 0 ≤ t) (h1 : t < 4 * m.gears) (h : rotM m t = s) : idxO (l.map (rotM m)) s = idxO l t :=
 idxO_map fun x hx => ⟨fun e => rot_inj (hl x hx).1 (hl x hx).2 h0 h1 (e.trans h.symm), fun e => e ▸ h⟩
theorem over_inj {m : MacV} {s t : Int} (h0 : 0 ≤ s) (h1 : s < 4 * m.gears) (k0 : 0 ≤ t) (k1 : t < 4 * m.gears) (e : overM m s = overM m t) : s = t := by
 have := congrArg (overM m) e
 rwa [over_over h0 h1, over_over k0 k1] at this
theorem idxO_over {m : MacV} {l : List Int} (hl : ∀ x ∈ l, 0 ≤ x ∧ x < 4 * m.gears) {s : Int} (h0 : 0 ≤ s) (h1 : s < 4 * m.gears) : idxO (l.map (overM m)) s = idxO l (overM m s) :=
 idxO_map fun x hx => ⟨fun e => by rw [← e, over_over (hl x hx).1 (hl x hx).2], fun e => by rw [e, over_over h0 h1]⟩
theorem after_rot {m : MacV} {l : List Int} (hl : ∀ x ∈ l, 0 ≤ x ∧ x < 4 * m.gears) : afterM m l = orderM m (l.map (rotM m)) := by
 unfold afterM orderM
 have key : ∀ g ∈ gearsL m, afterG m l g = orderG m (l.map (rotM m)) g := by
  intro g hg
  obtain ⟨h0, h1⟩ := gearsL_mem.1 hg
  obtain ⟨r2, r0, r3, r1⟩ := rot_slot (m := m) (g := g)
  have k := fun i => slotG_rng (m := m) h0 h1 i
  rw [orderG_eq]
  unfold afterG opG
  rw [idxO_rot hl (k 2).1 (k 2).2 r2, idxO_rot hl (k 0).1 (k 0).2 r0, idxO_rot hl (k 3).1 (k 3).2 r3, idxO_rot hl (k 1).1 (k 1).2 r1]
 have : ∀ gs : List Int, (∀ g ∈ gs, g ∈ gearsL m) → gs.flatMap (afterG m l) = gs.flatMap (orderG m (l.map (rotM m))) := by
  intro gs
  induction gs with
  | nil => intro _; rfl
  | cons g gs ih => intro h; rw [List.flatMap_cons, List.flatMap_cons, key g (h g List.mem_cons_self), ih (fun x hx => h x (List.mem_cons_of_mem _ hx))]
 exact this _ (fun _ h => h)

/-- the same, taken apart at the shared places. -/
theorem regroup (F : Nat → List Int) (a bc d : Nat → List Int) (hF : ∀ g, F g = a g ++ bc g ++ d g) : ∀ k : Nat, (List.range (k + 1)).flatMap F = a 0 ++ (List.range k).flatMap (fun g => bc g ++ (d g ++ a (g + 1))) ++ (bc k ++ d k)
 | 0 => by simp [List.range_succ, hF]
 | k + 1 => by
   rw [List.range_succ, List.flatMap_append, regroup F a bc d hF k, List.range_succ, List.flatMap_append]
   simp [hF, List.append_assoc]
theorem placeM_slot {m : MacV} (g : Int) : placeM m (slotG m g 0) = g ∧ placeM m (slotG m g 1) = -1 ∧ placeM m (slotG m g 2) = -1 ∧ (m.ring = false → placeM m (slotG m g 3) = g + 1) := by
 cases hf : fwdM m g <;> unfold placeM slotG <;> simp only [hf, if_true, if_false, Bool.false_eq_true] <;> refine ⟨?_, ?_, ?_, fun hr => ?_⟩ <;> (repeat' split) <;> first | omega | simp_all <;> omega
/-- no two of these carriers are in both slots of a shared place. -/
def NoHit (m : MacV) (l : List Int) : Prop := ∀ x ∈ l, ∀ y ∈ l, x ≠ y → hitM m x y = false
theorem order_over {m : MacV} {l : List Int} (hr : m.ring = false) (hl : ∀ x ∈ l, 0 ≤ x ∧ x < 4 * m.gears) (hno : NoHit m l) : orderM m (l.map (overM m)) = orderM m l := by
 by_cases hg : m.gears ≤ 0
 ·have : m.gears.toNat = 0 := by omega
  simp [orderM, gearsL, this]
 obtain ⟨k, hk⟩ : ∃ k : Nat, m.gears.toNat = k + 1 := ⟨m.gears.toNat - 1, by omega⟩
 have hkg : m.gears = (k : Int) + 1 := by omega
 have hu : ∀ L : List Int, orderM m L = (List.range (k + 1)).flatMap (fun g : Nat => orderG m L (g : Int)) := by
  intro L
  unfold orderM gearsL
  rw [hk, List.flatMap_map]
 have hF : ∀ (L : List Int) (g : Nat), orderG m L (g : Int) = catO [opG m L g 0] ++ catO [opG m L g 1, opG m L g 2] ++ catO [opG m L g 3] := by
  intro L g
  rw [orderG_eq, ← catO_app, ← catO_app]
  rfl
 rw [hu, hu, regroup _ _ _ _ (hF (l.map (overM m))) k, regroup _ _ _ _ (hF l) k]
 have stay : ∀ (g i : Nat), (g : Int) < m.gears → goesM m (slotG m g i) = false → opG m (l.map (overM m)) g i = opG m l g i := by
  intro g i hg hno
  obtain ⟨s0, s1⟩ := slotG_rng (m := m) (g := (g : Int)) (by omega) hg i
  unfold opG
  rw [idxO_over hl s0 s1]
  unfold overM
  rw [hno]
  rfl
 have gm1 : ∀ (g : Nat), goesM m (slotG m g 1) = false := fun g => by unfold goesM; rw [(placeM_slot g).2.1]; simp
 have gm2 : ∀ (g : Nat), goesM m (slotG m g 2) = false := fun g => by unfold goesM; rw [(placeM_slot g).2.2.1]; simp
 have gm0 : goesM m (slotG m ((0 : Nat) : Int) 0) = false := by unfold goesM; rw [(placeM_slot _).1]; simp [sharedM, hr]
 have gmk : goesM m (slotG m (k : Int) 3) = false := by
  unfold goesM
  rw [(placeM_slot (m := m) (k : Int)).2.2.2 hr]
  have : sharedM m ((k : Int) + 1) = false := by unfold sharedM; simp [hr, hkg]
  rw [this]; simp
 have z0 : catO [opG m (l.map (overM m)) ((0 : Nat) : Int) 0] = catO [opG m l ((0 : Nat) : Int) 0] := by rw [stay 0 0 (by omega) gm0]
 have zk : catO [opG m (l.map (overM m)) k 1, opG m (l.map (overM m)) k 2] ++ catO [opG m (l.map (overM m)) k 3] = catO [opG m l k 1, opG m l k 2] ++ catO [opG m l k 3] := by
  rw [stay k 1 (by omega) (gm1 k), stay k 2 (by omega) (gm2 k), stay k 3 (by omega) gmk]
 rw [z0, zk]
 congr 2
 have mid : ∀ g : Nat, g < k → (catO [opG m (l.map (overM m)) g 1, opG m (l.map (overM m)) g 2] ++ (catO [opG m (l.map (overM m)) g 3] ++ catO [opG m (l.map (overM m)) ((g + 1 : Nat) : Int) 0])) = (catO [opG m l g 1, opG m l g 2] ++ (catO [opG m l g 3] ++ catO [opG m l ((g + 1 : Nat) : Int) 0])) := by
  intro g hg
  rw [stay g 1 (by omega) (gm1 g), stay g 2 (by omega) (gm2 g)]
  congr 1
  have p3 := (placeM_slot (m := m) (g : Int)).2.2.2 hr
  have p0 := (placeM_slot (m := m) ((g + 1 : Nat) : Int)).1
  have e3 : slotG m (g : Int) 3 = 4 * (g : Int) + 2 := rfl
  have e0 : slotG m ((g + 1 : Nat) : Int) 0 = 4 * ((g + 1 : Nat) : Int) := rfl
  have hsh : sharedM m ((g : Int) + 1) = true := shared_iff.2 ⟨by omega, by omega, .inr (by omega)⟩
  have r3 := slotG_rng (m := m) (g := (g : Int)) (by omega) (by omega) 3
  have r0 := slotG_rng (m := m) (g := ((g + 1 : Nat) : Int)) (by omega) (by omega) 0
  cases hsw : m.sw.contains ((g : Int) + 1)
  ·have hb : befM m ((g : Int) + 1) = g := by unfold befM; rw [if_neg (by omega)]; omega
   have o3 : overM m (slotG m (g : Int) 3) = slotG m ((g + 1 : Nat) : Int) 0 := by
    have hgo : goesM m (slotG m (g : Int) 3) = true := by unfold goesM; rw [p3, hsh, hsw]; simp; omega
    unfold overM
    rw [if_pos hgo, p3, hb, e3, e0]
    omega
   have o0 : overM m (slotG m ((g + 1 : Nat) : Int) 0) = slotG m (g : Int) 3 := by rw [← o3, over_over r3.1 r3.2]
   have a3 : opG m (l.map (overM m)) (g : Int) 3 = opG m l ((g + 1 : Nat) : Int) 0 := by unfold opG; rw [idxO_over hl r3.1 r3.2, o3]
   have a0 : opG m (l.map (overM m)) ((g + 1 : Nat) : Int) 0 = opG m l (g : Int) 3 := by unfold opG; rw [idxO_over hl r0.1 r0.2, o0]
   rw [a3, a0]
   -- at most one of them is there
   match h1 : opG m l (g : Int) 3, h2 : opG m l ((g + 1 : Nat) : Int) 0 with
   | none, none => rfl
   | none, some b => rfl
   | some a, none => rfl
   | some a, some b =>
    exfalso
    have m1 := List.mem_of_getElem? (idxO_some h1).2.2
    have m2 := List.mem_of_getElem? (idxO_some h2).2.2
    have hh := hno _ m1 _ m2 (by rw [e3, e0]; omega)
    unfold hitM at hh
    rw [p3, p0, hsh] at hh
    simp at hh
    omega
  ·have g3 : goesM m (slotG m (g : Int) 3) = false := by unfold goesM; rw [p3, hsw]; simp
   have g0 : goesM m (slotG m ((g + 1 : Nat) : Int) 0) = false := by
    unfold goesM; rw [p0, show ((g + 1 : Nat) : Int) = (g : Int) + 1 by omega, hsw]; simp
   rw [stay g 3 (by omega) g3, stay (g + 1) 0 (by omega) g0]
 have : ∀ j, j ≤ k → (List.range j).flatMap (fun g : Nat => catO [opG m (l.map (overM m)) (g : Int) 1, opG m (l.map (overM m)) (g : Int) 2] ++ (catO [opG m (l.map (overM m)) (g : Int) 3] ++ catO [opG m (l.map (overM m)) ((g + 1 : Nat) : Int) 0])) = (List.range j).flatMap (fun g : Nat => catO [opG m l (g : Int) 1, opG m l (g : Int) 2] ++ (catO [opG m l (g : Int) 3] ++ catO [opG m l ((g + 1 : Nat) : Int) 0])) := by
  intro j
  induction j with
  | zero => intro _; rfl
  | succ j ih => intro h; rw [List.range_succ, List.flatMap_append, List.flatMap_append, ih (by omega)]; simp only [List.flatMap_cons, List.flatMap_nil, List.append_nil]; rw [mid j (by omega)]
 exact this k (Nat.le_refl _)
theorem order_step {m : MacV} {l : List Int} (hr : m.ring = false) (hl : ∀ x ∈ l, 0 ≤ x ∧ x < 4 * m.gears) (hno : NoHit m (stepL m l)) : afterM m l = orderM m (stepL m l) := by
 have hl2 : ∀ x ∈ l.map (rotM m), 0 ≤ x ∧ x < 4 * m.gears := by
  intro x hx
  obtain ⟨y, hy, rfl⟩ := List.mem_map.1 hx
  have := rot_rng (hl y hy).1 (hl y hy).2
  exact ⟨this.1, this.2.1⟩
 have e : stepL m l = (l.map (rotM m)).map (overM m) := by unfold stepL; rw [List.map_map]; rfl
 rw [after_rot hl, e, order_over hr hl2]
 intro x hx y hy hxy
 have hx2 := hl2 x hx
 have hy2 := hl2 y hy
 have h1 := hno (overM m x) (by rw [e]; exact List.mem_map_of_mem hx) (overM m y) (by rw [e]; exact List.mem_map_of_mem hy) (fun e => hxy (over_inj hx2.1 hx2.2 hy2.1 hy2.2 e))
 have pl : ∀ s, 0 ≤ s → s < 4 * m.gears → placeM m (overM m s) = placeM m s := by
  intro s h0 h1
  rcases over_cases h0 h1 with ⟨_, e⟩ | ⟨_, _, _, hp, _⟩
  ·rw [e]
  ·exact hp
 unfold hitM at h1 ⊢
 rw [pl x hx2.1 hx2.2, pl y hy2.1 hy2.2] at h1
 exact h1
end Go.Proofs.YtglpfpdomnllkaaGreatDoor

namespace Go.Proofs.YtglpfpdomnllkaaGreatDoor
set_option maxRecDepth 100000

def rowC (r : List Int) (c : CrM) : List Int := swpL r (idxZ r c.going).toNat
theorem fold_fst : ∀ (cs : List CrM) (r out : List Int), (cs.foldl weaveC (r, out)).1 = cs.foldl rowC r
 | [], r, out => rfl
 | c :: cs, r, out => by rw [List.foldl_cons, List.foldl_cons, weaveC]; exact fold_fst cs _ _
end Go.Proofs.YtglpfpdomnllkaaGreatDoor

namespace Go.Proofs.YtglpfpdomnllkaaGreatDoor
open Go.RowKit
set_option maxHeartbeats 400000
set_option maxRecDepth 100000

/-- a slice that can be read, in a block of its own. -/
def pRd {α : Type} (c : α → Value) (sz : Nat) (a : Option Addr) (cap : Nat) (l : List α) : Pc where
 P w b := Reps c sz w a cap l ∧ ((l = [] ∧ b = none) ∨ ∃ x, a = some x ∧ b = some x.block ∧ x.block < w.heap.size)
 lt w k h := by
  rcases h.2 with ⟨_, h2⟩ | ⟨x, _, h2, h3⟩
  ·cases h2
  ·cases h2; exact h3
 loc w w' row b h hg hne := by
  rcases h.2 with ⟨h1, h2⟩ | ⟨x, h1, h2, h3⟩
  ·subst h1
   obtain ⟨r1, r2, r3, r4, r5⟩ := h.1
   exact ⟨⟨r1, r2, r3, r4, fun j u hj => by simp at hj⟩, .inl ⟨rfl, h2⟩⟩
  ·exact ⟨h.1.grown hg (fun b' e => by rw [h1] at e; cases e; exact fun e2 => hne _ h2 e2.symm), .inr ⟨x, h1, h2, Nat.lt_of_lt_of_le h3 hg.size⟩⟩
theorem SL.newRd {α : Type} {c : α → Value} {sz : Nat} {B : Nat} {w0 w w' : World} {L : List Pc} {a : Option Addr} {cap : Nat} {l : List α} (h : SL B w0 w L) (hb : Below w.heap.size w w') (hR : Reps c sz w' a cap l) (hsz : 0 < sz) (hf : ∀ b, a = some b → w.heap.size ≤ b.block) : SL B w0 w' (pRd c sz a cap l :: L) := by
 by_cases hl : l = []
 ·exact h.new (pRd c sz a cap l) (b := none) (grown_of_below hb) ⟨hR, .inl ⟨hl, rfl⟩⟩ (fun k e => by cases e)
 ·have hp : 0 < l.length := List.length_pos_iff.2 hl
  obtain ⟨b, o, e, hc⟩ := hR.cells hsz (l[0]) 0 hp
  have hz : 0 < (c (l.getD 0 l[0])).cells.toList.length := by have := hR.1 (l.getD 0 l[0]); rw [Array.length_toList, this]; exact hsz
  have h1 : (c (l.getD 0 l[0])).cells.toList[0]? = some ((c (l.getD 0 l[0])).cells.toList[0]'hz) := List.getElem?_eq_getElem hz
  have hlt := World.block_lt_of_cell? w' _ (hc 0 _ h1)
  subst e
  exact h.new (pRd c sz (some ⟨b, o, none⟩) cap l) (b := some b) (grown_of_below hb) ⟨hR, .inr ⟨_, rfl, rfl, hlt⟩⟩ (fun k e => by cases e; exact hf _ rfl)
theorem SL.rdR {α : Type} {c : α → Value} {sz : Nat} {B : Nat} {w0 w : World} {L : List Pc} {a : Option Addr} {cap : Nat} {l : List α} (h : SL B w0 w L) (i : Nat) (hi : L[i]? = some (pRd c sz a cap l)) : Reps c sz w a cap l := by
 obtain ⟨b, h1, _, _⟩ := h.upd i hi
 exact h1.1
end Go.Proofs.YtglpfpdomnllkaaGreatDoor

namespace Go.Proofs.YtglpfpdomnllkaaGreatDoor
open Go.RowKit
set_option maxHeartbeats 2000000
set_option maxRecDepth 100000

abbrev mV (m : MacV) (ad : Option Addr) (cap : Nat) : Value := .agg #[.bool m.ring, .int .i64 m.gears, .int .i64 m.turn, .slice ad m.sw.length cap]
end Go.Proofs.YtglpfpdomnllkaaGreatDoor

namespace Go.Proofs.YtglpfpdomnllkaaGreatDoor
open Go.RowKit
set_option maxHeartbeats 8000000
set_option maxRecDepth 100000

noncomputable def meetsM (m : MacV) (l : List Int) (n : Int) : Bool := match firstM m l with
 | none => false
 | some x => decide ((x.1 : Int) ≤ n)
end Go.Proofs.YtglpfpdomnllkaaGreatDoor

namespace Go.Proofs.YtglpfpdomnllkaaGreatDoor
open Go.RowKit
set_option maxHeartbeats 8000000
set_option maxRecDepth 100000

structure LoadOk (m : MacV) (l : List Int) : Prop where
 mac : macE m = 0
 ok : MacOk m
 few : l.length ≤ 4 * m.gears
 rng : ∀ x ∈ l, 0 ≤ x ∧ x < 4 * m.gears
 nodup : l.Nodup
end Go.Proofs.YtglpfpdomnllkaaGreatDoor

namespace Go.Proofs.YtglpfpdomnllkaaGreatDoor
set_option maxRecDepth 100000

theorem befo_irrefl (a : Nat × Int) : befo a a = false := by simp [befo]
theorem befo_false {a b : Nat × Int} : befo a b = false ↔ b.1 < a.1 ∨ (b.1 = a.1 ∧ b.2 ≤ a.2) := by
 unfold befo
 simp only [Bool.or_eq_false_iff, Bool.and_eq_false_imp, decide_eq_false_iff_not, decide_eq_true_eq]
 constructor
 ·rintro ⟨h1, h2⟩
  by_cases e : a.1 = b.1
  ·right; have := h2 e; omega
  ·left; omega
 ·rintro (h | ⟨h1, h2⟩)
  ·exact ⟨by omega, fun e => by omega⟩
  ·exact ⟨by omega, fun _ => by omega⟩
theorem foldF_spec (m : MacV) : ∀ (ps : List (Int × Int)) (acc : Option (Nat × Int)),
  (ps.foldl (fun b p => bestS b (meetM m p.1 p.2)) acc = none → acc = none ∧ ∀ p ∈ ps, meetM m p.1 p.2 = none) ∧
  (∀ b, ps.foldl (fun b p => bestS b (meetM m p.1 p.2)) acc = some b → (∀ a, acc = some a → befo a b = false) ∧ (∀ p ∈ ps, ∀ v, meetM m p.1 p.2 = some v → befo v b = false) ∧ (acc = some b ∨ ∃ p ∈ ps, meetM m p.1 p.2 = some b))
 | [], acc => ⟨fun h => ⟨h, fun p hp => absurd hp (by simp)⟩, fun b h => ⟨fun a ha => by rw [List.foldl_nil] at h; rw [ha] at h; cases h; exact befo_irrefl _, fun p hp => absurd hp (by simp), .inl h⟩⟩
 | q :: ps, acc => by
   rw [List.foldl_cons]
   obtain ⟨h1, h2⟩ := foldF_spec m ps (bestS acc (meetM m q.1 q.2))
   constructor
   · intro h
     obtain ⟨k1, k2⟩ := h1 h
     cases hm : meetM m q.1 q.2 with
     | none =>
       rw [hm] at k1
       exact ⟨k1, fun p hp => by rcases List.mem_cons.1 hp with rfl | hp; exact hm; exact k2 p hp⟩
     | some v =>
       rw [hm] at k1
       cases acc with
       | none => cases k1
       | some w => unfold bestS at k1; dsimp only at k1; split at k1 <;> cases k1
   · intro b h
     obtain ⟨k1, k2, k3⟩ := h2 b h
     cases hm : meetM m q.1 q.2 with
     | none =>
       rw [hm] at k1 k3
       refine ⟨k1, fun p hp v hv => ?_, ?_⟩
       · rcases List.mem_cons.1 hp with rfl | hp
         · rw [hm] at hv; cases hv
         · exact k2 p hp v hv
       · rcases k3 with k3 | ⟨p, hp, e⟩
         · exact .inl k3
         · exact .inr ⟨p, List.mem_cons_of_mem _ hp, e⟩
     | some v =>
       rw [hm] at k1 k3
       have low : ∀ c, bestS acc (some v) = some c → (∀ a, acc = some a → befo a c = false) ∧ befo v c = false ∧ (acc = some c ∨ v = c) := by
         intro c hc
         cases acc with
         | none => cases hc; exact ⟨fun a ha => (by cases ha), befo_irrefl _, .inr rfl⟩
         | some w =>
           unfold bestS at hc
           dsimp only at hc
           split at hc
           · rename_i hb
             cases hc
             refine ⟨fun a ha => ?_, befo_irrefl _, .inr rfl⟩
             cases ha
             unfold befo at hb
             simp only [Bool.or_eq_true, Bool.and_eq_true, decide_eq_true_eq] at hb
             rw [befo_false]; omega
           · rename_i hb
             cases hc
             exact ⟨fun a ha => (by cases ha; exact befo_irrefl _), by simpa using hb, .inl rfl⟩
       obtain ⟨c, hc⟩ : ∃ c, bestS acc (some v) = some c := by
         cases acc with
         | none => exact ⟨v, rfl⟩
         | some w => unfold bestS; dsimp only; split <;> exact ⟨_, rfl⟩
       obtain ⟨l1, l2, l3⟩ := low c hc
       have kc := k1 c hc
       have tr : ∀ a, befo a c = false → befo a b = false := by
         intro a ha
         rw [befo_false] at ha kc ⊢
         omega
       refine ⟨fun a ha => tr a (l1 a ha), fun p hp v' hv' => ?_, ?_⟩
       · rcases List.mem_cons.1 hp with rfl | hp
         · rw [hm] at hv'; cases hv'; exact tr _ l2
         · exact k2 p hp v' hv'
       · rcases k3 with k3 | ⟨p, hp, e⟩
         · rw [hc] at k3
           cases k3
           rcases l3 with l3 | l3
           · exact .inl l3
           · exact .inr ⟨q, List.mem_cons_self, by rw [hm, l3]⟩
         · exact .inr ⟨p, List.mem_cons_of_mem _ hp, e⟩
theorem pairsTo_mem {l : List Int} {p : Int × Int} {n : Nat} (hn : n ≤ l.length) : p ∈ pairsTo l n ↔ ∃ i j : Nat, j < i ∧ i < n ∧ p = (atD 0 l i, atD 0 l j) := by
 unfold pairsTo
 simp only [List.mem_flatMap, List.mem_range, List.mem_map]
 constructor
 ·rintro ⟨i, hi, b, hb, rfl⟩
  obtain ⟨j, hj, e⟩ := List.mem_iff_getElem.1 hb
  rw [List.length_take] at hj
  refine ⟨i, j, by omega, hi, ?_⟩
  rw [List.getElem_take] at e
  have hjl : j < l.length := by omega
  rw [← e]
  simp [atD, hjl]
 ·rintro ⟨i, j, hji, hi, rfl⟩
  have hjl : j < l.length := by omega
  refine ⟨i, hi, atD 0 l j, ?_, rfl⟩
  refine List.mem_iff_getElem.2 ⟨j, by simp; omega, ?_⟩
  simp [atD, hjl]
theorem hitM_symm (m : MacV) (x y : Int) : hitM m x y = hitM m y x := by
 unfold hitM
 by_cases e : placeM m x = placeM m y
 ·rw [e]
 ·rw [decide_eq_false e, decide_eq_false (show ¬ placeM m y = placeM m x from fun h => e h.symm), Bool.and_false, Bool.and_false]
/-- no meeting up to some steps. -/
theorem no_meets {m : MacV} {l : List Int} {n : Int} (h : meetsM m l n = false) {k : Nat} (hk : (k : Int) ≤ n) : NoHit m (l.map fun s => itM m s k) := by
 have key : ∀ i j : Nat, j < i → i < l.length → hitM m (itM m (atD 0 l i) k) (itM m (atD 0 l j) k) = false := by
  intro i j hji hi
  have hsp := meetM_spec m (atD 0 l i) (atD 0 l j)
  have hp := (pairsTo_mem (l := l) (n := l.length) (Nat.le_refl _)).2 ⟨i, j, hji, hi, rfl⟩
  obtain ⟨s1, s2⟩ := foldF_spec m (pairsTo l l.length) none
  cases hm : meetM m (atD 0 l i) (atD 0 l j) with
  | none => rw [hm] at hsp; exact hsp k
  | some v =>
   rw [hm] at hsp
   refine hsp.2.2 k ?_
   unfold meetsM at h
   cases hf : firstM m l with
   | none =>
    have := (s1 hf).2 _ hp
    rw [hm] at this; cases this
   | some b =>
    rw [hf] at h
    have hb := (s2 b hf).2.1 _ hp v hm
    rw [befo_false] at hb
    simp only [decide_eq_false_iff_not] at h
    omega
 intro x hx y hy hxy
 obtain ⟨a, ha, rfl⟩ := List.mem_map.1 hx
 obtain ⟨b, hb, rfl⟩ := List.mem_map.1 hy
 obtain ⟨i, hi, rfl⟩ := List.mem_iff_getElem.1 ha
 obtain ⟨j, hj, rfl⟩ := List.mem_iff_getElem.1 hb
 have ei : atD 0 l (i : Int) = l[i] := by simp [atD, hi]
 have ej : atD 0 l (j : Int) = l[j] := by simp [atD, hj]
 rcases Nat.lt_trichotomy j i with hl | hl | hl
 ·rw [← ei, ← ej]; exact key i j hl hi
 ·subst hl; exact absurd rfl hxy
 ·rw [← ei, ← ej, hitM_symm]; exact key j i hl hj
/-- the carriers after some steps. -/
noncomputable def atL (m : MacV) (l : List Int) (k : Nat) : List Int := l.map fun s => itM m s k
theorem atL_succ {m : MacV} {l : List Int} (hl : ∀ x ∈ l, 0 ≤ x ∧ x < 4 * m.gears) (k : Nat) : stepL m (atL m l k) = atL m l (k + 1) := by
 unfold atL stepL
 rw [List.map_map]
 exact List.map_congr_left (fun x hx => (itM_succ (hl x hx).1 (hl x hx).2 k).symm)
theorem atL_rng {m : MacV} {l : List Int} (hl : ∀ x ∈ l, 0 ≤ x ∧ x < 4 * m.gears) (k : Nat) : ∀ x ∈ atL m l k, 0 ≤ x ∧ x < 4 * m.gears := by
 intro x hx
 obtain ⟨y, hy, rfl⟩ := List.mem_map.1 hx
 exact itM_rng (hl y hy).1 (hl y hy).2 k
/-- row and letters after some steps. -/
noncomputable def wvM (m : MacV) (l : List Int) : Nat → List Int × List Int
 | 0 => (orderM m l, [])
 | k + 1 => weaveS m (wvM m l k) (atL m l k)
theorem wvM_row {m : MacV} {l : List Int} (hr : m.ring = false) (hl : ∀ x ∈ l, 0 ≤ x ∧ x < 4 * m.gears) {n : Int} (h : meetsM m l n = false) : ∀ k : Nat, (k : Int) ≤ n → (wvM m l k).1 = orderM m (atL m l k)
 | 0, _ => by
   show orderM m l = _
   have : atL m l 0 = l := by
     unfold atL
     conv => rhs; rw [← List.map_id l]
     exact List.map_congr_left (fun x _ => rfl)
   rw [this]
 | k + 1, hk => by
   have ih := wvM_row hr hl h k (by omega)
   obtain ⟨out', h1, _⟩ := weaveS_row m (atL m l k) (wvM m l k).2
   rw [wvM]
   rw [show wvM m l k = (orderM m (atL m l k), (wvM m l k).2) from Prod.ext ih rfl] at *
   rw [h1]
   have hno := no_meets h hk
   rw [show l.map (fun s => itM m s (k + 1)) = atL m l (k + 1) from rfl, ← atL_succ hl k] at hno
   show afterM m (atL m l k) = _
   rw [order_step hr (atL_rng hl k) hno, atL_succ hl k]
end Go.Proofs.YtglpfpdomnllkaaGreatDoor

namespace Go.Proofs.YtglpfpdomnllkaaGreatDoor
open Go.RowKit
set_option maxRecDepth 100000
/-- all blocks from B on stay as they are, and those of K. -/
structure KeepNew (K : Nat → Prop) (B : Nat) (W W' : World) : Prop where
 size : W.heap.size ≤ W'.heap.size
 same : ∀ k, (B ≤ k ∨ K k) → k < W.heap.size → W'.heap[k]? = W.heap[k]?
theorem KeepNew.refl (K : Nat → Prop) (B : Nat) (W : World) : KeepNew K B W W := ⟨Nat.le_refl _, fun _ _ _ => rfl⟩
theorem KeepNew.trans {K : Nat → Prop} {B : Nat} {X Y Z : World} (h : KeepNew K B X Y) (k : KeepNew K B Y Z) : KeepNew K B X Z := ⟨Nat.le_trans h.size k.size, fun i h0 h1 => (k.same i h0 (Nat.lt_of_lt_of_le h1 h.size)).trans (h.same i h0 h1)⟩
theorem KeepNew.le {K : Nat → Prop} {B C : Nat} {X Y : World} (h : KeepNew K B X Y) (hB : B ≤ C) : KeepNew K C X Y := ⟨h.size, fun i h0 h1 => h.same i (h0.imp (fun e => Nat.le_trans hB e) id) h1⟩
theorem KeepNew.put {K : Nat → Prop} {C : Nat} {X : World} {l : Nat} (o : Obj) (hl : l < C) (hk : ¬ K l) : KeepNew K C X (X.putObj l o) := ⟨by simp [World.putObj], fun i h0 h1 => World.putObj_heap_other (fun e => by subst e; rcases h0 with h0 | h0; omega; exact hk h0)⟩
theorem KeepNew.grown {K : Nat → Prop} {C : Nat} {X Y : World} {row : Option Nat} (h : X.grownBy Y row) (hr : ∀ r, row = some r → r < C ∧ ¬ K r) : KeepNew K C X Y :=
 ⟨h.size, fun i h0 h1 => h.block i h1 (fun e => by obtain ⟨a, b⟩ := hr i e.symm; rcases h0 with h0 | h0; omega; exact b h0)⟩
section
variable {F : Fence} {n : Nat} {P : Program}
end
end Go.Proofs.YtglpfpdomnllkaaGreatDoor
