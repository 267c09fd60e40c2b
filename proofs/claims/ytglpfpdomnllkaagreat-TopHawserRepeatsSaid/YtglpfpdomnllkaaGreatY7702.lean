/- Contracts and plain facts that the claim uses (OpC K11p QrM WoP PtP HrP KnQ CrP BsG RlC RfC CrQ RlD CrR BpA). Conditions: as each one states. -/
import Derived.Test.YtglpfpdomnllkaaGreatProg
import Derived.WalkKit
import Derived.WalkSpells
import Derived.Maps.AppendAt
import Derived.Deep.Quiet
import Derived.Maps.Own
import Derived.Maps.OwnSet
import Derived.Maps.Views
import Derived.WalkLawsBesides
import Derived.Laws.EntriesVeiled
import Derived.ReadAgain
import Derived.ChangeSlices
import Derived.Lib.SmallJoins
import Derived.OpenShut
import Derived.ProofKit
import Derived.Deep.DeepHandedRow
import Derived.Deep.SlicePairs
import Derived.Deep.QuietTactic
import Derived.BigQuiet
import Derived.Lib.OthersKept
import Derived.RangeFuncNested
import Derived.RangeFuncBound
import Derived.RangeFuncCalls
import Derived.RangeFuncLeaves
import Derived.RangeFuncFrom
import Derived.Shelf.Abstract
import Derived.Shelf.RegionOpen
import Derived.OwnWalkIn
import Derived.TacticsInMore
import Derived.LoopNIn
import Derived.LoopIn
import Derived.Shelf.Strings.Trim
import Derived.Shelf.Strings.SlTrimAscii
import Derived.Shelf.Strings.Repeat
import Derived.Shelf.Strings.OnBuilder
import Derived.Shelf.Strconv.Itoa1
import Derived.Shelf.Strconv.Itoa3
import Derived.Shelf.LaysM
import Derived.Ground.Names2Prog
import Derived.Deep.RegionHeld3
import Derived.Deep.AppendLies
import Derived.Deep.RegionHeldLaw
import Derived.Deep.RegionLaw
import Derived.StillTail
import Derived.Laws.Tables
import Derived.IntWalk
import Derived.Laws.CopyOwn
import Derived.BigRegion
import Derived.ChangeAlike
import Derived.Shelf.Bits.Mul64
import Derived.Lib.ItoaLen
import Derived.Lib.ItoaMem
import Derived.Sort.LoopGhostIn
import Derived.Maps.RangeWalk
import Derived.Maps.Ext
import Derived.Sort.QuietThIn
import Derived.Deep.LoopGhost
import Derived.Lib.Split
import Derived.Lib.AtoiAll
import Derived.Lib.AppendIntMem
import Derived.LaidSub
import Derived.Lib.LaidTab
import Derived.Lib.AtoiErrMem
import Derived.Stop.LaidErr
import Derived.Laws.IdiomStrings
import Derived.Test.YtglpfpdomnllkaaGreatXz01
import Derived.Test.YtglpfpdomnllkaaGreatXz02
import Derived.Test.YtglpfpdomnllkaaGreatXz03
import Derived.Test.YtglpfpdomnllkaaGreatXz04
import Derived.Test.YtglpfpdomnllkaaGreatXz05
import Derived.Test.YtglpfpdomnllkaaGreatXz06
import Derived.Test.YtglpfpdomnllkaaGreatXz07
import Derived.Test.YtglpfpdomnllkaaGreatXz08
import Derived.Test.YtglpfpdomnllkaaGreatXz09
import Derived.Test.YtglpfpdomnllkaaGreatXz10
import Derived.Test.YtglpfpdomnllkaaGreatXz11
import Derived.Test.YtglpfpdomnllkaaGreatXz12
import Derived.Test.YtglpfpdomnllkaaGreatY7701
set_option linter.all false

namespace Go.Proofs.YtglpfpdomnllkaaGreat
open Go.RowKit Go.ChangeShapes Go.WideShapes Go.ChangeAt
set_option maxRecDepth 100000

theorem kidsP : Kids Tryz.prog (· < Tryz.prog.types.size) := kids_rows kR kR
theorem fullP : ∀ t e, t < Tryz.prog.types.size → Tryz.prog.underlying t = some (.slice e) → 0 < Tryz.prog.cellsOf e := slices_full_of Tryz.prog kR

section
variable {H : Type} {enc : TypeId × Value → H} {P : Program} {W W' : World}
theorem trodAll_carryW {base : Nat} {sp : Nat → Bool} {held : Bool} : ∀ {ts : List TypeId} {vs : List Value} {ds : List (DataW H)} {ps : List MemPlace}, DataW.TrodAll enc P W base sp held ts vs ds ps → (∀ p ∈ ps, W.sameAt W' p) → DataW.TrodAll enc P W' base sp held ts vs ds ps
 | [], [], [], _, h, _ => h
 | _ :: _, _ :: _, _ :: _, _, ⟨p, q, ⟨n, h1⟩, h2, e⟩, hs => ⟨p, q, ⟨n, DataW.trod_carry n _ _ _ h1 (fun x hx => hs x (by rw [e]; exact List.mem_append_left _ hx))⟩, trodAll_carryW h2 (fun x hx => hs x (by rw [e]; exact List.mem_append_right _ hx)), e⟩
theorem sameAt_below (hb : Below W.heap.size W W') {p : MemPlace} (h : p.block < W.heap.size) : W.sameAt W' p := by
 cases p with
 | cell b off => exact (hb.cell (p := ⟨b, off, none⟩) h)
 | map b => exact hb.block b h
theorem kept_below (hb : Below W.heap.size W W') (may : MemPlace → Prop) : W.keptBut W' may := by
 refine ⟨hb.os, hb.output, fun i hi => ?_⟩
 rw [hb.block i hi]
 cases h : W.heap[i]? with
 | none => rfl
 | some o =>
  cases o with
  | cells c t fr => exact ⟨rfl, rfl, rfl, fun _ _ => rfl⟩
  | map es clock => exact .inr ⟨rfl, rfl⟩
  | _ => rfl
/-- a law that returns true and turns nothing that was there. -/
theorem law_post {f : Func} {s : ChangeSpec} {args : Array Value} {ds gs : List (DataW H)} {before : List MemPlace} (hv : s.vars = []) (hr : f.resultTypes = #[4]) (hp : ∀ t ∈ f.params.toList, t < Tryz.prog.types.size)
   (hs : (s.fn H ds).results = [.lit (.bool true)] ∧ (s.fn H ds).args = ds ∧ (s.fn H ds).vars = [])
   (hW : DataW.Whole enc Tryz.prog f.params.toList s.vars false W args.toList ds gs before) (hb : Below W.heap.size W W') : s.post enc Tryz.prog f false true false false W args (.bool true) W' := by
 have hlt := hW.lt
 have hW' := hW
 obtain ⟨p, q, hA, hV, rfl, hfz, _⟩ := hW
 rw [hv] at hV
 have hgs : gs = [] ∧ q = [] := by
  cases gs with
  | nil => exact ⟨rfl, hV⟩
  | cons g gs => exact absurd hV id
 obtain ⟨rfl, rfl⟩ := hgs
 simp only [List.append_nil] at hlt hW' ⊢
 have hsame : ∀ p' ∈ p, W.sameAt W' p' := fun p' hp' => sameAt_below hb (hlt p' hp')
 refine ⟨ds, [], p, [], p, [], hW', ?_, ?_, ?_, kept_below hb _, fun h => by cases h⟩
 ·rw [List.append_nil, hs.1, hr]
  exact trodAll_cons_mk (shut_bool Tryz.underlying4 _) trodAll_mk0
 ·rw [List.append_nil, hs.2.1]
  exact DataW.TrodAll.respare kidsP fullP hp (trodAll_carryW hA hsame) (fun p' hp' => by simpa using hlt p' hp')
 ·rw [List.append_nil, hs.2.2, hv]
  rfl
end
end Go.Proofs.YtglpfpdomnllkaaGreat

namespace Go.Proofs.YtglpfpdomnllkaaGreat
open Go.RowKit Go.ChangeShapes Go.WideShapes Go.ChangeAt Go.Joins Go.Deep
set_option maxRecDepth 100000
theorem cellsInt : Tryz.prog.cellsOf 3 = 1 := by kernel_rfl
theorem inI_wf {x : Int} (h : (Lit.int .i64 x).wf = true) : InI x := by
 simp [Lit.wf, IntKind.min, IntKind.max, IntKind.bits, IntKind.signed] at h
 unfold InI
 omega
section
variable {H : Type} {enc : TypeId × Value → H} {W : World}
theorem ints_of_cells {a : Addr} {zs : List Int} {len cap : Nat} (hl : len ≤ cap) (hm : cap ≤ maxLen) (hz : len ≤ zs.length) (hc : ∀ i, i < zs.length → W.cell? (a.add i) = some (.int .i64 (zs.getD i 0))) : Ints W (some a) cap (zs.take len) := by
 have hlen : (zs.take len).length = len := by simp; omega
 refine ⟨cIntS, by rw [hlen]; exact hl, hm, fun h => (by cases h), fun j u hj => ?_⟩
 have hfm : ((zs.take len).flatMap fun x => (cInt x).cells.toList) = (zs.take len).map fun x => Value.int .i64 x := by
  generalize zs.take len = l
  induction l with
  | nil => rfl
  | cons x r ih => rw [List.flatMap_cons, ih]; rfl
 rw [hfm, List.getElem?_map] at hj
 have hjl : j < len := by
  obtain ⟨x, hx, _⟩ := Option.map_eq_some_iff.1 hj
  have := (List.getElem?_eq_some_iff.1 hx).1
  simp at this; omega
 have h0 := hc 0 (by omega)
 have hsp : a.spot = none := by
  unfold World.cell? Addr.add at h0
  simp only [if_pos] at h0
  split at h0
  ·split at h0
   ·cases h0
   ·next h => simpa using h
  ·cases h0
 refine ⟨a.block, a.off, by rw [← hsp], ?_⟩
 have hj0 := hc j (by omega)
 have e : a.add j = ⟨a.block, a.off + j, none⟩ := by
  unfold Addr.add
  split
  ·next h => subst h; rw [← hsp]; rfl
  ·rfl
 rw [e] at hj0
 rw [hj0, ← hj]
 have h2 : j < zs.length := by omega
 simp [List.getElem?_take, hjl, h2]
theorem open_intsA {r : Reach} {b0 : Nat} {v : Value} {d : DataW H} {ps : List MemPlace} (hval : Value.okWide Tryz.prog W r b0 22 v) (h : DataW.Trod enc Tryz.prog W 0 (fun _ => true) true 22 v d ps) : ∃ a cap l, v = .slice a l.length cap ∧ Ints W a cap l ∧ ∀ x ∈ l, InI x := by
 obtain ⟨a0, len, cap, rfl⟩ := okWide_slice Tryz.underlying22 hval
 obtain ⟨fuel, hf⟩ := h
 rcases open_ints Tryz.underlying22 Tryz.underlying3 cellsInt hf with ⟨hcs, _⟩ | ⟨a, len', cap', zs, hcs, _, hl, hm, hz, _, hcell, hwz⟩
 ·simp [Value.cells] at hcs
  obtain ⟨rfl, rfl, rfl⟩ := hcs
  exact ⟨_, _, [], rfl, ints_nil W, fun x hx => by cases hx⟩
 ·simp [Value.cells] at hcs
  obtain ⟨rfl, rfl, rfl⟩ := hcs
  simp only [if_true] at hz
  have hlen : (zs.take len).length = len := by simp; omega
  refine ⟨some a, cap, zs.take len, by rw [hlen], ints_of_cells hl hm (by omega) hcell, fun x hx => ?_⟩
  exact inI_wf (hwz x (List.mem_of_mem_take hx))
end
end Go.Proofs.YtglpfpdomnllkaaGreat

namespace Go.Proofs.YtglpfpdomnllkaaGreat
open Go.RowKit Go.ChangeShapes Go.WideShapes Go.ChangeAt Go.Joins Go.Deep
set_option maxRecDepth 100000

section
variable {H : Type} {enc : TypeId × Value → H} {W : World}
end
end Go.Proofs.YtglpfpdomnllkaaGreat

namespace Go.Proofs.YtglpfpdomnllkaaGreat
open Go.RowKit Go.ChangeShapes Go.WideShapes Go.ChangeAt Go.Joins Go.Deep
set_option maxRecDepth 100000

section
variable {H : Type} {enc : TypeId × Value → H} {W : World}
end
end Go.Proofs.YtglpfpdomnllkaaGreat

namespace Go.Proofs.YtglpfpdomnllkaaGreat
set_option maxRecDepth 100000
theorem orderM_isP {m : MacV} {l : List Int} (h : LoadOk m l) : IsP (orderM m l) := by
 have hlo := h.ok.lo
 refine ⟨fun x h0 h1 => ?_, fun x y a b c d e => ?_⟩
 ·have hm := (orderM_mem (by omega) h.rng h.nodup).1 (atD_memZ h0 h1)
  rw [orderM_length (by omega) h.rng h.nodup]
  exact hm
 ·obtain ⟨i, rfl⟩ : ∃ i : Nat, x = i := ⟨x.toNat, by omega⟩
  obtain ⟨j, rfl⟩ : ∃ j : Nat, y = j := ⟨y.toNat, by omega⟩
  have hn := orderM_nodup m l
  rcases Nat.lt_trichotomy i j with hij | hij | hij
  ·exact absurd e (by first | exact nodup_ne hn hij (by omega) | exact (nodup_ne hn hij (by omega)).symm)
  ·rw [hij]
  ·exact absurd e (by first | exact nodup_ne hn hij (by omega) | exact (nodup_ne hn hij (by omega)).symm)
end Go.Proofs.YtglpfpdomnllkaaGreat

namespace Go.Proofs.YtglpfpdomnllkaaGreat
open Go.RowKit
set_option maxHeartbeats 8000000
set_option maxRecDepth 100000
abbrev cT (x : Int × Int × Int) : Value := .agg #[.int .i64 x.1, .int .i64 x.2.1, .int .i64 x.2.2]
end Go.Proofs.YtglpfpdomnllkaaGreat

namespace Go.Proofs.YtglpfpdomnllkaaGreat
set_option maxRecDepth 100000
theorem swp_swap {r : List Int} {p : Nat} (h : p + 1 < r.length) : swpL r p = swapL r ((p : Int) + 1) :=
 ext_atD (by rw [swp_length, swapL_len]) fun j j0 j1 => by
  rw [swp_atD h j0, swapL_at (by omega) (by omega) j0, show (p : Int) + 1 - 1 = p by omega]
theorem swapL_map {r : List Int} {k : Int} (f : Int → Int) (h1 : 1 ≤ k) (h2 : k < r.length) : (swapL r k).map f = swapL (r.map f) k := by
 have e : ∀ (l : List Int) (j : Int), 0 ≤ j → j < l.length → atD 0 (l.map f) j = f (atD 0 l j) := fun l j j0 j1 => by
  obtain ⟨i, rfl⟩ : ∃ i : Nat, j = i := ⟨j.toNat, by omega⟩
  exact atD_map2 (by omega)
 refine ext_atD (by rw [List.length_map, swapL_len, swapL_len, List.length_map]) fun j j0 j1 => ?_
 rw [List.length_map, swapL_len] at j1
 have hs := sw_rng (f := k - 1) (t := k) (n := r.length) ⟨by omega, by omega⟩ ⟨by omega, h2⟩ ⟨j0, j1⟩
 rw [e _ _ j0 (by rw [swapL_len]; exact j1), swapL_at h1 h2 j0, swapL_at h1 (by rw [List.length_map]; exact h2) j0, e _ _ hs.1 hs.2]
theorem row5_snoc (st w : List Int) (x : Int) : row5 st (w ++ [x]) = swapL (row5 st w) (absI x) := by
 induction w generalizing st with
 | nil => rfl
 | cons y w ih => rw [List.cons_append, row5, row5, ih]
def LetRng (k : Nat) (w : List Int) : Prop := ∀ x ∈ w, 1 ≤ absI x ∧ absI x < (k : Int)
theorem letRng_snoc {k : Nat} {w : List Int} {x : Int} (h : LetRng k w) (h1 : 1 ≤ absI x) (h2 : absI x < k) : LetRng k (w ++ [x]) := fun y hy => by
 rcases List.mem_append.1 hy with hy | hy
 ·exact h y hy
 ·rw [List.mem_singleton.1 hy]; exact ⟨h1, h2⟩
theorem row5_VP {k : Nat} {w : List Int} (h : LetRng k w) : VP k (row5 (idL k) w) :=
 ⟨row5_isP w _ (idL_isP k) (fun x hx => by rw [idL_len]; exact h x hx), by rw [row5_len, idL_len]⟩
theorem map_id_atD (l : List Int) : (idL l.length).map (atD 0 l) = l := by
 refine ext_atD (by rw [List.length_map, idL_len]) fun j j0 j1 => ?_
 rw [List.length_map, idL_len] at j1
 obtain ⟨i, rfl⟩ : ∃ i : Nat, j = i := ⟨j.toNat, by omega⟩
 rw [atD_map2 (by rw [idL_len]; omega), idL_at j0 j1]
section
variable {m : MacV} {l : List Int} {n : Int}
/-- the row is the first order, led by the letters so far; the letters are letters. -/
def RowIs (m : MacV) (l : List Int) (st : List Int × List Int) : Prop := st.1 = (row5 (idL l.length) st.2).map (atD 0 (orderM m l)) ∧ LetRng l.length st.2
theorem rowIs_stC (hr : m.ring = false) (h : LoadOk m l) (hm : meetsM m l n = false) {j : Nat} (hj : (j : Int) ≤ n) (h0 : RowIs m l (wvM m l j)) : ∀ i : Nat, i ≤ (crossM m (atL m l j)).length → RowIs m l (stC m l j i)
 | 0, _ => h0
 | i + 1, hi => by
   obtain ⟨a, b⟩ := rowIs_stC hr h hm hj h0 i (by omega)
   obtain ⟨p, hp, hst, _, hl⟩ := stC_step hr h hm hj (N := j + 1) (by omega) (i := i) (by omega)
   obtain ⟨x, hx⟩ : ∃ x, x = atD 0 (wvM m l (j + 1)).2 (stC m l j i).2.length := ⟨_, rfl⟩
   rw [← hx] at hst hl
   have hlen : (stC m l j i).1.length = l.length := by rw [a, List.length_map, row5_len, idL_len]
   have hax : absI x = (p : Int) + 1 := by
     unfold absI
     rcases hl with ⟨e, _⟩ | ⟨e, _⟩ <;> rw [e] <;> split <;> omega
   refine ⟨?_, ?_⟩
   · rw [hst]
     dsimp only
     rw [row5_snoc, hax, swapL_map _ (by omega) (by rw [row5_len, idL_len]; omega), ← a]
     exact swp_swap hp
   · rw [hst]
     exact letRng_snoc b (by omega) (by omega)
theorem rowIs_wv (hr : m.ring = false) (h : LoadOk m l) (hm : meetsM m l n = false) : ∀ j : Nat, (j : Int) ≤ n + 1 → RowIs m l (wvM m l j)
 | 0, _ => by
   have hlo := h.ok.lo
   have e : (orderM m l).length = l.length := orderM_length (by omega) h.rng h.nodup
   refine ⟨?_, fun x hx => by simp [wvM] at hx⟩
   show orderM m l = (idL l.length).map (atD 0 (orderM m l))
   rw [← e, map_id_atD]
 | j + 1, hj => by
   rw [← stC_last]
   exact rowIs_stC hr h hm (by omega) (rowIs_wv hr h hm j (by omega)) _ (Nat.le_refl _)
theorem wrd_rng (hr : m.ring = false) (h : LoadOk m l) {N : Nat} (hm : meetsM m l N = false) : LetRng l.length (wrdL m l N) := (rowIs_wv hr h hm N (by omega)).2
end
end Go.Proofs.YtglpfpdomnllkaaGreat

namespace Go.Proofs.YtglpfpdomnllkaaGreat
set_option maxRecDepth 100000
theorem atD_mapF {l : List Int} {f : Int → Int} {j : Int} (h0 : 0 ≤ j) (h1 : j < l.length) : atD 0 (l.map f) j = f (atD 0 l j) := by
 obtain ⟨i, rfl⟩ : ∃ i : Nat, j = i := ⟨j.toNat, by omega⟩
 exact atD_map2 (by omega)
section
variable {k : Nat} {w : List Int}
end
end Go.Proofs.YtglpfpdomnllkaaGreat

namespace Go.Proofs.YtglpfpdomnllkaaGreat
set_option maxRecDepth 100000
theorem wordOk_rng {k : Nat} {w : List Int} (h : LetRng k w) : WordOk k w := fun x hx => by
 obtain ⟨a, b⟩ := h x hx
 unfold LetOk
 unfold absI at a b
 refine ⟨fun e => by subst e; simp at a, ?_⟩
 split at a <;> split at b <;> split <;> omega
theorem cyc_two (l : List Int) : cyc l (l.length * 2) = l ++ l := by
 refine List.ext_getElem (by rw [cyc_len, List.length_append]; omega) fun i h1 h2 => ?_
 rw [cyc_len] at h1
 rw [List.length_append] at h2
 have hp : 0 < l.length := by omega
 have hm : i % l.length < l.length := Nat.mod_lt _ hp
 have e : (cyc l (l.length * 2))[i]'(by rw [cyc_len]; exact h1) = l[i % l.length] := by simp [cyc, atD, hm]
 rw [e]
 by_cases hi : i < l.length
 ·rw [List.getElem_append_left hi]
  congr 1
  exact Nat.mod_eq_of_lt hi
 ·rw [List.getElem_append_right (by omega)]
  congr 1
  rw [Nat.mod_eq_sub_mod (by omega), Nat.mod_eq_of_lt (by omega)]
section
variable {m : MacV} {l : List Int}
/-- the word of the steps after which all are back: twice as long it is this word twice. -/
theorem word_round (hr : m.ring = false) (h : LoadOk m l) {P : Nat} (hm : meetsM m l ((P + P : Nat) : Int) = false) (hb : atL m l P = l) : wrdL m l ((P + P : Nat) : Int) = wrdL m l P ++ wrdL m l P := by
 have := wrd_two hr h hm
 rwa [hb] at this
/-- .. and it moves no strand. -/
theorem perm_round (hr : m.ring = false) (h : LoadOk m l) {P : Nat} (hm : meetsM m l P = false) (hb : atL m l P = l) : permB l.length (wrdL m l P) = idL l.length := by
 have hlo := h.ok.lo
 have e : (orderM m l).length = l.length := orderM_length (by omega) h.rng h.nodup
 obtain ⟨a, b⟩ := rowIs_wv hr h hm P (by omega)
 have hv := row5_VP b
 have hip := orderM_isP h
 have hrow := wvM_row hr h.rng hm P (Int.le_refl _)
 rw [hb] at hrow
 rw [hrow] at a
 have hX : row5 (idL l.length) (wvM m l P).2 = idL l.length := by
  refine hv.ext (idL_len _) fun x x0 x1 => ?_
  have hx := hv.rg x0 x1
  have e2 : atD 0 (orderM m l) x = atD 0 (orderM m l) (atD 0 (row5 (idL l.length) (wvM m l P).2) x) := by
   conv => lhs; rw [a]
   exact atD_mapF x0 (by rw [hv.2]; exact x1)
  have := hip.inj _ _ x0 (by rw [e]; exact x1) hx.1 (by rw [e]; exact hx.2) e2
  rw [idL_at x0 x1]
  exact this.symm
 show invL (row5 (idL l.length) (wvM m l P).2) = _
 rw [hX]
 exact inv_uniq (idL_isP _) rfl fun x x0 x1 => by
  rw [idL_len] at x1 ⊢
  rw [idL_at x0 x1, idL_at x0 x1]
  exact ⟨x0, x1, rfl⟩
end
section
variable {p seen : List Int}
end
end Go.Proofs.YtglpfpdomnllkaaGreat

namespace Go.Proofs.YtglpfpdomnllkaaGreat
open Go.RowKit
set_option maxHeartbeats 1000000
set_option maxRecDepth 100000

theorem wordE_fit {n : Int} {l : List Int} (h1 : 1 ≤ n) (h2 : n ≤ 12) (hl : l.length ≤ 200) (hf : ∀ x ∈ l, 1 ≤ absI x ∧ absI x < n) : wordE n l = 0 := by
 rw [wordE_any (by unfold strandsE; rw [if_neg (by omega)]) hl]
 rw [if_neg]
 intro h
 obtain ⟨x, hx, hb⟩ := List.any_eq_true.1 h
 obtain ⟨a, b⟩ := hf x hx
 unfold outB at hb
 unfold absI at a b
 simp at hb
 split at a <;> split at b <;> omega
end Go.Proofs.YtglpfpdomnllkaaGreat

namespace Go.Proofs.YtglpfpdomnllkaaGreat
set_option maxRecDepth 100000
/-- the letters with the strands that stand at their positions before them. -/
def csB : List Int → List Int → List (Int × Int × Int)
 | _, [] => []
 | st, x :: r => (x, atD 0 st (absI x - 1), atD 0 st (absI x)) :: csB (swapL st (absI x)) r
theorem csB_len : ∀ (w st : List Int), (csB st w).length = w.length
 | [], _ => rfl
 | x :: r, st => by rw [csB, List.length_cons, csB_len r, List.length_cons]
theorem row5_snoc2 : ∀ (a st : List Int) (x : Int), row5 st (a ++ [x]) = swapL (row5 st a) (absI x)
 | [], st, x => rfl
 | y :: r, st, x => by rw [List.cons_append, row5, row5, row5_snoc2 r]
/-- one more letter: what the iterator yields next. -/
theorem csB_snoc : ∀ (a st : List Int) (x : Int), csB st (a ++ [x]) = csB st a ++ [(x, atD 0 (row5 st a) (absI x - 1), atD 0 (row5 st a) (absI x))]
 | [], st, x => rfl
 | y :: r, st, x => by rw [List.cons_append, csB, csB, csB_snoc r, row5]; rfl
theorem csB_take (st w : List Int) {j : Nat} (h : j < w.length) : csB st (w.take (j + 1)) = csB st (w.take j) ++ [(atD 0 w j, atD 0 (row5 st (w.take j)) (absI (atD 0 w j) - 1), atD 0 (row5 st (w.take j)) (absI (atD 0 w j)))] := by
 have e : w.take (j + 1) = w.take j ++ [atD 0 w j] := by rw [List.take_succ_eq_append_getElem h]; simp [atD, h]
 rw [e, csB_snoc]
theorem row5_take (st w : List Int) {j : Nat} (h : j < w.length) : row5 st (w.take (j + 1)) = swapL (row5 st (w.take j)) (absI (atD 0 w j)) := by
 have e : w.take (j + 1) = w.take j ++ [atD 0 w j] := by rw [List.take_succ_eq_append_getElem h]; simp [atD, h]
 rw [e, row5_snoc2]
/-- a strand goes one on, another one back. -/
def incP (p : List Int) (a b : Int) : List Int := (p.set a.toNat (atD 0 p a + 1)).set b.toNat (atD 0 (p.set a.toNat (atD 0 p a + 1)) b - 1)
theorem incP_len (p : List Int) (a b : Int) : (incP p a b).length = p.length := by simp [incP]
theorem perm_fold : ∀ (w st p : List Int), IsP st → p.length = st.length → (∀ x ∈ w, 1 ≤ absI x ∧ absI x < st.length) → (∀ j : Int, 0 ≤ j → j < st.length → atD 0 p (atD 0 st j) = j) →
  (csB st w).foldl (fun p c => incP p c.2.1 c.2.2) p = invL (row5 st w)
 | [], st, p, hp, hl, _, hi => by
   rw [csB, List.foldl_nil, row5]
   refine (inv_uniq hp hl fun x x0 x1 => ?_).symm
   have hx := invL_right hp x0 x1
   have hr := (invL_isP hp).rng x x0 (by rw [invL_len]; exact x1)
   rw [invL_len] at hr
   have := hi _ hr.1 hr.2
   rw [hx] at this
   rw [this]
   exact ⟨hr.1, hr.2, hx⟩
 | x :: r, st, p, hp, hl, hf, hi => by
   obtain ⟨a, b⟩ := hf x (by simp)
   rw [csB, List.foldl_cons, row5]
   have hq := swapL_isP a b hp
   refine perm_fold r _ _ hq (by rw [incP_len, swapL_len, hl]) (fun y hy => by rw [swapL_len]; exact hf y (by simp [hy])) fun j j0 j1 => ?_
   rw [swapL_len] at j1
   have ha := hp.rng (absI x - 1) (by omega) (by omega)
   have hb := hp.rng (absI x) (by omega) b
   have hne : atD 0 st (absI x) ≠ atD 0 st (absI x - 1) := fun e => by
     have := hp.inj _ _ (by omega) b (by omega) (by omega) e
     omega
   have ia := hi (absI x - 1) (by omega) (by omega)
   have ib := hi (absI x) (by omega) b
   have key : ∀ y : Int, 0 ≤ y → y < st.length → atD 0 (incP p (atD 0 st (absI x - 1)) (atD 0 st (absI x))) y =
       if y = atD 0 st (absI x) then absI x - 1 else if y = atD 0 st (absI x - 1) then absI x else atD 0 p y := fun y y0 y1 => by
     unfold incP
     rw [atD_set hb.1 (by rw [List.length_set]; omega) y0, atD_set ha.1 (by omega) hb.1, if_neg hne, ib, atD_set ha.1 (by omega) y0, ia]
     split
     · rfl
     · split <;> omega
   rw [swapL_at a b j0]
   by_cases c1 : j = absI x - 1
   · rw [c1, show sw (absI x - 1) (absI x) (absI x - 1) = absI x by unfold sw; rw [if_pos rfl], key _ hb.1 hb.2, if_pos rfl]
   · by_cases c2 : j = absI x
     · rw [c2, show sw (absI x - 1) (absI x) (absI x) = absI x - 1 by unfold sw; rw [if_neg (by omega), if_pos rfl], key _ ha.1 ha.2, if_neg (Ne.symm hne), if_pos rfl]
     · have hj := hp.rng j j0 j1
       rw [show sw (absI x - 1) (absI x) j = j by unfold sw; rw [if_neg c1, if_neg c2], key _ hj.1 hj.2, if_neg (fun e => c2 (hp.inj _ _ j0 j1 (by omega) b e)), if_neg (fun e => c1 (hp.inj _ _ j0 j1 (by omega) (by omega) e))]
       exact hi j j0 j1
/-- the permutation of a word. -/
theorem permB_fold {n : Nat} {w : List Int} (hf : ∀ x ∈ w, 1 ≤ absI x ∧ absI x < (n : Int)) : (csB (idL n) w).foldl (fun p c => incP p c.2.1 c.2.2) (idL n) = permB n w := by
 refine perm_fold w (idL n) (idL n) (idL_isP n) rfl (fun x hx => by rw [idL_len]; exact hf x hx) fun j j0 j1 => ?_
 rw [idL_len] at j1
 rw [idL_at j0 j1, idL_at j0 j1]
end Go.Proofs.YtglpfpdomnllkaaGreat

namespace Go.Proofs.YtglpfpdomnllkaaGreat
open Go.RowKit
set_option maxHeartbeats 8000000
set_option maxRecDepth 100000
theorem normal_all (n m : Nat) (ad : Option Addr) (cap : Nat) (W : List Int) (w : World) (hS : Ints w ad cap W) (hok : WordOk n W) (hm : W.length = m) (h1 : 1 ≤ n) (hn : n ≤ 1000) (hm1 : m ≤ 1000) :
  Calls Tryz.prog 85 #[.int .i64 n, .slice ad m cap] w fun r w' => ∃ v, r = .returned v ∧ FormR w' n v (formW n W) ∧ Below w.heap.size w w' := by
 refine (normal_allS n m ad cap W w hS hok hm h1 hn hm1).mono ?_
 rintro e w1 ⟨v, L, rfl, hL, hF⟩
 exact ⟨v, rfl, hF _ _ _ hL, hL.b⟩
end Go.Proofs.YtglpfpdomnllkaaGreat

namespace Go.Proofs.YtglpfpdomnllkaaGreat
open Go.RowKit
set_option maxRecDepth 100000
section
variable {F : Fence} {m : Nat} {P : Program} {ops : Array Oper} {md : Region.Mode} {C : World → Prop}
def wpAnyLQIn (F : Fence) (m : Nat) (P : Program) (md : Region.Mode) (ops : Array Oper) (C : World → Prop) (n : Nat) (L : Array Bool → Act → Prop) : Nat → Array Bool → Act → Prop
 | 0, listed, a => L listed a
 | f + 1, listed, a =>
  Region.ready md ops listed ≠ [] ∧ ∀ i ∈ Region.ready md ops listed, i < n ∧ qOpIn F m P ops C i (wpAnyLQIn F m P md ops C n L f (listed.setIfInBounds i true)) a
theorem wpAnyIn_of_headQ {n g : Nat} {L : Array Bool → Act → Prop} {Q' : Exit → Act → World → Prop} (hnd : ∀ (i : Nat) o, ops[i]? = some o → ∀ c, o.op ≠ .defer c) (hL : ∀ listed a w, C w → L listed a → wpAnyIn F m P md ops Q' g listed a w) :
  ∀ (f : Nat) (listed : Array Bool) (a : Act) (w : World), C w → wpAnyLQIn F m P md ops C n L f listed a → wpAnyIn F m P md ops Q' (f + g) listed a w
 | 0, listed, a, w, hw, h => by rw [Nat.zero_add]; exact hL _ _ _ hw h
 | f + 1, listed, a, w, hw, h => by
   rw [show f + 1 + g = (f + g) + 1 by omega]
   exact ⟨fun h0 => absurd h0 h.1, fun i hi => wpOpIn_of_qOpInR (hnd i) hw (fun a' w' hw' h' => wpAnyIn_of_headQ hnd hL f _ a' w' hw' h') (h.2 i hi).2⟩
theorem wpAnyLQIn_first {n i : Nat} {oi : Oper} {v : Value} {L : Array Bool → Act → Prop} (hi : ops[i]? = some oi) (hsel : ∀ (j : Nat) (o : Oper) cs b, ops[j]? = some o → o.op ≠ .select cs b)
  (hs : Region.sinkB md ops n = true) (hc : Region.chainB md ops n = true) (hn : n < ops.size) (hin : i < n)
  (hdone : ∀ listed a, L listed a → ∀ j ∈ Region.ready md ops listed, n ≤ j) :
  ∀ (f : Nat) (listed : Array Bool) (a : Act), HeadInv md ops n listed →
   (∀ j oj, ops[j]? = some oj → j ≠ i → listed.getD j true = false → (∀ e ∈ oj.after, Region.binds md e = true → e.on ≠ i) → oi.apart ops oj = true) →
   i ∈ Region.ready md ops listed → YieldsQuiet F m P ops C oi v a →
   wpAnyLQIn F m P md ops C n L f (listed.setIfInBounds i true) (a.put oi.dst v) → wpAnyLQIn F m P md ops C n L (f + 1) listed a := by
 intro f
 induction f with
 | zero =>
  intro listed a inv _ hr hy H
  have hun := (mem_ready.1 hr).1
  refine ⟨fun h => (by rw [h] at hr; cases hr), fun j hj => ?_⟩
  have hjn : j < n := by
   rcases Nat.lt_or_ge j n with h | h
   ·exact h
   ·exact absurd hj (tail_waits hs hc hn inv _ i rfl hin hun j h)
  refine ⟨hjn, ?_⟩
  by_cases hji : j = i
  ·subst hji; exact hy.qOpIn hi H
  ·have := hdone _ _ H j (ready_mono hj hji)
   omega
 | succ f ih =>
  intro listed a inv hfree hr hy H
  have hun := (mem_ready.1 hr).1
  refine ⟨fun h => (by rw [h] at hr; cases hr), fun j hj => ?_⟩
  have hjn : j < n := by
   rcases Nat.lt_or_ge j n with h | h
   ·exact h
   ·exact absurd hj (tail_waits hs hc hn inv _ i rfl hin hun j h)
  refine ⟨hjn, ?_⟩
  by_cases hji : j = i
  ·subst hji; exact hy.qOpIn hi H
  ·have h1 := (H.2 j (ready_mono hj hji)).2
   obtain ⟨hjun, oj, hoj, hall⟩ := mem_ready.1 hj
   have hnot : ∀ e ∈ oj.after, Region.binds md e = true → e.on ≠ i := fun e he hb heq => by
    have h1 := hall e he hb
    rw [heq, getD_both hun] at h1
    cases h1
   have h2 := qOpIn_put hoj (hfree j oj hoj hji hjun hnot) (fun cs b => hsel i oi cs b hi) (fun cs b => hsel j oj cs b hoj) hy h1
   have hfree' : ∀ k ok, ops[k]? = some ok → k ≠ i → (listed.setIfInBounds j true).getD k true = false →
     (∀ e ∈ ok.after, Region.binds md e = true → e.on ≠ i) → oi.apart ops ok = true := fun k ok hk hki hun hno => by
    refine hfree k ok hk hki ?_ hno
    by_cases hjk : j = k
    ·subst hjk; exact hjun
    ·rw [getD_set_ne true hjk] at hun; exact hun
   refine qOpIn_mono (fun a' h3 => ih (listed.setIfInBounds j true) a' (inv.set hj hjn) hfree' (ready_mono hr (Ne.symm hji)) h3.1 ?_) h2
   rw [Array.setIfInBounds_comm _ _ hji]
   exact h3.2
theorem wpAnyLQIn_lex {n g : Nat} {Lq : Act → Prop} (hsel : Region.noSelect ops = true) (hs : Region.sinkB md ops n = true) (hc : Region.chainB md ops n = true) (hn : n < ops.size) :
  ∀ (l : List Oper) (k : Nat) (listed : Array Bool) (a : Act), (∀ j, j < l.length → l[j]? = ops[k + j]?) → k + l.length = n → HeadInv md ops n listed →
  Region.lexHead md ops g l.length k listed = true → wpQuietIn F m P ops C Lq l a →
  wpAnyLQIn F m P md ops C n (fun listed' a' => Region.seqB md ops g n listed' = true ∧ Lq a') l.length listed a
 | [], k, listed, a, _, hk, _, hB, h => by
   have : k = n := by simpa using hk
   subst this
   exact ⟨by simpa [Region.lexHead] using hB, h⟩
 | o :: l, k, listed, a, hl, hk, inv, hB, h => by
   have h0 : ops[k]? = some o := by simpa using (hl 0 (by simp)).symm
   simp only [List.length_cons, Region.lexHead, Bool.and_eq_true] at hB
   obtain ⟨⟨hr, hf⟩, hB'⟩ := hB
   have hkn : k < n := by simp only [List.length_cons] at hk; omega
   have hr' : k ∈ Region.ready md ops listed := by simpa using hr
   have hst : qOpIn F m P ops C k (wpQuietIn F m P ops C Lq l) a := by unfold qOpIn; simp only [h0]; exact h
   obtain ⟨v, hy, hK⟩ := yieldsQuiet_of_qOpIn h0 hst
   exact wpAnyLQIn_first h0 (Region.noSelect_spec hsel) hs hc hn hkn (fun listed' a' hL => seqB_ready hL.1) l.length listed a inv (Region.free_spec h0 hf) hr' hy
     (wpAnyLQIn_lex hsel hs hc hn l (k + 1) _ _ (fun j hj => by have := hl (j + 1) (by simp; omega); simpa [Nat.add_assoc, Nat.add_comm 1 j] using this) (by simp only [List.length_cons] at hk; omega) (inv.set hr' hkn) hB' hK)
theorem wpAnyIn_of_seq {Q' : Exit → Act → World → Prop} : ∀ (l : List Oper) (k : Nat) (listed : Array Bool) (a : Act) (w : World), (∀ j, l[j]? = ops[k + j]?) →
  Region.seqB md ops l.length k listed = true → wpListIn F m P ops Q' l a w → wpAnyIn F m P md ops Q' l.length listed a w
 | [], _, _, _, _, _, hB, h => ⟨by simpa [Region.seqB] using hB, h⟩
 | o :: l, k, listed, a, w, hl, hB, h => by
   have h0 : ops[k]? = some o := by simpa using (hl 0).symm
   simp only [List.length_cons, Region.seqB, Bool.and_eq_true, decide_eq_true_eq] at hB
   refine ⟨fun h1 => (by rw [hB.1] at h1; cases h1), fun i hi => ?_⟩
   rw [hB.1] at hi
   have hik : i = k := by simpa using hi
   subst hik
   have hw : wpOpIn F m P ops Q' i (wpListIn F m P ops Q' l) a w := by unfold wpOpIn; simp only [h0]; exact h
   exact wpOpIn_mono (fun a' w' h' => wpAnyIn_of_seq l (i + 1) _ a' w' (fun j => by have := hl (j + 1); simpa [Nat.add_assoc, Nat.add_comm 1 j] using this) hB.2 h') hw
theorem wpIn_region_qt {id : Nat} {Q : Exit → Act → World → Prop} {a : Act} {w : World} {l : List Oper} (n : Nat) (hnd : l.all (fun o => match o.op with | .defer _ => false | _ => true) = true) (hm : P.follows .mixedOrders = true) (hB : Region.lexTailB .any l.toArray n = true)
  (h : wpQuietIn F m P l.toArray (fun w' => ∃ n, w' = w.drewN n) (fun a' => ∀ w', (∃ n, w' = w.drewN n) → wpListIn F m P l.toArray Q (l.drop n) a' w') (l.take n) a) : (Code.region id l.toArray true).wpIn F m P Q a w := by
 have hnd' : ∀ (i : Nat) o, l.toArray[i]? = some o → ∀ c, o.op ≠ .defer c := by
  intro i o ho c hc
  have hm : o ∈ l := List.mem_of_getElem? (by simpa using ho)
  have := List.all_eq_true.1 hnd o hm
  rw [hc] at this
  cases this
 simp only [Region.lexTailB, Bool.and_eq_true, decide_eq_true_eq] at hB
 obtain ⟨⟨⟨⟨hsel, hn⟩, hs⟩, hc⟩, hlex⟩ := hB
 have hn' : n < l.length := by simpa using hn
 have htl : (l.take n).length = n := by simp; omega
 have hdl : (l.drop n).length = l.toArray.size - n := by simp
 have inv0 : HeadInv .any l.toArray n (Array.replicate l.toArray.size false) :=
  ⟨by simp, fun j oj _ hl => (by rw [getD_replicate_false] at hl; cases hl), fun t _ ht => getD_in (by simpa using ht) (getD_replicate_false _ _)⟩
 have H := wpAnyLQIn_lex (F := F) (m := m) (md := .any) (g := l.toArray.size - n) hsel hs hc hn (l.take n) 0 _ a (fun j hj => by
  have hj' : j < n := by rw [htl] at hj; exact hj
  simp [hj']) (by simpa using htl) inv0 (by rw [htl]; exact hlex) h
 refine wpIn_region_any hm ?_
 have := wpAnyIn_of_headQ (C := fun w' => ∃ n, w' = w.drewN n) (Q' := Q) (g := l.toArray.size - n) hnd' (fun listed a' w' hw' hL => by
  have := wpAnyIn_of_seq (md := .any) (Q' := Q) (l.drop n) n listed a' w' (fun j => by simp [List.getElem?_drop]) (by rw [hdl]; exact hL.1) (hL.2 w' hw')
  rwa [hdl] at this) _ _ _ _ ⟨1, rfl⟩ H
 rw [htl, show n + (l.toArray.size - n) = l.toArray.size by omega] at this
 exact this
end
end Go.Proofs.YtglpfpdomnllkaaGreat

namespace Go.Proofs.YtglpfpdomnllkaaGreat
open Go.RowKit
set_option maxRecDepth 100000
/-- an invariant on what lies ahead of B. -/
def AheadOf {α : Type} (B : Nat) (I : List α → World → Prop) : Prop := ∀ s A W row, I s A → A.grownBy W row → (∀ r, row = some r → B ≤ r) → I s W
/-- the contract of such an iterator. -/
def SeqCells {α : Type} (F : Fence) (n : Nat) (P : Program) (g : Nat) (lb : Array Value) (encs : α → Array Value) (S : List α → Prop) (N : Nat) (K : Nat → Prop) (w : World) : Prop :=
 ∀ (l : Nat) (J : List α → World → Prop) (W : World), Below w.heap.size w W → AheadOf W.heap.size J →
  (∀ pre x W1, J pre W1 → W.heap.size ≤ W1.heap.size → pre.length < N → YieldAt F (n - 1) P l (encs x) W1 fun e W' => e = .returned (.bool true) ∧ J (pre ++ [x]) W' ∧ KeepNew K W.heap.size W1 W') →
  J [] W → CallsIn F n P g (#[.func (.yield l) #[] #[]] ++ lb) W fun e W' => (∃ v, e = .returned v) ∧ ∃ xs, S xs ∧ J xs W'
section
variable {F : Fence} {n : Nat} {P : Program}
theorem rangeFunc_cells {α : Type} {g : Operand} {ps : Array Tmp} {assign body : Code} {Q : Exit → Act → World → Prop} {a : Act} {w : World}
  (hro : F.round = none) (h1 : 1 ≤ n) {gf : Nat} {lb : Array Value} (hg : a.eval g = .func (.func gf) #[] lb) (hFg : F.fn gf) (eg : ∀ args w, (callFunc gf args).run P w = .ok (.enter gf args) w)
  {encs : α → Array Value} {S : List α → Prop} {N : Nat} {K : Nat → Prop} {w0 : World} (hseq : SeqCells F (n - 1) P gf lb encs S N K w0) (hK : ∀ k, K k → k < w.heap.size) (hb0 : Below w0.heap.size w0 w) (hps : ∀ x, (encs x).size = ps.size)
  (I : List α → World → Prop) (hI : AheadOf w.heap.size I) (h0 : I [] w)
  (hround : ∀ (l : Nat) (pre : List α) (x : α) (W : World), I pre W → w.heap.size + 2 ≤ W.heap.size → pre.length < N →
   assign.wpIn (F.inRound l) (n - 1 - 1) P (Exit.then (fun a1 W1 => KeepNew K w.heap.size W W1 ∧ I pre W1 ∧ ∀ W2, W1.grownBy W2 (some (w.heap.size + 1)) → I pre W2 →
    body.wpIn (F.inRound l) (n - 1 - 1) P (fun e _ W3 => e = .normal ∧ KeepNew K w.heap.size W2 W3 ∧ I (pre ++ [x]) W3) a1 W2) (fun _ _ _ => False)) { tmps := (ps.zip (encs x)).foldl (fun t (p, v) => t.setIfInBounds p v) a.tmps, defers := [] } W)
  (hdone : ∀ (D : Nat) (xs : List α) (W : World), w.heap.size ≤ D → S xs → I xs W → W.heap[D]? = some (.deferred (some [])) → Q .normal { a with defers := { target := .collected D, args := #[] } :: a.defers } W) :
  (Code.rangeFunc g ps assign body).wpIn F n P Q a w := by
 refine wpIn_rangeFunc ?_
 intro fn hfn
 rw [hro]
 obtain ⟨rec, hrec⟩ : ∃ rec : LoopState → Option Code → Loop, rec = fun st pe => { state := st, pending := pe, fn, tmps := a.tmps, params := ps, assign, body, defers := w.heap.size } := ⟨_, rfl⟩
 obtain ⟨W1, hW1⟩ : ∃ W1, (w.alloc (.deferred (some []))).alloc (.loop (rec .ready none)) = W1 := ⟨_, rfl⟩
 have hz : W1.heap.size = w.heap.size + 2 := by rw [← hW1]; simp
 have hL1 : W1.heap[w.heap.size + 1]? = some (.loop (rec .ready none)) := by
  rw [← hW1]; have := World.alloc_heap_new (w.alloc (.deferred (some []))) (.loop (rec .ready none)); rwa [World.size_alloc] at this
 have hK1 : W1.heap[w.heap.size]? = some (.deferred (some [])) := by
  rw [← hW1]; exact (Below.heap_alloc _ _ _ (by simp)).trans (World.alloc_heap_new w _)
 have hg1 : w.grownBy W1 none := by rw [← hW1]; exact ⟨rfl, rfl, rfl, by simp; omega, fun i hi _ => (Below.heap_alloc _ _ _ (by simp; omega)).trans (Below.heap_alloc _ _ _ hi)⟩
 have hI1 : I [] W1 := hI _ _ _ none h0 hg1 (by simp)
 have hb1 : Below w0.heap.size w0 W1 := by
  rw [← hW1]; exact hb0.trans ((((Below.refl _ w).alloc (Nat.le_refl _) _).alloc (by simp) _).mono hb0.size)
 have hK1n : ¬ K (w.heap.size + 1) := fun e => by have := hK _ e; omega
 have hIp : ∀ (s : List α) (W : World) (o : Obj), I s W → I s (W.putObj (w.heap.size + 1) o) := fun s W o h => hI _ _ _ (some (w.heap.size + 1)) h (grownBy_putObj' _ _ _) (by simp)
 refine ⟨w.heap.size + 1, [{ target := .collected w.heap.size, args := #[] }], W1, { target := .fn (.func gf) lb, args := #[.func (.yield (w.heap.size + 1)) #[] #[]] }, W1, gf,
  #[.func (.yield (w.heap.size + 1)) #[] #[]] ++ lb, W1, ?_, ?_, ?_, ?_, fun _ => h1, ?_⟩
 ·rw [← hW1, hrec]; exact run_enterLoop_outer _ _ _ _ _
 ·simp only [resolve, hg]
  simp [go_sem]
 ·intro f' hf'; simp [Target.leads] at hf'; subst hf'; exact hFg
 ·simp [invoke, go_sem, eg]
 ·have keeps : ∀ {A B : World} {row : Option Nat} {k : Nat} {o : Obj}, k < w.heap.size + 2 → A.grownBy B row → (∀ r, row = some r → W1.heap.size ≤ r) → A.heap[k]? = some o → B.heap[k]? = some o :=
   fun {A B row k o} hk hg' hr h => (hg'.block k (Array.getElem?_eq_some_iff.1 h).1 (fun e => by have := hr k e.symm; omega)).trans h
  refine (hseq (w.heap.size + 1)
   (fun pre W => I pre W ∧ W.heap[w.heap.size + 1]? = some (.loop (rec .ready none)) ∧ W.heap[w.heap.size]? = some (.deferred (some [])))
   W1 hb1
   (fun s A B row hs hg' hr => ⟨hI s A B row hs.1 hg' (fun r e => by have := hr r e; omega), keeps (by omega) hg' hr hs.2.1, keeps (by omega) hg' hr hs.2.2⟩)
   ?_ ⟨hI1, hL1, hK1⟩).mono ?_
  ·rintro pre x W ⟨hi, hl, hk⟩ hsz hlen
   have hlt : w.heap.size + 1 < W.heap.size := (Array.getElem?_eq_some_iff.1 hl).1
   have hy := run_yield (P := P) (args := encs x) hl (by rw [hrec]; exact hps x)
   rw [hrec] at hy
   refine ⟨fn, _, assign, body, hy, roundIn_of_wpIn hfn (wpIn_mono (hround _ pre x W hi (by omega) hlen) ?_)⟩
   clear hy
   intro e a1 Wa hp
   cases e with
   | normal =>
    obtain ⟨hka, hia, hbody⟩ := hp
    have hl' := (hka.same _ (.inl (by omega)) (by omega)).trans hl
    have hk' := (hka.same _ (.inl (Nat.le_refl _)) (by omega)).trans hk
    have hlt' : w.heap.size + 1 < Wa.heap.size := (Array.getElem?_eq_some_iff.1 hl').1
    refine ⟨_, run_beginRound hl' (by rw [hrec]), ?_⟩
    have hl2 : (Wa.putObj (w.heap.size + 1) (.loop { rec .ready none with state := .busy })).heap[w.heap.size + 1]? = some (.loop { rec .ready none with state := .busy }) := World.putObj_heap_same hlt'
    have hk2 : (Wa.putObj (w.heap.size + 1) (.loop { rec .ready none with state := .busy })).heap[w.heap.size]? = some (.deferred (some [])) := (World.putObj_heap_other (by omega)).trans hk'
    refine wpIn_mono (hbody _ (grownBy_putObj' _ _ _) (hIp _ _ _ hia)) ?_
    rintro e a3 W3 ⟨rfl, hk3, hi3⟩
    have hl3 := (hk3.same (w.heap.size + 1) (.inl (by omega)) (Array.getElem?_eq_some_iff.1 hl2).1).trans hl2
    have hkk3 := (hk3.same w.heap.size (.inl (Nat.le_refl _)) (Array.getElem?_eq_some_iff.1 hk2).1).trans hk2
    have hr := run_endRound (P := P) none hl3
    rw [hrec] at hr
    refine ⟨_, _, hr, rfl, ⟨hIp _ _ _ hi3, ?_, (World.putObj_heap_other (by omega)).trans hkk3⟩, ?_⟩
    ·rw [hrec]; exact World.putObj_heap_same (Array.getElem?_eq_some_iff.1 hl3).1
    ·exact ((hka.le (by omega)).trans (KeepNew.put _ (by omega) hK1n)).trans ((hk3.le (by omega)).trans (KeepNew.put _ (by omega) hK1n))
   | _ => exact hp.elim
  ·rintro e W2 ⟨⟨v, rfl⟩, xs, hS, hi, hl, hk⟩
   exact ⟨none, _, by have := run_endLoop (P := P) hl (by rw [hrec]; simp); rw [hrec] at this; exact this, hdone _ xs _ (Nat.le_refl _) hS (hIp _ _ _ hi) ((World.putObj_heap_other (by omega)).trans hk)⟩
end
end Go.Proofs.YtglpfpdomnllkaaGreat

namespace Go.Proofs.YtglpfpdomnllkaaGreat
open Go.RowKit Go.Shelf
attribute [local go_sem] Oper.semAt_some
set_option maxHeartbeats 8000000
set_option maxRecDepth 100000
section
variable {α : Type} {c : α → Value} {sz B : Nat} {K : Nat → Prop} {e : TypeId} {w0 w W' : World} {v : Value} {l : List α}
theorem Own.keepNew (h : Own c sz B e w v l) (hk : KeepNew K B w W') : Own c sz B e W' v l := by
 obtain ⟨h1, h2, h3⟩ := h
 refine ⟨h1, h2, ?_⟩
 rcases h3 with h3 | ⟨g, cap, cur, hv, hB, hg, r⟩
 ·exact .inl h3
 ·exact .inr ⟨g, cap, cur, hv, hB, by rw [hk.same g (.inl hB) ((Array.getElem?_eq_some_iff.1 hg).1)]; exact hg, r⟩
/-- an own row, told of a world behind which blocks below B have turned. -/
theorem SL.keepNew (h : SL B w0 w [pOwn c sz e v l]) (hk : KeepNew K B w W') : SL B W' W' [pOwn c sz e v l] := by
 have ho := (h.own 0 rfl).keepNew hk
 refine ⟨Below.refl _ _, Nat.le_trans h.z hk.size, fun _ => v.ownBlock, fun i p hi => ?_, fun i j k hij hj => ?_⟩
 ·rcases i with _ | i
  ·cases hi
   exact ⟨⟨ho.mono (Nat.zero_le _), rfl⟩, fun k e => (ho.lt k e).1⟩
  ·simp at hi
 ·simp at hj; omega
end
section
variable {ops : Array Oper} {rest : List Oper} {a : Act} {Q : Exit → Act → World → Prop} {w : World} {ty : TypeId} {p : String} {af : Array Edge}
theorem wpList_stoIc {x y : Operand} {pa : Addr} {u : Value} {v : Int} (hx : a.eval x = .pointer (some pa)) (hy : a.eval y = .int .i64 v) (hc : w.cell? pa = some u) (hf : w.frozen? pa = false)
  (h : wpList Tryz.prog ops Q rest (a.put none undef) (w.setCell pa (.int .i64 v))) :
  wpList Tryz.prog ops Q (⟨none, .store 3 x y, ty, p, af, none⟩ :: rest) a w := by
 refine wpList_plain rfl fun K hK' => ?_
 have hs := sto_int v w pa (by rw [hc]; rfl) hf
 unfold cInt at hs
 unfold Oper.wp
 simp only [execOp, hx, hy]
 simp [hs, Result.andThen]
 exact hK' _ _ h
end
theorem wrapP1c (p : Nat) (h : p < 1000) : IntKind.i64.wrap ((p : Int) + 1) = (p : Int) + 1 := IntWalk.i64_in _ (by omega)
theorem wrapQ1c (p : Nat) (h : p < 1000) : wrap64 ((p : Int) + 1) = (p : Int) + 1 := IntWalk.wrap64_in _ (by omega)
theorem pkBc (p K : Nat) (h : p + 1 < K) : (¬ (K : Int) ≤ (p : Int) + 1) ∧ (0 : Int) ≤ (p : Int) + 1 ∧ ¬ K ≤ p ∧ ¬ (K : Int) ≤ (p : Int) ∧ (p : Int) + 1 < K ∧ p < K := by
 refine ⟨?_, ?_, ?_, ?_, ?_, ?_⟩ <;> omega
theorem grown_setG (w : World) (k j : Nat) (u : Value) : w.grownBy (w.setCell ⟨k, j, none⟩ u) (some k) :=
 ⟨rfl, rfl, rfl, by simp [World.setCell], fun m hm hne => Below.heap_setCell _ _ _ _ (fun e => hne (by rw [e]))⟩
/-- a crossing of a word on n strands. -/
def CrOk (n : Nat) (c : Int × Int × Int) : Prop := (1 ≤ absI c.1 ∧ absI c.1 < (n : Int)) ∧ (0 ≤ c.2.1 ∧ c.2.1 < (n : Int)) ∧ (0 ≤ c.2.2 ∧ c.2.2 < (n : Int)) ∧ c.2.1 ≠ c.2.2
abbrev CrS (n : Nat) := { c : Int × Int × Int // CrOk n c }
def crV {n : Nat} (x : CrS n) : Array Value := #[.int .i64 x.1.1, .agg #[.int .i64 x.1.2.1, .int .i64 x.1.2.2]]
/-- what the iterator must find again: its two boxes and the word. -/
def crK (bn bw : Nat) (ad : Option Addr) (m k : Nat) : Prop := k = bn ∨ k = bw ∨ (0 < m ∧ ∃ b, ad = some b ∧ k = b.block)
theorem crossings1_in (mm l bn bw cap : Nat) (ad : Option Addr) (n : Nat) (ws : List Int) (hn : n ≤ 1000) (hl : ws.length ≤ 1048576) (hf : ∀ x ∈ ws, 1 ≤ absI x ∧ absI x < (n : Int)) (hm : 1 ≤ mm) (J : List (CrS n) → World → Prop)
  (W : World) (hJ : AheadOf W.heap.size J)
  (hY : ∀ pre (x : CrS n) W1, J pre W1 → W.heap.size ≤ W1.heap.size → pre.length < ws.length → YieldAt Fence.wide (mm - 1) Tryz.prog l (crV x) W1 fun e W' => e = .returned (.bool true) ∧ J (pre ++ [x]) W' ∧ KeepNew (crK bn bw ad ws.length) W.heap.size W1 W')
  (hWn : W.cell? ⟨bn, 0, none⟩ = some (.int .i64 n)) (hWw : W.cell? ⟨bw, 0, none⟩ = some (.slice ad ws.length cap)) (hS : Ints W ad cap ws) (h0 : J [] W) :
  CallsIn Fence.wide mm Tryz.prog 164 #[.func (.yield l) #[] #[], .pointer (some ⟨bn, 0, none⟩), .pointer (some ⟨bw, 0, none⟩)] W fun e W' => (∃ v, e = .returned v) ∧
   ∃ ys : List (CrS n), ys.map (·.1) = csB (idL n) ws ∧ J ys W' := by
 have HI := hid (bidentity_any n W hn)
 refine callsIn_of_wp Tryz.func164 rfl trivial ?_ rfl
 simp only [Tryz.ntmps164, List.size_toArray, List.length_cons, List.length_nil, Nat.reduceAdd, Nat.reduceSub, Array.replicate_succ, Array.replicate_zero, List.push_toArray, List.append_toArray, List.nil_append, List.cons_append]
 gi_wp2
 refine ⟨trivial, (callsIn_wide.2 HI.out).mono ?_⟩
 rintro e w2 ⟨v, rfl, ho, b2⟩
 have hS2 := SL.ofOwn ho b2
 have J2 := hJ _ _ _ none h0 (grown_of_below b2) (by simp)
 obtain ⟨g, gcap, hv, -⟩ := hS2.slice 0 rfl
 subst hv
 have z2 := hS2.z
 have hkw : ∀ bl : Nat, bl < W.heap.size → w2.heap[bl]? = W.heap[bl]? := fun bl h => b2.block bl h
 have cn2 : w2.cell? ⟨bw, 0, none⟩ = some (.slice ad ws.length cap) := (b2.cell (p := ⟨bw, 0, none⟩) (World.block_lt_of_cell? W _ hWw)).trans hWw
 have hI2 : Ints w2 ad cap ws := hS.below b2
 have hbB : ∀ b, ad = some b → 0 < ws.length → b.block < W.heap.size := fun b e h => by
  obtain ⟨b', o', hb', hcx⟩ := hS.cells (by decide) 0 0 h
  have hcx := hcx 0 (.int .i64 (atD 0 ws 0)) rfl
  rw [hb'] at e
  cases e
  exact World.block_lt_of_cell? _ _ hcx
 have hbwB : bw < W.heap.size := World.block_lt_of_cell? W _ hWw
 have HF := hid hf
 have HY := hid hY
 have HJ := hid hJ
 clear hf hY hJ hWn hWw hkw b2 HI h0 hS ho
 generalize hB : W.heap.size = B at *
 gi_wp2
 gi_loopw [12] (fun x wr => ∃ (j : Nat) (pre : List (CrS n)), j ≤ ws.length ∧ x = .int .i64 j ∧ pre.map (·.1) = csB (idL n) (ws.take j) ∧ J pre wr ∧ SL B wr wr [pOwn cInt 1 3 (.slice g (idL n).length gcap) (row5 (idL n) (ws.take j))] ∧
  wr.cell? ⟨bw, 0, none⟩ = some (.slice ad ws.length cap) ∧ Ints wr ad cap ws) (fun x _ => ws.length - (intOf x).toNat)
 case atStart => exact ⟨0, [], by omega, rfl, rfl, J2, hS2.keepNew (KeepNew.refl (crK bn bw ad ws.length) _ _), cn2, hI2⟩
 case round =>
  clear hS2 J2 cn2 hI2 z2
  obtain ⟨j, pre, hj, rfl, hpre, hJs, hSr, hcw, hIr⟩ := hrel
  have hlen : pre.length = j := by have := congrArg List.length hpre; rw [List.length_map, csB_len, List.length_take] at this; omega
  by_cases hlt : j < ws.length
  ·have hx := HF.out _ (atD_mem hlt)
   have hr5 := row5_isP (ws.take j) (idL n) (idL_isP n) (fun x hx => by rw [idL_len]; exact HF.out x (List.mem_of_mem_take hx))
   have hr5l : (row5 (idL n) (ws.take j)).length = n := by rw [row5_len, idL_len]
   have hnx := csB_take (idL n) ws hlt
   have hrx := row5_take (idL n) ws hlt
   obtain ⟨R, hR⟩ : ∃ R, R = row5 (idL n) (ws.take j) := ⟨_, rfl⟩
   rw [← hR] at hSr hr5 hr5l hnx hrx
   obtain ⟨X, hX⟩ : ∃ X, X = atD 0 ws j := ⟨_, rfl⟩
   rw [← hX] at hx hnx hrx
   obtain ⟨b, o, hb, hcx⟩ := hIr.cells (by decide) 0 j hlt
   have hcx := hcx 0 (.int .i64 X) (by rw [hX]; rfl)
   subst hb
   simp only [Nat.mul_one, Nat.add_zero] at hcx
   have hid5 := idL_len n
   have HE := hid hx
   have hX1 : -1000 ≤ X ∧ X ≤ 1000 := by have := hx; unfold absI at this; split at this <;> omega
   have HA := fun w => babs_any X w (by omega) (by omega)
   obtain ⟨p, hp⟩ : ∃ p : Nat, absI X = (p : Int) + 1 := ⟨(absI X - 1).toNat, by omega⟩
   have hp1 : p + 1 < n := by omega
   rw [hp] at HA hnx hrx
   rw [show (p : Int) + 1 - 1 = p by omega] at hnx
   have okc : CrOk n (X, atD 0 R (p : Int), atD 0 R ((p : Int) + 1)) := by
    refine ⟨hx, ?_, ?_, fun e => ?_⟩
    ·have := hr5.rng (p : Int) (by omega) (by omega); rw [hr5l] at this; exact this
    ·have := hr5.rng ((p : Int) + 1) (by omega) (by omega); rw [hr5l] at this; exact this
    ·have := hr5.inj _ _ (by omega) (by omega) (by omega) (by omega) e
     omega
   obtain ⟨G, hG, hgn, hcA, hfA, -⟩ := hSr.setOwn cInt1 0 rfl (p : Int) (by omega) (by omega) 0
   subst hG
   obtain ⟨G', hG', -, hcC, hfC, -⟩ := hSr.setOwn cInt1 0 rfl ((p : Int) + 1) (by omega) (by omega) 0
   cases hG'
   have vA : R[p]?.map cInt = some (.int .i64 (atD 0 R (p : Int))) := by
    have : p < R.length := by omega
    simp [atD, this, cInt]
   have eP1 : ((p : Int) + 1).toNat = p + 1 := by omega
   have vB : R[p + 1]?.map cInt = some (.int .i64 (atD 0 R ((p : Int) + 1))) := by
    have : p + 1 < R.length := by omega
    simp [atD, eP1, this, cInt]
   simp only [show (p : Int).toNat = p by omega, eP1] at hcA hfA hcC hfC
   rw [vA] at hcA
   rw [vB] at hcC
   rw [hid5] at hSr ⊢
   have hp9 : p < 1000 := by omega
   clear vA vB hgn eP1
   have HLN := hid hlen
   have HNX := hid hnx
   have HRX := hid hrx
   have HPRE := hid hpre
   have HL5 := hid hr5l
   obtain ⟨A0, hA0⟩ : ∃ A, A = atD 0 R (p : Int) := ⟨_, rfl⟩
   have HA0 := hid hA0
   obtain ⟨A1, hA1⟩ : ∃ A, A = atD 0 R ((p : Int) + 1) := ⟨_, rfl⟩
   have HA1 := hid hA1
   rw [← hA0] at hcA okc
   rw [← hA1] at hcC okc
   clear hA0 hA1
   have HOK := hid okc
   have HAA := hid HA
   clear HA hid5 okc hx hX1 hlen hpre hnx hrx hr5 hr5l hX hp
   gi_wp2
   refine ⟨trivial, (callsIn_wide.2 (HAA.out _)).mono ?_⟩
   rintro e w3 ⟨rfl, rfl⟩
   gi_wp2
   have hmx : Tryz.prog.follows .mixedOrders = true := by kernel_rfl
   have hwp : IntKind.i64.wrap ((p : Int) + 1) = (p : Int) + 1 := IntWalk.i64_in _ (by omega)
   refine wpIn_region_qt 12 kR hmx kR ?_
   simp only [List.take_succ_cons, List.take_zero, List.drop_succ_cons, List.drop_zero]
   refine wpQIn_val (.func (.yield l) #[] #[]) rfl (fun _ => rfl) (fun w' => by go_simp) ?_
   go_simp
   refine wpQIn_val (.int .i64 X) rfl (fun _ => rfl) (fun w' => by go_simp) ?_
   go_simp
   refine wpQIn_val (.slice (some ⟨G, 0, none⟩) n gcap) rfl (fun _ => rfl) (fun w' => by go_simp) ?_
   go_simp
   refine wpQIn_val (.int .i64 p) rfl (fun _ => rfl) (fun w' => by go_simp) ?_
   go_simp
   refine wpQIn_val (.pointer (some ⟨G, p, none⟩)) rfl (fun _ => rfl) (fun w' => by go_simp; intro h; omega) ?_
   go_simp
   refine wpQIn_load F_int wU hcA ?_
   go_simp
   refine wpQIn_val (.slice (some ⟨G, 0, none⟩) n gcap) rfl (fun _ => rfl) (fun w' => by go_simp) ?_
   go_simp
   refine wpQIn_val (.int .i64 p) rfl (fun _ => rfl) (fun w' => by go_simp) ?_
   go_simp
   refine wpQIn_val (.int .i64 ((p : Int) + 1)) rfl (fun _ => rfl) (fun w' => by go_simp) ?_
   go_simp
   refine wpQIn_val (.pointer (some ⟨G, p + 1, none⟩)) rfl (fun _ => rfl) (fun w' => by go_simp; intro h; have := h (by omega); omega) ?_
   go_simp
   refine wpQIn_load F_int wU hcC ?_
   go_simp
   refine wpQIn_val (.agg #[.int .i64 A0, .int .i64 A1]) rfl (fun _ => rfl) (fun w' => by go_simp) ?_
   go_simp
   refine wpQuietIn_nil ?_
   intro kd
   obtain ⟨w4, hw4e⟩ : ∃ w4, w4 = wr.drewN kd := ⟨_, rfl⟩
   rw [← hw4e]
   have hw4 : ∃ n, w4 = wr.drewN n := ⟨kd, hw4e⟩
   clear hw4e
   have b4 := below_drewN hw4
   have g4 := grown_of_below b4
   have hcA4 := (b4.cell (p := ⟨G, p, none⟩) (World.block_lt_of_cell? _ _ hcA)).trans hcA
   have hcC4 := (b4.cell (p := ⟨G, p + 1, none⟩) (World.block_lt_of_cell? _ _ hcC)).trans hcC
   have k4 : KeepNew (crK bn bw (some ⟨b, o, none⟩) ws.length) B wr w4 := KeepNew.grown g4 (by simp)
   have hS4 := hSr.keepNew k4
   have hcw4 := (b4.cell (p := ⟨bw, 0, none⟩) (World.block_lt_of_cell? _ _ hcw)).trans hcw
   have hI4 := hIr.below b4
   obtain ⟨fn, tmps, assign, body, hy, hRI⟩ := HY.out pre ⟨_, HOK.out⟩ w4 (HJ.out _ _ _ none hJs g4 (by simp)) hS4.z (by have := HLN.out; omega)
   unfold crV at hy
   dsimp only at hy
   have hb4 : b < w4.heap.size := Nat.lt_of_lt_of_le (World.block_lt_of_cell? _ _ hcx) b4.size
   clear hw4 b4 g4 hJs hSr hcA hcC hcw hIr k4 hfA hfC
   gi_wp2
   refine hRI.mono ?_
   rintro e W3 ⟨rfl, hJ3, hk3⟩
   have hS3 := hS4.keepNew hk3
   have hcw3 : W3.cell? ⟨bw, 0, none⟩ = some (.slice (some ⟨b, o, none⟩) ws.length cap) := by
    have := hk3.same bw (.inr (.inr (.inl rfl))) (World.block_lt_of_cell? _ _ hcw4)
    simpa [World.cell?, this] using hcw4
   have hI3 : Ints W3 (some ⟨b, o, none⟩) cap ws := hI4.keep (fun b' e => by cases e; exact hk3.same _ (.inr (.inr (.inr ⟨by omega, _, rfl, rfl⟩))) hb4)
   have hGB : B ≤ G := ((hS3.own 0 rfl).lt G rfl).1
   clear hS4 hcw4 hI4 hk3 hRI hy hcA4 hcC4 hb4
   have hRl := HL5.out
   gi_wp2
   refine wpIn_wide.2 ?_
   have hSU := hS3.drew
   obtain ⟨U, hU⟩ : ∃ U, U = W3.drew := ⟨_, rfl⟩
   rw [← hU] at hSU
   obtain ⟨G1, hG1, -, hcA, hfA, hS5⟩ := hSU.setOwn cInt1 0 rfl (p : Int) (by omega) (by omega) (atD 0 R ((p : Int) + 1))
   cases hG1
   obtain ⟨G1, hG1, -, hcB, hfB, hS6⟩ := hS5.setOwn cInt1 0 rfl ((p : Int) + 1) (by omega) (by simp; omega) (atD 0 R (p : Int))
   cases hG1
   obtain ⟨G1, hG1, -, hcC, hfC, -⟩ := hSU.setOwn cInt1 0 rfl ((p : Int) + 1) (by omega) (by omega) 0
   cases hG1
   have eP : (p : Int).toNat = p := by simp
   have eP1 : ((p : Int) + 1).toNat = p + 1 := by omega
   have vA : R[p]?.map cInt = some (.int .i64 (atD 0 R (p : Int))) := by
    have : p < R.length := by omega
    simp [atD, this, cInt]
   have vB : R[p + 1]?.map cInt = some (.int .i64 (atD 0 R ((p : Int) + 1))) := by
    have : p + 1 < R.length := by omega
    simp [atD, eP1, this, cInt]
   simp only [eP, eP1] at hcA hfA hcB hfB hcC hfC hS5 hS6
   rw [vA] at hcA
   rw [vB] at hcC
   have hcB2 : (R.set p (atD 0 R ((p : Int) + 1)))[p + 1]?.map cInt = some (.int .i64 (atD 0 R ((p : Int) + 1))) := by
    rw [List.getElem?_set_ne (by omega)]; exact vB
   rw [hcB2] at hcB
   have hsw : (R.set p (atD 0 R ((p : Int) + 1))).set (p + 1) (atD 0 R (p : Int)) = swapL R ((p : Int) + 1) := by
    unfold swapL
    rw [show (p : Int) + 1 - 1 = p by omega, eP1, eP]
   rw [hsw] at hS6
   rw [← HA0.out] at hcA hS6
   rw [← HA1.out] at hcC hcB hfB hS5 hS6
   simp only [cInt, List.set_cons_zero] at hcB hfB hS5 hS6
   obtain ⟨hkA, hkB, hkC, hkD, hkE, hkF⟩ := pkBc p n hp1
   have hw1 := wrapQ1c p hp9
   have hw2 := wrapP1c p hp9
   have hUb := hSU.b
   clear hcB2 vA vB hsw eP eP1
   go_wp2_with fail
   refine wp_regionK (C := (fun V' => Below B W3 V')) [0, 1, 2, 3, 4, 5, 6, 7, 8, 10, 11, 12] [_, _, _, _, _, _, _, _, _, _, _, _] 6 (by simp only [List.map_cons, List.map_nil, List.getElem?_toArray]; rfl) rfl kR kR kR ((by rw [hU] at hUb; exact hUb)) ?_
   refine ⟨_, yieldsK_val wU (fun w' => by with_unfolding_all exact rfl), ?_⟩
   go_frame
   refine ⟨_, yieldsK_val wU (fun w' => by with_unfolding_all exact rfl), ?_⟩
   go_frame
   refine ⟨_, yieldsK_val wU (fun w' => by with_unfolding_all exact rfl), ?_⟩
   go_frame
   refine ⟨_, yieldsK_val wU (fun w' => by with_unfolding_all exact rfl), ?_⟩
   go_frame
   refine ⟨.int .i64 ((p : Int) + 1), yieldsK_val wU (fun w' => by first | (go_simp; done) | (go_simp; rfl)), ?_⟩
   go_frame
   refine ⟨_, yieldsK_val wU (fun w' => by with_unfolding_all exact rfl), ?_⟩
   go_frame
   refine ⟨_, yieldsK_val wU (fun w' => by with_unfolding_all exact rfl), ?_⟩
   go_frame
   refine ⟨.int .i64 ((p : Int) + 1), yieldsK_val wU (fun w' => by first | (go_simp; done) | (go_simp; rfl)), ?_⟩
   go_frame
   refine ⟨.pointer (some ⟨G, p + 1, none⟩), yieldsK_val wU (fun w' => by first | (go_simp; done) | (go_simp; rfl)), ?_⟩
   go_frame
   refine ⟨_, yieldsK_val wU (fun w' => by with_unfolding_all exact rfl), ?_⟩
   go_frame
   refine ⟨_, yieldsK_val wU (fun w' => by with_unfolding_all exact rfl), ?_⟩
   go_frame
   refine ⟨.pointer (some ⟨G, p, none⟩), yieldsK_val wU (fun w' => by first | (go_simp; done) | (go_simp; rfl)), ?_⟩
   go_frame
   unfold wpPureK
   have hVd : ({ W3 with drawn := W3.drawn + 1 } : World) = W3.drew := rfl
   rw [hVd, ← hU]
   have hgU : W3.grownBy U (some G) := by rw [hU]; have h := (Below.refl W3.heap.size W3).drew; exact ⟨h.os, h.tape, h.output, h.size, fun i hi _ => h.block i hi⟩
   clear hVd hU
   refine wpAnyC_on [9, 13] kR (by simp) ?_
   simp only [List.forall_mem_cons, List.not_mem_nil, false_implies, implies_true, and_true]
   refine ⟨?_, ?_⟩
   ·refine wpOp_value (v := .int .i64 A1) (w' := U) (by rw [List.getElem?_toArray]; rfl) wU (by first | (go_simp; done) | (go_simp; rfl) | (simp [execOp, Act.eval, Result.andThen]; done)) ?_
    refine ⟨hSU.b, ?_⟩
    go_frame
    refine wpAnyC_on [13] kR (by simp) ?_
    simp only [List.forall_mem_cons, List.not_mem_nil, false_implies, implies_true, and_true]
    refine wpOp_value (v := .int .i64 A0) (w' := U) (by rw [List.getElem?_toArray]; rfl) wU (by first | (go_simp; done) | (go_simp; rfl) | (simp [execOp, Act.eval, Result.andThen]; done)) ?_
    refine ⟨hSU.b, ?_⟩
    go_frame
    refine wpAnyC_on [14] kR (by simp) ?_
    simp only [List.forall_mem_cons, List.not_mem_nil, false_implies, implies_true, and_true]
    refine wpOp_value (v := .pointer (some ⟨G, p, none⟩)) (w' := U) (by rw [List.getElem?_toArray]; rfl) wU (by first | (go_simp; done) | (go_simp; rfl) | (simp [execOp, Act.eval, Result.andThen]; done)) ?_
    refine ⟨hSU.b, ?_⟩
    go_frame
    refine wpAnyC_on [15] kR (by simp) ?_
    simp only [List.forall_mem_cons, List.not_mem_nil, false_implies, implies_true, and_true]
    refine wpOp_of_list (by rw [List.getElem?_toArray]; rfl) ?_
    refine wpList_stoIc (v := A1) wU wU hcA hfA ?_
    refine ⟨hS5.b, ?_⟩
    go_frame
    refine wpAnyC_on [16] kR (by simp) ?_
    simp only [List.forall_mem_cons, List.not_mem_nil, false_implies, implies_true, and_true]
    refine wpOp_value (v := .pointer (some ⟨G, p + 1, none⟩)) (w' := (U.setCell ⟨G, p, none⟩ (.int .i64 A1))) (by rw [List.getElem?_toArray]; rfl) wU (by first | (go_simp; done) | (go_simp; rfl) | (simp [execOp, Act.eval, Result.andThen]; done)) ?_
    refine ⟨hS5.b, ?_⟩
    go_frame
    refine wpAnyC_on [17] kR (by simp) ?_
    simp only [List.forall_mem_cons, List.not_mem_nil, false_implies, implies_true, and_true]
    refine wpOp_of_list (by rw [List.getElem?_toArray]; rfl) ?_
    refine wpList_stoIc (v := A0) wU wU hcB hfB ?_
    refine ⟨hS6.b, ?_⟩
    go_frame
    refine wpAnyC_rest [] [] rfl rfl kR kR kR hS6.b ?_
    unfold wpPure
    refine of_wpList_nil (P := Tryz.prog) (ops := #[]) ?_
    obtain ⟨U2, hU2⟩ : ∃ U2, U2 = (U.setCell ⟨G, p, none⟩ (.int .i64 A1)).setCell ⟨G, p + 1, none⟩ (.int .i64 A0) := ⟨_, rfl⟩
    have hg2 : W3.grownBy U2 (some G) := by rw [hU2]; exact (hgU.trans (grown_setG _ _ _ _)).trans (grown_setG _ _ _ _)
    rw [← hU2] at hS6 ⊢
    clear hU2 hS5 hcA hcB hcC hfA hfB hfC hkA hkB hkC hkD hkE hkF hw1
    have bX := hS6.b
    have hcw5 := (bX.cell (p := ⟨bw, 0, none⟩) hbwB).trans hcw3
    have hI5 : Ints U2 (some ⟨b, o, none⟩) cap ws := hI3.keep (fun b' e => by cases e; exact bX.block b (hbB _ rfl (by omega)))
    have hS7 := hS6.keepNew (KeepNew.refl (crK bn bw (some ⟨b, o, none⟩) ws.length) _ _)
    have hJ5 := HJ.out _ _ _ (some G) hJ3 hg2 (by rintro r e; cases e; exact hGB)
    clear bX hS6 hcw3 hI3 hJ3 hg2
    go_wp2_with fail
    gi_wp2
    go_roundw
    case rel => exact ⟨j + 1, pre ++ [⟨_, HOK.out⟩], by omega, by go_num, by rw [HNX.out, List.map_append, HPRE.out, ← HA0.out, ← HA1.out]; rfl, hJ5, by rw [HRX.out]; exact hS7, hcw5, hI5⟩
    case measure => simp [intOf]; omega
   ·refine wpOp_value (v := .int .i64 A0) (w' := U) (by rw [List.getElem?_toArray]; rfl) wU (by first | (go_simp; done) | (go_simp; rfl) | (simp [execOp, Act.eval, Result.andThen]; done)) ?_
    refine ⟨hSU.b, ?_⟩
    go_frame
    refine wpAnyC_on [9] kR (by simp) ?_
    simp only [List.forall_mem_cons, List.not_mem_nil, false_implies, implies_true, and_true]
    refine wpOp_value (v := .int .i64 A1) (w' := U) (by rw [List.getElem?_toArray]; rfl) wU (by first | (go_simp; done) | (go_simp; rfl) | (simp [execOp, Act.eval, Result.andThen]; done)) ?_
    refine ⟨hSU.b, ?_⟩
    go_frame
    refine wpAnyC_on [14] kR (by simp) ?_
    simp only [List.forall_mem_cons, List.not_mem_nil, false_implies, implies_true, and_true]
    refine wpOp_value (v := .pointer (some ⟨G, p, none⟩)) (w' := U) (by rw [List.getElem?_toArray]; rfl) wU (by first | (go_simp; done) | (go_simp; rfl) | (simp [execOp, Act.eval, Result.andThen]; done)) ?_
    refine ⟨hSU.b, ?_⟩
    go_frame
    refine wpAnyC_on [15] kR (by simp) ?_
    simp only [List.forall_mem_cons, List.not_mem_nil, false_implies, implies_true, and_true]
    refine wpOp_of_list (by rw [List.getElem?_toArray]; rfl) ?_
    refine wpList_stoIc (v := A1) wU wU hcA hfA ?_
    refine ⟨hS5.b, ?_⟩
    go_frame
    refine wpAnyC_on [16] kR (by simp) ?_
    simp only [List.forall_mem_cons, List.not_mem_nil, false_implies, implies_true, and_true]
    refine wpOp_value (v := .pointer (some ⟨G, p + 1, none⟩)) (w' := (U.setCell ⟨G, p, none⟩ (.int .i64 A1))) (by rw [List.getElem?_toArray]; rfl) wU (by first | (go_simp; done) | (go_simp; rfl) | (simp [execOp, Act.eval, Result.andThen]; done)) ?_
    refine ⟨hS5.b, ?_⟩
    go_frame
    refine wpAnyC_on [17] kR (by simp) ?_
    simp only [List.forall_mem_cons, List.not_mem_nil, false_implies, implies_true, and_true]
    refine wpOp_of_list (by rw [List.getElem?_toArray]; rfl) ?_
    refine wpList_stoIc (v := A0) wU wU hcB hfB ?_
    refine ⟨hS6.b, ?_⟩
    go_frame
    refine wpAnyC_rest [] [] rfl rfl kR kR kR hS6.b ?_
    unfold wpPure
    refine of_wpList_nil (P := Tryz.prog) (ops := #[]) ?_
    obtain ⟨U2, hU2⟩ : ∃ U2, U2 = (U.setCell ⟨G, p, none⟩ (.int .i64 A1)).setCell ⟨G, p + 1, none⟩ (.int .i64 A0) := ⟨_, rfl⟩
    have hg2 : W3.grownBy U2 (some G) := by rw [hU2]; exact (hgU.trans (grown_setG _ _ _ _)).trans (grown_setG _ _ _ _)
    rw [← hU2] at hS6 ⊢
    clear hU2 hS5 hcA hcB hcC hfA hfB hfC hkA hkB hkC hkD hkE hkF hw1
    have bX := hS6.b
    have hcw5 := (bX.cell (p := ⟨bw, 0, none⟩) hbwB).trans hcw3
    have hI5 : Ints U2 (some ⟨b, o, none⟩) cap ws := hI3.keep (fun b' e => by cases e; exact bX.block b (hbB _ rfl (by omega)))
    have hS7 := hS6.keepNew (KeepNew.refl (crK bn bw (some ⟨b, o, none⟩) ws.length) _ _)
    have hJ5 := HJ.out _ _ _ (some G) hJ3 hg2 (by rintro r e; cases e; exact hGB)
    clear bX hS6 hcw3 hI3 hJ3 hg2
    go_wp2_with fail
    gi_wp2
    go_roundw
    case rel => exact ⟨j + 1, pre ++ [⟨_, HOK.out⟩], by omega, by go_num, by rw [HNX.out, List.map_append, HPRE.out, ← HA0.out, ← HA1.out]; rfl, hJ5, by rw [HRX.out]; exact hS7, hcw5, hI5⟩
    case measure => simp [intOf]; omega
  ·-- END
   have hjj : j = ws.length := by omega
   have hys : pre.map (·.1) = csB (idL n) ws := by rw [hpre, hjj, List.take_length]
   have HYS := hid hys
   clear hpre hys
   gi_wp2
   go_end0
   exact ⟨⟨_, rfl⟩, pre, HYS.out, hJs⟩
/-- the iterator, as the law of ranges over such iterators wants it. -/
theorem crossings_cells (mm bn bw cap : Nat) (ad : Option Addr) (n : Nat) (ws : List Int) (hn : n ≤ 1000) (hl : ws.length ≤ 1048576) (hf : ∀ x ∈ ws, 1 ≤ absI x ∧ absI x < (n : Int)) (hm : 1 ≤ mm) (w : World)
  (hWn : w.cell? ⟨bn, 0, none⟩ = some (.int .i64 n)) (hWw : w.cell? ⟨bw, 0, none⟩ = some (.slice ad ws.length cap)) (hS : Ints w ad cap ws) :
  SeqCells Fence.wide mm Tryz.prog 164 #[.pointer (some ⟨bn, 0, none⟩), .pointer (some ⟨bw, 0, none⟩)] (crV (n := n)) (fun ys => ys.map (·.1) = csB (idL n) ws) ws.length (crK bn bw ad ws.length) w := fun l J W hW hJ hY h0 =>
 crossings1_in mm l bn bw cap ad n ws hn hl hf hm J W hJ hY ((hW.cell (p := ⟨bn, 0, none⟩) (World.block_lt_of_cell? w _ hWn)).trans hWn) ((hW.cell (p := ⟨bw, 0, none⟩) (World.block_lt_of_cell? w _ hWw)).trans hWw) (hS.below hW) h0
theorem crossings_any5 (a : Option Addr) (m cap : Nat) (n : Int) (w : World) :
  Calls Tryz.prog 123 #[.int .i64 n, .slice a m cap] w fun r w' =>
   r = .returned (.func (.func 164) #[] #[.pointer (some ⟨w.heap.size, 0, none⟩), .pointer (some ⟨w.heap.size + 1, 0, none⟩)]) ∧ w' = (w.alloc (.cells #[.int .i64 n] 3)).alloc (.cells #[.slice a m cap] 22) := by
 go_enter Tryz.func123, Tryz.ntmps123
 go_wp2
 go_ret
 exact ⟨rfl, rfl⟩
end Go.Proofs.YtglpfpdomnllkaaGreat

namespace Go.Proofs.YtglpfpdomnllkaaGreat
open Go.RowKit
set_option maxRecDepth 100000
section
variable {P : Program} {n r : Nat}
def Oper.noDefer (o : Oper) : Bool := match o.op with | .defer _ => false | _ => true
theorem noDefer_ne {o : Oper} (h : Oper.noDefer o = true) : ∀ c, o.op ≠ .defer c := fun c hc => by
 unfold Oper.noDefer at h
 rw [hc] at h
 cases h
theorem callsR {f : FuncId} {args : Array Value} {w : World} {R : Ending → World → Prop} (h : Calls P f args w R) : CallsIn (Fence.wide.inRound r) n P f args w R := (callsIn_wide (n := n)).2 h
theorem rowsR {row : String} {args : Array Value} {w : World} {R : Value → World → Prop} (h : Rows P row args w R) : RowsIn (Fence.wide.inRound r) n P row args w R := fun c cs _ =>
 let ⟨v, w', r, s⟩ := h c cs; ⟨v, w', r, stepsIn_wide.2 s⟩
theorem oper_wpR {o : Oper} {a : Act} {w : World} {K : Act → World → Prop} {Q Q' : Exit → Act → World → Prop} (hnd : ∀ c, o.op ≠ .defer c) (hQ : ∀ c a w, Q (.panic c) a w → Q' (.panic c) a w) (hL : LetsOut Q → LetsOut Q')
  (h : o.wp P a w K Q) : o.wpIn (Fence.wide.inRound r) n P a w K Q' := by
 refine ⟨fun _ _ => trivial, ?_⟩
 unfold Oper.wp at h
 rw [Oper.semAt_plain _ _ _ hnd]
 generalize (execOp a.eval o).run P w = res at h ⊢
 cases res with
 | ok x w' =>
  cases x with
  | value v => exact h
  | skip => exact h
  | defer d => exact h
  | enter f args =>
   refine ⟨fun h => (by simp [Fence.wide] at h), callsR (Calls.mono h fun e w'' he => ?_)⟩
   cases e with
   | returned v => exact he
   | panicked c => exact hQ _ _ _ he
   | outgrown => exact hL he
  | row row args => exact ⟨fun h => (by simp [Fence.wide] at h), rowsR h⟩
  | _ => exact absurd h (by simp [Oper.upon])
 | halt x w' =>
  cases x with
  | panic v => exact hQ _ _ _ h
  | _ => exact absurd h (by simp [Oper.upon])
theorem wpListR {ops : Array Oper} {Q Q' : Exit → Act → World → Prop} (hQ : ∀ e a w, Q e a w → Q' e a w) (hL : ¬ LetsOut Q) :
  ∀ (l : List Oper) (a : Act) (w : World), l.all Oper.noDefer = true → wpList P ops Q l a w → wpListIn (Fence.wide.inRound r) n P ops Q' l a w
 | [], a, w, _, h => hQ _ _ _ h
 | o :: l, a, w, hn, h => by
   rw [List.all_cons, Bool.and_eq_true] at hn
   unfold wpList at h
   unfold wpListIn
   split at h
   · rename_i hw
     rw [if_pos hw]
     rcases h with h | h
     · have h2 : o.wp P a w (wpListIn (Fence.wide.inRound r) n P ops Q' l) Q := by
         unfold Oper.wp at h ⊢
         generalize (execOp a.eval o).run P w = res at h ⊢
         have ih := wpListR (ops := ops) hQ hL l
         cases res with
         | ok x w' =>
           cases x with
           | value v => exact ih _ _ hn.2 h
           | skip => exact ih _ _ hn.2 h
           | defer d => exact ih _ _ hn.2 h
           | enter f args =>
             refine Calls.mono h fun e w'' he => ?_
             cases e with
             | returned v => exact ih _ _ hn.2 he
             | panicked c => exact he
             | outgrown => exact he
           | row row args => exact Rows.mono h fun v w'' he => ih _ _ hn.2 he
           | _ => exact absurd h (by simp [Oper.upon])
         | halt x w' =>
           cases x with
           | panic v => exact h
           | _ => exact absurd h (by simp [Oper.upon])
       exact oper_wpR (noDefer_ne hn.1) (fun c a w => hQ _ _ _) (fun ⟨a, w, q⟩ => ⟨a, w, hQ _ _ _ q⟩) h2
     · exact absurd h.2 hL
   · rename_i hw
     rw [if_neg hw]
     exact ⟨fun _ _ => trivial, wpListR hQ hL l _ _ hn.2 h⟩
theorem noOut {Q : Exit → Act → World → Prop} : ¬ LetsOut (fun e a w => e = .normal ∧ Q e a w) := fun h => by
 obtain ⟨_, _, h, _⟩ := h
 cases h
/-- a region that has one order, within a round. -/
theorem wpIn_regionR {id : Nat} {l : List Oper} {Q : Exit → Act → World → Prop} {a : Act} {w : World} (hn : l.all Oper.noDefer = true)
  (h : wpList P l.toArray (fun e a w => e = .normal ∧ Q e a w) l a w) : (Code.region id l.toArray false).wpIn (Fence.wide.inRound r) n P Q a w :=
 wpIn_region_lit (wpListR (fun _ _ _ h => h.2) noOut l a w hn h)
end
section
variable {P : Program} {ops : Array Oper} {rest : List Oper} {a : Act} {Q : Exit → Act → World → Prop} {α : Type} {c : α → Value} {sz bytes B : Nat} {t e : TypeId} {z v : Value} {w0 w : World} {L : List Pc} {l : List α}
/-- a store into an owned list, with what it leaves as it is. -/
theorem wpList_storeLG {d1 : Tmp} {ty1 ty2 : TypeId} {p1 p2 : String} {s x y : Operand} {af1 af2 : Array Edge} {ad : Option Addr} {n cap : Nat} {k : Int} {u : α} (i : Nat)
   (E : ETy P t e z 1 bytes) (hc1 : ∀ x, (c x).cells = #[c x]) (hsto : ∀ (u : α) (w : World) (p : Addr), (w.cell? p).isSome = true → w.frozen? p = false → (Instr.storeAt e (.pointer (some p)) (c u)).run P w = .ok () (w.setCell p (c u)))
   (hs : a.eval s = .slice ad n cap) (hx : a.eval x = .int .i64 k) (hS : SL B w0 w L) (hi : L[i]? = some (pOwn c 1 e (.slice ad n cap) l)) (h0 : 0 ≤ k) (hk : k < l.length)
   (hd : ∀ p, (a.put (some d1) p).eval (.tmp d1) = p) (hy : ∀ p, (a.put (some d1) p).eval y = c u)
   (hK : ∀ p w', SL B w0 w' (L.set i (pOwn c 1 e (.slice ad n cap) (l.set k.toNat u))) → w.grownBy w' (Value.slice ad n cap).ownBlock → wpList P ops Q rest ((a.put (some d1) p).put none undef) w') :
   wpList P ops Q (⟨some d1, .indexAddr t s x, ty1, p1, af1, none⟩ :: ⟨none, .store e (.tmp d1) y, ty2, p2, af2, none⟩ :: rest) a w := by
 obtain ⟨a', cap', e1, _⟩ := hS.slice i hi
 simp only [Value.slice.injEq] at e1
 obtain ⟨rfl, rfl, rfl⟩ := e1
 obtain ⟨b, ⟨h2, h3⟩, h4, h5⟩ := hS.upd i hi
 refine wpList_store (l := l) (B := 0) u E hc1 (hsto u) hs hx h2 h0 hk hd hy (fun p w' ho hg => hK p w' (h5 w' _ b (h3 ▸ hg) ⟨ho, h3⟩ (.inl rfl)) hg)
end
end Go.Proofs.YtglpfpdomnllkaaGreat

namespace Go.Proofs.YtglpfpdomnllkaaGreat
open Go.RowKit Go.Shelf
attribute [local go_sem] Oper.semAt_some
set_option maxHeartbeats 8000000
set_option maxRecDepth 100000
/-- pieces that lie ahead of C bear whatever grows or turns from C on. -/
theorem SL.ahead {B C : Nat} {w0 w w' : World} {L : List Pc} {row : Option Nat} (h : SL B w0 w L) (hg : w.grownBy w' row) (hr : ∀ r, row = some r → C ≤ r) (hC : B ≤ C) (hlt : ∀ p ∈ L, ∀ W b, p.P W (some b) → b < C) : SL B w0 w' L := by
 obtain ⟨hb, hz, f, h1, h2⟩ := h
 refine ⟨hb.grown hg hz (fun k e => Nat.le_trans hC (hr k e)), Nat.le_trans hz hg.size, f, fun i p hi => ⟨p.loc _ _ _ _ (h1 i p hi).1 hg (fun k hk e => ?_), (h1 i p hi).2⟩, h2⟩
 have h3 := hlt p (List.mem_of_getElem? hi) w k (hk ▸ (h1 i p hi).1)
 have h4 := hr k e
 omega
/-- what braid.perm holds while it ranges. -/
def bprI (w : World) (Pb G n gcap : Nat) (L : List Int) (W : World) : Prop :=
 SL w.heap.size w W [pBlk Pb (.cells #[.slice (some ⟨G, 0, none⟩) n gcap] 22), pOwn cInt 1 3 (.slice (some ⟨G, 0, none⟩) n gcap) L]
theorem bprI_ahead {w : World} {Pb G n gcap C : Nat} (hC : w.heap.size ≤ C) (hP : Pb < C) (hG : G < C) (f : List (CrS n) → List Int) : AheadOf C (fun pre W => bprI w Pb G n gcap (f pre) W) := fun s A W row h hg hr =>
 SL.ahead h hg hr hC (by
  intro p hp W b hb
  simp only [List.mem_cons, List.not_mem_nil, or_false] at hp
  rcases hp with rfl | rfl
  ·obtain ⟨h1, h2⟩ := hb; cases h1; exact hP
  ·obtain ⟨h1, h2⟩ := hb; cases h2; exact hG)
/-- the row of a permutation while the crossings are ranged. -/
def bprF (n : Nat) (pre : List (CrS n)) : List Int := pre.foldl (fun p c => incP p c.1.2.1 c.1.2.2) (idL n)
theorem bprF_snoc {n : Nat} (pre : List (CrS n)) (x : CrS n) : bprF n (pre ++ [x]) = incP (bprF n pre) x.1.2.1 x.1.2.2 := by simp [bprF]
theorem bprF_len {n : Nat} : ∀ (pre : List (CrS n)), (bprF n pre).length = n := by
 have : ∀ (pre : List (CrS n)) (p : List Int), (pre.foldl (fun p c => incP p c.1.2.1 c.1.2.2) p).length = p.length := by
  intro pre
  induction pre with
  | nil => intro p; rfl
  | cons x r ih => intro p; rw [List.foldl_cons, ih, incP_len]
 intro pre
 rw [bprF, this, idL_len]
theorem atD_set_or (p : List Int) (i : Nat) (v : Int) (j : Int) : atD 0 (p.set i v) j = v ∨ atD 0 (p.set i v) j = atD 0 p j := by
 unfold atD
 rw [List.getD_eq_getElem?_getD, List.getD_eq_getElem?_getD, List.getElem?_set]
 split
 ·split
  ·left; rfl
  ·right; rename_i h1 h2; rw [List.getElem?_eq_none (by omega)]
 ·right; rfl
theorem bprF_bd {n : Nat} (pre : List (CrS n)) : ∀ j : Int, -(n : Int) - 2 * pre.length ≤ atD 0 (bprF n pre) j ∧ atD 0 (bprF n pre) j ≤ n + 2 * pre.length := by
 have key : ∀ (pre : List (CrS n)) (p : List Int) (B : Int), 0 ≤ B → (∀ j : Int, -B ≤ atD 0 p j ∧ atD 0 p j ≤ B) → ∀ j : Int, -B - 2 * pre.length ≤ atD 0 (pre.foldl (fun p c => incP p c.1.2.1 c.1.2.2) p) j ∧ atD 0 (pre.foldl (fun p c => incP p c.1.2.1 c.1.2.2) p) j ≤ B + 2 * pre.length := by
  intro pre
  induction pre with
  | nil => intro p B _ h j; have := h j; simp; omega
  | cons x r ih =>
   intro p B hB h j
   have := ih (incP p x.1.2.1 x.1.2.2) (B + 2) (by omega) (fun j => by
    unfold incP
    have a := h x.1.2.1
    have b := h x.1.2.2
    have c := h j
    rcases atD_set_or p x.1.2.1.toNat (atD 0 p x.1.2.1 + 1) j with e | e <;> rcases atD_set_or p x.1.2.1.toNat (atD 0 p x.1.2.1 + 1) x.1.2.2 with e3 | e3 <;> rcases atD_set_or (p.set x.1.2.1.toNat (atD 0 p x.1.2.1 + 1)) x.1.2.2.toNat (atD 0 (p.set x.1.2.1.toNat (atD 0 p x.1.2.1 + 1)) x.1.2.2 - 1) j with e2 | e2 <;> rw [e2] <;> omega) j
   rw [List.foldl_cons, List.length_cons]
   omega
 intro j
 have := key pre (idL n) n (by omega) (fun j => by
  by_cases h : 0 ≤ j ∧ j < n
  ·rw [idL_at h.1 h.2]; omega
  ·unfold atD
   by_cases h0 : 0 ≤ j
   ·rw [List.getD_eq_getElem?_getD, List.getElem?_eq_none (by rw [idL_len]; omega)]; simp
   ·rw [List.getD_eq_getElem?_getD]
    have e : j.toNat = 0 := by omega
    rw [e]
    rcases n with _ | n
    ·simp [idL]
    ·simp [idL]; omega) j
 exact this
theorem bprF_end {n : Nat} {ws : List Int} (hf : ∀ x ∈ ws, 1 ≤ absI x ∧ absI x < (n : Int)) (ys : List (CrS n)) (h : ys.map (·.1) = csB (idL n) ws) : bprF n ys = permB n ws := by
 rw [← permB_fold hf, ← h, bprF, List.foldl_map]
theorem perm_any5 (ad : Option Addr) (cap n : Nat) (ws : List Int) (w : World) (hn : 1 ≤ n) (hn2 : n ≤ 1000) (hl : ws.length ≤ 1048576) (hf : ∀ x ∈ ws, 1 ≤ absI x ∧ absI x < (n : Int)) (hS : Ints w ad cap ws) :
  Calls Tryz.prog 69 #[.int .i64 n, .slice ad ws.length cap] w fun r w' => ∃ v, r = .returned v ∧ OwnI w.heap.size w' v (permB n ws) ∧ Below w.heap.size w w' := by
 refine callsIn_wide.1 (callsIn_of_wp_marks (n := 9) (F := Fence.wide) Tryz.func69 rfl trivial ?_ rfl)
 simp only [Tryz.ntmps69, List.size_toArray, List.length_cons, List.length_nil, Nat.reduceAdd, Nat.reduceSub, Array.replicate_succ, Array.replicate_zero, List.push_toArray, List.append_toArray, List.nil_append, List.cons_append]
 refine wpIn_wide.2 ?_
 go_wp2_with fail
 refine (bidentity_any n w hn2).mono ?_
 rintro e w2 ⟨v, rfl, ho, b2⟩
 have hS2 := SL.ofOwn ho b2
 obtain ⟨g, gcap, hv, -⟩ := hS2.slice 0 rfl
 subst hv
 rw [idL_len] at hS2
 obtain ⟨G, hG, -⟩ := hS2.setOwn cInt1 0 rfl 0 (by omega) (by rw [idL_len]; omega) 0
 subst hG
 have hR2 := hS.below b2
 have hS3 := hS2.box (.cells #[.slice (some ⟨G, 0, none⟩) n gcap] 22)
 have hGl := ((hS2.own 0 rfl).lt G rfl).2
 have hGlo := ((hS2.own 0 rfl).lt G rfl).1
 clear ho b2 hS2
 rw [idL_len]
 go_wp2_with fail
 refine (crossings_any5 ad ws.length cap n _).mono ?_
 rintro e w4 ⟨rfl, rfl⟩
 go_wp2_with fail
 obtain ⟨Pb, hPb⟩ : ∃ P, P = w2.heap.size := ⟨_, rfl⟩
 rw [← hPb] at hS3 hGl ⊢
 have hS4 := (hS3.al (.cells #[.int .i64 n] 3)).al (.cells #[.slice ad ws.length cap] 22)
 have cWn : (((w2.alloc (.cells #[.slice (some ⟨G, 0, none⟩) n gcap] 22)).alloc (.cells #[.int .i64 n] 3)).alloc (.cells #[.slice ad ws.length cap] 22)).cell? ⟨Pb + 1, 0, none⟩ = some (.int .i64 n) := by
  have h1 := World.alloc_heap_new (w2.alloc (.cells #[.slice (some ⟨G, 0, none⟩) n gcap] 22)) (.cells #[.int .i64 n] 3)
  have h2 := Below.heap_alloc ((w2.alloc (.cells #[.slice (some ⟨G, 0, none⟩) n gcap] 22)).alloc (.cells #[.int .i64 n] 3)) (.cells #[.slice ad ws.length cap] 22) (Pb + 1) (by simp [hPb])
  rw [World.size_alloc, ← hPb] at h1
  simp [World.cell?, h2, h1]
 have cWw : (((w2.alloc (.cells #[.slice (some ⟨G, 0, none⟩) n gcap] 22)).alloc (.cells #[.int .i64 n] 3)).alloc (.cells #[.slice ad ws.length cap] 22)).cell? ⟨Pb + 1 + 1, 0, none⟩ = some (.slice ad ws.length cap) := by
  have h1 := World.alloc_heap_new ((w2.alloc (.cells #[.slice (some ⟨G, 0, none⟩) n gcap] 22)).alloc (.cells #[.int .i64 n] 3)) (.cells #[.slice ad ws.length cap] 22)
  rw [World.size_alloc, World.size_alloc, ← hPb] at h1
  simp [World.cell?, h1]
 have hR4 := hS.below hS4.b
 have hz4 : (((w2.alloc (.cells #[.slice (some ⟨G, 0, none⟩) n gcap] 22)).alloc (.cells #[.int .i64 n] 3)).alloc (.cells #[.slice ad ws.length cap] 22)).heap.size = Pb + 3 := by simp [hPb]
 generalize (((w2.alloc (.cells #[.slice (some ⟨G, 0, none⟩) n gcap] 22)).alloc (.cells #[.int .i64 n] 3)).alloc (.cells #[.slice ad ws.length cap] 22)) = w4 at *
 have hK : ∀ k, crK (Pb + 1) (Pb + 1 + 1) ad ws.length k → k < w4.heap.size := by
  rintro k (rfl | rfl | ⟨h, b, rfl, rfl⟩)
  ·omega
  ·omega
  ·obtain ⟨b', o', hb', hcx⟩ := hR4.cells (by decide) 0 0 h
   have hcx := hcx 0 (.int .i64 (atD 0 ws 0)) rfl
   cases hb'
   exact World.block_lt_of_cell? _ _ hcx
 have hzw := hS4.z
 have hGK : ¬ crK (Pb + 1) (Pb + 1 + 1) ad ws.length G := by
  rintro (h | h | ⟨h, b, rfl, rfl⟩)
  ·omega
  ·omega
  ·obtain ⟨b', o', hb', hcx⟩ := hS.cells (by decide) 0 0 h
   have hcx := hcx 0 (.int .i64 (atD 0 ws 0)) rfl
   cases hb'
   have := World.block_lt_of_cell? _ _ hcx
   have hbk : b'  < w.heap.size := this
   exact absurd hbk (Nat.not_lt.2 hGlo)
 refine (wpIn_wide (n := 9)).1 ?_
 refine rangeFunc_cells rfl (by decide) (gf := 164) (lb := #[.pointer (some ⟨Pb + 1, 0, none⟩), .pointer (some ⟨Pb + 1 + 1, 0, none⟩)]) rfl trivial (enters_of Tryz.func164 kR rfl)
  (crossings_cells 8 (Pb + 1) (Pb + 1 + 1) cap ad n ws hn2 hl hf (by decide) w4 cWn cWw hR4) hK (Below.refl _ _) (fun _ => rfl)
  (fun pre W => bprI w Pb G n gcap (bprF n pre) W) (bprI_ahead hzw (by omega) (by omega) _) hS4 ?round ?done
 case round =>
  intro l pre x W hI hz hlen
  have hz4l : w4.heap.size ≤ Pb + 3 ∧ Pb + 3 ≤ w4.heap.size := ⟨by omega, by omega⟩
  clear hPb hz4
  obtain ⟨-, hxa, hxb, -⟩ := x.2
  have hbd := bprF_bd (n := n) pre
  have hFl := bprF_len (n := n) pre
  have hsn := bprF_snoc pre x
  obtain ⟨PF, hPF⟩ : ∃ PF, PF = bprF n (pre ++ [x]) := ⟨_, rfl⟩
  rw [← hPF] at hsn ⊢
  clear hPF
  have hpl : pre.length ≤ 1048576 := by omega
  generalize pre.length = pl at *
  generalize bprF n pre = p at *
  dsimp only [crV]
  generalize x.1.1 = xl at *
  generalize x.1.2.1 = xa at *
  generalize x.1.2.2 = xb at *
  clear x
  unfold bprI at hI
  gi_wp2
  refine ⟨KeepNew.grown (World.grownBy_alloc W _ none) (fun _ h => by cases h), hI.al _, ?_⟩
  intro W2 hg2 hI2
  unfold bprI at hI2
  have hbx : W2.heap[W.heap.size]? = some (.cells #[.int .i64 xa, .int .i64 xb] 60) := (hg2.block _ (by simp) (by simp; omega)).trans (heap_alloc_new W _)
  have c0 : W2.cell? ⟨W.heap.size, 0, none⟩ = some (.int .i64 xa) := by simp [World.cell?, hbx]
  have c1 : W2.cell? ⟨W.heap.size, 1, none⟩ = some (.int .i64 xb) := by simp [World.cell?, hbx]
  generalize hbxs : W.heap.size = bx at *
  have cP := hI2.cell 0 rfl 0 rfl
  have hRp := hI2.rd 1 rfl
  have hb1 := hbd xa
  have HW1 : Hid (IntKind.i64.wrap (atD 0 p xa + 1) = atD 0 p xa + 1) := hid (IntWalk.i64_in _ (by omega))
  obtain ⟨p1, hp1⟩ : ∃ p1, p1 = p.set xa.toNat (atD 0 p xa + 1) := ⟨_, rfl⟩
  have hb2 := hbd xb
  have hb3 := atD_set_or p xa.toNat (atD 0 p xa + 1) xb
  rw [← hp1] at hb3
  have HW2 : Hid (IntKind.i64.wrap (atD 0 p1 xb - 1) = atD 0 p1 xb - 1) := hid (IntWalk.i64_in _ (by omega))
  have HPF : Hid (PF = p1.set xb.toNat (atD 0 p1 xb - 1)) := hid (by rw [hsn, hp1]; rfl)
  have hp1l : p1.length = n := by rw [hp1, List.length_set, hFl]
  have HP1 := hid hp1
  obtain ⟨hxa0, hxa1⟩ := hxa
  obtain ⟨hxb0, hxb1⟩ := hxb
  have HFL := hid hFl
  have HP1L := hid hp1l
  have hxa2 : xa < (p.length : Int) := by omega
  have hxb2 : xb < (p1.length : Int) := by omega
  clear hb1 hb2 hb3 hbd hsn hp1 hI hpl hlen hFl hp1l
  have hw1 := HW1.out
  apply wpIn_block
  apply wpIn_seq_k
  intro K hK
  refine wpIn_regionR rfl ?_
  go_wp2_with (first | (with_reducible refine wpList_idxN _ 0 E_ints F_int cInt1 wU wU (hRp) (HFL.out) oD oD (fun _ => wU) (fun _ => ?_)) | ((with_reducible refine wpList_storeLG (u := (atD 0 p xa + 1)) 1 E_ints cInt1 (sto_int) wU wU (hI2) wU (by first | omega | (simp; done) | (simp; omega)) (by first | omega | (simp; done) | (simp; omega)) (fun _ => wU) (fun _ => wU) ?_); intro _ w7 hS7 hg7))
  clear hw1 cP hRp
  have hw2 := HW2.out
  rw [← HP1.out] at hS7
  have cP := hS7.cell 0 rfl 0 rfl
  have hRp := hS7.rd 1 rfl
  have g7 : W2.grownBy w7 (some G) := hg7
  have hbG : bx ≠ G := by omega
  have d0 := g7.cell c0 (fun e => hbG (Option.some.inj e))
  have d1 := g7.cell c1 (fun e => hbG (Option.some.inj e))
  clear hI2 hg7
  refine wpIn_regionR rfl ?_
  go_wp2_with (first | (with_reducible refine wpList_idxN _ 0 E_ints F_int cInt1 wU wU (hRp) (HP1L.out) oD oD (fun _ => wU) (fun _ => ?_)) | ((with_reducible refine wpList_storeLG (u := (atD 0 p1 xb - 1)) 1 E_ints cInt1 (sto_int) wU wU (hS7) wU (by first | omega | (simp; done) | (simp; omega)) (by first | omega | (simp; done) | (simp; omega)) (fun _ => wU) (fun _ => wU) ?_); intro _ w8 hS8 hg8))
  have g8 : w7.grownBy w8 (some G) := hg8
  exact ⟨(KeepNew.grown g7 (fun r e => by cases e; exact ⟨by omega, hGK⟩)).trans (KeepNew.grown g8 (fun r e => by cases e; exact ⟨by omega, hGK⟩)), by unfold bprI; rw [HPF.out]; exact hS8⟩
 case done =>
  intro D ys W hD hys hI hK
  have hfin := bprF_end hf ys hys
  unfold bprI at hI
  rw [hfin] at hI
  have hs := hI.addMark (C := w4.heap.size) (by
   intro q hq
   simp only [List.mem_cons, List.not_mem_nil, or_false] at hq
   rcases hq with rfl | rfl
   ·exact okT_cells
   ·exact okT_own) hzw hD hK
  have hc := hs.cell 1 rfl 0 rfl
  clear hI hfin hys hPb hz4
  dsimp only
  go_wp2_with fail
  refine SL.leave (L := [_, _]) (fun V hV => ⟨.slice (some ⟨G, 0, none⟩) n gcap, ?_, _, rfl, hV.own 1 rfl, hV.b⟩) [D] W hs
  simp [results, Tryz.f69, go_sem]
end Go.Proofs.YtglpfpdomnllkaaGreat

namespace Go.Proofs.YtglpfpdomnllkaaGreat
open Go.RowKit
set_option maxHeartbeats 8000000
set_option maxRecDepth 100000
theorem word_rng {n : Nat} {l : List Int} (h : wordE (n : Int) l = 0) : ∀ x ∈ l, 1 ≤ absI x ∧ absI x < (n : Int) := fun x hx => by
 obtain ⟨_, _, _, h4⟩ := wordE_fits h
 have := h4 x hx
 unfold absI
 split <;> omega
theorem bPerm_any (n : Nat) (a : Option Addr) (cap : Nat) (l : List Int) (w : World) (hS : Ints w a cap l) (h : wordE (n : Int) l = 0) :
  Calls Tryz.prog 24 #[.int .i64 n, .slice a l.length cap] w fun r w' => ∃ v, r = .returned (.tuple #[v, .int .i64 0]) ∧ OwnI w.heap.size w' v (permB n l) ∧ Below w.heap.size w w' := by
 obtain ⟨hn1, hn2, hl, _⟩ := wordE_fits h
 have CW := fun w (hS : Ints w a cap l) => CheckWord_any n a cap l w hS (by omega)
 rw [h] at CW
 have HW := hid CW
 have HP := hid (fun w (hS : Ints w a cap l) => perm_any5 a cap n l w (by omega) (by omega) (by omega) (word_rng h) hS)
 have hS0 := SL.nil w
 clear CW h
 go_enter Tryz.func24, Tryz.ntmps24
 go_wp2_with fail
 refine (HW.out _ hS).mono ?_
 rintro e w1 ⟨rfl, b1⟩
 have hS1 := hS0.mono b1
 clear hS0
 go_wp2_with fail
 refine (HP.out _ (hS.below b1)).mono ?_
 rintro e w2 ⟨v2, rfl, ho2, b2⟩
 have hS2 := hS1.call (SL.ofOwn ho2 b2)
 rw [List.append_nil] at hS2
 clear hS1 ho2
 go_wp2_with fail
 go_ret2
 exact ⟨v2, rfl, hS2.own 0 rfl, hS2.b⟩
end Go.Proofs.YtglpfpdomnllkaaGreat
