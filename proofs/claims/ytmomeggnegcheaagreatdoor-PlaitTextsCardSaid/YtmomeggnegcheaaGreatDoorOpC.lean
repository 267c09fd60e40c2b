/- From a law's walk to its row: the arguments read again behind the call; openings of arguments. No condition beyond each statement's own. Openings of a law's arguments: a list of ints, a pair of ints. No condition beyond each statement's own. Openings of a law's arguments: a list of pairs. No condition beyond each statement's own. Openings of a law's arguments: a list of passes. No condition beyond each statement's own. -/
import Derived.Test.YtmomeggnegcheaaGreatDoorTyA
import Derived.Test.YtmomeggnegcheaaGreatDoorPlA
import Derived.ReadAgain
import Derived.ChangeSlices
import Derived.Lib.SmallJoins
import Derived.OpenShut
import Derived.ProofKit
import Derived.Deep.DeepHandedRow
import Derived.Deep.SlicePairs
import Derived.Test.YtmomeggnegcheaaGreatDoorPaA
set_option linter.all false
/- From a law's walk to its row: the arguments read again behind the call; openings of arguments. No condition beyond each statement's own. Openings of a law's arguments: a list of ints, a pair of ints. No condition beyond each statement's own. -/
/- From a law's walk to its row: the arguments read again behind the call; openings of arguments. No condition beyond each statement's own. -/
namespace Go.Proofs.YtmomeggnegcheaaGreatDoor
open Go.RowKit Go.ChangeShapes Go.WideShapes Go.ChangeAt
set_option maxRecDepth 100000

theorem kidsP : Kids Tryz.prog (· < Tryz.prog.types.size) := kids_rows (by kernel_rfl) (by kernel_rfl)
theorem fullP : ∀ t e, t < Tryz.prog.types.size → Tryz.prog.underlying t = some (.slice e) → 0 < Tryz.prog.cellsOf e := slices_full_of Tryz.prog (by kernel_rfl)

section
variable {H : Type} {enc : TypeId × Value → H} {P : Program} {W W' : World}
theorem trodAll_carryW {base : Nat} {sp : Nat → Bool} {held : Bool} : ∀ {ts : List TypeId} {vs : List Value} {ds : List (DataW H)} {ps : List MemPlace}, DataW.TrodAll enc P W base sp held ts vs ds ps → (∀ p ∈ ps, W.sameAt W' p) → DataW.TrodAll enc P W' base sp held ts vs ds ps
  | [], [], [], _, h, _ => h
  | _ :: _, _ :: _, _ :: _, _, ⟨p, q, ⟨n, h1⟩, h2, e⟩, hs => ⟨p, q, ⟨n, DataW.trod_carry n _ _ _ h1 (fun x hx => hs x (by rw [e]; exact List.mem_append_left _ hx))⟩, trodAll_carryW h2 (fun x hx => hs x (by rw [e]; exact List.mem_append_right _ hx)), e⟩
theorem sameAt_below (hb : Below W.heap.size W W') {p : MemPlace} (h : p.block < W.heap.size) : W.sameAt W' p := by
  cases p with
  | cell b off => exact (hb.cell (p := ⟨b, off, none⟩) h)
  | map b => exact hb.block b h
theorem kept_below (hb : Below W.heap.size W W') (may : MemPlace → Prop) : W.keptBut W' may := by
  refine ⟨hb.os, hb.output, fun i hi => ?_⟩
  rw [hb.block i hi]
  cases h : W.heap[i]? with
  | none => rfl
  | some o =>
    cases o with
    | cells c t fr => exact ⟨rfl, rfl, rfl, fun _ _ => rfl⟩
    | map es clock => exact .inr ⟨rfl, rfl⟩
    | _ => rfl
/-- a law that returns true and turns nothing that was there. -/
theorem law_post {f : Func} {s : ChangeSpec} {args : Array Value} {ds gs : List (DataW H)} {before : List MemPlace} (hv : s.vars = []) (hr : f.resultTypes = #[4]) (hp : ∀ t ∈ f.params.toList, t < Tryz.prog.types.size)
   (hs : (s.fn H ds).results = [.lit (.bool true)] ∧ (s.fn H ds).args = ds ∧ (s.fn H ds).vars = [])
   (hW : DataW.Whole enc Tryz.prog f.params.toList s.vars false W args.toList ds gs before) (hb : Below W.heap.size W W') : s.post enc Tryz.prog f false true false false W args (.bool true) W' := by
  have hlt := hW.lt
  have hW' := hW
  obtain ⟨p, q, hA, hV, rfl, hfz, _⟩ := hW
  rw [hv] at hV
  have hgs : gs = [] ∧ q = [] := by
    cases gs with
    | nil => exact ⟨rfl, hV⟩
    | cons g gs => exact absurd hV id
  obtain ⟨rfl, rfl⟩ := hgs
  simp only [List.append_nil] at hlt hW' ⊢
  have hsame : ∀ p' ∈ p, W.sameAt W' p' := fun p' hp' => sameAt_below hb (hlt p' hp')
  refine ⟨ds, [], p, [], p, [], hW', ?_, ?_, ?_, kept_below hb _, fun h => by cases h⟩
  · rw [List.append_nil, hs.1, hr]
    exact trodAll_cons_mk (shut_bool Tryz.underlying4 _) trodAll_mk0
  · rw [List.append_nil, hs.2.1]
    exact DataW.TrodAll.respare kidsP fullP hp (trodAll_carryW hA hsame) (fun p' hp' => by simpa using hlt p' hp')
  · rw [List.append_nil, hs.2.2, hv]
    rfl
end
end Go.Proofs.YtmomeggnegcheaaGreatDoor

/- Openings of a law's arguments: a list of ints, a pair of ints. No condition beyond each statement's own. -/
namespace Go.Proofs.YtmomeggnegcheaaGreatDoor
open Go.RowKit Go.ChangeShapes Go.WideShapes Go.ChangeAt Go.Joins Go.Deep
set_option maxRecDepth 100000
theorem cellsInt : Tryz.prog.cellsOf 3 = 1 := by kernel_rfl
theorem inI_wf {x : Int} (h : (Lit.int .i64 x).wf = true) : InI x := by
  simp [Lit.wf, IntKind.min, IntKind.max, IntKind.bits, IntKind.signed] at h
  unfold InI
  omega
section
variable {H : Type} {enc : TypeId × Value → H} {W : World}
theorem ints_of_cells {a : Addr} {zs : List Int} {len cap : Nat} (hl : len ≤ cap) (hm : cap ≤ maxLen) (hz : len ≤ zs.length) (hc : ∀ i, i < zs.length → W.cell? (a.add i) = some (.int .i64 (zs.getD i 0))) : Ints W (some a) cap (zs.take len) := by
  have hlen : (zs.take len).length = len := by simp; omega
  refine ⟨cIntS, by rw [hlen]; exact hl, hm, fun h => (by cases h), fun j u hj => ?_⟩
  have hfm : ((zs.take len).flatMap fun x => (cInt x).cells.toList) = (zs.take len).map fun x => Value.int .i64 x := by
    generalize zs.take len = l
    induction l with
    | nil => rfl
    | cons x r ih => rw [List.flatMap_cons, ih]; rfl
  rw [hfm, List.getElem?_map] at hj
  have hjl : j < len := by
    obtain ⟨x, hx, _⟩ := Option.map_eq_some_iff.1 hj
    have := (List.getElem?_eq_some_iff.1 hx).1
    simp at this; omega
  have h0 := hc 0 (by omega)
  have hsp : a.spot = none := by
    unfold World.cell? Addr.add at h0
    simp only [if_pos] at h0
    split at h0
    · split at h0
      · cases h0
      · next h => simpa using h
    · cases h0
  refine ⟨a.block, a.off, by rw [← hsp], ?_⟩
  have hj0 := hc j (by omega)
  have e : a.add j = ⟨a.block, a.off + j, none⟩ := by
    unfold Addr.add
    split
    · next h => subst h; rw [← hsp]; rfl
    · rfl
  rw [e] at hj0
  rw [hj0, ← hj]
  have h2 : j < zs.length := by omega
  simp [List.getElem?_take, hjl, h2]
theorem open_intsA {r : Reach} {b0 : Nat} {v : Value} {d : DataW H} {ps : List MemPlace} (hval : Value.okWide Tryz.prog W r b0 22 v) (h : DataW.Trod enc Tryz.prog W 0 (fun _ => true) true 22 v d ps) : ∃ a cap l, v = .slice a l.length cap ∧ Ints W a cap l ∧ ∀ x ∈ l, InI x := by
  obtain ⟨a0, len, cap, rfl⟩ := okWide_slice Tryz.underlying22 hval
  obtain ⟨fuel, hf⟩ := h
  rcases open_ints Tryz.underlying22 Tryz.underlying3 cellsInt hf with ⟨hcs, _⟩ | ⟨a, len', cap', zs, hcs, _, hl, hm, hz, _, hcell, hwz⟩
  · simp [Value.cells] at hcs
    obtain ⟨rfl, rfl, rfl⟩ := hcs
    exact ⟨_, _, [], rfl, ints_nil W, fun x hx => by cases hx⟩
  · simp [Value.cells] at hcs
    obtain ⟨rfl, rfl, rfl⟩ := hcs
    simp only [if_true] at hz
    have hlen : (zs.take len).length = len := by simp; omega
    refine ⟨some a, cap, zs.take len, by rw [hlen], ints_of_cells hl hm (by omega) hcell, fun x hx => ?_⟩
    exact inI_wf (hwz x (List.mem_of_mem_take hx))
theorem open_intA {r : Reach} {b0 : Nat} {v : Value} {d : DataW H} {ps : List MemPlace} (hval : Value.okWide Tryz.prog W r b0 3 v) (h : DataW.Trod enc Tryz.prog W 0 (fun _ => true) true 3 v d ps) : ∃ x : Int, v = .int .i64 x ∧ InI x := by
  obtain ⟨y, rfl⟩ := okWide_int Tryz.underlying3 hval
  obtain ⟨n, hn⟩ := h
  obtain ⟨x, e, _, w0⟩ := DataW.trod_int Tryz.underlying3 hn
  simp [Value.cells] at e
  subst e
  exact ⟨y, rfl, inI_wf w0⟩
theorem open_byteA {r : Reach} {b0 : Nat} {v : Value} {d : DataW H} {ps : List MemPlace} (hval : Value.okWide Tryz.prog W r b0 5 v) (h : DataW.Trod enc Tryz.prog W 0 (fun _ => true) true 5 v d ps) : ∃ x : Int, v = .int .u8 x ∧ 0 ≤ x ∧ x ≤ 255 := by
  obtain ⟨y, rfl⟩ := okWide_int Tryz.underlying5 hval
  obtain ⟨n, hn⟩ := h
  obtain ⟨x, e, _, w0⟩ := DataW.trod_int Tryz.underlying5 hn
  simp [Value.cells] at e
  subst e
  simp [Lit.wf, IntKind.min, IntKind.max, IntKind.bits, IntKind.signed] at w0
  exact ⟨y, rfl, by omega, by omega⟩
theorem open_pairA {t : TypeId} {f0 f1 : Field} {r : Reach} {b0 : Nat} {v : Value} {d : DataW H} {ps : List MemPlace} (hs : Tryz.prog.underlying t = some (.struct #[f0, f1])) (hone : oneCellFields Tryz.prog #[f0, f1] = true) (hC : Tryz.prog.cellsOf t = 2) (h0 : f0.type = 3) (h1 : f1.type = 3)
   (hval : Value.okWide Tryz.prog W r b0 t v) (h : DataW.Trod enc Tryz.prog W 0 (fun _ => true) true t v d ps) : ∃ f t : Int, v = .agg #[.int .i64 f, .int .i64 t] ∧ InI f ∧ InI t := by
  obtain ⟨v0, v1, y0, y1, n, rfl, _, _, k0, k1⟩ := open_agg2 hs hone hC hval h
  rw [h0] at k0
  rw [h1] at k1
  obtain ⟨x, e0, _, w0⟩ := DataW.trod_int Tryz.underlying3 k0
  obtain ⟨y, e1, _, w1⟩ := DataW.trod_int Tryz.underlying3 k1
  cases e0; cases e1
  exact ⟨x, y, rfl, inI_wf w0, inI_wf w1⟩
end
end Go.Proofs.YtmomeggnegcheaaGreatDoor

/- Openings of a law's arguments: a list of pairs. No condition beyond each statement's own. Openings of a law's arguments: a list of passes. No condition beyond each statement's own. -/
/- Openings of a law's arguments: a list of pairs. No condition beyond each statement's own. -/
namespace Go.Proofs.YtmomeggnegcheaaGreatDoor
open Go.RowKit Go.ChangeShapes Go.WideShapes Go.ChangeAt Go.Joins Go.Deep
set_option maxRecDepth 100000

theorem reps_of_cells {α : Type} {c : α → Value} {sz : Nat} {W : World} (hc : ∀ x, (c x).cells.size = sz) (hp : 0 < sz) (d : α) {a : Addr} {cap : Nat} {l : List α} (hl : l.length ≤ cap) (hm : cap ≤ maxLen)
   (h : ∀ i j, i < l.length → j < sz → W.cell? (a.add (i * sz + j)) = (c (l.getD i d)).cells.toList[j]?) : Reps c sz W (some a) cap l := by
  refine ⟨hc, hl, hm, fun h => (by cases h), fun j u hj => ?_⟩
  have hg : ∀ x, ((c x).cells.toList).length = sz := fun x => by simpa using hc x
  have hjl : j < l.length * sz := by
    have := (List.getElem?_eq_some_iff.1 hj).1
    rwa [flat_len (fun x => (c x).cells.toList) sz hg] at this
  have hi : j / sz < l.length := (Nat.div_lt_iff_lt_mul hp).2 hjl
  have hjm := Nat.mod_lt j hp
  have e : j / sz * sz + j % sz = j := Nat.div_add_mod' j sz
  have h1 := flat_get (fun x => (c x).cells.toList) sz hg d l (j / sz) (j % sz) hi hjm
  rw [e, hj] at h1
  have h2 := h (j / sz) (j % sz) hi hjm
  rw [e, ← h1] at h2
  have h00 := h 0 0 (Nat.lt_of_le_of_lt (Nat.zero_le _) hi) hp
  obtain ⟨v0, hv0⟩ : ∃ v, (c (l.getD 0 d)).cells.toList[0]? = some v := ⟨_, List.getElem?_eq_getElem (by rw [hg]; exact hp)⟩
  rw [hv0] at h00
  simp only [Nat.zero_mul, Nat.add_zero] at h00
  have hsp : a.spot = none := by
    unfold World.cell? Addr.add at h00
    simp only [if_pos] at h00
    split at h00
    · split at h00
      · cases h00
      · next h => simpa using h
    · cases h00
  refine ⟨a.block, a.off, by rw [← hsp], ?_⟩
  have e2 : a.add j = ⟨a.block, a.off + j, none⟩ := by
    unfold Addr.add
    split
    · next h => subst h; rw [← hsp]; rfl
    · rfl
  rw [e2] at h2
  exact h2
section
variable {H : Type} {enc : TypeId × Value → H} {W : World}
theorem open_pairsA {t e : TypeId} {f0 f1 : Field} {r : Reach} {b0 : Nat} {v : Value} {d : DataW H} {ps : List MemPlace} (ht : Tryz.prog.underlying t = some (.slice e)) (he : Tryz.prog.underlying e = some (.struct #[f0, f1])) (ce : Tryz.prog.cellsOf e = 2) (o0 : f0.offset = 0) (o1 : f1.offset = 1) (t0 : f0.type = 3) (t1 : f1.type = 3)
   (hval : Value.okWide Tryz.prog W r b0 t v) (h : DataW.Trod enc Tryz.prog W 0 (fun _ => true) true t v d ps) : ∃ a cap l, v = .slice a l.length cap ∧ Pairs W a cap l ∧ ∀ m ∈ l, InI m.1 ∧ InI m.2 := by
  obtain ⟨a0, len, cap, rfl⟩ := okWide_slice ht hval
  obtain ⟨fuel, hf⟩ := h
  rcases open_slice_pairs ht he ce o0 o1 (by rw [t0]; exact cellsInt) (by rw [t1]; exact cellsInt) hf with ⟨hcs, _⟩ | ⟨a, len', cap', m, n, V0, V1, D0, D1, P0, P1, hcs, _, hl, hm, hmm, _, hx⟩
  · simp [Value.cells] at hcs
    obtain ⟨rfl, rfl, rfl⟩ := hcs
    exact ⟨_, _, [], rfl, ⟨cPairS, Nat.le_refl _, Nat.zero_le _, fun _ => rfl, fun j u hu => by simp at hu⟩, fun x hx => by cases hx⟩
  · simp [Value.cells] at hcs
    obtain ⟨rfl, rfl, rfl⟩ := hcs
    simp only [if_true] at hmm
    have hv : ∀ i, i < len → V0 i = .int .i64 (intOf (V0 i)) ∧ V1 i = .int .i64 (intOf (V1 i)) ∧ InI (intOf (V0 i)) ∧ InI (intOf (V1 i)) := by
      intro i hi
      obtain ⟨_, _, k0, k1⟩ := hx i (by omega)
      rw [t0] at k0
      rw [t1] at k1
      obtain ⟨x, e0, _, w0⟩ := DataW.trod_int Tryz.underlying3 k0
      obtain ⟨y, e1, _, w1⟩ := DataW.trod_int Tryz.underlying3 k1
      simp at e0 e1
      rw [e0, e1]
      exact ⟨rfl, rfl, inI_wf w0, inI_wf w1⟩
    obtain ⟨l, hL⟩ : ∃ l : List (Int × Int), l = (List.range len).map fun i => (intOf (V0 i), intOf (V1 i)) := ⟨_, rfl⟩
    have hlen : l.length = len := by rw [hL]; simp
    refine ⟨some a, cap, l, by rw [hlen], reps_of_cells cPairS (by decide) (0, 0) (by omega) hm (fun i j hi hj => ?_), fun p hp => ?_⟩
    · have hi2 : i < len := by omega
      obtain ⟨c0, c1, _, _⟩ := hx i (by omega)
      obtain ⟨q0, q1, _, _⟩ := hv i hi2
      have e : l.getD i (0, 0) = (intOf (V0 i), intOf (V1 i)) := by rw [hL]; simp [hi2]
      rw [e]
      match j, hj with
      | 0, _ => rw [Nat.add_zero, c0, q0]; rfl
      | 1, _ => rw [c1, q1]; rfl
    · rw [hL] at hp
      obtain ⟨i, hi, rfl⟩ := List.mem_map.1 hp
      exact (hv i (List.mem_range.1 hi)).2.2
end
end Go.Proofs.YtmomeggnegcheaaGreatDoor

/- Openings of a law's arguments: a list of passes. No condition beyond each statement's own. -/
namespace Go.Proofs.YtmomeggnegcheaaGreatDoor
open Go.RowKit Go.ChangeShapes Go.WideShapes Go.ChangeAt Go.Joins Go.Deep
set_option maxRecDepth 100000

theorem cellsStr : Tryz.prog.cellsOf 9 = 1 := by kernel_rfl
section
variable {H : Type} {enc : TypeId × Value → H} {W : World}
end
end Go.Proofs.YtmomeggnegcheaaGreatDoor
