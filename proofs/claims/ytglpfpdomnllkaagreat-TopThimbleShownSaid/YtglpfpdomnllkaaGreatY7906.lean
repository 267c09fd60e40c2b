/- Contracts and plain facts that the claim uses (CrR MxA LmA NfT NfU NfV BsF ShP PtP HrP KnQ ThP ThA PtA). Conditions: as each one states. -/
import Derived.RangeFuncNested
import Derived.RangeFuncBound
import Derived.RangeFuncCalls
import Derived.RangeFuncLeaves
import Derived.RangeFuncFrom
import Derived.Shelf.Abstract
import Derived.Shelf.RegionOpen
import Derived.WalkKit
import Derived.OwnWalkIn
import Derived.TacticsInMore
import Derived.LoopNIn
import Derived.LoopIn
import Derived.Test.YtglpfpdomnllkaaGreatProg
import Derived.WalkSpells
import Derived.Maps.AppendAt
import Derived.Deep.Quiet
import Derived.Maps.Own
import Derived.Maps.OwnSet
import Derived.Maps.Views
import Derived.WalkLawsBesides
import Derived.Laws.EntriesVeiled
import Derived.Deep.QuietTactic
import Derived.BigQuiet
import Derived.StillTail
import Derived.Laws.Tables
import Derived.Deep.RegionHeld3
import Derived.Shelf.Strings.Trim
import Derived.Shelf.Strings.SlTrimAscii
import Derived.Shelf.Strings.Repeat
import Derived.Shelf.Strings.OnBuilder
import Derived.Shelf.Strconv.Itoa1
import Derived.Shelf.Strconv.Itoa3
import Derived.Shelf.LaysM
import Derived.Ground.Names2Prog
import Derived.Lib.OthersKept
import Derived.Deep.AppendLies
import Derived.Deep.RegionHeldLaw
import Derived.Deep.RegionLaw
import Derived.IntWalk
import Derived.Laws.CopyOwn
import Derived.BigRegion
import Derived.ChangeAlike
import Derived.Shelf.Bits.Mul64
import Derived.Lib.ItoaLen
import Derived.Lib.ItoaMem
import Derived.Sort.LoopGhostIn
import Derived.Maps.RangeWalk
import Derived.Sort.QuietThIn
import Derived.Maps.Ext
import Derived.Deep.LoopGhost
import Derived.Lib.Split
import Derived.Lib.AtoiAll
import Derived.Lib.AppendIntMem
import Derived.Lib.SmallJoins
import Derived.LaidSub
import Derived.Lib.LaidTab
import Derived.Lib.AtoiErrMem
import Derived.Stop.LaidErr
import Derived.ReadAgain
import Derived.ChangeSlices
import Derived.OpenShut
import Derived.ProofKit
import Derived.Deep.DeepHandedRow
import Derived.Deep.SlicePairs
import Derived.Laws.IdiomStrings
import Derived.Test.YtglpfpdomnllkaaGreatXt01
import Derived.Test.YtglpfpdomnllkaaGreatXt02
import Derived.Test.YtglpfpdomnllkaaGreatXt03
import Derived.Test.YtglpfpdomnllkaaGreatXt04
import Derived.Test.YtglpfpdomnllkaaGreatXt05
import Derived.Test.YtglpfpdomnllkaaGreatXt06
import Derived.Test.YtglpfpdomnllkaaGreatXt07
import Derived.Test.YtglpfpdomnllkaaGreatY7901
import Derived.Test.YtglpfpdomnllkaaGreatY7902
import Derived.Test.YtglpfpdomnllkaaGreatY7903
import Derived.Test.YtglpfpdomnllkaaGreatY7904
import Derived.Test.YtglpfpdomnllkaaGreatY7905
set_option linter.all false

namespace Go.Proofs.YtglpfpdomnllkaaGreat
open Go.RowKit Go.Shelf
attribute [local go_sem] Oper.semAt_some
set_option maxHeartbeats 8000000
set_option maxRecDepth 100000
/-- pieces that lie ahead of C bear whatever grows or turns from C on. -/
theorem SL.ahead {B C : Nat} {w0 w w' : World} {L : List Pc} {row : Option Nat} (h : SL B w0 w L) (hg : w.grownBy w' row) (hr : ∀ r, row = some r → C ≤ r) (hC : B ≤ C) (hlt : ∀ p ∈ L, ∀ W b, p.P W (some b) → b < C) : SL B w0 w' L := by
 obtain ⟨hb, hz, f, h1, h2⟩ := h
 refine ⟨hb.grown hg hz (fun k e => Nat.le_trans hC (hr k e)), Nat.le_trans hz hg.size, f, fun i p hi => ⟨p.loc _ _ _ _ (h1 i p hi).1 hg (fun k hk e => ?_), (h1 i p hi).2⟩, h2⟩
 have h3 := hlt p (List.mem_of_getElem? hi) w k (hk ▸ (h1 i p hi).1)
 have h4 := hr k e
 omega
/-- what braid.perm holds while it ranges. -/
def bprI (w : World) (Pb G n gcap : Nat) (L : List Int) (W : World) : Prop :=
 SL w.heap.size w W [pBlk Pb (.cells #[.slice (some ⟨G, 0, none⟩) n gcap] 22), pOwn cInt 1 3 (.slice (some ⟨G, 0, none⟩) n gcap) L]
theorem bprI_ahead {w : World} {Pb G n gcap C : Nat} (hC : w.heap.size ≤ C) (hP : Pb < C) (hG : G < C) (f : List (CrS n) → List Int) : AheadOf C (fun pre W => bprI w Pb G n gcap (f pre) W) := fun s A W row h hg hr =>
 SL.ahead h hg hr hC (by
  intro p hp W b hb
  simp only [List.mem_cons, List.not_mem_nil, or_false] at hp
  rcases hp with rfl | rfl
  ·obtain ⟨h1, h2⟩ := hb; cases h1; exact hP
  ·obtain ⟨h1, h2⟩ := hb; cases h2; exact hG)
/-- the row of a permutation while the crossings are ranged. -/
def bprF (n : Nat) (pre : List (CrS n)) : List Int := pre.foldl (fun p c => incP p c.1.2.1 c.1.2.2) (idL n)
theorem bprF_snoc {n : Nat} (pre : List (CrS n)) (x : CrS n) : bprF n (pre ++ [x]) = incP (bprF n pre) x.1.2.1 x.1.2.2 := by simp [bprF]
theorem bprF_len {n : Nat} : ∀ (pre : List (CrS n)), (bprF n pre).length = n := by
 have : ∀ (pre : List (CrS n)) (p : List Int), (pre.foldl (fun p c => incP p c.1.2.1 c.1.2.2) p).length = p.length := by
  intro pre
  induction pre with
  | nil => intro p; rfl
  | cons x r ih => intro p; rw [List.foldl_cons, ih, incP_len]
 intro pre
 rw [bprF, this, idL_len]
theorem atD_set_or (p : List Int) (i : Nat) (v : Int) (j : Int) : atD 0 (p.set i v) j = v ∨ atD 0 (p.set i v) j = atD 0 p j := by
 unfold atD
 rw [List.getD_eq_getElem?_getD, List.getD_eq_getElem?_getD, List.getElem?_set]
 split
 ·split
  ·left; rfl
  ·right; rename_i h1 h2; rw [List.getElem?_eq_none (by omega)]
 ·right; rfl
theorem bprF_bd {n : Nat} (pre : List (CrS n)) : ∀ j : Int, -(n : Int) - 2 * pre.length ≤ atD 0 (bprF n pre) j ∧ atD 0 (bprF n pre) j ≤ n + 2 * pre.length := by
 have key : ∀ (pre : List (CrS n)) (p : List Int) (B : Int), 0 ≤ B → (∀ j : Int, -B ≤ atD 0 p j ∧ atD 0 p j ≤ B) → ∀ j : Int, -B - 2 * pre.length ≤ atD 0 (pre.foldl (fun p c => incP p c.1.2.1 c.1.2.2) p) j ∧ atD 0 (pre.foldl (fun p c => incP p c.1.2.1 c.1.2.2) p) j ≤ B + 2 * pre.length := by
  intro pre
  induction pre with
  | nil => intro p B _ h j; have := h j; simp; omega
  | cons x r ih =>
   intro p B hB h j
   have := ih (incP p x.1.2.1 x.1.2.2) (B + 2) (by omega) (fun j => by
    unfold incP
    have a := h x.1.2.1
    have b := h x.1.2.2
    have c := h j
    rcases atD_set_or p x.1.2.1.toNat (atD 0 p x.1.2.1 + 1) j with e | e <;> rcases atD_set_or p x.1.2.1.toNat (atD 0 p x.1.2.1 + 1) x.1.2.2 with e3 | e3 <;> rcases atD_set_or (p.set x.1.2.1.toNat (atD 0 p x.1.2.1 + 1)) x.1.2.2.toNat (atD 0 (p.set x.1.2.1.toNat (atD 0 p x.1.2.1 + 1)) x.1.2.2 - 1) j with e2 | e2 <;> rw [e2] <;> omega) j
   rw [List.foldl_cons, List.length_cons]
   omega
 intro j
 have := key pre (idL n) n (by omega) (fun j => by
  by_cases h : 0 ≤ j ∧ j < n
  ·rw [idL_at h.1 h.2]; omega
  ·unfold atD
   by_cases h0 : 0 ≤ j
   ·rw [List.getD_eq_getElem?_getD, List.getElem?_eq_none (by rw [idL_len]; omega)]; simp
   ·rw [List.getD_eq_getElem?_getD]
    have e : j.toNat = 0 := by omega
    rw [e]
    rcases n with _ | n
    ·simp [idL]
    ·simp [idL]; omega) j
 exact this
theorem bprF_end {n : Nat} {ws : List Int} (hf : ∀ x ∈ ws, 1 ≤ absI x ∧ absI x < (n : Int)) (ys : List (CrS n)) (h : ys.map (·.1) = csB (idL n) ws) : bprF n ys = permB n ws := by
 rw [← permB_fold hf, ← h, bprF, List.foldl_map]
theorem perm_any5 (ad : Option Addr) (cap n : Nat) (ws : List Int) (w : World) (hn : 1 ≤ n) (hn2 : n ≤ 1000) (hl : ws.length ≤ 1048576) (hf : ∀ x ∈ ws, 1 ≤ absI x ∧ absI x < (n : Int)) (hS : Ints w ad cap ws) :
  Calls Tryz.prog 69 #[.int .i64 n, .slice ad ws.length cap] w fun r w' => ∃ v, r = .returned v ∧ OwnI w.heap.size w' v (permB n ws) ∧ Below w.heap.size w w' := by
 refine callsIn_wide.1 (callsIn_of_wp_marks (n := 9) (F := Fence.wide) Tryz.func69 rfl trivial ?_ rfl)
 simp only [Tryz.ntmps69, List.size_toArray, List.length_cons, List.length_nil, Nat.reduceAdd, Nat.reduceSub, Array.replicate_succ, Array.replicate_zero, List.push_toArray, List.append_toArray, List.nil_append, List.cons_append]
 refine wpIn_wide.2 ?_
 go_wp2_with fail
 refine (bidentity_any n w hn2).mono ?_
 rintro e w2 ⟨v, rfl, ho, b2⟩
 have hS2 := SL.ofOwn ho b2
 obtain ⟨g, gcap, hv, -⟩ := hS2.slice 0 rfl
 subst hv
 rw [idL_len] at hS2
 obtain ⟨G, hG, -⟩ := hS2.setOwn cInt1 0 rfl 0 (by omega) (by rw [idL_len]; omega) 0
 subst hG
 have hR2 := hS.below b2
 have hS3 := hS2.box (.cells #[.slice (some ⟨G, 0, none⟩) n gcap] 22)
 have hGl := ((hS2.own 0 rfl).lt G rfl).2
 have hGlo := ((hS2.own 0 rfl).lt G rfl).1
 clear ho b2 hS2
 rw [idL_len]
 go_wp2_with fail
 refine (crossings_any5 ad ws.length cap n _).mono ?_
 rintro e w4 ⟨rfl, rfl⟩
 go_wp2_with fail
 obtain ⟨Pb, hPb⟩ : ∃ P, P = w2.heap.size := ⟨_, rfl⟩
 rw [← hPb] at hS3 hGl ⊢
 have hS4 := (hS3.al (.cells #[.int .i64 n] 3)).al (.cells #[.slice ad ws.length cap] 22)
 have cWn : (((w2.alloc (.cells #[.slice (some ⟨G, 0, none⟩) n gcap] 22)).alloc (.cells #[.int .i64 n] 3)).alloc (.cells #[.slice ad ws.length cap] 22)).cell? ⟨Pb + 1, 0, none⟩ = some (.int .i64 n) := by
  have h1 := World.alloc_heap_new (w2.alloc (.cells #[.slice (some ⟨G, 0, none⟩) n gcap] 22)) (.cells #[.int .i64 n] 3)
  have h2 := Below.heap_alloc ((w2.alloc (.cells #[.slice (some ⟨G, 0, none⟩) n gcap] 22)).alloc (.cells #[.int .i64 n] 3)) (.cells #[.slice ad ws.length cap] 22) (Pb + 1) (by simp [hPb])
  rw [World.size_alloc, ← hPb] at h1
  simp [World.cell?, h2, h1]
 have cWw : (((w2.alloc (.cells #[.slice (some ⟨G, 0, none⟩) n gcap] 22)).alloc (.cells #[.int .i64 n] 3)).alloc (.cells #[.slice ad ws.length cap] 22)).cell? ⟨Pb + 1 + 1, 0, none⟩ = some (.slice ad ws.length cap) := by
  have h1 := World.alloc_heap_new ((w2.alloc (.cells #[.slice (some ⟨G, 0, none⟩) n gcap] 22)).alloc (.cells #[.int .i64 n] 3)) (.cells #[.slice ad ws.length cap] 22)
  rw [World.size_alloc, World.size_alloc, ← hPb] at h1
  simp [World.cell?, h1]
 have hR4 := hS.below hS4.b
 have hz4 : (((w2.alloc (.cells #[.slice (some ⟨G, 0, none⟩) n gcap] 22)).alloc (.cells #[.int .i64 n] 3)).alloc (.cells #[.slice ad ws.length cap] 22)).heap.size = Pb + 3 := by simp [hPb]
 generalize (((w2.alloc (.cells #[.slice (some ⟨G, 0, none⟩) n gcap] 22)).alloc (.cells #[.int .i64 n] 3)).alloc (.cells #[.slice ad ws.length cap] 22)) = w4 at *
 have hK : ∀ k, crK (Pb + 1) (Pb + 1 + 1) ad ws.length k → k < w4.heap.size := by
  rintro k (rfl | rfl | ⟨h, b, rfl, rfl⟩)
  ·omega
  ·omega
  ·obtain ⟨b', o', hb', hcx⟩ := hR4.cells (by decide) 0 0 h
   have hcx := hcx 0 (.int .i64 (atD 0 ws 0)) rfl
   cases hb'
   exact World.block_lt_of_cell? _ _ hcx
 have hzw := hS4.z
 have hGK : ¬ crK (Pb + 1) (Pb + 1 + 1) ad ws.length G := by
  rintro (h | h | ⟨h, b, rfl, rfl⟩)
  ·omega
  ·omega
  ·obtain ⟨b', o', hb', hcx⟩ := hS.cells (by decide) 0 0 h
   have hcx := hcx 0 (.int .i64 (atD 0 ws 0)) rfl
   cases hb'
   have := World.block_lt_of_cell? _ _ hcx
   have hbk : b'  < w.heap.size := this
   exact absurd hbk (Nat.not_lt.2 hGlo)
 refine (wpIn_wide (n := 9)).1 ?_
 refine rangeFunc_cells rfl (by decide) (gf := 164) (lb := #[.pointer (some ⟨Pb + 1, 0, none⟩), .pointer (some ⟨Pb + 1 + 1, 0, none⟩)]) rfl trivial (enters_of Tryz.func164 kR rfl)
  (crossings_cells 8 (Pb + 1) (Pb + 1 + 1) cap ad n ws hn2 hl hf (by decide) w4 cWn cWw hR4) hK (Below.refl _ _) (fun _ => rfl)
  (fun pre W => bprI w Pb G n gcap (bprF n pre) W) (bprI_ahead hzw (by omega) (by omega) _) hS4 ?round ?done
 case round =>
  intro l pre x W hI hz hlen
  have hz4l : w4.heap.size ≤ Pb + 3 ∧ Pb + 3 ≤ w4.heap.size := ⟨by omega, by omega⟩
  clear hPb hz4
  obtain ⟨-, hxa, hxb, -⟩ := x.2
  have hbd := bprF_bd (n := n) pre
  have hFl := bprF_len (n := n) pre
  have hsn := bprF_snoc pre x
  obtain ⟨PF, hPF⟩ : ∃ PF, PF = bprF n (pre ++ [x]) := ⟨_, rfl⟩
  rw [← hPF] at hsn ⊢
  clear hPF
  have hpl : pre.length ≤ 1048576 := by omega
  generalize pre.length = pl at *
  generalize bprF n pre = p at *
  dsimp only [crV]
  generalize x.1.1 = xl at *
  generalize x.1.2.1 = xa at *
  generalize x.1.2.2 = xb at *
  clear x
  unfold bprI at hI
  gi_wp2
  refine ⟨KeepNew.grown (World.grownBy_alloc W _ none) (fun _ h => by cases h), hI.al _, ?_⟩
  intro W2 hg2 hI2
  unfold bprI at hI2
  have hbx : W2.heap[W.heap.size]? = some (.cells #[.int .i64 xa, .int .i64 xb] 60) := (hg2.block _ (by simp) (by simp; omega)).trans (heap_alloc_new W _)
  have c0 : W2.cell? ⟨W.heap.size, 0, none⟩ = some (.int .i64 xa) := by simp [World.cell?, hbx]
  have c1 : W2.cell? ⟨W.heap.size, 1, none⟩ = some (.int .i64 xb) := by simp [World.cell?, hbx]
  generalize hbxs : W.heap.size = bx at *
  have cP := hI2.cell 0 rfl 0 rfl
  have hRp := hI2.rd 1 rfl
  have hb1 := hbd xa
  have HW1 : Hid (IntKind.i64.wrap (atD 0 p xa + 1) = atD 0 p xa + 1) := hid (IntWalk.i64_in _ (by omega))
  obtain ⟨p1, hp1⟩ : ∃ p1, p1 = p.set xa.toNat (atD 0 p xa + 1) := ⟨_, rfl⟩
  have hb2 := hbd xb
  have hb3 := atD_set_or p xa.toNat (atD 0 p xa + 1) xb
  rw [← hp1] at hb3
  have HW2 : Hid (IntKind.i64.wrap (atD 0 p1 xb - 1) = atD 0 p1 xb - 1) := hid (IntWalk.i64_in _ (by omega))
  have HPF : Hid (PF = p1.set xb.toNat (atD 0 p1 xb - 1)) := hid (by rw [hsn, hp1]; rfl)
  have hp1l : p1.length = n := by rw [hp1, List.length_set, hFl]
  have HP1 := hid hp1
  obtain ⟨hxa0, hxa1⟩ := hxa
  obtain ⟨hxb0, hxb1⟩ := hxb
  have HFL := hid hFl
  have HP1L := hid hp1l
  have hxa2 : xa < (p.length : Int) := by omega
  have hxb2 : xb < (p1.length : Int) := by omega
  clear hb1 hb2 hb3 hbd hsn hp1 hI hpl hlen hFl hp1l
  have hw1 := HW1.out
  apply wpIn_block
  apply wpIn_seq_k
  intro K hK
  refine wpIn_regionR rfl ?_
  go_wp2_with (first | (with_reducible refine wpList_idxN _ 0 E_ints F_int cInt1 wU wU (hRp) (HFL.out) oD oD (fun _ => wU) (fun _ => ?_)) | ((with_reducible refine wpList_storeLG (u := (atD 0 p xa + 1)) 1 E_ints cInt1 (sto_int) wU wU (hI2) wU (by first | omega | (simp; done) | (simp; omega)) (by first | omega | (simp; done) | (simp; omega)) (fun _ => wU) (fun _ => wU) ?_); intro _ w7 hS7 hg7))
  clear hw1 cP hRp
  have hw2 := HW2.out
  rw [← HP1.out] at hS7
  have cP := hS7.cell 0 rfl 0 rfl
  have hRp := hS7.rd 1 rfl
  have g7 : W2.grownBy w7 (some G) := hg7
  have hbG : bx ≠ G := by omega
  have d0 := g7.cell c0 (fun e => hbG (Option.some.inj e))
  have d1 := g7.cell c1 (fun e => hbG (Option.some.inj e))
  clear hI2 hg7
  refine wpIn_regionR rfl ?_
  go_wp2_with (first | (with_reducible refine wpList_idxN _ 0 E_ints F_int cInt1 wU wU (hRp) (HP1L.out) oD oD (fun _ => wU) (fun _ => ?_)) | ((with_reducible refine wpList_storeLG (u := (atD 0 p1 xb - 1)) 1 E_ints cInt1 (sto_int) wU wU (hS7) wU (by first | omega | (simp; done) | (simp; omega)) (by first | omega | (simp; done) | (simp; omega)) (fun _ => wU) (fun _ => wU) ?_); intro _ w8 hS8 hg8))
  have g8 : w7.grownBy w8 (some G) := hg8
  exact ⟨(KeepNew.grown g7 (fun r e => by cases e; exact ⟨by omega, hGK⟩)).trans (KeepNew.grown g8 (fun r e => by cases e; exact ⟨by omega, hGK⟩)), by unfold bprI; rw [HPF.out]; exact hS8⟩
 case done =>
  intro D ys W hD hys hI hK
  have hfin := bprF_end hf ys hys
  unfold bprI at hI
  rw [hfin] at hI
  have hs := hI.addMark (C := w4.heap.size) (by
   intro q hq
   simp only [List.mem_cons, List.not_mem_nil, or_false] at hq
   rcases hq with rfl | rfl
   ·exact okT_cells
   ·exact okT_own) hzw hD hK
  have hc := hs.cell 1 rfl 0 rfl
  clear hI hfin hys hPb hz4
  dsimp only
  go_wp2_with fail
  refine SL.leave (L := [_, _]) (fun V hV => ⟨.slice (some ⟨G, 0, none⟩) n gcap, ?_, _, rfl, hV.own 1 rfl, hV.b⟩) [D] W hs
  simp [results, Tryz.f69, go_sem]
end Go.Proofs.YtglpfpdomnllkaaGreat

namespace Go.Proofs.YtglpfpdomnllkaaGreat
open Go.RowKit
set_option maxRecDepth 100000
theorem F_sls : Flat Tryz.prog 39 := ⟨_, Tryz.underlying39, rfl⟩
section
variable {ops : Array Oper} {rest : List Oper} {a : Act} {Q : Exit → Act → World → Prop} {w : World} {ty : TypeId} {p : String} {af : Array Edge}
/-- a store into a cell that is known. -/
theorem wpList_stoAt {e : TypeId} {x y : Operand} {pa : Addr} {u v : Value} (hsto : (w.cell? pa).isSome = true → w.frozen? pa = false → (Instr.storeAt e (.pointer (some pa)) v).run Tryz.prog w = .ok () (w.setCell pa v)) (hx : a.eval x = .pointer (some pa)) (hy : a.eval y = v)
  (hc : w.cell? pa = some u) (hf : w.frozen? pa = false) (h : wpList Tryz.prog ops Q rest (a.put none undef) (w.setCell pa v)) :
  wpList Tryz.prog ops Q (⟨none, .store e x y, ty, p, af, none⟩ :: rest) a w := by
 refine wpList_plain rfl fun K hK' => ?_
 have hs := hsto (by rw [hc]; rfl) hf
 unfold Oper.wp
 simp only [execOp, hx, hy]
 simp [hs, Result.andThen]
 exact hK' _ _ h
end
/-- the rows of a matrix with n columns. -/
structure Mx (n : Nat) (M : List (List Int)) : Prop where
 len : M.length = n
 row : ∀ r ∈ M, r.length = n
theorem zeroM_mx (n : Nat) : Mx n (zeroM n) := ⟨by simp [zeroM], fun r hr => by unfold zeroM at hr; rw [List.eq_of_mem_replicate hr]; simp⟩
theorem mx_getD {n : Nat} {M : List (List Int)} (h : Mx n M) {a : Nat} (ha : a < n) : (M.getD a []).length = n := by
 have e : M.getD a [] = M[a]'(by rw [h.len]; exact ha) := by simp [show a < M.length by rw [h.len]; exact ha]
 rw [e]
 exact h.row _ (List.getElem_mem _)
theorem addE_mx {n : Nat} {M : List (List Int)} (h : Mx n M) {a : Int} (ha : a.toNat < n) (b s : Int) : Mx n (addE M a b s) := by
 refine ⟨by rw [addE_len, h.len], fun r hr => ?_⟩
 unfold addE at hr
 rcases List.mem_or_eq_of_mem_set hr with hr | rfl
 ·exact h.row r hr
 ·rw [List.length_set, mx_getD h ha]
theorem addM_mx {n : Nat} {M : List (List Int)} (h : Mx n M) {a b : Int} (ha : a.toNat < n) (hb : b.toNat < n) (s : Int) : Mx n (addM M a b s) := addE_mx (addE_mx h ha b s) hb a s
/-- all entries are small. -/
def MxB (M : List (List Int)) (c : Int) : Prop := ∀ a b : Int, -c ≤ atD 0 (M.getD a.toNat []) b ∧ atD 0 (M.getD a.toNat []) b ≤ c
theorem setI_or (p : List Int) (i : Nat) (v : Int) (j : Int) : atD 0 (p.set i v) j = v ∨ atD 0 (p.set i v) j = atD 0 p j := by
 unfold atD
 rw [List.getD_eq_getElem?_getD, List.getD_eq_getElem?_getD, List.getElem?_set]
 split
 ·split
  ·left; rfl
  ·right; rw [List.getElem?_eq_none (by omega)]
 ·right; rfl
theorem setM_or (M : List (List Int)) (i : Nat) (v : List Int) (j : Nat) : (M.set i v).getD j [] = v ∨ (M.set i v).getD j [] = M.getD j [] := by
 rw [List.getD_eq_getElem?_getD, List.getD_eq_getElem?_getD, List.getElem?_set]
 split
 ·split
  ·left; rfl
  ·right; rw [List.getElem?_eq_none (by omega)]
 ·right; rfl
theorem addE_b {M : List (List Int)} {c : Int} (h : MxB M c) (a b : Int) {s : Int} (hs : -1 ≤ s ∧ s ≤ 1) : MxB (addE M a b s) (c + 1) := by
 intro x y
 have h0 := h x y
 have h1 := h a b
 have h2 := h a y
 unfold addE
 rcases setM_or M a.toNat ((M.getD a.toNat []).set b.toNat (atD 0 (M.getD a.toNat []) b + s)) x.toNat with e | e <;> rw [e]
 ·rcases setI_or (M.getD a.toNat []) b.toNat (atD 0 (M.getD a.toNat []) b + s) y with e2 | e2 <;> rw [e2] <;> omega
 ·omega
theorem zeroM_b (n : Nat) : MxB (zeroM n) 0 := by
 intro a b
 have : atD 0 ((zeroM n).getD a.toNat []) b = 0 := by
  unfold zeroM atD
  rw [List.getD_eq_getElem?_getD, List.getD_eq_getElem?_getD, List.getElem?_replicate]
  split
  ·simp [List.getElem?_replicate]
   split <;> rfl
  ·simp
 omega
theorem sgnI_b (x : Int) : -1 ≤ sgnI x ∧ sgnI x ≤ 1 := by unfold sgnI; split <;> omega
section
variable {B : Nat} {w0 w : World} {pre : List Pc}
end
end Go.Proofs.YtglpfpdomnllkaaGreat

namespace Go.Proofs.YtglpfpdomnllkaaGreat
open Go.RowKit
set_option maxHeartbeats 4000000
set_option maxRecDepth 100000
section
variable {P : Program} {ops : Array Oper} {rest : List Oper} {a : Act} {Qa : Act → Prop} {α : Type} {c : α → Value} {sz bytes : Nat} {t e e2 t2 : TypeId} {z : Value} {ad : Option Addr} {cap : Nat} {l : List α} {k : Int} {w : World}
 {d1 d2 d3 : Tmp} {ty1 ty2 ty3 : TypeId} {p1 p2 p3 : String} {s x : Operand} {af1 af2 af3 : Array Edge} {g1 g2 g3 : Option (Nat × Bool)} {j : Nat}
end
theorem sumGo_ok {n : Nat} : ∀ (cs : List (Int × Int)) (ws : List Int) (M : List (List Int)) (c : Int), (∀ p ∈ cs, (1 ≤ p.1 ∧ p.1 ≤ n) ∧ (1 ≤ p.2 ∧ p.2 ≤ n)) → Mx n M → MxB M c → Mx n (sumGo M cs ws) ∧ MxB (sumGo M cs ws) (c + 2 * cs.length)
 | [], ws, M, c, _, h1, h2 => by cases ws <;> exact ⟨h1, by simpa [sumGo] using h2⟩
 | p :: cs, [], M, c, _, h1, h2 => by
   refine ⟨h1, fun a b => ?_⟩
   have := h2 a b
   simp only [sumGo]
   rw [List.length_cons]
   omega
 | p :: cs, x :: ws, M, c, hp, h1, h2 => by
   obtain ⟨ha, hb⟩ := hp p (by simp)
   rw [sumGo]
   have h3 := addM_mx h1 (a := p.1 - 1) (b := p.2 - 1) (by omega) (by omega) (sgnI x)
   have h4 := addE_b (addE_b h2 (p.1 - 1) (p.2 - 1) (sgnI_b x)) (p.2 - 1) (p.1 - 1) (sgnI_b x)
   obtain ⟨h5, h6⟩ := sumGo_ok cs ws _ (c + 1 + 1) (fun q hq => hp q (by simp [hq])) h3 h4
   refine ⟨h5, ?_⟩
   rw [List.length_cons]
   have : c + 2 * ((cs.length + 1 : Nat) : Int) = c + 1 + 1 + 2 * (cs.length : Int) := by omega
   rw [this]
   exact h6
end Go.Proofs.YtglpfpdomnllkaaGreat

namespace Go.Proofs.YtglpfpdomnllkaaGreat
set_option maxRecDepth 100000
def isD (n : Nat) (p : List Int) : Bool := decide (p = revP n)
def isE (n : Nat) (p : List Int) : Bool := decide (p = idL n)
section
variable {S : Type} {T : GarT S}
end
end Go.Proofs.YtglpfpdomnllkaaGreat

namespace Go.Proofs.YtglpfpdomnllkaaGreat
set_option maxRecDepth 100000
section
variable {S : Type} {G : Gar S}
/-- nothing can be moved between two neighbours. -/
def PairOk (G : Gar S) (a b : S) : Prop := ∀ i, i < G.N → G.B b i = true → G.E a i = true
theorem noPull_of : ∀ {X : List S}, (∀ j a b, X[j]? = some a → X[j + 1]? = some b → PairOk G a b) → NoPull G X
 | [], _, Y, p => by cases p
 | x :: X, h, Y, p => by
   cases p with
   | here _ b R i h1 h2 h3 =>
     have := h 0 x b rfl rfl i h1 h2
     rw [h3] at this; cases this
   | there _ p => exact noPull_of (X := X) (fun j a b e1 e2 => h (j + 1) a b (by simpa using e1) (by simpa using e2)) _ p
end
end Go.Proofs.YtglpfpdomnllkaaGreat

namespace Go.Proofs.YtglpfpdomnllkaaGreat
set_option maxRecDepth 100000
abbrev nth (X : List (List Int)) (k : Nat) : List Int := atD [] X (k : Int)
theorem nth_some {X : List (List Int)} {k : Nat} (h : k < X.length) : X[k]? = some (nth X k) := by simp [nth, atD, h]
theorem nth_eq {X : List (List Int)} {k : Nat} {a : List Int} (h : X[k]? = some a) : nth X k = a := by
 have hk : k < X.length := by
  rcases Nat.lt_or_ge k X.length with h1 | h1
  ·exact h1
  ·rw [List.getElem?_eq_none h1] at h; cases h
 rw [nth_some hk] at h
 exact Option.some.inj h
/-- the pairs ahead of k are settled. -/
def Settled (n : Nat) (X : List (List Int)) (k : Nat) : Prop := ∀ j, j < k → j + 1 < X.length → PairOk (garN n).toGar (nth X j) (nth X (j + 1))
section
variable {n : Nat} {X : List (List Int)} {k i : Nat}
theorem Settled.le {q q' : Nat} (hs : Settled n X q) (h : q' ≤ q) : Settled n X q' := fun j hj hl => hs j (by omega) hl
theorem Settled.all (hs : Settled n X k) (h : X.length ≤ k + 1) : NoPull (garN n).toGar X := noPull_of fun j a b h1 h2 => by
 have hl : j + 1 < X.length := by
  rcases Nat.lt_or_ge (j + 1) X.length with h3 | h3
  ·exact h3
  ·rw [List.getElem?_eq_none h3] at h2; cases h2
 have := hs j (by omega) hl
 rwa [nth_eq h1, nth_eq h2] at this
end
end Go.Proofs.YtglpfpdomnllkaaGreat

namespace Go.Proofs.YtglpfpdomnllkaaGreat
open Go.RowKit
set_option maxHeartbeats 8000000
set_option maxRecDepth 100000
/-- the handles lead to rows of n places. -/
def RowsR (w : World) (n : Nat) (H : List SlH) (X : List (List Int)) : Prop := H.length = X.length ∧ ∀ k : Nat, k < X.length → ∃ a c, atD ((none, 0, 0) : SlH) H (k : Int) = (a, n, c) ∧ Ints w a c (nth X k)
theorem RowsR.below {w w' : World} {n : Nat} {H : List SlH} {X : List (List Int)} (h : RowsR w n H X) (hb : Below w.heap.size w w') : RowsR w' n H X := ⟨h.1, fun k hk => by obtain ⟨a, c, e, r⟩ := h.2 k hk; exact ⟨a, c, e, r.below hb⟩⟩
end Go.Proofs.YtglpfpdomnllkaaGreat

namespace Go.Proofs.YtglpfpdomnllkaaGreat
set_option maxRecDepth 100000
/-- the strand that is above in a letter. -/
def overO (st : List Int) (x : Int) : Int := if x < 0 then atD 0 st (absI x) else atD 0 st (absI x - 1)
def seenGo : List Int → List Int → List Int
 | _, [] => []
 | st, x :: r => overO st x :: seenGo (swapL st (absI x)) r
def seenL (k : Nat) (w : List Int) : List Int := seenGo (idL k) w
theorem seenGo_snoc : ∀ (w st : List Int) (x : Int), seenGo st (w ++ [x]) = seenGo st w ++ [overO (row5 st w) x]
 | [], _, _ => rfl
 | y :: w, st, x => by rw [List.cons_append, seenGo, seenGo, row5, seenGo_snoc w]; rfl
theorem seenGo_len : ∀ (w st : List Int), (seenGo st w).length = w.length
 | [], _ => rfl
 | x :: w, st => by rw [seenGo, List.length_cons, List.length_cons, seenGo_len w]
/-- carriers in the same slots: c of the first ones stands where τ c of the other ones does. -/
structure Ren (l l' : List Int) (τ : Int → Int) : Prop where
 len : l'.length = l.length
 at_ : ∀ c : Int, 0 ≤ c → c < l.length → (0 ≤ τ c ∧ τ c < l.length) ∧ atD 0 l' (τ c) = atD 0 l c
 mem : ∀ s, s ∈ l' → s ∈ l
theorem atD_getE {l : List Int} {c s : Int} (h0 : 0 ≤ c) (h1 : c < l.length) : l[c.toNat]? = some s ↔ atD 0 l c = s := by
 unfold atD
 rw [List.getD_eq_getElem?_getD, List.getElem?_eq_getElem (by omega)]
 simp
theorem Ren.inj {l l' : List Int} {τ : Int → Int} (h : Ren l l' τ) (hn : l.Nodup) {a b : Int} (a0 : 0 ≤ a) (a1 : a < l.length) (b0 : 0 ≤ b) (b1 : b < l.length) (e : τ a = τ b) : a = b := by
 have h1 := (h.at_ a a0 a1).2
 have h2 := (h.at_ b b0 b1).2
 rw [e, h2] at h1
 obtain ⟨i, rfl⟩ : ∃ i : Nat, a = i := ⟨a.toNat, by omega⟩
 obtain ⟨j, rfl⟩ : ∃ j : Nat, b = j := ⟨b.toNat, by omega⟩
 rcases Nat.lt_trichotomy i j with hij | hij | hij
 ·exact absurd h1 (by first | exact nodup_ne hn hij (by omega) | exact (nodup_ne hn hij (by omega)).symm)
 ·rw [hij]
 ·exact absurd h1 (by first | exact nodup_ne hn hij (by omega) | exact (nodup_ne hn hij (by omega)).symm)
theorem Ren.idx {l l' : List Int} {τ : Int → Int} (h : Ren l l' τ) (hn : l'.Nodup) (s : Int) : idxO l' s = (idxO l s).map τ := by
 cases hi : idxO l s with
 | none =>
  rw [idxO_none] at hi
  rw [Option.map_none, idxO_none]
  exact fun k => hi (h.mem s k)
 | some i =>
  obtain ⟨i0, i1, i2⟩ := idxO_some hi
  obtain ⟨⟨t0, t1⟩, t2⟩ := h.at_ i i0 i1
  rw [(atD_getE i0 i1).1 i2] at t2
  have hl := h.len
  obtain ⟨k, hk⟩ : ∃ k : Nat, τ i = k := ⟨(τ i).toNat, by omega⟩
  rw [Option.map_some, hk]
  rw [hk] at t1 t2
  refine idxO_eq (by omega) ?_ fun j hj e => ?_
  ·have := (atD_getE (l := l') (c := (k : Int)) (s := s) (by omega) (by omega)).2 t2
   simpa using this
  ·have e2 : atD 0 l' (j : Int) = s := (atD_getE (by omega) (by omega)).1 (by simpa using e)
   exact nodup_ne hn hj (by omega) (e2.trans t2.symm)
theorem Ren.later {m : MacV} {l l' : List Int} {τ : Int → Int} (h : Ren l l' τ) (j : Nat) : Ren (atL m l j) (atL m l' j) τ := by
 have e : ∀ L : List Int, (atL m L j).length = L.length := fun L => by unfold atL; rw [List.length_map]
 refine ⟨by rw [e, e, h.len], fun c c0 c1 => ?_, fun s hs => ?_⟩
 ·rw [e] at c1 ⊢
  obtain ⟨⟨a, b⟩, d⟩ := h.at_ c c0 c1
  refine ⟨⟨a, b⟩, ?_⟩
  have hl := h.len
  obtain ⟨i, hi⟩ : ∃ i : Nat, c = i := ⟨c.toNat, by omega⟩
  obtain ⟨k, hk⟩ : ∃ k : Nat, τ c = k := ⟨(τ c).toNat, by omega⟩
  rw [hk] at d b ⊢
  subst hi
  unfold atL
  rw [atD_map2 (by omega), atD_map2 (by omega), d]
 ·unfold atL at hs ⊢
  obtain ⟨y, hy, rfl⟩ := List.mem_map.1 hs
  exact List.mem_map.2 ⟨y, h.mem y hy, rfl⟩
theorem Ren.order {m : MacV} {l l' : List Int} {τ : Int → Int} (h : Ren l l' τ) (hn : l'.Nodup) : orderM m l' = (orderM m l).map τ := by
 unfold orderM
 rw [List.map_flatMap]
 congr 1
 funext g
 unfold orderG
 rw [List.map_filterMap]
 congr 1
 funext s
 exact h.idx hn s
def renC (τ : Int → Int) (c : CrM) : CrM := ⟨c.gear, τ c.over, τ c.under, τ c.going⟩
theorem Ren.cross {m : MacV} {l l' : List Int} {τ : Int → Int} (h : Ren l l' τ) (hn : l'.Nodup) : crossM m l' = (crossM m l).map (renC τ) := by
 unfold crossM
 rw [List.map_flatMap]
 congr 1
 funext g
 unfold crossG
 rw [List.map_filterMap]
 congr 1
 funext p
 unfold crossA
 rw [h.idx hn, h.idx hn]
 cases idxO l (slotG m g p.1) <;> cases idxO l (slotG m g p.2) <;> simp only [Option.map_none, Option.map_some]
 cases fwdM m g <;> rfl
theorem atD_mapC {cs : List CrM} {f : CrM → CrM} {i : Nat} (h : i < cs.length) : atD (⟨0, 0, 0, 0⟩ : CrM) (cs.map f) i = f (atD ⟨0, 0, 0, 0⟩ cs i) := by simp [atD, h]
section
variable {m : MacV} {l l' : List Int} {τ : Int → Int} {n : Int}
/-- a letter, with the strands by their first positions. -/
theorem letter_at (hr : m.ring = false) (h : LoadOk m l) (hm : meetsM m l n = false) {j i : Nat} (hj : (j : Int) ≤ n) (hi : i < (crossM m (atL m l j)).length) :
  ∃ (x : Int) (p : Nat), (stC m l j (i + 1)).2 = (stC m l j i).2 ++ [x] ∧ p + 1 < l.length ∧ LetRng l.length (stC m l j i).2 ∧ absI x = (p : Int) + 1 ∧ x ≠ 0 ∧
   ((x = (p : Int) + 1 ∧ (atD ⟨0, 0, 0, 0⟩ (crossM m (atL m l j)) i).over = atD 0 (orderM m l) (atD 0 (row5 (idL l.length) (stC m l j i).2) p) ∧ (atD ⟨0, 0, 0, 0⟩ (crossM m (atL m l j)) i).under = atD 0 (orderM m l) (atD 0 (row5 (idL l.length) (stC m l j i).2) ((p : Int) + 1))) ∨
    (x = -(p : Int) - 1 ∧ (atD ⟨0, 0, 0, 0⟩ (crossM m (atL m l j)) i).over = atD 0 (orderM m l) (atD 0 (row5 (idL l.length) (stC m l j i).2) ((p : Int) + 1)) ∧ (atD ⟨0, 0, 0, 0⟩ (crossM m (atL m l j)) i).under = atD 0 (orderM m l) (atD 0 (row5 (idL l.length) (stC m l j i).2) p))) := by
 obtain ⟨a, b⟩ := rowIs_stC hr h hm hj (rowIs_wv hr h hm j (by omega)) i (by omega)
 obtain ⟨p, hp, hst, hz, hl⟩ := stC_step hr h hm hj (N := j + 1) (by omega) hi
 have hlen : (stC m l j i).1.length = l.length := by rw [a, List.length_map, row5_len, idL_len]
 have rp : atD 0 (stC m l j i).1 (p : Int) = atD 0 (orderM m l) (atD 0 (row5 (idL l.length) (stC m l j i).2) p) := by
  rw [a]; exact atD_map2 (by rw [row5_len, idL_len]; omega)
 have rp1 : atD 0 (stC m l j i).1 ((p : Int) + 1) = atD 0 (orderM m l) (atD 0 (row5 (idL l.length) (stC m l j i).2) ((p : Int) + 1)) := by
  rw [a]
  have := atD_map2 (l := row5 (idL l.length) (stC m l j i).2) (f := atD 0 (orderM m l)) (i := p + 1) (by rw [row5_len, idL_len]; omega)
  rwa [show ((p + 1 : Nat) : Int) = (p : Int) + 1 by omega] at this
 rw [rp, rp1] at hl
 have hs2 := congrArg Prod.snd hst
 dsimp only at hs2
 refine ⟨_, p, hs2, by omega, b, ?_, ?_, hl⟩
 ·unfold absI
  rcases hl with ⟨e, _⟩ | ⟨e, _⟩ <;> rw [e] <;> split <;> omega
 ·rcases hl with ⟨e, _⟩ | ⟨e, _⟩ <;> rw [e] <;> omega
/-- the carrier that is above is the one on the strand that is seen. -/
theorem over_seen (hr : m.ring = false) (h : LoadOk m l) (hm : meetsM m l n = false) {j i : Nat} (hj : (j : Int) ≤ n) (hi : i < (crossM m (atL m l j)).length) :
  ∃ y : Int, seenL l.length (stC m l j (i + 1)).2 = seenL l.length (stC m l j i).2 ++ [y] ∧ (0 ≤ y ∧ y < l.length) ∧ (atD ⟨0, 0, 0, 0⟩ (crossM m (atL m l j)) i).over = atD 0 (orderM m l) y := by
 obtain ⟨x, p, h1, h2, h3, h4, h5, h6⟩ := letter_at hr h hm hj hi
 have hX := row5_VP h3
 have x0 := hX.rg (x := (p : Int)) (by omega) (by omega)
 have x1 := hX.rg (x := (p : Int) + 1) (by omega) (by omega)
 refine ⟨overO (row5 (idL l.length) (stC m l j i).2) x, by rw [h1]; exact seenGo_snoc _ _ _, ?_, ?_⟩
 ·unfold overO
  rw [h4]
  split
  ·exact x1
  ·rw [show (p : Int) + 1 - 1 = p by omega]; exact x0
 ·unfold overO
  rw [h4]
  rcases h6 with ⟨e, h7, _⟩ | ⟨e, h7, _⟩
  ·rw [if_neg (by omega), show (p : Int) + 1 - 1 = p by omega]; exact h7
  ·rw [if_pos (by omega)]; exact h7
/-- the same letters. -/
theorem Ren.letters (hR : Ren l l' τ) (hr : m.ring = false) (h : LoadOk m l) (h' : LoadOk m l') (hm : meetsM m l n = false) (hm' : meetsM m l' n = false) {j : Nat} (hj : (j : Int) ≤ n) (h0 : (wvM m l' j).2 = (wvM m l j).2) :
  ∀ i : Nat, i ≤ (crossM m (atL m l j)).length → (stC m l' j i).2 = (stC m l j i).2
 | 0, _ => h0
 | i + 1, hi => by
   have ih := hR.letters hr h h' hm hm' hj h0 i (by omega)
   have hlo := h.ok.lo
   have eo : (orderM m l).length = l.length := orderM_length (by omega) h.rng h.nodup
   have hV : VP l.length (orderM m l) := ⟨orderM_isP h, eo⟩
   have hcr := (hR.later (m := m) j).cross (m := m) (atL_nodup h'.rng h'.nodup j)
   obtain ⟨x, p, a1, a2, a3, a4, a5, a6⟩ := letter_at hr h hm hj (i := i) (by omega)
   obtain ⟨x', p', b1, b2, b3, b4, b5, b6⟩ := letter_at hr h' hm' hj (i := i) (by rw [hcr, List.length_map]; omega)
   rw [hcr, atD_mapC (by omega), hR.order h'.nodup, ih, hR.len] at b6
   have hX := row5_VP a3
   have hlen := hR.len
   have el : ∀ q : Int, 0 ≤ q → q < l.length → atD 0 ((orderM m l).map τ) (atD 0 (row5 (idL l.length) (stC m l j i).2) q) = τ (atD 0 (orderM m l) (atD 0 (row5 (idL l.length) (stC m l j i).2) q)) := by
     intro q q0 q1
     have := hX.rg q0 q1
     obtain ⟨k, hk⟩ : ∃ k : Nat, atD 0 (row5 (idL l.length) (stC m l j i).2) q = k := ⟨(atD 0 (row5 (idL l.length) (stC m l j i).2) q).toNat, by omega⟩
     rw [hk]
     exact atD_map2 (by omega)
   have un : ∀ q r : Int, 0 ≤ q → q < l.length → 0 ≤ r → r < l.length → τ (atD 0 (orderM m l) (atD 0 (row5 (idL l.length) (stC m l j i).2) q)) = τ (atD 0 (orderM m l) (atD 0 (row5 (idL l.length) (stC m l j i).2) r)) → q = r := by
     intro q r q0 q1 r0 r1 e
     have hq := hX.rg q0 q1
     have hr' := hX.rg r0 r1
     have oq := hV.rg hq.1 hq.2
     have or' := hV.rg hr'.1 hr'.2
     exact hX.pi q0 q1 r0 r1 (hV.pi hq.1 hq.2 hr'.1 hr'.2 (hR.inj h.nodup oq.1 oq.2 or'.1 or'.2 e))
   rw [el _ (by omega) (by omega), el _ (by omega) (by omega)] at b6
   have exx : x' = x := by
     rcases a6 with ⟨e, o, u⟩ | ⟨e, o, u⟩ <;> rcases b6 with ⟨e', o', u'⟩ | ⟨e', o', u'⟩ <;> simp only [renC] at o' u' <;> rw [o] at o' <;> rw [u] at u'
     · have := un _ _ (by omega) (by omega) (by omega) (by omega) o'; omega
     · have := un _ _ (by omega) (by omega) (by omega) (by omega) o'
       have := un _ _ (by omega) (by omega) (by omega) (by omega) u'
       omega
     · have := un _ _ (by omega) (by omega) (by omega) (by omega) o'
       have := un _ _ (by omega) (by omega) (by omega) (by omega) u'
       omega
     · have := un _ _ (by omega) (by omega) (by omega) (by omega) o'; omega
   rw [a1, b1, ih, exx]
theorem Ren.word (hR : Ren l l' τ) (hr : m.ring = false) (h : LoadOk m l) (h' : LoadOk m l') (hm : meetsM m l n = false) (hm' : meetsM m l' n = false) : ∀ j : Nat, (j : Int) ≤ n + 1 → (wvM m l' j).2 = (wvM m l j).2
 | 0, _ => rfl
 | j + 1, hj => by
   have hcr := (hR.later (m := m) j).cross (m := m) (atL_nodup h'.rng h'.nodup j)
   have := hR.letters hr h h' hm hm' (j := j) (by omega) (hR.word hr h h' hm hm' j (by omega)) _ (Nat.le_refl _)
   rw [← stC_last m l j, ← stC_last m l' j, hcr, List.length_map]
   exact this
end
/-- from lists with the same numbers. -/
theorem ren_of {l l' : List Int} (hn : l.Nodup) (hl : l'.length = l.length) (h : ∀ s, s ∈ l → s ∈ l') (h' : ∀ s, s ∈ l' → s ∈ l) : ∃ τ, Ren l l' τ := by
 refine ⟨fun c => (idxO l' (atD 0 l c)).getD 0, hl, fun c c0 c1 => ?_, h'⟩
 have hm := h _ (atD_memZ c0 c1)
 cases hi : idxO l' (atD 0 l c) with
 | none => exact absurd hm (idxO_none.1 hi)
 | some i =>
  obtain ⟨i0, i1, i2⟩ := idxO_some hi
  exact ⟨⟨i0, by rw [Option.getD_some]; omega⟩, (atD_getE i0 i1).1 i2⟩
end Go.Proofs.YtglpfpdomnllkaaGreat

namespace Go.Proofs.YtglpfpdomnllkaaGreat
set_option maxRecDepth 100000
theorem atD_mapF {l : List Int} {f : Int → Int} {j : Int} (h0 : 0 ≤ j) (h1 : j < l.length) : atD 0 (l.map f) j = f (atD 0 l j) := by
 obtain ⟨i, rfl⟩ : ∃ i : Nat, j = i := ⟨j.toNat, by omega⟩
 exact atD_map2 (by omega)
section
variable {k : Nat} {w : List Int}
theorem powP_zero (k : Nat) (X : List Int) (h : X.length = k) : powP X 0 = idL k := by
 refine ext_atD (by rw [powP_len, idL_len, h]) fun j j0 j1 => ?_
 rw [powP_len] at j1
 rw [powP_at j0 j1, idL_at j0 (by rw [← h]; exact j1)]
 rfl
theorem powP_succ' {X : List Int} (h : IsP X) (r : Nat) : powP X (r + 1) = X.map (atD 0 (powP X r)) := by
 refine ext_atD (by rw [powP_len, List.length_map]) fun j j0 j1 => ?_
 rw [powP_len] at j1
 have := h.rng j j0 j1
 rw [powP_at j0 j1, atD_mapF j0 j1, powP_at this.1 this.2, itP_succ']
end
/-- the strands above in the crossings are the ones that are seen, told from 1 on. -/
theorem cross_fst : ∀ (ws st : List Int), ((rowGo st [] ws).2).map Prod.fst = seenGo st ws
 | [], _ => rfl
 | x :: r, st => by
   rw [rowGo, rowGo_cr, List.map_append, cross_fst r, seenGo]
   show [(crossOf st x).1] ++ _ = _
   have : (crossOf st x).1 = overO st x := by unfold crossOf overO; split <;> rfl
   rw [this]; rfl
end Go.Proofs.YtglpfpdomnllkaaGreat

namespace Go.Proofs.YtglpfpdomnllkaaGreat
set_option maxRecDepth 100000
section
variable {m : MacV} {l : List Int}
end
noncomputable def ordN (p : List Int) (i : Int) : Nat := Classical.epsilon (Ord p i)
theorem ordN_ok {p : List Int} (hp : IsP p) {i : Int} (h0 : 0 ≤ i) (h1 : i < p.length) : Ord p i (ordN p i) := Classical.epsilon_spec (ord_ex hp h0 h1)
theorem ord_uniq {p : List Int} {i : Int} {d e : Nat} (h : Ord p i d) (k : Ord p i e) : d = e := by
 rcases Nat.lt_trichotomy d e with hl | hl | hl
 ·exact absurd h.back (k.min d h.pos hl)
 ·exact hl
 ·exact absurd k.back (h.min e k.pos hl)
section
variable {p seen : List Int}
end
theorem seen_rng {k : Nat} : ∀ (w st : List Int), VP k st → LetRng k w → ∀ x ∈ seenGo st w, 0 ≤ x ∧ x < k
 | [], _, _, _, x, hx => by simp [seenGo] at hx
 | y :: w, st, hv, h, x, hx => by
   obtain ⟨a, b⟩ := h y (by simp)
   rw [seenGo] at hx
   rcases List.mem_cons.1 hx with rfl | hx
   · unfold overO
     split
     · exact hv.rg (by omega) b
     · exact hv.rg (by omega) (by omega)
   · refine seen_rng w (swapL st (absI y)) ⟨swapL_isP a (by rw [hv.2]; exact b) hv.1, by rw [swapL_len, hv.2]⟩ (fun z hz => h z (by simp [hz])) x hx
end Go.Proofs.YtglpfpdomnllkaaGreat

namespace Go.Proofs.YtglpfpdomnllkaaGreat
open Go.RowKit
set_option maxHeartbeats 1000000
set_option maxRecDepth 100000

theorem wordE_fit {n : Int} {l : List Int} (h1 : 1 ≤ n) (h2 : n ≤ 12) (hl : l.length ≤ 200) (hf : ∀ x ∈ l, 1 ≤ absI x ∧ absI x < n) : wordE n l = 0 := by
 rw [wordE_any (by unfold strandsE; rw [if_neg (by omega)]) hl]
 rw [if_neg]
 intro h
 obtain ⟨x, hx, hb⟩ := List.any_eq_true.1 h
 obtain ⟨a, b⟩ := hf x hx
 unfold outB at hb
 unfold absI at a b
 simp at hb
 split at a <;> split at b <;> omega
end Go.Proofs.YtglpfpdomnllkaaGreat

namespace Go.Proofs.YtglpfpdomnllkaaGreat
set_option maxRecDepth 100000
def schemeE (n : Int) (w : List Int) : Int := if n < 2 ∨ 12 < n then 3 else if w.length = 0 then 12 else if 24 < w.length then 5 else if w.any (outB n) then 3 else 0
def colB (c : Int) : Bool := decide (c < 0) || decide (7 < c)
def placeE (n : Int) (l : List Int) : Int := if n < 2 ∨ 12 < n then 3 else if (l.length : Int) ≠ n then 2 else if l.any colB then 3 else 0
structure SchOk (n : Int) (w : List Int) : Prop where
 lo : 2 ≤ n
 hi : n ≤ 12
 pos : 0 < w.length
 le : w.length ≤ 24
 out : w.any (outB n) = false
 rng : LetRng n.toNat w
theorem scheme_zero {n : Int} {w : List Int} (h : schemeE n w = 0) : SchOk n w := by
 unfold schemeE at h
 split at h
 ·omega
 ·rename_i h1
  split at h
  ·omega
  ·rename_i h2
   split at h
   ·omega
   ·rename_i h3
    split at h
    ·omega
    ·rename_i h4
     have h4 : w.any (outB n) = false := by simpa using h4
     refine ⟨by omega, by omega, by omega, by omega, h4, fun x hx => ?_⟩
     have := (List.any_eq_false.1 h4) x hx
     simp [outB] at this
     obtain ⟨⟨a, b⟩, c⟩ := this
     unfold absI
     split <;> omega
theorem SchOk.word {n : Int} {w : List Int} (h : SchOk n w) : wordE n w = 0 := by
 refine wordE_fit (by have := h.lo; omega) h.hi (by have := h.le; omega) fun x hx => ?_
 have := h.rng x hx
 have := h.lo
 omega
structure PlcOk (n : Int) (l : List Int) : Prop where
 lo : 2 ≤ n
 hi : n ≤ 12
 len : (l.length : Int) = n
 out : l.any colB = false
 rng : ∀ x ∈ l, 0 ≤ x ∧ x ≤ 7
theorem place_zero {n : Int} {l : List Int} (h : placeE n l = 0) : PlcOk n l := by
 unfold placeE at h
 split at h
 ·omega
 ·split at h
  ·omega
  ·rename_i h2
   split at h
   ·omega
   ·rename_i h4
    have h4 : l.any colB = false := by simpa using h4
    refine ⟨by omega, by omega, by simpa using h2, h4, fun x hx => ?_⟩
    have := (List.any_eq_false.1 h4) x hx
    simp [colB] at this
    omega
end Go.Proofs.YtglpfpdomnllkaaGreat

namespace Go.Proofs.YtglpfpdomnllkaaGreat
open Go.RowKit
set_option maxHeartbeats 4000000
set_option maxRecDepth 100000
theorem rOut_any (n a b : Int) (w : World) :
  Calls Tryz.prog 45 #[.int .i64 n, .int .i64 a, .int .i64 b] w fun r w' => r = .returned (.bool (decide (n < a) || decide (b < n))) ∧ w = w' := by
 by_cases h : n < a
 ·have e : (decide (n < a) || decide (b < n)) = true := by simp [h]
  rw [e]
  go_enter Tryz.func45, Tryz.ntmps45
  go_wp2
  go_ret
  exact ⟨rfl, rfl⟩
 ·have e : (decide (n < a) || decide (b < n)) = decide (b < n) := by simp [h]
  rw [e]
  clear e
  go_enter Tryz.func45, Tryz.ntmps45
  go_wp2
  go_ret
  exact ⟨rfl, rfl⟩
theorem rCheckPlacing_any (n : Int) (a : Option Addr) (cap : Nat) (l : List Int) (w : World) (hS : Ints w a cap l) :
  Calls Tryz.prog 10 #[.int .i64 n, .slice a l.length cap] w fun r w' => r = .returned (.int .i64 (placeE n l)) ∧ Below w.heap.size w w' := by
 have hcap := hS.le
 have hm := hS.max
 have HO := hid rOut_any
 by_cases h1 : n < 2 ∨ 12 < n
 ·have e : placeE n l = 3 := by unfold placeE; rw [if_pos h1]
  have d : (decide (n < 2) || decide (12 < n)) = true := by simpa using h1
  rw [e]
  clear e h1
  go_enter Tryz.func10, Tryz.ntmps10
  go_wp2_with fail
  refine (HO.out _ _ _ _).mono ?_
  rw [d]
  rintro e w' ⟨rfl, rfl⟩
  go_wp2_with fail
  go_ret
  exact ⟨rfl, Below.refl _ _⟩
 have d : (decide (n < 2) || decide (12 < n)) = false := by simp; omega
 have hn2 : 2 ≤ n := by omega
 have hn12 : n ≤ 12 := by omega
 by_cases h2 : (l.length : Int) = n
 ·have hE : placeE n l = if l.any colB then 3 else 0 := by unfold placeE; rw [if_neg h1, if_neg (fun h => h h2)]
  have d2 : ((l.length : Int) != n) = false := by simp [h2]
  obtain ⟨m, hm2⟩ : ∃ m, m = placeE n l := ⟨_, rfl⟩
  rw [← hm2] at hE ⊢
  subst h2
  have HE := hid hE; clear hE hm2 h1
  go_enter Tryz.func10, Tryz.ntmps10
  go_wp2_with fail
  refine (HO.out _ _ _ _).mono ?_
  rw [d]
  rintro e w' ⟨rfl, rfl⟩
  go_wp2_with fail
  go_loopw [5] (fun i wr => ∃ k : Nat, k ≤ l.length ∧ i = .int .i64 k ∧ (l.take k).any colB = false ∧ Below w.heap.size w wr) (fun i _ => l.length - (intOf i).toNat)
  case atStart => exact ⟨0, by omega, rfl, rfl, Below.refl _ _⟩
  case round =>
   obtain ⟨k, hk, rfl, hno, hbr⟩ := hrel
   have hR := hS.below hbr
   by_cases hlt : k < l.length
   ·have ht : l.take (k + 1) = l.take k ++ [atD 0 l k] := by rw [List.take_succ_eq_append_getElem hlt]; simp [atD, hlt]
    have HT := hid ht; clear ht
    have HNO := hid hno; clear hno
    have hx3 : atD 0 l k ∈ l := atD_mem hlt
    obtain ⟨x, hx⟩ : ∃ x, x = atD 0 l k := ⟨_, rfl⟩
    have HX := hid hx
    have e1 : (decide (x < 0) || decide (7 < x)) = colB x := rfl
    have ho0 : colB x = colB (atD 0 l k) := by rw [← hx]
    clear hx
    cases ho : colB x with
    | true =>
     rw [ho] at e1 ho0
     have hm3 : m = 3 := by
      rw [HE.out, if_pos]
      rw [List.any_eq_true]
      exact ⟨_, hx3, ho0.symm⟩
     have HM := hid hm3; have E1 := hid e1; clear hm3 ho0 hx3 e1 ho
     go_wp2_with ((with_reducible refine wpList_idx _ 0 E_ints F_int cInt1 wU wU (hR) oD oD (fun _ => wU) (fun _ => ?_)); rw [← HX.out])
     refine (HO.out _ _ _ _).mono ?_
     rw [E1.out]
     rintro e w' ⟨rfl, rfl⟩
     go_wp2_with fail
     go_ret
     exact ⟨by rw [HM.out]; rfl, hbr⟩
    | false =>
     rw [ho] at e1 ho0
     have hno2 : (l.take (k + 1)).any colB = false := by rw [HT.out, List.any_append, HNO.out]; simp [← ho0]
     have HN2 := hid hno2; have E1 := hid e1; clear hno2 ho0 hx3 e1 ho
     go_wp2_with ((with_reducible refine wpList_idx _ 0 E_ints F_int cInt1 wU wU (hR) oD oD (fun _ => wU) (fun _ => ?_)); rw [← HX.out])
     refine (HO.out _ _ _ _).mono ?_
     rw [E1.out]
     rintro e w' ⟨rfl, rfl⟩
     go_wp2_with fail
     go_roundw
     case rel => exact ⟨k + 1, by omega, by go_num, HN2.out, hbr⟩
     case measure => simp [intOf]; omega
   ·have : k = l.length := by omega
    subst this
    rw [List.take_length] at hno
    have hm3 : m = 0 := by rw [HE.out, hno]; rfl
    have HM := hid hm3; clear hm3 hno
    go_wp2_with fail
    go_ret
    exact ⟨by rw [HM.out]; rfl, hbr⟩
 ·have e : placeE n l = 2 := by unfold placeE; rw [if_neg h1, if_pos h2]
  have d2 : ((l.length : Int) != n) = true := by simp [h2]
  rw [e]
  clear e h1 h2
  go_enter Tryz.func10, Tryz.ntmps10
  go_wp2_with fail
  refine (HO.out _ _ _ _).mono ?_
  rw [d]
  rintro e w' ⟨rfl, rfl⟩
  go_wp2_with fail
  go_ret
  exact ⟨rfl, Below.refl _ _⟩
end Go.Proofs.YtglpfpdomnllkaaGreat

namespace Go.Proofs.YtglpfpdomnllkaaGreat
open Go.RowKit
set_option maxHeartbeats 4000000
set_option maxRecDepth 100000
theorem pwhen_any (b : Bool) (e : Int) (w : World) :
  Calls Tryz.prog 150 #[.bool b, .int .i64 e] w fun r w' => r = .returned (.int .i64 (if b then e else 0)) ∧ w = w' := by
 cases b
 ·go_enter Tryz.func150, Tryz.ntmps150
  go_wp2
  go_ret
  exact ⟨rfl, rfl⟩
 ·go_enter Tryz.func150, Tryz.ntmps150
  go_wp2
  go_ret
  exact ⟨rfl, rfl⟩

theorem pfirst_any (a : Option Addr) (cap : Nat) (l : List Int) (w : World) (h : Ints w a cap l) :
  Calls Tryz.prog 60 #[.slice a l.length cap] w fun r w' => r = .returned (.int .i64 (firstE l)) ∧ w = w' := by
 have hcap := h.le
 have hm := h.max
 go_enter Tryz.func60, Tryz.ntmps60
 go_wp2
 go_loop [7] (fun i => ∃ k : Nat, k ≤ l.length ∧ i = .int .i64 k ∧ firstE (l.drop k) = firstE l) (fun i => l.length - (intOf i).toNat)
 case atStart => exact ⟨0, by omega, rfl, by simp⟩
 case round =>
  obtain ⟨k, hk, rfl, hf⟩ := hrel
  by_cases hlt : k < l.length
  ·have hs := firstE_drop l k hlt
   have HF := hid hf; clear hf
   have HS := hid hs; clear hs
   go_wp2_with (with_reducible refine wpList_idx _ 0 E_errs F_err cInt1 wU wU (h) oD oD (fun _ => wU) (fun _ => ?_))
   ·go_ret
    have h1 : (atD 0 l k != 0) = true := by assumption
    refine ⟨?_, rfl⟩
    have := HS.out; rw [HF.out, h1, if_pos rfl] at this; rw [this]; rfl
   ·go_round
    case rel =>
     have h1 : (atD 0 l k != 0) = false := by assumption
     refine ⟨k + 1, by omega, by go_num, ?_⟩
     have := HS.out; rw [HF.out, h1] at this; exact this.symm
    case measure => simp [intOf]; omega
  ·have : k = l.length := by omega
   subst this
   rw [firstE_end] at hf
   have HF := hid hf; clear hf
   go_wp2
   go_ret
   exact ⟨by rw [← HF.out]; rfl, rfl⟩


theorem pwithin_ok (n a b : Int) (w : World) (h1 : a ≤ n) (h2 : n ≤ b) : Calls Tryz.prog 116 #[.int .i64 n, .int .i64 a, .int .i64 b] w fun r w' => r = .returned (.int .i64 0) ∧ w = w' := by
 have d1 : decide (n < a) = false := decide_eq_false (by omega)
 have d2 : decide (b < n) = false := decide_eq_false (by omega)
 clear h1 h2
 go_enter Tryz.func116, Tryz.ntmps116
 go_wp2_with (go_at_call 150; refine (pwhen_any _ _ _).mono ?_; rintro e w' ⟨rfl, rfl⟩)
 go_ret
 exact ⟨rfl, rfl⟩
theorem pstrands_ok (n : Int) (w : World) (h1 : 2 ≤ n) (h2 : n ≤ 12) : Calls Tryz.prog 149 #[.int .i64 n] w fun r w' => r = .returned (.int .i64 0) ∧ w = w' := by
 go_enter Tryz.func149, Tryz.ntmps149
 go_wp2_with (go_at_call 116; refine (pwithin_ok _ _ _ _ (by omega) (by omega)).mono ?_; rintro e w' ⟨rfl, rfl⟩)
 go_ret
 exact ⟨rfl, rfl⟩
theorem prows_ok (n : Int) (w : World) (h1 : 1 ≤ n) (h2 : n ≤ 24) : Calls Tryz.prog 62 #[.int .i64 n] w fun r w' => r = .returned (.int .i64 0) ∧ w = w' := by
 go_enter Tryz.func62, Tryz.ntmps62
 go_wp2_with (go_at_call 116; refine (pwithin_ok _ _ _ _ (by omega) (by omega)).mono ?_; rintro e w' ⟨rfl, rfl⟩)
 go_ret
 exact ⟨rfl, rfl⟩
theorem pscheme1 (n x : Int) (b : Nat) (w : World) (hn : 1 ≤ n ∧ n ≤ 12) (h : outB n x = false) (hc : w.cell? ⟨b, 0, none⟩ = some (.int .i64 n)) :
  Calls Tryz.prog 148 #[.int .i64 x, .pointer (some ⟨b, 0, none⟩)] w fun r w' => r = .returned (.bool false) ∧ w = w' := by
 have d0 : (x == 0) = false := by cases e : (x == 0) with | false => rfl | true => unfold outB at h; rw [e] at h; cases h
 have d1 : decide (x ≤ -n) = false := by cases e : decide (x ≤ -n) with | false => rfl | true => unfold outB at h; rw [d0, e] at h; cases h
 have d2 : decide (n ≤ x) = false := by cases e : decide (n ≤ x) with | false => rfl | true => unfold outB at h; rw [d0, d1, e] at h; cases h
 have hw : IntKind.i64.wrap (-n) = -n := IntWalk.i64_in _ (by omega)
 clear h hn
 go_enter Tryz.func148, Tryz.ntmps148
 go_wp2
 go_ret
 exact ⟨rfl, rfl⟩
theorem pcolour_ok (x : Int) (w : World) (h0 : 0 ≤ x) (h1 : x ≤ 7) : Calls Tryz.prog 180 #[.int .i64 x] w fun r w' => r = .returned (.bool true) ∧ w = w' := by
 have d1 : decide (0 ≤ x) = true := decide_eq_true h0
 have d2 : decide (x < 8) = true := decide_eq_true (by omega)
 go_enter Tryz.func180, Tryz.ntmps180
 go_wp2
 go_ret
 exact ⟨rfl, rfl⟩
theorem pno1 (x : Int) (w : World) (h0 : 0 ≤ x) (h1 : x ≤ 7) : Calls Tryz.prog 179 #[.int .i64 x] w fun r w' => r = .returned (.bool false) ∧ w = w' := by
 go_enter Tryz.func179, Tryz.ntmps179
 go_wp2_with (go_at_call 180; refine (pcolour_ok x _ h0 h1).mono ?_; rintro e w' ⟨rfl, rfl⟩)
 go_ret
 exact ⟨rfl, rfl⟩
theorem idxSch (n : Int) (b : Nat) (a : Option Addr) (cap : Nat) (l : List Int) (w : World) (hS : Ints w a cap l) (h1 : (1 ≤ n ∧ n ≤ 12) ∧ ∀ x ∈ l, outB n x = false) (hc : w.cell? ⟨b, 0, none⟩ = some (.int .i64 n)) :
  Calls Tryz.prog 163 #[.slice a l.length cap, .func (.func 148) #[] #[.pointer (some ⟨b, 0, none⟩)]] w fun r w' => r = .returned (.int .i64 (-1)) ∧ w = w' := by
 have hcap := hS.le
 have hm := hS.max
 have HC := hid (fun (k : Nat) (h : k < l.length) => pscheme1 n (atD 0 l k) b w h1.1 (h1.2 _ (atD_mem h)) hc)
 go_enter Tryz.func163, Tryz.ntmps163
 go_wp2_with fail
 go_loop [8, 5] (fun i _ => ∃ k : Nat, k ≤ l.length ∧ i = .int .i64 k) (fun i _ => l.length - (intOf i).toNat)
 case atStart => exact ⟨0, by omega, rfl⟩
 case round =>
  obtain ⟨k, hk, rfl⟩ := hrel
  by_cases hlt : k < l.length
  ·go_wp2_with (first | (with_reducible refine wpList_idx _ 0 E_ints F_int cInt1 wU wU (hS) oD oD (fun _ => wU) (fun _ => ?_)) | (go_at_call 148; refine (HC.out k hlt).mono ?_; rintro e w' ⟨rfl, rfl⟩))
   exact ⟨⟨k + 1, by omega, by go_num⟩, by simp [intOf]; omega⟩
  ·go_wp2_with fail
   go_ret
   exact ⟨rfl, rfl⟩
theorem conSch (n : Int) (b : Nat) (a : Option Addr) (cap : Nat) (l : List Int) (w : World) (hS : Ints w a cap l) (h1 : (1 ≤ n ∧ n ≤ 12) ∧ ∀ x ∈ l, outB n x = false) (hc : w.cell? ⟨b, 0, none⟩ = some (.int .i64 n)) :
  Calls Tryz.prog 119 #[.slice a l.length cap, .func (.func 148) #[] #[.pointer (some ⟨b, 0, none⟩)]] w fun r w' => r = .returned (.bool false) ∧ w = w' := by
 go_enter Tryz.func119, Tryz.ntmps119
 go_wp2_with (go_at_call 163; refine (idxSch n b a cap l _ hS h1 hc).mono ?_; rintro e w' ⟨rfl, rfl⟩)
 go_ret
 exact ⟨rfl, rfl⟩
theorem idxCol (a : Option Addr) (cap : Nat) (l : List Int) (w : World) (hS : Ints w a cap l) (h1 : ∀ x ∈ l, 0 ≤ x ∧ x ≤ 7) :
  Calls Tryz.prog 163 #[.slice a l.length cap, .func (.func 179) #[] #[]] w fun r w' => r = .returned (.int .i64 (-1)) ∧ w = w' := by
 have hcap := hS.le
 have hm := hS.max
 have HC := hid (fun (k : Nat) (h : k < l.length) => pno1 (atD 0 l k) w (h1 _ (atD_mem h)).1 (h1 _ (atD_mem h)).2)
 go_enter Tryz.func163, Tryz.ntmps163
 go_wp2_with fail
 go_loop [8, 5] (fun i _ => ∃ k : Nat, k ≤ l.length ∧ i = .int .i64 k) (fun i _ => l.length - (intOf i).toNat)
 case atStart => exact ⟨0, by omega, rfl⟩
 case round =>
  obtain ⟨k, hk, rfl⟩ := hrel
  by_cases hlt : k < l.length
  ·go_wp2_with (first | (with_reducible refine wpList_idx _ 0 E_ints F_int cInt1 wU wU (hS) oD oD (fun _ => wU) (fun _ => ?_)) | (go_at_call 179; refine (HC.out k hlt).mono ?_; rintro e w' ⟨rfl, rfl⟩))
   exact ⟨⟨k + 1, by omega, by go_num⟩, by simp [intOf]; omega⟩
  ·go_wp2_with fail
   go_ret
   exact ⟨rfl, rfl⟩
theorem conCol (a : Option Addr) (cap : Nat) (l : List Int) (w : World) (hS : Ints w a cap l) (h1 : ∀ x ∈ l, 0 ≤ x ∧ x ≤ 7) :
  Calls Tryz.prog 119 #[.slice a l.length cap, .func (.func 179) #[] #[]] w fun r w' => r = .returned (.bool false) ∧ w = w' := by
 go_enter Tryz.func119, Tryz.ntmps119
 go_wp2_with (go_at_call 163; refine (idxCol a cap l _ hS h1).mono ?_; rintro e w' ⟨rfl, rfl⟩)
 go_ret
 exact ⟨rfl, rfl⟩
theorem pNoColour (a : Option Addr) (cap : Nat) (l : List Int) (w : World) (hS : Ints w a cap l) (h1 : ∀ x ∈ l, 0 ≤ x ∧ x ≤ 7) :
  Calls Tryz.prog 161 #[.slice a l.length cap] w fun r w' => r = .returned (.bool false) ∧ w = w' := by
 go_enter Tryz.func161, Tryz.ntmps161
 go_wp2_with (go_at_call 119; refine (conCol a cap l _ hS h1).mono ?_; rintro e w' ⟨rfl, rfl⟩)
 go_ret
 exact ⟨rfl, rfl⟩
theorem pCheckScheme (n : Int) (a : Option Addr) (cap : Nat) (l : List Int) (w : World) (hS : Ints w a cap l) (h : SchOk n l) :
  Calls Tryz.prog 102 #[.int .i64 n, .slice a l.length cap] w fun r w' => r = .returned (.int .i64 0) ∧ Below w.heap.size w w' := by
 have hlo := h.lo
 have hhi := h.hi
 have hall : ∀ x ∈ l, outB n x = false := fun x hx => by have := (List.any_eq_false.1 h.out) x hx; simpa using this
 have d1 : ((l.length : Int) == 0) = false := beq_eq_false_iff_ne.2 (by have := h.pos; omega)
 have d2 : decide (24 < (l.length : Int)) = false := decide_eq_false (by have := h.le; omega)
 have HC := hid (fun w hS b hc => conSch n b a cap l w hS ⟨⟨by omega, hhi⟩, hall⟩ hc)
 have hz := hS.alloc (.cells #[.int .i64 n] 3)
 clear h hall
 go_enter Tryz.func102, Tryz.ntmps102
 go_wp2_with (first | (go_at_call 119; refine (HC.out _ hz _ (by simp [go_sem])).mono ?_; rintro e w' ⟨rfl, rfl⟩) | (go_at_call 149; refine (pstrands_ok _ _ (by omega) (by omega)).mono ?_; rintro e w' ⟨rfl, rfl⟩) | (go_at_call 150; refine (pwhen_any _ _ _).mono ?_; rintro e w' ⟨rfl, rfl⟩) | (go_at_call 60; refine (pfirst_any _ _ [_, _, _, _] _ (reps_newN cIntS [_, _, _, _] 4 rfl (by decide) _ _ (by simp) rfl)).mono ?_; rintro e w' ⟨rfl, rfl⟩))
 go_ret
 exact ⟨rfl, bal (bal (Below.refl _ _) _) _⟩
theorem pCheckPlacing (n : Int) (a : Option Addr) (cap : Nat) (l : List Int) (w : World) (hS : Ints w a cap l) (h : PlcOk n l) :
  Calls Tryz.prog 115 #[.int .i64 n, .slice a l.length cap] w fun r w' => r = .returned (.int .i64 0) ∧ Below w.heap.size w w' := by
 have hlo := h.lo
 have hhi := h.hi
 have d1 : ((l.length : Int) != n) = false := by rw [h.len]; simp
 have HC := hid (fun w hS => pNoColour a cap l w hS h.rng)
 clear h
 go_enter Tryz.func115, Tryz.ntmps115
 go_wp2_with (first | (go_at_call 161; refine (HC.out _ hS).mono ?_; rintro e w' ⟨rfl, rfl⟩) | (go_at_call 149; refine (pstrands_ok _ _ (by omega) (by omega)).mono ?_; rintro e w' ⟨rfl, rfl⟩) | (go_at_call 150; refine (pwhen_any _ _ _).mono ?_; rintro e w' ⟨rfl, rfl⟩) | (go_at_call 60; refine (pfirst_any _ _ [_, _, _] _ (reps_newN cIntS [_, _, _] 3 rfl (by decide) _ _ (by simp) rfl)).mono ?_; rintro e w' ⟨rfl, rfl⟩))
 go_ret
 exact ⟨rfl, bal (Below.refl _ _) _⟩
theorem pCheckPlaced (n : Int) (a a2 : Option Addr) (cap cap2 : Nat) (l c : List Int) (w : World) (hS : Ints w a cap l) (hC : Ints w a2 cap2 c) (h : SchOk n l) (h2 : PlcOk n c) :
  Calls Tryz.prog 61 #[.int .i64 n, .slice a l.length cap, .slice a2 c.length cap2] w fun r w' => r = .returned (.int .i64 0) ∧ Below w.heap.size w w' := by
 have HS := hid (fun w hS => pCheckScheme n a cap l w hS h)
 have HP := hid (fun w hS => pCheckPlacing n a2 cap2 c w hS h2)
 clear h h2
 go_enter Tryz.func61, Tryz.ntmps61
 go_wp2_with fail
 refine (HS.out _ hS).mono ?_
 rintro e w1 ⟨rfl, b1⟩
 go_wp2_with fail
 refine (HP.out _ (hC.below b1)).mono ?_
 rintro e w2 ⟨rfl, b2⟩
 go_wp2_with (go_at_call 60; refine (pfirst_any _ _ [_, _] _ (reps_newN cIntS [_, _] 2 rfl (by decide) _ _ (by simp) rfl)).mono ?_; rintro e w' ⟨rfl, rfl⟩)
 go_ret
 exact ⟨rfl, bnext b1 (bal b2 _)⟩
end Go.Proofs.YtglpfpdomnllkaaGreat
