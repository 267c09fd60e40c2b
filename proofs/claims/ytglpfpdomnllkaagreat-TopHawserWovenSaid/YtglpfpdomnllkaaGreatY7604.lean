/- Contracts and plain facts that the claim uses (LkA BpA LwZ OpM LmA HvP Hv1 Hv). Conditions: as each one states. -/
import Derived.RangeFuncNested
import Derived.RangeFuncBound
import Derived.RangeFuncCalls
import Derived.RangeFuncLeaves
import Derived.RangeFuncFrom
import Derived.Shelf.Abstract
import Derived.Shelf.RegionOpen
import Derived.WalkKit
import Derived.OwnWalkIn
import Derived.TacticsInMore
import Derived.LoopNIn
import Derived.LoopIn
import Derived.Test.YtglpfpdomnllkaaGreatProg
import Derived.WalkSpells
import Derived.Maps.AppendAt
import Derived.Deep.Quiet
import Derived.Maps.Own
import Derived.Maps.OwnSet
import Derived.Maps.Views
import Derived.WalkLawsBesides
import Derived.Laws.EntriesVeiled
import Derived.Deep.QuietTactic
import Derived.BigQuiet
import Derived.StillTail
import Derived.Laws.Tables
import Derived.Deep.RegionHeld3
import Derived.Shelf.Strings.Trim
import Derived.Shelf.Strings.SlTrimAscii
import Derived.Shelf.Strings.Repeat
import Derived.Shelf.Strings.OnBuilder
import Derived.Shelf.Strconv.Itoa1
import Derived.Shelf.Strconv.Itoa3
import Derived.Shelf.LaysM
import Derived.Ground.Names2Prog
import Derived.Lib.OthersKept
import Derived.Deep.AppendLies
import Derived.Deep.RegionHeldLaw
import Derived.Deep.RegionLaw
import Derived.IntWalk
import Derived.Laws.CopyOwn
import Derived.BigRegion
import Derived.ChangeAlike
import Derived.Shelf.Bits.Mul64
import Derived.Lib.ItoaLen
import Derived.Lib.ItoaMem
import Derived.Sort.LoopGhostIn
import Derived.Maps.RangeWalk
import Derived.Sort.QuietThIn
import Derived.Maps.Ext
import Derived.Deep.LoopGhost
import Derived.Test.YtglpfpdomnllkaaGreatRows
import Derived.Test.YtglpfpdomnllkaaGreatChecked
import Derived.ProofKit
import Derived.OpenShut
import Derived.Deep.DeepHandedRow
import Derived.ReadAgain
import Derived.ChangeSlices
import Derived.Lib.SmallJoins
import Derived.Deep.SlicePairs
import Derived.Lib.Split
import Derived.Lib.AtoiAll
import Derived.Lib.AppendIntMem
import Derived.LaidSub
import Derived.Lib.LaidTab
import Derived.Lib.AtoiErrMem
import Derived.Stop.LaidErr
import Derived.Laws.IdiomStrings
import Derived.Test.YtglpfpdomnllkaaGreatXz01
import Derived.Test.YtglpfpdomnllkaaGreatXz02
import Derived.Test.YtglpfpdomnllkaaGreatXz03
import Derived.Test.YtglpfpdomnllkaaGreatXz04
import Derived.Test.YtglpfpdomnllkaaGreatXz05
import Derived.Test.YtglpfpdomnllkaaGreatXz06
import Derived.Test.YtglpfpdomnllkaaGreatXz07
import Derived.Test.YtglpfpdomnllkaaGreatXz08
import Derived.Test.YtglpfpdomnllkaaGreatXz09
import Derived.Test.YtglpfpdomnllkaaGreatXz10
import Derived.Test.YtglpfpdomnllkaaGreatXz11
import Derived.Test.YtglpfpdomnllkaaGreatXz12
import Derived.Test.YtglpfpdomnllkaaGreatY7601
import Derived.Test.YtglpfpdomnllkaaGreatY7602
import Derived.Test.YtglpfpdomnllkaaGreatY7603
set_option linter.all false

namespace Go.Proofs.YtglpfpdomnllkaaGreat
open Go.RowKit Go.Shelf
attribute [local go_sem] Oper.semAt_some
set_option maxHeartbeats 8000000
set_option maxRecDepth 100000
def linkF' (n : Nat) (pre : List (CrS n)) : List (List Int) := pre.foldl (fun M c => addM M c.1.2.1 c.1.2.2 (sgnI c.1.1)) (zeroM n)
theorem linkF_snoc {n : Nat} (pre : List (CrS n)) (x : CrS n) : linkF' n (pre ++ [x]) = addM (linkF' n pre) x.1.2.1 x.1.2.2 (sgnI x.1.1) := by simp [linkF']
theorem linkF_end {n : Nat} {ws : List Int} (ys : List (CrS n)) (h : ys.map (·.1) = csB (idL n) ws) : linkF' n ys = linkL n ws := by
 unfold linkL
 rw [link_fold, ← h, linkF', List.foldl_map]
theorem linkF_ok {n : Nat} : ∀ (pre : List (CrS n)), Mx n (linkF' n pre) ∧ MxB (linkF' n pre) (2 * pre.length) := by
 have key : ∀ (pre : List (CrS n)) (M : List (List Int)) (c : Int), Mx n M → MxB M c → Mx n (pre.foldl (fun M c => addM M c.1.2.1 c.1.2.2 (sgnI c.1.1)) M) ∧ MxB (pre.foldl (fun M c => addM M c.1.2.1 c.1.2.2 (sgnI c.1.1)) M) (c + 2 * pre.length) := by
  intro pre
  induction pre with
  | nil => intro M c h1 h2; exact ⟨h1, by simpa using h2⟩
  | cons x r ih =>
   intro M c h1 h2
   obtain ⟨_, ha, hb, _⟩ := x.2
   have h3 := addM_mx h1 (a := x.1.2.1) (b := x.1.2.2) (by omega) (by omega) (sgnI x.1.1)
   have h4 := addE_b (addE_b h2 x.1.2.1 x.1.2.2 (sgnI_b x.1.1)) x.1.2.2 x.1.2.1 (sgnI_b x.1.1)
   obtain ⟨h5, h6⟩ := ih (addM M x.1.2.1 x.1.2.2 (sgnI x.1.1)) (c + 2) h3 (by
    have : c + 2 = c + 1 + 1 := by omega
    rw [this]; exact h4)
   refine ⟨h5, ?_⟩
   rw [List.length_cons]
   have : c + 2 * ((r.length + 1 : Nat) : Int) = c + 2 + 2 * (r.length : Int) := by omega
   rw [this]
   exact h6
 intro pre
 have := key pre (zeroM n) 0 (zeroM_mx n) (zeroM_b n)
 simpa [linkF'] using this
section
variable {P : Program} {ops : Array Oper} {rest : List Oper} {a : Act} {Qa : Act → Prop} {C : World → Prop} {bytes : Nat} {t e : TypeId} {z : Value} {cap n g : Nat} {k : Int}
/-- an index of a slice, in a quiet region. -/
theorem wpB_ix {d1 : Tmp} {ty1 : TypeId} {p1 : String} {s x : Operand} {af1 : Array Edge} (E : ETy P t e z 1 bytes) (hs : a.eval s = .slice (some ⟨g, 0, none⟩) n cap) (hx : a.eval x = .int .i64 k) (h0 : 0 ≤ k) (hlt : k < n)
   (hK : wpQuiet P ops C Qa rest (a.put (some d1) (.pointer (some ⟨g, k.toNat, none⟩)))) :
   wpQuiet P ops C Qa (⟨some d1, .indexAddr t s x, ty1, p1, af1, none⟩ :: rest) a := by
 refine wpQ_in (.pointer (some ((⟨g, 0, none⟩ : Addr).add (k.toNat * 1)))) rfl (fun w' hw' => ?_) ?_
 ·have h1 := run_indexAt_sl (P := P) (a := ⟨g, 0, none⟩) (cap := cap) w' E h0 hlt
  simp [execOp, hs, hx, h1, Result.andThen]
 ·rw [Addr.add_z]
  simpa using hK
end
/-- what braid.link holds while it ranges. -/
def linkI (w : World) (Pb G n : Nat) (H : List SlH) (M : List (List Int)) (W : World) : Prop :=
 SL w.heap.size w W ([pBlk Pb (.cells #[.slice (some ⟨G, 0, none⟩) n n] 39), pOwn cSl 1 22 (.slice (some ⟨G, 0, none⟩) n n) H] ++ (mxQ H M).map inP)
theorem linkI_ahead {α : Type} {w : World} {Pb G n C : Nat} {H : List SlH} (hC : w.heap.size ≤ C) (hP : Pb < C) (hG : G < C) (hH : ∀ h ∈ H, ∀ b, (cSl h).ownBlock = some b → b < C) (f : List α → List (List Int)) : AheadOf C (fun pre W => linkI w Pb G n H (f pre) W) := fun s A W row h hg hr =>
 SL.ahead h hg hr hC (by
  intro p hp W b hb
  rcases List.mem_append.1 hp with hp | hp
  ·simp only [List.mem_cons, List.not_mem_nil, or_false] at hp
   rcases hp with rfl | rfl
   ·obtain ⟨h1, h2⟩ := hb; cases h1; exact hP
   ·obtain ⟨h1, h2⟩ := hb; cases h2; exact hG
  ·obtain ⟨q, hq, rfl⟩ := List.mem_map.1 hp
   obtain ⟨h1, h2⟩ := hb
   exact hH q.1 (List.of_mem_zip hq).1 b h2)
theorem zip_back : ∀ (qs : List (SlH × List Int)), (qs.map Prod.fst).zip (qs.map Prod.snd) = qs
 | [] => rfl
 | (a, b) :: r => by simp [zip_back r]
theorem link_any5 (ad : Option Addr) (cap n : Nat) (ws : List Int) (w : World) (hn : 1 ≤ n) (hn2 : n ≤ 100) (hl : ws.length ≤ 1048576) (hf : ∀ x ∈ ws, 1 ≤ absI x ∧ absI x < (n : Int)) (hS : Ints w ad cap ws) :
  Calls Tryz.prog 70 #[.int .i64 n, .slice ad ws.length cap] w fun r w' => ∃ (v : Value) (H : List SlH), r = .returned v ∧ H.length = n ∧ SL w.heap.size w w' ([pOwn cSl 1 22 v H] ++ (mxQ H (linkL n ws)).map inP) := by
 refine callsIn_wide.1 (callsIn_of_wp_marks (n := 9) (F := Fence.wide) Tryz.func70 rfl trivial ?_ rfl)
 simp only [Tryz.ntmps70, List.size_toArray, List.length_cons, List.length_nil, Nat.reduceAdd, Nat.reduceSub, Array.replicate_succ, Array.replicate_zero, List.push_toArray, List.append_toArray, List.nil_append, List.cons_append]
 refine wpIn_wide.2 ?_
 have hS0 := SL.nil w
 go_wp2_with ((with_reducible refine wpList_makeL (c := cSl) (n) (((none, 0, 0) : SlH)) E_sls cSl1 wU wU (by omega) (by omega) (hS0) ?_); intro ad1 w1 hS1)
 obtain ⟨G, hG, -⟩ := hS1.setOwn cSl1 0 rfl 0 (by omega) (by simp; omega) (none, 0, 0)
 subst hG
 have hGl := ((hS1.own 0 rfl).lt G rfl).2
 have hGlo := ((hS1.own 0 rfl).lt G rfl).1
 have hS2 := hS1.box (.cells #[.slice (some ⟨G, 0, none⟩) n n] 39)
 obtain ⟨Pb, hPb⟩ : ∃ P, P = w1.heap.size := ⟨_, rfl⟩
 rw [← mxH_zero, ← hPb] at hS2
 rw [← hPb] at hGl ⊢
 have hbP : Pb < (w1.alloc (.cells #[.slice (some ⟨G, 0, none⟩) n n] 39)).heap.size := by simp [hPb]
 clear hS1 hS0 hPb
 generalize (w1.alloc (.cells #[.slice (some ⟨G, 0, none⟩) n n] 39)) = wa at *
 have HS := hid hS; have HF := hid hf
 clear hS hf
 go_loopw [13, 6] (fun iv _ wr => ∃ (k : Nat) (qs : List (SlH × List Int)), k ≤ n ∧ iv = .int .i64 k ∧ qs.length = k ∧ qs.map Prod.snd = List.replicate k (List.replicate n 0) ∧ SL w.heap.size w wr (pBlk Pb (.cells #[.slice (some ⟨G, 0, none⟩) n n] 39) :: pOwn cSl 1 22 (.slice (some ⟨G, 0, none⟩) n n) (mxH n k qs) :: qs.map inP)) (fun iv _ _ => n - (intOf iv).toNat)
 case atStart => exact ⟨0, [], by omega, rfl, rfl, rfl, hS2⟩
 case round =>
  obtain ⟨k, qs, hk, rfl, hql, hqs, hSr⟩ := hrel
  by_cases hlt : k < n
  ·have qb := (hSr.blk 0 rfl).1
   have hsl : mxH n k qs = mxH n k qs := rfl
   have HQL := hid hql; have HQS := hid hqs
   have hml := mxH_len hql hk
   obtain ⟨HH, hHH⟩ : ∃ HH, HH = mxH n k qs := ⟨_, rfl⟩
   rw [← hHH] at hSr hml
   have hkH : (k : Int) < (HH.length : Int) := by omega
   have HHH := hid hHH; have HML := hid hml
   clear hql hqs hsl hHH hml hS2
   have kc : ∀ V : World, (Below w.heap.size w V ∧ V.heap[Pb]? = some (.cells #[.slice (some ⟨G, 0, none⟩) n n] 39)) → V.cell? ⟨Pb, 0, none⟩ = some (.slice (some ⟨G, 0, none⟩) n n) := fun V h => by simp [World.cell?, h.2]
   go_wp2_with fail
   refine wp_regionK (C := (fun V => Below w.heap.size w V ∧ V.heap[Pb]? = some (.cells #[.slice (some ⟨G, 0, none⟩) n n] 39))) [0, 1, 2] [_, _, _] 3 (by simp only [List.map_cons, List.map_nil, List.getElem?_toArray]; rfl) rfl kR kR kR (⟨hSr.b.drew, qb⟩) ?_
   refine ⟨_, yieldsK_cellC F_sls (fun V h => kc V h) wU wU, ?_⟩
   go_frame
   refine ⟨.int .i64 (k : Int), yieldsK_val wU (fun w' => by first | (go_simp; done) | (go_simp; rfl)), ?_⟩
   go_frame
   refine ⟨.int .i64 (n : Int), yieldsK_val wU (fun w' => by first | (go_simp; done) | (go_simp; rfl)), ?_⟩
   go_frame
   unfold wpPureK
   have hVd : ({ wr with drawn := wr.drawn + 1 } : World) = wr.drew := rfl
   rw [hVd]
   have hSd := hSr.drew
   have hqd := (hSd.blk 0 rfl).1
   clear hVd hSr
   refine wpAnyC_on [3] kR (by simp) ?_
   simp only [List.forall_mem_cons, List.not_mem_nil, false_implies, implies_true, and_true]
   refine wpOp_of_list (by rw [List.getElem?_toArray]; rfl) ?_
   ((with_reducible refine wpList_makeL (c := cInt) (n) (0) E_ints cInt1 wU wU (by omega) (by omega) (hSd) ?_); intro ad2 w2 hS3)
   refine ⟨⟨hS3.b, (hS3.blk 1 rfl).1⟩, ?_⟩
   go_frame
   obtain ⟨g, eg, -, hcA, hfA, hS4⟩ := hS3.setOwn cSl1 2 rfl (k : Int) (by omega) hkH ((ad2, n, n) : SlH)
   cases eg
   rw [show ((k : Int)).toNat = k by omega] at hcA hfA hS4
   refine wpAnyC_on [4] kR (by simp) ?_
   simp only [List.forall_mem_cons, List.not_mem_nil, false_implies, implies_true, and_true]
   refine wpOp_value (v := .pointer (some ⟨G, k, none⟩)) (w' := w2) (by rw [List.getElem?_toArray]; rfl) wU (by first | (go_simp; done) | (go_simp; rfl) | (simp [execOp, Act.eval, Result.andThen]; done)) ?_
   refine ⟨⟨hS3.b, (hS3.blk 1 rfl).1⟩, ?_⟩
   go_frame
   refine wpAnyC_on [5] kR (by simp) ?_
   simp only [List.forall_mem_cons, List.not_mem_nil, false_implies, implies_true, and_true]
   refine wpOp_of_list (by rw [List.getElem?_toArray]; rfl) ?_
   have hcB : w2.cell? ⟨G, k, none⟩ = some (cSl (HH[k]'(by omega))) := by rw [hcA]; simp [show k < HH.length by omega]
   refine wpList_stoAt (sto_sl ((ad2, n, n) : SlH) _ _) wU wU hcB hfA ?_
   refine ⟨⟨hS4.b, (hS4.blk 1 rfl).1⟩, ?_⟩
   go_frame
   refine wpAnyC_rest [] [] rfl rfl kR kR kR ⟨hS4.b, (hS4.blk 1 rfl).1⟩ ?_
   unfold wpPure
   refine of_wpList_nil (P := Tryz.prog) (ops := #[]) ?_
   have hfin : SL w.heap.size w (w2.setCell ⟨G, k, none⟩ (cSl ((ad2, n, n) : SlH))) (pBlk Pb (.cells #[.slice (some ⟨G, 0, none⟩) n n] 39) :: pOwn cSl 1 22 (.slice (some ⟨G, 0, none⟩) n n) (mxH n (k + 1) (qs ++ [((ad2, n, n), List.replicate n 0)])) :: (qs ++ [((ad2, n, n), List.replicate n 0)]).map inP) := by
    have e1 := mxH_set HQL.out hlt (((ad2, n, n) : SlH), List.replicate n (0 : Int))
    rw [← HHH.out] at e1
    rw [← e1, List.map_append]
    exact hS4.comm (K := [pOwn cInt 1 3 (.slice ad2 n n) (List.replicate n 0)])
   clear hS4 hS3 hcA hfA
   generalize (w2.setCell ⟨G, k, none⟩ (cSl ((ad2, n, n) : SlH))) = w5 at *
   go_wp2_with fail
   exact ⟨⟨k + 1, qs ++ [((ad2, n, n), List.replicate n 0)], by omega, by go_num, by rw [List.length_append, HQL.out]; rfl, by rw [List.map_append, HQS.out, List.replicate_succ']; rfl, hfin⟩, by simp [intOf]; omega⟩
  ·have hkk : k = n := by omega
   subst hkk
   rw [mxH_full] at hSr
   clear hS2
   go_wp2_with fail
   have hz0 : mxQ (qs.map Prod.fst) (zeroM k) = qs := by unfold mxQ zeroM; rw [← hqs]; exact zip_back qs
   obtain ⟨H, hH⟩ : ∃ H, H = qs.map Prod.fst := ⟨_, rfl⟩
   have hHl : H.length = k := by rw [hH, List.length_map]; exact hql
   have hS3 : linkI w Pb G k H (zeroM k) wr := by
    unfold linkI
    rw [hH, hz0]
    exact hSr
   clear hSr hz0 hH hqs hql hlt hk
   obtain ⟨Pn, hPn⟩ : ∃ P, P = wr.heap.size := ⟨_, rfl⟩
   have hB : ∀ (a : Int) (g n' c : Nat), 0 ≤ a → a < k → atD ((none, 0, 0) : SlH) H a = (some ⟨g, 0, none⟩, n', c) → w.heap.size ≤ g ∧ g < Pn := by
    intro a g n' c a0 a1 e
    obtain ⟨g', c', e', -, h1, h2, -⟩ := mx_row (pre := [_, _]) hS3 hHl (zeroM_mx k) a0 a1
    rw [e] at e'
    cases e'
    exact ⟨h1, by rw [hPn]; exact h2⟩
   have hHb : ∀ h ∈ H, ∀ b, (cSl h).ownBlock = some b → b < Pn := by
    intro h hh b hb
    obtain ⟨i, hi, rfl⟩ := List.getElem_of_mem hh
    obtain ⟨g', c', e', -, h1, h2, -⟩ := mx_row (pre := [_, _]) hS3 hHl (zeroM_mx k) (a := (i : Int)) (by omega) (by omega)
    have e2 : atD ((none, 0, 0) : SlH) H (i : Int) = H[i] := by simp [atD, hi]
    rw [← e2, e'] at hb
    cases hb
    rw [hPn]; exact h2
   have hPbn : Pb < Pn := by rw [hPn]; exact (hS3.blk 0 rfl).2.2
   refine (crossings_any5 ad ws.length cap k _).mono ?_
   rintro e w4 ⟨rfl, rfl⟩
   go_wp2_with fail
   have hS4 := (SL.al hS3 (.cells #[.int .i64 k] 3)).al (.cells #[.slice ad ws.length cap] 22)
   rw [← hPn]
   have cWn : ((wr.alloc (.cells #[.int .i64 k] 3)).alloc (.cells #[.slice ad ws.length cap] 22)).cell? ⟨Pn, 0, none⟩ = some (.int .i64 k) := by
    have h1 := World.alloc_heap_new wr (.cells #[.int .i64 k] 3)
    have h2 := Below.heap_alloc (wr.alloc (.cells #[.int .i64 k] 3)) (.cells #[.slice ad ws.length cap] 22) Pn (by simp [hPn])
    rw [← hPn] at h1
    simp [World.cell?, h2, h1]
   have cWw : ((wr.alloc (.cells #[.int .i64 k] 3)).alloc (.cells #[.slice ad ws.length cap] 22)).cell? ⟨Pn + 1, 0, none⟩ = some (.slice ad ws.length cap) := by
    have h1 := World.alloc_heap_new (wr.alloc (.cells #[.int .i64 k] 3)) (.cells #[.slice ad ws.length cap] 22)
    rw [World.size_alloc, ← hPn] at h1
    simp [World.cell?, h1]
   have hS := HS.out
   have hR4 := hS.below hS4.b
   have hz4 : ((wr.alloc (.cells #[.int .i64 k] 3)).alloc (.cells #[.slice ad ws.length cap] 22)).heap.size = Pn + 2 := by simp [hPn]
   clear hS3 hPn hbP
   generalize ((wr.alloc (.cells #[.int .i64 k] 3)).alloc (.cells #[.slice ad ws.length cap] 22)) = w4 at *
   have hK : ∀ j, crK Pn (Pn + 1) ad ws.length j → j < w4.heap.size := by
    rintro j (rfl | rfl | ⟨h, b, rfl, rfl⟩)
    ·omega
    ·omega
    ·obtain ⟨b', o', hb', hcx⟩ := hR4.cells (by decide) 0 0 h
     have hcx := hcx 0 (.int .i64 (atD 0 ws 0)) rfl
     cases hb'
     exact World.block_lt_of_cell? _ _ hcx
   have hGK : ∀ g, w.heap.size ≤ g → g < Pn → ¬ crK Pn (Pn + 1) ad ws.length g := by
    rintro g hg1 hg2 (h | h | ⟨h, b, rfl, rfl⟩)
    ·omega
    ·omega
    ·obtain ⟨b', o', hb', hcx⟩ := hS.cells (by decide) 0 0 h
     have hcx := hcx 0 (.int .i64 (atD 0 ws 0)) rfl
     cases hb'
     have := World.block_lt_of_cell? _ _ hcx
     have hbk : b' < w.heap.size := this
     exact absurd hbk (Nat.not_lt.2 hg1)
   have hz4l : w4.heap.size ≤ Pn + 2 ∧ Pn + 2 ≤ w4.heap.size := ⟨by omega, by omega⟩
   clear hz4
   have hzw := hS4.z
   have HHL := hid hHl; have HB := hid hB; have HGK := hid hGK
   clear hHl hB hGK hS
   refine (wpIn_wide (n := 9)).1 ?_
   refine rangeFunc_cells rfl (by decide) (gf := 164) (lb := #[.pointer (some ⟨Pn, 0, none⟩), .pointer (some ⟨Pn + 1, 0, none⟩)]) rfl trivial (enters_of Tryz.func164 kR rfl)
    (crossings_cells 8 Pn (Pn + 1) cap ad k ws (by omega) hl HF.out (by decide) w4 cWn cWw hR4) hK (Below.refl _ _) (fun _ => rfl)
    (fun pre W => linkI w Pb G k H (linkF' k pre) W) (linkI_ahead hzw (by omega) (by omega) (fun h hh b hb => by have := hHb h hh b hb; omega) _) hS4 ?rnd ?done
   case rnd =>
    as_aux_lemma =>
    intro l pre x W hI hz hlen
    obtain ⟨⟨hx0, hx1⟩, ⟨hxa0, hxa1⟩, ⟨hxb0, hxb1⟩, hxne⟩ := x.2
    have hok := linkF_ok (n := k) pre
    have hsn := linkF_snoc pre x
    obtain ⟨MF, hMF⟩ : ∃ MF, MF = linkF' k (pre ++ [x]) := ⟨_, rfl⟩
    rw [← hMF] at hsn ⊢
    clear hMF
    have hpl : pre.length ≤ 1048576 := by omega
    generalize pre.length = pl at *
    generalize linkF' k pre = M at *
    dsimp only [crV]
    generalize x.1.1 = xl at *
    generalize x.1.2.1 = xa at *
    generalize x.1.2.2 = xb at *
    clear x
    have HXL : Hid (xl ≠ 0) := hid (fun e => by rw [e] at hx0; simp [absI] at hx0)
    have HSG : Hid (∀ w' : World, Calls Tryz.prog 124 #[.int .i64 xl] w' fun e w'' => e = .returned (.int .i64 (sgnI xl)) ∧ Below w'.heap.size w' w'') := hid fun w' => (bsign_any xl w' HXL.out).mono fun e w'' h => ⟨h.1, by rw [← h.2]; exact Below.refl _ _⟩
    unfold linkI at hI
    gi_wp2
    refine ⟨KeepNew.grown (World.grownBy_alloc W _ none) (fun _ h => by cases h), hI.al _, ?_⟩
    intro W2 hg2 hI2
    unfold linkI at hI2
    have hbx : W2.heap[W.heap.size]? = some (.cells #[.int .i64 xa, .int .i64 xb] 60) := (hg2.block _ (by simp) (by simp; omega)).trans (heap_alloc_new W _)
    generalize hbxs : W.heap.size = bx at *
    have HSN := hid hsn
    have HM := hid (⟨hok.1, fun a b => ⟨by have := (hok.2 a b).1; omega, by have := (hok.2 a b).2; omega⟩⟩ : Mx k M ∧ MxB M 2097152)
    have HBX := hid hbxs
    clear hsn hok hbxs hx0 hx1 hxne hI hlen hpl
    apply wpIn_block
    apply wpIn_seq_k
    intro K hK2
    have hRo := hI2.rd 1 rfl
    have qb := (hI2.blk 0 rfl).1
    obtain ⟨ga, ca, eHa, hRa, hgloa, -, -⟩ := mx_row (pre := [_, _]) hI2 HHL.out HM.out.1 hxa0 hxa1
    have hgB := HB.out xa ga k ca hxa0 hxa1 eHa
    have hgK := HGK.out ga hgB.1 hgB.2
    have hHa : xa < (H.length : Int) := by rw [HHL.out]; exact hxa1
    have hrl := mx_getD HM.out.1 (a := xa.toNat) (by omega)
    have hrb : xb < ((M.getD xa.toNat []).length : Int) := by rw [hrl]; exact hxb1
    obtain ⟨rowa, hrowa⟩ : ∃ r, r = M.getD xa.toNat [] := ⟨_, rfl⟩
    rw [← hrowa] at hRa hrl hrb
    have hent := HM.out.2 xa xb
    rw [← hrowa] at hent
    obtain ⟨ent, hentE⟩ : ∃ e, e = atD 0 rowa xb := ⟨_, rfl⟩
    rw [← hentE] at hent
    have hsb := sgnI_b xl
    have hwa : IntKind.i64.wrap (ent + sgnI xl) = ent + sgnI xl := IntWalk.i64_in _ (by omega)
    have HEH := hid eHa; have HRL := hid hrl; have HROW := hid hrowa; have HENT := hid hentE
    clear eHa hrl hrowa hentE hent hsb
    refine wpIn_region_qtR 13 rfl kR kR ?_
    simp only [List.take_succ_cons, List.take_zero, List.drop_succ_cons, List.drop_zero]
    repeat (first | ((with_reducible refine wpB_load F_sls wU wU (by assumption) wU ?_); (try simp only [Act.put, pA, pB, pC])) | (((with_reducible refine wpB_idx2 ((none, 0, 0) : SlH) E_sls F_sl cSl1 wU (HHL.out) wU (hRo) oD oD (fun _ => wU) (fun _ => ?_)); (try simp only [Act.put, pA, pB, pC]); (try simp only [cInt])); rw [HEH.out]) | (((with_reducible refine wpB_idx2 0 E_ints F_int cInt1 wU (HRL.out) wU (hRa) oD oD (fun _ => wU) (fun _ => ?_)); (try simp only [Act.put, pA, pB, pC]); (try simp only [cInt])); rw [← HENT.out]) | ((refine wpB_call (.int .i64 (sgnI xl)) wU (fun w' => ?_) (fun w' hw' => HSG.out w') ?_); (focus (go_simp; done)); (try simp only [Act.put, pA, pB, pC])) | ((with_reducible refine wpB_ix E_ints wU wU hxb0 hxb1 ?_); (try simp only [Act.put, pA, pB, pC])) | ((with_reducible refine wpB_load (by first | exact F_int | fail) wU wU (by assumption) wU ?_); (try simp only [Act.put, pA, pB, pC])) | ((refine wpQ_oneG ?_ wU (fun w' => ?_) ?_); rotate_left; (go_simp; rfl); (try simp only [Act.put, pA, pB, pC])))
    refine wpQuiet_nil ?_
    intro wa hba
    have hIq := hI2.mono hba
    obtain ⟨g', c', e', -, -, hg2', hent⟩ := mx_row (pre := [_, _]) hIq HHL.out HM.out.1 hxa0 hxa1
    rw [HEH.out] at e'
    cases e'
    obtain ⟨hcS, hfS, hstS⟩ := hent xb hxb0 hxb1
    have hI5 := hstS (sgnI xl)
    rw [← HROW.out, ← HENT.out] at hcS
    rw [← HROW.out, ← HENT.out] at hI5
    have gg : W2.grownBy (wa.setCell ⟨ga, xb.toNat, none⟩ (.int .i64 (ent + sgnI xl))) (some ga) := (show World.grownBy _ wa (some ga) from ⟨hba.os, hba.tape, hba.output, hba.size, fun i hi _ => hba.block i hi⟩).trans (grown_setG _ _ _ _)
    clear hent hstS hIq qb hRo hRa hrb hHa
    refine wpList_stoAt (sto_int (ent + sgnI xl) _ _) wU wU hcS hfS ?_
    refine ⟨rfl, hK2 _ _ ?_⟩
    obtain ⟨w5, hw5⟩ : ∃ w5, w5 = wa.setCell ⟨ga, xb.toNat, none⟩ (.int .i64 (ent + sgnI xl)) := ⟨_, rfl⟩
    have hI5' : SL w.heap.size w w5 ([pBlk Pb (.cells #[.slice (some ⟨G, 0, none⟩) k k] 39), pOwn cSl 1 22 (.slice (some ⟨G, 0, none⟩) k k) H] ++ (mxQ H (addE M xa xb (sgnI xl))).map inP) := by rw [hw5]; exact hI5
    have g5 : W2.grownBy w5 (some ga) := by rw [hw5]; exact gg
    show Code.wpIn _ _ _ _ _ _ (wa.setCell ⟨ga, xb.toNat, none⟩ (.int .i64 (ent + sgnI xl)))
    rw [← hw5]
    have hne : bx ≠ ga := by have := HBX.out; omega
    have hbx5 : w5.heap[bx]? = some (.cells #[.int .i64 xa, .int .i64 xb] 60) := (g5.block bx (Array.getElem?_eq_some_iff.1 hbx).1 (fun e => hne (Option.some.inj e))).trans hbx
    have HM5 := hid (⟨addE_mx HM.out.1 (by omega) xb (sgnI xl), by have := addE_b HM.out.2 xa xb (sgnI_b xl); exact this⟩ : Mx k (addE M xa xb (sgnI xl)) ∧ MxB (addE M xa xb (sgnI xl)) (2097152 + 1))
    have gK5 : KeepNew (crK Pn (Pn + 1) ad ws.length) w4.heap.size W2 w5 := KeepNew.grown g5 (fun r e => by cases e; exact ⟨by omega, hgK⟩)
    obtain ⟨M5, hM5⟩ : ∃ M5, M5 = addE M xa xb (sgnI xl) := ⟨_, rfl⟩
    rw [← hM5] at hI5' HM5
    have HM5E := hid hM5
    clear hM5 hI5 hI2 hw5 gg g5 hbx hcS hfS HEH HRL HROW HENT hwa hgK hgB hne
    have hRo := hI5'.rd 1 rfl
    have qb := (hI5'.blk 0 rfl).1
    obtain ⟨gb, cb, eHb, hRb, hglob, -, -⟩ := mx_row (pre := [_, _]) hI5' HHL.out HM5.out.1 hxb0 hxb1
    have hgB := HB.out xb gb k cb hxb0 hxb1 eHb
    have hgK := HGK.out gb hgB.1 hgB.2
    have hHa : xb < (H.length : Int) := by rw [HHL.out]; exact hxb1
    have hrl := mx_getD HM5.out.1 (a := xb.toNat) (by omega)
    have hrb : xa < ((M5.getD xb.toNat []).length : Int) := by rw [hrl]; exact hxa1
    obtain ⟨rowb, hrowb⟩ : ∃ r, r = M5.getD xb.toNat [] := ⟨_, rfl⟩
    rw [← hrowb] at hRb hrl hrb
    have hent := HM5.out.2 xb xa
    rw [← hrowb] at hent
    obtain ⟨ent, hentE⟩ : ∃ e, e = atD 0 rowb xa := ⟨_, rfl⟩
    rw [← hentE] at hent
    have hsb := sgnI_b xl
    have hwb : IntKind.i64.wrap (ent + sgnI xl) = ent + sgnI xl := IntWalk.i64_in _ (by omega)
    have HEH := hid eHb; have HRL := hid hrl; have HROW := hid hrowb; have HENT := hid hentE
    clear eHb hrl hrowb hentE hent hsb
    refine wpIn_region_qtR 13 rfl kR kR ?_
    simp only [List.take_succ_cons, List.take_zero, List.drop_succ_cons, List.drop_zero]
    repeat (first | ((with_reducible refine wpB_load F_sls wU wU (by assumption) wU ?_); (try simp only [Act.put, pA, pB, pC])) | (((with_reducible refine wpB_idx2 ((none, 0, 0) : SlH) E_sls F_sl cSl1 wU (HHL.out) wU (hRo) oD oD (fun _ => wU) (fun _ => ?_)); (try simp only [Act.put, pA, pB, pC]); (try simp only [cInt])); rw [HEH.out]) | (((with_reducible refine wpB_idx2 0 E_ints F_int cInt1 wU (HRL.out) wU (hRb) oD oD (fun _ => wU) (fun _ => ?_)); (try simp only [Act.put, pA, pB, pC]); (try simp only [cInt])); rw [← HENT.out]) | ((refine wpB_call (.int .i64 (sgnI xl)) wU (fun w' => ?_) (fun w' hw' => HSG.out w') ?_); (focus (go_simp; done)); (try simp only [Act.put, pA, pB, pC])) | ((with_reducible refine wpB_ix E_ints wU wU hxa0 hxa1 ?_); (try simp only [Act.put, pA, pB, pC])) | ((with_reducible refine wpB_load (by first | exact F_int | fail) wU wU (by assumption) wU ?_); (try simp only [Act.put, pA, pB, pC])) | ((refine wpQ_oneG ?_ wU (fun w' => ?_) ?_); rotate_left; (go_simp; rfl); (try simp only [Act.put, pA, pB, pC])))
    refine wpQuiet_nil ?_
    intro wb hbb
    have hIq := hI5'.mono hbb
    obtain ⟨g', c', e', -, -, hg2', hent⟩ := mx_row (pre := [_, _]) hIq HHL.out HM5.out.1 hxb0 hxb1
    rw [HEH.out] at e'
    cases e'
    obtain ⟨hcS, hfS, hstS⟩ := hent xa hxa0 hxa1
    have hI5 := hstS (sgnI xl)
    rw [← HROW.out, ← HENT.out] at hcS
    rw [← HROW.out, ← HENT.out] at hI5
    have gg : w5.grownBy (wb.setCell ⟨gb, xa.toNat, none⟩ (.int .i64 (ent + sgnI xl))) (some gb) := (show World.grownBy _ wb (some gb) from ⟨hbb.os, hbb.tape, hbb.output, hbb.size, fun i hi _ => hbb.block i hi⟩).trans (grown_setG _ _ _ _)
    clear hent hstS hIq qb hRo hRb hrb hHa
    refine wpList_stoAt (sto_int (ent + sgnI xl) _ _) wU wU hcS hfS ?_
    refine ⟨rfl, ?_⟩
    refine ⟨rfl, gK5.trans (KeepNew.grown gg (fun r e => by cases e; exact ⟨by omega, hgK⟩)), ?_⟩
    unfold linkI
    rw [HSN.out]
    have e6 : addM M xa xb (sgnI xl) = addE M5 xb xa (sgnI xl) := by unfold addM; rw [HM5E.out]
    rw [e6]
    exact hI5
   case done =>
    intro D ys W hD hys hI hKd
    have hfin := linkF_end ys hys
    unfold linkI at hI
    rw [hfin] at hI
    have hs := hI.addMark (C := w4.heap.size) (by
     intro q hq
     rcases List.mem_append.1 hq with hq | hq
     ·simp only [List.mem_cons, List.not_mem_nil, or_false] at hq
      rcases hq with rfl | rfl
      ·exact okT_cells
      ·exact okT_own
     ·obtain ⟨x, _, rfl⟩ := List.mem_map.1 hq
      exact okT_own) hzw hD hKd
    have hc := hs.cell 1 rfl 0 rfl
    clear hI hfin hys
    dsimp only
    go_wp2_with fail
    refine SL.leave (L := [_, _] ++ (mxQ H (linkL k ws)).map inP) (fun V hV => ⟨.slice (some ⟨G, 0, none⟩) k k, ?_, _, H, rfl, HHL.out, hV.tail⟩) [D] W hs
    simp [results, Tryz.f70, go_sem]
end Go.Proofs.YtglpfpdomnllkaaGreat

namespace Go.Proofs.YtglpfpdomnllkaaGreat
open Go.RowKit
set_option maxHeartbeats 8000000
set_option maxRecDepth 100000
theorem word_rng {n : Nat} {l : List Int} (h : wordE (n : Int) l = 0) : ∀ x ∈ l, 1 ≤ absI x ∧ absI x < (n : Int) := fun x hx => by
 obtain ⟨_, _, _, h4⟩ := wordE_fits h
 have := h4 x hx
 unfold absI
 split <;> omega
theorem bPerm_any (n : Nat) (a : Option Addr) (cap : Nat) (l : List Int) (w : World) (hS : Ints w a cap l) (h : wordE (n : Int) l = 0) :
  Calls Tryz.prog 24 #[.int .i64 n, .slice a l.length cap] w fun r w' => ∃ v, r = .returned (.tuple #[v, .int .i64 0]) ∧ OwnI w.heap.size w' v (permB n l) ∧ Below w.heap.size w w' := by
 obtain ⟨hn1, hn2, hl, _⟩ := wordE_fits h
 have CW := fun w (hS : Ints w a cap l) => CheckWord_any n a cap l w hS (by omega)
 rw [h] at CW
 have HW := hid CW
 have HP := hid (fun w (hS : Ints w a cap l) => perm_any5 a cap n l w (by omega) (by omega) (by omega) (word_rng h) hS)
 have hS0 := SL.nil w
 clear CW h
 go_enter Tryz.func24, Tryz.ntmps24
 go_wp2_with fail
 refine (HW.out _ hS).mono ?_
 rintro e w1 ⟨rfl, b1⟩
 have hS1 := hS0.mono b1
 clear hS0
 go_wp2_with fail
 refine (HP.out _ (hS.below b1)).mono ?_
 rintro e w2 ⟨v2, rfl, ho2, b2⟩
 have hS2 := hS1.call (SL.ofOwn ho2 b2)
 rw [List.append_nil] at hS2
 clear hS1 ho2
 go_wp2_with fail
 go_ret2
 exact ⟨v2, rfl, hS2.own 0 rfl, hS2.b⟩
theorem bLink_any (n : Nat) (a : Option Addr) (cap : Nat) (l : List Int) (w : World) (hS : Ints w a cap l) (h : wordE (n : Int) l = 0) :
  Calls Tryz.prog 25 #[.int .i64 n, .slice a l.length cap] w fun r w' => ∃ (v : Value) (H : List SlH), r = .returned (.tuple #[v, .int .i64 0]) ∧ H.length = n ∧ SL w.heap.size w w' ([pOwn cSl 1 22 v H] ++ (mxQ H (linkL n l)).map inP) := by
 obtain ⟨hn1, hn2, hl, _⟩ := wordE_fits h
 have CW := fun w (hS : Ints w a cap l) => CheckWord_any n a cap l w hS (by omega)
 rw [h] at CW
 have HW := hid CW
 have HP := hid (fun w (hS : Ints w a cap l) => link_any5 a cap n l w (by omega) (by omega) (by omega) (word_rng h) hS)
 have hS0 := SL.nil w
 clear CW h
 go_enter Tryz.func25, Tryz.ntmps25
 go_wp2_with fail
 refine (HW.out _ hS).mono ?_
 rintro e w1 ⟨rfl, b1⟩
 have hS1 := hS0.mono b1
 clear hS0
 go_wp2_with fail
 refine (HP.out _ (hS.below b1)).mono ?_
 rintro e w2 ⟨v2, H, rfl, hH, ho2⟩
 have hS2 := hS1.call ho2
 rw [List.append_nil] at hS2
 clear hS1 ho2
 go_wp2_with fail
 go_ret2
 exact ⟨v2, H, rfl, hH, hS2⟩
end Go.Proofs.YtglpfpdomnllkaaGreat

namespace Go.Proofs.YtglpfpdomnllkaaGreat
open Go.ChangeShapes Go.WideShapes Go.ChangeAt Go.RowKit
set_option maxRecDepth 100000
theorem ownP : ownKnob Tryz.prog.godebug = none := by kernel_rfl
noncomputable def bareWorld (os : Os) : World := World.holding Tryz.prog os ⟨#[], #[], []⟩
theorem g1 : (laidOutB Tryz.prog) = true := by kernel_rfl
theorem g2 : (mapsRowed Tryz.prog) = true := by kernel_rfl
theorem g6 : ((Tryz.prog.stops == [])) = true := by kernel_rfl
theorem g8 : ((Tryz.prog.stopKnobs == [])) = true := by kernel_rfl
theorem g24 : (Tryz.prog.stopsHeard) = true := by kernel_rfl
theorem g25 : (Tryz.prog.mayEnter) = true := by kernel_rfl
end Go.Proofs.YtglpfpdomnllkaaGreat

namespace Go.Proofs.YtglpfpdomnllkaaGreat
open Go.RowKit Go.ChangeShapes Go.WideShapes Go.ChangeAt Go.Joins Go.Deep
set_option maxRecDepth 100000
section
variable {H : Type} {enc : TypeId × Value → H} {W : World}
theorem open_machA {r : Reach} {b0 : Nat} {v : Value} {d : DataW H} {ps : List MemPlace} (hval : Value.okWide Tryz.prog W r b0 24 v) (h : DataW.Trod enc Tryz.prog W 0 (fun _ => true) true 24 v d ps) :
  ∃ (m : MacV) (ad : Option Addr) (cap : Nat), v = mV m ad cap ∧ Ints W ad cap m.sw ∧ InI m.gears ∧ InI m.turn ∧ ∀ x ∈ m.sw, InI x := by
 obtain ⟨v0, v1, v2, v3, y0, y1, y2, y3, n, rfl, _, _, k0, k1, k2, k3⟩ := open_agg4 Tryz.underlying24 kR rfl hval h
 obtain ⟨b, e0, _⟩ := DataW.trod_bool Tryz.underlying4 k0
 obtain ⟨x, e1, _, w1⟩ := DataW.trod_int Tryz.underlying3 k1
 obtain ⟨y, e2, _, w2⟩ := DataW.trod_int Tryz.underlying3 k2
 cases e0; cases e1; cases e2
 rcases open_ints Tryz.underlying22 Tryz.underlying3 cellsInt k3 with ⟨hcs, _⟩ | ⟨a, len', cap', zs, hcs, _, hl, hm, hz, _, hcell, hwz⟩
 ·cases hcs
  exact ⟨⟨b, x, y, []⟩, none, 0, rfl, ints_nil W, inI_wf w1, inI_wf w2, fun x hx => by cases hx⟩
 ·cases hcs
  simp only [if_true] at hz
  have hlen : (zs.take len').length = len' := by simp; omega
  refine ⟨⟨b, x, y, zs.take len'⟩, some a, cap', ?_, ints_of_cells hl hm (by omega) hcell, inI_wf w1, inI_wf w2, fun x hx => ?_⟩
  ·show _ = Value.agg #[_, _, _, .slice _ (zs.take len').length _]
   rw [hlen]
  ·exact inI_wf (hwz x (List.mem_of_mem_take hx))
end
end Go.Proofs.YtglpfpdomnllkaaGreat

namespace Go.Proofs.YtglpfpdomnllkaaGreat
open Go.RowKit
set_option maxHeartbeats 4000000
set_option maxRecDepth 100000
section
variable {P : Program} {ops : Array Oper} {rest : List Oper} {a : Act} {Qa : Act → Prop} {α : Type} {c : α → Value} {sz bytes : Nat} {t e e2 t2 : TypeId} {z : Value} {ad : Option Addr} {cap : Nat} {l : List α} {k : Int} {w : World}
 {d1 d2 d3 : Tmp} {ty1 ty2 ty3 : TypeId} {p1 p2 p3 : String} {s x : Operand} {af1 af2 af3 : Array Edge} {g1 g2 g3 : Option (Nat × Bool)} {j : Nat}
end
/-- an owned matrix, read later: its handles lead to its rows. -/
theorem mx_leads {B : Nat} {w0 w : World} {v : Value} {H : List SlH} {M : List (List Int)} {n : Nat} (h : SL B w0 w ([pOwn cSl 1 22 v H] ++ (mxQ H M).map inP)) (hH : H.length = n) (hM : Mx n M) (hn : n ≤ 1048576) :
  ∃ a c, v = .slice a n c ∧ Reps cSl 1 w a c H ∧ LeadsTo w H M := by
 obtain ⟨a, c, e, hR⟩ := h.slice 0 rfl
 rw [hH] at e
 refine ⟨a, c, e, hR, fun k hk => ?_⟩
 rw [hM.len] at hk
 obtain ⟨g, c', e2, hr, -⟩ := mx_row (pre := [_]) h hH hM (a := (k : Int)) (by omega) (by omega)
 have e3 : M.getD ((k : Int)).toNat [] = atD [] M (k : Int) := rfl
 rw [e3] at hr
 have e4 : (atD [] M (k : Int)).length = n := by rw [← e3]; exact mx_getD hM (by omega)
 exact ⟨some ⟨g, 0, none⟩, c', by rw [e2, e4], hr, by omega⟩
theorem sumGo_ok {n : Nat} : ∀ (cs : List (Int × Int)) (ws : List Int) (M : List (List Int)) (c : Int), (∀ p ∈ cs, (1 ≤ p.1 ∧ p.1 ≤ n) ∧ (1 ≤ p.2 ∧ p.2 ≤ n)) → Mx n M → MxB M c → Mx n (sumGo M cs ws) ∧ MxB (sumGo M cs ws) (c + 2 * cs.length)
 | [], ws, M, c, _, h1, h2 => by cases ws <;> exact ⟨h1, by simpa [sumGo] using h2⟩
 | p :: cs, [], M, c, _, h1, h2 => by
   refine ⟨h1, fun a b => ?_⟩
   have := h2 a b
   simp only [sumGo]
   rw [List.length_cons]
   omega
 | p :: cs, x :: ws, M, c, hp, h1, h2 => by
   obtain ⟨ha, hb⟩ := hp p (by simp)
   rw [sumGo]
   have h3 := addM_mx h1 (a := p.1 - 1) (b := p.2 - 1) (by omega) (by omega) (sgnI x)
   have h4 := addE_b (addE_b h2 (p.1 - 1) (p.2 - 1) (sgnI_b x)) (p.2 - 1) (p.1 - 1) (sgnI_b x)
   obtain ⟨h5, h6⟩ := sumGo_ok cs ws _ (c + 1 + 1) (fun q hq => hp q (by simp [hq])) h3 h4
   refine ⟨h5, ?_⟩
   rw [List.length_cons]
   have : c + 2 * ((cs.length + 1 : Nat) : Int) = c + 1 + 1 + 2 * (cs.length : Int) := by omega
   rw [this]
   exact h6
end Go.Proofs.YtglpfpdomnllkaaGreat

namespace Go.Proofs.YtglpfpdomnllkaaGreat
set_option maxRecDepth 100000
theorem link_ok {k : Nat} {v : List Int} (h : LetRng k v) (hl : v.length ≤ 400) : Mx k (linkL k v) ∧ MxB (linkL k v) 1000 := by
 have h2 := sumGo_ok (n := k) (rowL k v).2 v (zeroM k) 0 (fun p hp => by have := rowL_rng h p hp; exact ⟨this.1, this.2.1⟩) (zeroM_mx k) (zeroM_b k)
 rw [signs_link h] at h2
 refine ⟨h2.1, fun a b => ?_⟩
 have h3 := h2.2 a b
 have e : (rowL k v).2.length = v.length := by rw [← List.length_map (f := Prod.fst)]; unfold rowL; rw [cross_fst, seenGo_len]
 rw [e] at h3
 omega
/-- what is known of the sums at each crossing. -/
structure Wov (m : MacV) (l : List Int) (N : Nat) (Lk : Nat → Nat → List (List Int)) (Le : Nat → Nat → Nat) (Ex : Nat → Nat → Int) : Prop where
 le0 : Le 0 0 = 0
 ex0 : Ex 0 0 = 0
 lk0 : Lk 0 0 = zeroM l.length
 leN : Le N 0 = (wrdL m l N).length
 exN : Ex N 0 = expL (wrdL m l N)
 lkN : Lk N 0 = linkL l.length (wrdL m l N)
 leL : ∀ k, Le k (crossM m (atL m l k)).length = Le (k + 1) 0
 exL : ∀ k, Ex k (crossM m (atL m l k)).length = Ex (k + 1) 0
 lkL : ∀ k, Lk k (crossM m (atL m l k)).length = Lk (k + 1) 0
 bd : ∀ k i, k < N → i ≤ (crossM m (atL m l k)).length → Mx l.length (Lk k i) ∧ MxB (Lk k i) 1000 ∧ -1000 ≤ Ex k i ∧ Ex k i ≤ 1000
 st : ∀ k i, k < N → i < (crossM m (atL m l k)).length → Le k i < (wrdL m l N).length ∧ Le k (i + 1) = Le k i + 1 ∧ Ex k (i + 1) = Ex k i + max (-1) (min 1 (atD 0 (wrdL m l N) (Le k i : Nat))) ∧
  ∃ g o u wg : Int, (⟨g, o, u, wg⟩ : CrM) = atD (⟨0, 0, 0, 0⟩ : CrM) (crossM m (atL m l k)) i ∧ (0 ≤ o ∧ o < l.length) ∧ (0 ≤ u ∧ u < l.length) ∧
   (0 ≤ atD 0 (invL (orderM m l)) o ∧ atD 0 (invL (orderM m l)) o < l.length) ∧ (0 ≤ atD 0 (invL (orderM m l)) u ∧ atD 0 (invL (orderM m l)) u < l.length) ∧
   Lk k (i + 1) = addM (Lk k i) (atD 0 (invL (orderM m l)) o) (atD 0 (invL (orderM m l)) u) (max (-1) (min 1 (atD 0 (wrdL m l N) (Le k i : Nat))))
theorem expL_few (w : List Int) : -(w.length : Int) ≤ expL w ∧ expL w ≤ w.length := by
 have := expL_rng (w := w) w.length
 rwa [List.take_length] at this
theorem wov_ok {m : MacV} {l : List Int} {N : Nat} (hf : Fits m l 6 6) (hr : m.ring = false) (hN : N ≤ 24) (hm : meetsM m l N = false) : ∃ Lk Le Ex, Wov m l N Lk Le Ex := by
 have hlk := loadE_zero hf.2.2.2
 have hl6 := hf.2.2.1
 have hw0 : (wvM m l 0).2 = [] := rfl
 have hsh : ∀ k i, k < N → i ≤ (crossM m (atL m l k)).length → LetRng l.length (stC m l k i).2 ∧ (stC m l k i).2.length ≤ 200 := fun k i hk hi => by
  refine ⟨(rowIs_stC hr hlk hm (by omega) (rowIs_wv hr hlk hm k (by omega)) i hi).2, ?_⟩
  have hq := (wrdE_ok hf.2.2.2 hr (by omega) (Int.natCast_nonneg N) (by omega) hm).2
  have hq : (wvM m l N).2.length ≤ 144 := hq
  rcases Nat.eq_zero_or_pos i with h0 | h0
  ·subst h0
   show (wvM m l k).2.length ≤ 200
   have := wvM_few hlk k
   have h3 : l.length * k ≤ 6 * 24 := Nat.mul_le_mul (by omega) (by omega)
   omega
  ·obtain ⟨i, rfl⟩ : ∃ j, i = j + 1 := ⟨i - 1, by omega⟩
   obtain ⟨a, b, -⟩ := woven_step hr hlk hm (j := k) (i := i) (N := N) (by omega) hk (by omega)
   rw [b, List.length_append, List.length_singleton]
   omega
 refine ⟨fun k i => linkL l.length (stC m l k i).2, fun k i => (stC m l k i).2.length, fun k i => expL (stC m l k i).2, rfl, rfl, rfl, rfl, rfl, rfl, fun k => ?_, fun k => ?_, fun k => ?_, fun k i hk hi => ?_, fun k i hk hi => ?_⟩
 ·show (stC m l k _).2.length = (wvM m l (k + 1)).2.length
  rw [stC_last]
 ·show expL (stC m l k _).2 = expL (wvM m l (k + 1)).2
  rw [stC_last]
 ·show linkL _ (stC m l k _).2 = linkL _ (wvM m l (k + 1)).2
  rw [stC_last]
 ·obtain ⟨a, b⟩ := hsh k i hk hi
  have h1 := link_ok a (by omega)
  have h2 := expL_few (stC m l k i).2
  exact ⟨h1.1, h1.2, by omega, by omega⟩
 ·obtain ⟨a, b, c, y, hy, ho, hu, hao, hau, hl⟩ := woven_step hr hlk hm (j := k) (i := i) (N := N) (by omega) hk hi
  have hs := sgn_eq c
  refine ⟨a, by rw [b, List.length_append, List.length_singleton], ?_, y.gear, y.over, y.under, y.going, hy, ho, hu, hao, hau, ?_⟩
  ·try dsimp only
   rw [b, expL_snoc]; exact congrArg _ hs.symm
  ·try dsimp only
   rw [hl]; exact congrArg _ hs.symm
end Go.Proofs.YtglpfpdomnllkaaGreat

namespace Go.Proofs.YtglpfpdomnllkaaGreat
open Go.RowKit
set_option maxHeartbeats 8000000
set_option maxRecDepth 100000
theorem hv_main (m : MacV) (ad al : Option Addr) (cap cl : Nat) (l : List Int) (n : Int) (w : World) (hR : Ints w ad cap m.sw) (hL : Ints w al cl l) (hI : InI m.gears) (hM : Made m l n) :
  Calls Tryz.prog 4 #[mV m ad cap, .slice al l.length cl, .int .i64 n] w fun r w' => r = .returned (.bool true) ∧ Below w.heap.size w w' := by
 obtain ⟨N, rfl⟩ : ∃ N : Nat, n = N := ⟨n.toNat, by have := hM.2.2.2.1; omega⟩
 obtain ⟨hf, h0, hr, -, n1, hme⟩ := hM
 have hN : N ≤ 24 := by omega
 have he := hf.2.2.2
 have hlk := loadE_zero he
 have hok := hlk.ok
 have hl6 : l.length ≤ 6 := by have := hf.2.2.1; omega
 have hlo := hok.lo
 have hhi := hok.hi
 have ht := hok.turn
 have W9 := wv_ok hf hr (A := N / 2) (B := N - N / 2) (N := N) (by omega) (by omega) (by omega) hme
 obtain ⟨Lk, Le, Ex, V9⟩ := wov_ok hf hr hN hme
 have KL : ∀ (a : Option Addr) (c : Nat) (q : List Int), ChkL m ad cap a c q := fun a c q => CheckLoad_any m ad cap a c q fun w h => CheckMachine_any m ad cap w h hI
 have hIT : InI (turnMac m).gears := hI
 have KT : ∀ (a b : Option Addr) (c d : Nat) (q : List Int), ChkL (turnMac m) a c b d q := fun a b c d q => CheckLoad_any (turnMac m) a c b d q fun w h => CheckMachine_any (turnMac m) a c w h hIT
 have hWR : LetRng l.length (wrdL m l N) := wrd_rng hr hlk hme
 have hWE : wordE ((l.length : Nat) : Int) (wrdL m l N) = 0 := wordE_fit (by omega) (by omega) (by have := W9.wS; omega) hWR
 have hTP : strandsL m l N = permB l.length (wrdL m l N) := strands_perm hr hlk hme
 have CMA := fun w (h : Ints w ad cap m.sw) (h2 : Ints w al cl l) => made_ok m ad al cap cl l N w h h2 hf h0 hr (by omega) (by omega) hme
 have CO : ∀ w, Ints w ad cap m.sw → Ints w al cl l → Calls Tryz.prog 14 #[mV m ad cap, .slice al l.length cl] w fun r w' => ∃ v, r = .returned (.tuple #[v, .int .i64 0]) ∧ OwnI w.heap.size w' v (orderM m l) ∧ Below w.heap.size w w' := by
  intro w h h2; have h3 := mOrder_any m ad cap al cl l w h h2 (KL _ _ _); have e := W9.ordE 0 (by omega); rw [atL_zero] at e; rw [e, if_pos rfl] at h3; exact h3
 have CW : ∀ w, Ints w ad cap m.sw → Ints w al cl l → Calls Tryz.prog 13 #[mV m ad cap, .slice al l.length cl, .int .i64 N] w fun r w' => ∃ v, r = .returned (.tuple #[v, .int .i64 0]) ∧ OwnI w.heap.size w' v (wrdL m l N) ∧ Below w.heap.size w w' := by
  intro w h h2; have h3 := mWord_any m ad cap al cl l N w h h2 (KL _ _ _); rw [W9.wN, if_pos rfl] at h3; exact h3
 have CT : ∀ w, Ints w ad cap m.sw → Ints w al cl l → Calls Tryz.prog 23 #[mV m ad cap, .slice al l.length cl, .int .i64 N] w fun r w' => ∃ v, r = .returned (.tuple #[v, .int .i64 0]) ∧ OwnI w.heap.size w' v (strandsL m l N) ∧ Below w.heap.size w w' := by
  intro w h h2; have h3 := mStrands_any m ad cap al cl l N w h h2 (KL _ _ _); rw [W9.vN, if_pos rfl] at h3; exact h3
 have CCW := fun (a : Option Addr) (c : Nat) w (h : Ints w a c (wrdL m l N)) => rCheckWord_any (l.length : Int) a c (wrdL m l N) w h
 rw [hWE] at CCW
 have CP := fun (a : Option Addr) (c : Nat) w (h : Ints w a c (wrdL m l N)) => bPerm_any l.length a c (wrdL m l N) w h hWE
 rw [← hTP] at CP
 have CK := fun (a : Option Addr) (c : Nat) w (h : Ints w a c (wrdL m l N)) => bLink_any l.length a c (wrdL m l N) w h hWE
 have CE := fun (a : Option Addr) (c : Nat) w (h : Ints w a c (wrdL m l N)) => Exponent_any l.length a c (wrdL m l N) w h hWE
 have CMI := fun w h h2 => mMirrored_any m ad cap al cl l w h h2 (KL _ _ _)
 rw [if_pos he, if_pos he, if_pos he, he] at CMI
 have CV := fun (a b : Option Addr) (c d : Nat) w h h2 => mWord_any (turnMac m) a c b d (l.map mirM) N w h h2 (KT _ _ _ _ _)
 rw [mir_wrdE hlk he (N : Int), mir_wrdL ht hlk.rng (N : Int), W9.wN, if_pos rfl] at CV
 have CMR := fun (a : Option Addr) (c : Nat) w (h : Ints w a c (wrdL m l N)) => bMirror_any (l.length : Int) a c (wrdL m l N) w h hWE
 have hng : negW (wrdL m l N) = negL (wrdL m l N) := rfl
 rw [hng] at CMR
 have CCP := fun a c w h => rCheckPerm_any a c (orderM m l) w h W9.ip (by rw [W9.olen]; omega)
 have CIV := fun a c w h => rInverse_any a c (orderM m l) w h (by rw [W9.olen]; omega) (isP_mem W9.ip)
 have CX : ∀ k : Nat, k ≤ N → ∀ (a : Option Addr) (c : Nat) w, Ints w ad cap m.sw → Ints w a c (atL m l k) → Calls Tryz.prog 30 #[mV m ad cap, .slice a (atL m l k).length c] w fun r w' => ∃ v, r = .returned (.tuple #[v, .int .i64 0]) ∧ Own cX 3 w.heap.size 58 w' v (crossM m (atL m l k)) ∧ Below w.heap.size w w' := by
  intro k hk a c w h h2; have h3 := mCrossings_any m ad cap a c (atL m l k) w h h2 (KL _ _ _); rw [W9.crE k hk, if_pos rfl] at h3; exact h3
 have CS : ∀ k : Nat, ∀ (a : Option Addr) (c : Nat) w, Ints w ad cap m.sw → Ints w a c (atL m l k) → Calls Tryz.prog 31 #[mV m ad cap, .slice a (atL m l k).length c, .int .i64 1] w fun r w' => ∃ v, r = .returned (.tuple #[v, .int .i64 0]) ∧ OwnI w.heap.size w' v ((atL m l (k + 1))) ∧ Below w.heap.size w w' := by
  intro k a c w h h2; have h3 := mSteps_any m ad cap a c (atL m l k) 1 w h h2 (KL _ _ _); rw [W9.st1 k, if_pos rfl, W9.map1 k] at h3; exact h3
 have CRL : ∀ k : Nat, ∀ (a : Option Addr) (c : Nat) w, Ints w a c (atL m l k) → Calls Tryz.prog 9 #[mV m ad cap, .slice a (atL m l k).length c] w fun r w' => r = .returned (.int .i64 0) ∧ Below w.heap.size w w' := by
  intro k a c w h; have h3 := rCheckLoad_any m ad cap a c (atL m l k) w h hlo hhi; rw [W9.chk k] at h3; exact h3
 have hol := W9.olen
 have hwl := W9.wS
 have htl : (strandsL m l N).length = l.length := by simp [strandsL, hol]
 have hal : ∀ k, (atL m l k).length = l.length := fun k => atL_len m l k
 have hcl := fun (k : Nat) => crossM_len m (atL m l k)
 have hKm : Mx l.length (linkL l.length (wrdL m l N)) := (link_ok hWR (by omega)).1
 have hVs := V9.st
 have hvlkN := V9.lkN
 have hvleN := V9.leN
 have hvexN := V9.exN
 obtain ⟨OM, hOM⟩ : ∃ OM, OM = orderM m l := ⟨_, rfl⟩
 rw [← hOM] at CO CCP CIV hol
 simp only [← hOM] at hVs
 obtain ⟨AT, hAT⟩ : ∃ AT, AT = invL OM := ⟨_, rfl⟩
 rw [← hAT] at CIV
 simp only [← hAT] at hVs
 have hatl : AT.length = l.length := by rw [hAT, invL_len, hol]
 obtain ⟨WL, hWL⟩ : ∃ WL, WL = wrdL m l N := ⟨_, rfl⟩
 rw [← hWL] at CW CCW CP CK CE CV CMR hwl hKm hvlkN hvleN hvexN
 simp only [← hWL] at hVs
 obtain ⟨TL, hTL⟩ : ∃ TL, TL = strandsL m l N := ⟨_, rfl⟩
 rw [← hTL] at CT CP htl
 obtain ⟨VL, hVL⟩ : ∃ VL, VL = negL WL := ⟨_, rfl⟩
 rw [← hVL] at CV CMR
 have hvl : VL.length ≤ 144 := by rw [hVL]; simp [negL]; exact hwl
 obtain ⟨ML, hML⟩ : ∃ ML, ML = l.map mirM := ⟨_, rfl⟩
 rw [← hML] at CMI CV
 obtain ⟨K, hK⟩ : ∃ K, K = linkL l.length WL := ⟨_, rfl⟩
 rw [← hK] at CK hKm hvlkN
 obtain ⟨EX, hEX⟩ : ∃ EX, EX = expL WL := ⟨_, rfl⟩
 rw [← hEX] at CE hvexN
 have dK : ((l.length : Int) != (l.length : Int)) = false := by simp
 have dO : ((OM.length : Int) != (l.length : Int)) = false := by simp [hol]
 have hom6 : OM.length ≤ 6 := by rw [hol]; omega
 have htl6 : TL.length ≤ 6 := by rw [htl]; omega
 have HDS := hid (fun k : Nat => (show (((atL m l k).length : Int) != (l.length : Int)) = false by simp [hal]))
 have hvb := V9.bd; have hvll := V9.leL; have hvel := V9.exL; have hvkl := V9.lkL; have hv0 := V9.le0; have hv1 := V9.ex0; have hv2 := V9.lk0
 have HMA := hid CMA; have HO := hid CO; have HW := hid CW; have HT := hid CT; have HCW := hid CCW; have HP := hid CP; have HK := hid CK; have HE := hid CE; have HMI := hid CMI; have HV := hid CV; have HMR := hid CMR; have HCP := hid CCP; have HIV := hid CIV; have HX := hid CX; have HS := hid CS; have HRL := hid CRL
 have HOL := hid hol; have HATL := hid hatl; have HAL := hid hal; have HCL := hid hcl; have HKM := hid hKm; have HVS := hid hVs; have HVB := hid hvb; have HVLL := hid hvll; have HVEL := hid hvel; have HVKL := hid hvkl; have HV0 := hid hv0; have HV1 := hid hv1; have HV2 := hid hv2; have HKN9 := hid hvlkN; have HLEN := hid hvleN; have HEXN := hid hvexN
 have HHW := hid hawserWeaves_any
 clear CMA CO CW CT CCW CP CK CE CMI CV CMR CCP CIV CX CS CRL hol hatl hal hcl hKm hVs hvb hvll hvel hvkl hv0 hv1 hv2 hvlkN hvleN hvexN hOM hAT hWL hTL hVL hML hK hEX htl W9 V9 KL KT hIT hWR hWE hTP hng hlk hok he hf hI hme hr ht n1
 have hS0 := (SL.nil w).box (.cells (mC m ad cap) 24)
 have hlc := hL.le
 have hlm := hL.max
 go_enter Tryz.func4, Tryz.ntmps4
 go_wp2_with (with_reducible refine wpList_ldS (n := 4) (us := mC m ad cap) A_mach kR wU wU (by assumption) wU wU ?_)
 refine (HMA.out _ (hR.below hS0.b) (hL.below hS0.b)).mono ?_
 rintro e w1 ⟨rfl, b1⟩
 have hS1 := hS0.mono b1
 have qm := (hS1.blk 0 rfl).1
 have t1 := hS1.b
 clear hS0 hS1 b1
 go_wp2_with (with_reducible refine wpList_ldS (n := 4) (us := mC m ad cap) A_mach kR wU wU (by assumption) wU wU ?_)
 refine (HW.out _ (hR.below t1) (hL.below t1)).mono ?_
 rintro e w2 ⟨v2, rfl, ho2, b2⟩
 obtain ⟨aW, cW, rfl, hW, _, _⟩ := ho2.reps
 clear ho2
 replace qm := (b2.block _ (Array.getElem?_eq_some_iff.1 qm).1).trans qm
 have t2 := bnext t1 b2
 clear t1 b2
 go_wp2_with (with_reducible refine wpList_ldS (n := 4) (us := mC m ad cap) A_mach kR wU wU (by assumption) wU wU ?_)
 refine (HCW.out aW cW _ hW).mono ?_
 rintro e w3 ⟨rfl, b3⟩
 replace qm := (b3.block _ (Array.getElem?_eq_some_iff.1 qm).1).trans qm
 replace hW := hW.below b3
 have t3 := bnext t2 b3
 clear t2 b3
 go_wp2_with (with_reducible refine wpList_ldS (n := 4) (us := mC m ad cap) A_mach kR wU wU (by assumption) wU wU ?_)
 refine (HT.out _ (hR.below t3) (hL.below t3)).mono ?_
 rintro e w4 ⟨v4, rfl, ho4, b4⟩
 obtain ⟨aT, cT, rfl, hT, _, _⟩ := ho4.reps
 clear ho4
 replace qm := (b4.block _ (Array.getElem?_eq_some_iff.1 qm).1).trans qm
 replace hW := hW.below b4
 have t4 := bnext t3 b4
 clear t3 b4
 go_wp2_with fail
 refine (HP.out aW cW _ hW).mono ?_
 rintro e w5 ⟨v5, rfl, ho5, b5⟩
 obtain ⟨aP, cP, rfl, hP, _, _⟩ := ho5.reps
 clear ho5
 replace qm := (b5.block _ (Array.getElem?_eq_some_iff.1 qm).1).trans qm
 replace hW := hW.below b5
 replace hT := hT.below b5
 have t5 := bnext t4 b5
 clear t4 b5
 go_wp2_with fail
 refine (HK.out aW cW _ hW).mono ?_
 rintro e w6 ⟨vK, HK_, rfl, hHK, hoK⟩
 have b6 := hoK.b
 obtain ⟨aK, cK, rfl, hK1, hK2⟩ := mx_leads hoK hHK HKM.out (by omega)
 clear hoK
 replace qm := (b6.block _ (Array.getElem?_eq_some_iff.1 qm).1).trans qm
 replace hW := hW.below b6
 replace hT := hT.below b6
 replace hP := hP.below b6
 have t6 := bnext t5 b6
 clear t5 b6
 go_wp2_with fail
 refine (HE.out aW cW _ hW).mono ?_
 rintro e w7 ⟨rfl, b7⟩
 replace qm := (b7.block _ (Array.getElem?_eq_some_iff.1 qm).1).trans qm
 replace hW := hW.below b7
 replace hT := hT.below b7
 replace hP := hP.below b7
 replace hK1 := hK1.below b7
 replace hK2 := hK2.below b7
 have t7 := bnext t6 b7
 clear t6 b7
 go_wp2_with (with_reducible refine wpList_ldS (n := 4) (us := mC m ad cap) A_mach kR wU wU (by assumption) wU wU ?_)
 refine (HMI.out _ (hR.below t7) (hL.below t7)).mono ?_
 rintro e w8 ⟨aI, cI, vI, rfl, hoI⟩
 have b8 := hoI.b
 have hI1 := hoI.rd 0 rfl
 obtain ⟨aJ, cJ, rfl, hI2⟩ := hoI.slice 1 rfl
 clear hoI
 replace qm := (b8.block _ (Array.getElem?_eq_some_iff.1 qm).1).trans qm
 replace hW := hW.below b8
 replace hT := hT.below b8
 replace hP := hP.below b8
 replace hK1 := hK1.below b8
 replace hK2 := hK2.below b8
 have t8 := bnext t7 b8
 clear t7 b8
 have qI := heap_alloc_new w8 (.cells (mC (turnMac m) aI cI) 24)
 go_wp2_with (first | (with_reducible refine wpList_ldS (n := 4) (us := mC (turnMac m) aI cI) A_mach kR wU wU (by assumption) wU wU ?_) | (with_reducible refine wpList_ldS (n := 4) (us := mC m ad cap) A_mach kR wU wU (by assumption) wU wU ?_))
 refine (HV.out aI aJ cI cJ _ (hI1.below (bal (Below.refl _ _) _)) (hI2.below (bal (Below.refl _ _) _))).mono ?_
 rintro e w9 ⟨v9, rfl, ho9, b9⟩
 obtain ⟨aV, cV, rfl, hV, _, _⟩ := ho9.reps
 clear ho9
 replace b9 := bnext (bal (Below.refl _ _) _) b9
 replace qm := (b9.block _ (Array.getElem?_eq_some_iff.1 qm).1).trans qm
 replace hW := hW.below b9
 replace hT := hT.below b9
 replace hP := hP.below b9
 replace hK1 := hK1.below b9
 replace hK2 := hK2.below b9
 replace hI1 := hI1.below b9
 replace hI2 := hI2.below b9
 have t9 := bnext t8 b9
 clear t8 b9
 clear qI
 clear hI1 hI2
 go_wp2_with fail
 refine (HMR.out aW cW _ hW).mono ?_
 rintro e w10 ⟨v10, rfl, ho10, b10⟩
 obtain ⟨aU, cU, rfl, hU, _, _⟩ := ho10.reps
 clear ho10
 replace qm := (b10.block _ (Array.getElem?_eq_some_iff.1 qm).1).trans qm
 replace hW := hW.below b10
 replace hT := hT.below b10
 replace hP := hP.below b10
 replace hK1 := hK1.below b10
 replace hK2 := hK2.below b10
 replace hV := hV.below b10
 have t10 := bnext t9 b10
 clear t9 b10
 go_wp2_with (with_reducible refine wpList_ldS (n := 4) (us := mC m ad cap) A_mach kR wU wU (by assumption) wU wU ?_)
 refine (HO.out _ (hR.below t10) (hL.below t10)).mono ?_
 rintro e w11 ⟨v11, rfl, ho11, b11⟩
 obtain ⟨aO, cO, rfl, hO, _, _⟩ := ho11.reps
 clear ho11
 replace qm := (b11.block _ (Array.getElem?_eq_some_iff.1 qm).1).trans qm
 replace hW := hW.below b11
 replace hT := hT.below b11
 replace hP := hP.below b11
 replace hK1 := hK1.below b11
 replace hK2 := hK2.below b11
 replace hV := hV.below b11
 replace hU := hU.below b11
 have t11 := bnext t10 b11
 clear t10 b11
 go_wp2_with fail
 refine (amSame aT aP cT cP TL.length TL _ hT hP rfl (by omega)).mono ?_
 rintro e w12 ⟨rfl, b12⟩
 replace qm := (b12.block _ (Array.getElem?_eq_some_iff.1 qm).1).trans qm
 replace hW := hW.below b12
 replace hT := hT.below b12
 replace hP := hP.below b12
 replace hK1 := hK1.below b12
 replace hK2 := hK2.below b12
 replace hV := hV.below b12
 replace hU := hU.below b12
 replace hO := hO.below b12
 have t12 := bnext t11 b12
 clear t11 b12
 clear hT hP
 go_wp2_with fail
 refine (amSame aU aV cU cV VL.length VL _ hU hV rfl (by omega)).mono ?_
 rintro e w13 ⟨rfl, b13⟩
 replace qm := (b13.block _ (Array.getElem?_eq_some_iff.1 qm).1).trans qm
 replace hW := hW.below b13
 replace hK1 := hK1.below b13
 replace hK2 := hK2.below b13
 replace hV := hV.below b13
 replace hU := hU.below b13
 replace hO := hO.below b13
 have t13 := bnext t12 b13
 clear t12 b13
 clear hU hV
 go_wp2_with fail
 refine (HCP.out aO cO _ hO).mono ?_
 rintro e w14 ⟨rfl, b14⟩
 replace qm := (b14.block _ (Array.getElem?_eq_some_iff.1 qm).1).trans qm
 replace hW := hW.below b14
 replace hK1 := hK1.below b14
 replace hK2 := hK2.below b14
 replace hO := hO.below b14
 have t14 := bnext t13 b14
 clear t13 b14
 go_wp2_with fail
 refine (HIV.out aO cO _ hO).mono ?_
 rintro e w15 ⟨v15, rfl, ho15, b15⟩
 obtain ⟨aA, cA, rfl, hA, _, _⟩ := ho15.reps
 clear ho15
 replace qm := (b15.block _ (Array.getElem?_eq_some_iff.1 qm).1).trans qm
 replace hW := hW.below b15
 replace hK1 := hK1.below b15
 replace hK2 := hK2.below b15
 replace hO := hO.below b15
 have t15 := bnext t14 b15
 clear t14 b15
 clear hO
 clear HMA HO HW HT HCW HP HK HE HMI HV HMR HCP HIV dO dK hom6 htl6
 have hZ0 := SL.nil w15
 obtain ⟨wz, hwz⟩ : ∃ wz, wz = w15 := ⟨_, rfl⟩
 rw [← hwz] at t15 hZ0 hW hA hK1 hK2 qm ⊢
 clear hwz
 have tz := t15
 clear t15
 go_wp2_with ((with_reducible refine wpList_makeL (c := cSl) (l.length) (((none, 0, 0) : SlH)) E_sls cSl1 wU wU (by omega) (by omega) (hZ0) ?_); intro ad1 w1 hS1)
 obtain ⟨G, hG, -⟩ := hS1.setOwn cSl1 0 rfl 0 (by omega) (by simp; omega) (none, 0, 0)
 subst hG
 rw [← mxH_zero] at hS1
 clear hZ0
 go_loopw [169, 29] (fun iv _ wr => ∃ (k : Nat) (qs : List (SlH × List Int)), k ≤ l.length ∧ iv = .int .i64 k ∧ qs.length = k ∧ qs.map Prod.snd = List.replicate k (List.replicate l.length 0) ∧ SL wz.heap.size wz wr (pOwn cSl 1 22 (.slice (some ⟨G, 0, none⟩) l.length l.length) (mxH l.length k qs) :: qs.map inP)) (fun iv _ _ => l.length - (intOf iv).toNat)
 case atStart => exact ⟨0, [], by omega, rfl, rfl, rfl, hS1⟩
 case round =>
  clear hS1
  obtain ⟨k, qs, hk, rfl, hql, hqs, hSr⟩ := hrel
  by_cases hlt : k < l.length
  ·have HQL := hid hql; have HQS := hid hqs
   have hml := mxH_len hql hk
   obtain ⟨HH, hHH⟩ : ∃ HH, HH = mxH l.length k qs := ⟨_, rfl⟩
   rw [← hHH] at hSr hml
   have hkH : (k : Int) < (HH.length : Int) := by omega
   have HHH := hid hHH
   clear hql hqs hHH hml
   go_wp2_with (first | ((with_reducible refine wpList_makeL (c := cInt) (l.length) (0) E_ints cInt1 wU wU (by omega) (by omega) (hSr) ?_); intro ad2 w2 hS3) | ((with_reducible refine wpList_storeL (u := ((ad2, l.length, l.length) : SlH)) 1 E_sls cSl1 (sto_sl) wU wU (hS3) wU (by first | omega | (simp; done) | (simp; omega)) (by first | omega | (simp; done) | (simp; omega)) (fun _ => wU) (fun _ => wU) ?_); intro _ w4 hS4))
   have hfin : SL wz.heap.size wz w4 (pOwn cSl 1 22 (.slice (some ⟨G, 0, none⟩) l.length l.length) (mxH l.length (k + 1) (qs ++ [((ad2, l.length, l.length), List.replicate l.length 0)])) :: (qs ++ [((ad2, l.length, l.length), List.replicate l.length 0)]).map inP) := by
    have e1 := mxH_set HQL.out hlt (((ad2, l.length, l.length) : SlH), List.replicate l.length (0 : Int))
    rw [← HHH.out] at e1
    rw [← e1, List.map_append]
    exact hS4.comm (K := [pOwn cInt 1 3 (.slice ad2 l.length l.length) (List.replicate l.length 0)])
   exact ⟨⟨k + 1, qs ++ [((ad2, l.length, l.length), List.replicate l.length 0)], by omega, by go_num, by rw [List.length_append, HQL.out]; rfl, by rw [List.map_append, HQS.out, List.replicate_succ']; rfl, hfin⟩, by simp [intOf]; omega⟩
  ·have hkk : k = l.length := by omega
   rw [hkk] at hql hqs hSr
   rw [mxH_full] at hSr
   have hz0 : mxQ (qs.map Prod.fst) (zeroM l.length) = qs := by unfold mxQ zeroM; rw [← hqs]; exact zip_back qs
   obtain ⟨H, hH⟩ : ∃ H, H = qs.map Prod.fst := ⟨_, rfl⟩
   have hHl : H.length = l.length := by rw [hH, List.length_map]; exact hql
   have hS3 : SL wz.heap.size wz wr ([pOwn cSl 1 22 (.slice (some ⟨G, 0, none⟩) l.length l.length) H] ++ (mxQ H (Lk 0 0)).map inP) := by
    rw [HV2.out, hH, hz0]
    exact hSr
   have HHL := hid hHl
   have hkk2 : ¬ ((k : Int) < (l.length : Int)) := by omega
   clear hSr hz0 hH hqs hql hlt hk HV2 hHl hkk
   have hB1 := hS3.call (SL.ofOwn (own_newN (e := 3) (w := wr) cIntS [] 0 rfl (by decide) #[] rfl (Nat.le_refl _) rfl) (bal (Below.refl _ _) _))
   simp only [List.cons_append, List.nil_append] at hB1
   go_wp2_with ((with_reducible refine wpList_appL 0 E_ints wU wU (hB1) wU ((hL.below (bnext tz hB1.b))) (rfl) cIntO (by first | omega | (simp; omega)) (by first | omega | (simp; omega)) ?_); intro vC wC hC1)
   simp only [List.set_cons_zero, List.nil_append] at hC1
   obtain ⟨aC, cC, rfl, _⟩ := hC1.slice 0 rfl
   clear hB1 hS3
   go_wp2_with fail
   go_loopw [182, 30, 31, 32] (fun iv nv av xv wr => ∃ k : Nat, k ≤ N ∧ iv = .int .i64 k ∧ av = .int .i64 (Le k 0 : Nat) ∧ xv = .int .i64 (Ex k 0) ∧ SL wz.heap.size wz wr (pOwn cInt 1 3 nv ((atL m l k)) :: pOwn cSl 1 22 (.slice (some ⟨G, 0, none⟩) l.length l.length) H :: (mxQ H (Lk k 0)).map inP)) (fun iv _ _ _ _ => N - (intOf iv).toNat)
   case atStart => exact ⟨0, by omega, rfl, by rw [HV0.out]; rfl, by rw [HV1.out], by rw [atL_zero]; exact hC1⟩
   case round =>
    clear hC1 hkk2
    obtain ⟨k, hk, rfl, rfl, rfl, hSr⟩ := hrel
    obtain ⟨aN, cN, rfl, _⟩ := hSr.slice 0 rfl
    have tr := bnext tz hSr.b
    have qr := (hSr.b.block _ (Array.getElem?_eq_some_iff.1 qm).1).trans qm
    by_cases hlt : k < N
    ·as_aux_lemma =>
     have HXk := hid (HX.out k hk)
     have HCk := HCL.out k
     have HBk := HVB.out k
     have HSk := HVS.out k
     have hLLk := HVLL.out k; have hLEk := HVEL.out k; have hLKk := HVKL.out k
     obtain ⟨cs, hcs⟩ : ∃ cs, cs = crossM m (atL m l k) := ⟨_, rfl⟩
     rw [← hcs] at HXk HCk hLLk hLEk hLKk
     simp only [← hcs] at HSk HBk
     have hc48 : cs.length ≤ 48 := by omega
     have HB := hid (fun i hi => HBk i hlt hi); have HST := hid (fun i hi => HSk i hlt hi); have HLLk := hid hLLk; have HLEk := hid hLEk; have HLKk := hid hLKk
     clear hcs HCk HBk HSk hLLk hLEk hLKk
     go_wp2_with (with_reducible refine wpList_ldS (n := 4) (us := mC m ad cap) A_mach kR wU wU (by assumption) wU wU ?_)
     refine (HXk.out aN cN _ (hR.below tr) (hSr.rd 0 rfl)).mono ?_
     rintro e w21 ⟨v21, rfl, ho21, b21⟩
     have hS21 := hSr.call (SL.ofOwn ho21 b21)
     simp only [List.cons_append, List.nil_append] at hS21
     have tr1 := bnext tr b21
     have qr1 := (b21.block _ (Array.getElem?_eq_some_iff.1 qr).1).trans qr
     clear ho21 b21 hSr qr tr
     obtain ⟨aX, cX_, rfl, _⟩ := hS21.slice 0 rfl
     go_wp2_with (with_reducible refine wpList_ldS (n := 4) (us := mC m ad cap) A_mach kR wU wU (by assumption) wU wU ?_)
     refine (HS.out k aN cN _ (hR.below tr1) (hS21.rd 1 rfl)).mono ?_
     rintro e w22 ⟨v22, rfl, ho22, b22⟩
     have hS22 := hS21.call (SL.ofOwn ho22 b22)
     simp only [List.cons_append, List.nil_append] at hS22
     have tr2 := bnext tr1 b22
     have qr2 := (b22.block _ (Array.getElem?_eq_some_iff.1 qr1).1).trans qr1
     clear ho22 b22 hS21 qr1 tr1
     obtain ⟨aS, cS, rfl, _⟩ := hS22.slice 0 rfl
     have dS := HDS.out (k + 1)
     go_wp2_with (with_reducible refine wpList_ldS (n := 4) (us := mC m ad cap) A_mach kR wU wU (by assumption) wU wU ?_)
     refine (HRL.out (k + 1) aS cS _ (hS22.rd 0 rfl)).mono ?_
     rintro e w23 ⟨rfl, b23⟩
     have hS23 := hS22.mono b23
     clear b23 hS22 qr2 tr2 dS
     go_wp2_with fail
     go_loopw [214, 31, 32] (fun jv av xv wq => ∃ i : Nat, i ≤ cs.length ∧ jv = .int .i64 i ∧ av = .int .i64 (Le k i : Nat) ∧ xv = .int .i64 (Ex k i) ∧ SL wz.heap.size wz wq (pOwn cInt 1 3 (.slice aS (atL m l (k + 1)).length cS) ((atL m l (k + 1))) :: pOwn cX 3 58 (.slice aX cs.length cX_) cs :: pOwn cInt 1 3 (.slice aN (atL m l k).length cN) ((atL m l k)) :: pOwn cSl 1 22 (.slice (some ⟨G, 0, none⟩) l.length l.length) H :: (mxQ H (Lk k i)).map inP)) (fun jv _ _ _ => cs.length - (intOf jv).toNat)
     case atStart => exact ⟨0, by omega, rfl, rfl, rfl, hS23⟩
     case round =>
      clear hS23
      obtain ⟨i, hi, rfl, rfl, rfl, hSq⟩ := hrel
      by_cases hic : i < cs.length
      ·as_aux_lemma =>
       obtain ⟨hZ, hs2, hs3, xg, xo, xu, xw, hx, ⟨xo0, xo1⟩, ⟨xu0, xu1⟩, ⟨pa0, pa1⟩, ⟨pb0, pb1⟩, hnx⟩ := HST.out i hic
       have hbd := HB.out i (by omega)
       obtain ⟨Z, hZz⟩ : ∃ Z, Z = Le k i := ⟨_, rfl⟩
       obtain ⟨E, hEe⟩ : ∃ E, E = Ex k i := ⟨_, rfl⟩
       obtain ⟨M, hMm⟩ : ∃ M, M = Lk k i := ⟨_, rfl⟩
       rw [← hZz] at hZ hs2 hs3 hnx ⊢
       rw [← hEe] at hs3 hbd ⊢
       rw [← hMm] at hnx hbd hSq
       obtain ⟨x, hxx⟩ : ∃ x, x = atD 0 WL (Z : Nat) := ⟨_, rfl⟩
       rw [← hxx] at hs3 hnx
       obtain ⟨sg, hsg⟩ : ∃ sg, sg = max (-1) (min 1 x) := ⟨_, rfl⟩
       have hsb : -1 ≤ sg ∧ sg ≤ 1 := by omega
       rw [← hsg] at hs3 hnx
       obtain ⟨pa, hpa⟩ : ∃ pa, pa = atD 0 AT xo := ⟨_, rfl⟩
       obtain ⟨pb, hpb⟩ : ∃ pb, pb = atD 0 AT xu := ⟨_, rfl⟩
       rw [← hpa] at hnx pa0 pa1
       rw [← hpb] at hnx pb0 pb1
       have hpa0 := pa0; have hpa1 := pa1; have hpb0 := pb0; have hpb1 := pb1
       clear pa0 pa1 pb0 pb1
       have HM := hid (⟨hbd.1, hbd.2.1⟩ : Mx l.length M ∧ MxB M 1000)
       have hE1 : -1000 ≤ E := hbd.2.2.1
       have hE2_ : E ≤ 1000 := hbd.2.2.2
       have hwE : IntKind.i64.wrap (E + sg) = Ex k (i + 1) := by rw [hs3]; exact IntWalk.i64_in _ (by omega)
       have HXX := hid hxx; have HSG := hid hsg; have HAO := hid hpa.symm; have HAU := hid hpb.symm; have HNX := hid hnx; have HX2 := hid hx; have HS2 := hid hs2
       have hxa : xo < (AT.length : Int) := by rw [HATL.out]; exact xo1
       have hxb : xu < (AT.length : Int) := by rw [HATL.out]; exact xu1
       clear hxx hsg hpa hpb hnx hx hs2 hs3 hbd hZz hEe hMm
       have hXr := hSq.rd 1 rfl
       have hSc := hSq.box (.cells #[.int .i64 xg, .int .i64 xo, .int .i64 xu] 58)
       have qx := (hSc.blk 0 rfl).1
       have dZ : ((Z : Int) == (WL.length : Int)) = false := by rw [beq_eq_false_iff_ne]; omega
       have hk1 : IntKind.i64.wrap ((l.length : Int) - 1) = (l.length : Int) - 1 := IntWalk.i64_in _ (by omega)
       have HRO : Hid (∀ W, Calls Tryz.prog 32 #[.int .i64 xo, .int .i64 0, .int .i64 ((l.length : Int) - 1)] W fun r w' => r = .returned (.bool false) ∧ W = w') := hid fun W => by
        have h := rOutside_any xo 0 ((l.length : Int) - 1) W
        rw [decide_eq_false (by omega), decide_eq_false (by omega)] at h
        exact h
       have HRU : Hid (∀ W, Calls Tryz.prog 32 #[.int .i64 xu, .int .i64 0, .int .i64 ((l.length : Int) - 1)] W fun r w' => r = .returned (.bool false) ∧ W = w') := hid fun W => by
        have h := rOutside_any xu 0 ((l.length : Int) - 1) W
        rw [decide_eq_false (by omega), decide_eq_false (by omega)] at h
        exact h
       go_wp2_with (first | ((with_reducible refine wpList_idxS _ ⟨0, 0, 0, 0⟩ E_xs A_xs cX1 wU wU (hXr) oD oD (fun _ => wU) (fun _ => ?_)); rw [← HX2.out]) | (with_reducible refine wpList_ldB (by first | exact F_int | fail) wU wU (by assumption) wU ?_))
       refine (HRO.out _).mono ?_
       rintro e w' ⟨rfl, rfl⟩
       obtain ⟨V, hV⟩ : ∃ V, V = wr.alloc (.cells #[.int .i64 xg, .int .i64 xo, .int .i64 xu] 58) := ⟨_, rfl⟩
       obtain ⟨Bx, hBx⟩ : ∃ b, b = wr.heap.size := ⟨_, rfl⟩
       rw [← hV, ← hBx] at hSc qx
       simp only [← hV, ← hBx]
       clear hV hBx hXr hSq
       go_wp2_with (first | (with_reducible refine wpList_ldB (by first | exact F_int | fail) wU wU (by assumption) wU ?_))
       refine (HRU.out _).mono ?_
       rintro e w' ⟨rfl, rfl⟩
       have hWr := hW.below hSc.b
       go_wp2_with (first | ((first | (with_reducible refine wpList_idxG 0 E_ints F_int cInt1 wU wU (hWr) (rfl) oD oD (fun _ => wU) wU (fun _ => wU) (fun _ => ?_)) | (with_reducible refine wpList_idxN _ 0 E_ints F_int cInt1 wU wU (hWr) (rfl) oD oD (fun _ => wU) (fun _ => ?_))); rw [← HXX.out]) | (with_reducible refine wpList_ldB (by first | exact F_int | fail) wU wU (by assumption) wU ?_))
       have hws : max (-1) (min 1 x) = sg := HSG.out.symm
       simp only [hws]
       clear hws hWr qx HRO HRU dZ hk1
       have hRo := hSc.rd 4 rfl
       have hAr := hA.below hSc.b
       have qx := (hSc.blk 0 rfl).1
       obtain ⟨ga, ca', eHa, hRa, -, -, -⟩ := mx_row (pre := [_, _, _, _, _]) hSc HHL.out HM.out.1 hpa0 hpa1
       have hHa : pa < (H.length : Int) := by rw [HHL.out]; exact hpa1
       have hrl := mx_getD HM.out.1 (a := pa.toNat) (by omega)
       have hrb : pb < ((M.getD pa.toNat []).length : Int) := by rw [hrl]; exact hpb1
       obtain ⟨rowa, hrowa⟩ : ∃ r, r = M.getD pa.toNat [] := ⟨_, rfl⟩
       rw [← hrowa] at hRa hrl hrb
       have hent := HM.out.2 pa pb
       rw [← hrowa] at hent
       obtain ⟨ent, hentE⟩ : ∃ e, e = atD 0 rowa pb := ⟨_, rfl⟩
       rw [← hentE] at hent
       obtain ⟨E2, hE2⟩ : ∃ E2, E2 = ent + sg := ⟨_, rfl⟩
       have hwa : IntKind.i64.wrap (ent + sg) = E2 := by rw [hE2]; exact IntWalk.i64_in _ (by omega)
       have HEH := hid eHa; have HRL := hid hrl; have HROW := hid hrowa; have HENT := hid hentE; have HE2 := hid hE2
       clear eHa hrl hrowa hentE hent hE2
       refine wp_region_qt 18 kR kR ?_
       simp only [List.take_succ_cons, List.take_zero, List.drop_succ_cons, List.drop_zero]
       repeat (first | (((with_reducible refine wpB_idx2 ((none, 0, 0) : SlH) E_sls F_sl cSl1 wU (HHL.out) wU (hRo) oD oD (fun _ => wU) (fun _ => ?_)); (try simp only [Act.put, pA, pB, pC]); (try simp only [cInt])); rw [HEH.out]) | (((with_reducible refine wpB_idx2 0 E_ints F_int cInt1 wU (rfl) wU (hAr) oD oD (fun _ => wU) (fun _ => ?_)); (try simp only [Act.put, pA, pB, pC]); (try simp only [cInt])); first | rw [HAO.out] | rw [HAU.out]) | (((with_reducible refine wpB_idx2 0 E_ints F_int cInt1 wU (HRL.out) wU (hRa) oD oD (fun _ => wU) (fun _ => ?_)); (try simp only [Act.put, pA, pB, pC]); (try simp only [cInt])); rw [← HENT.out]) | ((with_reducible refine wpB_ix E_ints wU wU hpb0 hpb1 ?_); (try simp only [Act.put, pA, pB, pC])) |  ((with_reducible refine wpB_load (by first | exact F_int | fail) wU wU (by assumption) wU ?_); (try simp only [Act.put, pA, pB, pC])) | ((with_reducible refine wpB_loadS (n := 2) (us := #[_, _]) (by fail) kR wU wU (by assumption) wU wU ?_); (try simp only [Act.put, pA, pB, pC])) | ((with_reducible refine wpB_loadS (n := 4) (us := #[_, _, _, _]) (by fail) kR wU wU (by assumption) wU wU ?_); (try simp only [Act.put, pA, pB, pC])) | ((refine wpQ_oneG ?_ wU (fun w' => ?_) ?_); rotate_left; (go_simp; rfl); (try simp only [Act.put, pA, pB, pC])))
       refine wpQuiet_nil ?_
       intro wa hba
       have hIq := hSc.mono hba
       obtain ⟨g', c', e', -, -, -, hent⟩ := mx_row (pre := [_, _, _, _, _]) hIq HHL.out HM.out.1 hpa0 hpa1
       rw [HEH.out] at e'
       cases e'
       obtain ⟨hcS, hfS, hstS⟩ := hent pb hpb0 hpb1
       have hI5 := hstS sg
       rw [← HROW.out, ← HENT.out] at hcS
       rw [← HROW.out, ← HENT.out, ← HE2.out] at hI5
       clear hent hstS hIq hRo hRa hrb hHa hwa hAr qx
       refine wpList_stoAt (sto_int E2 _ _) wU wU hcS hfS ?_
       obtain ⟨w5, hw5⟩ : ∃ w5, w5 = wa.setCell ⟨ga, pb.toNat, none⟩ (.int .i64 E2) := ⟨_, rfl⟩
       rw [← hw5] at hI5
       show wpList _ _ _ _ _ (wa.setCell ⟨ga, pb.toNat, none⟩ (.int .i64 E2))
       rw [← hw5]
       have HM5 := hid (⟨addE_mx HM.out.1 (by omega) pb sg, by have := addE_b HM.out.2 pa pb (s := sg) hsb; exact this⟩ : Mx l.length (addE M pa pb sg) ∧ MxB (addE M pa pb sg) (1000 + 1))
       obtain ⟨M5, hM5⟩ : ∃ M5, M5 = addE M pa pb sg := ⟨_, rfl⟩
       rw [← hM5] at hI5 HM5
       have HM5E := hid hM5
       have hI6 := hI5
       clear hM5 hI5 hSc hw5 hcS hfS HEH HRL HROW HENT HE2
       go_wp2_with fail
       have hRo := hI6.rd 4 rfl
       have hAr := hA.below hI6.b
       have qx := (hI6.blk 0 rfl).1
       obtain ⟨gb, cb', eHb, hRb, -, -, -⟩ := mx_row (pre := [_, _, _, _, _]) hI6 HHL.out HM5.out.1 hpb0 hpb1
       have hHa : pb < (H.length : Int) := by rw [HHL.out]; exact hpb1
       have hrl := mx_getD HM5.out.1 (a := pb.toNat) (by omega)
       have hrb : pa < ((M5.getD pb.toNat []).length : Int) := by rw [hrl]; exact hpa1
       obtain ⟨rowb, hrowb⟩ : ∃ r, r = M5.getD pb.toNat [] := ⟨_, rfl⟩
       rw [← hrowb] at hRb hrl hrb
       have hent := HM5.out.2 pb pa
       rw [← hrowb] at hent
       obtain ⟨ent, hentE⟩ : ∃ e, e = atD 0 rowb pa := ⟨_, rfl⟩
       rw [← hentE] at hent
       obtain ⟨E2, hE2⟩ : ∃ E2, E2 = ent + sg := ⟨_, rfl⟩
       have hwb : IntKind.i64.wrap (ent + sg) = E2 := by rw [hE2]; exact IntWalk.i64_in _ (by omega)
       have HEH := hid eHb; have HRL := hid hrl; have HROW := hid hrowb; have HENT := hid hentE; have HE2 := hid hE2
       clear eHb hrl hrowb hentE hent hE2
       refine wp_region_qt 18 kR kR ?_
       simp only [List.take_succ_cons, List.take_zero, List.drop_succ_cons, List.drop_zero]
       repeat (first | (((with_reducible refine wpB_idx2 ((none, 0, 0) : SlH) E_sls F_sl cSl1 wU (HHL.out) wU (hRo) oD oD (fun _ => wU) (fun _ => ?_)); (try simp only [Act.put, pA, pB, pC]); (try simp only [cInt])); rw [HEH.out]) | (((with_reducible refine wpB_idx2 0 E_ints F_int cInt1 wU (rfl) wU (hAr) oD oD (fun _ => wU) (fun _ => ?_)); (try simp only [Act.put, pA, pB, pC]); (try simp only [cInt])); first | rw [HAO.out] | rw [HAU.out]) | (((with_reducible refine wpB_idx2 0 E_ints F_int cInt1 wU (HRL.out) wU (hRb) oD oD (fun _ => wU) (fun _ => ?_)); (try simp only [Act.put, pA, pB, pC]); (try simp only [cInt])); rw [← HENT.out]) | ((with_reducible refine wpB_ix E_ints wU wU hpa0 hpa1 ?_); (try simp only [Act.put, pA, pB, pC])) |  ((with_reducible refine wpB_load (by first | exact F_int | fail) wU wU (by assumption) wU ?_); (try simp only [Act.put, pA, pB, pC])) | ((with_reducible refine wpB_loadS (n := 2) (us := #[_, _]) (by fail) kR wU wU (by assumption) wU wU ?_); (try simp only [Act.put, pA, pB, pC])) | ((with_reducible refine wpB_loadS (n := 4) (us := #[_, _, _, _]) (by fail) kR wU wU (by assumption) wU wU ?_); (try simp only [Act.put, pA, pB, pC])) | ((refine wpQ_oneG ?_ wU (fun w' => ?_) ?_); rotate_left; (go_simp; rfl); (try simp only [Act.put, pA, pB, pC])))
       refine wpQuiet_nil ?_
       intro wb hbb
       have hIq := hI6.mono hbb
       obtain ⟨g', c', e', -, -, -, hent⟩ := mx_row (pre := [_, _, _, _, _]) hIq HHL.out HM5.out.1 hpb0 hpb1
       rw [HEH.out] at e'
       cases e'
       obtain ⟨hcS, hfS, hstS⟩ := hent pa hpa0 hpa1
       have hI5 := hstS sg
       rw [← HROW.out, ← HENT.out] at hcS
       rw [← HROW.out, ← HENT.out, ← HE2.out] at hI5
       clear hent hstS hIq hRo hRb hrb hHa hwb hAr qx
       refine wpList_stoAt (sto_int E2 _ _) wU wU hcS hfS ?_
       have hfin : SL wz.heap.size wz (wb.setCell ⟨gb, pa.toNat, none⟩ (.int .i64 E2)) (pOwn cInt 1 3 (.slice aS (atL m l (k + 1)).length cS) ((atL m l (k + 1))) :: pOwn cX 3 58 (.slice aX cs.length cX_) cs :: pOwn cInt 1 3 (.slice aN (atL m l k).length cN) ((atL m l k)) :: pOwn cSl 1 22 (.slice (some ⟨G, 0, none⟩) l.length l.length) H :: (mxQ H (Lk k (i + 1))).map inP) := by
        rw [HNX.out]
        unfold addM
        rw [← HM5E.out]
        exact hI5.tail
       clear hI5 hI6 hcS hfS HM5E HM5
       show wpList _ _ _ _ _ (wb.setCell ⟨gb, pa.toNat, none⟩ (.int .i64 E2))
       generalize (wb.setCell ⟨gb, pa.toNat, none⟩ (.int .i64 E2)) = w9 at *
       go_wp2_with fail
       exact ⟨⟨i + 1, by omega, by go_num, by rw [HS2.out]; go_num, rfl, hfin⟩, by simp [intOf]; omega⟩
      ·have hic2 : cs.length = i := by omega
       subst hic2
       rw [HLKk.out] at hSq
       rw [HLLk.out, HLEk.out]
       have hS30 := hSq.pickA (K := [pOwn cInt 1 3 (.slice aS (atL m l (k + 1)).length cS) ((atL m l (k + 1))), pOwn cX 3 58 (.slice aX cs.length cX_) cs, pOwn cInt 1 3 (.slice aN (atL m l k).length cN) ((atL m l k)), pOwn cSl 1 22 (.slice (some ⟨G, 0, none⟩) l.length l.length) H]) [0, 3] (by decide) (by simp) [pOwn cInt 1 3 (.slice aS (atL m l (k + 1)).length cS) ((atL m l (k + 1))), pOwn cSl 1 22 (.slice (some ⟨G, 0, none⟩) l.length l.length) H] rfl
       have hnc : ¬ ((cs.length : Int) < (cs.length : Int)) := by omega
       clear hic hi hSq
       go_wp2_with fail
       exact ⟨⟨k + 1, by omega, by go_num, rfl, rfl, hS30⟩, by simp [intOf]; omega⟩
    ·as_aux_lemma =>
     have hkN : N = k := by omega
     subst hkN
     rw [HKN9.out] at hSr
     rw [HLEN.out, HEXN.out]
     have hS40 : SL wz.heap.size wz wr ([pOwn cSl 1 22 (.slice (some ⟨G, 0, none⟩) l.length l.length) H] ++ (mxQ H (K)).map inP) := hSr.tail
     have hnn : ¬ ((N : Int) < (N : Int)) := by omega
     clear hSr qr hlt hk tr
     go_wp2_with fail
     go_loopw [288, 40] (fun iv _ wt => ∃ i : Nat, i ≤ l.length ∧ iv = .int .i64 i ∧ SL wz.heap.size wz wt ([pOwn cSl 1 22 (.slice (some ⟨G, 0, none⟩) l.length l.length) H] ++ (mxQ H (K)).map inP)) (fun iv _ _ => l.length - (intOf iv).toNat)
     case atStart => exact ⟨0, by omega, rfl, hS40⟩
     case round =>
      clear hS40 hnn
      obtain ⟨i, hi, rfl, hSt⟩ := hrel
      by_cases hit : i < l.length
      ·have hRo := hSt.rd 0 rfl
       have hKr := hK1.below hSt.b
       have hKl := hK2.below hSt.b
       obtain ⟨g, c, eH, hRw, -⟩ := mx_row (pre := [_]) hSt HHL.out HKM.out (a := (i : Int)) (by omega) (by omega)
       have e0 : K.getD ((i : Int)).toNat [] = atD [] K (i : Int) := rfl
       have hrl := mx_getD HKM.out (a := ((i : Int)).toNat) (by omega)
       obtain ⟨xa, xc, hx1, hx2, -⟩ := hKl i (by rw [HKM.out.len]; exact hit)
       rw [e0] at hRw hrl
       rw [hrl] at hx1
       obtain ⟨row, hrow⟩ : ∃ r, r = atD [] K (i : Int) := ⟨_, rfl⟩
       rw [← hrow] at hRw hrl hx2
       have HSM : Hid (∀ w', Below wr.heap.size wr w' → Calls Tryz.prog 19 #[.slice (some ⟨g, 0, none⟩) l.length c, .slice xa l.length xc] w' fun r w'' => r = .returned (.bool true) ∧ Below w'.heap.size w' w'') := hid fun w' hb => amSame (some ⟨g, 0, none⟩) xa c xc l.length row w' (hRw.below hb) (hx2.below hb) hrl (by omega)
       have HEH := hid eH; have HX1 := hid hx1; have HHK := hid hHK
       have hiH : (i : Int) < (H.length : Int) := by rw [HHL.out]; omega
       have hiK : (i : Int) < (HK_.length : Int) := by rw [hHK]; omega
       clear e0 hrow hrl hRw hx2 eH hx1 hKl hHK
       go_wp2_with fail
       refine wp_region_q kR kR ?_
       repeat (first | (((with_reducible refine wpB_idx2 ((none, 0, 0) : SlH) E_sls F_sl cSl1 wU (HHL.out) wU (hRo) oD oD (fun _ => wU) (fun _ => ?_)); (try simp only [Act.put, pA, pB, pC]); (try simp only [cInt])); rw [HEH.out]) | (((with_reducible refine wpB_idx2 ((none, 0, 0) : SlH) E_sls F_sl cSl1 wU (HHK.out) wU (hKr) oD oD (fun _ => wU) (fun _ => ?_)); (try simp only [Act.put, pA, pB, pC]); (try simp only [cInt])); rw [HX1.out]) | ((refine wpB_call (.bool true) wU (fun w' => ?_) (fun w' hw' => HSM.out w' hw') ?_); (focus (go_simp; done)); (try simp only [Act.put, pA, pB, pC])) |  ((with_reducible refine wpB_load (by first | exact F_int | fail) wU wU (by assumption) wU ?_); (try simp only [Act.put, pA, pB, pC])) | ((with_reducible refine wpB_loadS (n := 2) (us := #[_, _]) (by fail) kR wU wU (by assumption) wU wU ?_); (try simp only [Act.put, pA, pB, pC])) | ((with_reducible refine wpB_loadS (n := 4) (us := #[_, _, _, _]) (by fail) kR wU wU (by assumption) wU wU ?_); (try simp only [Act.put, pA, pB, pC])) | ((refine wpQ_oneG ?_ wU (fun w' => ?_) ?_); rotate_left; (go_simp; rfl); (try simp only [Act.put, pA, pB, pC])))
       refine wpQuiet_nil ?_
       intro wy hby
       have hS7 := hSt.mono hby
       clear hSt hRo hKr
       go_wp2_with fail
       exact ⟨⟨i + 1, by omega, by go_num, hS7⟩, by simp [intOf]; omega⟩
      ·have hb := hSt.b
       have dW : ((WL.length : Int) == (WL.length : Int)) = true := by simp
       have dX : (EX == EX) = true := by simp
       clear hSt hK1 hK2 hL
       go_wp2_with fail
       refine (HHW.out _).mono ?_
       rintro e w20 ⟨rfl, b20⟩
       go_wp2_with fail
       go_ret
       exact ⟨rfl, bnext tz (bnext hb b20)⟩
end Go.Proofs.YtglpfpdomnllkaaGreat

namespace Go.Proofs.YtglpfpdomnllkaaGreat
open Go.RowKit
set_option maxHeartbeats 8000000
set_option maxRecDepth 100000
theorem TopHawserWoven_any (m : MacV) (ad al : Option Addr) (cap cl : Nat) (l : List Int) (n : Int) (w : World) (hR : Ints w ad cap m.sw) (hL : Ints w al cl l) (hI : InI m.gears) :
  Calls Tryz.prog 4 #[mV m ad cap, .slice al l.length cl, .int .i64 n] w fun r w' => r = .returned (.bool true) ∧ Below w.heap.size w w' := by
 by_cases hM : Made m l n
 ·exact hv_main m ad al cap cl l n w hR hL hI hM
 ·have hS0 := (SL.nil w).box (.cells (mC m ad cap) 24)
  have HMA := hid (fun w h h2 => made_no m ad al cap cl l n w h h2 hM)
  have HHW := hid hawserWeaves_any
  have hlc := hL.le
  clear hM
  go_enter Tryz.func4, Tryz.ntmps4
  go_wp2_with (with_reducible refine wpList_ldS (n := 4) (us := mC m ad cap) A_mach kR wU wU (by assumption) wU wU ?_)
  refine (HMA.out _ (hR.below hS0.b) (hL.below hS0.b)).mono ?_
  rintro e w1 ⟨rfl, b1⟩
  have hS1 := hS0.mono b1
  clear hS0
  go_wp2_with fail
  refine (HHW.out _).mono ?_
  rintro e w2 ⟨rfl, b2⟩
  go_wp2_with fail
  go_ret
  exact ⟨rfl, bnext hS1.b b2⟩
end Go.Proofs.YtglpfpdomnllkaaGreat
