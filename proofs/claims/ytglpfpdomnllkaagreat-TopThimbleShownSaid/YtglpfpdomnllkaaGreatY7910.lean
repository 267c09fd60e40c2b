/- Contracts and plain facts that the claim uses (Ts0). Conditions: as each one states. -/
import Derived.RangeFuncNested
import Derived.RangeFuncBound
import Derived.RangeFuncCalls
import Derived.RangeFuncLeaves
import Derived.RangeFuncFrom
import Derived.Shelf.Abstract
import Derived.Shelf.RegionOpen
import Derived.WalkKit
import Derived.OwnWalkIn
import Derived.TacticsInMore
import Derived.LoopNIn
import Derived.LoopIn
import Derived.Test.YtglpfpdomnllkaaGreatProg
import Derived.WalkSpells
import Derived.Maps.AppendAt
import Derived.Deep.Quiet
import Derived.Maps.Own
import Derived.Maps.OwnSet
import Derived.Maps.Views
import Derived.WalkLawsBesides
import Derived.Laws.EntriesVeiled
import Derived.Deep.QuietTactic
import Derived.BigQuiet
import Derived.StillTail
import Derived.Laws.Tables
import Derived.Deep.RegionHeld3
import Derived.Shelf.Strings.Trim
import Derived.Shelf.Strings.SlTrimAscii
import Derived.Shelf.Strings.Repeat
import Derived.Shelf.Strings.OnBuilder
import Derived.Shelf.Strconv.Itoa1
import Derived.Shelf.Strconv.Itoa3
import Derived.Shelf.LaysM
import Derived.Ground.Names2Prog
import Derived.Lib.OthersKept
import Derived.Deep.AppendLies
import Derived.Deep.RegionHeldLaw
import Derived.Deep.RegionLaw
import Derived.IntWalk
import Derived.Laws.CopyOwn
import Derived.BigRegion
import Derived.ChangeAlike
import Derived.Shelf.Bits.Mul64
import Derived.Lib.ItoaLen
import Derived.Lib.ItoaMem
import Derived.Sort.LoopGhostIn
import Derived.Maps.RangeWalk
import Derived.Sort.QuietThIn
import Derived.Maps.Ext
import Derived.Deep.LoopGhost
import Derived.Lib.Split
import Derived.Lib.AtoiAll
import Derived.Lib.AppendIntMem
import Derived.Lib.SmallJoins
import Derived.LaidSub
import Derived.Lib.LaidTab
import Derived.Lib.AtoiErrMem
import Derived.Stop.LaidErr
import Derived.ReadAgain
import Derived.ChangeSlices
import Derived.OpenShut
import Derived.ProofKit
import Derived.Deep.DeepHandedRow
import Derived.Deep.SlicePairs
import Derived.Laws.IdiomStrings
import Derived.Test.YtglpfpdomnllkaaGreatXt01
import Derived.Test.YtglpfpdomnllkaaGreatXt02
import Derived.Test.YtglpfpdomnllkaaGreatXt03
import Derived.Test.YtglpfpdomnllkaaGreatXt04
import Derived.Test.YtglpfpdomnllkaaGreatXt05
import Derived.Test.YtglpfpdomnllkaaGreatXt06
import Derived.Test.YtglpfpdomnllkaaGreatXt07
import Derived.Test.YtglpfpdomnllkaaGreatY7901
import Derived.Test.YtglpfpdomnllkaaGreatY7902
import Derived.Test.YtglpfpdomnllkaaGreatY7903
import Derived.Test.YtglpfpdomnllkaaGreatY7904
import Derived.Test.YtglpfpdomnllkaaGreatY7905
import Derived.Test.YtglpfpdomnllkaaGreatY7906
import Derived.Test.YtglpfpdomnllkaaGreatY7907
import Derived.Test.YtglpfpdomnllkaaGreatY7908
import Derived.Test.YtglpfpdomnllkaaGreatY7909
set_option linter.all false

namespace Go.Proofs.YtglpfpdomnllkaaGreat
open Go.RowKit
set_option maxHeartbeats 8000000
set_option maxRecDepth 100000
section
variable {P : Program} {ops : Array Oper} {a : Act} {ty : TypeId} {p : String} {af : Array Edge} {g : Option (Nat × Bool)} {d : Tmp} {C : World → Prop}
theorem yieldsK_blkO {e : TypeId} {s : Operand} {b o n : Nat} {cs us : Array Value} {T : TypeId} {fr : Nat × Nat} (hF : Aggr P e) (hn : (P.info? e).map (·.size) = some n) (hb : ∀ w, C w → w.heap[b]? = some (.cells cs T fr)) (hv : (cs.toList.drop o).take n = us.toList) (hz : us.size = n)
   (hg : Region.wanted (⟨some d, .load e s, ty, p, af, g⟩ : Oper) (yielded ops a.tmps) = true) (hs : a.eval s = .pointer (some ⟨b, o, none⟩)) : YieldsK P ops C ⟨some d, .load e s, ty, p, af, g⟩ (.agg us) a := by
 obtain ⟨i, hi, hs2⟩ : ∃ i, P.info? e = some i ∧ i.size = n := by
  cases hi : P.info? e with
  | none => rw [hi] at hn; cases hn
  | some i => rw [hi] at hn; exact ⟨i, rfl, by simpa using hn⟩
 refine .inl ⟨hg, fun w' hw' => ?_⟩
 have hb2 := hb w' hw'
 have := run_loadAt_agg (a := ⟨b, o, none⟩) w' hF hi (cs := us.toList) (by simp [hs2, hz]) (fun j v hj => by
  have hj2 : us[j]? = some v := by simpa using hj
  have hjn : j < n := by rw [← hz]; exact (Array.getElem?_eq_some_iff.1 hj2).1
  have hcs : cs[o + j]? = some v := by
   have : us.toList[j]? = some v := by simpa using hj
   rw [← hv, List.getElem?_take, if_pos hjn, List.getElem?_drop] at this
   simpa using this
  rw [Addr.add_z]
  simp [World.cell?, hb2, hcs])
 rw [Array.toArray_toList] at this
 simp [execOp, hs, this, Result.andThen]
end
theorem ts_out1 (m : MacV) (ad al ac : Option Addr) (cap cl cc : Nat) (l C : List Int) (n : Int) (w : World) (hR : Ints w ad cap m.sw) (hL : Ints w al cl l) (hC : Ints w ac cc C) (hI : InI m.gears) (c1 : (decide (m.sw.length ≤ 19) && decide (l.length ≤ 67)) = false) :
  Calls Tryz.prog 3 #[.agg (wC m ad cap al l cl ac C cc n)] w fun r w' => r = .returned (.bool true) ∧ Below w.heap.size w w' := by
 have CSh := fun w => rShort_any m ad cap al cl l.length w
 rw [c1] at CSh
 have HSh := hid CSh
 clear CSh
 clear c1
 have hb0 := bal (Below.refl w.heap.size w) (.cells (wC m ad cap al l cl ac C cc n) 26)
 have q0 := heap_alloc_new w (.cells (wC m ad cap al l cl ac C cc n) 26)
 have HTS := hid thimbleShows_any
 have hlc := hL.le
 have hlm := hL.max
 have hcc := hC.le
 have hcm := hC.max
 obtain ⟨B0, hB0⟩ : ∃ B, B = w.heap.size := ⟨_, rfl⟩
 obtain ⟨w0, hw0⟩ : ∃ w0, w0 = w.alloc (.cells (wC m ad cap al l cl ac C cc n) 26) := ⟨_, rfl⟩
 rw [← hw0] at hb0 q0
 rw [← hB0] at q0
 go_enter Tryz.func3, Tryz.ntmps3
 go_wp2_with fail
 rw [← hB0, ← hw0]
 clear hB0 hw0
 have hlt0 : B0 < w0.heap.size := (Array.getElem?_eq_some_iff.1 q0).1
 have hc4 : w0.cell? ⟨B0, 4, none⟩ = some (.slice al l.length cl) := by simp [World.cell?, q0, wC]
 refine wp_regionK (C := Below (w0).heap.size (w0)) [0, 1, 2, 3, 4, 5, 6] [_, _, _, _, _, _, _] 4 (by simp only [List.map_cons, List.map_nil, List.getElem?_toArray]; rfl) rfl kR kR kR ((Below.refl _ _).drew) ?_
 refine ⟨_, yieldsK_val wU (fun w' => by with_unfolding_all exact rfl), ?_⟩
 go_frame
 refine ⟨.agg (mC m ad cap), yieldsK_blkO (n := 4) (cs := wC m ad cap al l cl ac C cc n) A_mach kR (fun V h => (h.block _ hlt0).trans q0) rfl rfl wU wU, ?_⟩
 go_frame
 refine ⟨_, yieldsK_val wU (fun w' => by with_unfolding_all exact rfl), ?_⟩
 go_frame
 refine ⟨_, yieldsK_cell F_sl (hc4) wU wU, ?_⟩
 go_frame
 refine ⟨_, yieldsK_val wU (fun w' => by with_unfolding_all exact rfl), ?_⟩
 go_frame
 refine ⟨_, yieldsK_cell F_sl (hc4) wU wU, ?_⟩
 go_frame
 refine ⟨.int .i64 l.length, yieldsK_val wU (fun w' => by first | (go_simp; done) | (go_simp; rfl)), ?_⟩
 go_frame
 unfold wpPureK
 have hVd : ({ w0 with drawn := w0.drawn + 1 } : World) = w0.drew := rfl
 rw [hVd]
 have hb5 : Below w0.heap.size w0 w0.drew := (Below.refl _ _).drew
 obtain ⟨w1, hw1⟩ : ∃ w1, w1 = w0.drew := ⟨_, rfl⟩
 rw [← hw1] at hb5 ⊢
 clear hVd hw1
 have hSz := (SL.nil w1).box (.cells #[.bool false, .int .i64 0, .int .i64 0, .slice none 0 0] 24)
 refine wpAnyC_on [7] kR (by simp) ?_
 simp only [List.forall_mem_cons, List.not_mem_nil, false_implies, implies_true, and_true]
 refine wpOp_value (v := .pointer (some ⟨w1.heap.size, 0, none⟩)) (w' := w1.alloc (.cells #[.bool false, .int .i64 0, .int .i64 0, .slice none 0 0] 24)) (by rw [List.getElem?_toArray]; rfl) wU (by first | (go_simp; done) | (go_simp; rfl) | (simp [execOp, Act.eval, Result.andThen]; done)) ?_
 refine ⟨bal hb5 _, ?_⟩
 go_frame
 refine wpAnyC_on [8] kR (by simp) ?_
 simp only [List.forall_mem_cons, List.not_mem_nil, false_implies, implies_true, and_true]
 refine wpOp_of_list (by rw [List.getElem?_toArray]; rfl) ?_
 ((with_reducible refine wpList_stoR (us := mC m ad cap) 0 wU wU (hSz) wU kR wU wU ?_); intro wa hSa)
 refine ⟨bnext hb5 hSa.b, ?_⟩
 go_frame
 have hba := bnext hb5 hSa.b
 refine wpAnyC_rest [9, 10] [_, _] rfl (by simp only [List.map_cons, List.map_nil, List.getElem?_toArray]; rfl) kR kR kR (hba) ?_
 repeat (refine ⟨_, .inl ⟨by with_unfolding_all rfl, fun w' _ => by with_unfolding_all exact rfl⟩, ?_⟩; go_frame)
 unfold wpPure
 refine of_wpList_nil (P := Tryz.prog) (ops := #[]) ?_
 have qm := (hSa.blk 0 rfl).1
 have ta := bnext hb0 hba
 have qx := (hba.block _ hlt0).trans q0
 have qmz := hSa.z
 clear hb0 hb5 hSz hc4 hlt0 q0 hba
 obtain ⟨Bm, hBm⟩ : ∃ Bm, Bm = w1.heap.size := ⟨_, rfl⟩
 rw [← hBm] at qm ⊢
 clear hSa hBm qmz
 have tb := bal (Below.refl wa.heap.size wa) (.cells (mC m ad cap) 27)
 have qo := heap_alloc_new wa (.cells (mC m ad cap) 27)
 have qm0 := qm
 replace qx := (tb.block _ (Array.getElem?_eq_some_iff.1 qx).1).trans qx
 replace qm := (tb.block _ (Array.getElem?_eq_some_iff.1 qm).1).trans qm
 have t0 := bnext ta tb
 clear ta tb
 go_wp2_with (first | (with_reducible refine wpList_ldS (n := 4) (us := mC m ad cap) A_rmach kR wU wU (by assumption) wU wU ?_) | (with_reducible refine wpList_ldS (n := 4) (us := mC m ad cap) A_mach kR wU wU (by assumption) wU wU ?_) | (with_reducible refine wpList_ldB (v := .bool false) F_boolM wU wU (by assumption) (by have h : (mC m ad cap)[0]? = some (.bool m.ring) := rfl; rw [HRG.out] at h; exact h) ?_) | (with_reducible refine wpList_ldB F_sl wU wU (by assumption) wU ?_) | (with_reducible refine wpList_ldB (by first | exact F_int | fail) wU wU (by assumption) wU ?_))
 refine (HSh.out _).mono ?_
 rintro e w1 ⟨rfl, b1⟩
 replace qx := (b1.block _ (Array.getElem?_eq_some_iff.1 qx).1).trans qx
 replace qm := (b1.block _ (Array.getElem?_eq_some_iff.1 qm).1).trans qm
 replace qo := (b1.block _ (Array.getElem?_eq_some_iff.1 qo).1).trans qo
 have t1 := bnext t0 b1
 clear t0 b1
 go_wp2_with (first | (with_reducible refine wpList_ldS (n := 4) (us := mC m ad cap) A_rmach kR wU wU (by assumption) wU wU ?_) | (with_reducible refine wpList_ldS (n := 4) (us := mC m ad cap) A_mach kR wU wU (by assumption) wU wU ?_) | (with_reducible refine wpList_ldB (v := .bool false) F_boolM wU wU (by assumption) (by have h : (mC m ad cap)[0]? = some (.bool m.ring) := rfl; rw [HRG.out] at h; exact h) ?_) | (with_reducible refine wpList_ldB F_sl wU wU (by assumption) wU ?_) | (with_reducible refine wpList_ldB (by first | exact F_int | fail) wU wU (by assumption) wU ?_))
 refine (HTS.out _).mono ?_
 rintro e w2 ⟨rfl, b2⟩
 replace qx := (b2.block _ (Array.getElem?_eq_some_iff.1 qx).1).trans qx
 replace qm := (b2.block _ (Array.getElem?_eq_some_iff.1 qm).1).trans qm
 replace qo := (b2.block _ (Array.getElem?_eq_some_iff.1 qo).1).trans qo
 have t2 := bnext t1 b2
 clear t1 b2
 go_wp2_with fail
 go_ret
 exact ⟨rfl, t2⟩
theorem ts_out2 (m : MacV) (ad al ac : Option Addr) (cap cl cc : Nat) (l C : List Int) (n : Int) (w : World) (hR : Ints w ad cap m.sw) (hL : Ints w al cl l) (hC : Ints w ac cc C) (hI : InI m.gears) (c1 : (decide (m.sw.length ≤ 19) && decide (l.length ≤ 67)) = true) (c2 : macE m ≠ 0) :
  Calls Tryz.prog 3 #[.agg (wC m ad cap al l cl ac C cc n)] w fun r w' => r = .returned (.bool true) ∧ Below w.heap.size w w' := by
 have CSh := fun w => rShort_any m ad cap al cl l.length w
 rw [c1] at CSh
 have HSh := hid CSh
 clear CSh
 have CM := fun w h => rCheckMachine_any m ad cap w h
 obtain ⟨E2, hE2⟩ : ∃ E, E = macE m := ⟨_, rfl⟩
 rw [← hE2] at CM c2
 have hne2 : (E2 == 0) = false := by simpa using c2
 have hne2' : (E2 != 0) = true := by simpa using c2
 have HM := hid CM
 clear CM hE2
 clear c1 c2
 have hb0 := bal (Below.refl w.heap.size w) (.cells (wC m ad cap al l cl ac C cc n) 26)
 have q0 := heap_alloc_new w (.cells (wC m ad cap al l cl ac C cc n) 26)
 have HTS := hid thimbleShows_any
 have hlc := hL.le
 have hlm := hL.max
 have hcc := hC.le
 have hcm := hC.max
 obtain ⟨B0, hB0⟩ : ∃ B, B = w.heap.size := ⟨_, rfl⟩
 obtain ⟨w0, hw0⟩ : ∃ w0, w0 = w.alloc (.cells (wC m ad cap al l cl ac C cc n) 26) := ⟨_, rfl⟩
 rw [← hw0] at hb0 q0
 rw [← hB0] at q0
 go_enter Tryz.func3, Tryz.ntmps3
 go_wp2_with fail
 rw [← hB0, ← hw0]
 clear hB0 hw0
 have hlt0 : B0 < w0.heap.size := (Array.getElem?_eq_some_iff.1 q0).1
 have hc4 : w0.cell? ⟨B0, 4, none⟩ = some (.slice al l.length cl) := by simp [World.cell?, q0, wC]
 refine wp_regionK (C := Below (w0).heap.size (w0)) [0, 1, 2, 3, 4, 5, 6] [_, _, _, _, _, _, _] 4 (by simp only [List.map_cons, List.map_nil, List.getElem?_toArray]; rfl) rfl kR kR kR ((Below.refl _ _).drew) ?_
 refine ⟨_, yieldsK_val wU (fun w' => by with_unfolding_all exact rfl), ?_⟩
 go_frame
 refine ⟨.agg (mC m ad cap), yieldsK_blkO (n := 4) (cs := wC m ad cap al l cl ac C cc n) A_mach kR (fun V h => (h.block _ hlt0).trans q0) rfl rfl wU wU, ?_⟩
 go_frame
 refine ⟨_, yieldsK_val wU (fun w' => by with_unfolding_all exact rfl), ?_⟩
 go_frame
 refine ⟨_, yieldsK_cell F_sl (hc4) wU wU, ?_⟩
 go_frame
 refine ⟨_, yieldsK_val wU (fun w' => by with_unfolding_all exact rfl), ?_⟩
 go_frame
 refine ⟨_, yieldsK_cell F_sl (hc4) wU wU, ?_⟩
 go_frame
 refine ⟨.int .i64 l.length, yieldsK_val wU (fun w' => by first | (go_simp; done) | (go_simp; rfl)), ?_⟩
 go_frame
 unfold wpPureK
 have hVd : ({ w0 with drawn := w0.drawn + 1 } : World) = w0.drew := rfl
 rw [hVd]
 have hb5 : Below w0.heap.size w0 w0.drew := (Below.refl _ _).drew
 obtain ⟨w1, hw1⟩ : ∃ w1, w1 = w0.drew := ⟨_, rfl⟩
 rw [← hw1] at hb5 ⊢
 clear hVd hw1
 have hSz := (SL.nil w1).box (.cells #[.bool false, .int .i64 0, .int .i64 0, .slice none 0 0] 24)
 refine wpAnyC_on [7] kR (by simp) ?_
 simp only [List.forall_mem_cons, List.not_mem_nil, false_implies, implies_true, and_true]
 refine wpOp_value (v := .pointer (some ⟨w1.heap.size, 0, none⟩)) (w' := w1.alloc (.cells #[.bool false, .int .i64 0, .int .i64 0, .slice none 0 0] 24)) (by rw [List.getElem?_toArray]; rfl) wU (by first | (go_simp; done) | (go_simp; rfl) | (simp [execOp, Act.eval, Result.andThen]; done)) ?_
 refine ⟨bal hb5 _, ?_⟩
 go_frame
 refine wpAnyC_on [8] kR (by simp) ?_
 simp only [List.forall_mem_cons, List.not_mem_nil, false_implies, implies_true, and_true]
 refine wpOp_of_list (by rw [List.getElem?_toArray]; rfl) ?_
 ((with_reducible refine wpList_stoR (us := mC m ad cap) 0 wU wU (hSz) wU kR wU wU ?_); intro wa hSa)
 refine ⟨bnext hb5 hSa.b, ?_⟩
 go_frame
 have hba := bnext hb5 hSa.b
 refine wpAnyC_rest [9, 10] [_, _] rfl (by simp only [List.map_cons, List.map_nil, List.getElem?_toArray]; rfl) kR kR kR (hba) ?_
 repeat (refine ⟨_, .inl ⟨by with_unfolding_all rfl, fun w' _ => by with_unfolding_all exact rfl⟩, ?_⟩; go_frame)
 unfold wpPure
 refine of_wpList_nil (P := Tryz.prog) (ops := #[]) ?_
 have qm := (hSa.blk 0 rfl).1
 have ta := bnext hb0 hba
 have qx := (hba.block _ hlt0).trans q0
 have qmz := hSa.z
 clear hb0 hb5 hSz hc4 hlt0 q0 hba
 obtain ⟨Bm, hBm⟩ : ∃ Bm, Bm = w1.heap.size := ⟨_, rfl⟩
 rw [← hBm] at qm ⊢
 clear hSa hBm qmz
 have tb := bal (Below.refl wa.heap.size wa) (.cells (mC m ad cap) 27)
 have qo := heap_alloc_new wa (.cells (mC m ad cap) 27)
 have qm0 := qm
 replace qx := (tb.block _ (Array.getElem?_eq_some_iff.1 qx).1).trans qx
 replace qm := (tb.block _ (Array.getElem?_eq_some_iff.1 qm).1).trans qm
 have t0 := bnext ta tb
 clear ta tb
 go_wp2_with (first | (with_reducible refine wpList_ldS (n := 4) (us := mC m ad cap) A_rmach kR wU wU (by assumption) wU wU ?_) | (with_reducible refine wpList_ldS (n := 4) (us := mC m ad cap) A_mach kR wU wU (by assumption) wU wU ?_) | (with_reducible refine wpList_ldB (v := .bool false) F_boolM wU wU (by assumption) (by have h : (mC m ad cap)[0]? = some (.bool m.ring) := rfl; rw [HRG.out] at h; exact h) ?_) | (with_reducible refine wpList_ldB F_sl wU wU (by assumption) wU ?_) | (with_reducible refine wpList_ldB (by first | exact F_int | fail) wU wU (by assumption) wU ?_))
 refine (HSh.out _).mono ?_
 rintro e w1 ⟨rfl, b1⟩
 replace qx := (b1.block _ (Array.getElem?_eq_some_iff.1 qx).1).trans qx
 replace qm := (b1.block _ (Array.getElem?_eq_some_iff.1 qm).1).trans qm
 replace qo := (b1.block _ (Array.getElem?_eq_some_iff.1 qo).1).trans qo
 have t1 := bnext t0 b1
 clear t0 b1
 go_wp2_with (first | (with_reducible refine wpList_ldS (n := 4) (us := mC m ad cap) A_rmach kR wU wU (by assumption) wU wU ?_) | (with_reducible refine wpList_ldS (n := 4) (us := mC m ad cap) A_mach kR wU wU (by assumption) wU wU ?_) | (with_reducible refine wpList_ldB (v := .bool false) F_boolM wU wU (by assumption) (by have h : (mC m ad cap)[0]? = some (.bool m.ring) := rfl; rw [HRG.out] at h; exact h) ?_) | (with_reducible refine wpList_ldB F_sl wU wU (by assumption) wU ?_) | (with_reducible refine wpList_ldB (by first | exact F_int | fail) wU wU (by assumption) wU ?_))
 refine (HM.out _ (hR.below t1)).mono ?_
 rintro e w2 ⟨rfl, b2⟩
 replace qx := (b2.block _ (Array.getElem?_eq_some_iff.1 qx).1).trans qx
 replace qm := (b2.block _ (Array.getElem?_eq_some_iff.1 qm).1).trans qm
 replace qo := (b2.block _ (Array.getElem?_eq_some_iff.1 qo).1).trans qo
 have t2 := bnext t1 b2
 clear t1 b2
 go_wp2_with (first | (with_reducible refine wpList_ldS (n := 4) (us := mC m ad cap) A_rmach kR wU wU (by assumption) wU wU ?_) | (with_reducible refine wpList_ldS (n := 4) (us := mC m ad cap) A_mach kR wU wU (by assumption) wU wU ?_) | (with_reducible refine wpList_ldB (v := .bool false) F_boolM wU wU (by assumption) (by have h : (mC m ad cap)[0]? = some (.bool m.ring) := rfl; rw [HRG.out] at h; exact h) ?_) | (with_reducible refine wpList_ldB F_sl wU wU (by assumption) wU ?_) | (with_reducible refine wpList_ldB (by first | exact F_int | fail) wU wU (by assumption) wU ?_))
 refine (HTS.out _).mono ?_
 rintro e w3 ⟨rfl, b3⟩
 replace qx := (b3.block _ (Array.getElem?_eq_some_iff.1 qx).1).trans qx
 replace qm := (b3.block _ (Array.getElem?_eq_some_iff.1 qm).1).trans qm
 replace qo := (b3.block _ (Array.getElem?_eq_some_iff.1 qo).1).trans qo
 have t3 := bnext t2 b3
 clear t2 b3
 go_wp2_with fail
 go_ret
 exact ⟨rfl, t3⟩
theorem ts_out3 (m : MacV) (ad al ac : Option Addr) (cap cl cc : Nat) (l C : List Int) (n : Int) (w : World) (hR : Ints w ad cap m.sw) (hL : Ints w al cl l) (hC : Ints w ac cc C) (hI : InI m.gears) (c1 : (decide (m.sw.length ≤ 19) && decide (l.length ≤ 67)) = true) (c2 : macE m = 0) (c3 : 5 < m.gears) :
  Calls Tryz.prog 3 #[.agg (wC m ad cap al l cl ac C cc n)] w fun r w' => r = .returned (.bool true) ∧ Below w.heap.size w w' := by
 have CSh := fun w => rShort_any m ad cap al cl l.length w
 rw [c1] at CSh
 have HSh := hid CSh
 clear CSh
 have CM := fun w h => rCheckMachine_any m ad cap w h
 rw [c2] at CM
 have HM := hid CM
 clear CM
 have d3 : decide (5 < m.gears) = true := decide_eq_true c3
 clear c1 c2 c3
 have hb0 := bal (Below.refl w.heap.size w) (.cells (wC m ad cap al l cl ac C cc n) 26)
 have q0 := heap_alloc_new w (.cells (wC m ad cap al l cl ac C cc n) 26)
 have HTS := hid thimbleShows_any
 have hlc := hL.le
 have hlm := hL.max
 have hcc := hC.le
 have hcm := hC.max
 obtain ⟨B0, hB0⟩ : ∃ B, B = w.heap.size := ⟨_, rfl⟩
 obtain ⟨w0, hw0⟩ : ∃ w0, w0 = w.alloc (.cells (wC m ad cap al l cl ac C cc n) 26) := ⟨_, rfl⟩
 rw [← hw0] at hb0 q0
 rw [← hB0] at q0
 go_enter Tryz.func3, Tryz.ntmps3
 go_wp2_with fail
 rw [← hB0, ← hw0]
 clear hB0 hw0
 have hlt0 : B0 < w0.heap.size := (Array.getElem?_eq_some_iff.1 q0).1
 have hc4 : w0.cell? ⟨B0, 4, none⟩ = some (.slice al l.length cl) := by simp [World.cell?, q0, wC]
 refine wp_regionK (C := Below (w0).heap.size (w0)) [0, 1, 2, 3, 4, 5, 6] [_, _, _, _, _, _, _] 4 (by simp only [List.map_cons, List.map_nil, List.getElem?_toArray]; rfl) rfl kR kR kR ((Below.refl _ _).drew) ?_
 refine ⟨_, yieldsK_val wU (fun w' => by with_unfolding_all exact rfl), ?_⟩
 go_frame
 refine ⟨.agg (mC m ad cap), yieldsK_blkO (n := 4) (cs := wC m ad cap al l cl ac C cc n) A_mach kR (fun V h => (h.block _ hlt0).trans q0) rfl rfl wU wU, ?_⟩
 go_frame
 refine ⟨_, yieldsK_val wU (fun w' => by with_unfolding_all exact rfl), ?_⟩
 go_frame
 refine ⟨_, yieldsK_cell F_sl (hc4) wU wU, ?_⟩
 go_frame
 refine ⟨_, yieldsK_val wU (fun w' => by with_unfolding_all exact rfl), ?_⟩
 go_frame
 refine ⟨_, yieldsK_cell F_sl (hc4) wU wU, ?_⟩
 go_frame
 refine ⟨.int .i64 l.length, yieldsK_val wU (fun w' => by first | (go_simp; done) | (go_simp; rfl)), ?_⟩
 go_frame
 unfold wpPureK
 have hVd : ({ w0 with drawn := w0.drawn + 1 } : World) = w0.drew := rfl
 rw [hVd]
 have hb5 : Below w0.heap.size w0 w0.drew := (Below.refl _ _).drew
 obtain ⟨w1, hw1⟩ : ∃ w1, w1 = w0.drew := ⟨_, rfl⟩
 rw [← hw1] at hb5 ⊢
 clear hVd hw1
 have hSz := (SL.nil w1).box (.cells #[.bool false, .int .i64 0, .int .i64 0, .slice none 0 0] 24)
 refine wpAnyC_on [7] kR (by simp) ?_
 simp only [List.forall_mem_cons, List.not_mem_nil, false_implies, implies_true, and_true]
 refine wpOp_value (v := .pointer (some ⟨w1.heap.size, 0, none⟩)) (w' := w1.alloc (.cells #[.bool false, .int .i64 0, .int .i64 0, .slice none 0 0] 24)) (by rw [List.getElem?_toArray]; rfl) wU (by first | (go_simp; done) | (go_simp; rfl) | (simp [execOp, Act.eval, Result.andThen]; done)) ?_
 refine ⟨bal hb5 _, ?_⟩
 go_frame
 refine wpAnyC_on [8] kR (by simp) ?_
 simp only [List.forall_mem_cons, List.not_mem_nil, false_implies, implies_true, and_true]
 refine wpOp_of_list (by rw [List.getElem?_toArray]; rfl) ?_
 ((with_reducible refine wpList_stoR (us := mC m ad cap) 0 wU wU (hSz) wU kR wU wU ?_); intro wa hSa)
 refine ⟨bnext hb5 hSa.b, ?_⟩
 go_frame
 have hba := bnext hb5 hSa.b
 refine wpAnyC_rest [9, 10] [_, _] rfl (by simp only [List.map_cons, List.map_nil, List.getElem?_toArray]; rfl) kR kR kR (hba) ?_
 repeat (refine ⟨_, .inl ⟨by with_unfolding_all rfl, fun w' _ => by with_unfolding_all exact rfl⟩, ?_⟩; go_frame)
 unfold wpPure
 refine of_wpList_nil (P := Tryz.prog) (ops := #[]) ?_
 have qm := (hSa.blk 0 rfl).1
 have ta := bnext hb0 hba
 have qx := (hba.block _ hlt0).trans q0
 have qmz := hSa.z
 clear hb0 hb5 hSz hc4 hlt0 q0 hba
 obtain ⟨Bm, hBm⟩ : ∃ Bm, Bm = w1.heap.size := ⟨_, rfl⟩
 rw [← hBm] at qm ⊢
 clear hSa hBm qmz
 have tb := bal (Below.refl wa.heap.size wa) (.cells (mC m ad cap) 27)
 have qo := heap_alloc_new wa (.cells (mC m ad cap) 27)
 have qm0 := qm
 replace qx := (tb.block _ (Array.getElem?_eq_some_iff.1 qx).1).trans qx
 replace qm := (tb.block _ (Array.getElem?_eq_some_iff.1 qm).1).trans qm
 have t0 := bnext ta tb
 clear ta tb
 go_wp2_with (first | (with_reducible refine wpList_ldS (n := 4) (us := mC m ad cap) A_rmach kR wU wU (by assumption) wU wU ?_) | (with_reducible refine wpList_ldS (n := 4) (us := mC m ad cap) A_mach kR wU wU (by assumption) wU wU ?_) | (with_reducible refine wpList_ldB (v := .bool false) F_boolM wU wU (by assumption) (by have h : (mC m ad cap)[0]? = some (.bool m.ring) := rfl; rw [HRG.out] at h; exact h) ?_) | (with_reducible refine wpList_ldB F_sl wU wU (by assumption) wU ?_) | (with_reducible refine wpList_ldB (by first | exact F_int | fail) wU wU (by assumption) wU ?_))
 refine (HSh.out _).mono ?_
 rintro e w1 ⟨rfl, b1⟩
 replace qx := (b1.block _ (Array.getElem?_eq_some_iff.1 qx).1).trans qx
 replace qm := (b1.block _ (Array.getElem?_eq_some_iff.1 qm).1).trans qm
 replace qo := (b1.block _ (Array.getElem?_eq_some_iff.1 qo).1).trans qo
 have t1 := bnext t0 b1
 clear t0 b1
 go_wp2_with (first | (with_reducible refine wpList_ldS (n := 4) (us := mC m ad cap) A_rmach kR wU wU (by assumption) wU wU ?_) | (with_reducible refine wpList_ldS (n := 4) (us := mC m ad cap) A_mach kR wU wU (by assumption) wU wU ?_) | (with_reducible refine wpList_ldB (v := .bool false) F_boolM wU wU (by assumption) (by have h : (mC m ad cap)[0]? = some (.bool m.ring) := rfl; rw [HRG.out] at h; exact h) ?_) | (with_reducible refine wpList_ldB F_sl wU wU (by assumption) wU ?_) | (with_reducible refine wpList_ldB (by first | exact F_int | fail) wU wU (by assumption) wU ?_))
 refine (HM.out _ (hR.below t1)).mono ?_
 rintro e w2 ⟨rfl, b2⟩
 replace qx := (b2.block _ (Array.getElem?_eq_some_iff.1 qx).1).trans qx
 replace qm := (b2.block _ (Array.getElem?_eq_some_iff.1 qm).1).trans qm
 replace qo := (b2.block _ (Array.getElem?_eq_some_iff.1 qo).1).trans qo
 have t2 := bnext t1 b2
 clear t1 b2
 go_wp2_with (first | (with_reducible refine wpList_ldS (n := 4) (us := mC m ad cap) A_rmach kR wU wU (by assumption) wU wU ?_) | (with_reducible refine wpList_ldS (n := 4) (us := mC m ad cap) A_mach kR wU wU (by assumption) wU wU ?_) | (with_reducible refine wpList_ldB (v := .bool false) F_boolM wU wU (by assumption) (by have h : (mC m ad cap)[0]? = some (.bool m.ring) := rfl; rw [HRG.out] at h; exact h) ?_) | (with_reducible refine wpList_ldB F_sl wU wU (by assumption) wU ?_) | (with_reducible refine wpList_ldB (by first | exact F_int | fail) wU wU (by assumption) wU ?_))
 refine (HTS.out _).mono ?_
 rintro e w3 ⟨rfl, b3⟩
 replace qx := (b3.block _ (Array.getElem?_eq_some_iff.1 qx).1).trans qx
 replace qm := (b3.block _ (Array.getElem?_eq_some_iff.1 qm).1).trans qm
 replace qo := (b3.block _ (Array.getElem?_eq_some_iff.1 qo).1).trans qo
 have t3 := bnext t2 b3
 clear t2 b3
 go_wp2_with fail
 go_ret
 exact ⟨rfl, t3⟩
theorem ts_out4 (m : MacV) (ad al ac : Option Addr) (cap cl cc : Nat) (l C : List Int) (n : Int) (w : World) (hR : Ints w ad cap m.sw) (hL : Ints w al cl l) (hC : Ints w ac cc C) (hI : InI m.gears) (c1 : (decide (m.sw.length ≤ 19) && decide (l.length ≤ 67)) = true) (c2 : macE m = 0) (c3 : ¬ 5 < m.gears) (c4 : m.ring = true) :
  Calls Tryz.prog 3 #[.agg (wC m ad cap al l cl ac C cc n)] w fun r w' => r = .returned (.bool true) ∧ Below w.heap.size w w' := by
 have CSh := fun w => rShort_any m ad cap al cl l.length w
 rw [c1] at CSh
 have HSh := hid CSh
 clear CSh
 have CM := fun w h => rCheckMachine_any m ad cap w h
 rw [c2] at CM
 have HM := hid CM
 clear CM
 have d3 : decide (5 < m.gears) = false := decide_eq_false c3
 have HRG := hid c4
 clear c1 c2 c3 c4
 have hb0 := bal (Below.refl w.heap.size w) (.cells (wC m ad cap al l cl ac C cc n) 26)
 have q0 := heap_alloc_new w (.cells (wC m ad cap al l cl ac C cc n) 26)
 have HTS := hid thimbleShows_any
 have hlc := hL.le
 have hlm := hL.max
 have hcc := hC.le
 have hcm := hC.max
 obtain ⟨B0, hB0⟩ : ∃ B, B = w.heap.size := ⟨_, rfl⟩
 obtain ⟨w0, hw0⟩ : ∃ w0, w0 = w.alloc (.cells (wC m ad cap al l cl ac C cc n) 26) := ⟨_, rfl⟩
 rw [← hw0] at hb0 q0
 rw [← hB0] at q0
 go_enter Tryz.func3, Tryz.ntmps3
 go_wp2_with fail
 rw [← hB0, ← hw0]
 clear hB0 hw0
 have hlt0 : B0 < w0.heap.size := (Array.getElem?_eq_some_iff.1 q0).1
 have hc4 : w0.cell? ⟨B0, 4, none⟩ = some (.slice al l.length cl) := by simp [World.cell?, q0, wC]
 refine wp_regionK (C := Below (w0).heap.size (w0)) [0, 1, 2, 3, 4, 5, 6] [_, _, _, _, _, _, _] 4 (by simp only [List.map_cons, List.map_nil, List.getElem?_toArray]; rfl) rfl kR kR kR ((Below.refl _ _).drew) ?_
 refine ⟨_, yieldsK_val wU (fun w' => by with_unfolding_all exact rfl), ?_⟩
 go_frame
 refine ⟨.agg (mC m ad cap), yieldsK_blkO (n := 4) (cs := wC m ad cap al l cl ac C cc n) A_mach kR (fun V h => (h.block _ hlt0).trans q0) rfl rfl wU wU, ?_⟩
 go_frame
 refine ⟨_, yieldsK_val wU (fun w' => by with_unfolding_all exact rfl), ?_⟩
 go_frame
 refine ⟨_, yieldsK_cell F_sl (hc4) wU wU, ?_⟩
 go_frame
 refine ⟨_, yieldsK_val wU (fun w' => by with_unfolding_all exact rfl), ?_⟩
 go_frame
 refine ⟨_, yieldsK_cell F_sl (hc4) wU wU, ?_⟩
 go_frame
 refine ⟨.int .i64 l.length, yieldsK_val wU (fun w' => by first | (go_simp; done) | (go_simp; rfl)), ?_⟩
 go_frame
 unfold wpPureK
 have hVd : ({ w0 with drawn := w0.drawn + 1 } : World) = w0.drew := rfl
 rw [hVd]
 have hb5 : Below w0.heap.size w0 w0.drew := (Below.refl _ _).drew
 obtain ⟨w1, hw1⟩ : ∃ w1, w1 = w0.drew := ⟨_, rfl⟩
 rw [← hw1] at hb5 ⊢
 clear hVd hw1
 have hSz := (SL.nil w1).box (.cells #[.bool false, .int .i64 0, .int .i64 0, .slice none 0 0] 24)
 refine wpAnyC_on [7] kR (by simp) ?_
 simp only [List.forall_mem_cons, List.not_mem_nil, false_implies, implies_true, and_true]
 refine wpOp_value (v := .pointer (some ⟨w1.heap.size, 0, none⟩)) (w' := w1.alloc (.cells #[.bool false, .int .i64 0, .int .i64 0, .slice none 0 0] 24)) (by rw [List.getElem?_toArray]; rfl) wU (by first | (go_simp; done) | (go_simp; rfl) | (simp [execOp, Act.eval, Result.andThen]; done)) ?_
 refine ⟨bal hb5 _, ?_⟩
 go_frame
 refine wpAnyC_on [8] kR (by simp) ?_
 simp only [List.forall_mem_cons, List.not_mem_nil, false_implies, implies_true, and_true]
 refine wpOp_of_list (by rw [List.getElem?_toArray]; rfl) ?_
 ((with_reducible refine wpList_stoR (us := mC m ad cap) 0 wU wU (hSz) wU kR wU wU ?_); intro wa hSa)
 refine ⟨bnext hb5 hSa.b, ?_⟩
 go_frame
 have hba := bnext hb5 hSa.b
 refine wpAnyC_rest [9, 10] [_, _] rfl (by simp only [List.map_cons, List.map_nil, List.getElem?_toArray]; rfl) kR kR kR (hba) ?_
 repeat (refine ⟨_, .inl ⟨by with_unfolding_all rfl, fun w' _ => by with_unfolding_all exact rfl⟩, ?_⟩; go_frame)
 unfold wpPure
 refine of_wpList_nil (P := Tryz.prog) (ops := #[]) ?_
 have qm := (hSa.blk 0 rfl).1
 have ta := bnext hb0 hba
 have qx := (hba.block _ hlt0).trans q0
 have qmz := hSa.z
 clear hb0 hb5 hSz hc4 hlt0 q0 hba
 obtain ⟨Bm, hBm⟩ : ∃ Bm, Bm = w1.heap.size := ⟨_, rfl⟩
 rw [← hBm] at qm ⊢
 clear hSa hBm qmz
 have tb := bal (Below.refl wa.heap.size wa) (.cells (mC m ad cap) 27)
 have qo := heap_alloc_new wa (.cells (mC m ad cap) 27)
 have qm0 := qm
 replace qx := (tb.block _ (Array.getElem?_eq_some_iff.1 qx).1).trans qx
 replace qm := (tb.block _ (Array.getElem?_eq_some_iff.1 qm).1).trans qm
 have t0 := bnext ta tb
 clear ta tb
 go_wp2_with (first | (with_reducible refine wpList_ldS (n := 4) (us := mC m ad cap) A_rmach kR wU wU (by assumption) wU wU ?_) | (with_reducible refine wpList_ldS (n := 4) (us := mC m ad cap) A_mach kR wU wU (by assumption) wU wU ?_) | (with_reducible refine wpList_ldB (v := .bool true) F_boolM wU wU (by assumption) (by have h : (mC m ad cap)[0]? = some (.bool m.ring) := rfl; rw [HRG.out] at h; exact h) ?_) | (with_reducible refine wpList_ldB F_sl wU wU (by assumption) wU ?_) | (with_reducible refine wpList_ldB (by first | exact F_int | fail) wU wU (by assumption) wU ?_))
 refine (HSh.out _).mono ?_
 rintro e w1 ⟨rfl, b1⟩
 replace qx := (b1.block _ (Array.getElem?_eq_some_iff.1 qx).1).trans qx
 replace qm := (b1.block _ (Array.getElem?_eq_some_iff.1 qm).1).trans qm
 replace qo := (b1.block _ (Array.getElem?_eq_some_iff.1 qo).1).trans qo
 have t1 := bnext t0 b1
 clear t0 b1
 go_wp2_with (first | (with_reducible refine wpList_ldS (n := 4) (us := mC m ad cap) A_rmach kR wU wU (by assumption) wU wU ?_) | (with_reducible refine wpList_ldS (n := 4) (us := mC m ad cap) A_mach kR wU wU (by assumption) wU wU ?_) | (with_reducible refine wpList_ldB (v := .bool true) F_boolM wU wU (by assumption) (by have h : (mC m ad cap)[0]? = some (.bool m.ring) := rfl; rw [HRG.out] at h; exact h) ?_) | (with_reducible refine wpList_ldB F_sl wU wU (by assumption) wU ?_) | (with_reducible refine wpList_ldB (by first | exact F_int | fail) wU wU (by assumption) wU ?_))
 refine (HM.out _ (hR.below t1)).mono ?_
 rintro e w2 ⟨rfl, b2⟩
 replace qx := (b2.block _ (Array.getElem?_eq_some_iff.1 qx).1).trans qx
 replace qm := (b2.block _ (Array.getElem?_eq_some_iff.1 qm).1).trans qm
 replace qo := (b2.block _ (Array.getElem?_eq_some_iff.1 qo).1).trans qo
 have t2 := bnext t1 b2
 clear t1 b2
 go_wp2_with (first | (with_reducible refine wpList_ldS (n := 4) (us := mC m ad cap) A_rmach kR wU wU (by assumption) wU wU ?_) | (with_reducible refine wpList_ldS (n := 4) (us := mC m ad cap) A_mach kR wU wU (by assumption) wU wU ?_) | (with_reducible refine wpList_ldB (v := .bool true) F_boolM wU wU (by assumption) (by have h : (mC m ad cap)[0]? = some (.bool m.ring) := rfl; rw [HRG.out] at h; exact h) ?_) | (with_reducible refine wpList_ldB F_sl wU wU (by assumption) wU ?_) | (with_reducible refine wpList_ldB (by first | exact F_int | fail) wU wU (by assumption) wU ?_))
 refine (HTS.out _).mono ?_
 rintro e w3 ⟨rfl, b3⟩
 replace qx := (b3.block _ (Array.getElem?_eq_some_iff.1 qx).1).trans qx
 replace qm := (b3.block _ (Array.getElem?_eq_some_iff.1 qm).1).trans qm
 replace qo := (b3.block _ (Array.getElem?_eq_some_iff.1 qo).1).trans qo
 have t3 := bnext t2 b3
 clear t2 b3
 go_wp2_with fail
 go_ret
 exact ⟨rfl, t3⟩
theorem ts_out5 (m : MacV) (ad al ac : Option Addr) (cap cl cc : Nat) (l C : List Int) (n : Int) (w : World) (hR : Ints w ad cap m.sw) (hL : Ints w al cl l) (hC : Ints w ac cc C) (hI : InI m.gears) (c1 : (decide (m.sw.length ≤ 19) && decide (l.length ≤ 67)) = true) (c2 : macE m = 0) (c3 : ¬ 5 < m.gears) (c4 : m.ring = false) (c5 : loadE m l ≠ 0) :
  Calls Tryz.prog 3 #[.agg (wC m ad cap al l cl ac C cc n)] w fun r w' => r = .returned (.bool true) ∧ Below w.heap.size w w' := by
 have CSh := fun w => rShort_any m ad cap al cl l.length w
 rw [c1] at CSh
 have HSh := hid CSh
 clear CSh
 have CM := fun w h => rCheckMachine_any m ad cap w h
 rw [c2] at CM
 have HM := hid CM
 clear CM
 have d3 : decide (5 < m.gears) = false := decide_eq_false c3
 have HRG := hid c4
 have CL := fun w h => rCheckLoad_any m ad cap al cl l w h (macE_zero c2).1.lo (macE_zero c2).1.hi
 rw [load_chk c2] at CL
 obtain ⟨E5, hE5⟩ : ∃ E, E = loadE m l := ⟨_, rfl⟩
 rw [← hE5] at CL c5
 have hne5 : (E5 == 0) = false := by simpa using c5
 have hne5' : (E5 != 0) = true := by simpa using c5
 have HL := hid CL
 clear CL hE5
 clear c1 c2 c3 c4 c5
 have hb0 := bal (Below.refl w.heap.size w) (.cells (wC m ad cap al l cl ac C cc n) 26)
 have q0 := heap_alloc_new w (.cells (wC m ad cap al l cl ac C cc n) 26)
 have HTS := hid thimbleShows_any
 have hlc := hL.le
 have hlm := hL.max
 have hcc := hC.le
 have hcm := hC.max
 obtain ⟨B0, hB0⟩ : ∃ B, B = w.heap.size := ⟨_, rfl⟩
 obtain ⟨w0, hw0⟩ : ∃ w0, w0 = w.alloc (.cells (wC m ad cap al l cl ac C cc n) 26) := ⟨_, rfl⟩
 rw [← hw0] at hb0 q0
 rw [← hB0] at q0
 go_enter Tryz.func3, Tryz.ntmps3
 go_wp2_with fail
 rw [← hB0, ← hw0]
 clear hB0 hw0
 have hlt0 : B0 < w0.heap.size := (Array.getElem?_eq_some_iff.1 q0).1
 have hc4 : w0.cell? ⟨B0, 4, none⟩ = some (.slice al l.length cl) := by simp [World.cell?, q0, wC]
 refine wp_regionK (C := Below (w0).heap.size (w0)) [0, 1, 2, 3, 4, 5, 6] [_, _, _, _, _, _, _] 4 (by simp only [List.map_cons, List.map_nil, List.getElem?_toArray]; rfl) rfl kR kR kR ((Below.refl _ _).drew) ?_
 refine ⟨_, yieldsK_val wU (fun w' => by with_unfolding_all exact rfl), ?_⟩
 go_frame
 refine ⟨.agg (mC m ad cap), yieldsK_blkO (n := 4) (cs := wC m ad cap al l cl ac C cc n) A_mach kR (fun V h => (h.block _ hlt0).trans q0) rfl rfl wU wU, ?_⟩
 go_frame
 refine ⟨_, yieldsK_val wU (fun w' => by with_unfolding_all exact rfl), ?_⟩
 go_frame
 refine ⟨_, yieldsK_cell F_sl (hc4) wU wU, ?_⟩
 go_frame
 refine ⟨_, yieldsK_val wU (fun w' => by with_unfolding_all exact rfl), ?_⟩
 go_frame
 refine ⟨_, yieldsK_cell F_sl (hc4) wU wU, ?_⟩
 go_frame
 refine ⟨.int .i64 l.length, yieldsK_val wU (fun w' => by first | (go_simp; done) | (go_simp; rfl)), ?_⟩
 go_frame
 unfold wpPureK
 have hVd : ({ w0 with drawn := w0.drawn + 1 } : World) = w0.drew := rfl
 rw [hVd]
 have hb5 : Below w0.heap.size w0 w0.drew := (Below.refl _ _).drew
 obtain ⟨w1, hw1⟩ : ∃ w1, w1 = w0.drew := ⟨_, rfl⟩
 rw [← hw1] at hb5 ⊢
 clear hVd hw1
 have hSz := (SL.nil w1).box (.cells #[.bool false, .int .i64 0, .int .i64 0, .slice none 0 0] 24)
 refine wpAnyC_on [7] kR (by simp) ?_
 simp only [List.forall_mem_cons, List.not_mem_nil, false_implies, implies_true, and_true]
 refine wpOp_value (v := .pointer (some ⟨w1.heap.size, 0, none⟩)) (w' := w1.alloc (.cells #[.bool false, .int .i64 0, .int .i64 0, .slice none 0 0] 24)) (by rw [List.getElem?_toArray]; rfl) wU (by first | (go_simp; done) | (go_simp; rfl) | (simp [execOp, Act.eval, Result.andThen]; done)) ?_
 refine ⟨bal hb5 _, ?_⟩
 go_frame
 refine wpAnyC_on [8] kR (by simp) ?_
 simp only [List.forall_mem_cons, List.not_mem_nil, false_implies, implies_true, and_true]
 refine wpOp_of_list (by rw [List.getElem?_toArray]; rfl) ?_
 ((with_reducible refine wpList_stoR (us := mC m ad cap) 0 wU wU (hSz) wU kR wU wU ?_); intro wa hSa)
 refine ⟨bnext hb5 hSa.b, ?_⟩
 go_frame
 have hba := bnext hb5 hSa.b
 refine wpAnyC_rest [9, 10] [_, _] rfl (by simp only [List.map_cons, List.map_nil, List.getElem?_toArray]; rfl) kR kR kR (hba) ?_
 repeat (refine ⟨_, .inl ⟨by with_unfolding_all rfl, fun w' _ => by with_unfolding_all exact rfl⟩, ?_⟩; go_frame)
 unfold wpPure
 refine of_wpList_nil (P := Tryz.prog) (ops := #[]) ?_
 have qm := (hSa.blk 0 rfl).1
 have ta := bnext hb0 hba
 have qx := (hba.block _ hlt0).trans q0
 have qmz := hSa.z
 clear hb0 hb5 hSz hc4 hlt0 q0 hba
 obtain ⟨Bm, hBm⟩ : ∃ Bm, Bm = w1.heap.size := ⟨_, rfl⟩
 rw [← hBm] at qm ⊢
 clear hSa hBm qmz
 have tb := bal (Below.refl wa.heap.size wa) (.cells (mC m ad cap) 27)
 have qo := heap_alloc_new wa (.cells (mC m ad cap) 27)
 have qm0 := qm
 replace qx := (tb.block _ (Array.getElem?_eq_some_iff.1 qx).1).trans qx
 replace qm := (tb.block _ (Array.getElem?_eq_some_iff.1 qm).1).trans qm
 have t0 := bnext ta tb
 clear ta tb
 go_wp2_with (first | (with_reducible refine wpList_ldS (n := 4) (us := mC m ad cap) A_rmach kR wU wU (by assumption) wU wU ?_) | (with_reducible refine wpList_ldS (n := 4) (us := mC m ad cap) A_mach kR wU wU (by assumption) wU wU ?_) | (with_reducible refine wpList_ldB (v := .bool false) F_boolM wU wU (by assumption) (by have h : (mC m ad cap)[0]? = some (.bool m.ring) := rfl; rw [HRG.out] at h; exact h) ?_) | (with_reducible refine wpList_ldB F_sl wU wU (by assumption) wU ?_) | (with_reducible refine wpList_ldB (by first | exact F_int | fail) wU wU (by assumption) wU ?_))
 refine (HSh.out _).mono ?_
 rintro e w1 ⟨rfl, b1⟩
 replace qx := (b1.block _ (Array.getElem?_eq_some_iff.1 qx).1).trans qx
 replace qm := (b1.block _ (Array.getElem?_eq_some_iff.1 qm).1).trans qm
 replace qo := (b1.block _ (Array.getElem?_eq_some_iff.1 qo).1).trans qo
 have t1 := bnext t0 b1
 clear t0 b1
 go_wp2_with (first | (with_reducible refine wpList_ldS (n := 4) (us := mC m ad cap) A_rmach kR wU wU (by assumption) wU wU ?_) | (with_reducible refine wpList_ldS (n := 4) (us := mC m ad cap) A_mach kR wU wU (by assumption) wU wU ?_) | (with_reducible refine wpList_ldB (v := .bool false) F_boolM wU wU (by assumption) (by have h : (mC m ad cap)[0]? = some (.bool m.ring) := rfl; rw [HRG.out] at h; exact h) ?_) | (with_reducible refine wpList_ldB F_sl wU wU (by assumption) wU ?_) | (with_reducible refine wpList_ldB (by first | exact F_int | fail) wU wU (by assumption) wU ?_))
 refine (HM.out _ (hR.below t1)).mono ?_
 rintro e w2 ⟨rfl, b2⟩
 replace qx := (b2.block _ (Array.getElem?_eq_some_iff.1 qx).1).trans qx
 replace qm := (b2.block _ (Array.getElem?_eq_some_iff.1 qm).1).trans qm
 replace qo := (b2.block _ (Array.getElem?_eq_some_iff.1 qo).1).trans qo
 have t2 := bnext t1 b2
 clear t1 b2
 go_wp2_with (first | (with_reducible refine wpList_ldS (n := 4) (us := mC m ad cap) A_rmach kR wU wU (by assumption) wU wU ?_) | (with_reducible refine wpList_ldS (n := 4) (us := mC m ad cap) A_mach kR wU wU (by assumption) wU wU ?_) | (with_reducible refine wpList_ldB (v := .bool false) F_boolM wU wU (by assumption) (by have h : (mC m ad cap)[0]? = some (.bool m.ring) := rfl; rw [HRG.out] at h; exact h) ?_) | (with_reducible refine wpList_ldB F_sl wU wU (by assumption) wU ?_) | (with_reducible refine wpList_ldB (by first | exact F_int | fail) wU wU (by assumption) wU ?_))
 refine (HL.out _ (hL.below t2)).mono ?_
 rintro e w3 ⟨rfl, b3⟩
 replace qx := (b3.block _ (Array.getElem?_eq_some_iff.1 qx).1).trans qx
 replace qm := (b3.block _ (Array.getElem?_eq_some_iff.1 qm).1).trans qm
 replace qo := (b3.block _ (Array.getElem?_eq_some_iff.1 qo).1).trans qo
 have t3 := bnext t2 b3
 clear t2 b3
 go_wp2_with (first | (with_reducible refine wpList_ldS (n := 4) (us := mC m ad cap) A_rmach kR wU wU (by assumption) wU wU ?_) | (with_reducible refine wpList_ldS (n := 4) (us := mC m ad cap) A_mach kR wU wU (by assumption) wU wU ?_) | (with_reducible refine wpList_ldB (v := .bool false) F_boolM wU wU (by assumption) (by have h : (mC m ad cap)[0]? = some (.bool m.ring) := rfl; rw [HRG.out] at h; exact h) ?_) | (with_reducible refine wpList_ldB F_sl wU wU (by assumption) wU ?_) | (with_reducible refine wpList_ldB (by first | exact F_int | fail) wU wU (by assumption) wU ?_))
 refine (HTS.out _).mono ?_
 rintro e w4 ⟨rfl, b4⟩
 replace qx := (b4.block _ (Array.getElem?_eq_some_iff.1 qx).1).trans qx
 replace qm := (b4.block _ (Array.getElem?_eq_some_iff.1 qm).1).trans qm
 replace qo := (b4.block _ (Array.getElem?_eq_some_iff.1 qo).1).trans qo
 have t4 := bnext t3 b4
 clear t3 b4
 go_wp2_with fail
 go_ret
 exact ⟨rfl, t4⟩
theorem ts_out6 (m : MacV) (ad al ac : Option Addr) (cap cl cc : Nat) (l C : List Int) (n : Int) (w : World) (hR : Ints w ad cap m.sw) (hL : Ints w al cl l) (hC : Ints w ac cc C) (hI : InI m.gears) (c1 : (decide (m.sw.length ≤ 19) && decide (l.length ≤ 67)) = true) (c2 : macE m = 0) (c3 : ¬ 5 < m.gears) (c4 : m.ring = false) (c5 : loadE m l = 0) (c6 : (l.length : Int) < 2) :
  Calls Tryz.prog 3 #[.agg (wC m ad cap al l cl ac C cc n)] w fun r w' => r = .returned (.bool true) ∧ Below w.heap.size w w' := by
 have CSh := fun w => rShort_any m ad cap al cl l.length w
 rw [c1] at CSh
 have HSh := hid CSh
 clear CSh
 have CM := fun w h => rCheckMachine_any m ad cap w h
 rw [c2] at CM
 have HM := hid CM
 clear CM
 have d3 : decide (5 < m.gears) = false := decide_eq_false c3
 have HRG := hid c4
 have CL := fun w h => rCheckLoad_any m ad cap al cl l w h (macE_zero c2).1.lo (macE_zero c2).1.hi
 rw [load_chk c2] at CL
 rw [c5] at CL
 have HL := hid CL
 clear CL
 have d6 : decide ((l.length : Int) < 2) = true := decide_eq_true c6
 clear c1 c2 c3 c4 c5 c6
 have hb0 := bal (Below.refl w.heap.size w) (.cells (wC m ad cap al l cl ac C cc n) 26)
 have q0 := heap_alloc_new w (.cells (wC m ad cap al l cl ac C cc n) 26)
 have HTS := hid thimbleShows_any
 have hlc := hL.le
 have hlm := hL.max
 have hcc := hC.le
 have hcm := hC.max
 obtain ⟨B0, hB0⟩ : ∃ B, B = w.heap.size := ⟨_, rfl⟩
 obtain ⟨w0, hw0⟩ : ∃ w0, w0 = w.alloc (.cells (wC m ad cap al l cl ac C cc n) 26) := ⟨_, rfl⟩
 rw [← hw0] at hb0 q0
 rw [← hB0] at q0
 go_enter Tryz.func3, Tryz.ntmps3
 go_wp2_with fail
 rw [← hB0, ← hw0]
 clear hB0 hw0
 have hlt0 : B0 < w0.heap.size := (Array.getElem?_eq_some_iff.1 q0).1
 have hc4 : w0.cell? ⟨B0, 4, none⟩ = some (.slice al l.length cl) := by simp [World.cell?, q0, wC]
 refine wp_regionK (C := Below (w0).heap.size (w0)) [0, 1, 2, 3, 4, 5, 6] [_, _, _, _, _, _, _] 4 (by simp only [List.map_cons, List.map_nil, List.getElem?_toArray]; rfl) rfl kR kR kR ((Below.refl _ _).drew) ?_
 refine ⟨_, yieldsK_val wU (fun w' => by with_unfolding_all exact rfl), ?_⟩
 go_frame
 refine ⟨.agg (mC m ad cap), yieldsK_blkO (n := 4) (cs := wC m ad cap al l cl ac C cc n) A_mach kR (fun V h => (h.block _ hlt0).trans q0) rfl rfl wU wU, ?_⟩
 go_frame
 refine ⟨_, yieldsK_val wU (fun w' => by with_unfolding_all exact rfl), ?_⟩
 go_frame
 refine ⟨_, yieldsK_cell F_sl (hc4) wU wU, ?_⟩
 go_frame
 refine ⟨_, yieldsK_val wU (fun w' => by with_unfolding_all exact rfl), ?_⟩
 go_frame
 refine ⟨_, yieldsK_cell F_sl (hc4) wU wU, ?_⟩
 go_frame
 refine ⟨.int .i64 l.length, yieldsK_val wU (fun w' => by first | (go_simp; done) | (go_simp; rfl)), ?_⟩
 go_frame
 unfold wpPureK
 have hVd : ({ w0 with drawn := w0.drawn + 1 } : World) = w0.drew := rfl
 rw [hVd]
 have hb5 : Below w0.heap.size w0 w0.drew := (Below.refl _ _).drew
 obtain ⟨w1, hw1⟩ : ∃ w1, w1 = w0.drew := ⟨_, rfl⟩
 rw [← hw1] at hb5 ⊢
 clear hVd hw1
 have hSz := (SL.nil w1).box (.cells #[.bool false, .int .i64 0, .int .i64 0, .slice none 0 0] 24)
 refine wpAnyC_on [7] kR (by simp) ?_
 simp only [List.forall_mem_cons, List.not_mem_nil, false_implies, implies_true, and_true]
 refine wpOp_value (v := .pointer (some ⟨w1.heap.size, 0, none⟩)) (w' := w1.alloc (.cells #[.bool false, .int .i64 0, .int .i64 0, .slice none 0 0] 24)) (by rw [List.getElem?_toArray]; rfl) wU (by first | (go_simp; done) | (go_simp; rfl) | (simp [execOp, Act.eval, Result.andThen]; done)) ?_
 refine ⟨bal hb5 _, ?_⟩
 go_frame
 refine wpAnyC_on [8] kR (by simp) ?_
 simp only [List.forall_mem_cons, List.not_mem_nil, false_implies, implies_true, and_true]
 refine wpOp_of_list (by rw [List.getElem?_toArray]; rfl) ?_
 ((with_reducible refine wpList_stoR (us := mC m ad cap) 0 wU wU (hSz) wU kR wU wU ?_); intro wa hSa)
 refine ⟨bnext hb5 hSa.b, ?_⟩
 go_frame
 have hba := bnext hb5 hSa.b
 refine wpAnyC_rest [9, 10] [_, _] rfl (by simp only [List.map_cons, List.map_nil, List.getElem?_toArray]; rfl) kR kR kR (hba) ?_
 repeat (refine ⟨_, .inl ⟨by with_unfolding_all rfl, fun w' _ => by with_unfolding_all exact rfl⟩, ?_⟩; go_frame)
 unfold wpPure
 refine of_wpList_nil (P := Tryz.prog) (ops := #[]) ?_
 have qm := (hSa.blk 0 rfl).1
 have ta := bnext hb0 hba
 have qx := (hba.block _ hlt0).trans q0
 have qmz := hSa.z
 clear hb0 hb5 hSz hc4 hlt0 q0 hba
 obtain ⟨Bm, hBm⟩ : ∃ Bm, Bm = w1.heap.size := ⟨_, rfl⟩
 rw [← hBm] at qm ⊢
 clear hSa hBm qmz
 have tb := bal (Below.refl wa.heap.size wa) (.cells (mC m ad cap) 27)
 have qo := heap_alloc_new wa (.cells (mC m ad cap) 27)
 have qm0 := qm
 replace qx := (tb.block _ (Array.getElem?_eq_some_iff.1 qx).1).trans qx
 replace qm := (tb.block _ (Array.getElem?_eq_some_iff.1 qm).1).trans qm
 have t0 := bnext ta tb
 clear ta tb
 go_wp2_with (first | (with_reducible refine wpList_ldS (n := 4) (us := mC m ad cap) A_rmach kR wU wU (by assumption) wU wU ?_) | (with_reducible refine wpList_ldS (n := 4) (us := mC m ad cap) A_mach kR wU wU (by assumption) wU wU ?_) | (with_reducible refine wpList_ldB (v := .bool false) F_boolM wU wU (by assumption) (by have h : (mC m ad cap)[0]? = some (.bool m.ring) := rfl; rw [HRG.out] at h; exact h) ?_) | (with_reducible refine wpList_ldB F_sl wU wU (by assumption) wU ?_) | (with_reducible refine wpList_ldB (by first | exact F_int | fail) wU wU (by assumption) wU ?_))
 refine (HSh.out _).mono ?_
 rintro e w1 ⟨rfl, b1⟩
 replace qx := (b1.block _ (Array.getElem?_eq_some_iff.1 qx).1).trans qx
 replace qm := (b1.block _ (Array.getElem?_eq_some_iff.1 qm).1).trans qm
 replace qo := (b1.block _ (Array.getElem?_eq_some_iff.1 qo).1).trans qo
 have t1 := bnext t0 b1
 clear t0 b1
 go_wp2_with (first | (with_reducible refine wpList_ldS (n := 4) (us := mC m ad cap) A_rmach kR wU wU (by assumption) wU wU ?_) | (with_reducible refine wpList_ldS (n := 4) (us := mC m ad cap) A_mach kR wU wU (by assumption) wU wU ?_) | (with_reducible refine wpList_ldB (v := .bool false) F_boolM wU wU (by assumption) (by have h : (mC m ad cap)[0]? = some (.bool m.ring) := rfl; rw [HRG.out] at h; exact h) ?_) | (with_reducible refine wpList_ldB F_sl wU wU (by assumption) wU ?_) | (with_reducible refine wpList_ldB (by first | exact F_int | fail) wU wU (by assumption) wU ?_))
 refine (HM.out _ (hR.below t1)).mono ?_
 rintro e w2 ⟨rfl, b2⟩
 replace qx := (b2.block _ (Array.getElem?_eq_some_iff.1 qx).1).trans qx
 replace qm := (b2.block _ (Array.getElem?_eq_some_iff.1 qm).1).trans qm
 replace qo := (b2.block _ (Array.getElem?_eq_some_iff.1 qo).1).trans qo
 have t2 := bnext t1 b2
 clear t1 b2
 go_wp2_with (first | (with_reducible refine wpList_ldS (n := 4) (us := mC m ad cap) A_rmach kR wU wU (by assumption) wU wU ?_) | (with_reducible refine wpList_ldS (n := 4) (us := mC m ad cap) A_mach kR wU wU (by assumption) wU wU ?_) | (with_reducible refine wpList_ldB (v := .bool false) F_boolM wU wU (by assumption) (by have h : (mC m ad cap)[0]? = some (.bool m.ring) := rfl; rw [HRG.out] at h; exact h) ?_) | (with_reducible refine wpList_ldB F_sl wU wU (by assumption) wU ?_) | (with_reducible refine wpList_ldB (by first | exact F_int | fail) wU wU (by assumption) wU ?_))
 refine (HL.out _ (hL.below t2)).mono ?_
 rintro e w3 ⟨rfl, b3⟩
 replace qx := (b3.block _ (Array.getElem?_eq_some_iff.1 qx).1).trans qx
 replace qm := (b3.block _ (Array.getElem?_eq_some_iff.1 qm).1).trans qm
 replace qo := (b3.block _ (Array.getElem?_eq_some_iff.1 qo).1).trans qo
 have t3 := bnext t2 b3
 clear t2 b3
 go_wp2_with (first | (with_reducible refine wpList_ldS (n := 4) (us := mC m ad cap) A_rmach kR wU wU (by assumption) wU wU ?_) | (with_reducible refine wpList_ldS (n := 4) (us := mC m ad cap) A_mach kR wU wU (by assumption) wU wU ?_) | (with_reducible refine wpList_ldB (v := .bool false) F_boolM wU wU (by assumption) (by have h : (mC m ad cap)[0]? = some (.bool m.ring) := rfl; rw [HRG.out] at h; exact h) ?_) | (with_reducible refine wpList_ldB F_sl wU wU (by assumption) wU ?_) | (with_reducible refine wpList_ldB (by first | exact F_int | fail) wU wU (by assumption) wU ?_))
 refine (HTS.out _).mono ?_
 rintro e w4 ⟨rfl, b4⟩
 replace qx := (b4.block _ (Array.getElem?_eq_some_iff.1 qx).1).trans qx
 replace qm := (b4.block _ (Array.getElem?_eq_some_iff.1 qm).1).trans qm
 replace qo := (b4.block _ (Array.getElem?_eq_some_iff.1 qo).1).trans qo
 have t4 := bnext t3 b4
 clear t3 b4
 go_wp2_with fail
 go_ret
 exact ⟨rfl, t4⟩
theorem ts_out7 (m : MacV) (ad al ac : Option Addr) (cap cl cc : Nat) (l C : List Int) (n : Int) (w : World) (hR : Ints w ad cap m.sw) (hL : Ints w al cl l) (hC : Ints w ac cc C) (hI : InI m.gears) (c1 : (decide (m.sw.length ≤ 19) && decide (l.length ≤ 67)) = true) (c2 : macE m = 0) (c3 : ¬ 5 < m.gears) (c4 : m.ring = false) (c5 : loadE m l = 0) (c6 : ¬ (l.length : Int) < 2) (c7 : 6 < (l.length : Int)) :
  Calls Tryz.prog 3 #[.agg (wC m ad cap al l cl ac C cc n)] w fun r w' => r = .returned (.bool true) ∧ Below w.heap.size w w' := by
 have CSh := fun w => rShort_any m ad cap al cl l.length w
 rw [c1] at CSh
 have HSh := hid CSh
 clear CSh
 have CM := fun w h => rCheckMachine_any m ad cap w h
 rw [c2] at CM
 have HM := hid CM
 clear CM
 have d3 : decide (5 < m.gears) = false := decide_eq_false c3
 have HRG := hid c4
 have CL := fun w h => rCheckLoad_any m ad cap al cl l w h (macE_zero c2).1.lo (macE_zero c2).1.hi
 rw [load_chk c2] at CL
 rw [c5] at CL
 have HL := hid CL
 clear CL
 have d6 : decide ((l.length : Int) < 2) = false := decide_eq_false c6
 have d7 : decide (6 < (l.length : Int)) = true := decide_eq_true c7
 clear c1 c2 c3 c4 c5 c6 c7
 have hb0 := bal (Below.refl w.heap.size w) (.cells (wC m ad cap al l cl ac C cc n) 26)
 have q0 := heap_alloc_new w (.cells (wC m ad cap al l cl ac C cc n) 26)
 have HTS := hid thimbleShows_any
 have hlc := hL.le
 have hlm := hL.max
 have hcc := hC.le
 have hcm := hC.max
 obtain ⟨B0, hB0⟩ : ∃ B, B = w.heap.size := ⟨_, rfl⟩
 obtain ⟨w0, hw0⟩ : ∃ w0, w0 = w.alloc (.cells (wC m ad cap al l cl ac C cc n) 26) := ⟨_, rfl⟩
 rw [← hw0] at hb0 q0
 rw [← hB0] at q0
 go_enter Tryz.func3, Tryz.ntmps3
 go_wp2_with fail
 rw [← hB0, ← hw0]
 clear hB0 hw0
 have hlt0 : B0 < w0.heap.size := (Array.getElem?_eq_some_iff.1 q0).1
 have hc4 : w0.cell? ⟨B0, 4, none⟩ = some (.slice al l.length cl) := by simp [World.cell?, q0, wC]
 refine wp_regionK (C := Below (w0).heap.size (w0)) [0, 1, 2, 3, 4, 5, 6] [_, _, _, _, _, _, _] 4 (by simp only [List.map_cons, List.map_nil, List.getElem?_toArray]; rfl) rfl kR kR kR ((Below.refl _ _).drew) ?_
 refine ⟨_, yieldsK_val wU (fun w' => by with_unfolding_all exact rfl), ?_⟩
 go_frame
 refine ⟨.agg (mC m ad cap), yieldsK_blkO (n := 4) (cs := wC m ad cap al l cl ac C cc n) A_mach kR (fun V h => (h.block _ hlt0).trans q0) rfl rfl wU wU, ?_⟩
 go_frame
 refine ⟨_, yieldsK_val wU (fun w' => by with_unfolding_all exact rfl), ?_⟩
 go_frame
 refine ⟨_, yieldsK_cell F_sl (hc4) wU wU, ?_⟩
 go_frame
 refine ⟨_, yieldsK_val wU (fun w' => by with_unfolding_all exact rfl), ?_⟩
 go_frame
 refine ⟨_, yieldsK_cell F_sl (hc4) wU wU, ?_⟩
 go_frame
 refine ⟨.int .i64 l.length, yieldsK_val wU (fun w' => by first | (go_simp; done) | (go_simp; rfl)), ?_⟩
 go_frame
 unfold wpPureK
 have hVd : ({ w0 with drawn := w0.drawn + 1 } : World) = w0.drew := rfl
 rw [hVd]
 have hb5 : Below w0.heap.size w0 w0.drew := (Below.refl _ _).drew
 obtain ⟨w1, hw1⟩ : ∃ w1, w1 = w0.drew := ⟨_, rfl⟩
 rw [← hw1] at hb5 ⊢
 clear hVd hw1
 have hSz := (SL.nil w1).box (.cells #[.bool false, .int .i64 0, .int .i64 0, .slice none 0 0] 24)
 refine wpAnyC_on [7] kR (by simp) ?_
 simp only [List.forall_mem_cons, List.not_mem_nil, false_implies, implies_true, and_true]
 refine wpOp_value (v := .pointer (some ⟨w1.heap.size, 0, none⟩)) (w' := w1.alloc (.cells #[.bool false, .int .i64 0, .int .i64 0, .slice none 0 0] 24)) (by rw [List.getElem?_toArray]; rfl) wU (by first | (go_simp; done) | (go_simp; rfl) | (simp [execOp, Act.eval, Result.andThen]; done)) ?_
 refine ⟨bal hb5 _, ?_⟩
 go_frame
 refine wpAnyC_on [8] kR (by simp) ?_
 simp only [List.forall_mem_cons, List.not_mem_nil, false_implies, implies_true, and_true]
 refine wpOp_of_list (by rw [List.getElem?_toArray]; rfl) ?_
 ((with_reducible refine wpList_stoR (us := mC m ad cap) 0 wU wU (hSz) wU kR wU wU ?_); intro wa hSa)
 refine ⟨bnext hb5 hSa.b, ?_⟩
 go_frame
 have hba := bnext hb5 hSa.b
 refine wpAnyC_rest [9, 10] [_, _] rfl (by simp only [List.map_cons, List.map_nil, List.getElem?_toArray]; rfl) kR kR kR (hba) ?_
 repeat (refine ⟨_, .inl ⟨by with_unfolding_all rfl, fun w' _ => by with_unfolding_all exact rfl⟩, ?_⟩; go_frame)
 unfold wpPure
 refine of_wpList_nil (P := Tryz.prog) (ops := #[]) ?_
 have qm := (hSa.blk 0 rfl).1
 have ta := bnext hb0 hba
 have qx := (hba.block _ hlt0).trans q0
 have qmz := hSa.z
 clear hb0 hb5 hSz hc4 hlt0 q0 hba
 obtain ⟨Bm, hBm⟩ : ∃ Bm, Bm = w1.heap.size := ⟨_, rfl⟩
 rw [← hBm] at qm ⊢
 clear hSa hBm qmz
 have tb := bal (Below.refl wa.heap.size wa) (.cells (mC m ad cap) 27)
 have qo := heap_alloc_new wa (.cells (mC m ad cap) 27)
 have qm0 := qm
 replace qx := (tb.block _ (Array.getElem?_eq_some_iff.1 qx).1).trans qx
 replace qm := (tb.block _ (Array.getElem?_eq_some_iff.1 qm).1).trans qm
 have t0 := bnext ta tb
 clear ta tb
 go_wp2_with (first | (with_reducible refine wpList_ldS (n := 4) (us := mC m ad cap) A_rmach kR wU wU (by assumption) wU wU ?_) | (with_reducible refine wpList_ldS (n := 4) (us := mC m ad cap) A_mach kR wU wU (by assumption) wU wU ?_) | (with_reducible refine wpList_ldB (v := .bool false) F_boolM wU wU (by assumption) (by have h : (mC m ad cap)[0]? = some (.bool m.ring) := rfl; rw [HRG.out] at h; exact h) ?_) | (with_reducible refine wpList_ldB F_sl wU wU (by assumption) wU ?_) | (with_reducible refine wpList_ldB (by first | exact F_int | fail) wU wU (by assumption) wU ?_))
 refine (HSh.out _).mono ?_
 rintro e w1 ⟨rfl, b1⟩
 replace qx := (b1.block _ (Array.getElem?_eq_some_iff.1 qx).1).trans qx
 replace qm := (b1.block _ (Array.getElem?_eq_some_iff.1 qm).1).trans qm
 replace qo := (b1.block _ (Array.getElem?_eq_some_iff.1 qo).1).trans qo
 have t1 := bnext t0 b1
 clear t0 b1
 go_wp2_with (first | (with_reducible refine wpList_ldS (n := 4) (us := mC m ad cap) A_rmach kR wU wU (by assumption) wU wU ?_) | (with_reducible refine wpList_ldS (n := 4) (us := mC m ad cap) A_mach kR wU wU (by assumption) wU wU ?_) | (with_reducible refine wpList_ldB (v := .bool false) F_boolM wU wU (by assumption) (by have h : (mC m ad cap)[0]? = some (.bool m.ring) := rfl; rw [HRG.out] at h; exact h) ?_) | (with_reducible refine wpList_ldB F_sl wU wU (by assumption) wU ?_) | (with_reducible refine wpList_ldB (by first | exact F_int | fail) wU wU (by assumption) wU ?_))
 refine (HM.out _ (hR.below t1)).mono ?_
 rintro e w2 ⟨rfl, b2⟩
 replace qx := (b2.block _ (Array.getElem?_eq_some_iff.1 qx).1).trans qx
 replace qm := (b2.block _ (Array.getElem?_eq_some_iff.1 qm).1).trans qm
 replace qo := (b2.block _ (Array.getElem?_eq_some_iff.1 qo).1).trans qo
 have t2 := bnext t1 b2
 clear t1 b2
 go_wp2_with (first | (with_reducible refine wpList_ldS (n := 4) (us := mC m ad cap) A_rmach kR wU wU (by assumption) wU wU ?_) | (with_reducible refine wpList_ldS (n := 4) (us := mC m ad cap) A_mach kR wU wU (by assumption) wU wU ?_) | (with_reducible refine wpList_ldB (v := .bool false) F_boolM wU wU (by assumption) (by have h : (mC m ad cap)[0]? = some (.bool m.ring) := rfl; rw [HRG.out] at h; exact h) ?_) | (with_reducible refine wpList_ldB F_sl wU wU (by assumption) wU ?_) | (with_reducible refine wpList_ldB (by first | exact F_int | fail) wU wU (by assumption) wU ?_))
 refine (HL.out _ (hL.below t2)).mono ?_
 rintro e w3 ⟨rfl, b3⟩
 replace qx := (b3.block _ (Array.getElem?_eq_some_iff.1 qx).1).trans qx
 replace qm := (b3.block _ (Array.getElem?_eq_some_iff.1 qm).1).trans qm
 replace qo := (b3.block _ (Array.getElem?_eq_some_iff.1 qo).1).trans qo
 have t3 := bnext t2 b3
 clear t2 b3
 go_wp2_with (first | (with_reducible refine wpList_ldS (n := 4) (us := mC m ad cap) A_rmach kR wU wU (by assumption) wU wU ?_) | (with_reducible refine wpList_ldS (n := 4) (us := mC m ad cap) A_mach kR wU wU (by assumption) wU wU ?_) | (with_reducible refine wpList_ldB (v := .bool false) F_boolM wU wU (by assumption) (by have h : (mC m ad cap)[0]? = some (.bool m.ring) := rfl; rw [HRG.out] at h; exact h) ?_) | (with_reducible refine wpList_ldB F_sl wU wU (by assumption) wU ?_) | (with_reducible refine wpList_ldB (by first | exact F_int | fail) wU wU (by assumption) wU ?_))
 refine (HTS.out _).mono ?_
 rintro e w4 ⟨rfl, b4⟩
 replace qx := (b4.block _ (Array.getElem?_eq_some_iff.1 qx).1).trans qx
 replace qm := (b4.block _ (Array.getElem?_eq_some_iff.1 qm).1).trans qm
 replace qo := (b4.block _ (Array.getElem?_eq_some_iff.1 qo).1).trans qo
 have t4 := bnext t3 b4
 clear t3 b4
 go_wp2_with fail
 go_ret
 exact ⟨rfl, t4⟩
theorem ts_out8 (m : MacV) (ad al ac : Option Addr) (cap cl cc : Nat) (l C : List Int) (n : Int) (w : World) (hR : Ints w ad cap m.sw) (hL : Ints w al cl l) (hC : Ints w ac cc C) (hI : InI m.gears) (c1 : (decide (m.sw.length ≤ 19) && decide (l.length ≤ 67)) = true) (c2 : macE m = 0) (c3 : ¬ 5 < m.gears) (c4 : m.ring = false) (c5 : loadE m l = 0) (c6 : ¬ (l.length : Int) < 2) (c7 : ¬ 6 < (l.length : Int)) (c8 : n < 1) :
  Calls Tryz.prog 3 #[.agg (wC m ad cap al l cl ac C cc n)] w fun r w' => r = .returned (.bool true) ∧ Below w.heap.size w w' := by
 have CSh := fun w => rShort_any m ad cap al cl l.length w
 rw [c1] at CSh
 have HSh := hid CSh
 clear CSh
 have CM := fun w h => rCheckMachine_any m ad cap w h
 rw [c2] at CM
 have HM := hid CM
 clear CM
 have d3 : decide (5 < m.gears) = false := decide_eq_false c3
 have HRG := hid c4
 have CL := fun w h => rCheckLoad_any m ad cap al cl l w h (macE_zero c2).1.lo (macE_zero c2).1.hi
 rw [load_chk c2] at CL
 rw [c5] at CL
 have HL := hid CL
 clear CL
 have d6 : decide ((l.length : Int) < 2) = false := decide_eq_false c6
 have d7 : decide (6 < (l.length : Int)) = false := decide_eq_false c7
 have d8 : decide (n < 1) = true := decide_eq_true c8
 clear c1 c2 c3 c4 c5 c6 c7 c8
 have hb0 := bal (Below.refl w.heap.size w) (.cells (wC m ad cap al l cl ac C cc n) 26)
 have q0 := heap_alloc_new w (.cells (wC m ad cap al l cl ac C cc n) 26)
 have HTS := hid thimbleShows_any
 have hlc := hL.le
 have hlm := hL.max
 have hcc := hC.le
 have hcm := hC.max
 obtain ⟨B0, hB0⟩ : ∃ B, B = w.heap.size := ⟨_, rfl⟩
 obtain ⟨w0, hw0⟩ : ∃ w0, w0 = w.alloc (.cells (wC m ad cap al l cl ac C cc n) 26) := ⟨_, rfl⟩
 rw [← hw0] at hb0 q0
 rw [← hB0] at q0
 go_enter Tryz.func3, Tryz.ntmps3
 go_wp2_with fail
 rw [← hB0, ← hw0]
 clear hB0 hw0
 have hlt0 : B0 < w0.heap.size := (Array.getElem?_eq_some_iff.1 q0).1
 have hc4 : w0.cell? ⟨B0, 4, none⟩ = some (.slice al l.length cl) := by simp [World.cell?, q0, wC]
 refine wp_regionK (C := Below (w0).heap.size (w0)) [0, 1, 2, 3, 4, 5, 6] [_, _, _, _, _, _, _] 4 (by simp only [List.map_cons, List.map_nil, List.getElem?_toArray]; rfl) rfl kR kR kR ((Below.refl _ _).drew) ?_
 refine ⟨_, yieldsK_val wU (fun w' => by with_unfolding_all exact rfl), ?_⟩
 go_frame
 refine ⟨.agg (mC m ad cap), yieldsK_blkO (n := 4) (cs := wC m ad cap al l cl ac C cc n) A_mach kR (fun V h => (h.block _ hlt0).trans q0) rfl rfl wU wU, ?_⟩
 go_frame
 refine ⟨_, yieldsK_val wU (fun w' => by with_unfolding_all exact rfl), ?_⟩
 go_frame
 refine ⟨_, yieldsK_cell F_sl (hc4) wU wU, ?_⟩
 go_frame
 refine ⟨_, yieldsK_val wU (fun w' => by with_unfolding_all exact rfl), ?_⟩
 go_frame
 refine ⟨_, yieldsK_cell F_sl (hc4) wU wU, ?_⟩
 go_frame
 refine ⟨.int .i64 l.length, yieldsK_val wU (fun w' => by first | (go_simp; done) | (go_simp; rfl)), ?_⟩
 go_frame
 unfold wpPureK
 have hVd : ({ w0 with drawn := w0.drawn + 1 } : World) = w0.drew := rfl
 rw [hVd]
 have hb5 : Below w0.heap.size w0 w0.drew := (Below.refl _ _).drew
 obtain ⟨w1, hw1⟩ : ∃ w1, w1 = w0.drew := ⟨_, rfl⟩
 rw [← hw1] at hb5 ⊢
 clear hVd hw1
 have hSz := (SL.nil w1).box (.cells #[.bool false, .int .i64 0, .int .i64 0, .slice none 0 0] 24)
 refine wpAnyC_on [7] kR (by simp) ?_
 simp only [List.forall_mem_cons, List.not_mem_nil, false_implies, implies_true, and_true]
 refine wpOp_value (v := .pointer (some ⟨w1.heap.size, 0, none⟩)) (w' := w1.alloc (.cells #[.bool false, .int .i64 0, .int .i64 0, .slice none 0 0] 24)) (by rw [List.getElem?_toArray]; rfl) wU (by first | (go_simp; done) | (go_simp; rfl) | (simp [execOp, Act.eval, Result.andThen]; done)) ?_
 refine ⟨bal hb5 _, ?_⟩
 go_frame
 refine wpAnyC_on [8] kR (by simp) ?_
 simp only [List.forall_mem_cons, List.not_mem_nil, false_implies, implies_true, and_true]
 refine wpOp_of_list (by rw [List.getElem?_toArray]; rfl) ?_
 ((with_reducible refine wpList_stoR (us := mC m ad cap) 0 wU wU (hSz) wU kR wU wU ?_); intro wa hSa)
 refine ⟨bnext hb5 hSa.b, ?_⟩
 go_frame
 have hba := bnext hb5 hSa.b
 refine wpAnyC_rest [9, 10] [_, _] rfl (by simp only [List.map_cons, List.map_nil, List.getElem?_toArray]; rfl) kR kR kR (hba) ?_
 repeat (refine ⟨_, .inl ⟨by with_unfolding_all rfl, fun w' _ => by with_unfolding_all exact rfl⟩, ?_⟩; go_frame)
 unfold wpPure
 refine of_wpList_nil (P := Tryz.prog) (ops := #[]) ?_
 have qm := (hSa.blk 0 rfl).1
 have ta := bnext hb0 hba
 have qx := (hba.block _ hlt0).trans q0
 have qmz := hSa.z
 clear hb0 hb5 hSz hc4 hlt0 q0 hba
 obtain ⟨Bm, hBm⟩ : ∃ Bm, Bm = w1.heap.size := ⟨_, rfl⟩
 rw [← hBm] at qm ⊢
 clear hSa hBm qmz
 have tb := bal (Below.refl wa.heap.size wa) (.cells (mC m ad cap) 27)
 have qo := heap_alloc_new wa (.cells (mC m ad cap) 27)
 have qm0 := qm
 replace qx := (tb.block _ (Array.getElem?_eq_some_iff.1 qx).1).trans qx
 replace qm := (tb.block _ (Array.getElem?_eq_some_iff.1 qm).1).trans qm
 have t0 := bnext ta tb
 clear ta tb
 go_wp2_with (first | (with_reducible refine wpList_ldS (n := 4) (us := mC m ad cap) A_rmach kR wU wU (by assumption) wU wU ?_) | (with_reducible refine wpList_ldS (n := 4) (us := mC m ad cap) A_mach kR wU wU (by assumption) wU wU ?_) | (with_reducible refine wpList_ldB (v := .bool false) F_boolM wU wU (by assumption) (by have h : (mC m ad cap)[0]? = some (.bool m.ring) := rfl; rw [HRG.out] at h; exact h) ?_) | (with_reducible refine wpList_ldB F_sl wU wU (by assumption) wU ?_) | (with_reducible refine wpList_ldB (by first | exact F_int | fail) wU wU (by assumption) wU ?_))
 refine (HSh.out _).mono ?_
 rintro e w1 ⟨rfl, b1⟩
 replace qx := (b1.block _ (Array.getElem?_eq_some_iff.1 qx).1).trans qx
 replace qm := (b1.block _ (Array.getElem?_eq_some_iff.1 qm).1).trans qm
 replace qo := (b1.block _ (Array.getElem?_eq_some_iff.1 qo).1).trans qo
 have t1 := bnext t0 b1
 clear t0 b1
 go_wp2_with (first | (with_reducible refine wpList_ldS (n := 4) (us := mC m ad cap) A_rmach kR wU wU (by assumption) wU wU ?_) | (with_reducible refine wpList_ldS (n := 4) (us := mC m ad cap) A_mach kR wU wU (by assumption) wU wU ?_) | (with_reducible refine wpList_ldB (v := .bool false) F_boolM wU wU (by assumption) (by have h : (mC m ad cap)[0]? = some (.bool m.ring) := rfl; rw [HRG.out] at h; exact h) ?_) | (with_reducible refine wpList_ldB F_sl wU wU (by assumption) wU ?_) | (with_reducible refine wpList_ldB (by first | exact F_int | fail) wU wU (by assumption) wU ?_))
 refine (HM.out _ (hR.below t1)).mono ?_
 rintro e w2 ⟨rfl, b2⟩
 replace qx := (b2.block _ (Array.getElem?_eq_some_iff.1 qx).1).trans qx
 replace qm := (b2.block _ (Array.getElem?_eq_some_iff.1 qm).1).trans qm
 replace qo := (b2.block _ (Array.getElem?_eq_some_iff.1 qo).1).trans qo
 have t2 := bnext t1 b2
 clear t1 b2
 go_wp2_with (first | (with_reducible refine wpList_ldS (n := 4) (us := mC m ad cap) A_rmach kR wU wU (by assumption) wU wU ?_) | (with_reducible refine wpList_ldS (n := 4) (us := mC m ad cap) A_mach kR wU wU (by assumption) wU wU ?_) | (with_reducible refine wpList_ldB (v := .bool false) F_boolM wU wU (by assumption) (by have h : (mC m ad cap)[0]? = some (.bool m.ring) := rfl; rw [HRG.out] at h; exact h) ?_) | (with_reducible refine wpList_ldB F_sl wU wU (by assumption) wU ?_) | (with_reducible refine wpList_ldB (by first | exact F_int | fail) wU wU (by assumption) wU ?_))
 refine (HL.out _ (hL.below t2)).mono ?_
 rintro e w3 ⟨rfl, b3⟩
 replace qx := (b3.block _ (Array.getElem?_eq_some_iff.1 qx).1).trans qx
 replace qm := (b3.block _ (Array.getElem?_eq_some_iff.1 qm).1).trans qm
 replace qo := (b3.block _ (Array.getElem?_eq_some_iff.1 qo).1).trans qo
 have t3 := bnext t2 b3
 clear t2 b3
 go_wp2_with (first | (with_reducible refine wpList_ldS (n := 4) (us := mC m ad cap) A_rmach kR wU wU (by assumption) wU wU ?_) | (with_reducible refine wpList_ldS (n := 4) (us := mC m ad cap) A_mach kR wU wU (by assumption) wU wU ?_) | (with_reducible refine wpList_ldB (v := .bool false) F_boolM wU wU (by assumption) (by have h : (mC m ad cap)[0]? = some (.bool m.ring) := rfl; rw [HRG.out] at h; exact h) ?_) | (with_reducible refine wpList_ldB F_sl wU wU (by assumption) wU ?_) | (with_reducible refine wpList_ldB (by first | exact F_int | fail) wU wU (by assumption) wU ?_))
 refine (HTS.out _).mono ?_
 rintro e w4 ⟨rfl, b4⟩
 replace qx := (b4.block _ (Array.getElem?_eq_some_iff.1 qx).1).trans qx
 replace qm := (b4.block _ (Array.getElem?_eq_some_iff.1 qm).1).trans qm
 replace qo := (b4.block _ (Array.getElem?_eq_some_iff.1 qo).1).trans qo
 have t4 := bnext t3 b4
 clear t3 b4
 go_wp2_with fail
 go_ret
 exact ⟨rfl, t4⟩
theorem ts_out9 (m : MacV) (ad al ac : Option Addr) (cap cl cc : Nat) (l C : List Int) (n : Int) (w : World) (hR : Ints w ad cap m.sw) (hL : Ints w al cl l) (hC : Ints w ac cc C) (hI : InI m.gears) (c1 : (decide (m.sw.length ≤ 19) && decide (l.length ≤ 67)) = true) (c2 : macE m = 0) (c3 : ¬ 5 < m.gears) (c4 : m.ring = false) (c5 : loadE m l = 0) (c6 : ¬ (l.length : Int) < 2) (c7 : ¬ 6 < (l.length : Int)) (c8 : ¬ n < 1) (c9 : 16 < n) :
  Calls Tryz.prog 3 #[.agg (wC m ad cap al l cl ac C cc n)] w fun r w' => r = .returned (.bool true) ∧ Below w.heap.size w w' := by
 have CSh := fun w => rShort_any m ad cap al cl l.length w
 rw [c1] at CSh
 have HSh := hid CSh
 clear CSh
 have CM := fun w h => rCheckMachine_any m ad cap w h
 rw [c2] at CM
 have HM := hid CM
 clear CM
 have d3 : decide (5 < m.gears) = false := decide_eq_false c3
 have HRG := hid c4
 have CL := fun w h => rCheckLoad_any m ad cap al cl l w h (macE_zero c2).1.lo (macE_zero c2).1.hi
 rw [load_chk c2] at CL
 rw [c5] at CL
 have HL := hid CL
 clear CL
 have d6 : decide ((l.length : Int) < 2) = false := decide_eq_false c6
 have d7 : decide (6 < (l.length : Int)) = false := decide_eq_false c7
 have d8 : decide (n < 1) = false := decide_eq_false c8
 have d9 : decide (16 < n) = true := decide_eq_true c9
 clear c1 c2 c3 c4 c5 c6 c7 c8 c9
 have hb0 := bal (Below.refl w.heap.size w) (.cells (wC m ad cap al l cl ac C cc n) 26)
 have q0 := heap_alloc_new w (.cells (wC m ad cap al l cl ac C cc n) 26)
 have HTS := hid thimbleShows_any
 have hlc := hL.le
 have hlm := hL.max
 have hcc := hC.le
 have hcm := hC.max
 obtain ⟨B0, hB0⟩ : ∃ B, B = w.heap.size := ⟨_, rfl⟩
 obtain ⟨w0, hw0⟩ : ∃ w0, w0 = w.alloc (.cells (wC m ad cap al l cl ac C cc n) 26) := ⟨_, rfl⟩
 rw [← hw0] at hb0 q0
 rw [← hB0] at q0
 go_enter Tryz.func3, Tryz.ntmps3
 go_wp2_with fail
 rw [← hB0, ← hw0]
 clear hB0 hw0
 have hlt0 : B0 < w0.heap.size := (Array.getElem?_eq_some_iff.1 q0).1
 have hc4 : w0.cell? ⟨B0, 4, none⟩ = some (.slice al l.length cl) := by simp [World.cell?, q0, wC]
 refine wp_regionK (C := Below (w0).heap.size (w0)) [0, 1, 2, 3, 4, 5, 6] [_, _, _, _, _, _, _] 4 (by simp only [List.map_cons, List.map_nil, List.getElem?_toArray]; rfl) rfl kR kR kR ((Below.refl _ _).drew) ?_
 refine ⟨_, yieldsK_val wU (fun w' => by with_unfolding_all exact rfl), ?_⟩
 go_frame
 refine ⟨.agg (mC m ad cap), yieldsK_blkO (n := 4) (cs := wC m ad cap al l cl ac C cc n) A_mach kR (fun V h => (h.block _ hlt0).trans q0) rfl rfl wU wU, ?_⟩
 go_frame
 refine ⟨_, yieldsK_val wU (fun w' => by with_unfolding_all exact rfl), ?_⟩
 go_frame
 refine ⟨_, yieldsK_cell F_sl (hc4) wU wU, ?_⟩
 go_frame
 refine ⟨_, yieldsK_val wU (fun w' => by with_unfolding_all exact rfl), ?_⟩
 go_frame
 refine ⟨_, yieldsK_cell F_sl (hc4) wU wU, ?_⟩
 go_frame
 refine ⟨.int .i64 l.length, yieldsK_val wU (fun w' => by first | (go_simp; done) | (go_simp; rfl)), ?_⟩
 go_frame
 unfold wpPureK
 have hVd : ({ w0 with drawn := w0.drawn + 1 } : World) = w0.drew := rfl
 rw [hVd]
 have hb5 : Below w0.heap.size w0 w0.drew := (Below.refl _ _).drew
 obtain ⟨w1, hw1⟩ : ∃ w1, w1 = w0.drew := ⟨_, rfl⟩
 rw [← hw1] at hb5 ⊢
 clear hVd hw1
 have hSz := (SL.nil w1).box (.cells #[.bool false, .int .i64 0, .int .i64 0, .slice none 0 0] 24)
 refine wpAnyC_on [7] kR (by simp) ?_
 simp only [List.forall_mem_cons, List.not_mem_nil, false_implies, implies_true, and_true]
 refine wpOp_value (v := .pointer (some ⟨w1.heap.size, 0, none⟩)) (w' := w1.alloc (.cells #[.bool false, .int .i64 0, .int .i64 0, .slice none 0 0] 24)) (by rw [List.getElem?_toArray]; rfl) wU (by first | (go_simp; done) | (go_simp; rfl) | (simp [execOp, Act.eval, Result.andThen]; done)) ?_
 refine ⟨bal hb5 _, ?_⟩
 go_frame
 refine wpAnyC_on [8] kR (by simp) ?_
 simp only [List.forall_mem_cons, List.not_mem_nil, false_implies, implies_true, and_true]
 refine wpOp_of_list (by rw [List.getElem?_toArray]; rfl) ?_
 ((with_reducible refine wpList_stoR (us := mC m ad cap) 0 wU wU (hSz) wU kR wU wU ?_); intro wa hSa)
 refine ⟨bnext hb5 hSa.b, ?_⟩
 go_frame
 have hba := bnext hb5 hSa.b
 refine wpAnyC_rest [9, 10] [_, _] rfl (by simp only [List.map_cons, List.map_nil, List.getElem?_toArray]; rfl) kR kR kR (hba) ?_
 repeat (refine ⟨_, .inl ⟨by with_unfolding_all rfl, fun w' _ => by with_unfolding_all exact rfl⟩, ?_⟩; go_frame)
 unfold wpPure
 refine of_wpList_nil (P := Tryz.prog) (ops := #[]) ?_
 have qm := (hSa.blk 0 rfl).1
 have ta := bnext hb0 hba
 have qx := (hba.block _ hlt0).trans q0
 have qmz := hSa.z
 clear hb0 hb5 hSz hc4 hlt0 q0 hba
 obtain ⟨Bm, hBm⟩ : ∃ Bm, Bm = w1.heap.size := ⟨_, rfl⟩
 rw [← hBm] at qm ⊢
 clear hSa hBm qmz
 have tb := bal (Below.refl wa.heap.size wa) (.cells (mC m ad cap) 27)
 have qo := heap_alloc_new wa (.cells (mC m ad cap) 27)
 have qm0 := qm
 replace qx := (tb.block _ (Array.getElem?_eq_some_iff.1 qx).1).trans qx
 replace qm := (tb.block _ (Array.getElem?_eq_some_iff.1 qm).1).trans qm
 have t0 := bnext ta tb
 clear ta tb
 go_wp2_with (first | (with_reducible refine wpList_ldS (n := 4) (us := mC m ad cap) A_rmach kR wU wU (by assumption) wU wU ?_) | (with_reducible refine wpList_ldS (n := 4) (us := mC m ad cap) A_mach kR wU wU (by assumption) wU wU ?_) | (with_reducible refine wpList_ldB (v := .bool false) F_boolM wU wU (by assumption) (by have h : (mC m ad cap)[0]? = some (.bool m.ring) := rfl; rw [HRG.out] at h; exact h) ?_) | (with_reducible refine wpList_ldB F_sl wU wU (by assumption) wU ?_) | (with_reducible refine wpList_ldB (by first | exact F_int | fail) wU wU (by assumption) wU ?_))
 refine (HSh.out _).mono ?_
 rintro e w1 ⟨rfl, b1⟩
 replace qx := (b1.block _ (Array.getElem?_eq_some_iff.1 qx).1).trans qx
 replace qm := (b1.block _ (Array.getElem?_eq_some_iff.1 qm).1).trans qm
 replace qo := (b1.block _ (Array.getElem?_eq_some_iff.1 qo).1).trans qo
 have t1 := bnext t0 b1
 clear t0 b1
 go_wp2_with (first | (with_reducible refine wpList_ldS (n := 4) (us := mC m ad cap) A_rmach kR wU wU (by assumption) wU wU ?_) | (with_reducible refine wpList_ldS (n := 4) (us := mC m ad cap) A_mach kR wU wU (by assumption) wU wU ?_) | (with_reducible refine wpList_ldB (v := .bool false) F_boolM wU wU (by assumption) (by have h : (mC m ad cap)[0]? = some (.bool m.ring) := rfl; rw [HRG.out] at h; exact h) ?_) | (with_reducible refine wpList_ldB F_sl wU wU (by assumption) wU ?_) | (with_reducible refine wpList_ldB (by first | exact F_int | fail) wU wU (by assumption) wU ?_))
 refine (HM.out _ (hR.below t1)).mono ?_
 rintro e w2 ⟨rfl, b2⟩
 replace qx := (b2.block _ (Array.getElem?_eq_some_iff.1 qx).1).trans qx
 replace qm := (b2.block _ (Array.getElem?_eq_some_iff.1 qm).1).trans qm
 replace qo := (b2.block _ (Array.getElem?_eq_some_iff.1 qo).1).trans qo
 have t2 := bnext t1 b2
 clear t1 b2
 go_wp2_with (first | (with_reducible refine wpList_ldS (n := 4) (us := mC m ad cap) A_rmach kR wU wU (by assumption) wU wU ?_) | (with_reducible refine wpList_ldS (n := 4) (us := mC m ad cap) A_mach kR wU wU (by assumption) wU wU ?_) | (with_reducible refine wpList_ldB (v := .bool false) F_boolM wU wU (by assumption) (by have h : (mC m ad cap)[0]? = some (.bool m.ring) := rfl; rw [HRG.out] at h; exact h) ?_) | (with_reducible refine wpList_ldB F_sl wU wU (by assumption) wU ?_) | (with_reducible refine wpList_ldB (by first | exact F_int | fail) wU wU (by assumption) wU ?_))
 refine (HL.out _ (hL.below t2)).mono ?_
 rintro e w3 ⟨rfl, b3⟩
 replace qx := (b3.block _ (Array.getElem?_eq_some_iff.1 qx).1).trans qx
 replace qm := (b3.block _ (Array.getElem?_eq_some_iff.1 qm).1).trans qm
 replace qo := (b3.block _ (Array.getElem?_eq_some_iff.1 qo).1).trans qo
 have t3 := bnext t2 b3
 clear t2 b3
 go_wp2_with (first | (with_reducible refine wpList_ldS (n := 4) (us := mC m ad cap) A_rmach kR wU wU (by assumption) wU wU ?_) | (with_reducible refine wpList_ldS (n := 4) (us := mC m ad cap) A_mach kR wU wU (by assumption) wU wU ?_) | (with_reducible refine wpList_ldB (v := .bool false) F_boolM wU wU (by assumption) (by have h : (mC m ad cap)[0]? = some (.bool m.ring) := rfl; rw [HRG.out] at h; exact h) ?_) | (with_reducible refine wpList_ldB F_sl wU wU (by assumption) wU ?_) | (with_reducible refine wpList_ldB (by first | exact F_int | fail) wU wU (by assumption) wU ?_))
 refine (HTS.out _).mono ?_
 rintro e w4 ⟨rfl, b4⟩
 replace qx := (b4.block _ (Array.getElem?_eq_some_iff.1 qx).1).trans qx
 replace qm := (b4.block _ (Array.getElem?_eq_some_iff.1 qm).1).trans qm
 replace qo := (b4.block _ (Array.getElem?_eq_some_iff.1 qo).1).trans qo
 have t4 := bnext t3 b4
 clear t3 b4
 go_wp2_with fail
 go_ret
 exact ⟨rfl, t4⟩
theorem ts_out10 (m : MacV) (ad al ac : Option Addr) (cap cl cc : Nat) (l C : List Int) (n : Int) (w : World) (hR : Ints w ad cap m.sw) (hL : Ints w al cl l) (hC : Ints w ac cc C) (hI : InI m.gears) (c1 : (decide (m.sw.length ≤ 19) && decide (l.length ≤ 67)) = true) (c2 : macE m = 0) (c3 : ¬ 5 < m.gears) (c4 : m.ring = false) (c5 : loadE m l = 0) (c6 : ¬ (l.length : Int) < 2) (c7 : ¬ 6 < (l.length : Int)) (c8 : ¬ n < 1) (c9 : ¬ 16 < n) (c10 : 30 < (C.length : Int)) :
  Calls Tryz.prog 3 #[.agg (wC m ad cap al l cl ac C cc n)] w fun r w' => r = .returned (.bool true) ∧ Below w.heap.size w w' := by
 have CSh := fun w => rShort_any m ad cap al cl l.length w
 rw [c1] at CSh
 have HSh := hid CSh
 clear CSh
 have CM := fun w h => rCheckMachine_any m ad cap w h
 rw [c2] at CM
 have HM := hid CM
 clear CM
 have d3 : decide (5 < m.gears) = false := decide_eq_false c3
 have HRG := hid c4
 have CL := fun w h => rCheckLoad_any m ad cap al cl l w h (macE_zero c2).1.lo (macE_zero c2).1.hi
 rw [load_chk c2] at CL
 rw [c5] at CL
 have HL := hid CL
 clear CL
 have d6 : decide ((l.length : Int) < 2) = false := decide_eq_false c6
 have d7 : decide (6 < (l.length : Int)) = false := decide_eq_false c7
 have d8 : decide (n < 1) = false := decide_eq_false c8
 have d9 : decide (16 < n) = false := decide_eq_false c9
 have d10 : decide (30 < (C.length : Int)) = true := decide_eq_true c10
 clear c1 c2 c3 c4 c5 c6 c7 c8 c9 c10
 have hb0 := bal (Below.refl w.heap.size w) (.cells (wC m ad cap al l cl ac C cc n) 26)
 have q0 := heap_alloc_new w (.cells (wC m ad cap al l cl ac C cc n) 26)
 have HTS := hid thimbleShows_any
 have hlc := hL.le
 have hlm := hL.max
 have hcc := hC.le
 have hcm := hC.max
 obtain ⟨B0, hB0⟩ : ∃ B, B = w.heap.size := ⟨_, rfl⟩
 obtain ⟨w0, hw0⟩ : ∃ w0, w0 = w.alloc (.cells (wC m ad cap al l cl ac C cc n) 26) := ⟨_, rfl⟩
 rw [← hw0] at hb0 q0
 rw [← hB0] at q0
 go_enter Tryz.func3, Tryz.ntmps3
 go_wp2_with fail
 rw [← hB0, ← hw0]
 clear hB0 hw0
 have hlt0 : B0 < w0.heap.size := (Array.getElem?_eq_some_iff.1 q0).1
 have hc4 : w0.cell? ⟨B0, 4, none⟩ = some (.slice al l.length cl) := by simp [World.cell?, q0, wC]
 refine wp_regionK (C := Below (w0).heap.size (w0)) [0, 1, 2, 3, 4, 5, 6] [_, _, _, _, _, _, _] 4 (by simp only [List.map_cons, List.map_nil, List.getElem?_toArray]; rfl) rfl kR kR kR ((Below.refl _ _).drew) ?_
 refine ⟨_, yieldsK_val wU (fun w' => by with_unfolding_all exact rfl), ?_⟩
 go_frame
 refine ⟨.agg (mC m ad cap), yieldsK_blkO (n := 4) (cs := wC m ad cap al l cl ac C cc n) A_mach kR (fun V h => (h.block _ hlt0).trans q0) rfl rfl wU wU, ?_⟩
 go_frame
 refine ⟨_, yieldsK_val wU (fun w' => by with_unfolding_all exact rfl), ?_⟩
 go_frame
 refine ⟨_, yieldsK_cell F_sl (hc4) wU wU, ?_⟩
 go_frame
 refine ⟨_, yieldsK_val wU (fun w' => by with_unfolding_all exact rfl), ?_⟩
 go_frame
 refine ⟨_, yieldsK_cell F_sl (hc4) wU wU, ?_⟩
 go_frame
 refine ⟨.int .i64 l.length, yieldsK_val wU (fun w' => by first | (go_simp; done) | (go_simp; rfl)), ?_⟩
 go_frame
 unfold wpPureK
 have hVd : ({ w0 with drawn := w0.drawn + 1 } : World) = w0.drew := rfl
 rw [hVd]
 have hb5 : Below w0.heap.size w0 w0.drew := (Below.refl _ _).drew
 obtain ⟨w1, hw1⟩ : ∃ w1, w1 = w0.drew := ⟨_, rfl⟩
 rw [← hw1] at hb5 ⊢
 clear hVd hw1
 have hSz := (SL.nil w1).box (.cells #[.bool false, .int .i64 0, .int .i64 0, .slice none 0 0] 24)
 refine wpAnyC_on [7] kR (by simp) ?_
 simp only [List.forall_mem_cons, List.not_mem_nil, false_implies, implies_true, and_true]
 refine wpOp_value (v := .pointer (some ⟨w1.heap.size, 0, none⟩)) (w' := w1.alloc (.cells #[.bool false, .int .i64 0, .int .i64 0, .slice none 0 0] 24)) (by rw [List.getElem?_toArray]; rfl) wU (by first | (go_simp; done) | (go_simp; rfl) | (simp [execOp, Act.eval, Result.andThen]; done)) ?_
 refine ⟨bal hb5 _, ?_⟩
 go_frame
 refine wpAnyC_on [8] kR (by simp) ?_
 simp only [List.forall_mem_cons, List.not_mem_nil, false_implies, implies_true, and_true]
 refine wpOp_of_list (by rw [List.getElem?_toArray]; rfl) ?_
 ((with_reducible refine wpList_stoR (us := mC m ad cap) 0 wU wU (hSz) wU kR wU wU ?_); intro wa hSa)
 refine ⟨bnext hb5 hSa.b, ?_⟩
 go_frame
 have hba := bnext hb5 hSa.b
 refine wpAnyC_rest [9, 10] [_, _] rfl (by simp only [List.map_cons, List.map_nil, List.getElem?_toArray]; rfl) kR kR kR (hba) ?_
 repeat (refine ⟨_, .inl ⟨by with_unfolding_all rfl, fun w' _ => by with_unfolding_all exact rfl⟩, ?_⟩; go_frame)
 unfold wpPure
 refine of_wpList_nil (P := Tryz.prog) (ops := #[]) ?_
 have qm := (hSa.blk 0 rfl).1
 have ta := bnext hb0 hba
 have qx := (hba.block _ hlt0).trans q0
 have qmz := hSa.z
 clear hb0 hb5 hSz hc4 hlt0 q0 hba
 obtain ⟨Bm, hBm⟩ : ∃ Bm, Bm = w1.heap.size := ⟨_, rfl⟩
 rw [← hBm] at qm ⊢
 clear hSa hBm qmz
 have tb := bal (Below.refl wa.heap.size wa) (.cells (mC m ad cap) 27)
 have qo := heap_alloc_new wa (.cells (mC m ad cap) 27)
 have qm0 := qm
 replace qx := (tb.block _ (Array.getElem?_eq_some_iff.1 qx).1).trans qx
 replace qm := (tb.block _ (Array.getElem?_eq_some_iff.1 qm).1).trans qm
 have t0 := bnext ta tb
 clear ta tb
 go_wp2_with (first | (with_reducible refine wpList_ldS (n := 4) (us := mC m ad cap) A_rmach kR wU wU (by assumption) wU wU ?_) | (with_reducible refine wpList_ldS (n := 4) (us := mC m ad cap) A_mach kR wU wU (by assumption) wU wU ?_) | (with_reducible refine wpList_ldB (v := .bool false) F_boolM wU wU (by assumption) (by have h : (mC m ad cap)[0]? = some (.bool m.ring) := rfl; rw [HRG.out] at h; exact h) ?_) | (with_reducible refine wpList_ldB F_sl wU wU (by assumption) wU ?_) | (with_reducible refine wpList_ldB (by first | exact F_int | fail) wU wU (by assumption) wU ?_))
 refine (HSh.out _).mono ?_
 rintro e w1 ⟨rfl, b1⟩
 replace qx := (b1.block _ (Array.getElem?_eq_some_iff.1 qx).1).trans qx
 replace qm := (b1.block _ (Array.getElem?_eq_some_iff.1 qm).1).trans qm
 replace qo := (b1.block _ (Array.getElem?_eq_some_iff.1 qo).1).trans qo
 have t1 := bnext t0 b1
 clear t0 b1
 go_wp2_with (first | (with_reducible refine wpList_ldS (n := 4) (us := mC m ad cap) A_rmach kR wU wU (by assumption) wU wU ?_) | (with_reducible refine wpList_ldS (n := 4) (us := mC m ad cap) A_mach kR wU wU (by assumption) wU wU ?_) | (with_reducible refine wpList_ldB (v := .bool false) F_boolM wU wU (by assumption) (by have h : (mC m ad cap)[0]? = some (.bool m.ring) := rfl; rw [HRG.out] at h; exact h) ?_) | (with_reducible refine wpList_ldB F_sl wU wU (by assumption) wU ?_) | (with_reducible refine wpList_ldB (by first | exact F_int | fail) wU wU (by assumption) wU ?_))
 refine (HM.out _ (hR.below t1)).mono ?_
 rintro e w2 ⟨rfl, b2⟩
 replace qx := (b2.block _ (Array.getElem?_eq_some_iff.1 qx).1).trans qx
 replace qm := (b2.block _ (Array.getElem?_eq_some_iff.1 qm).1).trans qm
 replace qo := (b2.block _ (Array.getElem?_eq_some_iff.1 qo).1).trans qo
 have t2 := bnext t1 b2
 clear t1 b2
 go_wp2_with (first | (with_reducible refine wpList_ldS (n := 4) (us := mC m ad cap) A_rmach kR wU wU (by assumption) wU wU ?_) | (with_reducible refine wpList_ldS (n := 4) (us := mC m ad cap) A_mach kR wU wU (by assumption) wU wU ?_) | (with_reducible refine wpList_ldB (v := .bool false) F_boolM wU wU (by assumption) (by have h : (mC m ad cap)[0]? = some (.bool m.ring) := rfl; rw [HRG.out] at h; exact h) ?_) | (with_reducible refine wpList_ldB F_sl wU wU (by assumption) wU ?_) | (with_reducible refine wpList_ldB (by first | exact F_int | fail) wU wU (by assumption) wU ?_))
 refine (HL.out _ (hL.below t2)).mono ?_
 rintro e w3 ⟨rfl, b3⟩
 replace qx := (b3.block _ (Array.getElem?_eq_some_iff.1 qx).1).trans qx
 replace qm := (b3.block _ (Array.getElem?_eq_some_iff.1 qm).1).trans qm
 replace qo := (b3.block _ (Array.getElem?_eq_some_iff.1 qo).1).trans qo
 have t3 := bnext t2 b3
 clear t2 b3
 go_wp2_with (first | (with_reducible refine wpList_ldS (n := 4) (us := mC m ad cap) A_rmach kR wU wU (by assumption) wU wU ?_) | (with_reducible refine wpList_ldS (n := 4) (us := mC m ad cap) A_mach kR wU wU (by assumption) wU wU ?_) | (with_reducible refine wpList_ldB (v := .bool false) F_boolM wU wU (by assumption) (by have h : (mC m ad cap)[0]? = some (.bool m.ring) := rfl; rw [HRG.out] at h; exact h) ?_) | (with_reducible refine wpList_ldB F_sl wU wU (by assumption) wU ?_) | (with_reducible refine wpList_ldB (by first | exact F_int | fail) wU wU (by assumption) wU ?_))
 refine (HTS.out _).mono ?_
 rintro e w4 ⟨rfl, b4⟩
 replace qx := (b4.block _ (Array.getElem?_eq_some_iff.1 qx).1).trans qx
 replace qm := (b4.block _ (Array.getElem?_eq_some_iff.1 qm).1).trans qm
 replace qo := (b4.block _ (Array.getElem?_eq_some_iff.1 qo).1).trans qo
 have t4 := bnext t3 b4
 clear t3 b4
 go_wp2_with fail
 go_ret
 exact ⟨rfl, t4⟩
theorem ts_out11 (m : MacV) (ad al ac : Option Addr) (cap cl cc : Nat) (l C : List Int) (n : Int) (w : World) (hR : Ints w ad cap m.sw) (hL : Ints w al cl l) (hC : Ints w ac cc C) (hI : InI m.gears) (c1 : (decide (m.sw.length ≤ 19) && decide (l.length ≤ 67)) = true) (c2 : macE m = 0) (c3 : ¬ 5 < m.gears) (c4 : m.ring = false) (c5 : loadE m l = 0) (c6 : ¬ (l.length : Int) < 2) (c7 : ¬ 6 < (l.length : Int)) (c8 : ¬ n < 1) (c9 : ¬ 16 < n) (c10 : ¬ 30 < (C.length : Int)) (c11 : placeE (l.length : Int) C ≠ 0) :
  Calls Tryz.prog 3 #[.agg (wC m ad cap al l cl ac C cc n)] w fun r w' => r = .returned (.bool true) ∧ Below w.heap.size w w' := by
 have CSh := fun w => rShort_any m ad cap al cl l.length w
 rw [c1] at CSh
 have HSh := hid CSh
 clear CSh
 have CM := fun w h => rCheckMachine_any m ad cap w h
 rw [c2] at CM
 have HM := hid CM
 clear CM
 have d3 : decide (5 < m.gears) = false := decide_eq_false c3
 have HRG := hid c4
 have CL := fun w h => rCheckLoad_any m ad cap al cl l w h (macE_zero c2).1.lo (macE_zero c2).1.hi
 rw [load_chk c2] at CL
 rw [c5] at CL
 have HL := hid CL
 clear CL
 have d6 : decide ((l.length : Int) < 2) = false := decide_eq_false c6
 have d7 : decide (6 < (l.length : Int)) = false := decide_eq_false c7
 have d8 : decide (n < 1) = false := decide_eq_false c8
 have d9 : decide (16 < n) = false := decide_eq_false c9
 have d10 : decide (30 < (C.length : Int)) = false := decide_eq_false c10
 have CP := fun w h => rCheckPlacing_any (l.length : Int) ac cc C w h
 obtain ⟨E11, hE11⟩ : ∃ E, E = placeE (l.length : Int) C := ⟨_, rfl⟩
 rw [← hE11] at CP c11
 have hne11 : (E11 == 0) = false := by simpa using c11
 have hne11' : (E11 != 0) = true := by simpa using c11
 have HP := hid CP
 clear CP hE11
 clear c1 c2 c3 c4 c5 c6 c7 c8 c9 c10 c11
 have hb0 := bal (Below.refl w.heap.size w) (.cells (wC m ad cap al l cl ac C cc n) 26)
 have q0 := heap_alloc_new w (.cells (wC m ad cap al l cl ac C cc n) 26)
 have HTS := hid thimbleShows_any
 have hlc := hL.le
 have hlm := hL.max
 have hcc := hC.le
 have hcm := hC.max
 obtain ⟨B0, hB0⟩ : ∃ B, B = w.heap.size := ⟨_, rfl⟩
 obtain ⟨w0, hw0⟩ : ∃ w0, w0 = w.alloc (.cells (wC m ad cap al l cl ac C cc n) 26) := ⟨_, rfl⟩
 rw [← hw0] at hb0 q0
 rw [← hB0] at q0
 go_enter Tryz.func3, Tryz.ntmps3
 go_wp2_with fail
 rw [← hB0, ← hw0]
 clear hB0 hw0
 have hlt0 : B0 < w0.heap.size := (Array.getElem?_eq_some_iff.1 q0).1
 have hc4 : w0.cell? ⟨B0, 4, none⟩ = some (.slice al l.length cl) := by simp [World.cell?, q0, wC]
 refine wp_regionK (C := Below (w0).heap.size (w0)) [0, 1, 2, 3, 4, 5, 6] [_, _, _, _, _, _, _] 4 (by simp only [List.map_cons, List.map_nil, List.getElem?_toArray]; rfl) rfl kR kR kR ((Below.refl _ _).drew) ?_
 refine ⟨_, yieldsK_val wU (fun w' => by with_unfolding_all exact rfl), ?_⟩
 go_frame
 refine ⟨.agg (mC m ad cap), yieldsK_blkO (n := 4) (cs := wC m ad cap al l cl ac C cc n) A_mach kR (fun V h => (h.block _ hlt0).trans q0) rfl rfl wU wU, ?_⟩
 go_frame
 refine ⟨_, yieldsK_val wU (fun w' => by with_unfolding_all exact rfl), ?_⟩
 go_frame
 refine ⟨_, yieldsK_cell F_sl (hc4) wU wU, ?_⟩
 go_frame
 refine ⟨_, yieldsK_val wU (fun w' => by with_unfolding_all exact rfl), ?_⟩
 go_frame
 refine ⟨_, yieldsK_cell F_sl (hc4) wU wU, ?_⟩
 go_frame
 refine ⟨.int .i64 l.length, yieldsK_val wU (fun w' => by first | (go_simp; done) | (go_simp; rfl)), ?_⟩
 go_frame
 unfold wpPureK
 have hVd : ({ w0 with drawn := w0.drawn + 1 } : World) = w0.drew := rfl
 rw [hVd]
 have hb5 : Below w0.heap.size w0 w0.drew := (Below.refl _ _).drew
 obtain ⟨w1, hw1⟩ : ∃ w1, w1 = w0.drew := ⟨_, rfl⟩
 rw [← hw1] at hb5 ⊢
 clear hVd hw1
 have hSz := (SL.nil w1).box (.cells #[.bool false, .int .i64 0, .int .i64 0, .slice none 0 0] 24)
 refine wpAnyC_on [7] kR (by simp) ?_
 simp only [List.forall_mem_cons, List.not_mem_nil, false_implies, implies_true, and_true]
 refine wpOp_value (v := .pointer (some ⟨w1.heap.size, 0, none⟩)) (w' := w1.alloc (.cells #[.bool false, .int .i64 0, .int .i64 0, .slice none 0 0] 24)) (by rw [List.getElem?_toArray]; rfl) wU (by first | (go_simp; done) | (go_simp; rfl) | (simp [execOp, Act.eval, Result.andThen]; done)) ?_
 refine ⟨bal hb5 _, ?_⟩
 go_frame
 refine wpAnyC_on [8] kR (by simp) ?_
 simp only [List.forall_mem_cons, List.not_mem_nil, false_implies, implies_true, and_true]
 refine wpOp_of_list (by rw [List.getElem?_toArray]; rfl) ?_
 ((with_reducible refine wpList_stoR (us := mC m ad cap) 0 wU wU (hSz) wU kR wU wU ?_); intro wa hSa)
 refine ⟨bnext hb5 hSa.b, ?_⟩
 go_frame
 have hba := bnext hb5 hSa.b
 refine wpAnyC_rest [9, 10] [_, _] rfl (by simp only [List.map_cons, List.map_nil, List.getElem?_toArray]; rfl) kR kR kR (hba) ?_
 repeat (refine ⟨_, .inl ⟨by with_unfolding_all rfl, fun w' _ => by with_unfolding_all exact rfl⟩, ?_⟩; go_frame)
 unfold wpPure
 refine of_wpList_nil (P := Tryz.prog) (ops := #[]) ?_
 have qm := (hSa.blk 0 rfl).1
 have ta := bnext hb0 hba
 have qx := (hba.block _ hlt0).trans q0
 have qmz := hSa.z
 clear hb0 hb5 hSz hc4 hlt0 q0 hba
 obtain ⟨Bm, hBm⟩ : ∃ Bm, Bm = w1.heap.size := ⟨_, rfl⟩
 rw [← hBm] at qm ⊢
 clear hSa hBm qmz
 have tb := bal (Below.refl wa.heap.size wa) (.cells (mC m ad cap) 27)
 have qo := heap_alloc_new wa (.cells (mC m ad cap) 27)
 have qm0 := qm
 replace qx := (tb.block _ (Array.getElem?_eq_some_iff.1 qx).1).trans qx
 replace qm := (tb.block _ (Array.getElem?_eq_some_iff.1 qm).1).trans qm
 have t0 := bnext ta tb
 clear ta tb
 go_wp2_with (first | (with_reducible refine wpList_ldS (n := 4) (us := mC m ad cap) A_rmach kR wU wU (by assumption) wU wU ?_) | (with_reducible refine wpList_ldS (n := 4) (us := mC m ad cap) A_mach kR wU wU (by assumption) wU wU ?_) | (with_reducible refine wpList_ldB (v := .bool false) F_boolM wU wU (by assumption) (by have h : (mC m ad cap)[0]? = some (.bool m.ring) := rfl; rw [HRG.out] at h; exact h) ?_) | (with_reducible refine wpList_ldB F_sl wU wU (by assumption) wU ?_) | (with_reducible refine wpList_ldB (by first | exact F_int | fail) wU wU (by assumption) wU ?_))
 refine (HSh.out _).mono ?_
 rintro e w1 ⟨rfl, b1⟩
 replace qx := (b1.block _ (Array.getElem?_eq_some_iff.1 qx).1).trans qx
 replace qm := (b1.block _ (Array.getElem?_eq_some_iff.1 qm).1).trans qm
 replace qo := (b1.block _ (Array.getElem?_eq_some_iff.1 qo).1).trans qo
 have t1 := bnext t0 b1
 clear t0 b1
 go_wp2_with (first | (with_reducible refine wpList_ldS (n := 4) (us := mC m ad cap) A_rmach kR wU wU (by assumption) wU wU ?_) | (with_reducible refine wpList_ldS (n := 4) (us := mC m ad cap) A_mach kR wU wU (by assumption) wU wU ?_) | (with_reducible refine wpList_ldB (v := .bool false) F_boolM wU wU (by assumption) (by have h : (mC m ad cap)[0]? = some (.bool m.ring) := rfl; rw [HRG.out] at h; exact h) ?_) | (with_reducible refine wpList_ldB F_sl wU wU (by assumption) wU ?_) | (with_reducible refine wpList_ldB (by first | exact F_int | fail) wU wU (by assumption) wU ?_))
 refine (HM.out _ (hR.below t1)).mono ?_
 rintro e w2 ⟨rfl, b2⟩
 replace qx := (b2.block _ (Array.getElem?_eq_some_iff.1 qx).1).trans qx
 replace qm := (b2.block _ (Array.getElem?_eq_some_iff.1 qm).1).trans qm
 replace qo := (b2.block _ (Array.getElem?_eq_some_iff.1 qo).1).trans qo
 have t2 := bnext t1 b2
 clear t1 b2
 go_wp2_with (first | (with_reducible refine wpList_ldS (n := 4) (us := mC m ad cap) A_rmach kR wU wU (by assumption) wU wU ?_) | (with_reducible refine wpList_ldS (n := 4) (us := mC m ad cap) A_mach kR wU wU (by assumption) wU wU ?_) | (with_reducible refine wpList_ldB (v := .bool false) F_boolM wU wU (by assumption) (by have h : (mC m ad cap)[0]? = some (.bool m.ring) := rfl; rw [HRG.out] at h; exact h) ?_) | (with_reducible refine wpList_ldB F_sl wU wU (by assumption) wU ?_) | (with_reducible refine wpList_ldB (by first | exact F_int | fail) wU wU (by assumption) wU ?_))
 refine (HL.out _ (hL.below t2)).mono ?_
 rintro e w3 ⟨rfl, b3⟩
 replace qx := (b3.block _ (Array.getElem?_eq_some_iff.1 qx).1).trans qx
 replace qm := (b3.block _ (Array.getElem?_eq_some_iff.1 qm).1).trans qm
 replace qo := (b3.block _ (Array.getElem?_eq_some_iff.1 qo).1).trans qo
 have t3 := bnext t2 b3
 clear t2 b3
 go_wp2_with (first | (with_reducible refine wpList_ldS (n := 4) (us := mC m ad cap) A_rmach kR wU wU (by assumption) wU wU ?_) | (with_reducible refine wpList_ldS (n := 4) (us := mC m ad cap) A_mach kR wU wU (by assumption) wU wU ?_) | (with_reducible refine wpList_ldB (v := .bool false) F_boolM wU wU (by assumption) (by have h : (mC m ad cap)[0]? = some (.bool m.ring) := rfl; rw [HRG.out] at h; exact h) ?_) | (with_reducible refine wpList_ldB F_sl wU wU (by assumption) wU ?_) | (with_reducible refine wpList_ldB (by first | exact F_int | fail) wU wU (by assumption) wU ?_))
 refine (HP.out _ (hC.below t3)).mono ?_
 rintro e w4 ⟨rfl, b4⟩
 replace qx := (b4.block _ (Array.getElem?_eq_some_iff.1 qx).1).trans qx
 replace qm := (b4.block _ (Array.getElem?_eq_some_iff.1 qm).1).trans qm
 replace qo := (b4.block _ (Array.getElem?_eq_some_iff.1 qo).1).trans qo
 have t4 := bnext t3 b4
 clear t3 b4
 go_wp2_with (first | (with_reducible refine wpList_ldS (n := 4) (us := mC m ad cap) A_rmach kR wU wU (by assumption) wU wU ?_) | (with_reducible refine wpList_ldS (n := 4) (us := mC m ad cap) A_mach kR wU wU (by assumption) wU wU ?_) | (with_reducible refine wpList_ldB (v := .bool false) F_boolM wU wU (by assumption) (by have h : (mC m ad cap)[0]? = some (.bool m.ring) := rfl; rw [HRG.out] at h; exact h) ?_) | (with_reducible refine wpList_ldB F_sl wU wU (by assumption) wU ?_) | (with_reducible refine wpList_ldB (by first | exact F_int | fail) wU wU (by assumption) wU ?_))
 refine (HTS.out _).mono ?_
 rintro e w5 ⟨rfl, b5⟩
 replace qx := (b5.block _ (Array.getElem?_eq_some_iff.1 qx).1).trans qx
 replace qm := (b5.block _ (Array.getElem?_eq_some_iff.1 qm).1).trans qm
 replace qo := (b5.block _ (Array.getElem?_eq_some_iff.1 qo).1).trans qo
 have t5 := bnext t4 b5
 clear t4 b5
 go_wp2_with fail
 go_ret
 exact ⟨rfl, t5⟩
theorem ts_out12 (m : MacV) (ad al ac : Option Addr) (cap cl cc : Nat) (l C : List Int) (n : Int) (w : World) (hR : Ints w ad cap m.sw) (hL : Ints w al cl l) (hC : Ints w ac cc C) (hI : InI m.gears) (c1 : (decide (m.sw.length ≤ 19) && decide (l.length ≤ 67)) = true) (c2 : macE m = 0) (c3 : ¬ 5 < m.gears) (c4 : m.ring = false) (c5 : loadE m l = 0) (c6 : ¬ (l.length : Int) < 2) (c7 : ¬ 6 < (l.length : Int)) (c8 : ¬ n < 1) (c9 : ¬ 16 < n) (c10 : ¬ 30 < (C.length : Int)) (c11 : placeE (l.length : Int) C = 0) (c12 : meetsM m l (2 * n) = true) :
  Calls Tryz.prog 3 #[.agg (wC m ad cap al l cl ac C cc n)] w fun r w' => r = .returned (.bool true) ∧ Below w.heap.size w w' := by
 have CSh := fun w => rShort_any m ad cap al cl l.length w
 rw [c1] at CSh
 have HSh := hid CSh
 clear CSh
 have CM := fun w h => rCheckMachine_any m ad cap w h
 rw [c2] at CM
 have HM := hid CM
 clear CM
 have d3 : decide (5 < m.gears) = false := decide_eq_false c3
 have HRG := hid c4
 have CL := fun w h => rCheckLoad_any m ad cap al cl l w h (macE_zero c2).1.lo (macE_zero c2).1.hi
 rw [load_chk c2] at CL
 rw [c5] at CL
 have HL := hid CL
 clear CL
 have d6 : decide ((l.length : Int) < 2) = false := decide_eq_false c6
 have d7 : decide (6 < (l.length : Int)) = false := decide_eq_false c7
 have d8 : decide (n < 1) = false := decide_eq_false c8
 have d9 : decide (16 < n) = false := decide_eq_false c9
 have d10 : decide (30 < (C.length : Int)) = false := decide_eq_false c10
 have CP := fun w h => rCheckPlacing_any (l.length : Int) ac cc C w h
 rw [c11] at CP
 have HP := hid CP
 clear CP
 have CE := fun w h h2 => rMeets_any m ad cap al cl l (2 * n) w h h2 (macE_zero c2).1.lo (macE_zero c2).1.hi (loadE_zero c5).rng (by omega) (loadE_zero c5).nodup
 have hw2 : IntKind.i64.wrap (2 * n) = 2 * n := IntWalk.i64_in _ (by omega)
 rw [c12] at CE
 have HE := hid CE
 clear CE
 clear c1 c2 c3 c4 c5 c6 c7 c8 c9 c10 c11 c12
 have hb0 := bal (Below.refl w.heap.size w) (.cells (wC m ad cap al l cl ac C cc n) 26)
 have q0 := heap_alloc_new w (.cells (wC m ad cap al l cl ac C cc n) 26)
 have HTS := hid thimbleShows_any
 have hlc := hL.le
 have hlm := hL.max
 have hcc := hC.le
 have hcm := hC.max
 obtain ⟨B0, hB0⟩ : ∃ B, B = w.heap.size := ⟨_, rfl⟩
 obtain ⟨w0, hw0⟩ : ∃ w0, w0 = w.alloc (.cells (wC m ad cap al l cl ac C cc n) 26) := ⟨_, rfl⟩
 rw [← hw0] at hb0 q0
 rw [← hB0] at q0
 go_enter Tryz.func3, Tryz.ntmps3
 go_wp2_with fail
 rw [← hB0, ← hw0]
 clear hB0 hw0
 have hlt0 : B0 < w0.heap.size := (Array.getElem?_eq_some_iff.1 q0).1
 have hc4 : w0.cell? ⟨B0, 4, none⟩ = some (.slice al l.length cl) := by simp [World.cell?, q0, wC]
 refine wp_regionK (C := Below (w0).heap.size (w0)) [0, 1, 2, 3, 4, 5, 6] [_, _, _, _, _, _, _] 4 (by simp only [List.map_cons, List.map_nil, List.getElem?_toArray]; rfl) rfl kR kR kR ((Below.refl _ _).drew) ?_
 refine ⟨_, yieldsK_val wU (fun w' => by with_unfolding_all exact rfl), ?_⟩
 go_frame
 refine ⟨.agg (mC m ad cap), yieldsK_blkO (n := 4) (cs := wC m ad cap al l cl ac C cc n) A_mach kR (fun V h => (h.block _ hlt0).trans q0) rfl rfl wU wU, ?_⟩
 go_frame
 refine ⟨_, yieldsK_val wU (fun w' => by with_unfolding_all exact rfl), ?_⟩
 go_frame
 refine ⟨_, yieldsK_cell F_sl (hc4) wU wU, ?_⟩
 go_frame
 refine ⟨_, yieldsK_val wU (fun w' => by with_unfolding_all exact rfl), ?_⟩
 go_frame
 refine ⟨_, yieldsK_cell F_sl (hc4) wU wU, ?_⟩
 go_frame
 refine ⟨.int .i64 l.length, yieldsK_val wU (fun w' => by first | (go_simp; done) | (go_simp; rfl)), ?_⟩
 go_frame
 unfold wpPureK
 have hVd : ({ w0 with drawn := w0.drawn + 1 } : World) = w0.drew := rfl
 rw [hVd]
 have hb5 : Below w0.heap.size w0 w0.drew := (Below.refl _ _).drew
 obtain ⟨w1, hw1⟩ : ∃ w1, w1 = w0.drew := ⟨_, rfl⟩
 rw [← hw1] at hb5 ⊢
 clear hVd hw1
 have hSz := (SL.nil w1).box (.cells #[.bool false, .int .i64 0, .int .i64 0, .slice none 0 0] 24)
 refine wpAnyC_on [7] kR (by simp) ?_
 simp only [List.forall_mem_cons, List.not_mem_nil, false_implies, implies_true, and_true]
 refine wpOp_value (v := .pointer (some ⟨w1.heap.size, 0, none⟩)) (w' := w1.alloc (.cells #[.bool false, .int .i64 0, .int .i64 0, .slice none 0 0] 24)) (by rw [List.getElem?_toArray]; rfl) wU (by first | (go_simp; done) | (go_simp; rfl) | (simp [execOp, Act.eval, Result.andThen]; done)) ?_
 refine ⟨bal hb5 _, ?_⟩
 go_frame
 refine wpAnyC_on [8] kR (by simp) ?_
 simp only [List.forall_mem_cons, List.not_mem_nil, false_implies, implies_true, and_true]
 refine wpOp_of_list (by rw [List.getElem?_toArray]; rfl) ?_
 ((with_reducible refine wpList_stoR (us := mC m ad cap) 0 wU wU (hSz) wU kR wU wU ?_); intro wa hSa)
 refine ⟨bnext hb5 hSa.b, ?_⟩
 go_frame
 have hba := bnext hb5 hSa.b
 refine wpAnyC_rest [9, 10] [_, _] rfl (by simp only [List.map_cons, List.map_nil, List.getElem?_toArray]; rfl) kR kR kR (hba) ?_
 repeat (refine ⟨_, .inl ⟨by with_unfolding_all rfl, fun w' _ => by with_unfolding_all exact rfl⟩, ?_⟩; go_frame)
 unfold wpPure
 refine of_wpList_nil (P := Tryz.prog) (ops := #[]) ?_
 have qm := (hSa.blk 0 rfl).1
 have ta := bnext hb0 hba
 have qx := (hba.block _ hlt0).trans q0
 have qmz := hSa.z
 clear hb0 hb5 hSz hc4 hlt0 q0 hba
 obtain ⟨Bm, hBm⟩ : ∃ Bm, Bm = w1.heap.size := ⟨_, rfl⟩
 rw [← hBm] at qm ⊢
 clear hSa hBm qmz
 have tb := bal (Below.refl wa.heap.size wa) (.cells (mC m ad cap) 27)
 have qo := heap_alloc_new wa (.cells (mC m ad cap) 27)
 have qm0 := qm
 replace qx := (tb.block _ (Array.getElem?_eq_some_iff.1 qx).1).trans qx
 replace qm := (tb.block _ (Array.getElem?_eq_some_iff.1 qm).1).trans qm
 have t0 := bnext ta tb
 clear ta tb
 go_wp2_with (first | (with_reducible refine wpList_ldS (n := 4) (us := mC m ad cap) A_rmach kR wU wU (by assumption) wU wU ?_) | (with_reducible refine wpList_ldS (n := 4) (us := mC m ad cap) A_mach kR wU wU (by assumption) wU wU ?_) | (with_reducible refine wpList_ldB (v := .bool false) F_boolM wU wU (by assumption) (by have h : (mC m ad cap)[0]? = some (.bool m.ring) := rfl; rw [HRG.out] at h; exact h) ?_) | (with_reducible refine wpList_ldB F_sl wU wU (by assumption) wU ?_) | (with_reducible refine wpList_ldB (by first | exact F_int | fail) wU wU (by assumption) wU ?_))
 refine (HSh.out _).mono ?_
 rintro e w1 ⟨rfl, b1⟩
 replace qx := (b1.block _ (Array.getElem?_eq_some_iff.1 qx).1).trans qx
 replace qm := (b1.block _ (Array.getElem?_eq_some_iff.1 qm).1).trans qm
 replace qo := (b1.block _ (Array.getElem?_eq_some_iff.1 qo).1).trans qo
 have t1 := bnext t0 b1
 clear t0 b1
 go_wp2_with (first | (with_reducible refine wpList_ldS (n := 4) (us := mC m ad cap) A_rmach kR wU wU (by assumption) wU wU ?_) | (with_reducible refine wpList_ldS (n := 4) (us := mC m ad cap) A_mach kR wU wU (by assumption) wU wU ?_) | (with_reducible refine wpList_ldB (v := .bool false) F_boolM wU wU (by assumption) (by have h : (mC m ad cap)[0]? = some (.bool m.ring) := rfl; rw [HRG.out] at h; exact h) ?_) | (with_reducible refine wpList_ldB F_sl wU wU (by assumption) wU ?_) | (with_reducible refine wpList_ldB (by first | exact F_int | fail) wU wU (by assumption) wU ?_))
 refine (HM.out _ (hR.below t1)).mono ?_
 rintro e w2 ⟨rfl, b2⟩
 replace qx := (b2.block _ (Array.getElem?_eq_some_iff.1 qx).1).trans qx
 replace qm := (b2.block _ (Array.getElem?_eq_some_iff.1 qm).1).trans qm
 replace qo := (b2.block _ (Array.getElem?_eq_some_iff.1 qo).1).trans qo
 have t2 := bnext t1 b2
 clear t1 b2
 go_wp2_with (first | (with_reducible refine wpList_ldS (n := 4) (us := mC m ad cap) A_rmach kR wU wU (by assumption) wU wU ?_) | (with_reducible refine wpList_ldS (n := 4) (us := mC m ad cap) A_mach kR wU wU (by assumption) wU wU ?_) | (with_reducible refine wpList_ldB (v := .bool false) F_boolM wU wU (by assumption) (by have h : (mC m ad cap)[0]? = some (.bool m.ring) := rfl; rw [HRG.out] at h; exact h) ?_) | (with_reducible refine wpList_ldB F_sl wU wU (by assumption) wU ?_) | (with_reducible refine wpList_ldB (by first | exact F_int | fail) wU wU (by assumption) wU ?_))
 refine (HL.out _ (hL.below t2)).mono ?_
 rintro e w3 ⟨rfl, b3⟩
 replace qx := (b3.block _ (Array.getElem?_eq_some_iff.1 qx).1).trans qx
 replace qm := (b3.block _ (Array.getElem?_eq_some_iff.1 qm).1).trans qm
 replace qo := (b3.block _ (Array.getElem?_eq_some_iff.1 qo).1).trans qo
 have t3 := bnext t2 b3
 clear t2 b3
 go_wp2_with (first | (with_reducible refine wpList_ldS (n := 4) (us := mC m ad cap) A_rmach kR wU wU (by assumption) wU wU ?_) | (with_reducible refine wpList_ldS (n := 4) (us := mC m ad cap) A_mach kR wU wU (by assumption) wU wU ?_) | (with_reducible refine wpList_ldB (v := .bool false) F_boolM wU wU (by assumption) (by have h : (mC m ad cap)[0]? = some (.bool m.ring) := rfl; rw [HRG.out] at h; exact h) ?_) | (with_reducible refine wpList_ldB F_sl wU wU (by assumption) wU ?_) | (with_reducible refine wpList_ldB (by first | exact F_int | fail) wU wU (by assumption) wU ?_))
 refine (HP.out _ (hC.below t3)).mono ?_
 rintro e w4 ⟨rfl, b4⟩
 replace qx := (b4.block _ (Array.getElem?_eq_some_iff.1 qx).1).trans qx
 replace qm := (b4.block _ (Array.getElem?_eq_some_iff.1 qm).1).trans qm
 replace qo := (b4.block _ (Array.getElem?_eq_some_iff.1 qo).1).trans qo
 have t4 := bnext t3 b4
 clear t3 b4
 go_wp2_with (first | (with_reducible refine wpList_ldS (n := 4) (us := mC m ad cap) A_rmach kR wU wU (by assumption) wU wU ?_) | (with_reducible refine wpList_ldS (n := 4) (us := mC m ad cap) A_mach kR wU wU (by assumption) wU wU ?_) | (with_reducible refine wpList_ldB (v := .bool false) F_boolM wU wU (by assumption) (by have h : (mC m ad cap)[0]? = some (.bool m.ring) := rfl; rw [HRG.out] at h; exact h) ?_) | (with_reducible refine wpList_ldB F_sl wU wU (by assumption) wU ?_) | (with_reducible refine wpList_ldB (by first | exact F_int | fail) wU wU (by assumption) wU ?_))
 refine (HE.out _ (hR.below t4) (hL.below t4)).mono ?_
 rintro e w5 ⟨rfl, b5⟩
 replace qx := (b5.block _ (Array.getElem?_eq_some_iff.1 qx).1).trans qx
 replace qm := (b5.block _ (Array.getElem?_eq_some_iff.1 qm).1).trans qm
 replace qo := (b5.block _ (Array.getElem?_eq_some_iff.1 qo).1).trans qo
 have t5 := bnext t4 b5
 clear t4 b5
 go_wp2_with (first | (with_reducible refine wpList_ldS (n := 4) (us := mC m ad cap) A_rmach kR wU wU (by assumption) wU wU ?_) | (with_reducible refine wpList_ldS (n := 4) (us := mC m ad cap) A_mach kR wU wU (by assumption) wU wU ?_) | (with_reducible refine wpList_ldB (v := .bool false) F_boolM wU wU (by assumption) (by have h : (mC m ad cap)[0]? = some (.bool m.ring) := rfl; rw [HRG.out] at h; exact h) ?_) | (with_reducible refine wpList_ldB F_sl wU wU (by assumption) wU ?_) | (with_reducible refine wpList_ldB (by first | exact F_int | fail) wU wU (by assumption) wU ?_))
 refine (HTS.out _).mono ?_
 rintro e w6 ⟨rfl, b6⟩
 replace qx := (b6.block _ (Array.getElem?_eq_some_iff.1 qx).1).trans qx
 replace qm := (b6.block _ (Array.getElem?_eq_some_iff.1 qm).1).trans qm
 replace qo := (b6.block _ (Array.getElem?_eq_some_iff.1 qo).1).trans qo
 have t6 := bnext t5 b6
 clear t5 b6
 go_wp2_with fail
 go_ret
 exact ⟨rfl, t6⟩
end Go.Proofs.YtglpfpdomnllkaaGreat
