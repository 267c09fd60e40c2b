/- Contracts and plain facts that the claim uses (QrN QrX MbF MbW TuP RmP MtP QrV). Conditions: as each one states. -/
import Derived.Test.YtoebgfgihfjnnaaGreatDoorXd08
import Derived.Test.YtoebgfgihfjnnaaGreatDoorXd09
import Derived.Test.YtoebgfgihfjnnaaGreatDoorXd11
set_option linter.all false

namespace Go.Proofs.YtoebgfgihfjnnaaGreatDoor
open Go.RowKit
set_option maxHeartbeats 8000000
set_option maxRecDepth 100000
theorem tri0 (b o : Nat) (w : World) : (Instr.indexAt 111 (.pointer (some ⟨b, o, none⟩)) (.int .i64 0)).run Tryz.prog w = .ok (.pointer (some ⟨b, o + 0, none⟩)) w := by
 have hi : (Tryz.prog.info? 3).map (fun i => (i.zero, i.size, i.bytes)) = some (some (.int .i64 0), 1, 8) := by kernel_rfl
 obtain ⟨i, hi, _, hs, _⟩ := info_parts hi
 simp [go_sem, Tryz.underlying111, hi, hs, sizeOf, typeInfo, Addr.add_z]
theorem tri1 (b o : Nat) (w : World) : (Instr.indexAt 111 (.pointer (some ⟨b, o, none⟩)) (.int .i64 1)).run Tryz.prog w = .ok (.pointer (some ⟨b, o + 1, none⟩)) w := by
 have hi : (Tryz.prog.info? 3).map (fun i => (i.zero, i.size, i.bytes)) = some (some (.int .i64 0), 1, 8) := by kernel_rfl
 obtain ⟨i, hi, _, hs, _⟩ := info_parts hi
 simp [go_sem, Tryz.underlying111, hi, hs, sizeOf, typeInfo, Addr.add_z]
theorem tri2 (b o : Nat) (w : World) : (Instr.indexAt 111 (.pointer (some ⟨b, o, none⟩)) (.int .i64 2)).run Tryz.prog w = .ok (.pointer (some ⟨b, o + 2, none⟩)) w := by
 have hi : (Tryz.prog.info? 3).map (fun i => (i.zero, i.size, i.bytes)) = some (some (.int .i64 0), 1, 8) := by kernel_rfl
 obtain ⟨i, hi, _, hs, _⟩ := info_parts hi
 simp [go_sem, Tryz.underlying111, hi, hs, sizeOf, typeInfo, Addr.add_z]
section
variable {P : Program} {ops : Array Oper} {rest : List Oper} {a : Act} {Qa : Act → Prop} {α : Type} {c : α → Value} {sz bytes : Nat} {t e t2 e2 : TypeId} {z : Value} {ad : Option Addr} {cap n : Nat} {l : List α} {k : Int} {w : World}
 {d1 d2 d3 : Tmp} {ty1 ty2 ty3 : TypeId} {p1 p2 p3 : String} {s x y : Operand} {af1 af2 af3 : Array Edge} {j : Nat} {J : Int}
theorem yieldsK_tri {C : World → Prop} {b o : Nat} {d : Tmp} {ty : TypeId} {p : String} {af : Array Edge} {g : Option (Nat × Bool)} (hf : ∀ (b o : Nat) (w' : World), (Instr.indexAt t2 (.pointer (some ⟨b, o, none⟩)) (.int .i64 J)).run P w' = .ok (.pointer (some ⟨b, o + j, none⟩)) w')
   (hg : Region.wanted (⟨some d, .indexAddr t2 s y, ty, p, af, g⟩ : Oper) (yielded ops a.tmps) = true) (hs : a.eval s = .pointer (some ⟨b, o, none⟩)) (hy : a.eval y = .int .i64 J) :
   YieldsK P ops C ⟨some d, .indexAddr t2 s y, ty, p, af, g⟩ (.pointer (some ⟨b, o + j, none⟩)) a :=
 .inl ⟨hg, fun w' _ => by simp [execOp, hs, hy, hf, Result.andThen]⟩
theorem wpB_tri (d : α) (v : Value) (E : ETy P t e z sz bytes) (hF : Flat P e2) (hf : ∀ (b o : Nat) (w' : World), (Instr.indexAt t2 (.pointer (some ⟨b, o, none⟩)) (.int .i64 J)).run P w' = .ok (.pointer (some ⟨b, o + j, none⟩)) w')
   (hs : a.eval s = .slice ad n cap) (hx : a.eval x = .int .i64 k) (hR : Reps c sz w ad cap l) (hn : l.length = n) (h0 : 0 ≤ k) (hlt : k < n)
   (hv : (c (atD d l k)).cells.toList[j]? = some v) (hd : ∀ p, (a.put (some d1) p).eval (.tmp d1) = p) (hy : ∀ p, (a.put (some d1) p).eval y = .int .i64 J) (hd2 : ∀ p q, ((a.put (some d1) p).put (some d2) q).eval (.tmp d2) = q)
   (hK : ∀ p q, wpQuiet P ops (Below w.heap.size w) Qa rest (((a.put (some d1) p).put (some d2) q).put (some d3) v)) :
   wpQuiet P ops (Below w.heap.size w) Qa (⟨some d1, .indexAddr t s x, ty1, p1, af1, none⟩ :: ⟨some d2, .indexAddr t2 (.tmp d1) y, ty2, p2, af2, none⟩ :: ⟨some d3, .load e2 (.tmp d2), ty3, p3, af3, none⟩ :: rest) a := by
 subst hn
 have hkl : k.toNat < l.length := by omega
 obtain ⟨b, o, rfl, hcs⟩ := hR.cells E.pos d k.toNat hkl
 have hcell := hcs j v hv
 have hadd : (⟨b, o, none⟩ : Addr).add (k.toNat * sz) = ⟨b, o + k.toNat * sz, none⟩ := Addr.add_z ..
 refine wpQ_in (.pointer (some ⟨b, o + k.toNat * sz, none⟩)) rfl (fun w' hw' => ?_) (wpQ_in (.pointer (some ⟨b, o + k.toNat * sz + j, none⟩)) rfl (fun w' hw' => ?_) (wpQ_in v rfl (fun w' hw' => ?_) (hK _ _)))
 ·have h1 := run_indexAt_sl (P := P) (a := ⟨b, o, none⟩) (cap := cap) w' E h0 hlt
  rw [hadd] at h1
  simp [execOp, hs, hx, h1, Result.andThen]
 ·have h2 := hf b (o + k.toNat * sz) w'
  simp [execOp, hd, hy, h2, Result.andThen]
 ·have h3 := run_loadAt_cell (P := P) w' (a := (⟨b, o + k.toNat * sz + j, none⟩ : Addr)) (v := v) hF ((hw'.cell (World.block_lt_of_cell? w _ hcell)).trans hcell)
  simp [execOp, hd2, h3, Result.andThen]
end
theorem triM_rng {m : MacV} {l : List Int} : ∀ x ∈ triM m l, 0 ≤ x.2.2 ∧ x.2.2 < m.gears := by
 intro x hx
 unfold triM at hx
 obtain ⟨g, hg, hx⟩ := List.mem_flatMap.1 hx
 have hgr := gearsL_mem.1 hg
 unfold triG at hx
 obtain ⟨y, _, hx⟩ := List.mem_flatMap.1 hx
 unfold triX at hx
 split at hx
 ·simp at hx; subst hx; exact hgr
 ·cases hx
theorem triM_len {m : MacV} {l : List Int} (h0 : 0 ≤ m.gears) (hg : m.gears ≤ 16) : (triM m l).length ≤ 48 := by
 rw [← triK_all]
 have := triK_len m l m.gears.toNat
 omega
theorem rCrossings_any (m : MacV) (ad : Option Addr) (cap : Nat) (al : Option Addr) (cl : Nat) (l : List Int) (w : World) (hL : Ints w al cl l) (hg0 : 1 ≤ m.gears) (hg : m.gears ≤ 16) (hl : ∀ x ∈ l, 0 ≤ x ∧ x < 4 * m.gears) (hn : l.length ≤ 64) :
  Calls Tryz.prog 25 #[mV m ad cap, .slice al l.length cl] w fun r w' => ∃ v, r = .returned v ∧ Own cX 3 w.heap.size 107 w' v (crossM m l) ∧ Below w.heap.size w w' := by
 have hS := (SL.nil w).box (.cells (mC m ad cap) 25)
 have CC := fun w h => rcrossings_any m ad cap al cl l w h hg0 hg hl hn
 have htl := triM_len (m := m) (l := l) (by omega) hg
 have hcr := triM_cross m l
 have HRG : Hid (∀ j : Nat, j < (triM m l).length → 0 ≤ (atD (0, 0, 0) (triM m l) j).2.2 ∧ (atD (0, 0, 0) (triM m l) j).2.2 < 16) := hid fun j hj => by
  have e : atD (0, 0, 0) (triM m l) j = (triM m l)[j] := by simp [atD, hj]
  rw [e]
  have := triM_rng _ (List.getElem_mem hj)
  omega
 have HFA : Hid (∀ (g : Int) w, 0 ≤ g → g < 16 → _) := hid fun g w h0 h1 => rForwards_any m ad cap g w h0 (by omega)
 have HMT : Hid (∀ (a b g : Int), mkT m (a, b, g) = if fwdM m g then ⟨g, b, a, a⟩ else ⟨g, a, b, a⟩) := hid fun a b g => rfl
 obtain ⟨T, hT⟩ : ∃ T, T = triM m l := ⟨_, rfl⟩
 rw [← hT] at htl hcr
 simp only [← hT] at CC HRG
 have HCR := hid hcr
 rw [hcr]
 have HC := hid CC
 have HTS : Hid (∀ j : Nat, j < T.length → (T.take (j + 1)).map (mkT m) = (T.take j).map (mkT m) ++ [mkT m (atD (0, 0, 0) T j)]) := hid fun j h => by
  have e : atD (0, 0, 0) T j = T[j] := by simp [atD, h]
  rw [List.take_succ_eq_append_getElem h, List.map_append, e]
  rfl
 obtain ⟨M, hM⟩ : ∃ M : Int × Int × Int → CrM, M = mkT m := ⟨_, rfl⟩
 rw [← hM] at HTS ⊢
 simp only [← hM] at HMT
 have HLE : Hid (∀ j, ((T.take j).map M).length ≤ 64) := hid fun j => by simp; omega
 clear hT hcr hM hl hg0 hg CC
 go_enter Tryz.func25, Tryz.ntmps25
 go_wp2_with fail
 refine (HC.out _ (hL.below hS.b)).mono ?_
 rintro e w1 ⟨v1, rfl, ho1, b1⟩
 obtain ⟨a1, c1, rfl, h1, _, _⟩ := ho1.reps
 have hS1 := hS.mono b1
 have q0 := (hS1.blk 0 rfl).1
 have hlt0 := (hS1.blk 0 rfl).2.2
 have t1 := hS1.b
 have hS2 := (SL.nil w1).nilS (α := CrM) (c := cX) (sz := 3) (e := 107) cXS
 have hT := h1
 clear hS hS1 ho1 h1 b1
 go_wp2_with fail
 go_loopw [6, 7] (fun v i wr => ∃ j : Nat, j ≤ T.length ∧ i = .int .i64 j ∧ SL w1.heap.size w1 wr [pOwn cX 3 107 v ((T.take j).map M)]) (fun _ i _ => T.length - (intOf i).toNat)
 case atStart => exact ⟨0, by omega, rfl, hS2⟩
 case round =>
  clear hS2
  obtain ⟨j, hj, rfl, hSr⟩ := hrel
  have q1 := (hSr.b.block _ hlt0).trans q0
  by_cases hlt : j < T.length
  ·have hst := HTS.out j hlt
   have hrg := HRG.out j hlt
   have hle := HLE.out j
   have hTr := hT.below hSr.b
   obtain ⟨⟨a, b, g⟩, hx⟩ : ∃ x, x = atD (0, 0, 0) T j := ⟨_, rfl⟩
   rw [← hx] at hst hrg
   dsimp only at hrg
   have hv0 : (cT (atD (0, 0, 0) T j)).cells.toList[0]? = some (.int .i64 a) := by rw [← hx]; rfl
   have hv1 : (cT (atD (0, 0, 0) T j)).cells.toList[1]? = some (.int .i64 b) := by rw [← hx]; rfl
   have hv2 : (cT (atD (0, 0, 0) T j)).cells.toList[2]? = some (.int .i64 g) := by rw [← hx]; rfl
   have CF := fun w => HFA.out g w hrg.1 hrg.2
   have hmt := HMT.out a b g
   have hTc := hT.cells (by decide) (0, 0, 0) j hlt
   have hgd : T.getD j (0, 0, 0) = atD (0, 0, 0) T j := rfl
   rw [hgd] at hTc
   obtain ⟨bt, ot, rfl, hcs⟩ := hTc
   have hjt : (j : Int).toNat = j := by omega
   have hc0 : w1.cell? ⟨bt, ot + (j : Int).toNat * 3 + 0, none⟩ = some (.int .i64 a) := by rw [hjt]; exact hcs 0 _ hv0
   have hc1 : w1.cell? ⟨bt, ot + (j : Int).toNat * 3 + 1, none⟩ = some (.int .i64 b) := by rw [hjt]; exact hcs 1 _ hv1
   have hc2 : w1.cell? ⟨bt, ot + (j : Int).toNat * 3 + 2, none⟩ = some (.int .i64 g) := by rw [hjt]; exact hcs 2 _ hv2
   clear hx hcs hgd
   cases hfw : fwdM m g
   ·rw [hfw] at CF hmt
    simp only [Bool.false_eq_true, if_false] at hmt
    rw [hmt] at hst
    have HF := hid CF; have HST := hid hst
    clear CF hst hmt hfw
    go_wp2_with fail
    refine wp_region_q kR kR ?_
    repeat (first | ((with_reducible refine wpB_loadS (n := 4) (us := mC m ad cap) A_rmach kR wU wU (by assumption) wU wU ?_); (try simp only [Act.put, pA, pB, pC])) | ((with_reducible refine wpB_tri (0, 0, 0) (.int .i64 g) E_ts F_int tri2 wU wU hTr rfl (by omega) (by omega) hv2 (fun _ => wU) (fun _ => wU) (fun _ _ => wU) (fun _ _ => ?_)); (try simp only [Act.put, pA, pB, pC])) | ((with_reducible refine wpB_call (.bool false) wU (fun w' => ?_) (fun w' hw' => HF.out w') ?_); (focus (go_simp; done)); (try simp only [Act.put, pA, pB, pC])) |  ((with_reducible refine wpB_load (by first | exact F_int | exact F_u64s) wU wU (by assumption) wU ?_); (try simp only [Act.put, pA, pB, pC])) | ((refine wpQ_oneG ?_ wU (fun w' => ?_) ?_); rotate_left; (go_simp; rfl); (try simp only [Act.put, pA, pB, pC])))
    refine wpQuiet_nil ?_
    intro w4 hb4
    have hS4 := hSr.mono hb4
    have hTr := hT.below hS4.b
    clear q1
    go_wp2_with fail
    refine wp_regionK (C := Below (w1).heap.size (w1)) [0, 1, 2, 3, 4, 5, 6, 7, 8, 9, 10, 11, 12, 13, 14, 15, 16] [_, _, _, _, _, _, _, _, _, _, _, _, _, _, _, _, _] 3 (by simp only [List.map_cons, List.map_nil, List.getElem?_toArray]; rfl) rfl kR kR kR (hS4.b.drew) ?_
    refine ⟨_, yieldsK_val wU (fun w' => by with_unfolding_all exact rfl), ?_⟩
    go_frame
    refine ⟨_, yieldsK_val wU (fun w' => by with_unfolding_all exact rfl), ?_⟩
    go_frame
    refine ⟨_, yieldsK_val wU (fun w' => by with_unfolding_all exact rfl), ?_⟩
    go_frame
    refine ⟨_, yieldsK_idx (k := (j : Int)) (n := T.length) E_ts (by omega) (by omega) wU wU wU, ?_⟩
    go_frame
    refine ⟨_, yieldsK_tri tri2 wU wU wU, ?_⟩
    go_frame
    refine ⟨_, yieldsK_cell F_int hc2 wU wU, ?_⟩
    go_frame
    refine ⟨_, yieldsK_val wU (fun w' => by with_unfolding_all exact rfl), ?_⟩
    go_frame
    refine ⟨_, yieldsK_val wU (fun w' => by with_unfolding_all exact rfl), ?_⟩
    go_frame
    refine ⟨_, yieldsK_idx (k := (j : Int)) (n := T.length) E_ts (by omega) (by omega) wU wU wU, ?_⟩
    go_frame
    refine ⟨_, yieldsK_tri tri0 wU wU wU, ?_⟩
    go_frame
    refine ⟨_, yieldsK_cell F_int hc0 wU wU, ?_⟩
    go_frame
    refine ⟨_, yieldsK_val wU (fun w' => by with_unfolding_all exact rfl), ?_⟩
    go_frame
    refine ⟨_, yieldsK_val wU (fun w' => by with_unfolding_all exact rfl), ?_⟩
    go_frame
    refine ⟨_, yieldsK_idx (k := (j : Int)) (n := T.length) E_ts (by omega) (by omega) wU wU wU, ?_⟩
    go_frame
    refine ⟨_, yieldsK_tri tri1 wU wU wU, ?_⟩
    go_frame
    refine ⟨_, yieldsK_cell F_int hc1 wU wU, ?_⟩
    go_frame
    refine ⟨.agg #[.int .i64 g, .int .i64 a, .int .i64 b], yieldsK_val wU (fun w' => by first | (go_simp; done) | (go_simp; rfl)), ?_⟩
    go_frame
    unfold wpPureK
    have hVd : ({ w4 with drawn := w4.drawn + 1 } : World) = w4.drew := rfl
    rw [hVd]
    have hS5 := (hS4.drew).call (SL.ofOwn (own_newN (e := 107) (w := w4.drew) cXS [(⟨g, a, b, a⟩ : CrM)] 1 rfl (by decide) #[.int .i64 g, .int .i64 a, .int .i64 b] rfl (Nat.le_refl _) rfl) (bal (Below.refl _ _) _))
    simp only [List.cons_append, List.nil_append] at hS5
    refine wpAnyC_on [17] kR (by simp) ?_
    simp only [List.forall_mem_cons, List.not_mem_nil, false_implies, implies_true, and_true]
    refine wpOp_value (v := .slice (some ⟨w4.drew.heap.size, 0, none⟩) 1 1) (w' := w4.drew.alloc (.cells #[.int .i64 g, .int .i64 a, .int .i64 b] 107)) (by rw [List.getElem?_toArray]; rfl) wU (by first | (go_simp; done) | (go_simp; rfl) | (simp [execOp, Act.eval, Result.andThen]; done)) ?_
    refine ⟨hS5.b, ?_⟩
    go_frame
    refine wpAnyC_on [18] kR (by simp) ?_
    simp only [List.forall_mem_cons, List.not_mem_nil, false_implies, implies_true, and_true]
    refine wpOp_of_list (by rw [List.getElem?_toArray]; rfl) ?_
    have hRb := hS5.rd 0 rfl
    ((with_reducible refine wpList_appL 1 E_rxs wU wU (hS5) wU (hRb) (rfl) cXO (by first | omega | (simp; omega)) (by first | omega | (simp; omega)) ?_); intro v6 w6 hS6)
    refine ⟨hS6.b, ?_⟩
    go_frame
    refine wpAnyC_on [19] kR (by simp) ?_
    simp only [List.forall_mem_cons, List.not_mem_nil, false_implies, implies_true, and_true]
    refine wpOp_value (v := v6) (w' := w6) (by rw [List.getElem?_toArray]; rfl) wU (by first | (go_simp; done) | (go_simp; rfl) | (simp [execOp, Act.eval, Result.andThen]; done)) ?_
    refine ⟨hS6.b, ?_⟩
    go_frame
    refine wpAnyC_rest [] [] rfl rfl kR kR kR hS6.b ?_
    unfold wpPure
    refine of_wpList_nil (P := Tryz.prog) (ops := #[]) ?_
    go_wp2_with fail
    exact ⟨⟨j + 1, by omega, by go_num, by rw [HST.out]; exact hS6.tail⟩, by simp [intOf]; omega⟩
   ·rw [hfw] at CF hmt
    simp only [if_true] at hmt
    rw [hmt] at hst
    have HF := hid CF; have HST := hid hst
    clear CF hst hmt hfw
    go_wp2_with fail
    refine wp_region_q kR kR ?_
    repeat (first | ((with_reducible refine wpB_loadS (n := 4) (us := mC m ad cap) A_rmach kR wU wU (by assumption) wU wU ?_); (try simp only [Act.put, pA, pB, pC])) | ((with_reducible refine wpB_tri (0, 0, 0) (.int .i64 g) E_ts F_int tri2 wU wU hTr rfl (by omega) (by omega) hv2 (fun _ => wU) (fun _ => wU) (fun _ _ => wU) (fun _ _ => ?_)); (try simp only [Act.put, pA, pB, pC])) | ((with_reducible refine wpB_call (.bool true) wU (fun w' => ?_) (fun w' hw' => HF.out w') ?_); (focus (go_simp; done)); (try simp only [Act.put, pA, pB, pC])) |  ((with_reducible refine wpB_load (by first | exact F_int | exact F_u64s) wU wU (by assumption) wU ?_); (try simp only [Act.put, pA, pB, pC])) | ((refine wpQ_oneG ?_ wU (fun w' => ?_) ?_); rotate_left; (go_simp; rfl); (try simp only [Act.put, pA, pB, pC])))
    refine wpQuiet_nil ?_
    intro w4 hb4
    have hS4 := hSr.mono hb4
    have hTr := hT.below hS4.b
    clear q1
    go_wp2_with fail
    refine wp_regionK (C := Below (w1).heap.size (w1)) [0, 1, 2, 3, 4, 5, 6, 7, 8, 9, 10, 11, 12, 13, 14, 15, 16] [_, _, _, _, _, _, _, _, _, _, _, _, _, _, _, _, _] 3 (by simp only [List.map_cons, List.map_nil, List.getElem?_toArray]; rfl) rfl kR kR kR (hS4.b.drew) ?_
    refine ⟨_, yieldsK_val wU (fun w' => by with_unfolding_all exact rfl), ?_⟩
    go_frame
    refine ⟨_, yieldsK_val wU (fun w' => by with_unfolding_all exact rfl), ?_⟩
    go_frame
    refine ⟨_, yieldsK_val wU (fun w' => by with_unfolding_all exact rfl), ?_⟩
    go_frame
    refine ⟨_, yieldsK_idx (k := (j : Int)) (n := T.length) E_ts (by omega) (by omega) wU wU wU, ?_⟩
    go_frame
    refine ⟨_, yieldsK_tri tri2 wU wU wU, ?_⟩
    go_frame
    refine ⟨_, yieldsK_cell F_int hc2 wU wU, ?_⟩
    go_frame
    refine ⟨_, yieldsK_val wU (fun w' => by with_unfolding_all exact rfl), ?_⟩
    go_frame
    refine ⟨_, yieldsK_val wU (fun w' => by with_unfolding_all exact rfl), ?_⟩
    go_frame
    refine ⟨_, yieldsK_idx (k := (j : Int)) (n := T.length) E_ts (by omega) (by omega) wU wU wU, ?_⟩
    go_frame
    refine ⟨_, yieldsK_tri tri1 wU wU wU, ?_⟩
    go_frame
    refine ⟨_, yieldsK_cell F_int hc1 wU wU, ?_⟩
    go_frame
    refine ⟨_, yieldsK_val wU (fun w' => by with_unfolding_all exact rfl), ?_⟩
    go_frame
    refine ⟨_, yieldsK_val wU (fun w' => by with_unfolding_all exact rfl), ?_⟩
    go_frame
    refine ⟨_, yieldsK_idx (k := (j : Int)) (n := T.length) E_ts (by omega) (by omega) wU wU wU, ?_⟩
    go_frame
    refine ⟨_, yieldsK_tri tri0 wU wU wU, ?_⟩
    go_frame
    refine ⟨_, yieldsK_cell F_int hc0 wU wU, ?_⟩
    go_frame
    refine ⟨.agg #[.int .i64 g, .int .i64 b, .int .i64 a], yieldsK_val wU (fun w' => by first | (go_simp; done) | (go_simp; rfl)), ?_⟩
    go_frame
    unfold wpPureK
    have hVd : ({ w4 with drawn := w4.drawn + 1 } : World) = w4.drew := rfl
    rw [hVd]
    have hS5 := (hS4.drew).call (SL.ofOwn (own_newN (e := 107) (w := w4.drew) cXS [(⟨g, b, a, a⟩ : CrM)] 1 rfl (by decide) #[.int .i64 g, .int .i64 b, .int .i64 a] rfl (Nat.le_refl _) rfl) (bal (Below.refl _ _) _))
    simp only [List.cons_append, List.nil_append] at hS5
    refine wpAnyC_on [17] kR (by simp) ?_
    simp only [List.forall_mem_cons, List.not_mem_nil, false_implies, implies_true, and_true]
    refine wpOp_value (v := .slice (some ⟨w4.drew.heap.size, 0, none⟩) 1 1) (w' := w4.drew.alloc (.cells #[.int .i64 g, .int .i64 b, .int .i64 a] 107)) (by rw [List.getElem?_toArray]; rfl) wU (by first | (go_simp; done) | (go_simp; rfl) | (simp [execOp, Act.eval, Result.andThen]; done)) ?_
    refine ⟨hS5.b, ?_⟩
    go_frame
    refine wpAnyC_on [18] kR (by simp) ?_
    simp only [List.forall_mem_cons, List.not_mem_nil, false_implies, implies_true, and_true]
    refine wpOp_of_list (by rw [List.getElem?_toArray]; rfl) ?_
    have hRb := hS5.rd 0 rfl
    ((with_reducible refine wpList_appL 1 E_rxs wU wU (hS5) wU (hRb) (rfl) cXO (by first | omega | (simp; omega)) (by first | omega | (simp; omega)) ?_); intro v6 w6 hS6)
    refine ⟨hS6.b, ?_⟩
    go_frame
    refine wpAnyC_on [19] kR (by simp) ?_
    simp only [List.forall_mem_cons, List.not_mem_nil, false_implies, implies_true, and_true]
    refine wpOp_value (v := v6) (w' := w6) (by rw [List.getElem?_toArray]; rfl) wU (by first | (go_simp; done) | (go_simp; rfl) | (simp [execOp, Act.eval, Result.andThen]; done)) ?_
    refine ⟨hS6.b, ?_⟩
    go_frame
    refine wpAnyC_rest [] [] rfl rfl kR kR kR hS6.b ?_
    unfold wpPure
    refine of_wpList_nil (P := Tryz.prog) (ops := #[]) ?_
    go_wp2_with fail
    exact ⟨⟨j + 1, by omega, by go_num, by rw [HST.out]; exact hS6.tail⟩, by simp [intOf]; omega⟩
  ·have hjn : j = T.length := by omega
   subst hjn
   rw [List.take_length] at hSr
   go_wp2_with fail
   go_ret
   exact ⟨_, rfl, (hSr.own 0 rfl).mono t1.size, bnext t1 hSr.b⟩
end Go.Proofs.YtoebgfgihfjnnaaGreatDoor

namespace Go.Proofs.YtoebgfgihfjnnaaGreatDoor
set_option maxRecDepth 100000
theorem atR_some {m : MacV} {l : List Int} {r : Int} (h : 0 ≤ atR m l r) : idxO l (ofRank m r) = some (atR m l r) := by
 unfold atR at h ⊢
 cases hi : idxO l (ofRank m r) with
 | none => rw [hi] at h; simp at h
 | some i => rfl
theorem atR_ne {m : MacV} {l : List Int} {r r' : Int} (h : 0 ≤ atR m l r) (e : atR m l r = atR m l r') : r = r' := by
 have h1 := atR_some h
 have h2 := atR_some (m := m) (l := l) (r := r') (by rw [← e]; exact h)
 rw [← e] at h2
 have e2 := idxO_inj h1 h2
 have k1 := (ofRank_iff (m := m) (s := ofRank m r) (r := r)).2 rfl
 have k2 := (ofRank_iff (m := m) (s := ofRank m r') (r := r')).2 rfl
 rw [← k1, e2, k2]
theorem tri_ne {m : MacV} {l : List Int} {x : Int × Int × Int} (hx : x ∈ triM m l) : 0 ≤ x.1 ∧ 0 ≤ x.2.1 ∧ x.1 ≠ x.2.1 := by
 unfold triM at hx
 obtain ⟨g, _, hx⟩ := List.mem_flatMap.1 hx
 unfold triG at hx
 obtain ⟨y, hy, hx⟩ := List.mem_flatMap.1 hx
 unfold triX at hx
 split at hx
 ·rename_i h
  simp at hx
  subst hx
  refine ⟨h.1, h.2, fun e => ?_⟩
  dsimp only at e
  unfold prsG at hy
  simp only [List.mem_cons, List.not_mem_nil, or_false] at hy
  rcases hy with rfl | rfl | rfl
  ·have := atR_ne h.1 e; omega
  ·have := atR_ne h.1 e; omega
  ·have := atR_ne h.1 e; omega
 ·cases hx
/-- the letter of a crossing. -/
theorem letter_tri {m : MacV} {r : List Int} {a b g : Int} (hne : a ≠ b) : letterC r (mkT m (a, b, g)) = if fwdM m g then -(idxZ r a) - 1 else idxZ r a + 1 := by
 unfold letterC mkT mkX
 cases hf : fwdM m g
 ·simp
 ·simp
  intro e
  exact absurd e.symm hne
theorem going_tri (m : MacV) (a b g : Int) : (mkT m (a, b, g)).going = a := mkX_going m g a b
end Go.Proofs.YtoebgfgihfjnnaaGreatDoor

namespace Go.Proofs.YtoebgfgihfjnnaaGreatDoor
open Go.RowKit
set_option maxHeartbeats 2000000
set_option maxRecDepth 100000

section
variable {P : Program} {t e : TypeId} {w : World} {v : Value} {l : List Int} {y : Int}
theorem run_app_sib (ty : TypeId) (E : ETy P t e (.int .i64 0) 1 8) (hO : Own cInt 1 0 e w v l) {a : Option Addr} {cap : Nat} (hR : Reps cInt 1 w a cap [y]) (hl : l.length ≤ 1048576) :
  ∃ v' w', (Builtin.append_ #[t, t] ty #[v, .slice a 1 cap]).run P w = .ok v' w' ∧ Own cInt 1 0 e w' v' (l ++ [y]) ∧
   ((∃ g c, v = .slice (some ⟨g, 0, none⟩) l.length c ∧ v' = .slice (some ⟨g, 0, none⟩) (l.length + 1) c ∧ w.grownBy w' (some g)) ∨ (w.grownBy w' none ∧ v'.ownBlock = some w.heap.size)) := by
 obtain ⟨v', w', h1, h2, h3, h4⟩ := run_app ty E hO hR cIntO (by simp; omega) (by simp; omega) (Nat.zero_le _)
 refine ⟨v', w', h1, h2, ?_⟩
 obtain ⟨i, hi, hz, hs, hby⟩ := info_parts E.inf
 obtain ⟨b, o, rfl, hcell⟩ := hR.cells (by decide) 0 0 (by simp)
 have hy := hcell 0 (.int .i64 y) rfl
 simp only [Nat.zero_mul, Nat.add_zero] at hy
 have hnews : ∀ j u, ([.int .i64 y] : List Value)[j]? = some u → w.cell? ((⟨b, o, none⟩ : Addr).add j) = some u := by
  intro j u hu
  have hj : j = 0 := by have := (List.getElem?_eq_some_iff.1 hu).1; simp at this; omega
  subst hj
  simp at hu
  subst hu
  rw [Addr.add_z]
  exact hy
 have hfl : (l.flatMap fun x => (cInt x).cells.toList).length = l.length * 1 := flat_len _ 1 (fun x => by simpa using cIntS x) l
 have hO2 := hO.2
 rcases hO2.2 with ⟨rfl, h0⟩ | ⟨g, c, cur, rfl, _, hg, hnc, hcm, hcs, htk⟩
 ·right
  refine ⟨h3, ?_⟩
  rcases h4 with h4 | h4
  ·rcases h2.2.2 with ⟨rfl, h5⟩ | ⟨g', c', cur', rfl, _⟩
   ·simp at h5
   ·cases h4
  ·exact h4
 ·by_cases hroom : l.length + 1 ≤ c
  ·left
   have hr := run_append_room (P := P) w t ty e i E.und hi g l.length c cur hg ⟨b, o, none⟩ 1 cap [.int .i64 y] (by simp [hs]) hnews (by intro u hu; simp at hu; subst hu; rfl) hroom (by rw [hs, hcs]; simp; omega)
   have hr := h1.symm.trans hr
   injection hr with e1 e2
   subst e1
   exact ⟨g, c, rfl, rfl, h3⟩
  ·right
   have hr := run_append_grow (P := P) w t ty e i (.int .i64 0) E.und hi hz ⟨g, 0, none⟩ l.length c _ (by rw [hfl, hs]) (hO2.cells (g := g) rfl) ⟨b, o, none⟩ 1 cap [.int .i64 y] (by simp [hs]) hnews (by omega) (by omega) (growslice_fits (by omega) (by rw [hby]; omega))
   have hr := h1.symm.trans hr
   injection hr with e1 e2
   subst e1 e2
   refine ⟨⟨rfl, rfl, rfl, by simp, fun k hk _ => by first | exact heap_alloc_old w.drew _ k hk | exact heap_alloc_old w.drew _ hk⟩, rfl⟩
end
/-- what an append leaves of the shorter slice. -/
def Sib (v : Value) (l : List Int) (v' : Value) (T M : List Pc) : Prop :=
 (T = M ∧ ∃ g c, v = .slice (some ⟨g, 0, none⟩) l.length c ∧ v' = .slice (some ⟨g, 0, none⟩) (l.length + 1) c) ∨ T = pOwn cInt 1 3 v l :: M
theorem own_shorter {e : TypeId} {w : World} {g c : Nat} {l : List Int} {y : Int} {B : Nat} (h : Own cInt 1 B e w (.slice (some ⟨g, 0, none⟩) (l.length + 1) c) (l ++ [y])) : Own cInt 1 B e w (.slice (some ⟨g, 0, none⟩) l.length c) l := by
 obtain ⟨h1, h2, h3⟩ := h
 have hfl : ∀ L : List Int, (L.flatMap fun x => (cInt x).cells.toList).length = L.length * 1 := fun L => flat_len _ 1 (fun x => by simpa using cIntS x) L
 refine ⟨h1, hfl l, ?_⟩
 rcases h3 with ⟨h3, _⟩ | ⟨g', c', cur, hv, hB, hg, hnc, hcm, hcs, htk⟩
 ·cases h3
 ·simp only [Value.slice.injEq, Option.some.injEq, Addr.mk.injEq, and_true] at hv
  obtain ⟨rfl, _, rfl⟩ := hv
  refine .inr ⟨g, c, cur, rfl, hB, hg, ?_, hcm, hcs, ?_⟩
  ·simp at hnc; omega
  ·rw [List.flatMap_append] at htk
   have h4 := congrArg (List.take (l.length * 1)) htk
   rw [List.take_take, List.length_append, List.length_cons, List.length_nil] at h4
   rw [show min (l.length * 1) ((l.length + (0 + 1)) * 1) = l.length * 1 by omega] at h4
   rw [h4, ← hfl l, List.take_left]
theorem Sib.back {B : Nat} {w0 w : World} {v v' : Value} {l : List Int} {y : Int} {T M : List Pc} {p q : Pc} (h : Sib v l v' T M) (hS : SL B w0 w (p :: q :: pOwn cInt 1 3 v' (l ++ [y]) :: T)) : SL B w0 w (p :: q :: pOwn cInt 1 3 v l :: M) := by
 rcases h with ⟨rfl, g, c, rfl, rfl⟩ | rfl
 ·exact hS.weaken 2 rfl (pOwn cInt 1 3 (.slice (some ⟨g, 0, none⟩) l.length c) l) (fun b hb => ⟨own_shorter hb.1, hb.2⟩)
 ·exact SL.pickA (K := [p, q, pOwn cInt 1 3 v' (l ++ [y]), pOwn cInt 1 3 v l]) (M := M) hS [0, 1, 3] (by decide) (by simp) [p, q, pOwn cInt 1 3 v l] rfl
theorem sibFill {B : Nat} {w0 w : World} {v v' : Value} {l : List Int} {y : Int} {T L : List Pc} {p0 p1 p3 p4 : Pc} (h : Sib v l v' T (p0 :: p1 :: p3 :: p4 :: L)) (hS : SL B w0 w (pOwn cInt 1 3 v' (l ++ [y]) :: T)) :
  ∃ T', Sib v l v' T' L ∧ SL B w0 w (p0 :: p1 :: pOwn cInt 1 3 v' (l ++ [y]) :: p3 :: p4 :: T') := by
 rcases h with ⟨rfl, h⟩ | rfl
 ·exact ⟨L, .inl ⟨rfl, h⟩, SL.pickA (K := [pOwn cInt 1 3 v' (l ++ [y]), p0, p1, p3, p4]) (M := L) hS [1, 2, 0, 3, 4] (by decide) (by simp) [p0, p1, pOwn cInt 1 3 v' (l ++ [y]), p3, p4] rfl⟩
 ·exact ⟨_, .inr rfl, SL.pickA (K := [pOwn cInt 1 3 v' (l ++ [y]), pOwn cInt 1 3 v l, p0, p1, p3, p4]) (M := L) hS [2, 3, 0, 4, 5, 1] (by decide) (by simp) [p0, p1, pOwn cInt 1 3 v' (l ++ [y]), p3, p4, pOwn cInt 1 3 v l] rfl⟩
theorem Sib.back5 {B : Nat} {w0 w : World} {v v' : Value} {l : List Int} {y : Int} {T L : List Pc} {p0 p1 p3 p4 : Pc} (h : Sib v l v' T L) (hS : SL B w0 w (p0 :: p1 :: pOwn cInt 1 3 v' (l ++ [y]) :: p3 :: p4 :: T)) : SL B w0 w (p0 :: p1 :: pOwn cInt 1 3 v l :: p3 :: p4 :: L) := by
 rcases h with ⟨rfl, g, c, rfl, rfl⟩ | rfl
 ·exact hS.weaken 2 rfl (pOwn cInt 1 3 (.slice (some ⟨g, 0, none⟩) l.length c) l) (fun b hb => ⟨own_shorter hb.1, hb.2⟩)
 ·exact SL.pickA (K := [p0, p1, pOwn cInt 1 3 v' (l ++ [y]), p3, p4, pOwn cInt 1 3 v l]) (M := L) hS [0, 1, 5, 3, 4] (by decide) (by simp) [p0, p1, pOwn cInt 1 3 v l, p3, p4] rfl
section
variable {ops : Array Oper} {rest : List Oper} {a : Act} {Q : Exit → Act → World → Prop} {w0 w : World} {M : List Pc} {B : Nat} {v : Value} {l : List Int}
theorem wpList_pushSib {d : Option Tmp} {ty : TypeId} {p : String} {s x : Operand} {af : Array Edge} {H n cp : Nat} {y : Int} {T0 : TypeId} {fr : Nat × Nat}
   (hs : a.eval s = v) (hx : a.eval x = .slice (some ⟨H, 0, none⟩) n cp) (hS : SL B w0 w (pOwn cInt 1 3 v l :: M))
   (hn : n = 1 ∧ cp = 1) (hH : w.heap.size = H) (hl : l.length ≤ 1048576)
   (hK : ∀ v' w' T, Sib v l v' T M → SL B w0 w' (pOwn cInt 1 3 v' (l ++ [y]) :: T) → wpList Tryz.prog ops Q rest (a.put d v') w') :
   wpList Tryz.prog ops Q (⟨d, .call { callee := .builtin .append, args := #[s, x], argTypes := #[22, 22] }, ty, p, af, none⟩ :: rest) a (w.alloc (.cells #[.int .i64 y] T0 fr)) := by
 obtain ⟨rfl, rfl⟩ := hn
 have hS' := hS.al (.cells #[.int .i64 y] T0 fr)
 obtain ⟨b, ⟨h2, h3⟩, h4, h5⟩ := hS'.upd 0 rfl
 obtain ⟨v', w', r1, r2, r3⟩ := run_app_sib ty E_ints h2 (reps_new1 cIntS y #[.int .i64 y] fr hH rfl) hl
 refine wpList_plain rfl fun K hK' => ?_
 unfold Oper.wp execOp
 simp only [resolve, invoke, builtin, Sem.run_bind, Sem.run_pure, Result.andThen_ok, List.map_toArray, List.map_cons, List.map_nil, hs, hx, r1]
 refine hK' _ _ ?_
 rcases r3 with ⟨g, c, e1, e2, hg⟩ | ⟨hg, hb⟩
 ·refine hK v' w' M (.inl ⟨rfl, g, c, e1, e2⟩) ?_
  have hgb : b = some g := by rw [← h3, e1]; rfl
  exact h5 w' (pOwn cInt 1 3 v' (l ++ [y])) b (by rw [hgb]; exact hg) ⟨r2, by rw [hgb, e2]; rfl⟩ (.inl rfl)
 ·refine hK v' w' _ (.inr rfl) ?_
  refine hS'.new _ (b := some (w.alloc (.cells #[.int .i64 y] T0 fr)).heap.size) hg ⟨r2, hb⟩ (fun k e => by cases e; exact Nat.le_refl _)
end

def bigger (best l : List Int) : List Int := if best.length < l.length then l else best
noncomputable def extF (m : MacV) : Nat → List Int → List Int → Int → List Int
 | 0, best, _, _ => best
 | f + 1, best, l, s => if best.length < l.length + (f + 1) then extF m f (if apartM m s l then extF m f (bigger best (l ++ [s])) (l ++ [s]) (s + 1) else best) l (s + 1) else best
noncomputable def fillM (m : MacV) : List Int := extF m (4 * m.gears).toNat [] [] 0
theorem bigger_len (best l : List Int) (k : Nat) (h1 : best.length ≤ k) (h2 : l.length ≤ k) : (bigger best l).length ≤ k := by unfold bigger; split <;> assumption
theorem extF_len (m : MacV) : ∀ (f : Nat) (best l : List Int) (s : Int) (k : Nat), best.length ≤ k → l.length + f ≤ k → (extF m f best l s).length ≤ k
 | 0, best, l, s, k, h1, _ => h1
 | f + 1, best, l, s, k, h1, h2 => by
   rw [extF]
   split
   · refine extF_len m f _ _ _ k ?_ (by omega)
     split
     · exact extF_len m f _ _ _ k (bigger_len _ _ _ h1 (by simp; omega)) (by simp; omega)
     · exact h1
   · exact h1
end Go.Proofs.YtoebgfgihfjnnaaGreatDoor

namespace Go.Proofs.YtoebgfgihfjnnaaGreatDoor
open Go.RowKit
set_option maxHeartbeats 8000000
set_option maxRecDepth 100000

/-- the word and its error. -/
noncomputable def wrdL (m : MacV) (l : List Int) (n : Int) : List Int := (wvM m l n.toNat).2
noncomputable def wrdE (m : MacV) (l : List Int) (n : Int) : Int := if weaveE m l n ≠ 0 then weaveE m l n else if 200 < (wrdL m l n).length then 26 else 0
theorem atL_zero (m : MacV) (l : List Int) : atL m l 0 = l := by
 unfold atL
 conv => rhs; rw [← List.map_id l]
 exact List.map_congr_left (fun x _ => rfl)
theorem atL_len (m : MacV) (l : List Int) (k : Nat) : (atL m l k).length = l.length := by simp [atL]
theorem wvM_len {m : MacV} (hg : m.gears ≤ 16) (l : List Int) : ∀ k : Nat, (wvM m l k).2.length ≤ 48 * k
 | 0 => by simp [wvM]
 | k + 1 => by
   have := wvM_len hg l k
   have h2 := crossM_len m (atL m l k)
   rw [wvM, weaveS_len]
   omega
theorem foldC_step {cs : List CrM} {i : Nat} (h : i < cs.length) (st : List Int × List Int) : (cs.take (i + 1)).foldl weaveC st = weaveC ((cs.take i).foldl weaveC st) (atD ⟨0, 0, 0, 0⟩ cs i) := by
 rw [List.take_succ_eq_append_getElem h, List.foldl_append]
 simp [atD, h]

theorem weaveC_at {st : List Int × List Int} {c : CrM} {p : Nat} (h : idxO st.1 c.going = some (p : Int)) : weaveC st c = (swpL st.1 p, st.2 ++ [if c.over = c.going then (p : Int) + 1 else -(p : Int) - 1]) := by
 have e : idxZ st.1 c.going = p := by unfold idxZ; rw [h]; rfl
 unfold weaveC letterC
 rw [e]
 rfl

section
variable {ops : Array Oper} {rest : List Oper} {a : Act} {Q : Exit → Act → World → Prop} {w : World} {ty : TypeId} {p : String} {af : Array Edge}
theorem wpList_stoI {x y : Operand} {pa : Addr} {u : Value} {v : Int} (hx : a.eval x = .pointer (some pa)) (hy : a.eval y = .int .i64 v) (hc : w.cell? pa = some u) (hf : w.frozen? pa = false)
  (h : wpList Tryz.prog ops Q rest (a.put none undef) (w.setCell pa (.int .i64 v))) :
  wpList Tryz.prog ops Q (⟨none, .store 3 x y, ty, p, af, none⟩ :: rest) a w := by
 refine wpList_plain rfl fun K hK' => ?_
 have hs := sto_int v w pa (by rw [hc]; rfl) hf
 unfold cInt at hs
 unfold Oper.wp
 simp only [execOp, hx, hy]
 simp [hs, Result.andThen]
 exact hK' _ _ h
end

theorem wrapP1 (p : Nat) (h : p ≤ 1000) : IntKind.i64.wrap ((p : Int) + 1) = (p : Int) + 1 := IntWalk.i64_in _ (by omega)
theorem wrapQ1 (p : Nat) (h : p ≤ 1000) : wrap64 ((p : Int) + 1) = (p : Int) + 1 := IntWalk.wrap64_in _ (by omega)
theorem wrapN1 (p : Nat) (h : p ≤ 1000) : IntKind.i64.wrap (-(p : Int)) = -(p : Int) := IntWalk.i64_in _ (by omega)
theorem wrapN2 (p : Nat) (h : p ≤ 1000) : IntKind.i64.wrap (-(p : Int) - 1) = -(p : Int) - 1 := IntWalk.i64_in _ (by omega)

theorem pkB (p K : Nat) (h : p + 1 < K) (h2 : K ≤ 64) : p ≤ 1000 ∧ (¬ (K : Int) ≤ (p : Int) + 1) ∧ (0 : Int) ≤ (p : Int) + 1 ∧ ¬ K ≤ p ∧ ¬ (K : Int) ≤ (p : Int) ∧ (p : Int) + 1 < K ∧ p < K := by
 refine ⟨?_, ?_, ?_, ?_, ?_, ?_, ?_⟩ <;> omega

theorem mWord_any (m : MacV) (ad : Option Addr) (cap : Nat) (al : Option Addr) (cl : Nat) (l : List Int) (n : Int) (w : World) (hR : Ints w ad cap m.sw) (hL : Ints w al cl l) (HK : ChkL m ad cap al cl l) :
  Calls Tryz.prog 16 #[mV m ad cap, .slice al l.length cl, .int .i64 n] w fun r w' => ∃ v, r = .returned (.tuple #[v, .int .i64 (wrdE m l n)]) ∧ OwnI w.heap.size w' v (if wrdE m l n = 0 then wrdL m l n else []) ∧ Below w.heap.size w w' := by
 have hcap := hL.le
 have hmx := hL.max
 have hS := (SL.nil w).box (.cells (mC m ad cap) 24)
 have q1 := (hS.blk 0 rfl).1
 have R1 := hR.below hS.b
 have L1 := hL.below hS.b
 have CW := checkWeave_any m ad cap al cl l n _ R1 L1 HK
 by_cases he : weaveE m l n = 0
 ·obtain ⟨hok, hr, hl12, hn0, hn1, hme⟩ := weaveE_zero he
  have hlo := hok.ok.lo
  have hhi := hok.ok.hi
  obtain ⟨N, rfl⟩ : ∃ N : Nat, n = N := ⟨n.toNat, by omega⟩
  have hrows := fun k hk => wvM_row hr hok.rng hme k hk
  have hsteps := fun k => atL_succ hok.rng k
  have hrngs := fun k => atL_rng hok.rng k
  have CO := fun w h => order_any m ad cap al cl l w h (by omega) hhi
  have CX := fun (k : Nat) a c w (h : Ints w a c (atL m l k)) => crossings_any m ad cap a c (atL m l k) w h (by omega) hhi
  have CN := fun (k : Nat) a c w (h : Ints w a c (atL m l k)) (h2 : Ints w ad cap m.sw) => mappedN_any (mV m ad cap) (nextM m) a c (atL m l k) w h (by rw [atL_len]; omega) (fun x hx w' hw' => mnext_any m ad cap x w' (h2.below hw') hhi (hrngs k x hx).1 (hrngs k x hx).2)
  have hgood := fun k => crossM_good m (atL m l k)
  have hcl := fun k => crossM_len m (atL m l k)
  have hv : wrdE m l N = if 200 < (wvM m l N).2.length then 26 else 0 := by unfold wrdE wrdL; rw [if_neg (by simp [he])]; rfl
  have hw : wrdL m l N = (wvM m l N).2 := rfl
  rw [hv, hw]
  rw [he] at CW
  have HC := hid CW; have HO := hid CO; have HX := hid CX; have HN := hid CN; have HROW := hid hrows; have HST := hid hsteps; have HG := hid hgood; have HCL := hid hcl
  clear CW CO CX CN hrows hsteps hrngs hgood hcl hv hw he hok hr hme HK
  go_enter Tryz.func16, Tryz.ntmps16
  go_wp2
  go_step3
  go_wp2_with (with_reducible refine wpList_ldS (n := 4) (us := mC m ad cap) A_mach kR wU wU (by assumption) wU wU ?_)
  refine HC.out.mono ?_
  rintro e w1 ⟨rfl, b1⟩
  have hS1 := hS.mono b1
  have q2 := (hS1.blk 0 rfl).1
  clear q1
  go_wp2_with (with_reducible refine wpList_ldS (n := 4) (us := mC m ad cap) A_mach kR wU wU (by assumption) wU wU ?_)
  refine (HO.out _ (hL.below hS1.b)).mono ?_
  rintro e w2 ⟨v2, rfl, ho2, b2⟩
  have hS2 := hS1.call (SL.ofOwn ho2 b2)
  simp only [List.cons_append, List.nil_append] at hS2
  have hS3 := ((hS2.newSrc hL).nilS (α := Int) (c := cInt) (sz := 1) (e := 3) cIntS).pick [2, 0, 1, 3] (by decide) [pOwn cInt 1 3 v2 (orderM m l), pOwn cInt 1 3 (.slice none 0 0) [], pSrc cInt 1 3 w (.slice al l.length cl) l, pBlk w.heap.size (.cells (mC m ad cap) 24)] rfl
  clear q2 hS2 hS1 hS ho2
  obtain ⟨a2, c2, rfl, _⟩ := hS3.slice 0 rfl
  obtain ⟨K, hK⟩ : ∃ K, K = (orderM m l).length := ⟨_, rfl⟩
  rw [← hK] at hS3 ⊢
  have hK64 : K ≤ 64 := by have := orderM_len m l; omega
  clear hK
  go_wp2_with fail
  go_step3
  go_wp2
  obtain ⟨Z, hZ⟩ : ∃ Z, Z = (wvM m l N).2.length := ⟨_, rfl⟩
  have HZ := hid hZ
  clear hZ
  go_loopg [26, 1, 10] N (fun g i lv ov wr => ∃ k : Nat, k + g = N ∧ i = .int .i64 k ∧ lenV ov = (wvM m l k).2.length ∧ SL w.heap.size w wr [pOwn cInt 1 3 (.slice a2 K c2) ((wvM m l k).1), pOwn cInt 1 3 ov ((wvM m l k).2), pSrc cInt 1 3 w lv (atL m l k), pBlk w.heap.size (.cells (mC m ad cap) 24)])
  case atStart => exact ⟨0, by omega, rfl, rfl, by rw [atL_zero]; exact hS3⟩
  case round =>
   clear hS3
   obtain ⟨k, hk, rfl, hlo, hSr⟩ := hrel
   cases gk with
   | zero =>
    have hkn : k = N := by omega
    subst hkn
    obtain ⟨ao, co, rfl, _⟩ := hSr.slice 1 rfl
    obtain ⟨O, hO⟩ : ∃ O, O = (wvM m l k).2 := ⟨_, rfl⟩
    rw [← hO] at hSr ⊢
    have HO2 := hid hO; have hSx := hid hSr
    clear hO hSr hlo
    by_cases hb : 200 < O.length
    ·have hb2 : ¬ O.length ≤ 200 := by omega
     go_wp2_with fail
     try rw [Exit.noGoto_ret]
     go_ret2
     rw [← HO2.out, if_pos hb, if_neg (by decide)]
     exact ⟨_, rfl, own_nil cIntS, hSx.out.b⟩
    ·go_wp2_with fail
     try rw [Exit.noGoto_ret]
     go_ret2
     rw [← HO2.out, if_neg hb, if_pos rfl]
     exact ⟨_, rfl, hSx.out.own 1 rfl, hSx.out.b⟩
   | succ g =>
    have hlt : k < N := by omega
    have hnx : wvM m l (k + 1) = (crossM m (atL m l k)).foldl weaveC (wvM m l k) := rfl
    have hgd := HG.out k
    have hcln := HCL.out k
    have hrw := HROW.out k (by omega)
    have hwl := wvM_len (m := m) hhi l k
    rw [← hrw] at hgd
    obtain ⟨a1, c1, rfl, hl1⟩ := hSr.src 2 rfl
    have q1 := (hSr.blk 3 rfl).1
    have HX1 := hid (HX.out k a1 c1)
    obtain ⟨cs, hcs⟩ : ∃ cs, cs = crossM m (atL m l k) := ⟨_, rfl⟩
    rw [← hcs] at HX1 hgd hcln hnx
    obtain ⟨r0, hr0⟩ : ∃ r0, r0 = (wvM m l k).1 := ⟨_, rfl⟩
    obtain ⟨o0, ho0⟩ : ∃ o0, o0 = (wvM m l k).2 := ⟨_, rfl⟩
    have hpr : wvM m l k = (r0, o0) := by rw [hr0, ho0]
    rw [hpr] at hnx
    rw [← hr0] at hgd hSr
    rw [← ho0] at hwl hlo hSr
    have HNX := hid hnx; have HGD := hid hgd; have HLO := hid hlo
    clear hcs hnx hgd hr0 ho0 hpr hlo hrw
    have hcl48 : cs.length ≤ 48 := by omega
    have hw5 : o0.length ≤ 48000 := by omega
    clear hcln hwl
    go_wp2_with (with_reducible refine wpList_ldS (n := 4) (us := mC m ad cap) A_mach kR wU wU (by assumption) wU wU ?_)
    refine (HX1.out _ hl1).mono ?_
    rintro e w3 ⟨vx, rfl, hox, b3⟩
    have hS4 := hSr.call (SL.ofOwn hox b3)
    simp only [List.cons_append, List.nil_append] at hS4
    obtain ⟨ax, cx, rfl, _⟩ := hS4.slice 0 rfl
    clear q1 hSr hox b3 hl1
    go_wp2_with fail
    go_loopg [32, 10] cs.length (fun g2 j ov wq => ∃ i : Nat, i + g2 = cs.length ∧ j = .int .i64 i ∧ lenV ov = o0.length + i ∧ SL w.heap.size w wq [pOwn cCr 4 98 (.slice ax cs.length cx) cs, pOwn cInt 1 3 (.slice a2 K c2) ((cs.take i).foldl rowC r0), pOwn cInt 1 3 ov ((cs.take i).foldl weaveC (r0, o0)).2, pSrc cInt 1 3 w (.slice a1 (atL m l k).length c1) (atL m l k), pBlk w.heap.size (.cells (mC m ad cap) 24)])
    case atStart => exact ⟨0, by omega, rfl, by rw [HLO.out]; omega, hS4⟩
    case round =>
     clear hS4
     obtain ⟨i, hi, rfl, hlo, hSq⟩ := hrel
     cases gk with
     | zero =>
      have hic : cs.take i = cs := List.take_of_length_le (by omega)
      rw [hic] at hSq
      have e1 : cs.foldl rowC r0 = (wvM m l (k + 1)).1 := by rw [HNX.out, fold_fst]
      have e2 : (cs.foldl weaveC (r0, o0)).2 = (wvM m l (k + 1)).2 := by rw [HNX.out]
      rw [e1, e2] at hSq
      obtain ⟨O, hO⟩ : ∃ O, O = (wvM m l (k + 1)).2 := ⟨_, rfl⟩
      rw [← hO] at hSq
      obtain ⟨ao, co, rfl, _⟩ := hSq.slice 2 rfl
      obtain ⟨a4, c4, e4, hl4⟩ := hSq.src 3 rfl
      cases e4
      have hmono := wvM_mono m l (j := k + 1) (k := N) (by omega)
      rw [← hO] at hmono
      have HO2 := hid hO; have hSx := hid hSq; have HM := hid hmono
      have q1 := (hSq.blk 4 rfl).1
      have R4 := hR.below hSq.b
      clear hO hSq hlo hic e1 e2 hmono
      by_cases hb : 200 < O.length
      ·have hb2 : ¬ O.length ≤ 200 := by omega
       have hb3 : decide (200 < (O.length : Int)) = true := decide_eq_true (by omega)
       go_wp2_with fail
       try rw [Exit.noGoto_ret]
       go_ret2
       rw [if_pos (by have := HM.out; omega), if_neg (by decide)]
       exact ⟨_, rfl, own_nil cIntS, hSx.out.b⟩
      ·have hb3 : decide (200 < (O.length : Int)) = false := decide_eq_false (by omega)
       go_wp2_with (with_reducible refine wpList_ldS (n := 4) (us := mC m ad cap) A_mach kR wU wU (by assumption) wU wU ?_)
       refine (HN.out k _ _ _ hl4 R4).mono ?_
       rintro e w5 ⟨vl, rfl, hol, b5⟩
       have hS6 := hSx.out.call (SL.ofOwn hol b5)
       simp only [List.cons_append, List.nil_append] at hS6
       have hst : (atL m l k).map (nextM m) = atL m l (k + 1) := HST.out k
       rw [hst] at hS6
       have hS7 := (hS6.weaken 0 rfl (pSrc cInt 1 3 w vl (atL m l (k + 1))) (fun b hb => .inr hb)).pick [2, 3, 0, 5] (by decide) [pOwn cInt 1 3 (.slice a2 K c2) (wvM m l (k + 1)).1, pOwn cInt 1 3 (.slice ao O.length co) O, pSrc cInt 1 3 w vl (atL m l (k + 1)), pBlk w.heap.size (.cells (mC m ad cap) 24)] rfl
       go_wp2_with fail
       go_roundg g
       case measure => omega
       case rel => exact ⟨k + 1, by omega, by go_num, by rw [← HO2.out]; rfl, by rw [← HO2.out]; exact hS7⟩
     | succ g2 =>
      have hic : i < cs.length := by omega
      obtain ⟨p, hp, hp1⟩ := goodC_at HGD.out hic
      have hst := foldC_step hic (r0, o0)
      have hwe : weaveC ((cs.take i).foldl weaveC (r0, o0)) (atD ⟨0, 0, 0, 0⟩ cs i) = (swpL ((cs.take i).foldl rowC r0) p, ((cs.take i).foldl weaveC (r0, o0)).2 ++ [if (atD ⟨0, 0, 0, 0⟩ cs i).over = (atD ⟨0, 0, 0, 0⟩ cs i).going then (p : Int) + 1 else -(p : Int) - 1]) := by
       have ec : atD (⟨0, 0, 0, 0⟩ : CrM) cs i = cs[i] := by simp [atD, hic]
       rw [ec]
       rw [weaveC_at (p := p) (by rw [fold_fst]; exact hp), fold_fst]
      rw [hwe] at hst
      have hst1 : (cs.take (i + 1)).foldl rowC r0 = swpL ((cs.take i).foldl rowC r0) p := by
       have := congrArg Prod.fst hst
       rw [fold_fst] at this
       exact this
      have hst2 := congrArg Prod.snd hst
      obtain ⟨R, hRr⟩ : ∃ R, R = (cs.take i).foldl rowC r0 := ⟨_, rfl⟩
      obtain ⟨O, hO⟩ : ∃ O, O = ((cs.take i).foldl weaveC (r0, o0)).2 := ⟨_, rfl⟩
      obtain ⟨x, hx⟩ : ∃ x, x = atD (⟨0, 0, 0, 0⟩ : CrM) cs i := ⟨_, rfl⟩
      have hpx : idxO R x.going = some (p : Int) := by
       rw [hx, hRr]
       have ec : atD (⟨0, 0, 0, 0⟩ : CrM) cs i = cs[i] := by simp [atD, hic]
       rw [ec]; exact hp
      rw [← hRr] at hSq hst1 hp1
      rw [← hO] at hSq hst2
      rw [← hx] at hst2
      have HX2 := hid hx; have HS1 := hid hst1; have HS2 := hid hst2
      clear hst hst1 hst2 hwe hp hRr hO hx
      obtain ⟨a', c', eK, _⟩ := hSq.slice 1 rfl
      have hKR : K = R.length := by simp only [Value.slice.injEq] at eK; exact eK.2.1
      clear eK
      obtain ⟨a8, c8, rfl, _⟩ := hSq.slice 2 rfl
      have hOl : O.length = o0.length + i := hlo
      have hO9 : O.length ≤ 1000000 := by omega
      have HOl := hid hOl
      clear hOl hlo
      have hRx := hSq.rd 0 rfl
      have hSc := hSq.box (.cells #[.int .i64 x.gear, .int .i64 x.over, .int .i64 x.under, .int .i64 x.going] 98)
      have q12 := (hSc.blk 0 rfl).1
      have CI := fun w h => sIndexO_any a2 c2 R x.going w h
      rw [hpx, ← hKR] at CI
      simp only [Option.getD_some] at CI
      have HI := hid CI; have HKR := hid hKR
      have hpK : p + 1 < K := by omega
      clear CI hKR hpx hp1
      go_wp2_with (first | ((with_reducible refine wpList_idxS _ ⟨0, 0, 0, 0⟩ E_crs A_crs cCr1 wU wU (hRx) oD oD (fun _ => wU) (fun _ => ?_)); rw [← HX2.out]) | (with_reducible refine wpList_ldB (by first | exact F_int | exact F_u64s) wU wU (by assumption) wU ?_))
      refine (HI.out _ (hSc.rd 2 rfl)).mono ?_
      rintro e w' ⟨rfl, rfl⟩
      obtain ⟨V, hV⟩ : ∃ V, V = wr.alloc (.cells #[.int .i64 x.gear, .int .i64 x.over, .int .i64 x.under, .int .i64 x.going] 98) := ⟨_, rfl⟩
      obtain ⟨b12, hb12⟩ : ∃ b, b = wr.heap.size := ⟨_, rfl⟩
      rw [← hV, ← hb12] at hSc q12 ⊢
      clear hV hb12 hRx q12
      have hKR := HKR.out
      have hSU := hSc.drew
      obtain ⟨U, hU⟩ : ∃ U, U = V.drew := ⟨_, rfl⟩
      rw [← hU] at hSU
      obtain ⟨g, hg, -, hcA, hfA, hS5⟩ := hSU.setOwn cInt1 2 rfl (p : Int) (by omega) (by omega) (atD 0 R ((p : Int) + 1))
      subst hg
      obtain ⟨g', hg', -, hcB, hfB, hS6⟩ := hS5.setOwn cInt1 2 rfl ((p : Int) + 1) (by omega) (by simp; omega) (atD 0 R (p : Int))
      cases hg'
      obtain ⟨g', hg', -, hcC, hfC, -⟩ := hSU.setOwn cInt1 2 rfl ((p : Int) + 1) (by omega) (by omega) 0
      cases hg'
      have eP : (p : Int).toNat = p := by simp
      have eP1 : ((p : Int) + 1).toNat = p + 1 := by omega
      have vA : R[p]?.map cInt = some (.int .i64 (atD 0 R (p : Int))) := by
       have : p < R.length := by omega
       simp [atD, this, cInt]
      have vB : R[p + 1]?.map cInt = some (.int .i64 (atD 0 R ((p : Int) + 1))) := by
       have : p + 1 < R.length := by omega
       simp [atD, eP1, this, cInt]
      simp only [eP, eP1] at hcA hfA hcB hfB hcC hfC hS5 hS6
      rw [vA] at hcA
      rw [vB] at hcC
      have hcB2 : (R.set p (atD 0 R ((p : Int) + 1)))[p + 1]?.map cInt = some (.int .i64 (atD 0 R ((p : Int) + 1))) := by
       rw [List.getElem?_set_ne (by omega)]; exact vB
      rw [hcB2] at hcB
      have hsw : (R.set p (atD 0 R ((p : Int) + 1))).set (p + 1) (atD 0 R (p : Int)) = swpL R p := by
       unfold swpL atD
       rw [eP1, eP]
      rw [hsw] at hS6
      obtain ⟨A0, hA0⟩ : ∃ A, A = atD 0 R (p : Int) := ⟨_, rfl⟩
      obtain ⟨A1, hA1⟩ : ∃ A, A = atD 0 R ((p : Int) + 1) := ⟨_, rfl⟩
      rw [← hA0] at hcA hS6
      rw [← hA1] at hcC hcB hfB hS5 hS6
      simp only [cInt] at hcB hfB hS5 hS6
      obtain ⟨hp9, hkA, hkB, hkC, hkD, hkE, hkF⟩ := pkB p K hpK hK64
      have hw1 := wrapQ1 p hp9
      have hw2 := wrapP1 p hp9
      have hUb := hSU.b
      clear hcB2 vA vB hA0 hA1 hsw hKR hSc hSq eP eP1
      go_wp2_with fail
      refine wp_regionK (C := (fun V' => Below w.heap.size w V')) [0, 1, 2, 3, 4, 5, 6, 7, 8, 10, 11, 12] [_, _, _, _, _, _, _, _, _, _, _, _] 6 (by simp only [List.map_cons, List.map_nil, List.getElem?_toArray]; rfl) rfl kR kR kR ((by rw [hU] at hUb; exact hUb)) ?_
      refine ⟨_, yieldsK_val wU (fun w' => by with_unfolding_all exact rfl), ?_⟩
      go_frame
      refine ⟨_, yieldsK_val wU (fun w' => by with_unfolding_all exact rfl), ?_⟩
      go_frame
      refine ⟨_, yieldsK_val wU (fun w' => by with_unfolding_all exact rfl), ?_⟩
      go_frame
      refine ⟨_, yieldsK_val wU (fun w' => by with_unfolding_all exact rfl), ?_⟩
      go_frame
      refine ⟨.int .i64 ((p : Int) + 1), yieldsK_val wU (fun w' => by first | (go_simp; done) | (go_simp; rfl)), ?_⟩
      go_frame
      refine ⟨_, yieldsK_val wU (fun w' => by with_unfolding_all exact rfl), ?_⟩
      go_frame
      refine ⟨_, yieldsK_val wU (fun w' => by with_unfolding_all exact rfl), ?_⟩
      go_frame
      refine ⟨.int .i64 ((p : Int) + 1), yieldsK_val wU (fun w' => by first | (go_simp; done) | (go_simp; rfl)), ?_⟩
      go_frame
      refine ⟨.pointer (some ⟨g, p + 1, none⟩), yieldsK_val wU (fun w' => by first | (go_simp; done) | (go_simp; rfl)), ?_⟩
      go_frame
      refine ⟨_, yieldsK_val wU (fun w' => by with_unfolding_all exact rfl), ?_⟩
      go_frame
      refine ⟨_, yieldsK_val wU (fun w' => by with_unfolding_all exact rfl), ?_⟩
      go_frame
      refine ⟨.pointer (some ⟨g, p, none⟩), yieldsK_val wU (fun w' => by first | (go_simp; done) | (go_simp; rfl)), ?_⟩
      go_frame
      unfold wpPureK
      have hVd : ({ V with drawn := V.drawn + 1 } : World) = V.drew := rfl
      rw [hVd, ← hU]
      clear hVd hU
      refine wpAnyC_on [9, 13] kR (by simp) ?_
      simp only [List.forall_mem_cons, List.not_mem_nil, false_implies, implies_true, and_true]
      refine ⟨?_, ?_⟩
      ·refine wpOp_value (v := .int .i64 A1) (w' := U) (by rw [List.getElem?_toArray]; rfl) wU (by first | (go_simp; done) | (go_simp; rfl) | (simp [execOp, Act.eval, Result.andThen]; done)) ?_
       refine ⟨hSU.b, ?_⟩
       go_frame
       refine wpAnyC_on [13] kR (by simp) ?_
       simp only [List.forall_mem_cons, List.not_mem_nil, false_implies, implies_true, and_true]
       refine wpOp_value (v := .int .i64 A0) (w' := U) (by rw [List.getElem?_toArray]; rfl) wU (by first | (go_simp; done) | (go_simp; rfl) | (simp [execOp, Act.eval, Result.andThen]; done)) ?_
       refine ⟨hSU.b, ?_⟩
       go_frame
       refine wpAnyC_on [14] kR (by simp) ?_
       simp only [List.forall_mem_cons, List.not_mem_nil, false_implies, implies_true, and_true]
       refine wpOp_value (v := .pointer (some ⟨g, p, none⟩)) (w' := U) (by rw [List.getElem?_toArray]; rfl) wU (by first | (go_simp; done) | (go_simp; rfl) | (simp [execOp, Act.eval, Result.andThen]; done)) ?_
       refine ⟨hSU.b, ?_⟩
       go_frame
       refine wpAnyC_on [15] kR (by simp) ?_
       simp only [List.forall_mem_cons, List.not_mem_nil, false_implies, implies_true, and_true]
       refine wpOp_of_list (by rw [List.getElem?_toArray]; rfl) ?_
       refine wpList_stoI (v := A1) wU wU hcA hfA ?_
       refine ⟨hS5.b, ?_⟩
       go_frame
       refine wpAnyC_on [16] kR (by simp) ?_
       simp only [List.forall_mem_cons, List.not_mem_nil, false_implies, implies_true, and_true]
       refine wpOp_value (v := .pointer (some ⟨g, p + 1, none⟩)) (w' := (U.setCell ⟨g, p, none⟩ (.int .i64 A1))) (by rw [List.getElem?_toArray]; rfl) wU (by first | (go_simp; done) | (go_simp; rfl) | (simp [execOp, Act.eval, Result.andThen]; done)) ?_
       refine ⟨hS5.b, ?_⟩
       go_frame
       refine wpAnyC_on [17] kR (by simp) ?_
       simp only [List.forall_mem_cons, List.not_mem_nil, false_implies, implies_true, and_true]
       refine wpOp_of_list (by rw [List.getElem?_toArray]; rfl) ?_
       refine wpList_stoI (v := A0) wU wU hcB hfB ?_
       refine ⟨hS6.b, ?_⟩
       go_frame
       refine wpAnyC_rest [] [] rfl rfl kR kR kR hS6.b ?_
       unfold wpPure
       refine of_wpList_nil (P := Tryz.prog) (ops := #[]) ?_
       obtain ⟨U2, hU2⟩ : ∃ U2, U2 = (U.setCell ⟨g, p, none⟩ (.int .i64 A1)).setCell ⟨g, p + 1, none⟩ (.int .i64 A0) := ⟨_, rfl⟩
       rw [← hU2] at hS6 ⊢
       clear hU2 hS5 hcA hcB hcC hfA hfB hfC hkA hkB hkC hkD hkE hkF hw1
       have q12 := (hS6.blk 0 rfl).1
       have hwn := wrapN1 p hp9
       have hwn2 := wrapN2 p hp9
       by_cases ho : x.over = x.going
       ·have d1 : (x.over == x.going) = true := by simpa using ho
        have e1 : (if x.over = x.going then (p : Int) + 1 else -(p : Int) - 1) = (p : Int) + 1 := if_pos ho
        have hst2 := HS2.out
        rw [e1] at hst2
        have HS3 := hid hst2
        clear ho e1 hst2
        go_wp2_with (first | (with_reducible refine wpList_ldS (n := 3) (us := #[.int .i64 x.gear, .int .i64 x.over, .int .i64 x.under]) A_xs kR wU wU (by assumption) wU wU ?_) | (with_reducible refine wpList_ldB F_int wU wU q12 wU ?_) | ((with_reducible refine wpList_pushL (y := ((p : Int) + 1)) 3 E_ints wU wU (hS6) wU cIntO ⟨rfl, rfl⟩ (by first | with_unfolding_all rfl | simp) wU (by first | omega | (simp; omega)) (by first | omega | (simp; omega)) ?_); intro v7 w7 hS7))
        obtain ⟨a7, c7, rfl, _⟩ := hS7.slice 3 rfl
        clear hwn hwn2 hw2
        go_roundg g2
        case measure => omega
        case rel =>
         refine ⟨i + 1, by omega, by go_num, by show (O ++ [(p : Int) + 1]).length = _; rw [List.length_append, HOl.out]; rfl, ?_⟩
         rw [HS1.out, HS3.out]
         exact hS7.tail
       ·have d1 : (x.over == x.going) = false := by simpa using ho
        have e1 : (if x.over = x.going then (p : Int) + 1 else -(p : Int) - 1) = -(p : Int) - 1 := if_neg ho
        have hst2 := HS2.out
        rw [e1] at hst2
        have HS3 := hid hst2
        clear ho e1 hst2
        go_wp2_with (first | (with_reducible refine wpList_ldS (n := 3) (us := #[.int .i64 x.gear, .int .i64 x.over, .int .i64 x.under]) A_xs kR wU wU (by assumption) wU wU ?_) | (with_reducible refine wpList_ldB F_int wU wU q12 wU ?_) | ((with_reducible refine wpList_pushL (y := (-(p : Int) - 1)) 3 E_ints wU wU (hS6) wU cIntO ⟨rfl, rfl⟩ (by first | with_unfolding_all rfl | simp) wU (by first | omega | (simp; omega)) (by first | omega | (simp; omega)) ?_); intro v7 w7 hS7))
        obtain ⟨a7, c7, rfl, _⟩ := hS7.slice 3 rfl
        clear hwn hwn2 hw2
        go_roundg g2
        case measure => omega
        case rel =>
         refine ⟨i + 1, by omega, by go_num, by show (O ++ [-(p : Int) - 1]).length = _; rw [List.length_append, HOl.out]; rfl, ?_⟩
         rw [HS1.out, HS3.out]
         exact hS7.tail
      ·refine wpOp_value (v := .int .i64 A0) (w' := U) (by rw [List.getElem?_toArray]; rfl) wU (by first | (go_simp; done) | (go_simp; rfl) | (simp [execOp, Act.eval, Result.andThen]; done)) ?_
       refine ⟨hSU.b, ?_⟩
       go_frame
       refine wpAnyC_on [9] kR (by simp) ?_
       simp only [List.forall_mem_cons, List.not_mem_nil, false_implies, implies_true, and_true]
       refine wpOp_value (v := .int .i64 A1) (w' := U) (by rw [List.getElem?_toArray]; rfl) wU (by first | (go_simp; done) | (go_simp; rfl) | (simp [execOp, Act.eval, Result.andThen]; done)) ?_
       refine ⟨hSU.b, ?_⟩
       go_frame
       refine wpAnyC_on [14] kR (by simp) ?_
       simp only [List.forall_mem_cons, List.not_mem_nil, false_implies, implies_true, and_true]
       refine wpOp_value (v := .pointer (some ⟨g, p, none⟩)) (w' := U) (by rw [List.getElem?_toArray]; rfl) wU (by first | (go_simp; done) | (go_simp; rfl) | (simp [execOp, Act.eval, Result.andThen]; done)) ?_
       refine ⟨hSU.b, ?_⟩
       go_frame
       refine wpAnyC_on [15] kR (by simp) ?_
       simp only [List.forall_mem_cons, List.not_mem_nil, false_implies, implies_true, and_true]
       refine wpOp_of_list (by rw [List.getElem?_toArray]; rfl) ?_
       refine wpList_stoI (v := A1) wU wU hcA hfA ?_
       refine ⟨hS5.b, ?_⟩
       go_frame
       refine wpAnyC_on [16] kR (by simp) ?_
       simp only [List.forall_mem_cons, List.not_mem_nil, false_implies, implies_true, and_true]
       refine wpOp_value (v := .pointer (some ⟨g, p + 1, none⟩)) (w' := (U.setCell ⟨g, p, none⟩ (.int .i64 A1))) (by rw [List.getElem?_toArray]; rfl) wU (by first | (go_simp; done) | (go_simp; rfl) | (simp [execOp, Act.eval, Result.andThen]; done)) ?_
       refine ⟨hS5.b, ?_⟩
       go_frame
       refine wpAnyC_on [17] kR (by simp) ?_
       simp only [List.forall_mem_cons, List.not_mem_nil, false_implies, implies_true, and_true]
       refine wpOp_of_list (by rw [List.getElem?_toArray]; rfl) ?_
       refine wpList_stoI (v := A0) wU wU hcB hfB ?_
       refine ⟨hS6.b, ?_⟩
       go_frame
       refine wpAnyC_rest [] [] rfl rfl kR kR kR hS6.b ?_
       unfold wpPure
       refine of_wpList_nil (P := Tryz.prog) (ops := #[]) ?_
       obtain ⟨U2, hU2⟩ : ∃ U2, U2 = (U.setCell ⟨g, p, none⟩ (.int .i64 A1)).setCell ⟨g, p + 1, none⟩ (.int .i64 A0) := ⟨_, rfl⟩
       rw [← hU2] at hS6 ⊢
       clear hU2 hS5 hcA hcB hcC hfA hfB hfC hkA hkB hkC hkD hkE hkF hw1
       have q12 := (hS6.blk 0 rfl).1
       have hwn := wrapN1 p hp9
       have hwn2 := wrapN2 p hp9
       by_cases ho : x.over = x.going
       ·have d1 : (x.over == x.going) = true := by simpa using ho
        have e1 : (if x.over = x.going then (p : Int) + 1 else -(p : Int) - 1) = (p : Int) + 1 := if_pos ho
        have hst2 := HS2.out
        rw [e1] at hst2
        have HS3 := hid hst2
        clear ho e1 hst2
        go_wp2_with (first | (with_reducible refine wpList_ldS (n := 3) (us := #[.int .i64 x.gear, .int .i64 x.over, .int .i64 x.under]) A_xs kR wU wU (by assumption) wU wU ?_) | (with_reducible refine wpList_ldB F_int wU wU q12 wU ?_) | ((with_reducible refine wpList_pushL (y := ((p : Int) + 1)) 3 E_ints wU wU (hS6) wU cIntO ⟨rfl, rfl⟩ (by first | with_unfolding_all rfl | simp) wU (by first | omega | (simp; omega)) (by first | omega | (simp; omega)) ?_); intro v7 w7 hS7))
        obtain ⟨a7, c7, rfl, _⟩ := hS7.slice 3 rfl
        clear hwn hwn2 hw2
        go_roundg g2
        case measure => omega
        case rel =>
         refine ⟨i + 1, by omega, by go_num, by show (O ++ [(p : Int) + 1]).length = _; rw [List.length_append, HOl.out]; rfl, ?_⟩
         rw [HS1.out, HS3.out]
         exact hS7.tail
       ·have d1 : (x.over == x.going) = false := by simpa using ho
        have e1 : (if x.over = x.going then (p : Int) + 1 else -(p : Int) - 1) = -(p : Int) - 1 := if_neg ho
        have hst2 := HS2.out
        rw [e1] at hst2
        have HS3 := hid hst2
        clear ho e1 hst2
        go_wp2_with (first | (with_reducible refine wpList_ldS (n := 3) (us := #[.int .i64 x.gear, .int .i64 x.over, .int .i64 x.under]) A_xs kR wU wU (by assumption) wU wU ?_) | (with_reducible refine wpList_ldB F_int wU wU q12 wU ?_) | ((with_reducible refine wpList_pushL (y := (-(p : Int) - 1)) 3 E_ints wU wU (hS6) wU cIntO ⟨rfl, rfl⟩ (by first | with_unfolding_all rfl | simp) wU (by first | omega | (simp; omega)) (by first | omega | (simp; omega)) ?_); intro v7 w7 hS7))
        obtain ⟨a7, c7, rfl, _⟩ := hS7.slice 3 rfl
        clear hwn hwn2 hw2
        go_roundg g2
        case measure => omega
        case rel =>
         refine ⟨i + 1, by omega, by go_num, by show (O ++ [-(p : Int) - 1]).length = _; rw [List.length_append, HOl.out]; rfl, ?_⟩
         rw [HS1.out, HS3.out]
         exact hS7.tail
 ·obtain ⟨E, hE⟩ : ∃ E, E = weaveE m l n := ⟨_, rfl⟩
  have hv : wrdE m l n = E := by unfold wrdE; rw [if_pos he, hE]
  rw [← hE] at CW he
  have hne : (E != 0) = true := by simpa using he
  rw [hv, if_neg he]
  have HC := hid CW
  clear hv hE CW HK
  go_enter Tryz.func16, Tryz.ntmps16
  go_wp2
  go_step3
  go_wp2_with (with_reducible refine wpList_ldS (n := 4) (us := mC m ad cap) A_mach kR wU wU (by assumption) wU wU ?_)
  refine HC.out.mono ?_
  rintro e w1 ⟨rfl, b1⟩
  have hS1 := hS.mono b1
  go_wp2_with fail
  try rw [Exit.noGoto_ret]
  go_ret2
  exact ⟨_, rfl, own_nil cIntS, hS1.b⟩
end Go.Proofs.YtoebgfgihfjnnaaGreatDoor

namespace Go.Proofs.YtoebgfgihfjnnaaGreatDoor
set_option maxRecDepth 100000
theorem nodup_map {l : List Int} {f : Int → Int} (hn : l.Nodup) (h : ∀ x ∈ l, ∀ y ∈ l, f x = f y → x = y) : (l.map f).Nodup := by
 rw [List.nodup_iff_pairwise_ne, List.pairwise_map]
 exact (List.nodup_iff_pairwise_ne.1 hn).imp_of_mem fun {x y} hx hy hxy e => hxy (h x hx y hy e)
theorem atL_nodup {m : MacV} {l : List Int} (hr : ∀ x ∈ l, 0 ≤ x ∧ x < 4 * m.gears) (hn : l.Nodup) (k : Nat) : (atL m l k).Nodup :=
 nodup_map hn fun x hx y hy e => itM_inj (hr x hx).1 (hr x hx).2 (hr y hy).1 (hr y hy).2 k e
end Go.Proofs.YtoebgfgihfjnnaaGreatDoor

namespace Go.Proofs.YtoebgfgihfjnnaaGreatDoor
set_option maxRecDepth 100000
/-- no two ever meet. -/
def AllA (m : MacV) (l : List Int) : Prop := ∀ x ∈ l, ∀ y ∈ l, x ≠ y → meetM m x y = none
structure GoodL (m : MacV) (l : List Int) (s : Int) : Prop where
 all : AllA m l
 asc : l.Pairwise (· < ·)
 rng : ∀ x ∈ l, 0 ≤ x ∧ x < s
theorem GoodL.mono {m : MacV} {l : List Int} {s t : Int} (h : GoodL m l s) (hst : s ≤ t) : GoodL m l t := ⟨h.all, h.asc, fun x hx => by have := h.rng x hx; omega⟩
end Go.Proofs.YtoebgfgihfjnnaaGreatDoor

namespace Go.Proofs.YtoebgfgihfjnnaaGreatDoor
set_option maxRecDepth 100000
theorem first_is {m : MacV} {l : List Int} {v : Nat × Int} (h : firstM m l = some v) : ∃ p ∈ pairsTo l l.length, meetM m p.1 p.2 = some v := by
 obtain ⟨_, s2⟩ := foldF_spec m (pairsTo l l.length) none
 obtain ⟨_, _, k3⟩ := s2 _ h
 rcases k3 with k3 | k3
 ·cases k3
 ·exact k3
theorem now_none {m : MacV} {l : List Int} (h : ∀ p ∈ pairsTo l l.length, hitM m p.1 p.2 = false) : nowM m l = -1 := by
 unfold nowM
 rcases minF_spec (hereN m) (pairsTo l l.length) with h1 | ⟨h1, ⟨p, hp, e⟩, _⟩
 ·exact h1.1
 ·rw [← e, hereN_nonneg, h p hp] at h1; cases h1
/-- before the first meeting. -/
theorem now_before {m : MacV} {l : List Int} {k : Nat} (h : ∀ v, firstM m l = some v → k < v.1) : nowM m (atL m l k) = -1 := by
 refine now_none fun p hp => ?_
 obtain ⟨q, hq, rfl⟩ := pairsTo_map.1 hp
 dsimp only
 have hs := meetM_spec m q.1 q.2
 obtain ⟨s1, s2⟩ := foldF_spec m (pairsTo l l.length) none
 cases hm : meetM m q.1 q.2 with
 | none => rw [hm] at hs; exact hs k
 | some w =>
  rw [hm] at hs
  refine hs.2.2 k ?_
  cases hf : firstM m l with
  | none => have := (s1 hf).2 q hq; rw [hm] at this; cases this
  | some v =>
   have hb := (s2 v hf).2.1 q hq w hm
   rw [befo_false] at hb
   have := h v hf
   omega
theorem now_at {m : MacV} {l : List Int} {n : Nat} {pl : Int} (h : firstM m l = some (n, pl)) : nowM m (atL m l n) = pl ∧ 0 ≤ pl := by
 refine ⟨(meet_refS h).2, ?_⟩
 obtain ⟨p, _, e⟩ := first_is h
 have hs := meetM_spec m p.1 p.2
 rw [e] at hs
 rw [hs.2.1]
 exact hit_place hs.1
theorem itM_add (m : MacV) (s : Int) (a b : Nat) : itM m (itM m s b) a = itM m s (a + b) := by unfold itM; rw [itP_add]
theorem atL_add (m : MacV) (l : List Int) (a b : Nat) : atL m (atL m l b) a = atL m l (a + b) := by
 unfold atL
 rw [List.map_map]
 exact List.map_congr_left fun x _ => itM_add m x a b
end Go.Proofs.YtoebgfgihfjnnaaGreatDoor

namespace Go.Proofs.YtoebgfgihfjnnaaGreatDoor
set_option maxRecDepth 100000
theorem orderM_mem {m : MacV} {l : List Int} (hg : 0 ≤ m.gears) (hl : ∀ x ∈ l, 0 ≤ x ∧ x < 4 * m.gears) (hn : l.Nodup) {x : Int} : x ∈ orderM m l ↔ 0 ≤ x ∧ x < l.length := by
 obtain ⟨n, hnn⟩ : ∃ n : Nat, 4 * m.gears = n := ⟨(4 * m.gears).toNat, by omega⟩
 rw [← ordR_order m l n hnn]
 unfold ordR
 rw [List.mem_filterMap]
 constructor
 ·rintro ⟨r, _, h⟩
  obtain ⟨h0, h1, _⟩ := idxO_some h
  exact ⟨h0, h1⟩
 ·rintro ⟨h0, h1⟩
  obtain ⟨j, rfl⟩ : ∃ j : Nat, x = j := ⟨x.toNat, by omega⟩
  have hj : j < l.length := by omega
  have hs := hl _ (List.getElem_mem hj)
  have hrk := (ofRank_iff (m := m) (s := l[j]) (r := rankM m l[j])).1 rfl
  have hr0 : 0 ≤ rankM m l[j] ∧ rankM m l[j] < n := by
   have h4 := (slot_rank (m := m) (s := l[j])).2
   omega
  refine ⟨(rankM m l[j]).toNat, List.mem_range.2 (by omega), ?_⟩
  rw [Int.toNat_of_nonneg hr0.1, ← hrk]
  refine idxO_eq hj (List.getElem?_eq_getElem hj) (fun i hi e => ?_)
  have hil : i < l.length := by omega
  rw [List.getElem?_eq_getElem hil] at e
  have := (List.getElem_inj hn).1 (Option.some.inj e)
  omega
theorem orderM_length {m : MacV} {l : List Int} (hg : 0 ≤ m.gears) (hl : ∀ x ∈ l, 0 ≤ x ∧ x < 4 * m.gears) (hn : l.Nodup) : (orderM m l).length = l.length := by
 have hno := orderM_nodup m l
 refine Nat.le_antisymm ?_ ?_
 ·exact nodup_le l.length _ hno fun x hx => (orderM_mem hg hl hn).1 hx
 ·have h : ((List.range l.length).map fun (i : Nat) => (i : Int)).Nodup := by
   rw [List.nodup_iff_pairwise_ne, List.pairwise_map]
   refine (List.nodup_iff_pairwise_ne.1 List.nodup_range).imp fun {a b} hab e => hab (by omega)
  have := h.length_le_of_subset (l₂ := orderM m l) (fun x hx => by
   obtain ⟨i, hi, rfl⟩ := List.mem_map.1 hx
   exact (orderM_mem hg hl hn).2 ⟨by omega, by have := List.mem_range.1 hi; omega⟩)
  simpa using this
/-- where a strand stands later. -/
theorem later_at {m : MacV} {l : List Int} {n : Int} (hg : 0 ≤ m.gears) (hl : ∀ x ∈ l, 0 ≤ x ∧ x < 4 * m.gears) (hn : l.Nodup) (ha : ∀ x ∈ atL m l n.toNat, 0 ≤ x ∧ x < 4 * m.gears) (hna : (atL m l n.toNat).Nodup) {i : Nat} (hi : i < (orderM m l).length) :
  ∃ K : Nat, K < (orderM m (atL m l n.toNat)).length ∧ atD 0 (strandsL m l n) i = K ∧ atD 0 (orderM m (atL m l n.toNat)) K = atD 0 (orderM m l) i ∧ ∀ k : Nat, k < (orderM m (atL m l n.toNat)).length → k ≠ K → atD 0 (orderM m (atL m l n.toNat)) k ≠ atD 0 (orderM m l) i := by
 have e : atD 0 (orderM m l) i = (orderM m l)[i] := by simp [atD, hi]
 have hm := (orderM_mem hg hl hn).1 (List.getElem_mem hi)
 have hm2 : (orderM m l)[i] ∈ orderM m (atL m l n.toNat) := (orderM_mem hg ha hna).2 ⟨hm.1, by rw [show (atL m l n.toNat).length = l.length by simp [atL]]; exact hm.2⟩
 cases hix : idxO (orderM m (atL m l n.toNat)) (orderM m l)[i] with
 | none => exact absurd hm2 (idxO_none.1 hix)
 | some K0 =>
  obtain ⟨k0, k1, k2⟩ := idxO_some hix
  obtain ⟨K, rfl⟩ : ∃ K : Nat, K0 = K := ⟨K0.toNat, by omega⟩
  have hK : K < (orderM m (atL m l n.toNat)).length := by omega
  have e2 : atD 0 (orderM m (atL m l n.toNat)) K = (orderM m l)[i] := by
   have : (orderM m (atL m l n.toNat))[K]? = some (orderM m l)[i] := k2
   simp [atD, this]
  refine ⟨K, hK, ?_, by rw [e2, e], fun k hk hne h => hne ?_⟩
  ·unfold strandsL
   have hs : ((orderM m l).map fun c => (idxO (orderM m (atL m l n.toNat)) c).getD (-1))[i]? = some (K : Int) := by
    rw [List.getElem?_map, List.getElem?_eq_getElem hi, Option.map_some, hix]
    rfl
   simp [atD, hs]
  ·have ek : atD 0 (orderM m (atL m l n.toNat)) k = (orderM m (atL m l n.toNat))[k] := by simp [atD, hk]
   have eK : atD 0 (orderM m (atL m l n.toNat)) K = (orderM m (atL m l n.toNat))[K] := by simp [atD, hK]
   rw [ek, e, ← e2, eK] at h
   exact (List.getElem_inj (orderM_nodup m _)).1 h
end Go.Proofs.YtoebgfgihfjnnaaGreatDoor
