/- Contracts and plain facts that the claim uses (QrZ MbH MbI MaT MaV MaY MbT). Conditions: as each one states. -/
import Derived.Test.YtoebgfgihfjnnaaGreatDoorXd05
import Derived.Test.YtoebgfgihfjnnaaGreatDoorXd09
import Derived.Test.YtoebgfgihfjnnaaGreatDoorXd11
import Derived.Test.YtoebgfgihfjnnaaGreatDoorXd12
set_option linter.all false

namespace Go.Proofs.YtoebgfgihfjnnaaGreatDoor
open Go.RowKit
set_option maxHeartbeats 8000000
set_option maxRecDepth 100000
theorem andK {r p q : Prop} (h : r → p ∧ q) (k : r) : p ∧ q := h k
theorem meets_before {m : MacV} {l : List Int} {n : Int} (h : meetsM m l n = false) {k : Nat} (hk : (k : Int) ≤ n) : nowM m (atL m l k) = -1 := by
 refine now_before fun v hv => ?_
 unfold meetsM at h
 rw [hv] at h
 simp only [decide_eq_false_iff_not] at h
 omega
theorem idxO_first {r : List Int} {x : Int} {p : Nat} (h : idxO r x = some (p : Int)) : atD 0 r p = x ∧ p < r.length ∧ ∀ j : Nat, j < p → atD 0 r j ≠ x := by
 obtain ⟨a, b, c⟩ := idxO_some h
 have e : (p : Int).toNat = p := by simp
 rw [e] at c
 refine ⟨?_, by omega, fun j hj e2 => ?_⟩
 ·unfold atD; rw [e, List.getD_eq_getElem?_getD, c]; rfl
 ·unfold idxO at h
  split at h
  ·rename_i hlt
   have h2 : (r.findIdx (· == x) : Int) = p := by simpa using h
   have h3 : j < r.findIdx (· == x) := by omega
   have := List.not_of_lt_findIdx h3
   have hjl : j < r.length := by omega
   simp [atD, hjl] at e2
   simp [e2] at this
  ·cases h
theorem foldT_step {m : MacV} {T : List (Int × Int × Int)} {i : Nat} (h : i < T.length) (st : List Int × List Int) : (T.take (i + 1)).foldl (fun st y => weaveC st (mkT m y)) st = weaveC ((T.take i).foldl (fun st y => weaveC st (mkT m y)) st) (mkT m (atD (0, 0, 0) T i)) := by
 rw [List.take_succ_eq_append_getElem h, List.foldl_append]
 simp [atD, h]
theorem rWord4_any (m : MacV) (ad : Option Addr) (cap : Nat) (al : Option Addr) (cl : Nat) (l : List Int) (N : Nat) (w : World) (hR : Ints w ad cap m.sw) (hL : Ints w al cl l) (hok : LoadOk m l) (hr : m.ring = false) (hme : meetsM m l N = false) (hN : N ≤ 60) :
  Calls Tryz.prog 28 #[mV m ad cap, .slice al l.length cl, .int .i64 N] w fun r w' => ∃ v, r = .returned (.tuple #[v, .int .i64 (if 200 < (wrdL m l N).length then (26 : Int) else 0)]) ∧ OwnI w.heap.size w' v (if 200 < (wrdL m l N).length then [] else wrdL m l N) ∧ Below w.heap.size w w' := by
 have hcap := hL.le
 have hmx := hL.max
 have hS := (SL.nil w).box (.cells (mC m ad cap) 25)
 have hlo := hok.ok.lo
 have hhi := hok.ok.hi
 have hfew := hok.few
 have hn64 : l.length ≤ 64 := by omega
 have hrngs := fun k => atL_rng hok.rng k
 have hnds := fun k => atL_nodup hok.rng hok.nodup k
 have CO := fun w h => rOrder_any m ad cap al cl l w h hlo hhi hok.rng hn64
 have CN := fun (k : Nat) a c w (h : Ints w a c (atL m l k)) => rNow_any m ad cap a c (atL m l k) w h hlo hhi (hrngs k) (by rw [atL_len]; exact hn64) (hnds k)
 have CX := fun (k : Nat) a c w (h : Ints w a c (atL m l k)) => rcrossings_any m ad cap a c (atL m l k) w h hlo hhi (hrngs k) (by rw [atL_len]; exact hn64)
 have CS := fun (k : Nat) a c w (h2 : Ints w ad cap m.sw) (h : Ints w a c (atL m l k)) => rSteps_any m ad cap a c (atL m l k) 1 w h2 h hlo hhi (hrngs k) (by rw [atL_len]; exact hn64) (by decide)
 have hst1 : ∀ k, (atL m l k).map (fun s => itM m s 1) = atL m l (k + 1) := fun k => by
  have := atL_add m l 1 k
  rw [Nat.add_comm] at this; exact this
 have HNW : Hid (∀ k : Nat, k ≤ N → nowM m (atL m l k) = -1) := hid fun k hk => meets_before hme (by omega)
 have hgood := fun k => crossM_good m (atL m l k)
 have hrows := fun (k : Nat) (hk : k ≤ N) => wvM_row hr hok.rng hme k (by omega)
 have HTG : Hid (∀ k : Nat, ∀ x ∈ triM m (atL m l k), _) := hid fun k x hx => tri_ne hx
 have HTR : Hid (∀ k : Nat, ∀ x ∈ triM m (atL m l k), _) := hid fun k x hx => triM_rng x hx
 have HTL : Hid (∀ k : Nat, (triM m (atL m l k)).length ≤ 48) := hid fun k => triM_len (by omega) hhi
 have HTC : Hid (∀ k : Nat, crossM m (atL m l k) = (triM m (atL m l k)).map (mkT m)) := hid fun k => triM_cross m _
 have HFA : Hid (∀ (g : Int) w, 0 ≤ g → g < 16 → _) := hid fun g w h0 h1 => rForwards_any m ad cap g w h0 (by omega)
 have HK := hid (orderM_length (by omega) hok.rng hok.nodup)
 have HO := hid CO; have HN := hid CN; have HX := hid CX; have HS := hid CS; have HST := hid hst1; have HG := hid hgood; have HROW := hid hrows
 have hw : wrdL m l N = (wvM m l N).2 := rfl
 rw [hw]
 have HWL : Hid (∀ k : Nat, k ≤ N → (wvM m l k).2.length ≤ 4000) := hid fun k hk => by have := wvM_len (m := m) hhi l k; omega
 clear CO CN CX CS hrngs hnds hst1 hgood hrows hw hok hr hme
 have hgr : m.gears ≤ 16 := hhi
 go_enter Tryz.func28, Tryz.ntmps28
 go_wp2_with (with_reducible refine wpList_ldS (n := 4) (us := mC m ad cap) A_rmach kR wU wU (by assumption) wU wU ?_)
 refine (HO.out _ (hL.below hS.b)).mono ?_
 rintro e w2 ⟨v2, rfl, ho2, b2⟩
 have hS2 := hS.call (SL.ofOwn ho2 b2)
 simp only [List.cons_append, List.nil_append] at hS2
 have hS3 := ((hS2.newSrc hL).nilS (α := Int) (c := cInt) (sz := 1) (e := 3) cIntS).pick [2, 0, 1, 3] (by decide) [pOwn cInt 1 3 v2 (orderM m l), pOwn cInt 1 3 (.slice none 0 0) [], pSrc cInt 1 3 w (.slice al l.length cl) l, pBlk w.heap.size (.cells (mC m ad cap) 25)] rfl
 clear hS2 hS ho2
 obtain ⟨a2, c2, rfl, _⟩ := hS3.slice 0 rfl
 obtain ⟨K, hK⟩ : ∃ K, K = (orderM m l).length := ⟨_, rfl⟩
 rw [← hK] at hS3 ⊢
 have hK64 : K ≤ 64 := by rw [hK, HK.out]; exact hn64
 clear hK
 go_wp2_with fail
 go_loopw [1, 9, 10, 11, 12, 13] (fun lv ov kv _ _ _ wr => ∃ k : Nat, k ≤ N ∧ kv = .int .i64 k ∧ lenV ov = (wvM m l k).2.length ∧ SL w.heap.size w wr [pOwn cInt 1 3 (.slice a2 K c2) ((wvM m l k).1), pOwn cInt 1 3 ov ((wvM m l k).2), pSrc cInt 1 3 w lv (atL m l k), pBlk w.heap.size (.cells (mC m ad cap) 25)]) (fun _ _ kv _ _ _ _ => N - (intOf kv).toNat)
 case atStart => exact ⟨0, by omega, rfl, rfl, by rw [atL_zero]; exact hS3⟩
 case round =>
  clear hS3
  obtain ⟨k, hk, rfl, hlo2, hSr⟩ := hrel
  obtain ⟨a1, c1, rfl, hl1⟩ := hSr.src 2 rfl
  obtain ⟨ao, co, rfl, _⟩ := hSr.slice 1 rfl
  have q1 := (hSr.blk 3 rfl).1
  have hnw := HNW.out k hk
  have CNk := HN.out k a1 c1
  rw [hnw] at CNk
  have HNk := hid CNk
  clear CNk hnw
  by_cases hlt : k < N
  ·have hT64 := HTL.out k
   have hcr := HTC.out k
   have hgd := HG.out k
   rw [← HROW.out k (by omega), hcr] at hgd
   have hwl := HWL.out k (by omega)
   have htg := HTG.out k
   have htr := HTR.out k
   have CXk := HX.out k a1 c1
   have hnx : wvM m l (k + 1) = ((triM m (atL m l k)).map (mkT m)).foldl weaveC (wvM m l k) := by rw [← hcr]; rfl
   rw [List.foldl_map] at hnx
   obtain ⟨T, hT⟩ : ∃ T, T = triM m (atL m l k) := ⟨_, rfl⟩
   rw [← hT] at hT64 hgd htg htr hnx
   simp only [← hT] at CXk
   obtain ⟨r0, hr0⟩ : ∃ r0, r0 = (wvM m l k).1 := ⟨_, rfl⟩
   obtain ⟨o0, ho0⟩ : ∃ o0, o0 = (wvM m l k).2 := ⟨_, rfl⟩
   have hpr : wvM m l k = (r0, o0) := by rw [hr0, ho0]
   rw [hpr] at hnx
   rw [← hr0] at hgd hSr
   rw [← ho0] at hwl hlo2 hSr ⊢
   have HNX := hid hnx; have HGD := hid hgd; have HLO := hid hlo2; have HTg := hid htg; have HTr := hid htr; have HXk := hid CXk
   clear hT hnx hgd hr0 ho0 hpr hlo2 hcr htg htr CXk
   go_wp2_with (with_reducible refine wpList_ldS (n := 4) (us := mC m ad cap) A_rmach kR wU wU (by assumption) wU wU ?_)
   refine (HNk.out _ hl1).mono ?_
   rintro e w3 ⟨rfl, b3⟩
   have hS3 := hSr.mono b3
   have hl3 := hl1.below b3
   have q3 := (hS3.blk 3 rfl).1
   clear q1 hSr hl1 b3
   go_wp2_with (with_reducible refine wpList_ldS (n := 4) (us := mC m ad cap) A_rmach kR wU wU (by assumption) wU wU ?_)
   refine (HXk.out _ hl3).mono ?_
   rintro e w4 ⟨vx, rfl, hox, b4⟩
   have hS4 := (hS3.call (SL.ofOwn hox b4))
   simp only [List.cons_append, List.nil_append] at hS4
   have hS5 := hS4.pick [1, 2, 0, 3, 4] (by decide) [pOwn cInt 1 3 (.slice a2 K c2) r0, pOwn cInt 1 3 (.slice ao o0.length co) o0, pOwn cT 3 111 vx T, pSrc cInt 1 3 w (.slice a1 (atL m l k).length c1) (atL m l k), pBlk w.heap.size (.cells (mC m ad cap) 25)] rfl
   obtain ⟨ax, cx, rfl, _⟩ := hS5.slice 2 rfl
   clear q3 hS3 hS4 hox b4 hl3
   go_wp2_with fail
   go_loopw [9, 12, 13] (fun ov iv _ wq => ∃ i : Nat, i ≤ T.length ∧ iv = .int .i64 i ∧ lenV ov = o0.length + i ∧ SL w.heap.size w wq [pOwn cInt 1 3 (.slice a2 K c2) ((T.take i).foldl (fun st y => weaveC st (mkT m y)) (r0, o0)).1, pOwn cInt 1 3 ov ((T.take i).foldl (fun st y => weaveC st (mkT m y)) (r0, o0)).2, pOwn cT 3 111 (.slice ax T.length cx) T, pSrc cInt 1 3 w (.slice a1 (atL m l k).length c1) (atL m l k), pBlk w.heap.size (.cells (mC m ad cap) 25)]) (fun _ iv _ _ => T.length - (intOf iv).toNat)
   case atStart => exact ⟨0, by omega, rfl, by rw [HLO.out]; omega, hS5⟩
   case round =>
    clear hS5
    obtain ⟨i, hi, rfl, hlo3, hSq⟩ := hrel
    by_cases hic : i < T.length
    ·have hgi := goodC_at HGD.out (k := i) (by rw [List.length_map]; exact hic)
     have ex : atD (0, 0, 0) T i = T[i] := by simp [atD, hic]
     have hmem : atD (0, 0, 0) T i ∈ T := by rw [ex]; exact List.getElem_mem hic
     have htg := HTg.out _ hmem
     have htr := HTr.out _ hmem
     obtain ⟨p, hp, hp1⟩ := hgi
     have hst := foldT_step (m := m) hic (r0, o0)
     have hrow : (((T.map (mkT m)).take i).foldl rowC r0) = ((T.take i).foldl (fun st y => weaveC st (mkT m y)) (r0, o0)).1 := by
      rw [← fold_fst _ _ o0, ← List.map_take, List.foldl_map]
     rw [hrow] at hp hp1
     rw [List.getElem_map, ← ex] at hp
     obtain ⟨⟨x0, x1, x2⟩, hx⟩ : ∃ x, x = atD (0, 0, 0) T i := ⟨_, rfl⟩
     rw [← hx] at hp hst htg htr
     rw [going_tri] at hp
     dsimp only at htg htr
     have hlet0 := letter_tri (m := m) (r := ((T.take i).foldl (fun st y => weaveC st (mkT m y)) (r0, o0)).1) (g := x2) htg.2.2
     have hv0 : (cT (atD (0, 0, 0) T i)).cells.toList[0]? = some (.int .i64 x0) := by rw [← hx]; rfl
     have hv2 : (cT (atD (0, 0, 0) T i)).cells.toList[2]? = some (.int .i64 x2) := by rw [← hx]; rfl
     obtain ⟨R, hRr⟩ : ∃ R, R = ((T.take i).foldl (fun st y => weaveC st (mkT m y)) (r0, o0)).1 := ⟨_, rfl⟩
     obtain ⟨O, hO⟩ : ∃ O, O = ((T.take i).foldl (fun st y => weaveC st (mkT m y)) (r0, o0)).2 := ⟨_, rfl⟩
     have hpr : (T.take i).foldl (fun st y => weaveC st (mkT m y)) (r0, o0) = (R, O) := by rw [hRr, hO]
     rw [hpr] at hst hSq
     rw [← hRr] at hp hp1 hlet0
     have ez : idxZ R x0 = p := by unfold idxZ; rw [hp]; rfl
     rw [ez] at hlet0
     have hwe : weaveC (R, O) (mkT m (x0, x1, x2)) = (swpL R p, O ++ [letterC R (mkT m (x0, x1, x2))]) := by
      unfold weaveC
      dsimp only
      rw [going_tri, ez]
      rfl
     rw [hwe] at hst
     have HS1 := hid (congrArg Prod.fst hst)
     have HS2 := hid (congrArg Prod.snd hst)
     obtain ⟨f1, f2, f3⟩ := idxO_first hp
     have HPX := hid f1; have HNE := hid f3
     have CF := fun w => HFA.out x2 w htr.1 (by omega)
     have hlet : letterC R (mkT m (x0, x1, x2)) = if fwdM m x2 then -(p : Int) - 1 else (p : Int) + 1 := hlet0
     obtain ⟨a', c', eK, _⟩ := hSq.slice 0 rfl
     have hKR : K = R.length := by simp only [Value.slice.injEq] at eK; exact eK.2.1
     clear eK
     obtain ⟨a8, c8, rfl, _⟩ := hSq.slice 1 rfl
     have hOl : O.length = o0.length + i := hlo3
     have hO9 : O.length ≤ 1000000 := by omega
     have HOl := hid hOl; have HKR := hid hKR
     have hpK : p + 1 < K := by omega
     obtain ⟨L, hLL⟩ : ∃ L, L = atL m l k := ⟨_, rfl⟩
     rw [← hLL] at hSq
     have HLL := hid hLL
     have hpl : p < R.length := f2
     clear hOl hlo3 hx hst hwe hlet0 ez hpr hRr hO hrow hp hp1 htg htr hmem ex hKR hLL f1 f3
     go_wp2_with fail
     go_loopw [13] (fun jv wq => ∃ j : Nat, j ≤ p ∧ jv = .int .i64 j ∧ SL w.heap.size w wq [pOwn cInt 1 3 (.slice a2 K c2) R, pOwn cInt 1 3 (.slice a8 O.length c8) O, pOwn cT 3 111 (.slice ax T.length cx) T, pSrc cInt 1 3 w (.slice a1 L.length c1) L, pBlk w.heap.size (.cells (mC m ad cap) 25)]) (fun jv _ => p - (intOf jv).toNat)
     case atStart => exact ⟨0, by omega, rfl, hSq⟩
     case round =>
      clear hSq
      obtain ⟨j, hj, rfl, hSj⟩ := hrel
      have hRw := hSj.rd 0 rfl
      have hTr := hSj.rd 2 rfl
      by_cases hjp : j < p
      ·have hne := HNE.out j hjp
       obtain ⟨y, hy⟩ : ∃ y, y = atD 0 R j := ⟨_, rfl⟩
       rw [← hy] at hne
       have hd : (y == x0) = false := by simpa using hne
       have HY := hid hy
       clear hne hy
       go_wp2_with fail
       refine wp_region_q kR kR ?_
       repeat (first | (((with_reducible refine wpB_idx2 0 E_ints F_int cInt1 wU (HKR.out.symm) wU (hRw) oD oD (fun _ => wU) (fun _ => ?_)); (try simp only [Act.put, pA, pB, pC]); (try simp only [cInt])); rw [← HY.out]) | ((with_reducible refine wpB_tri (0, 0, 0) (.int .i64 x0) E_ts F_int tri0 wU wU hTr rfl (by omega) (by omega) hv0 (fun _ => wU) (fun _ => wU) (fun _ _ => wU) (fun _ _ => ?_)); (try simp only [Act.put, pA, pB, pC])) |  ((with_reducible refine wpB_load (by first | exact F_int | exact F_u64s) wU wU (by assumption) wU ?_); (try simp only [Act.put, pA, pB, pC])) | ((refine wpQ_oneG ?_ wU (fun w' => ?_) ?_); rotate_left; (go_simp; rfl); (try simp only [Act.put, pA, pB, pC])))
       refine wpQuiet_nil ?_
       intro w4 hb4
       have hS4 := hSj.mono hb4
       go_wp2_with fail
       exact ⟨⟨j + 1, by omega, by go_num, hS4⟩, by simp [intOf]; omega⟩
      ·have hjp2 : j = p := by omega
       subst hjp2
       go_wp2_with fail
       refine wp_region_q kR kR ?_
       repeat (first | (((with_reducible refine wpB_idx2 0 E_ints F_int cInt1 wU (HKR.out.symm) wU (hRw) oD oD (fun _ => wU) (fun _ => ?_)); (try simp only [Act.put, pA, pB, pC]); (try simp only [cInt])); rw [HPX.out]) | ((with_reducible refine wpB_tri (0, 0, 0) (.int .i64 x0) E_ts F_int tri0 wU wU hTr rfl (by omega) (by omega) hv0 (fun _ => wU) (fun _ => wU) (fun _ _ => wU) (fun _ _ => ?_)); (try simp only [Act.put, pA, pB, pC])) |  ((with_reducible refine wpB_load (by first | exact F_int | exact F_u64s) wU wU (by assumption) wU ?_); (try simp only [Act.put, pA, pB, pC])) | ((refine wpQ_oneG ?_ wU (fun w' => ?_) ?_); rotate_left; (go_simp; rfl); (try simp only [Act.put, pA, pB, pC])))
       refine wpQuiet_nil ?_
       intro V hb4
       have hSj := hSj.mono hb4
       have hKR := HKR.out
       obtain ⟨p, rfl⟩ : ∃ p, p = j := ⟨_, rfl⟩
       clear hRw hTr hb4
       have hSU := hSj.drew
       obtain ⟨U, hU⟩ : ∃ U, U = V.drew := ⟨_, rfl⟩
       rw [← hU] at hSU
       obtain ⟨g', hg', -, hcA, hfA, hS5⟩ := hSU.setOwn cInt1 0 rfl (p : Int) (by omega) (by omega) (atD 0 R ((p : Int) + 1))
       subst hg'
       obtain ⟨g2', hg', -, hcB, hfB, hS6⟩ := hS5.setOwn cInt1 0 rfl ((p : Int) + 1) (by omega) (by simp; omega) (atD 0 R (p : Int))
       cases hg'
       obtain ⟨g2', hg', -, hcC, hfC, -⟩ := hSU.setOwn cInt1 0 rfl ((p : Int) + 1) (by omega) (by omega) 0
       cases hg'
       have eP : (p : Int).toNat = p := by simp
       have eP1 : ((p : Int) + 1).toNat = p + 1 := by omega
       have vA : R[p]?.map cInt = some (.int .i64 (atD 0 R (p : Int))) := by
        have : p < R.length := by omega
        simp [atD, this, cInt]
       have vB : R[p + 1]?.map cInt = some (.int .i64 (atD 0 R ((p : Int) + 1))) := by
        have : p + 1 < R.length := by omega
        simp [atD, eP1, this, cInt]
       simp only [eP, eP1] at hcA hfA hcB hfB hcC hfC hS5 hS6
       rw [vA] at hcA
       rw [vB] at hcC
       have hcB2 : (R.set p (atD 0 R ((p : Int) + 1)))[p + 1]?.map cInt = some (.int .i64 (atD 0 R ((p : Int) + 1))) := by
        rw [List.getElem?_set_ne (by omega)]; exact vB
       rw [hcB2] at hcB
       have hsw : (R.set p (atD 0 R ((p : Int) + 1))).set (p + 1) (atD 0 R (p : Int)) = swpL R p := by
        unfold swpL atD
        rw [eP1, eP]
       rw [hsw] at hS6
       obtain ⟨A0, hA0⟩ : ∃ A, A = atD 0 R (p : Int) := ⟨_, rfl⟩
       obtain ⟨A1, hA1⟩ : ∃ A, A = atD 0 R ((p : Int) + 1) := ⟨_, rfl⟩
       rw [← hA0] at hcA hS6
       rw [← hA1] at hcC hcB hfB hS5 hS6
       simp only [cInt] at hcB hfB hS5 hS6
       obtain ⟨hp9, hkA, hkB, hkC, hkD, hkE, hkF⟩ := pkB p K hpK hK64
       have hw1 := wrapQ1 p hp9
       have hw2 := wrapP1 p hp9
       have hUb := hSU.b
       clear hcB2 vA vB hA0 hA1 hsw hSj eP eP1 hKR
       go_wp2_with fail
       refine wp_regionK (C := (fun V' => Below w.heap.size w V')) [0, 1, 2, 3, 4, 5, 6, 7, 8, 10, 11, 12] [_, _, _, _, _, _, _, _, _, _, _, _] 6 (by simp only [List.map_cons, List.map_nil, List.getElem?_toArray]; rfl) rfl kR kR kR ((by rw [hU] at hUb; exact hUb)) ?_
       refine ⟨_, yieldsK_val wU (fun w' => by with_unfolding_all exact rfl), ?_⟩
       go_frame
       refine ⟨_, yieldsK_val wU (fun w' => by with_unfolding_all exact rfl), ?_⟩
       go_frame
       refine ⟨_, yieldsK_val wU (fun w' => by with_unfolding_all exact rfl), ?_⟩
       go_frame
       refine ⟨_, yieldsK_val wU (fun w' => by with_unfolding_all exact rfl), ?_⟩
       go_frame
       refine ⟨.int .i64 ((p : Int) + 1), yieldsK_val wU (fun w' => by first | (go_simp; done) | (go_simp; rfl)), ?_⟩
       go_frame
       refine ⟨_, yieldsK_val wU (fun w' => by with_unfolding_all exact rfl), ?_⟩
       go_frame
       refine ⟨_, yieldsK_val wU (fun w' => by with_unfolding_all exact rfl), ?_⟩
       go_frame
       refine ⟨.int .i64 ((p : Int) + 1), yieldsK_val wU (fun w' => by first | (go_simp; done) | (go_simp; rfl)), ?_⟩
       go_frame
       refine ⟨.pointer (some ⟨g', p + 1, none⟩), yieldsK_val wU (fun w' => by first | (go_simp; done) | (go_simp; rfl)), ?_⟩
       go_frame
       refine ⟨_, yieldsK_val wU (fun w' => by with_unfolding_all exact rfl), ?_⟩
       go_frame
       refine ⟨_, yieldsK_val wU (fun w' => by with_unfolding_all exact rfl), ?_⟩
       go_frame
       refine ⟨.pointer (some ⟨g', p, none⟩), yieldsK_val wU (fun w' => by first | (go_simp; done) | (go_simp; rfl)), ?_⟩
       go_frame
       unfold wpPureK
       have hVd : ({ V with drawn := V.drawn + 1 } : World) = V.drew := rfl
       rw [hVd, ← hU]
       clear hVd hU
       refine wpAnyC_on [9, 13] kR (by simp) ?_
       simp only [List.forall_mem_cons, List.not_mem_nil, false_implies, implies_true, and_true]
       apply andK
       ·intro kk
        refine ⟨?_, ?_⟩
        ·refine wpOp_value (v := .int .i64 A1) (w' := U) (by rw [List.getElem?_toArray]; rfl) wU (by first | (go_simp; done) | (go_simp; rfl) | (simp [execOp, Act.eval, Result.andThen]; done)) ?_
         refine ⟨hSU.b, ?_⟩
         go_frame
         refine wpAnyC_on [13] kR (by simp) ?_
         simp only [List.forall_mem_cons, List.not_mem_nil, false_implies, implies_true, and_true]
         refine wpOp_value (v := .int .i64 A0) (w' := U) (by rw [List.getElem?_toArray]; rfl) wU (by first | (go_simp; done) | (go_simp; rfl) | (simp [execOp, Act.eval, Result.andThen]; done)) ?_
         refine ⟨hSU.b, ?_⟩
         go_frame
         exact kk
        ·refine wpOp_value (v := .int .i64 A0) (w' := U) (by rw [List.getElem?_toArray]; rfl) wU (by first | (go_simp; done) | (go_simp; rfl) | (simp [execOp, Act.eval, Result.andThen]; done)) ?_
         refine ⟨hSU.b, ?_⟩
         go_frame
         refine wpAnyC_on [9] kR (by simp) ?_
         simp only [List.forall_mem_cons, List.not_mem_nil, false_implies, implies_true, and_true]
         refine wpOp_value (v := .int .i64 A1) (w' := U) (by rw [List.getElem?_toArray]; rfl) wU (by first | (go_simp; done) | (go_simp; rfl) | (simp [execOp, Act.eval, Result.andThen]; done)) ?_
         refine ⟨hSU.b, ?_⟩
         go_frame
         exact kk
       refine wpAnyC_on [14] kR (by simp) ?_
       simp only [List.forall_mem_cons, List.not_mem_nil, false_implies, implies_true, and_true]
       refine wpOp_value (v := .pointer (some ⟨g', p, none⟩)) (w' := U) (by rw [List.getElem?_toArray]; rfl) wU (by first | (go_simp; done) | (go_simp; rfl) | (simp [execOp, Act.eval, Result.andThen]; done)) ?_
       refine ⟨hSU.b, ?_⟩
       go_frame
       refine wpAnyC_on [15] kR (by simp) ?_
       simp only [List.forall_mem_cons, List.not_mem_nil, false_implies, implies_true, and_true]
       refine wpOp_of_list (by rw [List.getElem?_toArray]; rfl) ?_
       refine wpList_stoI (v := A1) wU wU hcA hfA ?_
       refine ⟨hS5.b, ?_⟩
       go_frame
       refine wpAnyC_on [16] kR (by simp) ?_
       simp only [List.forall_mem_cons, List.not_mem_nil, false_implies, implies_true, and_true]
       refine wpOp_value (v := .pointer (some ⟨g', p + 1, none⟩)) (w' := (U.setCell ⟨g', p, none⟩ (.int .i64 A1))) (by rw [List.getElem?_toArray]; rfl) wU (by first | (go_simp; done) | (go_simp; rfl) | (simp [execOp, Act.eval, Result.andThen]; done)) ?_
       refine ⟨hS5.b, ?_⟩
       go_frame
       refine wpAnyC_on [17] kR (by simp) ?_
       simp only [List.forall_mem_cons, List.not_mem_nil, false_implies, implies_true, and_true]
       refine wpOp_of_list (by rw [List.getElem?_toArray]; rfl) ?_
       refine wpList_stoI (v := A0) wU wU hcB hfB ?_
       refine ⟨hS6.b, ?_⟩
       go_frame
       refine wpAnyC_rest [] [] rfl rfl kR kR kR hS6.b ?_
       unfold wpPure
       refine of_wpList_nil (P := Tryz.prog) (ops := #[]) ?_
       obtain ⟨U2, hU2⟩ : ∃ U2, U2 = (U.setCell ⟨g', p, none⟩ (.int .i64 A1)).setCell ⟨g', p + 1, none⟩ (.int .i64 A0) := ⟨_, rfl⟩
       rw [← hU2] at hS6 ⊢
       clear hU2 hS5 hcA hcB hcC hfA hfB hfC hkA hkB hkC hkD hkE hkF hw1
       have q12 := (hS6.blk 4 rfl).1
       have hT6 := hS6.rd 2 rfl
       have hwn := wrapN1 p hp9
       have hwn2 : IntKind.i64.wrap (-((p : Int) + 1)) = -(p : Int) - 1 := by rw [show -((p : Int) + 1) = -(p : Int) - 1 by omega]; exact wrapN2 p hp9
       have hwn3 := wrapN2 p hp9
       cases hfw : fwdM m x2
       ·rw [hfw] at CF hlet
        simp only [Bool.false_eq_true, if_false] at hlet
        have hst2 : ((T.take (i + 1)).foldl (fun st y => weaveC st (mkT m y)) (r0, o0)).2 = O ++ [(p : Int) + 1] := by rw [HS2.out, hlet]
        have HF := hid CF; have HS3 := hid hst2
        clear CF hlet hfw hst2
        go_wp2_with fail
        refine wp_region_q kR kR ?_
        repeat (first | ((with_reducible refine wpB_loadS (n := 4) (us := mC m ad cap) A_rmach kR wU wU (by assumption) wU wU ?_); (try simp only [Act.put, pA, pB, pC])) | ((with_reducible refine wpB_tri (0, 0, 0) (.int .i64 x2) E_ts F_int tri2 wU wU hT6 rfl (by omega) (by omega) hv2 (fun _ => wU) (fun _ => wU) (fun _ _ => wU) (fun _ _ => ?_)); (try simp only [Act.put, pA, pB, pC])) | ((with_reducible refine wpB_call (.bool false) wU (fun w' => ?_) (fun w' hw' => HF.out w') ?_); (focus (go_simp; done)); (try simp only [Act.put, pA, pB, pC])) |  ((with_reducible refine wpB_load (by first | exact F_int | exact F_u64s) wU wU (by assumption) wU ?_); (try simp only [Act.put, pA, pB, pC])) | ((refine wpQ_oneG ?_ wU (fun w' => ?_) ?_); rotate_left; (go_simp; rfl); (try simp only [Act.put, pA, pB, pC])))
        refine wpQuiet_nil ?_
        intro w4 hb4
        have hS7 := hS6.mono hb4
        clear hT6 q12
        go_wp2_with ((with_reducible refine wpList_pushL (y := ((p : Int) + 1)) 1 E_ints wU wU (hS7) wU cIntO ⟨rfl, rfl⟩ (by first | with_unfolding_all rfl | simp) wU (by first | omega | (simp; omega)) (by first | omega | (simp; omega)) ?_); intro v7 w7 hS8)
        obtain ⟨a7, c7, rfl, _⟩ := hS8.slice 1 rfl
        clear hwn hwn2 hwn3 hw2
        exact ⟨⟨i + 1, by omega, by go_num, by show (O ++ [(p : Int) + 1]).length = _; rw [List.length_append, HOl.out]; rfl, by rw [HS1.out, HS3.out, ← HLL.out]; exact hS8⟩, by simp [intOf]; omega⟩
       ·rw [hfw] at CF hlet
        simp only [if_true] at hlet
        have hst2 : ((T.take (i + 1)).foldl (fun st y => weaveC st (mkT m y)) (r0, o0)).2 = O ++ [-(p : Int) - 1] := by rw [HS2.out, hlet]
        have HF := hid CF; have HS3 := hid hst2
        clear CF hlet hfw hst2
        go_wp2_with fail
        refine wp_region_q kR kR ?_
        repeat (first | ((with_reducible refine wpB_loadS (n := 4) (us := mC m ad cap) A_rmach kR wU wU (by assumption) wU wU ?_); (try simp only [Act.put, pA, pB, pC])) | ((with_reducible refine wpB_tri (0, 0, 0) (.int .i64 x2) E_ts F_int tri2 wU wU hT6 rfl (by omega) (by omega) hv2 (fun _ => wU) (fun _ => wU) (fun _ _ => wU) (fun _ _ => ?_)); (try simp only [Act.put, pA, pB, pC])) | ((with_reducible refine wpB_call (.bool true) wU (fun w' => ?_) (fun w' hw' => HF.out w') ?_); (focus (go_simp; done)); (try simp only [Act.put, pA, pB, pC])) |  ((with_reducible refine wpB_load (by first | exact F_int | exact F_u64s) wU wU (by assumption) wU ?_); (try simp only [Act.put, pA, pB, pC])) | ((refine wpQ_oneG ?_ wU (fun w' => ?_) ?_); rotate_left; (go_simp; rfl); (try simp only [Act.put, pA, pB, pC])))
        refine wpQuiet_nil ?_
        intro w4 hb4
        have hS7 := hS6.mono hb4
        clear hT6 q12
        go_wp2_with ((with_reducible refine wpList_pushL (y := (-(p : Int) - 1)) 1 E_ints wU wU (hS7) wU cIntO ⟨rfl, rfl⟩ (by first | with_unfolding_all rfl | simp) wU (by first | omega | (simp; omega)) (by first | omega | (simp; omega)) ?_); intro v7 w7 hS8)
        obtain ⟨a7, c7, rfl, _⟩ := hS8.slice 1 rfl
        clear hwn hwn2 hwn3 hw2
        exact ⟨⟨i + 1, by omega, by go_num, by show (O ++ [-(p : Int) - 1]).length = _; rw [List.length_append, HOl.out]; rfl, by rw [HS1.out, HS3.out, ← HLL.out]; exact hS8⟩, by simp [intOf]; omega⟩
    ·have hit : i = T.length := by omega
     subst hit
     rw [List.take_length, ← HNX.out] at hSq
     obtain ⟨a8, c8, rfl, _⟩ := hSq.slice 1 rfl
     have q1 := (hSq.blk 4 rfl).1
     obtain ⟨a4, c4, e4, hl4⟩ := hSq.src 3 rfl
     cases e4
     have R4 := hR.below hSq.b
     go_wp2_with (with_reducible refine wpList_ldS (n := 4) (us := mC m ad cap) A_rmach kR wU wU (by assumption) wU wU ?_)
     refine (HS.out k _ _ _ R4 hl4).mono ?_
     rintro e w5 ⟨vl, rfl, hol, b5⟩
     rw [HST.out k] at hol
     have hS6 := hSq.call (SL.ofOwn hol b5)
     simp only [List.cons_append, List.nil_append] at hS6
     have hS7 := (hS6.weaken 0 rfl (pSrc cInt 1 3 w vl (atL m l (k + 1))) (fun b hb => .inr hb)).pick [1, 2, 0, 5] (by decide) [pOwn cInt 1 3 (.slice a2 K c2) (wvM m l (k + 1)).1, pOwn cInt 1 3 (.slice a8 (wvM m l (k + 1)).2.length c8) (wvM m l (k + 1)).2, pSrc cInt 1 3 w vl (atL m l (k + 1)), pBlk w.heap.size (.cells (mC m ad cap) 25)] rfl
     go_wp2_with fail
     exact ⟨⟨k + 1, by omega, by go_num, rfl, hS7⟩, by simp [intOf]; omega⟩
  ·have hkn : k = N := by omega
   subst hkn
   go_wp2_with (with_reducible refine wpList_ldS (n := 4) (us := mC m ad cap) A_rmach kR wU wU (by assumption) wU wU ?_)
   refine (HNk.out _ hl1).mono ?_
   rintro e w3 ⟨rfl, b3⟩
   have hSx := hid (hSr.mono b3)
   clear q1 hSr hl1 hlo2
   by_cases hb : 200 < (wvM m l k).2.length
   ·have hb3 : decide (200 < ((wvM m l k).2.length : Int)) = true := decide_eq_true (by omega)
    go_wp2_with fail
    go_ret2
    exact ⟨_, rfl, own_nil cIntS, hSx.out.b⟩
   ·have hb3 : decide (200 < ((wvM m l k).2.length : Int)) = false := decide_eq_false (by omega)
    go_wp2_with fail
    go_ret2
    exact ⟨_, rfl, hSx.out.own 1 rfl, hSx.out.b⟩
end Go.Proofs.YtoebgfgihfjnnaaGreatDoor

namespace Go.Proofs.YtoebgfgihfjnnaaGreatDoor
open Go.RowKit
set_option maxHeartbeats 8000000
set_option maxRecDepth 100000

theorem wrapF1 (k N : Nat) (h : k ≤ 64) (h2 : N ≤ 64) : IntKind.i64.wrap ((k : Int) + N) = (k : Int) + N := IntWalk.i64_in _ (by omega)
theorem wrapF2 (k N : Nat) (s : Int) (h : k ≤ 64) (h2 : N ≤ 64) (h0 : 0 ≤ s) (h1 : s ≤ 64) : IntKind.i64.wrap ((k : Int) + N - s) = (k : Int) + N - s := IntWalk.i64_in _ (by omega)
theorem wrapF3 (s : Int) (h0 : 0 ≤ s) (h1 : s ≤ 64) : IntKind.i64.wrap (s + 1) = s + 1 := IntWalk.i64_in _ (by omega)
theorem F_fnF : Flat Tryz.prog 140 := ⟨_, Tryz.underlying140, rfl⟩
abbrev fillFn (bb bm be : Nat) : Value := .func (.func 108) #[] #[.pointer (some ⟨bb, 0, none⟩), .pointer (some ⟨bm, 0, none⟩), .pointer (some ⟨be, 0, none⟩)]
abbrev fillP (m : MacV) (ad : Option Addr) (cap bb bm be : Nat) (bv v : Value) (best l : List Int) (L : List Pc) : List Pc :=
 pBlk bb (.cells #[bv] 22) :: pOwn cInt 1 3 bv best :: pOwn cInt 1 3 v l :: pBlk bm (.cells (mC m ad cap) 24) :: pBlk be (.cells #[fillFn bb bm be] 140) :: L

theorem fill1_any (m : MacV) (ad : Option Addr) (cap bb bm be : Nat) (N : Nat) (hN : 4 * m.gears = N) (hN64 : N ≤ 64) (w0 : World) (hR : Ints w0 ad cap m.sw) : ∀ (f : Nat) (best l : List Int) (s : Int) (w : World) (bv v : Value) (L : List Pc),
  (f : Int) = N - s → 0 ≤ s → (∀ x ∈ l, 0 ≤ x ∧ x < N) → best.length ≤ 64 → l.length + f ≤ 64 → SL w0.heap.size w0 w (fillP m ad cap bb bm be bv v best l L) →
  Calls Tryz.prog 108 #[v, .int .i64 s, .pointer (some ⟨bb, 0, none⟩), .pointer (some ⟨bm, 0, none⟩), .pointer (some ⟨be, 0, none⟩)] w fun r w' => (∃ r0, r = .returned r0) ∧ ∃ bv', SL w0.heap.size w0 w' (fillP m ad cap bb bm be bv' v (extF m f (bigger best l) l s) l L) := by
 intro f
 induction f using Nat.strongRecOn with
 | _ f ih =>
  intro best l s w bv v L hf hs0 hl hb64 hlf hS
  obtain ⟨a, c, rfl, hlR⟩ := hS.slice 2 rfl
  obtain ⟨ab, cb, rfl, hbR⟩ := hS.slice 1 rfl
  have hcap := hlR.le
  have hmx := hlR.max
  have qb := (hS.blk 0 rfl).1
  have CS := fun w => slots_any m ad cap w (by omega) (by omega)
  rw [hN] at CS
  have HCS := hid CS
  have CA := fun (x : Int) w (h : Ints w ad cap m.sw) (h2 : Ints w a c l) (h0 : 0 ≤ x) (h1 : x < N) => apart_any m ad cap a c x l w h h2 (by omega) h0 (by omega) (fun y hy => by have := hl y hy; omega)
  have HCA := hid CA; have HL := hid hl; have IH := hid ih
  -- what follows the first lines
  by_cases hlt : best.length < l.length
  ·have hbg : bigger best l = l := by unfold bigger; rw [if_pos hlt]
   have hd : decide ((best.length : Int) < l.length) = true := decide_eq_true (by omega)
   rw [hbg]
   clear ih hl CS CA hbg hbR
   have HF := hid hf
   clear hf
   go_enter Tryz.func108, Tryz.ntmps108
   go_wp2_with (with_reducible refine wpList_ldB F_sliceM wU wU qb wU ?_)
   refine (cloneI_any a c l w hlR (by omega)).mono ?_
   rintro e w1 ⟨v1, rfl, ho1, b1⟩
   have hS1 := hS.call (SL.ofOwn ho1 b1)
   simp only [List.cons_append, List.nil_append] at hS1
   obtain ⟨a1, c1, rfl, _⟩ := hS1.slice 0 rfl
   clear qb hS ho1 b1
   go_wp2_with ((with_reducible refine wpList_sto1 (v := .slice a1 l.length c1) 1 wU wU hS1 rfl ?_); intro w2 hS2)
   have hSB := SL.pickA (K := [_, _, _, _, _, _]) (M := L) hS2 [1, 0, 3, 4, 5] (by decide) (by simp) [pBlk bb (.cells #[.slice a1 l.length c1] 22), pOwn cInt 1 3 (.slice a1 l.length c1) l, pOwn cInt 1 3 (.slice a l.length c) l, pBlk bm (.cells (mC m ad cap) 24), pBlk be (.cells #[fillFn bb bm be] 140)] rfl
   simp only [List.cons_append, List.nil_append] at hSB
   clear hS2 hS1
   have hB64 : l.length ≤ 64 := by omega
   go_loopg [7] f (fun g i wr => ∃ (s' : Int) (Br : List Int) (bvr : Value), i = .int .i64 s' ∧ 0 ≤ s' ∧ (g : Int) = N - s' ∧ g ≤ f ∧ Aside (extF m g Br l s' = extF m f l l s) ∧ Br.length ≤ 64 ∧ SL w0.heap.size w0 wr (fillP m ad cap bb bm be bvr (.slice a l.length c) Br l L))
   case atStart => exact ⟨s, l, _, rfl, hs0, HF.out, Nat.le_refl _, rfl, hB64, hSB⟩
   case round =>
    clear hSB
    obtain ⟨s', Br, bvr, rfl, hs1, hg, hgf, hex, hBr, hSr⟩ := hrel
    obtain ⟨abr, cbr, rfl, _⟩ := hSr.slice 1 rfl
    have qb := (hSr.blk 0 rfl).1
    have qm := (hSr.blk 3 rfl).1
    have q1 := hSr.b
    have HEX := hid hex
    clear hex
    cases gk with
    | zero =>
     have hd : decide (s' < (N : Int)) = false := decide_eq_false (by omega)
     have e0 : extF m 0 Br l s' = Br := rfl
     have HE0 := hid e0
     clear hg e0
     go_wp2_with fail
     refine wp_region_q kR kR ?_
     repeat (first | ((with_reducible refine wpQ_skip wU ?_); (try simp only [Act.put, pA, pB, pC])) | ((with_reducible refine wpB_loadS (n := 4) (us := mC m ad cap) A_mach kR wU wU qm wU wU ?_); (try simp only [Act.put, pA, pB, pC])) | ((with_reducible refine wpB_call (.int .i64 N) wU (fun w' => ?_) (fun w' hw' => HCS.out w') ?_); (focus (go_simp; done)); (try simp only [Act.put, pA, pB, pC])) |  ((with_reducible refine wpB_load (by first | exact F_int | exact F_u64s) wU wU (by assumption) wU ?_); (try simp only [Act.put, pA, pB, pC])) | ((refine wpQ_oneG ?_ wU (fun w' => ?_) ?_); rotate_left; (go_simp; rfl); (try simp only [Act.put, pA, pB, pC])))
     refine wpQuiet_nil ?_
     intro w5 hb5
     have hS5 := hSr.mono hb5
     go_wp2_with fail
     go_end0
     exact ⟨⟨_, rfl⟩, _, by rw [← HEX.out, HE0.out]; exact hS5⟩
    | succ g =>
     have hd : decide (s' < (N : Int)) = true := decide_eq_true (by omega)
     have hl64 : l.length ≤ 64 := by omega
     have hs64 : s' ≤ 64 := by omega
     have hsN : s' < N := by omega
     have hgg : (g : Int) = N - (s' + 1) := by omega
     have hgf2 : g < f := by omega
     have hgf3 : g ≤ f := by omega
     have hs2 : 0 ≤ s' + 1 := by omega
     have hlg : l.length + 1 + g ≤ 64 := by omega
     have hcN : Br.length < l.length + (g + 1) ↔ (Br.length : Int) < (l.length : Int) + N - s' := by omega
     have HGG := hid hgg; have HCN := hid hcN
     clear hg hgg hcN
     by_cases hc : Br.length < l.length + (g + 1)
     ·have hcd : decide ((Br.length : Int) < (l.length : Int) + N - s') = true := decide_eq_true (HCN.out.1 hc)
      have e1 : extF m (g + 1) Br l s' = extF m g (if apartM m s' l then extF m g (bigger Br (l ++ [s'])) (l ++ [s']) (s' + 1) else Br) l (s' + 1) := by rw [extF, if_pos hc]
      have CAs := fun w h h2 => HCA.out s' w h h2 hs1 hsN
      have HE1 := hid e1
      clear e1
      have hw1 := wrapF1 l.length N hl64 hN64
      have hw2 := wrapF2 l.length N s' hl64 hN64 hs1 hs64
      go_wp2_with fail
      refine wp_region_q kR kR ?_
      repeat (first | ((with_reducible refine wpQ_skip wU ?_); (try simp only [Act.put, pA, pB, pC])) | ((with_reducible refine wpB_loadS (n := 4) (us := mC m ad cap) A_mach kR wU wU qm wU wU ?_); (try simp only [Act.put, pA, pB, pC])) | ((with_reducible refine wpB_load F_sliceM wU wU qb wU ?_); (try simp only [Act.put, pA, pB, pC])) | ((with_reducible refine wpB_call (.int .i64 N) wU (fun w' => ?_) (fun w' hw' => HCS.out w') ?_); (focus (go_simp; done)); (try simp only [Act.put, pA, pB, pC])) |  ((with_reducible refine wpB_load (by first | exact F_int | exact F_u64s) wU wU (by assumption) wU ?_); (try simp only [Act.put, pA, pB, pC])) | ((refine wpQ_oneG ?_ wU (fun w' => ?_) ?_); rotate_left; (go_simp; rfl); (try simp only [Act.put, pA, pB, pC])))
      refine wpQuiet_nil ?_
      intro w5 hb5
      clear hw1 hw2
      have hS5 := hSr.mono hb5
      have qm5 := (hS5.blk 3 rfl).1
      clear qb qm hSr
      cases hap : apartM m s' l
      ·rw [hap] at CAs
       have HAP := hid hap; have HAS := hid CAs
       clear hap CAs
       go_wp2_with (with_reducible refine wpList_ldS (n := 4) (us := mC m ad cap) A_mach kR wU wU qm5 wU wU ?_)
       refine (HAS.out _ (hR.below hS5.b) (hS5.rd 2 rfl)).mono ?_
       rintro e w6 ⟨rfl, b6⟩
       have hS6 := hS5.mono b6
       clear hS5 qm5 hb5 q1
       have hw3 := wrapF3 s' hs1 hs64
       go_wp2_with fail
       clear hw3
       go_roundg g
       case measure => omega
       case rel => exact ⟨s' + 1, Br, _, rfl, hs2, HGG.out, hgf3, by rw [← HEX.out, HE1.out, HAP.out]; rfl, hBr, hS6⟩
      ·rw [hap] at CAs
       have HAP := hid hap; have HAS := hid CAs
       clear hap CAs
       go_wp2_with (with_reducible refine wpList_ldS (n := 4) (us := mC m ad cap) A_mach kR wU wU qm5 wU wU ?_)
       refine (HAS.out _ (hR.below hS5.b) (hS5.rd 2 rfl)).mono ?_
       rintro e w6 ⟨rfl, b6⟩
       have hS6 := hS5.mono b6
       clear hS5 qm5 hb5 q1
       have qe := (hS6.blk 4 rfl).1
       have kc : ∀ (V : World), (Below w0.heap.size w0 V ∧ V.heap[be]? = some (.cells #[fillFn bb bm be] 140)) → V.cell? ⟨be, 0, none⟩ = some (fillFn bb bm be) := by
        rintro V ⟨_, h⟩
        simp [World.cell?, h]
       go_wp2_with fail
       refine wp_regionK (C := (fun V => Below w0.heap.size w0 V ∧ V.heap[be]? = some (.cells #[fillFn bb bm be] 140))) [0, 1, 2, 5, 6] [_, _, _, _, _] 3 (by simp only [List.map_cons, List.map_nil, List.getElem?_toArray]; rfl) rfl kR kR kR (⟨hS6.b.drew, qe⟩) ?_
       refine ⟨_, yieldsK_cellC F_fnF (kc) wU wU, ?_⟩
       go_frame
       refine ⟨_, yieldsK_val wU (fun w' => by with_unfolding_all exact rfl), ?_⟩
       go_frame
       refine ⟨_, yieldsK_val wU (fun w' => by with_unfolding_all exact rfl), ?_⟩
       go_frame
       refine ⟨_, yieldsK_val wU (fun w' => by with_unfolding_all exact rfl), ?_⟩
       go_frame
       have hw3 := wrapF3 s' hs1 hs64
       refine ⟨.int .i64 (s' + 1), yieldsK_val wU (fun w' => by first | (go_simp; done) | (go_simp; rfl)), ?_⟩
       go_frame
       clear hw3
       unfold wpPureK
       have hVd : ({ w6 with drawn := w6.drawn + 1 } : World) = w6.drew := rfl
       rw [hVd]
       have hS7 := hS6.drew
       refine wpAnyC_on [3] kR (by simp) ?_
       simp only [List.forall_mem_cons, List.not_mem_nil, false_implies, implies_true, and_true]
       refine wpOp_value (v := .slice (some ⟨w6.drew.heap.size, 0, none⟩) 1 1) (w' := w6.drew.alloc (.cells #[.int .i64 s'] 3)) (by rw [List.getElem?_toArray]; rfl) wU (by first | (go_simp; done) | (go_simp; rfl) | (simp [execOp, Act.eval, Result.andThen]; done)) ?_
       refine ⟨⟨(hS7.al _).b, ((hS7.al _).blk 4 rfl).1⟩, ?_⟩
       go_frame
       refine wpAnyC_on [4] kR (by simp) ?_
       simp only [List.forall_mem_cons, List.not_mem_nil, false_implies, implies_true, and_true]
       refine wpOp_of_list (by rw [List.getElem?_toArray]; rfl) ?_
       have hS8 := SL.pickA (K := [_, _, _, _, _]) (M := L) hS7 [2, 0, 1, 3, 4] (by decide) (by simp) [pOwn cInt 1 3 (.slice a l.length c) l, pBlk bb (.cells #[.slice abr Br.length cbr] 22), pOwn cInt 1 3 (.slice abr Br.length cbr) Br, pBlk bm (.cells (mC m ad cap) 24), pBlk be (.cells #[fillFn bb bm be] 140)] rfl
       simp only [List.cons_append, List.nil_append] at hS8
       refine wpList_pushSib (y := s') wU wU hS8 ⟨rfl, rfl⟩ rfl (Nat.le_trans hl64 (by decide)) ?_
       intro v' w9 T hsib hS9
       obtain ⟨T', hsib2, hS10⟩ := sibFill hsib hS9
       refine ⟨⟨hS10.b, (hS10.blk 4 rfl).1⟩, ?_⟩
       go_frame
       refine wpAnyC_on [7] kR (by simp) ?_
       simp only [List.forall_mem_cons, List.not_mem_nil, false_implies, implies_true, and_true]
       refine wpOp_call (f := 108) (args := #[v', .int .i64 (s' + 1), .pointer (some ⟨bb, 0, none⟩), .pointer (some ⟨bm, 0, none⟩), .pointer (some ⟨be, 0, none⟩)]) (by rw [List.getElem?_toArray]; rfl) wU (by first | (go_simp; done) | (simp [execOp, Act.eval, Result.andThen]; done) | (simp [execOp, Act.eval, Result.andThen]; rfl)) ?_
       refine (IH.out g hgf2 Br (l ++ [s']) (s' + 1) w9 _ v' T' HGG.out hs2 (fun x hx => by
        rcases List.mem_append.1 hx with hx | hx
        ·exact HL.out x hx
        ·have : x = s' := by simpa using hx
         exact this ▸ ⟨hs1, hsN⟩) hBr (by rw [List.length_append, List.length_cons, List.length_nil]; exact hlg) hS10).mono ?_
       rintro e w11 ⟨⟨r0, rfl⟩, bv', hS11⟩
       have hS12 := hsib2.back5 hS11
       have hln := extF_len m g (bigger Br (l ++ [s'])) (l ++ [s']) (s' + 1) 64 (bigger_len _ _ _ hBr (by rw [List.length_append, List.length_cons, List.length_nil]; omega)) (by rw [List.length_append, List.length_cons, List.length_nil]; omega)
       refine ⟨_, rfl, ⟨hS12.b, (hS12.blk 4 rfl).1⟩, ?_⟩
       go_frame
       refine wpAnyC_rest [] [] rfl rfl kR kR kR ⟨hS12.b, (hS12.blk 4 rfl).1⟩ ?_
       unfold wpPure
       refine of_wpList_nil (P := Tryz.prog) (ops := #[]) ?_
       clear hS6 hS7 hS8 hS9 hS10 hS11 qe hsib hsib2
       have hw3 := wrapF3 s' hs1 hs64
       go_wp2_with fail
       clear hw3
       go_roundg g
       case measure => omega
       case rel => exact ⟨s' + 1, _, _, rfl, hs2, HGG.out, hgf3, by rw [← HEX.out, HE1.out, HAP.out]; rfl, hln, hS12⟩
     ·have hcd : decide ((Br.length : Int) < (l.length : Int) + N - s') = false := decide_eq_false (fun h => hc (HCN.out.2 h))
      have e1 : extF m (g + 1) Br l s' = Br := by rw [extF, if_neg hc]
      have HE1 := hid e1
      clear e1
      have hw1 := wrapF1 l.length N hl64 hN64
      have hw2 := wrapF2 l.length N s' hl64 hN64 hs1 hs64
      go_wp2_with fail
      refine wp_region_q kR kR ?_
      repeat (first | ((with_reducible refine wpQ_skip wU ?_); (try simp only [Act.put, pA, pB, pC])) | ((with_reducible refine wpB_loadS (n := 4) (us := mC m ad cap) A_mach kR wU wU qm wU wU ?_); (try simp only [Act.put, pA, pB, pC])) | ((with_reducible refine wpB_load F_sliceM wU wU qb wU ?_); (try simp only [Act.put, pA, pB, pC])) | ((with_reducible refine wpB_call (.int .i64 N) wU (fun w' => ?_) (fun w' hw' => HCS.out w') ?_); (focus (go_simp; done)); (try simp only [Act.put, pA, pB, pC])) |  ((with_reducible refine wpB_load (by first | exact F_int | exact F_u64s) wU wU (by assumption) wU ?_); (try simp only [Act.put, pA, pB, pC])) | ((refine wpQ_oneG ?_ wU (fun w' => ?_) ?_); rotate_left; (go_simp; rfl); (try simp only [Act.put, pA, pB, pC])))
      refine wpQuiet_nil ?_
      intro w5 hb5
      clear hw1 hw2
      have hS5 := hSr.mono hb5
      go_wp2_with fail
      go_end0
      exact ⟨⟨_, rfl⟩, _, by rw [← HEX.out, HE1.out]; exact hS5⟩

  ·have hbg : bigger best l = best := by unfold bigger; rw [if_neg hlt]
   have hd : decide ((best.length : Int) < l.length) = false := decide_eq_false (by omega)
   rw [hbg]
   clear ih hl CS CA hbg hbR
   have HF := hid hf
   clear hf
   go_enter Tryz.func108, Tryz.ntmps108
   go_wp2_with (with_reducible refine wpList_ldB F_sliceM wU wU qb wU ?_)
   have hSB := hS
   have hB64 := hb64
   clear qb hS
   go_loopg [7] f (fun g i wr => ∃ (s' : Int) (Br : List Int) (bvr : Value), i = .int .i64 s' ∧ 0 ≤ s' ∧ (g : Int) = N - s' ∧ g ≤ f ∧ Aside (extF m g Br l s' = extF m f best l s) ∧ Br.length ≤ 64 ∧ SL w0.heap.size w0 wr (fillP m ad cap bb bm be bvr (.slice a l.length c) Br l L))
   case atStart => exact ⟨s, best, _, rfl, hs0, HF.out, Nat.le_refl _, rfl, hB64, hSB⟩
   case round =>
    clear hSB
    obtain ⟨s', Br, bvr, rfl, hs1, hg, hgf, hex, hBr, hSr⟩ := hrel
    obtain ⟨abr, cbr, rfl, _⟩ := hSr.slice 1 rfl
    have qb := (hSr.blk 0 rfl).1
    have qm := (hSr.blk 3 rfl).1
    have q1 := hSr.b
    have HEX := hid hex
    clear hex
    cases gk with
    | zero =>
     have hd : decide (s' < (N : Int)) = false := decide_eq_false (by omega)
     have e0 : extF m 0 Br l s' = Br := rfl
     have HE0 := hid e0
     clear hg e0
     go_wp2_with fail
     refine wp_region_q kR kR ?_
     repeat (first | ((with_reducible refine wpQ_skip wU ?_); (try simp only [Act.put, pA, pB, pC])) | ((with_reducible refine wpB_loadS (n := 4) (us := mC m ad cap) A_mach kR wU wU qm wU wU ?_); (try simp only [Act.put, pA, pB, pC])) | ((with_reducible refine wpB_call (.int .i64 N) wU (fun w' => ?_) (fun w' hw' => HCS.out w') ?_); (focus (go_simp; done)); (try simp only [Act.put, pA, pB, pC])) |  ((with_reducible refine wpB_load (by first | exact F_int | exact F_u64s) wU wU (by assumption) wU ?_); (try simp only [Act.put, pA, pB, pC])) | ((refine wpQ_oneG ?_ wU (fun w' => ?_) ?_); rotate_left; (go_simp; rfl); (try simp only [Act.put, pA, pB, pC])))
     refine wpQuiet_nil ?_
     intro w5 hb5
     have hS5 := hSr.mono hb5
     go_wp2_with fail
     go_end0
     exact ⟨⟨_, rfl⟩, _, by rw [← HEX.out, HE0.out]; exact hS5⟩
    | succ g =>
     have hd : decide (s' < (N : Int)) = true := decide_eq_true (by omega)
     have hl64 : l.length ≤ 64 := by omega
     have hs64 : s' ≤ 64 := by omega
     have hsN : s' < N := by omega
     have hgg : (g : Int) = N - (s' + 1) := by omega
     have hgf2 : g < f := by omega
     have hgf3 : g ≤ f := by omega
     have hs2 : 0 ≤ s' + 1 := by omega
     have hlg : l.length + 1 + g ≤ 64 := by omega
     have hcN : Br.length < l.length + (g + 1) ↔ (Br.length : Int) < (l.length : Int) + N - s' := by omega
     have HGG := hid hgg; have HCN := hid hcN
     clear hg hgg hcN
     by_cases hc : Br.length < l.length + (g + 1)
     ·have hcd : decide ((Br.length : Int) < (l.length : Int) + N - s') = true := decide_eq_true (HCN.out.1 hc)
      have e1 : extF m (g + 1) Br l s' = extF m g (if apartM m s' l then extF m g (bigger Br (l ++ [s'])) (l ++ [s']) (s' + 1) else Br) l (s' + 1) := by rw [extF, if_pos hc]
      have CAs := fun w h h2 => HCA.out s' w h h2 hs1 hsN
      have HE1 := hid e1
      clear e1
      have hw1 := wrapF1 l.length N hl64 hN64
      have hw2 := wrapF2 l.length N s' hl64 hN64 hs1 hs64
      go_wp2_with fail
      refine wp_region_q kR kR ?_
      repeat (first | ((with_reducible refine wpQ_skip wU ?_); (try simp only [Act.put, pA, pB, pC])) | ((with_reducible refine wpB_loadS (n := 4) (us := mC m ad cap) A_mach kR wU wU qm wU wU ?_); (try simp only [Act.put, pA, pB, pC])) | ((with_reducible refine wpB_load F_sliceM wU wU qb wU ?_); (try simp only [Act.put, pA, pB, pC])) | ((with_reducible refine wpB_call (.int .i64 N) wU (fun w' => ?_) (fun w' hw' => HCS.out w') ?_); (focus (go_simp; done)); (try simp only [Act.put, pA, pB, pC])) |  ((with_reducible refine wpB_load (by first | exact F_int | exact F_u64s) wU wU (by assumption) wU ?_); (try simp only [Act.put, pA, pB, pC])) | ((refine wpQ_oneG ?_ wU (fun w' => ?_) ?_); rotate_left; (go_simp; rfl); (try simp only [Act.put, pA, pB, pC])))
      refine wpQuiet_nil ?_
      intro w5 hb5
      clear hw1 hw2
      have hS5 := hSr.mono hb5
      have qm5 := (hS5.blk 3 rfl).1
      clear qb qm hSr
      cases hap : apartM m s' l
      ·rw [hap] at CAs
       have HAP := hid hap; have HAS := hid CAs
       clear hap CAs
       go_wp2_with (with_reducible refine wpList_ldS (n := 4) (us := mC m ad cap) A_mach kR wU wU qm5 wU wU ?_)
       refine (HAS.out _ (hR.below hS5.b) (hS5.rd 2 rfl)).mono ?_
       rintro e w6 ⟨rfl, b6⟩
       have hS6 := hS5.mono b6
       clear hS5 qm5 hb5 q1
       have hw3 := wrapF3 s' hs1 hs64
       go_wp2_with fail
       clear hw3
       go_roundg g
       case measure => omega
       case rel => exact ⟨s' + 1, Br, _, rfl, hs2, HGG.out, hgf3, by rw [← HEX.out, HE1.out, HAP.out]; rfl, hBr, hS6⟩
      ·rw [hap] at CAs
       have HAP := hid hap; have HAS := hid CAs
       clear hap CAs
       go_wp2_with (with_reducible refine wpList_ldS (n := 4) (us := mC m ad cap) A_mach kR wU wU qm5 wU wU ?_)
       refine (HAS.out _ (hR.below hS5.b) (hS5.rd 2 rfl)).mono ?_
       rintro e w6 ⟨rfl, b6⟩
       have hS6 := hS5.mono b6
       clear hS5 qm5 hb5 q1
       have qe := (hS6.blk 4 rfl).1
       have kc : ∀ (V : World), (Below w0.heap.size w0 V ∧ V.heap[be]? = some (.cells #[fillFn bb bm be] 140)) → V.cell? ⟨be, 0, none⟩ = some (fillFn bb bm be) := by
        rintro V ⟨_, h⟩
        simp [World.cell?, h]
       go_wp2_with fail
       refine wp_regionK (C := (fun V => Below w0.heap.size w0 V ∧ V.heap[be]? = some (.cells #[fillFn bb bm be] 140))) [0, 1, 2, 5, 6] [_, _, _, _, _] 3 (by simp only [List.map_cons, List.map_nil, List.getElem?_toArray]; rfl) rfl kR kR kR (⟨hS6.b.drew, qe⟩) ?_
       refine ⟨_, yieldsK_cellC F_fnF (kc) wU wU, ?_⟩
       go_frame
       refine ⟨_, yieldsK_val wU (fun w' => by with_unfolding_all exact rfl), ?_⟩
       go_frame
       refine ⟨_, yieldsK_val wU (fun w' => by with_unfolding_all exact rfl), ?_⟩
       go_frame
       refine ⟨_, yieldsK_val wU (fun w' => by with_unfolding_all exact rfl), ?_⟩
       go_frame
       have hw3 := wrapF3 s' hs1 hs64
       refine ⟨.int .i64 (s' + 1), yieldsK_val wU (fun w' => by first | (go_simp; done) | (go_simp; rfl)), ?_⟩
       go_frame
       clear hw3
       unfold wpPureK
       have hVd : ({ w6 with drawn := w6.drawn + 1 } : World) = w6.drew := rfl
       rw [hVd]
       have hS7 := hS6.drew
       refine wpAnyC_on [3] kR (by simp) ?_
       simp only [List.forall_mem_cons, List.not_mem_nil, false_implies, implies_true, and_true]
       refine wpOp_value (v := .slice (some ⟨w6.drew.heap.size, 0, none⟩) 1 1) (w' := w6.drew.alloc (.cells #[.int .i64 s'] 3)) (by rw [List.getElem?_toArray]; rfl) wU (by first | (go_simp; done) | (go_simp; rfl) | (simp [execOp, Act.eval, Result.andThen]; done)) ?_
       refine ⟨⟨(hS7.al _).b, ((hS7.al _).blk 4 rfl).1⟩, ?_⟩
       go_frame
       refine wpAnyC_on [4] kR (by simp) ?_
       simp only [List.forall_mem_cons, List.not_mem_nil, false_implies, implies_true, and_true]
       refine wpOp_of_list (by rw [List.getElem?_toArray]; rfl) ?_
       have hS8 := SL.pickA (K := [_, _, _, _, _]) (M := L) hS7 [2, 0, 1, 3, 4] (by decide) (by simp) [pOwn cInt 1 3 (.slice a l.length c) l, pBlk bb (.cells #[.slice abr Br.length cbr] 22), pOwn cInt 1 3 (.slice abr Br.length cbr) Br, pBlk bm (.cells (mC m ad cap) 24), pBlk be (.cells #[fillFn bb bm be] 140)] rfl
       simp only [List.cons_append, List.nil_append] at hS8
       refine wpList_pushSib (y := s') wU wU hS8 ⟨rfl, rfl⟩ rfl (Nat.le_trans hl64 (by decide)) ?_
       intro v' w9 T hsib hS9
       obtain ⟨T', hsib2, hS10⟩ := sibFill hsib hS9
       refine ⟨⟨hS10.b, (hS10.blk 4 rfl).1⟩, ?_⟩
       go_frame
       refine wpAnyC_on [7] kR (by simp) ?_
       simp only [List.forall_mem_cons, List.not_mem_nil, false_implies, implies_true, and_true]
       refine wpOp_call (f := 108) (args := #[v', .int .i64 (s' + 1), .pointer (some ⟨bb, 0, none⟩), .pointer (some ⟨bm, 0, none⟩), .pointer (some ⟨be, 0, none⟩)]) (by rw [List.getElem?_toArray]; rfl) wU (by first | (go_simp; done) | (simp [execOp, Act.eval, Result.andThen]; done) | (simp [execOp, Act.eval, Result.andThen]; rfl)) ?_
       refine (IH.out g hgf2 Br (l ++ [s']) (s' + 1) w9 _ v' T' HGG.out hs2 (fun x hx => by
        rcases List.mem_append.1 hx with hx | hx
        ·exact HL.out x hx
        ·have : x = s' := by simpa using hx
         exact this ▸ ⟨hs1, hsN⟩) hBr (by rw [List.length_append, List.length_cons, List.length_nil]; exact hlg) hS10).mono ?_
       rintro e w11 ⟨⟨r0, rfl⟩, bv', hS11⟩
       have hS12 := hsib2.back5 hS11
       have hln := extF_len m g (bigger Br (l ++ [s'])) (l ++ [s']) (s' + 1) 64 (bigger_len _ _ _ hBr (by rw [List.length_append, List.length_cons, List.length_nil]; omega)) (by rw [List.length_append, List.length_cons, List.length_nil]; omega)
       refine ⟨_, rfl, ⟨hS12.b, (hS12.blk 4 rfl).1⟩, ?_⟩
       go_frame
       refine wpAnyC_rest [] [] rfl rfl kR kR kR ⟨hS12.b, (hS12.blk 4 rfl).1⟩ ?_
       unfold wpPure
       refine of_wpList_nil (P := Tryz.prog) (ops := #[]) ?_
       clear hS6 hS7 hS8 hS9 hS10 hS11 qe hsib hsib2
       have hw3 := wrapF3 s' hs1 hs64
       go_wp2_with fail
       clear hw3
       go_roundg g
       case measure => omega
       case rel => exact ⟨s' + 1, _, _, rfl, hs2, HGG.out, hgf3, by rw [← HEX.out, HE1.out, HAP.out]; rfl, hln, hS12⟩
     ·have hcd : decide ((Br.length : Int) < (l.length : Int) + N - s') = false := decide_eq_false (fun h => hc (HCN.out.2 h))
      have e1 : extF m (g + 1) Br l s' = Br := by rw [extF, if_neg hc]
      have HE1 := hid e1
      clear e1
      have hw1 := wrapF1 l.length N hl64 hN64
      have hw2 := wrapF2 l.length N s' hl64 hN64 hs1 hs64
      go_wp2_with fail
      refine wp_region_q kR kR ?_
      repeat (first | ((with_reducible refine wpQ_skip wU ?_); (try simp only [Act.put, pA, pB, pC])) | ((with_reducible refine wpB_loadS (n := 4) (us := mC m ad cap) A_mach kR wU wU qm wU wU ?_); (try simp only [Act.put, pA, pB, pC])) | ((with_reducible refine wpB_load F_sliceM wU wU qb wU ?_); (try simp only [Act.put, pA, pB, pC])) | ((with_reducible refine wpB_call (.int .i64 N) wU (fun w' => ?_) (fun w' hw' => HCS.out w') ?_); (focus (go_simp; done)); (try simp only [Act.put, pA, pB, pC])) |  ((with_reducible refine wpB_load (by first | exact F_int | exact F_u64s) wU wU (by assumption) wU ?_); (try simp only [Act.put, pA, pB, pC])) | ((refine wpQ_oneG ?_ wU (fun w' => ?_) ?_); rotate_left; (go_simp; rfl); (try simp only [Act.put, pA, pB, pC])))
      refine wpQuiet_nil ?_
      intro w5 hb5
      clear hw1 hw2
      have hS5 := hSr.mono hb5
      go_wp2_with fail
      go_end0
      exact ⟨⟨_, rfl⟩, _, by rw [← HEX.out, HE1.out]; exact hS5⟩
end Go.Proofs.YtoebgfgihfjnnaaGreatDoor

namespace Go.Proofs.YtoebgfgihfjnnaaGreatDoor
open Go.RowKit
set_option maxHeartbeats 8000000
set_option maxRecDepth 100000

noncomputable def fillE (m : MacV) : Int := if macE m ≠ 0 then macE m else if 4 < m.gears then 22 else 0
theorem gwhen (m : MacV) (b : Bool) (hb : decide (4 < m.gears) = b) (w : World) : Calls Tryz.prog 61 #[.bool (decide (4 < m.gears)), .int .i64 22] w fun r w' => r = .returned (.int .i64 (if b then 22 else 0)) ∧ Below w.heap.size w w' := by
 subst hb
 exact calls_below (mwhen_any _ 22 w)
theorem mFill_any (m : MacV) (ad : Option Addr) (cap : Nat) (w : World) (hR : Ints w ad cap m.sw) (HK : ChkM m ad cap) :
  Calls Tryz.prog 54 #[mV m ad cap] w fun r w' => ∃ v, r = .returned (.tuple #[v, .int .i64 (fillE m)]) ∧ OwnI w.heap.size w' v (if fillE m = 0 then fillM m else []) ∧ Below w.heap.size w w' := by
 have hS := (SL.nil w).box (.cells (mC m ad cap) 24)
 have q1 := (hS.blk 0 rfl).1
 have R1 := hR.below hS.b
 unfold ChkM at HK
 by_cases he : macE m = 0
 ·have hok := (macE_zero he).1
  have hlo := hok.lo
  have hhi := hok.hi
  rw [he] at HK
  by_cases hg : 4 < m.gears
  ·have hv : fillE m = 22 := by unfold fillE; rw [if_neg (by simp [he]), if_pos hg]
   have CW := gwhen m true (decide_eq_true hg)
   rw [hv]
   have HC := hid HK; have HW := hid CW
   clear HK CW hv he hok hg
   go_enter Tryz.func54, Tryz.ntmps54
   go_wp2_with fail
   refine wp_region_qt 6 kR kR ?_
   simp only [List.take_succ_cons, List.take_zero, List.drop_succ_cons, List.drop_zero]
   repeat (first | ((with_reducible refine wpB_loadS (n := 4) (us := mC m ad cap) A_mach kR wU wU (by assumption) wU wU ?_); (try simp only [Act.put, pA, pB, pC])) | ((with_reducible refine wpB_load F_int wU wU (by assumption) wU ?_); (try simp only [Act.put, pA, pB, pC])) | ((refine wpB_call (.int .i64 0) wU (fun w' => ?_) (fun w' hw' => HC.out w' (R1.below hw')) ?_); (focus (go_simp; done)); (try simp only [Act.put, pA, pB, pC])) | ((refine wpB_call (.int .i64 22) wU (fun w' => ?_) (fun w' hw' => HW.out w') ?_); (focus (go_simp; done)); (try simp only [Act.put, pA, pB, pC])) | ((with_reducible refine wpQ_skip wU ?_); (try simp only [Act.put, pA, pB, pC])) |  ((with_reducible refine wpB_load (by first | exact F_int | exact F_u64s) wU wU (by assumption) wU ?_); (try simp only [Act.put, pA, pB, pC])) | ((refine wpQ_oneG ?_ wU (fun w' => ?_) ?_); rotate_left; (go_simp; rfl); (try simp only [Act.put, pA, pB, pC])))
   refine wpQuiet_nil ?_
   intro w1 hb1
   have hS1 := hS.mono hb1
   go_wp2_with (go_at_call 59; refine (mfirst_any _ _ [_, _] _ (reps_newN cIntS [_, _] 2 rfl (by decide) _ _ (by simp) rfl)).mono ?_; rw [firstE_z, firstE_head (by decide)]; rintro e w' ⟨rfl, rfl⟩)
   go_ret2
   exact ⟨_, rfl, own_nil cIntS, bal hS1.b _⟩
  ·have hv : fillE m = 0 := by unfold fillE; rw [if_neg (by simp [he]), if_neg hg]
   have CW := gwhen m false (decide_eq_false hg)
   obtain ⟨N, hN⟩ : ∃ N : Nat, 4 * m.gears = N := ⟨(4 * m.gears).toNat, by omega⟩
   have hN64 : N ≤ 64 := by omega
   have hfil : extF m N (bigger [] []) [] 0 = fillM m := by unfold fillM; rw [show (4 * m.gears).toNat = N by omega]; rfl
   rw [hv, if_pos rfl]
   have HC := hid HK; have HW := hid CW; have HF := hid hfil; have HN := hid hN
   clear HK CW hv he hok hg hfil hN
   go_enter Tryz.func54, Tryz.ntmps54
   go_wp2_with fail
   refine wp_region_qt 6 kR kR ?_
   simp only [List.take_succ_cons, List.take_zero, List.drop_succ_cons, List.drop_zero]
   repeat (first | ((with_reducible refine wpB_loadS (n := 4) (us := mC m ad cap) A_mach kR wU wU (by assumption) wU wU ?_); (try simp only [Act.put, pA, pB, pC])) | ((with_reducible refine wpB_load F_int wU wU (by assumption) wU ?_); (try simp only [Act.put, pA, pB, pC])) | ((refine wpB_call (.int .i64 0) wU (fun w' => ?_) (fun w' hw' => HC.out w' (R1.below hw')) ?_); (focus (go_simp; done)); (try simp only [Act.put, pA, pB, pC])) | ((refine wpB_call (.int .i64 0) wU (fun w' => ?_) (fun w' hw' => HW.out w') ?_); (focus (go_simp; done)); (try simp only [Act.put, pA, pB, pC])) | ((with_reducible refine wpQ_skip wU ?_); (try simp only [Act.put, pA, pB, pC])) |  ((with_reducible refine wpB_load (by first | exact F_int | exact F_u64s) wU wU (by assumption) wU ?_); (try simp only [Act.put, pA, pB, pC])) | ((refine wpQ_oneG ?_ wU (fun w' => ?_) ?_); rotate_left; (go_simp; rfl); (try simp only [Act.put, pA, pB, pC])))
   refine wpQuiet_nil ?_
   intro w1 hb1
   have hS1 := hS.mono hb1
   have hS2 := hS1.al (.cells #[.int .i64 0, .int .i64 0] 29)
   obtain ⟨W2, hW2⟩ : ∃ W2, W2 = w1.alloc (.cells #[.int .i64 0, .int .i64 0] 29) := ⟨_, rfl⟩
   have hS3 := (((hS2.nilS (α := Int) (c := cInt) (sz := 1) (e := 3) cIntS).nilS (α := Int) (c := cInt) (sz := 1) (e := 3) cIntS).box (.cells #[.slice none 0 0] 22)).box (.cells #[fillFn (w1.alloc (.cells #[.int .i64 0, .int .i64 0] 29)).heap.size w.heap.size ((w1.alloc (.cells #[.int .i64 0, .int .i64 0] 29)).alloc (.cells #[.slice none 0 0] 22)).heap.size] 140)
   clear hW2
   simp only [World.size_alloc] at hS3
   have hS4 := hS3.pick [1, 2, 3, 4, 0] (by decide) (fillP m ad cap (w1.heap.size + 1) w.heap.size (w1.heap.size + 1 + 1) (.slice none 0 0) (.slice none 0 0) [] [] []) rfl
   have q5 := (hS4.blk 4 rfl).1
   clear q1 hS hS1 hS2 hS3
   go_wp2_with (first | (go_at_call 59; refine (mfirst_any _ _ [_, _] _ (reps_newN cIntS [_, _] 2 rfl (by decide) _ _ (by simp) rfl)).mono ?_; rw [firstE_z, firstE_z, firstE_nil]; rintro e w' ⟨rfl, rfl⟩) | (with_reducible refine wpList_ldB F_fnF wU wU q5 wU ?_))
   refine (fill1_any m ad cap _ _ _ N HN.out hN64 w hR N [] [] 0 _ (.slice none 0 0) (.slice none 0 0) [] (by omega) (by decide) (fun x hx => by simp at hx) (by decide) (by simpa using hN64) hS4).mono ?_
   rintro e w5 ⟨⟨r0, rfl⟩, bv', hS5⟩
   rw [HF.out] at hS5
   have q6 := (hS5.blk 0 rfl).1
   clear q5 hS4
   go_wp2_with (with_reducible refine wpList_ldB F_sliceM wU wU q6 wU ?_)
   go_ret2
   exact ⟨_, rfl, hS5.own 1 rfl, hS5.b⟩
 ·obtain ⟨E, hE⟩ : ∃ E, E = macE m := ⟨_, rfl⟩
  have hv : fillE m = E := by unfold fillE; rw [if_pos he, hE]
  rw [← hE] at HK he
  have hne : (E != 0) = true := by simpa using he
  rw [hv, if_neg he]
  have HC := hid HK
  clear hv hE HK
  cases hg : decide (4 < m.gears)
  all_goals
   have CW := gwhen m _ hg
   have HW := hid CW
   clear CW hg
   go_enter Tryz.func54, Tryz.ntmps54
   go_wp2_with fail
   first
    | refine wp_region_qt 6 kR kR ?_
      simp only [List.take_succ_cons, List.take_zero, List.drop_succ_cons, List.drop_zero]
      repeat (first | ((with_reducible refine wpB_loadS (n := 4) (us := mC m ad cap) A_mach kR wU wU (by assumption) wU wU ?_); (try simp only [Act.put, pA, pB, pC])) | ((with_reducible refine wpB_load F_int wU wU (by assumption) wU ?_); (try simp only [Act.put, pA, pB, pC])) | ((refine wpB_call (.int .i64 E) wU (fun w' => ?_) (fun w' hw' => HC.out w' (R1.below hw')) ?_); (focus (go_simp; done)); (try simp only [Act.put, pA, pB, pC])) | ((refine wpB_call (.int .i64 22) wU (fun w' => ?_) (fun w' hw' => HW.out w') ?_); (focus (go_simp; done)); (try simp only [Act.put, pA, pB, pC])) | ((with_reducible refine wpQ_skip wU ?_); (try simp only [Act.put, pA, pB, pC])) |  ((with_reducible refine wpB_load (by first | exact F_int | exact F_u64s) wU wU (by assumption) wU ?_); (try simp only [Act.put, pA, pB, pC])) | ((refine wpQ_oneG ?_ wU (fun w' => ?_) ?_); rotate_left; (go_simp; rfl); (try simp only [Act.put, pA, pB, pC])))
      refine wpQuiet_nil ?_
      intro w1 hb1
      have hS1 := hS.mono hb1
      go_wp2_with (go_at_call 59; refine (mfirst_any _ _ [_, _] _ (reps_newN cIntS [_, _] 2 rfl (by decide) _ _ (by simp) rfl)).mono ?_; rw [firstE_head he]; rintro e w' ⟨rfl, rfl⟩)
      go_ret2
      exact ⟨_, rfl, own_nil cIntS, bal hS1.b _⟩
    | refine wp_region_qt 6 kR kR ?_
      simp only [List.take_succ_cons, List.take_zero, List.drop_succ_cons, List.drop_zero]
      repeat (first | ((with_reducible refine wpB_loadS (n := 4) (us := mC m ad cap) A_mach kR wU wU (by assumption) wU wU ?_); (try simp only [Act.put, pA, pB, pC])) | ((with_reducible refine wpB_load F_int wU wU (by assumption) wU ?_); (try simp only [Act.put, pA, pB, pC])) | ((refine wpB_call (.int .i64 E) wU (fun w' => ?_) (fun w' hw' => HC.out w' (R1.below hw')) ?_); (focus (go_simp; done)); (try simp only [Act.put, pA, pB, pC])) | ((refine wpB_call (.int .i64 0) wU (fun w' => ?_) (fun w' hw' => HW.out w') ?_); (focus (go_simp; done)); (try simp only [Act.put, pA, pB, pC])) | ((with_reducible refine wpQ_skip wU ?_); (try simp only [Act.put, pA, pB, pC])) |  ((with_reducible refine wpB_load (by first | exact F_int | exact F_u64s) wU wU (by assumption) wU ?_); (try simp only [Act.put, pA, pB, pC])) | ((refine wpQ_oneG ?_ wU (fun w' => ?_) ?_); rotate_left; (go_simp; rfl); (try simp only [Act.put, pA, pB, pC])))
      refine wpQuiet_nil ?_
      intro w1 hb1
      have hS1 := hS.mono hb1
      go_wp2_with (go_at_call 59; refine (mfirst_any _ _ [_, _] _ (reps_newN cIntS [_, _] 2 rfl (by decide) _ _ (by simp) rfl)).mono ?_; rw [firstE_head he]; rintro e w' ⟨rfl, rfl⟩)
      go_ret2
      exact ⟨_, rfl, own_nil cIntS, bal hS1.b _⟩
end Go.Proofs.YtoebgfgihfjnnaaGreatDoor

namespace Go.Proofs.YtoebgfgihfjnnaaGreatDoor
open Go.RowKit
set_option maxHeartbeats 8000000
set_option maxRecDepth 100000

theorem mdecimal_any (l : List UInt8) (w : World) (hw : LibW w) (hz : l.length ≤ 1048576) :
  Calls Tryz.prog 86 #[.string (bT l)] w fun r w' => ∃ n : Int, r = .returned (.tuple #[.int .i64 n, .bool (intL l).isSome]) ∧ (∀ m : Nat, intL l = some m → n = m) ∧ Below w.heap.size w w' := by
 by_cases hA : ∃ v, Lib.atoiAll l = .ok v
 ·obtain ⟨v, hv⟩ := hA
  have C := fun w => atoi_ok l v w hz hv
  have vb := Lib.atoiAll_bounds hv
  by_cases h0 : 0 ≤ v
  ·by_cases h9 : l.length ≤ 9
   ·have hI := itoaOk_tab hw.tab v (by omega) (by omega)
    obtain ⟨s, hs⟩ : ∃ s, s = bT l := ⟨_, rfl⟩
    obtain ⟨I, hIe⟩ : ∃ I, I = itoaB v := ⟨_, rfl⟩
    unfold ItoaOk at hI
    rw [← hIe] at hI
    have hsz : s.size ≤ 9 := by rw [hs, bT_size]; exact h9
    by_cases he : I = s
    ·have hd : (I.toList == s.toList) = true := by rw [eqS, he]; exact decide_eq_true rfl
     have hi := intL_some hv h9 (by rw [← hIe, he, hs]) h0
     have H1 : (intL l).isSome = true := by rw [hi]; rfl
     have H2 : ∀ m : Nat, intL l = some m → v = m := fun m hm => by rw [hi] at hm; cases hm; omega
     rw [← hs] at C ⊢
     rw [H1]
     have HC := hid C; have HI := hid hI; have H2 := hid H2
     subst he
     clear C hI hi H1 hv vb hs hIe h9
     go_enter Tryz.func86, Tryz.ntmps86
     go_wp2_with fail
     refine (HC.out w).mono ?_
     rintro e w1 ⟨rfl, b1⟩
     go_wp2_with fail
     refine (HI.out w1 b1).mono ?_
     rintro e w2 ⟨rfl, b2⟩
     go_wp2_with fail
     go_ret2
     exact ⟨_, rfl, H2.out, bnext b1 b2⟩
    ·have hd : (I.toList == s.toList) = false := by rw [eqS]; exact decide_eq_false he
     have hi : intL l = none := by
      cases h : intL l with
      | none => rfl
      | some n =>
       obtain ⟨_, _, _, e1, e2, _⟩ := intL_canon h
       rw [hv] at e2; cases e2
       exact absurd (by rw [hIe, hs]; exact e1) he
     have H1 : (intL l).isSome = false := by rw [hi]; rfl
     have H2 : ∀ m : Nat, intL l = some m → v = m := fun m hm => by rw [hi] at hm; cases hm
     rw [← hs] at C ⊢
     rw [H1]
     have HC := hid C; have HI := hid hI; have H2 := hid H2
     clear C hI hi H1 hv vb hs hIe h9 he
     go_enter Tryz.func86, Tryz.ntmps86
     go_wp2_with fail
     refine (HC.out w).mono ?_
     rintro e w1 ⟨rfl, b1⟩
     go_wp2_with fail
     refine (HI.out w1 b1).mono ?_
     rintro e w2 ⟨rfl, b2⟩
     go_wp2_with fail
     go_ret2
     exact ⟨_, rfl, H2.out, bnext b1 b2⟩
   ·have hi : intL l = none := by unfold intL; rw [if_neg (fun h => h9 h.2)]
    have H1 : (intL l).isSome = false := by rw [hi]; rfl
    have H2 : ∀ m : Nat, intL l = some m → v = m := fun m hm => by rw [hi] at hm; cases hm
    obtain ⟨s, hs⟩ : ∃ s, s = bT l := ⟨_, rfl⟩
    have hsz : ¬ s.size ≤ 9 := by rw [hs, bT_size]; exact h9
    rw [← hs] at C ⊢
    rw [H1]
    have HC := hid C; have H2 := hid H2
    clear C hi H1 hv hs h9 vb
    go_enter Tryz.func86, Tryz.ntmps86
    go_wp2_with fail
    refine (HC.out w).mono ?_
    rintro e w1 ⟨rfl, b1⟩
    go_wp2_with fail
    go_ret2
    exact ⟨_, rfl, H2.out, b1⟩
  ·have hi : intL l = none := by
    cases h : intL l with
    | none => rfl
    | some n => have := (intL_canon h).2.2.2.2.1; rw [hv] at this; cases this; omega
   have H1 : (intL l).isSome = false := by rw [hi]; rfl
   have H2 : ∀ m : Nat, intL l = some m → v = m := fun m hm => by rw [hi] at hm; cases hm
   obtain ⟨s, hs⟩ : ∃ s, s = bT l := ⟨_, rfl⟩
   rw [← hs] at C ⊢
   rw [H1]
   have hd0 : decide (0 ≤ v) = false := decide_eq_false h0
   have HC := hid C; have H2 := hid H2
   clear C hi H1 hv vb hs
   go_enter Tryz.func86, Tryz.ntmps86
   go_wp2_with fail
   refine (HC.out w).mono ?_
   rintro e w1 ⟨rfl, b1⟩
   go_wp2_with fail
   go_ret2
   exact ⟨_, rfl, H2.out, b1⟩
 ·have C := fun w hw => atoi_no l w hw hz (fun v h => hA ⟨v, h⟩)
  have hi : intL l = none := by
   cases h : intL l with
   | none => rfl
   | some n => exact absurd ⟨_, (intL_canon h).2.2.2.2.1⟩ hA
  rw [hi]
  obtain ⟨s, hs⟩ : ∃ s, s = bT l := ⟨_, rfl⟩
  rw [← hs] at C ⊢
  have HC := hid C
  clear C hi hA hs
  go_enter Tryz.func86, Tryz.ntmps86
  go_wp2_with fail
  refine (HC.out w hw).mono ?_
  rintro e w1 ⟨n, t, p, rfl, b1⟩
  go_wp2_with fail
  go_ret2
  exact ⟨_, rfl, (fun m hm => by cases hm), b1⟩
end Go.Proofs.YtoebgfgihfjnnaaGreatDoor

namespace Go.Proofs.YtoebgfgihfjnnaaGreatDoor
open Go.RowKit
set_option maxHeartbeats 8000000
set_option maxRecDepth 100000

theorem mappedI_any (al : Option Addr) (cl : Nat) (l : List Int) (w : World) (hL : Ints w al cl l) (hn : l.length ≤ 1048576) (hl : ∀ x ∈ l, 0 ≤ x ∧ x < 100) :
  Calls Tryz.prog 83 #[.slice al l.length cl, .func (.func 84) #[] #[]] w fun r w' => ∃ v, r = .returned v ∧ Own cStr 1 w.heap.size 9 w' v (l.map itoaB) ∧ Below w.heap.size w w' := by
 have hcap := hL.le
 have hmx := hL.max
 have HF : ∀ x ∈ l, ∀ w', Calls Tryz.prog 84 #[.int .i64 x] w' fun e w'' => e = .returned (.string (itoaB x)) ∧ Below w'.heap.size w' w'' := fun x hx w' => itoaOk_small w' x (hl x hx).1 (hl x hx).2 w' (Below.refl _ _)
 have H := hid HF
 clear HF hl
 have hS := (SL.nil w).nilS (α := ByteArray) (c := cStr) (sz := 1) (e := 9) cStrS
 go_enter Tryz.func83, Tryz.ntmps83
 go_wp2_with fail
 go_loopw [5, 10] (fun v i wr => ∃ k : Nat, k ≤ l.length ∧ i = .int .i64 k ∧ SL w.heap.size w wr [pOwn cStr 1 9 v ((l.take k).map itoaB)]) (fun _ i _ => l.length - (intOf i).toNat)
 case atStart => exact ⟨0, by omega, rfl, hS⟩
 case round =>
  clear hS
  obtain ⟨k, hk, rfl, hSr⟩ := hrel
  have hLr := hL.below hSr.b
  by_cases hlt : k < l.length
  ·have hmem := atD_mem hlt
   have ht := take_snoc hlt
   have hlen : ((l.take k).map itoaB).length ≤ 1048576 := by simp; omega
   obtain ⟨x, hx⟩ : ∃ x, x = atD 0 l k := ⟨_, rfl⟩
   rw [← hx] at hmem ht
   have HX := hid hx; have HT := hid ht
   clear hx ht
   go_wp2_with ((with_reducible refine wpList_idx _ 0 E_ints F_int cInt1 wU wU (hLr) oD oD (fun _ => wU) (fun _ => ?_)); rw [← HX.out])
   refine (H.out x hmem _).mono ?_
   rintro e w1 ⟨rfl, b1⟩
   have hS1 := hSr.mono b1
   go_wp2_with ((with_reducible refine wpList_pushL (y := (itoaB x)) 0 E_strs wU wU (hS1) wU cStrO ⟨rfl, rfl⟩ (by first | with_unfolding_all rfl | simp) wU (by first | omega | (simp; omega)) (by first | omega | (simp; omega)) ?_); intro v2 w2 hS2)
   exact ⟨⟨k + 1, by omega, by go_num, by rw [HT.out, List.map_append]; exact hS2⟩, by simp [intOf]; omega⟩
  ·have hkk : k = l.length := by omega
   subst hkk
   rw [List.take_length] at hSr
   go_wp2_with fail
   go_ret
   exact ⟨_, rfl, hSr.own 0 rfl, hSr.b⟩
end Go.Proofs.YtoebgfgihfjnnaaGreatDoor

namespace Go.Proofs.YtoebgfgihfjnnaaGreatDoor
open Go.RowKit
set_option maxHeartbeats 8000000
set_option maxRecDepth 100000

def joinB (l : List ByteArray) (c : UInt8) : ByteArray := ⟨(Lib.join (l.map (·.data.toList)) [c]).toArray⟩
theorem joinC_any (c : UInt8) (a : Option Addr) (cap : Nat) (l : List ByteArray) (w : World) (hS : Strs w a cap l) (hl : l.length ≤ 1048576) (hz : (Lib.join (l.map (·.data.toList)) [c]).length ≤ 140737488355328) :
  Calls Tryz.prog 82 #[.slice a l.length cap, .string ⟨#[c]⟩] w fun r w' => r = .returned (.string (joinB l c)) ∧ Below w.heap.size w w' := by
 by_cases h0 : l = []
 ·subst h0
  refine (Tryz.strings_Join_none a cap ⟨#[c]⟩ w).mono ?_
  rintro e w' ⟨rfl, rfl⟩
  exact ⟨rfl, Below.refl _ _⟩
 ·have hpos : 0 < l.length := by cases l; exact absurd rfl h0; simp
  obtain ⟨b, o, rfl, hc⟩ := hS.cells (by decide) ByteArray.empty 0 hpos
  refine Tryz.strings_Join b o cap l ⟨#[c]⟩ w (fun j x hx => ?_) ?_ (by omega) hS.le (by simpa using hz)
  ·have hj := (List.getElem?_eq_some_iff.1 hx).1
   obtain ⟨b', o', e', hc'⟩ := hS.cells (by decide) ByteArray.empty j hj
   cases e'
   have := hc' 0 (.string x) (by rw [List.getD_eq_getElem?_getD, hx]; rfl)
   simpa using this
  ·have := hc 0 _ rfl
   exact World.block_lt_of_cell? w _ this

def kindB (r : Bool) : ByteArray := if r then ⟨#[114, 105, 110, 103]⟩ else ⟨#[114, 111, 119]⟩
def signB (t : Int) : ByteArray := if t < 0 then ⟨#[45]⟩ else ⟨#[43]⟩
def swB (l : List Int) : ByteArray := if l = [] then ⟨#[110, 111, 110, 101]⟩ else joinB (l.map itoaB) 44
def printMB (m : MacV) : ByteArray := joinB [kindB m.ring, itoaB m.gears, signB m.turn, swB m.sw] 32
theorem join_lenC (b : UInt8) (ls : List (List UInt8)) (c : Nat) (h : ∀ x ∈ ls, x.length ≤ c) : (Lib.join ls [b]).length ≤ ls.length * (c + 1) := by
 have ht : ∀ r : List (List UInt8), (∀ x ∈ r, x.length ≤ c) → (Lib.joinTail [b] r).length ≤ r.length * (c + 1) := by
  intro r
  induction r with
  | nil => intro _; simp [Lib.joinTail]
  | cons y r ih =>
   intro h
   have h1 := ih (fun x hx => h x (List.mem_cons_of_mem _ hx))
   have h2 := h y List.mem_cons_self
   unfold Lib.joinTail at h1 ⊢
   rw [List.map_cons, List.flatten_cons, List.length_append, List.length_cons, Nat.add_mul]
   simp only [List.length_append, List.length_cons, List.length_nil]
   omega
 match ls, h with
 | [], _ => simp [Lib.join_nil]
 | x :: r, h =>
  rw [Lib.join_cons, List.length_append, List.length_cons, Nat.add_mul]
  have h1 := ht r (fun x hx => h x (List.mem_cons_of_mem _ hx))
  have h2 := h x List.mem_cons_self
  omega

theorem swB_size (l : List Int) (hn : l.length ≤ 64) (hl : ∀ x ∈ l, 0 ≤ x ∧ x < 100) : (Lib.join ((l.map itoaB).map (·.data.toList)) [44]).length ≤ 2048 := by
 have := join_lenC 44 ((l.map itoaB).map (·.data.toList)) 20 (fun x hx => by
  simp only [List.map_map, List.mem_map] at hx
  obtain ⟨y, hy, rfl⟩ := hx
  have := itoaB_size y (hl y hy).1 (by have := (hl y hy).2; omega)
  simpa using this)
 simp only [List.length_map] at this
 have h2 : l.length * (20 + 1) ≤ 64 * 21 := Nat.mul_le_mul hn (Nat.le_refl _)
 omega
end Go.Proofs.YtoebgfgihfjnnaaGreatDoor

namespace Go.Proofs.YtoebgfgihfjnnaaGreatDoor
open Go.RowKit
set_option maxHeartbeats 8000000
set_option maxRecDepth 100000

theorem joinB_four (a b c d : ByteArray) (s : UInt8) (ha : a.size ≤ 4096) (hb : b.size ≤ 4096) (hc : c.size ≤ 4096) (hd : d.size ≤ 4096) : (Lib.join ([a, b, c, d].map (·.data.toList)) [s]).length ≤ 140737488355328 := by
 have := join_lenC s ([a, b, c, d].map (·.data.toList)) 4096 (fun x hx => by
  simp only [List.map_cons, List.map_nil, List.mem_cons, List.not_mem_nil, or_false] at hx
  rcases hx with rfl | rfl | rfl | rfl <;> simpa using by assumption)
 simp only [List.map_cons, List.map_nil, List.length_cons, List.length_nil] at this ⊢
 omega
theorem swB_size2 (l : List Int) (hn : l.length ≤ 16) (hl : ∀ x ∈ l, 0 ≤ x ∧ x < 100) : (swB l).size ≤ 4096 := by
 unfold swB
 split
 ·decide
 ·have := swB_size l (by omega) hl
  show (Lib.join _ _).toArray.size ≤ _
  rw [List.size_toArray]
  omega

theorem mPrint_any (m : MacV) (ad : Option Addr) (cap : Nat) (w : World) (hR : Ints w ad cap m.sw) (HK : ChkM m ad cap) (hw : macE m = 0 → ∀ x ∈ m.sw, 0 ≤ x ∧ x < 100) :
  Calls Tryz.prog 30 #[mV m ad cap] w fun r w' => r = .returned (.tuple #[.string (if macE m = 0 then printMB m else ⟨#[]⟩), .int .i64 (macE m)]) ∧ Below w.heap.size w w' := by
 have hS := (SL.nil w).box (.cells (mC m ad cap) 24)
 have R1 := hR.below hS.b
 unfold ChkM at HK
 by_cases he : macE m = 0
 ·have hok := (macE_zero he).1
  have hlo := hok.lo
  have hhi := hok.hi
  have hmany := hok.many
  have hswr := hw he
  have CI := fun w => itoaOk_small w m.gears (by omega) (by omega) w (Below.refl _ _)
  rw [if_pos he]
  rw [he] at HK ⊢
  have hsz := itoaB_size m.gears (by omega) (by omega)
  have hSz := swB_size2 m.sw (by omega) hswr
  have hP : printMB m = joinB [kindB m.ring, itoaB m.gears, signB m.turn, swB m.sw] 32 := rfl
  rw [hP]
  have CL := fun w h => mappedI_any ad cap m.sw w h (by omega) hswr
  have CJ := fun (a : Option Addr) (c : Nat) w (h : Strs w a c (m.sw.map itoaB)) => joinC_any 44 a c (m.sw.map itoaB) w h (by rw [List.length_map]; omega) (Nat.le_trans (swB_size m.sw (by omega) hswr) (by decide))
  obtain ⟨G, hG⟩ : ∃ G, G = itoaB m.gears := ⟨_, rfl⟩
  rw [← hG] at CI hsz ⊢
  have hml : (m.sw.map itoaB).length = m.sw.length := by simp
  rw [hml] at CJ
  obtain ⟨S, hSe⟩ : ∃ S, S = swB m.sw := ⟨_, rfl⟩
  rw [← hSe] at hSz ⊢
  have hcap := hR.le
  have hmx := hR.max
  have HML := hid hml
  have HC := hid HK; have HI := hid CI; have HL := hid CL; have HJ := hid CJ
  clear HK CI CL CJ hP hG hok he hw hswr hml
  have hkind : kindB m.ring = if m.ring then (⟨#[114, 105, 110, 103]⟩ : ByteArray) else ⟨#[114, 111, 119]⟩ := rfl
  have hsign : signB m.turn = if m.turn < 0 then (⟨#[45]⟩ : ByteArray) else ⟨#[43]⟩ := rfl
  have HSZ := hid hSz
  by_cases h0 : m.sw = []
  ·have hs : S = ⟨#[110, 111, 110, 101]⟩ := by rw [hSe]; unfold swB; rw [if_pos h0]
   have hl : decide (0 < m.sw.length) = false := by rw [h0]; rfl
   subst hs
   clear h0 hSe HL HJ hSz
   cases hr : m.ring <;> cases ht : decide (m.turn < 0)
   ·have hfin : joinB [kindB false, G, signB m.turn, ⟨#[110, 111, 110, 101]⟩] 32 = joinB [⟨#[114, 111, 119]⟩, G, ⟨#[43]⟩, ⟨#[110, 111, 110, 101]⟩] 32 := by
     rw [hsign]
     simp only [decide_eq_true_eq, decide_eq_false_iff_not] at ht
     simp [ht, kindB]
    have HFIN := hid hfin; have HR := hid hr
    clear hfin hr hkind hsign
    go_enter Tryz.func30, Tryz.ntmps30
    go_wp2_with fail
    refine (HC.out _ R1).mono ?_
    rintro e w1 ⟨rfl, b1⟩
    have hS1 := hS.mono b1
    have q0 := (hS1.blk 0 rfl).1
    have q1 : w1.heap[w.heap.size]? = some (.cells #[.bool false, .int .i64 m.gears, .int .i64 m.turn, .slice ad m.sw.length cap] 24) := by rw [q0]; show some (Obj.cells #[.bool m.ring, _, _, _] _) = _; rw [HR.out]
    clear q0
    go_wp2_with (with_reducible refine wpList_ldB (by first | exact F_boolM | exact F_int | exact F_sliceM) wU wU q1 wU ?_)
    refine (HI.out _).mono ?_
    rintro e w4 ⟨rfl, b4⟩
    have hS4 := hS1.mono b4
    go_wp2_with fail
    refine (joinC_any 32 _ _ [_, _, _, _] _ (reps_newN cStrS [_, _, _, _] 4 rfl (by decide) _ _ (by simp) rfl) (by simp) (joinB_four _ _ _ _ _ (by decide) (by omega) (by decide) (by decide))).mono ?_
    rintro e w5 ⟨rfl, b5⟩
    go_wp2_with fail
    go_ret2
    exact ⟨by rw [HFIN.out]; rfl, bnext (bal hS4.b _) b5⟩
   ·have hfin : joinB [kindB false, G, signB m.turn, ⟨#[110, 111, 110, 101]⟩] 32 = joinB [⟨#[114, 111, 119]⟩, G, ⟨#[45]⟩, ⟨#[110, 111, 110, 101]⟩] 32 := by
     rw [hsign]
     simp only [decide_eq_true_eq, decide_eq_false_iff_not] at ht
     simp [ht, kindB]
    have HFIN := hid hfin; have HR := hid hr
    clear hfin hr hkind hsign
    go_enter Tryz.func30, Tryz.ntmps30
    go_wp2_with fail
    refine (HC.out _ R1).mono ?_
    rintro e w1 ⟨rfl, b1⟩
    have hS1 := hS.mono b1
    have q0 := (hS1.blk 0 rfl).1
    have q1 : w1.heap[w.heap.size]? = some (.cells #[.bool false, .int .i64 m.gears, .int .i64 m.turn, .slice ad m.sw.length cap] 24) := by rw [q0]; show some (Obj.cells #[.bool m.ring, _, _, _] _) = _; rw [HR.out]
    clear q0
    go_wp2_with (with_reducible refine wpList_ldB (by first | exact F_boolM | exact F_int | exact F_sliceM) wU wU q1 wU ?_)
    refine (HI.out _).mono ?_
    rintro e w4 ⟨rfl, b4⟩
    have hS4 := hS1.mono b4
    go_wp2_with fail
    refine (joinC_any 32 _ _ [_, _, _, _] _ (reps_newN cStrS [_, _, _, _] 4 rfl (by decide) _ _ (by simp) rfl) (by simp) (joinB_four _ _ _ _ _ (by decide) (by omega) (by decide) (by decide))).mono ?_
    rintro e w5 ⟨rfl, b5⟩
    go_wp2_with fail
    go_ret2
    exact ⟨by rw [HFIN.out]; rfl, bnext (bal hS4.b _) b5⟩
   ·have hfin : joinB [kindB true, G, signB m.turn, ⟨#[110, 111, 110, 101]⟩] 32 = joinB [⟨#[114, 105, 110, 103]⟩, G, ⟨#[43]⟩, ⟨#[110, 111, 110, 101]⟩] 32 := by
     rw [hsign]
     simp only [decide_eq_true_eq, decide_eq_false_iff_not] at ht
     simp [ht, kindB]
    have HFIN := hid hfin; have HR := hid hr
    clear hfin hr hkind hsign
    go_enter Tryz.func30, Tryz.ntmps30
    go_wp2_with fail
    refine (HC.out _ R1).mono ?_
    rintro e w1 ⟨rfl, b1⟩
    have hS1 := hS.mono b1
    have q0 := (hS1.blk 0 rfl).1
    have q1 : w1.heap[w.heap.size]? = some (.cells #[.bool true, .int .i64 m.gears, .int .i64 m.turn, .slice ad m.sw.length cap] 24) := by rw [q0]; show some (Obj.cells #[.bool m.ring, _, _, _] _) = _; rw [HR.out]
    clear q0
    go_wp2_with (with_reducible refine wpList_ldB (by first | exact F_boolM | exact F_int | exact F_sliceM) wU wU q1 wU ?_)
    refine (HI.out _).mono ?_
    rintro e w4 ⟨rfl, b4⟩
    have hS4 := hS1.mono b4
    go_wp2_with fail
    refine (joinC_any 32 _ _ [_, _, _, _] _ (reps_newN cStrS [_, _, _, _] 4 rfl (by decide) _ _ (by simp) rfl) (by simp) (joinB_four _ _ _ _ _ (by decide) (by omega) (by decide) (by decide))).mono ?_
    rintro e w5 ⟨rfl, b5⟩
    go_wp2_with fail
    go_ret2
    exact ⟨by rw [HFIN.out]; rfl, bnext (bal hS4.b _) b5⟩
   ·have hfin : joinB [kindB true, G, signB m.turn, ⟨#[110, 111, 110, 101]⟩] 32 = joinB [⟨#[114, 105, 110, 103]⟩, G, ⟨#[45]⟩, ⟨#[110, 111, 110, 101]⟩] 32 := by
     rw [hsign]
     simp only [decide_eq_true_eq, decide_eq_false_iff_not] at ht
     simp [ht, kindB]
    have HFIN := hid hfin; have HR := hid hr
    clear hfin hr hkind hsign
    go_enter Tryz.func30, Tryz.ntmps30
    go_wp2_with fail
    refine (HC.out _ R1).mono ?_
    rintro e w1 ⟨rfl, b1⟩
    have hS1 := hS.mono b1
    have q0 := (hS1.blk 0 rfl).1
    have q1 : w1.heap[w.heap.size]? = some (.cells #[.bool true, .int .i64 m.gears, .int .i64 m.turn, .slice ad m.sw.length cap] 24) := by rw [q0]; show some (Obj.cells #[.bool m.ring, _, _, _] _) = _; rw [HR.out]
    clear q0
    go_wp2_with (with_reducible refine wpList_ldB (by first | exact F_boolM | exact F_int | exact F_sliceM) wU wU q1 wU ?_)
    refine (HI.out _).mono ?_
    rintro e w4 ⟨rfl, b4⟩
    have hS4 := hS1.mono b4
    go_wp2_with fail
    refine (joinC_any 32 _ _ [_, _, _, _] _ (reps_newN cStrS [_, _, _, _] 4 rfl (by decide) _ _ (by simp) rfl) (by simp) (joinB_four _ _ _ _ _ (by decide) (by omega) (by decide) (by decide))).mono ?_
    rintro e w5 ⟨rfl, b5⟩
    go_wp2_with fail
    go_ret2
    exact ⟨by rw [HFIN.out]; rfl, bnext (bal hS4.b _) b5⟩
  ·have hs : S = joinB (m.sw.map itoaB) 44 := by rw [hSe]; unfold swB; rw [if_neg h0]
   have hl : decide (0 < m.sw.length) = true := decide_eq_true (List.length_pos_iff.2 h0)
   rw [← hs] at HJ
   clear h0 hSe hs hSz
   cases hr : m.ring <;> cases ht : decide (m.turn < 0)
   ·have hfin : joinB [kindB false, G, signB m.turn, S] 32 = joinB [⟨#[114, 111, 119]⟩, G, ⟨#[43]⟩, S] 32 := by
     rw [hsign]
     simp only [decide_eq_true_eq, decide_eq_false_iff_not] at ht
     simp [ht, kindB]
    have HFIN := hid hfin; have HR := hid hr
    clear hfin hr hkind hsign
    go_enter Tryz.func30, Tryz.ntmps30
    go_wp2_with fail
    refine (HC.out _ R1).mono ?_
    rintro e w1 ⟨rfl, b1⟩
    have hS1 := hS.mono b1
    have q0 := (hS1.blk 0 rfl).1
    have q1 : w1.heap[w.heap.size]? = some (.cells #[.bool false, .int .i64 m.gears, .int .i64 m.turn, .slice ad m.sw.length cap] 24) := by rw [q0]; show some (Obj.cells #[.bool m.ring, _, _, _] _) = _; rw [HR.out]
    clear q0
    go_wp2_with (with_reducible refine wpList_ldB (by first | exact F_boolM | exact F_int | exact F_sliceM) wU wU q1 wU ?_)
    refine (HL.out _ (hR.below hS1.b)).mono ?_
    rintro e w2 ⟨v2, rfl, ho2, b2⟩
    obtain ⟨a2, c2, rfl, hr2, _⟩ := ho2.reps
    have hS2 := hS1.mono b2
    rw [HML.out]
    rw [HML.out] at ho2
    clear q1
    go_wp2_with fail
    refine (HJ.out a2 c2 _ hr2).mono ?_
    rintro e w3 ⟨rfl, b3⟩
    have hS3 := hS2.mono b3
    have q0 := (hS3.blk 0 rfl).1
    have q3 : w3.heap[w.heap.size]? = some (.cells #[.bool false, .int .i64 m.gears, .int .i64 m.turn, .slice ad m.sw.length cap] 24) := by rw [q0]; show some (Obj.cells #[.bool m.ring, _, _, _] _) = _; rw [HR.out]
    clear q0
    go_wp2_with (with_reducible refine wpList_ldB (by first | exact F_boolM | exact F_int | exact F_sliceM) wU wU q3 wU ?_)
    refine (HI.out _).mono ?_
    rintro e w4 ⟨rfl, b4⟩
    have hS4 := hS3.mono b4
    go_wp2_with fail
    refine (joinC_any 32 _ _ [_, _, _, _] _ (reps_newN cStrS [_, _, _, _] 4 rfl (by decide) _ _ (by simp) rfl) (by simp) (joinB_four _ _ _ _ _ (by decide) (by omega) (by decide) HSZ.out)).mono ?_
    rintro e w5 ⟨rfl, b5⟩
    go_wp2_with fail
    go_ret2
    exact ⟨by rw [HFIN.out]; rfl, bnext (bal hS4.b _) b5⟩
   ·have hfin : joinB [kindB false, G, signB m.turn, S] 32 = joinB [⟨#[114, 111, 119]⟩, G, ⟨#[45]⟩, S] 32 := by
     rw [hsign]
     simp only [decide_eq_true_eq, decide_eq_false_iff_not] at ht
     simp [ht, kindB]
    have HFIN := hid hfin; have HR := hid hr
    clear hfin hr hkind hsign
    go_enter Tryz.func30, Tryz.ntmps30
    go_wp2_with fail
    refine (HC.out _ R1).mono ?_
    rintro e w1 ⟨rfl, b1⟩
    have hS1 := hS.mono b1
    have q0 := (hS1.blk 0 rfl).1
    have q1 : w1.heap[w.heap.size]? = some (.cells #[.bool false, .int .i64 m.gears, .int .i64 m.turn, .slice ad m.sw.length cap] 24) := by rw [q0]; show some (Obj.cells #[.bool m.ring, _, _, _] _) = _; rw [HR.out]
    clear q0
    go_wp2_with (with_reducible refine wpList_ldB (by first | exact F_boolM | exact F_int | exact F_sliceM) wU wU q1 wU ?_)
    refine (HL.out _ (hR.below hS1.b)).mono ?_
    rintro e w2 ⟨v2, rfl, ho2, b2⟩
    obtain ⟨a2, c2, rfl, hr2, _⟩ := ho2.reps
    have hS2 := hS1.mono b2
    rw [HML.out]
    rw [HML.out] at ho2
    clear q1
    go_wp2_with fail
    refine (HJ.out a2 c2 _ hr2).mono ?_
    rintro e w3 ⟨rfl, b3⟩
    have hS3 := hS2.mono b3
    have q0 := (hS3.blk 0 rfl).1
    have q3 : w3.heap[w.heap.size]? = some (.cells #[.bool false, .int .i64 m.gears, .int .i64 m.turn, .slice ad m.sw.length cap] 24) := by rw [q0]; show some (Obj.cells #[.bool m.ring, _, _, _] _) = _; rw [HR.out]
    clear q0
    go_wp2_with (with_reducible refine wpList_ldB (by first | exact F_boolM | exact F_int | exact F_sliceM) wU wU q3 wU ?_)
    refine (HI.out _).mono ?_
    rintro e w4 ⟨rfl, b4⟩
    have hS4 := hS3.mono b4
    go_wp2_with fail
    refine (joinC_any 32 _ _ [_, _, _, _] _ (reps_newN cStrS [_, _, _, _] 4 rfl (by decide) _ _ (by simp) rfl) (by simp) (joinB_four _ _ _ _ _ (by decide) (by omega) (by decide) HSZ.out)).mono ?_
    rintro e w5 ⟨rfl, b5⟩
    go_wp2_with fail
    go_ret2
    exact ⟨by rw [HFIN.out]; rfl, bnext (bal hS4.b _) b5⟩
   ·have hfin : joinB [kindB true, G, signB m.turn, S] 32 = joinB [⟨#[114, 105, 110, 103]⟩, G, ⟨#[43]⟩, S] 32 := by
     rw [hsign]
     simp only [decide_eq_true_eq, decide_eq_false_iff_not] at ht
     simp [ht, kindB]
    have HFIN := hid hfin; have HR := hid hr
    clear hfin hr hkind hsign
    go_enter Tryz.func30, Tryz.ntmps30
    go_wp2_with fail
    refine (HC.out _ R1).mono ?_
    rintro e w1 ⟨rfl, b1⟩
    have hS1 := hS.mono b1
    have q0 := (hS1.blk 0 rfl).1
    have q1 : w1.heap[w.heap.size]? = some (.cells #[.bool true, .int .i64 m.gears, .int .i64 m.turn, .slice ad m.sw.length cap] 24) := by rw [q0]; show some (Obj.cells #[.bool m.ring, _, _, _] _) = _; rw [HR.out]
    clear q0
    go_wp2_with (with_reducible refine wpList_ldB (by first | exact F_boolM | exact F_int | exact F_sliceM) wU wU q1 wU ?_)
    refine (HL.out _ (hR.below hS1.b)).mono ?_
    rintro e w2 ⟨v2, rfl, ho2, b2⟩
    obtain ⟨a2, c2, rfl, hr2, _⟩ := ho2.reps
    have hS2 := hS1.mono b2
    rw [HML.out]
    rw [HML.out] at ho2
    clear q1
    go_wp2_with fail
    refine (HJ.out a2 c2 _ hr2).mono ?_
    rintro e w3 ⟨rfl, b3⟩
    have hS3 := hS2.mono b3
    have q0 := (hS3.blk 0 rfl).1
    have q3 : w3.heap[w.heap.size]? = some (.cells #[.bool true, .int .i64 m.gears, .int .i64 m.turn, .slice ad m.sw.length cap] 24) := by rw [q0]; show some (Obj.cells #[.bool m.ring, _, _, _] _) = _; rw [HR.out]
    clear q0
    go_wp2_with (with_reducible refine wpList_ldB (by first | exact F_boolM | exact F_int | exact F_sliceM) wU wU q3 wU ?_)
    refine (HI.out _).mono ?_
    rintro e w4 ⟨rfl, b4⟩
    have hS4 := hS3.mono b4
    go_wp2_with fail
    refine (joinC_any 32 _ _ [_, _, _, _] _ (reps_newN cStrS [_, _, _, _] 4 rfl (by decide) _ _ (by simp) rfl) (by simp) (joinB_four _ _ _ _ _ (by decide) (by omega) (by decide) HSZ.out)).mono ?_
    rintro e w5 ⟨rfl, b5⟩
    go_wp2_with fail
    go_ret2
    exact ⟨by rw [HFIN.out]; rfl, bnext (bal hS4.b _) b5⟩
   ·have hfin : joinB [kindB true, G, signB m.turn, S] 32 = joinB [⟨#[114, 105, 110, 103]⟩, G, ⟨#[45]⟩, S] 32 := by
     rw [hsign]
     simp only [decide_eq_true_eq, decide_eq_false_iff_not] at ht
     simp [ht, kindB]
    have HFIN := hid hfin; have HR := hid hr
    clear hfin hr hkind hsign
    go_enter Tryz.func30, Tryz.ntmps30
    go_wp2_with fail
    refine (HC.out _ R1).mono ?_
    rintro e w1 ⟨rfl, b1⟩
    have hS1 := hS.mono b1
    have q0 := (hS1.blk 0 rfl).1
    have q1 : w1.heap[w.heap.size]? = some (.cells #[.bool true, .int .i64 m.gears, .int .i64 m.turn, .slice ad m.sw.length cap] 24) := by rw [q0]; show some (Obj.cells #[.bool m.ring, _, _, _] _) = _; rw [HR.out]
    clear q0
    go_wp2_with (with_reducible refine wpList_ldB (by first | exact F_boolM | exact F_int | exact F_sliceM) wU wU q1 wU ?_)
    refine (HL.out _ (hR.below hS1.b)).mono ?_
    rintro e w2 ⟨v2, rfl, ho2, b2⟩
    obtain ⟨a2, c2, rfl, hr2, _⟩ := ho2.reps
    have hS2 := hS1.mono b2
    rw [HML.out]
    rw [HML.out] at ho2
    clear q1
    go_wp2_with fail
    refine (HJ.out a2 c2 _ hr2).mono ?_
    rintro e w3 ⟨rfl, b3⟩
    have hS3 := hS2.mono b3
    have q0 := (hS3.blk 0 rfl).1
    have q3 : w3.heap[w.heap.size]? = some (.cells #[.bool true, .int .i64 m.gears, .int .i64 m.turn, .slice ad m.sw.length cap] 24) := by rw [q0]; show some (Obj.cells #[.bool m.ring, _, _, _] _) = _; rw [HR.out]
    clear q0
    go_wp2_with (with_reducible refine wpList_ldB (by first | exact F_boolM | exact F_int | exact F_sliceM) wU wU q3 wU ?_)
    refine (HI.out _).mono ?_
    rintro e w4 ⟨rfl, b4⟩
    have hS4 := hS3.mono b4
    go_wp2_with fail
    refine (joinC_any 32 _ _ [_, _, _, _] _ (reps_newN cStrS [_, _, _, _] 4 rfl (by decide) _ _ (by simp) rfl) (by simp) (joinB_four _ _ _ _ _ (by decide) (by omega) (by decide) HSZ.out)).mono ?_
    rintro e w5 ⟨rfl, b5⟩
    go_wp2_with fail
    go_ret2
    exact ⟨by rw [HFIN.out]; rfl, bnext (bal hS4.b _) b5⟩
 ·obtain ⟨E, hE⟩ : ∃ E, E = macE m := ⟨_, rfl⟩
  rw [if_neg he]
  rw [← hE] at HK he ⊢
  have hne : (E != 0) = true := by simpa using he
  have HC := hid HK
  clear HK hE he hw
  go_enter Tryz.func30, Tryz.ntmps30
  go_wp2_with fail
  refine (HC.out _ R1).mono ?_
  rintro e w1 ⟨rfl, b1⟩
  have hS1 := hS.mono b1
  go_wp2_with fail
  go_ret2
  exact ⟨rfl, hS1.b⟩
end Go.Proofs.YtoebgfgihfjnnaaGreatDoor
